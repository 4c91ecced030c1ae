/- The machine's operations are Go's: matching, and the operations that call nothing. -/
import Derived.Test.YtbepkgilphbhaaaAmOpen
import Derived.Laws.Slices
namespace Go.Am
open Go

variable (N : Nm) (ly : Option Nat) (pr : Program)

/-! ### Reading computations -/

theorem RM.run_bind {α β : Type} (m : List Blk) : ∀ (x : RM α) (f : α → RM β), (x.bind f).run m = (x.run m).bind fun a => (f a).run m
  | .ret a, f => by simp [RM.bind, RM.run]
  | .rd b k, f => by simp only [RM.bind, RM.run]; exact RM.run_bind m (k m[b]?) f
  | .fail, f => by simp [RM.bind, RM.run]

theorem run_lift {α : Type} (m : List Blk) (x : Option α) : (RM.lift x).run m = x := by cases x <;> rfl

theorem run_getC (m : List Blk) (b : Nat) : (getC b).run m = match m[b]? with | some (.cells cs) => some cs | _ => none := by
  simp only [getC, RM.run]
  cases m[b]? with
  | none => rfl
  | some x => cases x <;> rfl

theorem run_getC_some {m : List Blk} {b : Nat} {cs : List V} (h : (getC b).run m = some cs) : m[b]? = some (.cells cs) := by
  rw [run_getC] at h
  split at h
  · rename_i cs' hm; cases h; exact hm
  · cases h

theorem run_atHole {m : List Blk} {b : Nat} {r s : Res} (h : (atHole b r).run m = some s) : m[b]? = some .hole ∧ s = r := by
  simp only [atHole, RM.run] at h
  cases hb : m[b]? with
  | none => rw [hb] at h; simp [RM.run] at h
  | some x => rw [hb] at h; cases x <;> simp [RM.run] at h; exact ⟨rfl, h.symm⟩

/-! ### Matching -/

def valEq : Value → Value → Bool
  | .bool a, .bool b => a == b
  | .int k a, .int k' b => k == k' && a == b
  | .string a, .string b => a.data.toList == b.data.toList
  | .nilFunc, .nilFunc => true
  | .nilIface, .nilIface => true
  | .pointer none, .pointer none => true
  | .map none, .map none => true
  | .chan none, .chan none => true
  | .float k a, .float k' b => k == k' && a == b
  | _, _ => false

theorem valEq_eq {a b : Value} (h : valEq a b = true) : a = b := by
  unfold valEq at h
  split at h <;> simp_all
  rename_i a b
  cases a; cases b; simp_all

def mOpd (x : Opd) (o : Operand) : Bool :=
  match x, o with
  | .t i, .tmp j => i == j
  | .c v, .const w => valEq v w
  | .nil _, .const (.slice none 0 0) => true
  | .f id, .func k => N.num id == k
  | _, _ => false

theorem bif_beq {α : Type} (i j : Nat) (x y : α) : (bif Nat.beq i j then x else y) = if i = j then x else y := by
  cases h : Nat.beq i j with
  | true => have := Nat.eq_of_beq_eq_true h; simp [this]
  | false => have := Nat.ne_of_beq_eq_false h; simp [this]

theorem bif_blt {α : Type} (i j : Nat) (x y : α) : (bif Nat.blt i j then x else y) = if i < j then x else y := by
  cases h : Nat.blt i j with
  | true => have : i < j := by simpa using h
            simp [this]
  | false =>
    have : ¬ i < j := fun h' => by rw [← Nat.blt_eq, h] at h'; cases h'
    simp [this]

theorem getF_putF : ∀ (l : List (Nat × V)) (d i : Nat) (x : V), getF (putF l d x) i = if d = i then x else getF l i
  | [], d, i, x => by simp only [putF, getF, bif_beq]
  | (j, y) :: r, d, i, x => by
    have ih := getF_putF r d i x
    simp only [putF, bif_blt, bif_beq]
    split
    · simp only [getF, bif_beq]
    · split
      · rename_i h; subst h
        simp only [getF, bif_beq]
        split <;> rfl
      · simp only [getF, bif_beq, ih]
        by_cases h1 : j = i
        · subst h1; simp_all
        · simp [h1]

theorem Fr.get_put (fr : Fr) (d i : Nat) (x : V) : (fr.put d x).get i = if d = i ∧ d < fr.n then x else fr.get i := by
  unfold Fr.put Fr.get
  rw [bif_blt]
  by_cases h : d < fr.n
  · simp [h, getF_putF]
  · simp [h]

theorem Fr.put_n (fr : Fr) (d : Nat) (x : V) : (fr.put d x).n = fr.n := by unfold Fr.put; cases Nat.blt d fr.n <;> rfl

def FRep (c : Cfg) (fr : Fr) (tmps : Array Value) : Prop :=
  fr.n = tmps.size ∧ ∀ i, VRep N ly c.H c.φ c.m (fr.get i) (tmps.getD i undef)

theorem FRep.ext {c c' : Cfg} {fr : Fr} {tmps : Array Value} (h : FRep N ly c fr tmps) (hE : Ext c.H c.φ c.m c'.H c'.φ c'.m) : FRep N ly c' fr tmps :=
  ⟨h.1, fun i => hE.rep N ly _ _ (h.2 i)⟩

theorem FRep.put {c : Cfg} {fr : Fr} {a : Act} (h : FRep N ly c fr a.tmps) (d : Option Nat) {x : V} {v : Value} (hx : VRep N ly c.H c.φ c.m x v) : FRep N ly c (putD fr d x) (a.put d v).tmps := by
  cases d with
  | none => exact h
  | some d =>
    simp only [putD, Act.put]
    refine ⟨by rw [Fr.put_n]; simp [h.1], fun i => ?_⟩
    rw [Fr.get_put]
    by_cases hd : d = i
    · subst hd
      by_cases hl : d < fr.n
      · rw [if_pos ⟨rfl, hl⟩]
        have : d < a.tmps.size := by rw [← h.1]; exact hl
        simpa [Array.getD_eq_getD_getElem?, Array.getElem?_setIfInBounds, this] using hx
      · rw [if_neg fun e => hl e.2]
        have hs : ¬ d < a.tmps.size := by rw [← h.1]; exact hl
        have := h.2 d
        simpa [Array.getD_eq_getD_getElem?, Array.getElem?_setIfInBounds, hs] using this
    · rw [if_neg fun e => hd e.1]
      have := h.2 i
      simpa [Array.getD_eq_getD_getElem?, Array.getElem?_setIfInBounds_ne hd] using this

theorem opd_rep {c : Cfg} {fr : Fr} {a : Act} (h : FRep N ly c fr a.tmps) {x : Opd} {o : Operand} (hm : mOpd N x o = true) : VRep N ly c.H c.φ c.m (opd fr x) (a.eval o) := by
  unfold mOpd at hm
  split at hm
  · rename_i i j
    simp at hm; subst hm
    exact h.2 i
  · rename_i v w
    have := valEq_eq hm
    subst this
    simp [opd, Act.eval, VRep, Rep]
  · simp only [opd, Act.eval, VRep]; exact ⟨none, rfl⟩
  · rename_i id k
    simp at hm; subst hm
    simp only [opd, Act.eval, VRep, Rep, Reps]; exact ⟨[], rfl, rfl⟩
  · cases hm

def mOpds : List Opd → List Operand → Bool
  | [], [] => true
  | x :: r, o :: s => mOpd N x o && mOpds r s
  | _, _ => false

theorem opds_rep {c : Cfg} {fr : Fr} {a : Act} (h : FRep N ly c fr a.tmps) : ∀ {xs : List Opd} {os : List Operand}, mOpds N xs os = true → VReps N ly c.H c.φ c.m (xs.map (opd fr)) (os.map a.eval)
  | [], [], _ => by simp [VReps]
  | x :: r, o :: s, hm => by
    simp only [mOpds, Bool.and_eq_true] at hm
    simp only [List.map_cons, VReps]
    exact ⟨_, _, rfl, opd_rep N ly h hm.1, opds_rep h hm.2⟩
  | [], _ :: _, hm => by simp [mOpds] at hm
  | _ :: _, [], hm => by simp [mOpds] at hm

/-- A type's kind: one cell (0), or a struct or an array of so many cells. -/
def kindOk (T n : Nat) : Bool :=
  match pr.underlying T, pr.info? T with
  | some (.struct _), some i => n != 0 && i.size == n
  | some (.array _ _), some i => n != 0 && i.size == n
  | some _, some i => n == 0 && i.size == 1
  | _, _ => false

theorem kindOk.run {T n : Nat} (h : kindOk pr T n = true) (w : World) : (isAgg T).run pr w = .ok (decide (n ≠ 0)) w ∧ (sizeOf T).run pr w = .ok (sz n) w := by
  unfold kindOk at h
  cases hu : pr.underlying T with
  | none => rw [hu] at h; simp at h
  | some d =>
    cases hi : pr.info? T with
    | none => rw [hu, hi] at h; cases d <;> simp at h
    | some i =>
      rw [hu, hi] at h
      constructor
      · unfold isAgg
        rw [Sem.run_bind, run_underlying hu w]
        cases d <;> simp_all
      · simp only [sizeOf, typeInfo, Sem.run_bind]
        cases d <;> simp_all [sz]

theorem kindOk.info {T n : Nat} (h : kindOk pr T n = true) : ∃ i, pr.info? T = some i ∧ i.size = sz n := by
  unfold kindOk at h
  cases hi : pr.info? T with
  | none => rw [hi] at h; cases hu : pr.underlying T with
    | none => rw [hu] at h; simp at h
    | some d => rw [hu] at h; cases d <;> simp at h
  | some i =>
    refine ⟨i, rfl, ?_⟩
    cases hu : pr.underlying T with
    | none => rw [hu, hi] at h; simp at h
    | some d => rw [hu, hi] at h; cases d <;> simp_all [sz]

theorem sz_pos (n : Nat) : 0 < sz n := by unfold sz; split <;> omega

def zcEq : Zc → Value → Bool
  | .v x, v => scalarCell x && valEq x v
  | .nil _, .slice none 0 0 => true
  | _, _ => false

def zsEq : List Zc → List Value → Bool
  | [], [] => true
  | z :: r, v :: s => zcEq z v && zsEq r s
  | _, _ => false

/-- The zero value of a type. -/
def zeroOk (T : Nat) (z : List Zc) : Bool :=
  match pr.info? T with
  | some i => match i.zero with
    | some v => zsEq z v.cells.toList
    | none => false
  | none => false

theorem zsEq.rep {H : HM} {φ : FM} {m : List Blk} : ∀ {z : List Zc} {vs : List Value}, zsEq z vs = true → VReps N ly H φ m (z.map Zc.toV) vs ∧ ∀ x ∈ z.map Zc.toV, x.isCell = true
  | [], [], _ => by simp [VReps]
  | z :: r, v :: s, h => by
    simp only [zsEq, Bool.and_eq_true] at h
    obtain ⟨k1, k2⟩ := zsEq.rep h.2
    have hz : VRep N ly H φ m z.toV v ∧ z.toV.isCell = true := by
      have h := h.1
      unfold zcEq at h
      split at h
      · simp only [Bool.and_eq_true] at h
        have := valEq_eq h.2
        subst this
        simp [Zc.toV, VRep, Rep, V.isCell, h.1]
      · simp only [Zc.toV, VRep, V.isCell]; exact ⟨⟨none, rfl⟩, trivial⟩
      · cases h
    refine ⟨by simp only [List.map_cons, VReps]; exact ⟨v, s, rfl, hz.1, k1⟩, fun x hx => ?_⟩
    simp only [List.map_cons, List.mem_cons] at hx
    rcases hx with rfl | hx
    · exact hz.2
    · exact k2 x hx
  | [], _ :: _, h => by simp [zsEq] at h
  | _ :: _, [], h => by simp [zsEq] at h

theorem zeroOk.run {T : Nat} {z : List Zc} (h : zeroOk pr T z = true) : ∃ v, (∀ w, (zeroValue T).run pr w = .ok v w) ∧ zsEq z v.cells.toList = true ∧ ∃ i, pr.info? T = some i ∧ i.zero = some v := by
  unfold zeroOk at h
  cases hi : pr.info? T with
  | none => rw [hi] at h; simp at h
  | some i =>
    rw [hi] at h
    cases hz : i.zero with
    | none => simp [hz] at h
    | some v =>
      simp only [hz] at h
      exact ⟨v, fun w => by simp [zeroValue, typeInfo, hi, hz], h, i, rfl, hz⟩

/-! ### What an operation comes to -/

/-- The run gives a value (or nothing, told as the undefined one), and the memory goes on as the machine says. -/
def OpOk (c : Cfg) (r : Res) (s : Sem Next) : Prop :=
  ∃ (v : Value) (c' : Cfg), (s.run pr c.w = .ok (.value v) c'.w ∨ (s.run pr c.w = .ok .skip c'.w ∧ v = undef)) ∧ c'.m = applyUps c.m r.ups ++ r.extra ∧
    Good N ly c' ∧ Trans c c' ∧ Ext c.H c.φ c.m c'.H c'.φ c'.m ∧ VRep N ly c'.H c'.φ c'.m r.val v

theorem OpOk.pure {c : Cfg} (hg : Good N ly c) {x : V} {v : Value} {s : Sem Next} (hs : s.run pr c.w = .ok (.value v) c.w) (hx : VRep N ly c.H c.φ c.m x v) : OpOk N ly pr c { val := x } s :=
  ⟨v, c, .inl hs, by simp [applyUps], hg, Trans.refl c, Ext.refl, hx⟩

theorem run_v {s : Sem Value} {v : Value} {w w' : World} (h : s.run pr w = .ok v w') : (do let x ← s; Pure.pure (Next.value x) : Sem Next).run pr w = .ok (.value v) w' := by
  simp [Sem.run_bind, h]

theorem run_u {s : Sem Unit} {w w' : World} (h : s.run pr w = .ok () w') : (do s; Pure.pure Next.skip : Sem Next).run pr w = .ok .skip w' := by
  simp [Sem.run_bind, h]

/-! ### Memory: reads -/

theorem cells_read {c : Cfg} (hg : Good N ly c) {b : Nat} {cs : List V} (hb : c.m[b]? = some (.cells cs)) {R s : Nat} (hφ : c.φ[b]? = some (some (R, s))) :
    ∃ arr e, c.w.heap[R]? = some (.cells arr e (0, 0)) ∧ arr.size = s ∧ cs.length ≤ s ∧ ∀ (j : Nat) (x : V), cs[j]? = some x → x.isCell = true ∧ ∃ v, arr[j]? = some v ∧ c.w.cell? ⟨R, j, none⟩ = some v ∧ VRep N ly c.H c.φ c.m x v := by
  obtain ⟨R', s', arr, e, h1, h2, h3, h4, h5, _⟩ := hg.blk b _ hb
  rw [hφ] at h1; cases h1
  refine ⟨arr, e, h2, h3, h4, fun j x hx => ?_⟩
  obtain ⟨a, v, k1, k2⟩ := h5 j x hx
  exact ⟨a, v, k1, by simp only [World.cell?, h2]; simpa using k1, k2⟩

theorem addr_add (b off j : Nat) : (⟨b, off, none⟩ : Addr).add j = ⟨b, off + j, none⟩ := by
  unfold Addr.add; split <;> simp_all

theorem run_loadVar_cells {T n b off : Nat} {w : World} (hk : kindOk pr T n = true) (vs : List Value) (hl : vs.length = sz n) (hv : ∀ j v, vs[j]? = some v → w.cell? ⟨b, off + j, none⟩ = some v) :
    (loadVar T ⟨b, off, none⟩).run pr w = .ok (if n = 0 then vs.headD undef else .agg vs.toArray) w := by
  obtain ⟨h1, h2⟩ := kindOk.run pr hk w
  by_cases hn : n = 0
  · have hsz : sz n = 1 := by simp [sz, hn]
    obtain ⟨v, rfl⟩ : ∃ v, vs = [v] := by
      match vs, hl with
      | [v], _ => exact ⟨v, rfl⟩
      | [], h => simp [hsz] at h
      | _ :: _ :: _, h => simp [hsz] at h
    have hc := hv 0 v (by simp)
    simp only [Nat.add_zero] at hc
    simp [loadVar, Sem.run_bind, h1, hn, load, Sem.run, hc]
  · have hsz : sz n = n := by simp [sz, hn]
    have hl' : (loadCells ⟨b, off, none⟩ vs.length).run pr w = .ok vs.toArray w := run_loadCells_list (P := pr) w ⟨b, off, none⟩ vs (fun j v hj => by rw [addr_add]; exact hv j v hj)
    simp only [loadVar, Sem.run_bind, h1, hn, h2, Result.andThen_ok]
    simp [hn, Sem.run_bind, h2, ← hl, hl']

theorem load_own {c : Cfg} (hg : Good N ly c) {T n b off : Nat} {cs : List V} {v : Value} (hk : kindOk pr T n = true) (hv : VRep N ly c.H c.φ c.m (.ptr b off) v) (hb : c.m[b]? = some (.cells cs))
    {x : V} (hx : (if n = 0 then cs[off]? else if off + n ≤ cs.length then some (.agg ((cs.drop off).take n)) else none) = some x) :
    ∃ u, (Instr.loadAt T v).run pr c.w = .ok u c.w ∧ VRep N ly c.H c.φ c.m x u := by
  simp only [VRep] at hv
  obtain ⟨R, s, _, hφ, rfl⟩ := hv
  obtain ⟨arr, e, h1, h2, h3, h4⟩ := cells_read N ly hg hb hφ
  by_cases hn : n = 0
  · rw [if_pos hn] at hx
    obtain ⟨_, u, _, k2, k3⟩ := h4 off x hx
    refine ⟨u, ?_, k3⟩
    have := run_loadVar_cells pr (w := c.w) (b := R) (off := off) hk [u] (by simp [sz, hn]) (fun j v hj => by
      cases j with
      | zero => simp at hj; subst hj; simpa using k2
      | succ j => simp at hj)
    simp [Instr.loadAt, Instr.sureAddr, Sem.run_bind, this, hn]
  · rw [if_neg hn] at hx
    split at hx
    · rename_i hle
      cases hx
      have hsz : sz n = n := by simp [sz, hn]
      let vs : List Value := (List.range n).map fun j => (arr[off + j]?).getD undef
      have hvs : ∀ j, j < n → ∃ x u, cs[off + j]? = some x ∧ vs[j]? = some u ∧ c.w.cell? ⟨R, off + j, none⟩ = some u ∧ VRep N ly c.H c.φ c.m x u := fun j hj => by
        have hx : cs[off + j]? = some cs[off + j] := List.getElem?_eq_getElem (by omega)
        obtain ⟨_, u, k1, k2, k3⟩ := h4 (off + j) _ hx
        exact ⟨_, u, hx, by simp [vs, hj, k1], k2, k3⟩
      have hlen : vs.length = n := by simp [vs]
      refine ⟨.agg vs.toArray, ?_, ?_⟩
      · have := run_loadVar_cells pr (w := c.w) (b := R) (off := off) hk vs (by rw [hlen, hsz]) (fun j v hj => by
          have hjn : j < n := by rw [← hlen]; exact (List.getElem?_eq_some_iff.1 hj).1
          obtain ⟨x, u, _, k2, k3, _⟩ := hvs j hjn
          rw [k2] at hj; cases hj; exact k3)
        simp [Instr.loadAt, Instr.sureAddr, Sem.run_bind, this, hn]
      · simp only [VRep]
        refine ⟨vs, rfl, VReps.of N ly (by simp [hlen]; omega) fun j p u hp hu => ?_⟩
        have hjn : j < n := by rw [← hlen]; exact (List.getElem?_eq_some_iff.1 hu).1
        obtain ⟨x, u', k1, k2, _, k4⟩ := hvs j hjn
        rw [k2] at hu; cases hu
        rw [List.getElem?_take_of_lt hjn, List.getElem?_drop, k1] at hp
        cases hp; exact k4
    · cases hx

theorem load_data {c : Cfg} (hg : Good N ly c) {T n : Nat} {ps : List P} {v : Value} (hk : kindOk pr T n = true) (hv : Rep N c.H (.ptr ps) v)
    {x : V} (hx : (if n = 0 then ps.head?.map V.p else if n ≤ ps.length then some (.p (.agg (ps.take n))) else none) = some x) :
    ∃ u, (Instr.loadAt T v).run pr c.w = .ok u c.w ∧ VRep N ly c.H c.φ c.m x u := by
  simp only [Rep] at hv
  obtain ⟨b, off, rfl, hc⟩ := hv
  have hget : ∀ (j : Nat) (p : P), ps[j]? = some p → ∃ u, c.w.cell? ⟨b, off + j, none⟩ = some u ∧ Rep N c.H p u := fun j p hp => by
    obtain ⟨u, h1, h2⟩ := RepCs.get N hc j p hp
    exact ⟨u, (hg.frz _ _ _ h1).1, h2⟩
  by_cases hn : n = 0
  · rw [if_pos hn] at hx
    cases ps with
    | nil => simp at hx
    | cons p r =>
      simp at hx; subst hx
      obtain ⟨u, h1, h2⟩ := hget 0 p (by simp)
      refine ⟨u, ?_, by simpa only [VRep] using h2⟩
      have := run_loadVar_cells pr (w := c.w) (b := b) (off := off) hk [u] (by simp [sz, hn]) (fun j v hj => by
        cases j with
        | zero => simp at hj; subst hj; simpa using h1
        | succ j => simp at hj)
      simp [Instr.loadAt, Instr.sureAddr, Sem.run_bind, this, hn]
  · rw [if_neg hn] at hx
    split at hx
    · rename_i hle
      cases hx
      have hsz : sz n = n := by simp [sz, hn]
      let vs : List Value := (List.range n).map fun j => (c.w.cell? ⟨b, off + j, none⟩).getD undef
      have hvs : ∀ j, j < n → ∃ p u, ps[j]? = some p ∧ vs[j]? = some u ∧ c.w.cell? ⟨b, off + j, none⟩ = some u ∧ Rep N c.H p u := fun j hj => by
        have hx : ps[j]? = some ps[j] := List.getElem?_eq_getElem (by omega)
        obtain ⟨u, k1, k2⟩ := hget j _ hx
        exact ⟨_, u, hx, by simp [vs, hj, k1], k1, k2⟩
      have hlen : vs.length = n := by simp [vs]
      refine ⟨.agg vs.toArray, ?_, ?_⟩
      · have := run_loadVar_cells pr (w := c.w) (b := b) (off := off) hk vs (by rw [hlen, hsz]) (fun j v hj => by
          have hjn : j < n := by rw [← hlen]; exact (List.getElem?_eq_some_iff.1 hj).1
          obtain ⟨x, u, _, k2, k3, _⟩ := hvs j hjn
          rw [k2] at hj; cases hj; exact k3)
        simp [Instr.loadAt, Instr.sureAddr, Sem.run_bind, this, hn]
      · simp only [VRep, Rep]
        refine ⟨vs, rfl, Reps.of N (by simp [hlen]; omega) fun j p u hp hu => ?_⟩
        have hjn : j < n := by rw [← hlen]; exact (List.getElem?_eq_some_iff.1 hu).1
        obtain ⟨x, u', k1, k2, _, k4⟩ := hvs j hjn
        rw [k2] at hu; cases hu
        rw [List.getElem?_take_of_lt hjn, k1] at hp
        cases hp; exact k4
    · cases hx

/-! ### The cells of a value -/

theorem cells_rep {c : Cfg} {x : V} {v : Value} {cs : List V} (hx : x.cells? = some cs) (hv : VRep N ly c.H c.φ c.m x v) : VReps N ly c.H c.φ c.m cs v.cells.toList ∧ ∀ y ∈ cs, y.isCell = true := by
  have one : ∀ {x : V} {v : Value}, x.isCell = true → VRep N ly c.H c.φ c.m x v → VReps N ly c.H c.φ c.m [x] v.cells.toList ∧ ∀ y ∈ [x], y.isCell = true := fun {x v} h k => by
    have h1 := cell_oneCell N ly h k
    have : v.cells = #[v] := cells_one (oneCell_not_agg h1)
    rw [this]
    refine ⟨by simp only [VReps]; exact ⟨v, [], rfl, k, rfl⟩, fun y hy => ?_⟩
    simp at hy; subst hy; exact h
  unfold V.cells? at hx
  split at hx
  · rename_i cs'
    split at hx
    · rename_i hall
      cases hx
      simp only [VRep] at hv
      obtain ⟨vs, rfl, hr⟩ := hv
      exact ⟨by simpa [cells_agg] using hr, fun y hy => by simpa using (List.all_eq_true.1 hall) y hy⟩
    · cases hx
  · rename_i ps
    split at hx
    · rename_i hall
      cases hx
      simp only [VRep, Rep] at hv
      obtain ⟨vs, rfl, hr⟩ := hv
      refine ⟨?_, fun y hy => by simpa using (List.all_eq_true.1 hall) y hy⟩
      rw [cells_agg]
      have hl := Reps.length N hr
      refine VReps.of N ly (by simp [hl]) fun j p u hp hu => ?_
      simp only [List.getElem?_map, Option.map_eq_some_iff] at hp
      obtain ⟨q, hq, rfl⟩ := hp
      obtain ⟨u', k1, k2⟩ := Reps.get N hr j q hq
      rw [show vs.toArray.toList = vs from rfl] at hu
      rw [k1] at hu; cases hu
      simpa only [VRep] using k2
    · cases hx
  · split at hx
    · rename_i hc
      cases hx
      exact one hc hv
    · cases hx

theorem VReps.setRange {c : Cfg} {cs vs : List V} {us ws : List Value} {off : Nat} (h : VReps N ly c.H c.φ c.m cs us) (k : VReps N ly c.H c.φ c.m vs ws) (hl : off + vs.length ≤ cs.length) :
    VReps N ly c.H c.φ c.m (setRange cs off vs) (us.take off ++ ws ++ us.drop (off + ws.length)) := by
  have e1 := VReps.length N ly h
  have e2 := VReps.length N ly k
  refine VReps.of N ly (by simp [Am.setRange]; omega) fun j p u hp hu => ?_
  unfold Am.setRange at hp
  by_cases h1 : j < off
  · rw [List.append_assoc, List.getElem?_append_left (by simp; omega), List.getElem?_take_of_lt h1] at hp
    rw [List.append_assoc, List.getElem?_append_left (by simp; omega), List.getElem?_take_of_lt h1] at hu
    obtain ⟨u', q1, q2⟩ := VReps.get N ly h j p hp
    rw [q1] at hu; cases hu; exact q2
  · by_cases h2 : j < off + vs.length
    · rw [List.append_assoc, List.getElem?_append_right (by simp; omega), List.getElem?_append_left (by simp; omega)] at hp
      rw [List.append_assoc, List.getElem?_append_right (by simp; omega), List.getElem?_append_left (by simp; omega)] at hu
      have e3 : (cs.take off).length = (us.take off).length := by simp; omega
      rw [e3] at hp
      obtain ⟨u', q1, q2⟩ := VReps.get N ly k _ p hp
      rw [q1] at hu; cases hu; exact q2
    · rw [List.getElem?_append_right (by simp; omega), List.getElem?_drop] at hp
      rw [List.getElem?_append_right (by simp; omega), List.getElem?_drop] at hu
      have e3 : off + vs.length + (j - (cs.take off ++ vs).length) = off + ws.length + (j - (us.take off ++ ws).length) := by simp; omega
      rw [e3] at hp
      obtain ⟨u', q1, q2⟩ := VReps.get N ly h _ p hp
      rw [q1] at hu; cases hu; exact q2

end Go.Am
