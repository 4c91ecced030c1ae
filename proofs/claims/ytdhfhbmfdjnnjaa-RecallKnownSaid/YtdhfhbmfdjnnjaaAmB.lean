/- The machine's operations are Go's: matching, and the operations that call nothing. -/
import Derived.Test.YtdhfhbmfdjnnjaaAmA
import Derived.Laws.Slices
import Derived.Laws.Tables
import Derived.Great.BuildSlice
import Derived.Laws.StructEq
namespace Go.Am
open Go

variable (N : Nm) (ly : Option Nat) (pr : Program)

/-! ### Reading computations -/

theorem RM.run_bind {α β : Type} (m : List Blk) : ∀ (x : RM α) (f : α → RM β), (x.bind f).run m = (x.run m).bind fun a => (f a).run m
  | .ret a, f => by simp [RM.bind, RM.run]
  | .rd b k, f => by simp only [RM.bind, RM.run]; exact RM.run_bind m (k m[b]?) f
  | .fail, f => by simp [RM.bind, RM.run]

theorem run_lift {α : Type} (m : List Blk) (x : Option α) : (RM.lift x).run m = x := by cases x <;> rfl

theorem run_getC (m : List Blk) (b : Nat) : (getC b).run m = match m[b]? with | some (.cells cs) => some cs | _ => none := by
  simp only [getC, RM.run]
  cases m[b]? with
  | none => rfl
  | some x => cases x <;> rfl

theorem run_getC_some {m : List Blk} {b : Nat} {cs : List V} (h : (getC b).run m = some cs) : m[b]? = some (.cells cs) := by
  rw [run_getC] at h
  split at h
  · rename_i cs' hm; cases h; exact hm
  · cases h

theorem run_atHole {m : List Blk} {b : Nat} {r s : Res} (h : (atHole b r).run m = some s) : m[b]? = some .hole ∧ s = r := by
  simp only [atHole, RM.run] at h
  cases hb : m[b]? with
  | none => rw [hb] at h; simp [RM.run] at h
  | some x => rw [hb] at h; cases x <;> simp [RM.run] at h; exact ⟨rfl, h.symm⟩

/-! ### Matching -/

def valEq : Value → Value → Bool
  | .bool a, .bool b => a == b
  | .int k a, .int k' b => k == k' && a == b
  | .string a, .string b => a.data.toList == b.data.toList
  | .nilFunc, .nilFunc => true
  | .nilIface, .nilIface => true
  | .pointer none, .pointer none => true
  | .map none, .map none => true
  | .chan none, .chan none => true
  | .float k a, .float k' b => k == k' && a == b
  | _, _ => false

theorem valEq_eq {a b : Value} (h : valEq a b = true) : a = b := by
  unfold valEq at h
  split at h <;> simp_all
  rename_i a b
  cases a; cases b; simp_all

def mOpd (x : Opd) (o : Operand) : Bool :=
  match x, o with
  | .t i, .tmp j => i == j
  | .c v, .const w => valEq v w
  | .nil _, .const (.slice none 0 0) => true
  | .f id, .func k => Nat.blt id 3000000000 && N.num id == k
  | _, _ => false

theorem bif_beq {α : Type} (i j : Nat) (x y : α) : (bif Nat.beq i j then x else y) = if i = j then x else y := by
  cases h : Nat.beq i j with
  | true => have := Nat.eq_of_beq_eq_true h; simp [this]
  | false => have := Nat.ne_of_beq_eq_false h; simp [this]

theorem bif_blt {α : Type} (i j : Nat) (x y : α) : (bif Nat.blt i j then x else y) = if i < j then x else y := by
  cases h : Nat.blt i j with
  | true => have : i < j := by simpa using h
            simp [this]
  | false =>
    have : ¬ i < j := fun h' => by rw [← Nat.blt_eq, h] at h'; cases h'
    simp [this]

theorem getF_putF : ∀ (l : List (Nat × V)) (d i : Nat) (x : V), getF (putF l d x) i = if d = i then x else getF l i
  | [], d, i, x => by simp only [putF, getF, bif_beq]
  | (j, y) :: r, d, i, x => by
    have ih := getF_putF r d i x
    simp only [putF, bif_blt, bif_beq]
    split
    · simp only [getF, bif_beq]
    · split
      · rename_i h; subst h
        simp only [getF, bif_beq]
        split <;> rfl
      · simp only [getF, bif_beq, ih]
        by_cases h1 : j = i
        · subst h1; simp_all
        · simp [h1]

theorem Fr.get_put (fr : Fr) (d i : Nat) (x : V) : (fr.put d x).get i = if d = i ∧ d < fr.n then x else fr.get i := by
  unfold Fr.put Fr.get
  rw [bif_blt]
  by_cases h : d < fr.n
  · simp [h, getF_putF]
  · simp [h]

theorem Fr.put_n (fr : Fr) (d : Nat) (x : V) : (fr.put d x).n = fr.n := by unfold Fr.put; cases Nat.blt d fr.n <;> rfl

def FRep (c : Cfg) (fr : Fr) (tmps : Array Value) : Prop :=
  fr.n = tmps.size ∧ ∀ i, VRep N ly c.H c.φ c.m (fr.get i) (tmps.getD i undef)

theorem FRep.ext {c c' : Cfg} {fr : Fr} {tmps : Array Value} (h : FRep N ly c fr tmps) (hE : Ext c.H c.φ c.m c'.H c'.φ c'.m) : FRep N ly c' fr tmps :=
  ⟨h.1, fun i => hE.rep N ly _ _ (h.2 i)⟩

theorem FRep.put {c : Cfg} {fr : Fr} {a : Act} (h : FRep N ly c fr a.tmps) (d : Option Nat) {x : V} {v : Value} (hx : VRep N ly c.H c.φ c.m x v) : FRep N ly c (putD fr d x) (a.put d v).tmps := by
  cases d with
  | none => exact h
  | some d =>
    simp only [putD, Act.put]
    refine ⟨by rw [Fr.put_n]; simp [h.1], fun i => ?_⟩
    rw [Fr.get_put]
    by_cases hd : d = i
    · subst hd
      by_cases hl : d < fr.n
      · rw [if_pos ⟨rfl, hl⟩]
        have : d < a.tmps.size := by rw [← h.1]; exact hl
        simpa [Array.getD_eq_getD_getElem?, Array.getElem?_setIfInBounds, this] using hx
      · rw [if_neg fun e => hl e.2]
        have hs : ¬ d < a.tmps.size := by rw [← h.1]; exact hl
        have := h.2 d
        simpa [Array.getD_eq_getD_getElem?, Array.getElem?_setIfInBounds, hs] using this
    · rw [if_neg fun e => hd e.1]
      have := h.2 i
      simpa [Array.getD_eq_getD_getElem?, Array.getElem?_setIfInBounds_ne hd] using this

theorem opd_rep {c : Cfg} {fr : Fr} {a : Act} (h : FRep N ly c fr a.tmps) {x : Opd} {o : Operand} (hm : mOpd N x o = true) : VRep N ly c.H c.φ c.m (opd fr x) (a.eval o) := by
  unfold mOpd at hm
  split at hm
  · rename_i i j
    simp at hm; subst hm
    exact h.2 i
  · rename_i v w
    have := valEq_eq hm
    subst this
    simp [opd, Act.eval, VRep, Rep]
  · simp only [opd, Act.eval, VRep]; exact ⟨none, rfl⟩
  · rename_i id k
    simp only [Bool.and_eq_true, beq_iff_eq] at hm
    obtain ⟨h1, rfl⟩ := hm
    simp only [opd, Act.eval, VRep, Rep, Reps]; exact ⟨[], by rw [N.fv_lt h1], rfl⟩
  · cases hm

def mOpds : List Opd → List Operand → Bool
  | [], [] => true
  | x :: r, o :: s => mOpd N x o && mOpds r s
  | _, _ => false

theorem opds_rep {c : Cfg} {fr : Fr} {a : Act} (h : FRep N ly c fr a.tmps) : ∀ {xs : List Opd} {os : List Operand}, mOpds N xs os = true → VReps N ly c.H c.φ c.m (xs.map (opd fr)) (os.map a.eval)
  | [], [], _ => by simp [VReps]
  | x :: r, o :: s, hm => by
    simp only [mOpds, Bool.and_eq_true] at hm
    simp only [List.map_cons, VReps]
    exact ⟨_, _, rfl, opd_rep N ly h hm.1, opds_rep h hm.2⟩
  | [], _ :: _, hm => by simp [mOpds] at hm
  | _ :: _, [], hm => by simp [mOpds] at hm

/-- A type's kind: one cell (0), or a struct or an array of so many cells. -/
def kindOk (T n : Nat) : Bool :=
  match pr.underlying T, pr.info? T with
  | some (.struct _), some i => n != 0 && i.size == n
  | some (.array _ _), some i => n != 0 && i.size == n
  | some _, some i => n == 0 && i.size == 1
  | _, _ => false

theorem kindOk.run {T n : Nat} (h : kindOk pr T n = true) (w : World) : (isAgg T).run pr w = .ok (decide (n ≠ 0)) w ∧ (sizeOf T).run pr w = .ok (sz n) w := by
  unfold kindOk at h
  cases hu : pr.underlying T with
  | none => rw [hu] at h; simp at h
  | some d =>
    cases hi : pr.info? T with
    | none => rw [hu, hi] at h; cases d <;> simp at h
    | some i =>
      rw [hu, hi] at h
      constructor
      · unfold isAgg
        rw [Sem.run_bind, run_underlying hu w]
        cases d <;> simp_all
      · simp only [sizeOf, typeInfo, Sem.run_bind]
        cases d <;> simp_all [sz]

theorem kindOk.info {T n : Nat} (h : kindOk pr T n = true) : ∃ i, pr.info? T = some i ∧ i.size = sz n := by
  unfold kindOk at h
  cases hi : pr.info? T with
  | none => rw [hi] at h; cases hu : pr.underlying T with
    | none => rw [hu] at h; simp at h
    | some d => rw [hu] at h; cases d <;> simp at h
  | some i =>
    refine ⟨i, rfl, ?_⟩
    cases hu : pr.underlying T with
    | none => rw [hu, hi] at h; simp at h
    | some d => rw [hu, hi] at h; cases d <;> simp_all [sz]

theorem sz_pos (n : Nat) : 0 < sz n := by unfold sz; split <;> omega

def zcEq : Zc → Value → Bool
  | .v x, v => scalarCell x && valEq x v
  | .nil _, .slice none 0 0 => true
  | _, _ => false

def zsEq : List Zc → List Value → Bool
  | [], [] => true
  | z :: r, v :: s => zcEq z v && zsEq r s
  | _, _ => false

/-- The zero value of a type. -/
def zeroOk (T : Nat) (z : List Zc) : Bool :=
  match pr.info? T with
  | some i => match i.zero with
    | some v => zsEq z v.cells.toList
    | none => false
  | none => false

theorem zsEq.rep {H : HM} {φ : FM} {m : List Blk} : ∀ {z : List Zc} {vs : List Value}, zsEq z vs = true → VReps N ly H φ m (z.map Zc.toV) vs ∧ ∀ x ∈ z.map Zc.toV, x.isCell = true
  | [], [], _ => by simp [VReps]
  | z :: r, v :: s, h => by
    simp only [zsEq, Bool.and_eq_true] at h
    obtain ⟨k1, k2⟩ := zsEq.rep h.2
    have hz : VRep N ly H φ m z.toV v ∧ z.toV.isCell = true := by
      have h := h.1
      unfold zcEq at h
      split at h
      · simp only [Bool.and_eq_true] at h
        have := valEq_eq h.2
        subst this
        simp [Zc.toV, VRep, Rep, V.isCell, h.1]
      · simp only [Zc.toV, VRep, V.isCell]; exact ⟨⟨none, rfl⟩, trivial⟩
      · cases h
    refine ⟨by simp only [List.map_cons, VReps]; exact ⟨v, s, rfl, hz.1, k1⟩, fun x hx => ?_⟩
    simp only [List.map_cons, List.mem_cons] at hx
    rcases hx with rfl | hx
    · exact hz.2
    · exact k2 x hx
  | [], _ :: _, h => by simp [zsEq] at h
  | _ :: _, [], h => by simp [zsEq] at h

theorem zeroOk.run {T : Nat} {z : List Zc} (h : zeroOk pr T z = true) : ∃ v, (∀ w, (zeroValue T).run pr w = .ok v w) ∧ zsEq z v.cells.toList = true ∧ ∃ i, pr.info? T = some i ∧ i.zero = some v := by
  unfold zeroOk at h
  cases hi : pr.info? T with
  | none => rw [hi] at h; simp at h
  | some i =>
    rw [hi] at h
    cases hz : i.zero with
    | none => simp [hz] at h
    | some v =>
      simp only [hz] at h
      exact ⟨v, fun w => by simp [zeroValue, typeInfo, hi, hz], h, i, rfl, hz⟩

/-! ### What an operation comes to -/

/-- The run gives a value (or nothing, told as the undefined one), and the memory goes on as the machine says. -/
def OpOk (c : Cfg) (r : Res) (s : Sem Next) : Prop :=
  ∃ (v : Value) (c' : Cfg), (s.run pr c.w = .ok (.value v) c'.w ∨ (s.run pr c.w = .ok .skip c'.w ∧ v = undef)) ∧ c'.m = applyUps c.m r.ups ++ r.extra ∧
    Good N ly c' ∧ Trans c c' ∧ Ext c.H c.φ c.m c'.H c'.φ c'.m ∧ VRep N ly c'.H c'.φ c'.m r.val v

theorem OpOk.pure {c : Cfg} (hg : Good N ly c) {x : V} {v : Value} {s : Sem Next} (hs : s.run pr c.w = .ok (.value v) c.w) (hx : VRep N ly c.H c.φ c.m x v) : OpOk N ly pr c { val := x } s :=
  ⟨v, c, .inl hs, by simp [applyUps], hg, Trans.refl c, Ext.refl, hx⟩

theorem run_v {s : Sem Value} {v : Value} {w w' : World} (h : s.run pr w = .ok v w') : (do let x ← s; Pure.pure (Next.value x) : Sem Next).run pr w = .ok (.value v) w' := by
  simp [Sem.run_bind, h]

theorem run_u {s : Sem Unit} {w w' : World} (h : s.run pr w = .ok () w') : (do s; Pure.pure Next.skip : Sem Next).run pr w = .ok .skip w' := by
  simp [Sem.run_bind, h]

/-! ### Memory: reads -/

theorem cells_read {c : Cfg} (hg : Good N ly c) {b : Nat} {cs : List V} (hb : c.m[b]? = some (.cells cs)) {R s : Nat} (hφ : c.φ[b]? = some (some (R, s))) :
    ∃ arr e, c.w.heap[R]? = some (.cells arr e (0, 0)) ∧ arr.size = s ∧ cs.length ≤ s ∧ ∀ (j : Nat) (x : V), cs[j]? = some x → x.isCell = true ∧ ∃ v, arr[j]? = some v ∧ c.w.cell? ⟨R, j, none⟩ = some v ∧ VRep N ly c.H c.φ c.m x v := by
  obtain ⟨R', s', arr, e, h1, h2, h3, h4, h5, _⟩ := hg.blk b _ hb
  rw [hφ] at h1; cases h1
  refine ⟨arr, e, h2, h3, h4, fun j x hx => ?_⟩
  obtain ⟨a, v, k1, k2⟩ := h5 j x hx
  exact ⟨a, v, k1, by simp only [World.cell?, h2]; simpa using k1, k2⟩

theorem addr_add (b off j : Nat) : (⟨b, off, none⟩ : Addr).add j = ⟨b, off + j, none⟩ := by
  unfold Addr.add; split <;> simp_all

theorem run_loadVar_cells {T n b off : Nat} {w : World} (hk : kindOk pr T n = true) (vs : List Value) (hl : vs.length = sz n) (hv : ∀ j v, vs[j]? = some v → w.cell? ⟨b, off + j, none⟩ = some v) :
    (loadVar T ⟨b, off, none⟩).run pr w = .ok (if n = 0 then vs.headD undef else .agg vs.toArray) w := by
  obtain ⟨h1, h2⟩ := kindOk.run pr hk w
  by_cases hn : n = 0
  · have hsz : sz n = 1 := by simp [sz, hn]
    obtain ⟨v, rfl⟩ : ∃ v, vs = [v] := by
      match vs, hl with
      | [v], _ => exact ⟨v, rfl⟩
      | [], h => simp [hsz] at h
      | _ :: _ :: _, h => simp [hsz] at h
    have hc := hv 0 v (by simp)
    simp only [Nat.add_zero] at hc
    simp [loadVar, Sem.run_bind, h1, hn, load, Sem.run, hc]
  · have hsz : sz n = n := by simp [sz, hn]
    have hl' : (loadCells ⟨b, off, none⟩ vs.length).run pr w = .ok vs.toArray w := run_loadCells_list (P := pr) w ⟨b, off, none⟩ vs (fun j v hj => by rw [addr_add]; exact hv j v hj)
    simp only [loadVar, Sem.run_bind, h1, hn, h2, Result.andThen_ok]
    simp [hn, Sem.run_bind, h2, ← hl, hl']

theorem load_own {c : Cfg} (hg : Good N ly c) {T n b off : Nat} {cs : List V} {v : Value} (hk : kindOk pr T n = true) (hv : VRep N ly c.H c.φ c.m (.ptr b off) v) (hb : c.m[b]? = some (.cells cs))
    {x : V} (hx : (if n = 0 then cs[off]? else if off + n ≤ cs.length then some (.agg ((cs.drop off).take n)) else none) = some x) :
    ∃ u, (Instr.loadAt T v).run pr c.w = .ok u c.w ∧ VRep N ly c.H c.φ c.m x u := by
  simp only [VRep] at hv
  obtain ⟨R, s, _, hφ, rfl⟩ := hv
  obtain ⟨arr, e, h1, h2, h3, h4⟩ := cells_read N ly hg hb hφ
  by_cases hn : n = 0
  · rw [if_pos hn] at hx
    obtain ⟨_, u, _, k2, k3⟩ := h4 off x hx
    refine ⟨u, ?_, k3⟩
    have := run_loadVar_cells pr (w := c.w) (b := R) (off := off) hk [u] (by simp [sz, hn]) (fun j v hj => by
      cases j with
      | zero => simp at hj; subst hj; simpa using k2
      | succ j => simp at hj)
    simp [Instr.loadAt, Instr.sureAddr, Sem.run_bind, this, hn]
  · rw [if_neg hn] at hx
    split at hx
    · rename_i hle
      cases hx
      have hsz : sz n = n := by simp [sz, hn]
      let vs : List Value := (List.range n).map fun j => (arr[off + j]?).getD undef
      have hvs : ∀ j, j < n → ∃ x u, cs[off + j]? = some x ∧ vs[j]? = some u ∧ c.w.cell? ⟨R, off + j, none⟩ = some u ∧ VRep N ly c.H c.φ c.m x u := fun j hj => by
        have hx : cs[off + j]? = some cs[off + j] := List.getElem?_eq_getElem (by omega)
        obtain ⟨_, u, k1, k2, k3⟩ := h4 (off + j) _ hx
        exact ⟨_, u, hx, by simp [vs, hj, k1], k2, k3⟩
      have hlen : vs.length = n := by simp [vs]
      refine ⟨.agg vs.toArray, ?_, ?_⟩
      · have := run_loadVar_cells pr (w := c.w) (b := R) (off := off) hk vs (by rw [hlen, hsz]) (fun j v hj => by
          have hjn : j < n := by rw [← hlen]; exact (List.getElem?_eq_some_iff.1 hj).1
          obtain ⟨x, u, _, k2, k3, _⟩ := hvs j hjn
          rw [k2] at hj; cases hj; exact k3)
        simp [Instr.loadAt, Instr.sureAddr, Sem.run_bind, this, hn]
      · simp only [VRep]
        refine ⟨vs, rfl, VReps.of N ly (by simp [hlen]; omega) fun j p u hp hu => ?_⟩
        have hjn : j < n := by rw [← hlen]; exact (List.getElem?_eq_some_iff.1 hu).1
        obtain ⟨x, u', k1, k2, _, k4⟩ := hvs j hjn
        rw [k2] at hu; cases hu
        rw [List.getElem?_take_of_lt hjn, List.getElem?_drop, k1] at hp
        cases hp; exact k4
    · cases hx

theorem load_data {c : Cfg} (hg : Good N ly c) {T n : Nat} {ps : List P} {v : Value} (hk : kindOk pr T n = true) (hv : Rep N c.H (.ptr ps) v)
    {x : V} (hx : (if n = 0 then ps.head?.map V.p else if n ≤ ps.length then some (.p (.agg (ps.take n))) else none) = some x) :
    ∃ u, (Instr.loadAt T v).run pr c.w = .ok u c.w ∧ VRep N ly c.H c.φ c.m x u := by
  simp only [Rep] at hv
  obtain ⟨b, off, rfl, hc⟩ := hv
  have hget : ∀ (j : Nat) (p : P), ps[j]? = some p → ∃ u, c.w.cell? ⟨b, off + j, none⟩ = some u ∧ Rep N c.H p u := fun j p hp => by
    obtain ⟨u, h1, h2⟩ := RepCs.get N hc j p hp
    exact ⟨u, (hg.frz _ _ _ h1).1, h2⟩
  by_cases hn : n = 0
  · rw [if_pos hn] at hx
    cases ps with
    | nil => simp at hx
    | cons p r =>
      simp at hx; subst hx
      obtain ⟨u, h1, h2⟩ := hget 0 p (by simp)
      refine ⟨u, ?_, by simpa only [VRep] using h2⟩
      have := run_loadVar_cells pr (w := c.w) (b := b) (off := off) hk [u] (by simp [sz, hn]) (fun j v hj => by
        cases j with
        | zero => simp at hj; subst hj; simpa using h1
        | succ j => simp at hj)
      simp [Instr.loadAt, Instr.sureAddr, Sem.run_bind, this, hn]
  · rw [if_neg hn] at hx
    split at hx
    · rename_i hle
      cases hx
      have hsz : sz n = n := by simp [sz, hn]
      let vs : List Value := (List.range n).map fun j => (c.w.cell? ⟨b, off + j, none⟩).getD undef
      have hvs : ∀ j, j < n → ∃ p u, ps[j]? = some p ∧ vs[j]? = some u ∧ c.w.cell? ⟨b, off + j, none⟩ = some u ∧ Rep N c.H p u := fun j hj => by
        have hx : ps[j]? = some ps[j] := List.getElem?_eq_getElem (by omega)
        obtain ⟨u, k1, k2⟩ := hget j _ hx
        exact ⟨_, u, hx, by simp [vs, hj, k1], k1, k2⟩
      have hlen : vs.length = n := by simp [vs]
      refine ⟨.agg vs.toArray, ?_, ?_⟩
      · have := run_loadVar_cells pr (w := c.w) (b := b) (off := off) hk vs (by rw [hlen, hsz]) (fun j v hj => by
          have hjn : j < n := by rw [← hlen]; exact (List.getElem?_eq_some_iff.1 hj).1
          obtain ⟨x, u, _, k2, k3, _⟩ := hvs j hjn
          rw [k2] at hj; cases hj; exact k3)
        simp [Instr.loadAt, Instr.sureAddr, Sem.run_bind, this, hn]
      · simp only [VRep, Rep]
        refine ⟨vs, rfl, Reps.of N (by simp [hlen]; omega) fun j p u hp hu => ?_⟩
        have hjn : j < n := by rw [← hlen]; exact (List.getElem?_eq_some_iff.1 hu).1
        obtain ⟨x, u', k1, k2, _, k4⟩ := hvs j hjn
        rw [k2] at hu; cases hu
        rw [List.getElem?_take_of_lt hjn, k1] at hp
        cases hp; exact k4
    · cases hx

/-! ### The cells of a value -/

theorem cells_rep {c : Cfg} {x : V} {v : Value} {cs : List V} (hx : x.cells? = some cs) (hv : VRep N ly c.H c.φ c.m x v) : VReps N ly c.H c.φ c.m cs v.cells.toList ∧ ∀ y ∈ cs, y.isCell = true := by
  have one : ∀ {x : V} {v : Value}, x.isCell = true → VRep N ly c.H c.φ c.m x v → VReps N ly c.H c.φ c.m [x] v.cells.toList ∧ ∀ y ∈ [x], y.isCell = true := fun {x v} h k => by
    have h1 := cell_oneCell N ly h k
    have : v.cells = #[v] := cells_one (oneCell_not_agg h1)
    rw [this]
    refine ⟨by simp only [VReps]; exact ⟨v, [], rfl, k, rfl⟩, fun y hy => ?_⟩
    simp at hy; subst hy; exact h
  unfold V.cells? at hx
  split at hx
  · rename_i cs'
    split at hx
    · rename_i hall
      cases hx
      simp only [VRep] at hv
      obtain ⟨vs, rfl, hr⟩ := hv
      exact ⟨by simpa [cells_agg] using hr, fun y hy => by simpa using (List.all_eq_true.1 hall) y hy⟩
    · cases hx
  · rename_i ps
    split at hx
    · rename_i hall
      cases hx
      simp only [VRep, Rep] at hv
      obtain ⟨vs, rfl, hr⟩ := hv
      refine ⟨?_, fun y hy => by simpa using (List.all_eq_true.1 hall) y hy⟩
      rw [cells_agg]
      have hl := Reps.length N hr
      refine VReps.of N ly (by simp [hl]) fun j p u hp hu => ?_
      simp only [List.getElem?_map, Option.map_eq_some_iff] at hp
      obtain ⟨q, hq, rfl⟩ := hp
      obtain ⟨u', k1, k2⟩ := Reps.get N hr j q hq
      rw [show vs.toArray.toList = vs from rfl] at hu
      rw [k1] at hu; cases hu
      simpa only [VRep] using k2
    · cases hx
  · split at hx
    · rename_i hc
      cases hx
      exact one hc hv
    · cases hx

theorem VReps.setRange {c : Cfg} {cs vs : List V} {us ws : List Value} {off : Nat} (h : VReps N ly c.H c.φ c.m cs us) (k : VReps N ly c.H c.φ c.m vs ws) (hl : off + vs.length ≤ cs.length) :
    VReps N ly c.H c.φ c.m (setRange cs off vs) (us.take off ++ ws ++ us.drop (off + ws.length)) := by
  have e1 := VReps.length N ly h
  have e2 := VReps.length N ly k
  refine VReps.of N ly (by simp [Am.setRange]; omega) fun j p u hp hu => ?_
  unfold Am.setRange at hp
  by_cases h1 : j < off
  · rw [List.append_assoc, List.getElem?_append_left (by simp; omega), List.getElem?_take_of_lt h1] at hp
    rw [List.append_assoc, List.getElem?_append_left (by simp; omega), List.getElem?_take_of_lt h1] at hu
    obtain ⟨u', q1, q2⟩ := VReps.get N ly h j p hp
    rw [q1] at hu; cases hu; exact q2
  · by_cases h2 : j < off + vs.length
    · rw [List.append_assoc, List.getElem?_append_right (by simp; omega), List.getElem?_append_left (by simp; omega)] at hp
      rw [List.append_assoc, List.getElem?_append_right (by simp; omega), List.getElem?_append_left (by simp; omega)] at hu
      have e3 : (cs.take off).length = (us.take off).length := by simp; omega
      rw [e3] at hp
      obtain ⟨u', q1, q2⟩ := VReps.get N ly k _ p hp
      rw [q1] at hu; cases hu; exact q2
    · rw [List.getElem?_append_right (by simp; omega), List.getElem?_drop] at hp
      rw [List.getElem?_append_right (by simp; omega), List.getElem?_drop] at hu
      have e3 : off + vs.length + (j - (cs.take off ++ vs).length) = off + ws.length + (j - (us.take off ++ ws).length) := by simp; omega
      rw [e3] at hp
      obtain ⟨u', q1, q2⟩ := VReps.get N ly h _ p hp
      rw [q1] at hu; cases hu; exact q2

end Go.Am

/- The machine's operations are Go's: stores, new memory, structs and literals. -/



namespace Go.Am
open Go

variable (N : Nm) (ly : Option Nat) (pr : Program)

theorem applyUps_one (m : List Blk) (i : Nat) (b : Blk) : applyUps m [(i, b)] ++ [] = m.set i b := by simp [applyUps]

theorem VReps.list {H : HM} {φ : FM} {m : List Blk} {xs : List V} {vs : List Value} (h : VReps N ly H φ m xs vs) (j : Nat) (x : V) (hx : xs[j]? = some x) : ∃ v, vs[j]? = some v ∧ VRep N ly H φ m x v := VReps.get N ly h j x hx

/-! ### A store -/

theorem store_own {c : Cfg} (hg : Good N ly c) {T n b off : Nat} {cs vs : List V} {x : V} {v u : Value} (hk : kindOk pr T n = true) (hv : VRep N ly c.H c.φ c.m (.ptr b off) v) (hb : c.m[b]? = some (.cells cs))
    (hx : x.cells? = some vs) (hu : VRep N ly c.H c.φ c.m x u) (hl : vs.length = sz n) (hle : off + sz n ≤ cs.length) :
    ∃ c' : Cfg, (Instr.storeAt T v u).run pr c.w = .ok () c'.w ∧ c'.m = c.m.set b (.cells (setRange cs off vs)) ∧ Good N ly c' ∧ Trans c c' ∧ Ext c.H c.φ c.m c'.H c'.φ c'.m := by
  simp only [VRep] at hv
  obtain ⟨R, s, _, hφ, rfl⟩ := hv
  obtain ⟨arr, e, h1, h2, h3, h4⟩ := cells_read N ly hg hb hφ
  obtain ⟨hr, hcell⟩ := cells_rep N ly hx hu
  have hlen := VReps.length N ly hr
  obtain ⟨_, hsz⟩ := kindOk.run pr hk c.w
  have hone : ∀ y ∈ u.cells.toList, y.oneCell' = true := fun y hy => by
    obtain ⟨j, hj⟩ := List.getElem?_of_mem hy
    have hjl : j < vs.length := by rw [hlen]; exact (List.getElem?_eq_some_iff.1 hj).1
    obtain ⟨y', q1, q2⟩ := VReps.get N ly hr j vs[j] (List.getElem?_eq_getElem hjl)
    rw [hj] at q1; cases q1
    exact cell_oneCell N ly (hcell _ (List.getElem_mem hjl)) q2
  have hst := run_storeCells_at pr R off e u.cells.toList 0 arr c.w h1 (by omega) hone
  simp only [Nat.add_zero] at hst
  have hrun : (Instr.storeAt T (.pointer (some ⟨R, off, none⟩)) u).run pr c.w = .ok () (c.w.setRow R (arr.toList.take off ++ u.cells.toList ++ arr.toList.drop (off + u.cells.toList.length)).toArray) := by
    have hs : u.cells.size = sz n := by rw [← Array.length_toList, ← hlen, hl]
    simp only [Instr.storeAt, Instr.sureAddr, storeVar, Sem.run_bind, Sem.run_pure, Result.andThen_ok, hsz, hs]
    simpa using hst
  have hnew := write_row N ly hg b R s cs (setRange cs off vs) (arr.toList.take off ++ u.cells.toList ++ arr.toList.drop (off + u.cells.toList.length)).toArray hb hφ
    (by have e0 : u.cells.size = sz n := by rw [← Array.length_toList, ← hlen, hl]
        simp only [List.size_toArray, List.length_append, List.length_take, List.length_drop, Array.length_toList]; omega) (by simp [setRange]; omega) (fun j y hy => ?_)
  · exact ⟨_, hrun, rfl, hnew⟩
  · unfold setRange at hy
    by_cases q1 : j < off
    · rw [List.append_assoc, List.getElem?_append_left (by simp; omega), List.getElem?_take_of_lt q1] at hy
      obtain ⟨a, w, k1, _, k2⟩ := h4 j y hy
      refine ⟨a, w, ?_, k2⟩
      rw [List.getElem?_toArray, List.append_assoc, List.getElem?_append_left (by simp; omega), List.getElem?_take_of_lt q1]
      simpa using k1
    · by_cases q2 : j < off + vs.length
      · rw [List.append_assoc, List.getElem?_append_right (by simp; omega), List.getElem?_append_left (by simp; omega)] at hy
        have e1 : (cs.take off).length = off := by simp; omega
        rw [e1] at hy
        obtain ⟨w, k1, k2⟩ := VReps.get N ly hr _ y hy
        refine ⟨hcell _ (List.mem_of_getElem? hy), w, ?_, k2⟩
        have e2 : (arr.toList.take off).length = off := by simp; omega
        rw [List.getElem?_toArray, List.append_assoc, List.getElem?_append_right (by omega), List.getElem?_append_left (by omega), e2]
        exact k1
      · rw [List.getElem?_append_right (by simp; omega), List.getElem?_drop] at hy
        have e1 : off + vs.length + (j - (cs.take off ++ vs).length) = j := by simp; omega
        rw [e1] at hy
        obtain ⟨a, w, k1, _, k2⟩ := h4 j y hy
        refine ⟨a, w, ?_, k2⟩
        have e2 : (arr.toList.take off ++ u.cells.toList).length = off + vs.length := by simp only [List.length_append, List.length_take, Array.length_toList]; rw [hlen, Array.length_toList]; omega
        rw [List.getElem?_toArray, List.getElem?_append_right (by omega), List.getElem?_drop, e2]
        have e3 : off + u.cells.toList.length + (j - (off + vs.length)) = j := by omega
        rw [e3]; simpa using k1

/-! ### New variables -/

theorem new_var {c : Cfg} (hg : Good N ly c) {i : Nat} {cs : List V} {us : List Value} (e : TypeId) (hi : c.m[i]? = some .hole) (hr : VReps N ly c.H c.φ c.m cs us) (hc : ∀ y ∈ cs, y.isCell = true) :
    ∃ c' : Cfg, c'.w = c.w.alloc (.cells us.toArray e) ∧ c'.m = c.m.set i (.cells cs) ∧ Good N ly c' ∧ Trans c c' ∧ Ext c.H c.φ c.m c'.H c'.φ c'.m ∧ c'.φ[i]? = some (some (c.w.heap.size, us.length)) := by
  have hil : i < c.m.length := (List.getElem?_eq_some_iff.1 hi).1
  have h := new_row N ly hg i (.cells cs) us.toArray e 0 (.inl hi) (fun j v hj => by omega)
    (by refine ⟨rfl, ?_, fun j y hy => ?_⟩
        · rw [VReps.length N ly hr]; simp
        · obtain ⟨v, k1, k2⟩ := VReps.get N ly hr j y hy
          exact ⟨hc y (List.mem_of_getElem? hy), v, by simpa using k1, k2⟩) (c.w.alloc (.cells us.toArray e)) rfl rfl rfl rfl
  exact ⟨_, rfl, rfl, h.1, h.2.1, h.2.2, by simp [hg.len, hil]⟩

theorem run_newVar (T : TypeId) (v : Value) (w : World) : (newVar T v).run pr w = .ok ⟨w.heap.size, 0, none⟩ (w.alloc (.cells v.cells T)) := by
  simp [newVar, newRow]

theorem box_ok {c : Cfg} (hg : Good N ly c) {T i : Nat} {cs : List V} {x : V} {v : Value} (hi : c.m[i]? = some .hole) (hx : x.cells? = some cs) (hv : VRep N ly c.H c.φ c.m x v) :
    OpOk N ly pr c { val := .ptr i 0, ups := [(i, .cells cs)] } (do let y ← Instr.box T v; Pure.pure (Next.value y)) := by
  obtain ⟨hr, hc⟩ := cells_rep N ly hx hv
  have hil : i < c.m.length := (List.getElem?_eq_some_iff.1 hi).1
  obtain ⟨c', e1, e2, k1, k2, k3, k4⟩ := new_var N ly hg T hi hr hc
  refine ⟨.pointer (some ⟨c.w.heap.size, 0, none⟩), c', .inl ?_, by rw [applyUps_one]; exact e2, k1, k2, k3, ?_⟩
  · have : (Instr.box T v).run pr c.w = .ok (.pointer (some ⟨c.w.heap.size, 0, none⟩)) c'.w := by
      rw [e1]; simp [Instr.box, run_newVar]
    exact run_v pr this
  · simp only [VRep]
    exact ⟨_, _, .inl ⟨cs, by rw [e2]; simp [hil]⟩, k4, rfl⟩

theorem alloc_ok {c : Cfg} (hg : Good N ly c) {T i : Nat} {z : List Zc} (hi : c.m[i]? = some .hole) (hz : zeroOk pr T z = true) :
    OpOk N ly pr c { val := .ptr i 0, ups := [(i, .cells (z.map Zc.toV))] } (do let y ← Instr.alloc T true (.tuple #[]); Pure.pure (Next.value y)) := by
  obtain ⟨v, hzv, hze, _⟩ := zeroOk.run pr hz
  obtain ⟨hr, hc⟩ := zsEq.rep N ly (H := c.H) (φ := c.φ) (m := c.m) hze
  have hil : i < c.m.length := (List.getElem?_eq_some_iff.1 hi).1
  obtain ⟨c', e1, e2, k1, k2, k3, k4⟩ := new_var N ly hg T hi hr hc
  refine ⟨.pointer (some ⟨c.w.heap.size, 0, none⟩), c', .inl ?_, by rw [applyUps_one]; exact e2, k1, k2, k3, ?_⟩
  · have : (Instr.alloc T true (.tuple #[])).run pr c.w = .ok (.pointer (some ⟨c.w.heap.size, 0, none⟩)) c'.w := by
      rw [e1]; simp [Instr.alloc, hzv, run_newVar]
    exact run_v pr this
  · simp only [VRep]
    exact ⟨_, _, .inl ⟨z.map Zc.toV, by rw [e2]; simp [hil]⟩, k4, rfl⟩

/-! ### Parts laid into a row -/

theorem foldl_set (off : Nat) : ∀ (l : List Value) (k : Nat) (cells : Array Value), off + k + l.length ≤ cells.size →
    (l.zipIdx k).foldl (fun cs x => cs.setIfInBounds (off + x.2) x.1) cells = (cells.toList.take (off + k) ++ l ++ cells.toList.drop (off + k + l.length)).toArray
  | [], k, cells, _ => by simp
  | v :: r, k, cells, h => by
    simp only [List.zipIdx_cons, List.foldl_cons]
    rw [foldl_set off r (k + 1) _ (by simp at h ⊢; omega)]
    have e := list_seg_step cells.toList (off + k) v r (by simp at h ⊢; omega)
    simp only [Array.toList_setIfInBounds, Nat.add_assoc] at e ⊢
    simpa [Nat.add_assoc] using congrArg List.toArray e

theorem fill_rep {c : Cfg} {place : Nat → Option (Nat × Nat)} : ∀ {ps : List (Nat × Nat × V)} {qs : List (Nat × Value)} {cs cs' : List V} {cells : Array Value}, fillV cs ps = some cs' →
    VReps N ly c.H c.φ c.m cs cells.toList → (∀ y ∈ cs, y.isCell = true) → ps.length = qs.length →
    (∀ (j : Nat) (o n : Nat) (x : V) (i : Nat) (v : Value), ps[j]? = some (o, n, x) → qs[j]? = some (i, v) → place i = some (o, sz n) ∧ VRep N ly c.H c.φ c.m x v) →
    ∃ cells', Instr.fill place cells qs = some cells' ∧ VReps N ly c.H c.φ c.m cs' cells'.toList ∧ (∀ y ∈ cs', y.isCell = true)
  | [], [], cs, cs', cells, h, hr, hc, _, _ => by
    simp only [fillV, Option.some.injEq] at h; subst h
    exact ⟨cells, rfl, hr, hc⟩
  | (o, n, x) :: r, (i, v) :: s, cs, cs', cells, h, hr, hc, hl, hp => by
    simp only [fillV] at h
    split at h
    · rename_i vs hvs
      split at h
      · rename_i hcond
        obtain ⟨h1, h2⟩ := hp 0 o n x i v (by simp) (by simp)
        obtain ⟨k1, k2⟩ := cells_rep N ly hvs h2
        have e1 := VReps.length N ly hr
        have e2 := VReps.length N ly k1
        simp only [Array.length_toList] at e1 e2
        have hsr := VReps.setRange N ly (off := o) hr k1 (by omega)
        have hfold : v.cells.zipIdx.foldl (fun cs x => cs.setIfInBounds (o + x.2) x.1) cells = (cells.toList.take o ++ v.cells.toList ++ cells.toList.drop (o + v.cells.toList.length)).toArray := by
          have := foldl_set o v.cells.toList 0 cells (by simp; omega)
          simp only [Nat.add_zero] at this
          rw [← this, ← Array.foldl_toList]
          simp
        have hcell' : ∀ y ∈ setRange cs o vs, y.isCell = true := fun y hy => by
          unfold setRange at hy
          simp only [List.mem_append] at hy
          rcases hy with (hy | hy) | hy
          · exact hc y (List.mem_of_mem_take hy)
          · exact k2 y hy
          · exact hc y (List.mem_of_mem_drop hy)
        obtain ⟨cells', q1, q2, q3⟩ := fill_rep (cells := (cells.toList.take o ++ v.cells.toList ++ cells.toList.drop (o + v.cells.toList.length)).toArray) h (by simpa using hsr) hcell' (by simpa using hl)
          (fun j o' n' x' i' v' hj hj' => hp (j + 1) o' n' x' i' v' (by simpa using hj) (by simpa using hj'))
        refine ⟨cells', ?_, q2, q3⟩
        simp only [Instr.fill, h1]
        rw [if_neg (by simp; omega)]
        rw [← q1]
        congr 1
      · cases h
    · cases h
  | [], _ :: _, _, _, _, _, _, _, hl, _ => by simp at hl
  | _ :: _, [], _, _, _, _, _, _, hl, _ => by simp at hl

end Go.Am

/- The machine's operations are Go's: slices that are made, written out, and appended to. -/

namespace Go.Am
open Go

variable (N : Nm) (ly : Option Nat) (pr : Program)

/-- A new row that no block stands for; its first cells are never written again. -/
theorem new_frozen {c : Cfg} (hg : Good N ly c) (arr : Array Value) (e : TypeId) (lim : Nat) (hone : ∀ j v, j < lim → arr[j]? = some v → v.oneCell' = true)
    (w' : World) (hw : w'.heap = c.w.heap.push (.cells arr e (0, 0))) (hos : w'.os = c.w.os) (htape : w'.tape = c.w.tape) (hout : w'.output = c.w.output) :
    let c' : Cfg := ⟨c.H.more c.w.heap.size arr lim, c.φ, c.m, w'⟩
    Good N ly c' ∧ Trans c c' ∧ Ext c.H c.φ c.m c'.H c'.φ c'.m := by
  intro c'
  -- a hole laid out for it, and taken away again
  obtain ⟨g1, t1, e1⟩ := more_blocks N ly hg [.hole] [none] rfl (fun j x hj => by
    cases j with
    | zero => simp at hj; exact .inr (.inl hj.symm)
    | succ j => simp at hj)
  have hH0 : ∀ o, c.H c.w.heap.size o = none := fun o => by
    cases h : c.H c.w.heap.size o with
    | none => rfl
    | some v => exact absurd (hg.hlt N ly h) (Nat.lt_irrefl _)
  have hle : c.H.le c'.H := HM.more_le fun o v hv _ => by rw [hH0] at hv; cases hv
  have hold : ∀ b, b < c.w.heap.size → w'.heap[b]? = c.w.heap[b]? := fun b hb => by rw [hw, Array.getElem?_push, if_neg (by omega)]
  have hnew : w'.heap[c.w.heap.size]? = some (.cells arr e (0, 0)) := by rw [hw]; simp
  have hE : Ext c.H c.φ c.m c'.H c'.φ c'.m := Ext.of hle (Link.refl c.φ c.m)
  refine ⟨⟨hg.len, ?_, ?_, hg.inj⟩, ⟨frozen_push hw, hos, htape, hout, by simp only [c', hw, Array.size_push]; omega, hle, fun b hb _ => hold b hb, fun b h => .inl h, ?_⟩, hE⟩
  · intro b o v hv
    simp only [c', HM.more] at hv
    split at hv
    · rename_i hb
      obtain ⟨rfl, ho⟩ := hb
      refine ⟨?_, hone o v ho hv⟩
      simp only [c', World.cell?, hnew]
      simpa using hv
    · have h := hg.frz b o v hv
      refine ⟨?_, h.2⟩
      rw [World.cell?_of_block (w := c.w) (w' := w') (a := ⟨b, o, none⟩) (hold b (hg.hlt N ly hv))]
      exact h.1
  · intro j y hy
    by_cases hl : Live c.m j
    · refine (hg.blk j y hy).keep N ly hE rfl fun R s hR => ?_
      have hlt : R < c.w.heap.size := hg.owned_lt N ly ⟨j, s, hl, hR⟩
      exact ⟨hold R hlt, fun o ho => by simp only [c']; rw [HM.more_other (by omega)]; exact ho⟩
    · cases y with
      | cells cs => exact absurd (.inl ⟨cs, hy⟩) hl
      | tok n k => exact absurd (.inr ⟨n, k, hy⟩) hl
      | dead => trivial
      | hole => trivial
  · intro b o v hv
    simp only [c', HM.more] at hv
    split at hv
    · rename_i hb; exact .inr (.inr (by omega))
    · exact .inl hv

/-- Cells that are data, in a row known from its start. -/
theorem data_cells {c : Cfg} {H' : HM} {R : Nat} {cs : List V} {us : List Value} {ps : List P} (hr : VReps N ly c.H c.φ c.m cs us) (hp : toPs cs = some ps) (hle : c.H.le H') (hH : ∀ j u, us[j]? = some u → H' R j = some u) :
    RepCs N H' R ps 0 := by
  have h := VReps.toPs N ly cs ps us hp hr
  exact RepCs.of N fun j p hj => by
    obtain ⟨u, k1, k2⟩ := Reps.get N h j p hj
    exact ⟨u, by rw [Nat.zero_add]; exact hH j u k1, Rep.mono N hle p u k2⟩

theorem toPs_notAgg {cs : List V} {ps : List P} (h : toPs cs = some ps) (hc : ∀ y ∈ cs, y.isCell = true) : ∀ p ∈ ps, p.isAgg = false := fun p hp => by
  obtain ⟨j, hj⟩ := List.getElem?_of_mem hp
  obtain ⟨x, hx, hxp⟩ := toPs_get h j p hj
  exact toP_isAgg (hc x (List.mem_of_getElem? hx)) hxp

theorem chunk_flat {H : HM} {n : Nat} : ∀ (k : Nat) (ps : List P) (vs : List Value), Reps N H ps vs → ps.length = k * sz n → (∀ p ∈ ps, p.isAgg = false) → (∀ v ∈ vs, v.oneCell' = true) → Flat N H n (chunk n k ps) vs
  | 0, ps, vs, h, hl, _, _ => by
    have : ps = [] := List.eq_nil_of_length_eq_zero (by simpa using hl)
    subst this
    simp only [Reps] at h; subst h
    simp [chunk, Flat]
  | k + 1, ps, vs, h, hl, ha, ho => by
    have e1 := Reps.length N h
    rw [Nat.add_mul, Nat.one_mul] at hl
    have hdrop : Reps N H (ps.drop (sz n)) (vs.drop (sz n)) := Reps.of N (by simp [e1]) fun j p v hp hv => by
      simp only [List.getElem?_drop] at hp hv
      obtain ⟨u, k1, k2⟩ := Reps.get N h _ p hp
      rw [k1] at hv; cases hv; exact k2
    have htake : Reps N H (ps.take (sz n)) (vs.take (sz n)) := Reps.of N (by simp [e1]) fun j p v hp hv => by
      rw [List.getElem?_take] at hp hv
      split at hp
      · rename_i hj
        rw [if_pos hj] at hv
        obtain ⟨u, k1, k2⟩ := Reps.get N h _ p hp
        rw [k1] at hv; cases hv; exact k2
      · cases hp
    have hdl : (ps.drop (sz n)).length = k * sz n := by rw [List.length_drop]; omega
    have ih := chunk_flat (n := n) k (ps.drop (sz n)) (vs.drop (sz n)) hdrop hdl (fun p hp => ha p (List.mem_of_mem_drop hp)) (fun v hv => ho v (List.mem_of_mem_drop hv))
    simp only [chunk, Flat]
    by_cases hn : n = 0
    · have hsz : sz n = 1 := by simp [sz, hn]
      rw [hsz] at hl ih ⊢
      match ps, vs, h with
      | [], _, _ => simp at hl
      | p :: r, vs, h =>
        simp only [Reps] at h
        obtain ⟨v, s, rfl, h1, h2⟩ := h
        have hna := oneCell_not_agg (ho v (by simp))
        refine ⟨v, s, by rw [cells_one hna]; rfl, by rw [cells_one hna]; simp, ⟨fun h => absurd hn h, fun h => absurd h hna⟩, by simpa [hn] using h1, ?_, by simpa using ih⟩
        simp [hn, ha p (by simp)]
    · have hsz : sz n = n := by simp [sz, hn]
      rw [hsz] at hl ih htake ⊢
      refine ⟨.agg (vs.take n).toArray, vs.drop n, by simp [cells_agg], by simp [cells_agg]; omega, ⟨fun _ => ⟨_, rfl⟩, fun _ => hn⟩, ?_, by simp [hn, P.isAgg], ih⟩
      rw [if_neg hn]
      simp only [Rep]
      exact ⟨vs.take n, rfl, htake⟩

/-! ### Zero cells -/

theorem rep_length {α : Type} (xs : List α) : ∀ k, (rep xs k).length = k * xs.length
  | 0 => by simp [rep]
  | k + 1 => by simp [rep, rep_length xs k, Nat.add_mul]; omega

theorem rep_get {α : Type} (xs : List α) : ∀ (k j : Nat), j < k * xs.length → (rep xs k)[j]? = xs[j % xs.length]?
  | 0, j, h => by simp at h
  | k + 1, j, h => by
    rw [Nat.add_mul, Nat.one_mul] at h
    simp only [rep]
    by_cases hj : j < xs.length
    · rw [List.getElem?_append_left hj, Nat.mod_eq_of_lt hj]
    · rw [List.getElem?_append_right (by omega), rep_get xs k (j - xs.length) (by omega)]
      rw [← Nat.mod_eq_sub_mod (by omega : j ≥ xs.length)]

theorem zsEq_length : ∀ {z : List Zc} {vs : List Value}, zsEq z vs = true → z.length = vs.length
  | [], [], _ => rfl
  | _ :: r, _ :: s, h => by simp only [zsEq, Bool.and_eq_true] at h; simp [zsEq_length h.2]
  | [], _ :: _, h => by simp [zsEq] at h
  | _ :: _, [], h => by simp [zsEq] at h

theorem zeros_rep {c : Cfg} {z : List Zc} {za : Array Value} (h : zsEq z za.toList = true) (k : Nat) :
    VReps N ly c.H c.φ c.m (rep (z.map Zc.toV) k) ((Array.range (k * za.size)).map (za[· % za.size]!)).toList ∧ ∀ y ∈ rep (z.map Zc.toV) k, y.isCell = true := by
  obtain ⟨h1, h2⟩ := zsEq.rep N ly (H := c.H) (φ := c.φ) (m := c.m) h
  have hl := zsEq_length h
  simp only [Array.length_toList] at hl
  have hget : ∀ (j : Nat) (y : V), (rep (z.map Zc.toV) k)[j]? = some y → j < k * za.size ∧ (z.map Zc.toV)[j % za.size]? = some y := fun j y hy => by
    have hj := (List.getElem?_eq_some_iff.1 hy).1
    rw [rep_length] at hj
    rw [rep_get _ _ _ hj] at hy
    simp only [List.length_map, hl] at hj hy
    exact ⟨hj, hy⟩
  constructor
  · refine VReps.of N ly (by rw [rep_length]; simp [hl]) fun j p u hp hu => ?_
    obtain ⟨hj, hy⟩ := hget j p hp
    obtain ⟨v, k1, k2⟩ := VReps.get N ly h1 _ p hy
    have hu' : u = za[j % za.size]! := by
      simp only [Array.toList_map, List.getElem?_map, Array.toList_range, List.getElem?_range hj, Option.map_some, Option.some.injEq] at hu
      exact hu.symm
    rw [Array.getElem?_toList] at k1
    have : za[j % za.size]! = v := by
      rw [getElem!_def, k1]
    rw [hu', this]; exact k2
  · intro y hy
    obtain ⟨j, hj⟩ := List.getElem?_of_mem hy
    exact h2 y (List.mem_of_getElem? (hget j y hj).2)

end Go.Am

/- The machine's operations are Go's: literals of slices, make, append. -/

namespace Go.Am
open Go

variable (N : Nm) (ly : Option Nat) (pr : Program)

theorem HM.more_at {H : HM} {R : Nat} {arr : Array Value} {lim o : Nat} (h : o < lim) : H.more R arr lim R o = arr[o]? := by simp [HM.more, h]

theorem VReps.one {c : Cfg} {cs : List V} {us : List Value} (hr : VReps N ly c.H c.φ c.m cs us) (hc : ∀ y ∈ cs, y.isCell = true) : ∀ u ∈ us, u.oneCell' = true := fun u hu => by
  obtain ⟨j, hj⟩ := List.getElem?_of_mem hu
  have hjl : j < cs.length := by rw [VReps.length N ly hr]; exact (List.getElem?_eq_some_iff.1 hj).1
  obtain ⟨y', q1, q2⟩ := VReps.get N ly hr j cs[j] (List.getElem?_eq_getElem hjl)
  rw [hj] at q1; cases q1
  exact cell_oneCell N ly (hc _ (List.getElem_mem hjl)) q2

/-- A new row of `k` elements, as data; it has no block. -/
theorem fresh_data {c : Cfg} (hg : Good N ly c) {cs : List V} {us : Array Value} {ps : List P} (n k cap : Nat) (e : TypeId) (hr : VReps N ly c.H c.φ c.m cs us.toList) (hc : ∀ y ∈ cs, y.isCell = true) (hp : toPs cs = some ps) (hk : k * sz n = cs.length) (hkc : k ≤ cap) :
    ∃ c' : Cfg, c'.w = c.w.alloc (.cells us e) ∧ c'.m = c.m ∧ Good N ly c' ∧ Trans c c' ∧ Ext c.H c.φ c.m c'.H c'.φ c'.m ∧ Rep N c'.H (.sl n (chunk n k ps)) (.slice (some ⟨c.w.heap.size, 0, none⟩) k cap) := by
  have hone := VReps.one N ly hr hc
  have h := new_frozen N ly hg us e us.size (fun j v _ hv => hone v (by rw [← Array.getElem?_toList] at hv; exact List.mem_of_getElem? hv)) (c.w.alloc (.cells us e)) rfl rfl rfl rfl
  refine ⟨⟨c.H.more c.w.heap.size us us.size, c.φ, c.m, c.w.alloc (.cells us e)⟩, rfl, rfl, h.1, h.2.1, h.2.2, ?_⟩
  simp only [Rep]
  rw [chunk_length]
  refine ⟨_, cap, ⟨rfl, hkc⟩, fun _ => ⟨_, 0, rfl, ?_⟩⟩
  refine RepCs.chunk N ?_ (by rw [hk, toPs_length hp]; exact Nat.le_refl _) (toPs_notAgg hp hc)
  refine data_cells N ly hr hp h.2.1.hle fun j u hu => ?_
  have hj : j < us.size := by have := (List.getElem?_eq_some_iff.1 hu).1; simpa using this
  rw [HM.more_at hj, ← Array.getElem?_toList]; exact hu

/-- A new row of `k` elements that a slice owns and may grow in. -/
theorem fresh_tok {c : Cfg} (hg : Good N ly c) {i : Nat} {cs : List V} {us : Array Value} {ps : List P} (n k cap : Nat) (e : TypeId) (hi : c.m[i]? = some .hole ∨ ∃ k0, c.m[i]? = some (.tok n k0) ∧ k0 < k)
    (hr : VReps N ly c.H c.φ c.m cs (us.toList.take (k * sz n))) (hc : ∀ y ∈ cs, y.isCell = true) (hp : toPs cs = some ps) (hk : k * sz n = cs.length) (hs : cap * sz n ≤ us.size) (hkc : k ≤ cap) (w' : World)
    (hw : w'.heap = c.w.heap.push (.cells us e (0, 0))) (hos : w'.os = c.w.os) (htape : w'.tape = c.w.tape) (hout : w'.output = c.w.output) :
    ∃ c' : Cfg, c'.w = w' ∧ c'.m = c.m.set i (.tok n k) ∧ Good N ly c' ∧ Trans c c' ∧ Ext c.H c.φ c.m c'.H c'.φ c'.m ∧ VRep N ly c'.H c'.φ c'.m (.sl n i (chunk n k ps)) (.slice (some ⟨c.w.heap.size, 0, none⟩) k cap) := by
  have hone := VReps.one N ly hr hc
  have hil : i < c.m.length := by rcases hi with hi | ⟨_, hi, _⟩ <;> exact (List.getElem?_eq_some_iff.1 hi).1
  have hlim : k * sz n ≤ us.size := Nat.le_trans (Nat.mul_le_mul_right _ hkc) hs
  have h := new_row N ly hg i (.tok n k) us e (k * sz n) (by rcases hi with hi | ⟨k0, hi, hlt⟩; exact .inl hi; exact .inr ⟨n, k0, k, hi, rfl, hlt⟩)
    (fun j v hj hv => hone v (by rw [← Array.getElem?_toList] at hv; exact List.mem_of_getElem? (by rw [List.getElem?_take_of_lt hj]; exact hv))) rfl w' hw hos htape hout
  refine ⟨⟨c.H.more c.w.heap.size us (k * sz n), c.φ.set i (some (c.w.heap.size, us.size)), c.m.set i (.tok n k), w'⟩, rfl, rfl, h.1, h.2.1, h.2.2, ?_⟩
  simp only [VRep, Rep]
  rw [chunk_length]
  refine ⟨⟨_, cap, ⟨rfl, hkc⟩, fun _ => ⟨_, 0, rfl, ?_⟩⟩, .inr ⟨k, by simp [hil], Nat.le_refl _, fun _ => .inr ⟨_, _, cap, by simp [hg.len, hil], rfl, hkc, hs⟩⟩⟩
  refine RepCs.chunk N ?_ (by rw [hk, toPs_length hp]; exact Nat.le_refl _) (toPs_notAgg hp hc)
  refine data_cells N ly hr hp h.2.1.hle fun j u hu => ?_
  have hj : j < k * sz n := by
    have := (List.getElem?_eq_some_iff.1 hu).1
    rw [List.length_take] at this; omega
  rw [HM.more_at hj, ← Array.getElem?_toList]
  rw [List.getElem?_take_of_lt hj] at hu; exact hu

/-- A new row of `k` elements that may be written. -/
theorem fresh_ref {c : Cfg} (hg : Good N ly c) {i : Nat} {cs : List V} {us : Array Value} (n k cap : Nat) (e : TypeId) (hi : c.m[i]? = some .hole)
    (hr : VReps N ly c.H c.φ c.m cs (us.toList.take cs.length)) (hc : ∀ y ∈ cs, y.isCell = true) (hs : cap * sz n ≤ us.size) (hl : cs.length ≤ us.size) (hkc : k ≤ cap) (w' : World)
    (hw : w'.heap = c.w.heap.push (.cells us e (0, 0))) (hos : w'.os = c.w.os) (htape : w'.tape = c.w.tape) (hout : w'.output = c.w.output) :
    ∃ c' : Cfg, c'.w = w' ∧ c'.m = c.m.set i (.cells cs) ∧ Good N ly c' ∧ Trans c c' ∧ Ext c.H c.φ c.m c'.H c'.φ c'.m ∧ VRep N ly c'.H c'.φ c'.m (.ref n i 0 k) (.slice (some ⟨c.w.heap.size, 0, none⟩) k cap) := by
  have hil : i < c.m.length := (List.getElem?_eq_some_iff.1 hi).1
  have h := new_row N ly hg i (.cells cs) us e 0 (.inl hi) (fun j v hj => by omega)
    ⟨rfl, hl, fun j y hy => by
      obtain ⟨v, k1, k2⟩ := VReps.get N ly hr j y hy
      have hj : j < cs.length := (List.getElem?_eq_some_iff.1 hy).1
      rw [List.getElem?_take_of_lt hj] at k1
      exact ⟨hc y (List.mem_of_getElem? hy), v, by rw [← Array.getElem?_toList]; exact k1, k2⟩⟩ w' hw hos htape hout
  refine ⟨⟨c.H.more c.w.heap.size us 0, c.φ.set i (some (c.w.heap.size, us.size)), c.m.set i (.cells cs), w'⟩, rfl, rfl, h.1, h.2.1, h.2.2, ?_⟩
  simp only [VRep]
  exact .inr ⟨c.w.heap.size, us.size, cap, .inl ⟨cs, by simp [hil]⟩, by simp [hg.len, hil], rfl, hkc, by omega⟩

theorem zeroOk.size {n : Nat} {z : List Zc} {v : Value} (h : zsEq z v.cells.toList = true) (hl : z.length = sz n) : v.cells.size = sz n := by
  have := zsEq_length h
  simp at this; omega

/-! ### A slice written out -/

theorem lit_run {c : Cfg} {T e n len : Nat} {z : List Zc} {ps : List (Nat × V)} {qs : Array (Nat × Value)} {cs : List V} (ht : pr.underlying T = some (.slice e)) (hk : kindOk pr e n = true) (hz : zeroOk pr e z = true) (hzl : z.length = sz n)
    (hlen : len * sz n ≤ 16777216) (hf : fillV (rep (z.map Zc.toV) len) (ps.map fun (i, x) => (i * sz n, n, x)) = some cs) (hl : ps.length = qs.size)
    (hp : ∀ (j : Nat) (i : Nat) (x : V) (i' : Nat) (v : Value), ps[j]? = some (i, x) → qs[j]? = some (i', v) → i' = i ∧ VRep N ly c.H c.φ c.m x v) :
    ∃ us : Array Value, (Instr.buildSlice T len qs).run pr c.w = .ok (.slice (some ⟨c.w.heap.size, 0, none⟩) len len) (c.w.alloc (.cells us e)) ∧ VReps N ly c.H c.φ c.m cs us.toList ∧ (∀ y ∈ cs, y.isCell = true) ∧ cs.length = len * sz n := by
  obtain ⟨v, _, hze, i, hi, hiz⟩ := zeroOk.run pr hz
  obtain ⟨i', hi', hsz⟩ := kindOk.info pr hk
  rw [hi] at hi'; cases hi'
  have hvs := zeroOk.size hze hzl
  have hzr := zeros_rep N ly (c := c) hze len
  rw [hvs] at hzr
  obtain ⟨us, q1, q2, q3⟩ := fill_rep N ly (place := fun i => some (i * sz n, sz n)) (qs := qs.toList) hf hzr.1 hzr.2 (by simp [hl]) (fun j o n' x i v hj hv => by
    simp only [List.getElem?_map, Option.map_eq_some_iff] at hj
    obtain ⟨⟨a, b⟩, hj, he⟩ := hj
    simp only [Prod.mk.injEq] at he
    obtain ⟨rfl, rfl, rfl⟩ := he
    obtain ⟨rfl, h2⟩ := hp j a b i v hj (by rw [← Array.getElem?_toList]; exact hv)
    exact ⟨rfl, h2⟩)
  have hlenc : cs.length = len * sz n := by
    have e1 : ∀ {ps : List (Nat × Nat × V)} {a b : List V}, fillV a ps = some b → b.length = a.length := by
      intro ps
      induction ps with
      | nil => intro a b h; simp only [fillV, Option.some.injEq] at h; subst h; rfl
      | cons p r ih =>
        obtain ⟨o, n, x⟩ := p
        intro a b h
        simp only [fillV] at h
        split at h
        · split at h
          · rename_i hc
            rw [ih h]; simp [setRange]; omega
          · cases h
        · cases h
    rw [e1 hf, rep_length, List.length_map, hzl]
  refine ⟨us, ?_, q2, q3, hlenc⟩
  by_cases h0 : len * sz n = 0
  · have hl0 : len = 0 := by
      rcases Nat.mul_eq_zero.1 h0 with h | h
      · exact h
      · have := sz_pos n; omega
    subst hl0
    -- no elements: no parts fit
    have hsn := sz_pos n
    have hq : qs = #[] := by
      match hps : ps with
      | [] => exact Array.eq_empty_of_size_eq_zero (by simpa using hl.symm)
      | (a, b) :: r =>
        exfalso
        simp only [List.map_cons, fillV, rep, List.length_nil] at hf
        split at hf
        · split at hf
          · omega
          · cases hf
        · cases hf
    subst hq
    have hu : us = #[] := by
      simp only [Instr.fill, Nat.zero_mul, Array.range_zero', Array.map_empty, Option.some.injEq] at q1
      exact q1.symm
    subst hu
    simp [Instr.buildSlice, run_underlying ht, sizeOf, typeInfo, hi, Instr.fill, newRow, Array.range_zero']
  · refine run_buildSlice c.w T e len qs us i v ht hi hiz (by rw [hsz]; omega) (by rw [hsz]; exact h0) ?_
    rw [hsz, hvs]; exact q1

theorem lit_ok {c : Cfg} (hg : Good N ly c) {T e n len : Nat} {z : List Zc} {ps : List (Nat × V)} {qs : Array (Nat × Value)} {cs : List V} (ht : pr.underlying T = some (.slice e)) (hk : kindOk pr e n = true) (hz : zeroOk pr e z = true) (hzl : z.length = sz n)
    (hlen : len * sz n ≤ 16777216) (hf : fillV (rep (z.map Zc.toV) len) (ps.map fun (i, x) => (i * sz n, n, x)) = some cs) (hl : ps.length = qs.size)
    (hp : ∀ (j : Nat) (i : Nat) (x : V) (i' : Nat) (v : Value), ps[j]? = some (i, x) → qs[j]? = some (i', v) → i' = i ∧ VRep N ly c.H c.φ c.m x v) (md : Md) (i : Nat) (r : Res)
    (hr : (if len = 0 then RM.ret ({ val := .nil n } : Res) else match md with
      | .pure => match toPs cs with
        | some l => .ret { val := .p (.sl n (chunk n len l)) }
        | none => .fail
      | .grow => match toPs cs with
        | some l => atHole i { val := .sl n i (chunk n len l), ups := [(i, .tok n len)] }
        | none => .fail
      | .own => atHole i { val := .ref n i 0 len, ups := [(i, .cells cs)] }).run c.m = some r) :
    OpOk N ly pr c r (do let y ← Instr.buildSlice T len qs; Pure.pure (Next.value y)) := by
  obtain ⟨us, hrun, hrep, hcell, hcl⟩ := lit_run N ly pr ht hk hz hzl hlen hf hl hp
  have hul : us.size = len * sz n := by rw [← hcl, VReps.length N ly hrep]; simp
  by_cases h0 : len = 0
  · rw [if_pos h0] at hr
    simp only [RM.run, Option.some.injEq] at hr
    subst hr h0
    have h := new_frozen N ly hg us e 0 (fun j v hj => by omega) (c.w.alloc (.cells us e)) rfl rfl rfl rfl
    refine ⟨_, _, .inl (run_v pr hrun), by simp [applyUps], h.1, h.2.1, h.2.2, ?_⟩
    simp only [VRep]; exact ⟨_, rfl⟩
  · rw [if_neg h0] at hr
    cases md with
    | pure =>
      simp only at hr
      cases hps : toPs cs with
      | none => rw [hps] at hr; simp [RM.run] at hr
      | some l =>
        rw [hps] at hr
        simp only [RM.run, Option.some.injEq] at hr
        subst hr
        obtain ⟨c', e1, e2, k1, k2, k3, k4⟩ := fresh_data N ly hg n len len e hrep hcell hps hcl.symm (Nat.le_refl _)
        exact ⟨_, c', .inl (by rw [e1]; exact run_v pr hrun), by rw [e2]; simp [applyUps], k1, k2, k3, by simp only [VRep]; exact k4⟩
    | grow =>
      simp only at hr
      cases hps : toPs cs with
      | none => rw [hps] at hr; simp [RM.run] at hr
      | some l =>
        rw [hps] at hr
        obtain ⟨hh, rfl⟩ := run_atHole hr
        obtain ⟨c', e1, e2, k1, k2, k3, k4⟩ := fresh_tok N ly hg n len len e (.inl hh) (by rw [List.take_of_length_le (by simp; omega)]; exact hrep) hcell hps hcl.symm (by omega) (Nat.le_refl _) (c.w.alloc (.cells us e)) rfl rfl rfl rfl
        exact ⟨_, c', .inl (by rw [e1]; exact run_v pr hrun), by rw [e2, applyUps_one], k1, k2, k3, k4⟩
    | own =>
      simp only at hr
      obtain ⟨hh, rfl⟩ := run_atHole hr
      obtain ⟨c', e1, e2, k1, k2, k3, k4⟩ := fresh_ref N ly hg n len len e hh (by rw [List.take_of_length_le (by simp; omega)]; exact hrep) hcell (by omega) (by omega) (Nat.le_refl _) (c.w.alloc (.cells us e)) rfl rfl rfl rfl
      exact ⟨_, c', .inl (by rw [e1]; exact run_v pr hrun), by rw [e2, applyUps_one], k1, k2, k3, k4⟩

end Go.Am

/- The machine's operations are Go's: make, append. -/

namespace Go.Am
open Go

variable (N : Nm) (ly : Option Nat) (pr : Program)

theorem bound_rep {c : Cfg} {fr : Fr} {x : Opd} {l : Nat} {v : Value} (h : bound x fr = some l) (hv : VRep N ly c.H c.φ c.m (opd fr x) v) : ∃ k, v = .int k (l : Int) := by
  unfold bound at h
  split at h
  · rename_i k i hx
    split at h
    · rename_i hi
      cases h
      rw [hx] at hv
      simp only [VRep, Rep] at hv
      exact ⟨k, by rw [hv, Int.toNat_of_nonneg hi]⟩
    · cases h
  · cases h

theorem made_take (z : Array Value) (s l c : Nat) (h : l ≤ c) : ((madeCells z (c * s)).toList.take (l * s)) = ((Array.range (l * s)).map (z[· % z.size]!)).toList := by
  have : l * s ≤ c * s := Nat.mul_le_mul_right _ h
  simp only [madeCells, Array.toList_map, Array.toList_range, ← List.map_take]
  congr 1
  rw [List.take_range]
  congr 1
  omega

theorem make_ok {c : Cfg} (hg : Good N ly c) {T e n l cp bytes i : Nat} {z : List Zc} {info : TypeInfo} (ht : pr.underlying T = some (.slice e)) (hk : kindOk pr e n = true) (hz : zeroOk pr e z = true) (hzl : z.length = sz n)
    (hi : pr.info? e = some info) (hb : info.bytes = bytes) (hlc : l ≤ cp) (hmost : cp ≤ most) (hby : bytes ≤ 65536) (md : Md) (kl kc : IntKind) (r : Res)
    (hr : (match md with
      | .own => atHole i { val := .ref n i 0 l, ups := [(i, .cells (rep (z.map Zc.toV) l))] }
      | .grow => if l = 0 then atHole i { val := .sl n i [], ups := [(i, .tok n 0)] } else .fail
      | .pure => if l = cp then match toPs (rep (z.map Zc.toV) l) with
        | some ps => .ret { val := .p (.sl n (chunk n l ps)) }
        | none => .fail
        else .fail : RM Res).run c.m = some r) :
    OpOk N ly pr c r (do let y ← Instr.makeSlice T (.int kl (l : Int)) (.int kc (cp : Int)); Pure.pure (Next.value y)) := by
  obtain ⟨v, _, hze, i', hi', hiz⟩ := zeroOk.run pr hz
  rw [hi] at hi'; cases hi'
  obtain ⟨i'', hi'', hsz⟩ := kindOk.info pr hk
  rw [hi] at hi''; cases hi''
  have hvs := zeroOk.size hze hzl
  have hrun := run_make (P := pr) c.w T e info v ht hi hiz kl kc (l : Int) (cp : Int) (by omega) (by omega)
    (by have h1 : info.bytes * cp ≤ 65536 * most := Nat.mul_le_mul (by omega) hmost
        have h2 : ((info.bytes * cp : Nat) : Int) ≤ 281474976710656 := by simp only [most] at h1; omega
        rwa [Int.natCast_mul] at h2) (by simp only [most] at hmost; omega)
  simp only [Int.toNat_natCast, hsz] at hrun
  have hzr := zeros_rep N ly (c := c) hze l
  rw [hvs] at hzr
  have htake := made_take v.cells (sz n) l cp hlc
  rw [hvs] at htake
  rw [← htake] at hzr
  have hlen : (rep (z.map Zc.toV) l).length = l * sz n := by rw [rep_length, List.length_map, hzl]
  have hms : (madeCells v.cells (cp * sz n)).size = cp * sz n := size_madeCells _ _
  have hle : l * sz n ≤ cp * sz n := Nat.mul_le_mul_right _ hlc
  cases md with
  | own =>
    simp only at hr
    obtain ⟨hh, rfl⟩ := run_atHole hr
    obtain ⟨c', e1, e2, k1, k2, k3, k4⟩ := fresh_ref N ly hg n l cp e hh (by rw [hlen]; exact hzr.1) hzr.2 (by omega) (by omega) hlc (c.w.alloc (.cells (madeCells v.cells (cp * sz n)) e)) rfl rfl rfl rfl
    exact ⟨_, c', .inl (by rw [e1]; exact run_v pr hrun), by rw [e2, applyUps_one], k1, k2, k3, k4⟩
  | grow =>
    simp only at hr
    split at hr
    · rename_i h0
      subst h0
      obtain ⟨hh, rfl⟩ := run_atHole hr
      obtain ⟨c', e1, e2, k1, k2, k3, k4⟩ := fresh_tok N ly hg (cs := []) (ps := []) n 0 cp e (.inl hh) (by simp [VReps]) (by simp) (by simp [toPs]) (by simp) (by omega) (Nat.zero_le _) (c.w.alloc (.cells (madeCells v.cells (cp * sz n)) e)) rfl rfl rfl rfl
      exact ⟨_, c', .inl (by rw [e1]; exact run_v pr hrun), by rw [e2, applyUps_one], k1, k2, k3, k4⟩
    · simp [RM.run] at hr
  | pure =>
    simp only at hr
    split at hr
    · rename_i h0
      subst h0
      split at hr
      · rename_i ps hps
        simp only [RM.run, Option.some.injEq] at hr
        subst hr
        rw [List.take_of_length_le (by simp [hms])] at hzr
        obtain ⟨c', e1, e2, k1, k2, k3, k4⟩ := fresh_data N ly hg n l l e hzr.1 hzr.2 hps hlen.symm (Nat.le_refl _)
        exact ⟨_, c', .inl (by rw [e1]; exact run_v pr hrun), by rw [e2]; simp [applyUps], k1, k2, k3, by simp only [VRep]; exact k4⟩
      · simp [RM.run] at hr
    · simp [RM.run] at hr

/-! ### What is appended -/

theorem isCell_of_rep {H : HM} {q : P} {v : Value} (h : Rep N H q v) (hv : v.oneCell' = true) : (V.p q).isCell = true := by
  cases q <;> simp only [Rep] at h <;> first
    | (subst h; simpa [V.isCell, scalar_oneCell] using hv)
    | rfl
    | (obtain ⟨_, rfl, _⟩ := h; simp [Value.oneCell'] at hv)

theorem src_ok {c : Cfg} (hg : Good N ly c) {n : Nat} {y : V} {v : Value} {es : List P} (h : (srcOf n y).run c.m = some es) (hv : VRep N ly c.H c.φ c.m y v) :
    ∃ a cap news, v = .slice a es.length cap ∧ Flat N c.H n es news ∧ (∀ u ∈ news, u.oneCell' = true) ∧ (es ≠ [] → ∃ b off, a = some ⟨b, off, none⟩ ∧ ∀ j u, news[j]? = some u → c.w.cell? ⟨b, off + j, none⟩ = some u) := by
  have data : ∀ {es : List P}, Rep N c.H (.sl n es) v → ∃ a cap news, v = .slice a es.length cap ∧ Flat N c.H n es news ∧ (∀ u ∈ news, u.oneCell' = true) ∧ (es ≠ [] → ∃ b off, a = some ⟨b, off, none⟩ ∧ ∀ j u, news[j]? = some u → c.w.cell? ⟨b, off + j, none⟩ = some u) := by
    intro es hv
    simp only [Rep] at hv
    obtain ⟨a, cap, ⟨rfl, _⟩, hne⟩ := hv
    by_cases he : es = []
    · subst he
      exact ⟨a, cap, [], rfl, by simp [Flat], by simp, fun h => absurd rfl h⟩
    · obtain ⟨b, off, rfl, hr⟩ := hne he
      obtain ⟨vs, hf, hc⟩ := RepEs.flat N (hg.hok N ly) hr
      refine ⟨_, cap, vs, rfl, hf, fun u hu => ?_, fun _ => ⟨b, off, rfl, fun j u hu => (hg.frz _ _ _ (hc j u hu)).1⟩⟩
      obtain ⟨j, hj⟩ := List.getElem?_of_mem hu
      exact (hg.frz _ _ _ (hc j u hj)).2
  unfold srcOf at h
  split at h
  · rename_i n' es'
    split at h
    · rename_i hn
      subst hn
      simp only [RM.run, Option.some.injEq] at h; subst h
      exact data (by simpa only [VRep] using hv)
    · simp [RM.run] at h
  · rename_i n' t es'
    split at h
    · rename_i hn
      subst hn
      simp only [RM.run, Option.some.injEq] at h; subst h
      simp only [VRep] at hv
      exact data hv.1
    · simp [RM.run] at h
  · split at h
    · simp only [RM.run, Option.some.injEq] at h; subst h
      simp only [VRep] at hv
      obtain ⟨a, rfl⟩ := hv
      exact ⟨a, 0, [], rfl, by simp [Flat], by simp, fun h => absurd rfl h⟩
    · simp [RM.run] at h
  · rename_i a cap
    simp only [RM.run, Option.some.injEq] at h; subst h
    simp only [VRep, Rep] at hv
    subst hv
    exact ⟨a, cap, [], rfl, by simp [Flat], by simp, fun h => absurd rfl h⟩
  · rename_i n' b off len
    split at h
    · rename_i hn
      subst hn
      rw [RM.run_bind] at h
      cases hc : (getC b).run c.m with
      | none => rw [hc] at h; simp at h
      | some cs =>
        rw [hc] at h
        simp only [Option.bind_some] at h
        split at h
        · rename_i hle
          split at h
          · rename_i ps hps
            simp only [RM.run, Option.some.injEq] at h; subst h
            have hb := run_getC_some hc
            simp only [VRep] at hv
            rw [chunk_length]
            rcases hv with ⟨h0, a, rfl⟩ | ⟨R, s, cap, _, hφ, rfl, _, _⟩
            · subst h0
              exact ⟨a, 0, [], rfl, by simp [Flat, chunk], by simp, fun h => absurd rfl h⟩
            · obtain ⟨arr, e, h1, h2, h3, h4⟩ := cells_read N ly hg hb hφ
              let us : List Value := (arr.toList.drop off).take (len * sz n')
              have hus : VReps N ly c.H c.φ c.m ((cs.drop off).take (len * sz n')) us := VReps.of N ly (by simp [us]; omega) fun j p u hp hu => by
                simp only [us, List.getElem?_take, List.getElem?_drop] at hp hu
                split at hp
                · rename_i hj
                  rw [if_pos hj] at hu
                  obtain ⟨_, v, k1, _, k2⟩ := h4 _ p hp
                  rw [← Array.getElem?_toList] at k1
                  rw [k1] at hu; cases hu; exact k2
                · cases hp
              have hcell : ∀ y ∈ (cs.drop off).take (len * sz n'), y.isCell = true := fun y hy => by
                obtain ⟨j, hj⟩ := List.getElem?_of_mem (List.mem_of_mem_drop (List.mem_of_mem_take hy))
                exact (h4 j y hj).1
              have hone := VReps.one N ly hus hcell
              refine ⟨_, cap, us, rfl, chunk_flat N len ps us (VReps.toPs N ly _ _ _ hps hus) ?_ (toPs_notAgg hps hcell) hone, hone, fun _ => ⟨R, off, rfl, fun j u hu => ?_⟩⟩
              · rw [← toPs_length hps]; simp; omega
              · simp only [us, List.getElem?_take, List.getElem?_drop] at hu
                split at hu
                · rw [Array.getElem?_toList] at hu
                  simp only [World.cell?, h1]; simpa using hu
                · cases hu
          · simp [RM.run] at h
        · simp [RM.run] at h
    · simp [RM.run] at h
  · simp [RM.run] at h

/-! ### append, at the run -/

theorem run_app_none (w : World) (T ty e : TypeId) (i : TypeInfo) (ht : pr.underlying T = some (.slice e)) (hi : pr.info? e = some i) (a0 a : Option Addr) (k cap0 cap : Nat) (hk : k ≤ cap0) :
    (Builtin.append_ #[T, T] ty #[.slice a0 k cap0, .slice a 0 cap]).run pr w = .ok (.slice a0 k cap0) w := by
  cases a0 <;> cases a <;> simp [Builtin.append_, run_underlying ht, sizeOf, typeInfo, hi, Builtin.lenOf, Builtin.firstCells, loadCells, loadCellsFrom, storeCells, hk]

theorem run_app_room (w : World) (T ty e : TypeId) (i : TypeInfo) (ht : pr.underlying T = some (.slice e)) (hi : pr.info? e = some i)
    (g sLen sCap : Nat) (cur : Array Value) (e' : TypeId) (hg : w.heap[g]? = some (.cells cur e' (0, 0)))
    (a : Addr) (m c : Nat) (news : List Value) (hl : news.length = m * i.size) (hnews : ∀ j u, news[j]? = some u → w.cell? (a.add j) = some u) (h1 : ∀ u ∈ news, u.oneCell' = true)
    (hroom : sLen + m ≤ sCap) (hfit : sLen * i.size + news.length ≤ cur.size) :
    (Builtin.append_ #[T, T] ty #[.slice (some ⟨g, 0, none⟩) sLen sCap, .slice (some a) m c]).run pr w =
      .ok (.slice (some ⟨g, 0, none⟩) (sLen + m) sCap) (w.setRow g (cur.toList.take (sLen * i.size) ++ news ++ cur.toList.drop (sLen * i.size + news.length)).toArray) := by
  have hf := run_firstCells_some (P := pr) w i.size m a m c news hl hnews
  have hst := run_storeCells_at pr g (sLen * i.size) e' news 0 cur w hg (by simpa using hfit) h1
  simp only [Nat.add_zero] at hst
  simp [Builtin.append_, run_underlying ht, sizeOf, typeInfo, hi, Builtin.lenOf, hroom, hf, Addr.add_lit, hst]

theorem run_app_new (w : World) (T ty e : TypeId) (i : TypeInfo) (z : Value) (ht : pr.underlying T = some (.slice e)) (hi : pr.info? e = some i) (hz : i.zero = some z) (hzs : z.cells.size = i.size) (_hby : i.bytes ≤ 65536)
    (a0 : Option Addr) (k cap0 : Nat) (olds : List Value) (hlo : olds.length = k * i.size) (holds : k = 0 ∨ ∃ b, a0 = some b ∧ ∀ j v, olds[j]? = some v → w.cell? (b.add j) = some v) (h00 : a0 = none → cap0 = 0)
    (a : Addr) (m cap : Nat) (news : List Value) (hl : news.length = m * i.size) (hnews : ∀ j v, news[j]? = some v → w.cell? (a.add j) = some v)
    (hg : cap0 < k + m) (hmost : k + m ≤ 17592186043904) (hroom : (k + m) * i.bytes ≤ 140737488355328) :
    ∃ nc us, (Builtin.append_ #[T, T] ty #[.slice a0 k cap0, .slice (some a) m cap]).run pr w = .ok (.slice (some ⟨w.heap.size, 0, none⟩) (k + m) nc) (w.drew.alloc (.cells us e)) ∧
      k + m ≤ nc ∧ us.size = nc * i.size ∧ us.toList.take ((k + m) * i.size) = olds ++ news := by
  have hlen : (olds ++ news).length = (k + m) * i.size := by rw [List.length_append, hlo, hl, Nat.add_mul]
  cases a0 with
  | none =>
    have h0 := h00 rfl
    subst h0
    have hk : k = 0 := by
      rcases holds with h | ⟨b, h, _⟩
      · exact h
      · cases h
    subst hk
    have ho : olds = [] := List.eq_nil_of_length_eq_zero (by simpa using hlo)
    subst ho
    have h48 : m * i.bytes ≤ 281474976710656 := by rw [Nat.zero_add] at hroom; omega
    refine ⟨grownCap w m 0 e, news.toArray ++ Builtin.zeroCells z.cells (grownCap w m 0 e - m), ?_, ?_, ?_, ?_⟩
    · have := run_append_nil (P := pr) w T ty e i z ht hi hz a m cap news hl hnews (by omega) (by omega) h48
      simpa using this
    · simpa using grownCap_ge w m 0 e
    · have := grownCap_ge w m 0 e
      rw [Array.size_append, size_zeroCells, hzs, List.size_toArray, hl, ← Nat.add_mul]
      congr 1; omega
    · simp only [Array.toList_append, Nat.zero_add, List.nil_append]
      rw [← hl]; exact List.take_left
  | some b =>
    have holds' : ∀ j v, olds[j]? = some v → w.cell? (b.add j) = some v := by
      rcases holds with h | ⟨b', h, h'⟩
      · subst h
        have ho : olds = [] := List.eq_nil_of_length_eq_zero (by simpa using hlo)
        subst ho
        intro j v hj; simp at hj
      · cases h; exact h'
    have hb : (k + m) * i.bytes ≤ 140737488355328 := hroom
    refine ⟨grownCap w (k + m) cap0 e, olds.toArray ++ news.toArray ++ Builtin.zeroCells z.cells (grownCap w (k + m) cap0 e - (k + m)), ?_, grownCap_ge w (k + m) cap0 e, ?_, ?_⟩
    · exact run_append_grow (P := pr) w T ty e i z ht hi hz b k cap0 olds hlo holds' a m cap news hl hnews hg (by omega) (growslice_fits hg hb)
    · have := grownCap_ge w (k + m) cap0 e
      rw [Array.size_append, size_zeroCells, hzs, Array.size_append, List.size_toArray, List.size_toArray, hlo, hl, ← Nat.add_mul, ← Nat.add_mul]
      congr 1; omega
    · simp only [Array.toList_append]
      rw [← hlen]; exact List.take_left

/-- A row that holds a slice that may grow. -/
theorem fresh_grow {c : Cfg} (hg : Good N ly c) {i : Nat} {es : List P} {us : Array Value} (n cap : Nat) (e : TypeId) (hi : c.m[i]? = some .hole ∨ ∃ k0, c.m[i]? = some (.tok n k0) ∧ k0 < es.length)
    (hf : Flat N c.H n es (us.toList.take (es.length * sz n))) (hone : ∀ u ∈ us.toList.take (es.length * sz n), u.oneCell' = true) (hs : cap * sz n ≤ us.size) (hkc : es.length ≤ cap) (w' : World)
    (hw : w'.heap = c.w.heap.push (.cells us e (0, 0))) (hos : w'.os = c.w.os) (htape : w'.tape = c.w.tape) (hout : w'.output = c.w.output) :
    ∃ c' : Cfg, c'.w = w' ∧ c'.m = c.m.set i (.tok n es.length) ∧ Good N ly c' ∧ Trans c c' ∧ Ext c.H c.φ c.m c'.H c'.φ c'.m ∧ VRep N ly c'.H c'.φ c'.m (.sl n i es) (.slice (some ⟨c.w.heap.size, 0, none⟩) es.length cap) := by
  have hil : i < c.m.length := by rcases hi with hi | ⟨_, hi, _⟩ <;> exact (List.getElem?_eq_some_iff.1 hi).1
  have h := new_row N ly hg i (.tok n es.length) us e (es.length * sz n) (by rcases hi with hi | ⟨k0, hi, hlt⟩; exact .inl hi; exact .inr ⟨n, k0, es.length, hi, rfl, hlt⟩)
    (fun j v hj hv => hone v (by rw [← Array.getElem?_toList] at hv; exact List.mem_of_getElem? (by rw [List.getElem?_take_of_lt hj]; exact hv))) rfl w' hw hos htape hout
  refine ⟨⟨c.H.more c.w.heap.size us (es.length * sz n), c.φ.set i (some (c.w.heap.size, us.size)), c.m.set i (.tok n es.length), w'⟩, rfl, rfl, h.1, h.2.1, h.2.2, ?_⟩
  simp only [VRep, Rep]
  refine ⟨⟨_, cap, ⟨rfl, hkc⟩, fun _ => ⟨_, 0, rfl, ?_⟩⟩, .inr ⟨es.length, by simp [hil], Nat.le_refl _, fun _ => .inr ⟨_, _, cap, by simp [hg.len, hil], rfl, hkc, hs⟩⟩⟩
  refine RepEs.of_flat N (Flat.mono N h.2.1.hle hf) fun j u hu => ?_
  have hj : j < es.length * sz n := by
    have := (List.getElem?_eq_some_iff.1 hu).1
    rw [List.length_take] at this; omega
  rw [Nat.zero_add, HM.more_at hj, ← Array.getElem?_toList]
  rw [List.getElem?_take_of_lt hj] at hu; exact hu

end Go.Am

/- The machine's operations are Go's: append. -/

namespace Go.Am
open Go

variable (N : Nm) (ly : Option Nat) (pr : Program)

/-- Type facts of an append. -/
structure AppT (T e n : Nat) (sm : Bool) : Prop where
  ht : pr.underlying T = some (.slice e)
  hi : ∃ i z, pr.info? e = some i ∧ i.zero = some z ∧ i.size = sz n ∧ z.cells.size = sz n ∧ i.bytes ≤ 65536 ∧ (sm = true → i.bytes ≤ 8)

theorem room_of {sm : Bool} {l b : Nat} (h : l ≤ mostOf sm) (hb : b ≤ 65536) (hs : sm = true → b ≤ 8) : l ≤ 17592186043904 ∧ l * b ≤ 140737488355328 := by
  cases sm with
  | true =>
    simp only [mostOf, cond_true] at h
    exact ⟨h, Nat.le_trans (Nat.mul_le_mul h (hs rfl)) (by decide)⟩
  | false =>
    simp only [mostOf, most, cond_false] at h
    exact ⟨by omega, Nat.le_trans (Nat.mul_le_mul h hb) (by decide)⟩

theorem drew_good {c : Cfg} (hg : Good N ly c) : Good N ly ⟨c.H, c.φ, c.m, c.w.drew⟩ ∧ Trans c ⟨c.H, c.φ, c.m, c.w.drew⟩ := same_heap N ly hg c.w.drew rfl rfl rfl rfl

/-- A slice grows into a new row. -/
theorem app_new {c : Cfg} (hg : Good N ly c) {T e n i ty : Nat} {sm : Bool} (hT : AppT pr T e n sm) {es xs : List P} {a0 : Option Addr} {cap0 : Nat} {olds : List Value}
    (hi : c.m[i]? = some .hole ∨ ∃ k0, c.m[i]? = some (.tok n k0) ∧ k0 < es.length + xs.length)
    (hfo : Flat N c.H n es olds) (hoo : ∀ u ∈ olds, u.oneCell' = true) (hro : es.length = 0 ∨ ∃ b, a0 = some b ∧ ∀ j v, olds[j]? = some v → c.w.cell? (b.add j) = some v) (h00 : a0 = none → cap0 = 0)
    {y : V} {v : Value} (hs : (srcOf n y).run c.m = some xs) (hv : VRep N ly c.H c.φ c.m y v) (hx : xs ≠ []) (hg0 : cap0 < es.length + xs.length) (hmost : es.length + xs.length ≤ mostOf sm) :
    ∃ c' : Cfg, ∃ u, (Builtin.append_ #[T, T] ty #[.slice a0 es.length cap0, v]).run pr c.w = .ok u c'.w ∧ c'.m = c.m.set i (.tok n (es.length + xs.length)) ∧ Good N ly c' ∧ Trans c c' ∧ Ext c.H c.φ c.m c'.H c'.φ c'.m ∧
      VRep N ly c'.H c'.φ c'.m (.sl n i (es ++ xs)) u := by
  obtain ⟨inf, z, hi1, hz1, hsz, hzs, hby, hby8⟩ := hT.hi
  obtain ⟨a, cap, news, rfl, hfn, hon, hrn⟩ := src_ok N ly hg hs hv
  obtain ⟨b, off, rfl, hrn2⟩ := hrn hx
  have hlo := Flat.length N hfo
  have hln := Flat.length N hfn
  obtain ⟨nc, us, hrun, h1, h2, h3⟩ := run_app_new pr c.w T ty e inf z hT.ht hi1 hz1 (by rw [hzs, hsz]) hby a0 es.length cap0 olds (by rw [hsz]; exact hlo) hro h00
    ⟨b, off, none⟩ xs.length cap news (by rw [hsz]; exact hln) (fun j v hj => by rw [addr_add]; exact hrn2 j v hj) hg0 (room_of hmost hby hby8).1 (room_of hmost hby hby8).2
  rw [hsz] at h2 h3
  obtain ⟨g1, t1⟩ := drew_good N ly hg
  have hall : ∀ u ∈ olds ++ news, u.oneCell' = true := fun u hu => by
    rcases List.mem_append.1 hu with h | h
    · exact hoo u h
    · exact hon u h
  obtain ⟨c', e1, e2, k1, k2, k3, k4⟩ := fresh_grow N ly g1 (i := i) (es := es ++ xs) (us := us) n nc e (by simpa using hi) (by rw [List.length_append, h3]; exact Flat.append N hfo hfn) (by rw [List.length_append, h3]; exact hall)
    (by omega) (by simpa using h1) (c.w.drew.alloc (.cells us e)) rfl rfl rfl rfl
  refine ⟨c', _, by rw [e1]; exact hrun, by simpa using e2, k1, t1.trans k2, k3, ?_⟩
  simpa using k4

theorem app_grow_ok {c : Cfg} (hg : Good N ly c) {T e n i ty : Nat} {sm : Bool} (hT : AppT pr T e n sm) {x y : V} {u v : Value} {r : Res}
    (hr : (match x with
      | .nil n' => if n' = n then (srcOf n y).bind fun es => if es.length = 0 then .ret { val := .nil n } else
          if es.length ≤ mostOf sm then atHole i { val := .sl n i es, ups := [(i, .tok n es.length)] } else .fail else .fail
      | .sl n' t es => if n' = n then .rd t fun
          | some (.tok n'' c) => if n'' = n ∧ c = es.length then (srcOf n y).bind fun xs =>
              if es.length + xs.length ≤ mostOf sm then .ret { val := .sl n t (es ++ xs), ups := [(t, .tok n (es.length + xs.length))] } else .fail else .fail
          | _ => .fail else .fail
      | _ => .fail : RM Res).run c.m = some r) (hx : VRep N ly c.H c.φ c.m x u) (hy : VRep N ly c.H c.φ c.m y v) :
    OpOk N ly pr c r (do let q ← Builtin.append_ #[T, T] ty #[u, v]; Pure.pure (Next.value q)) := by
  obtain ⟨inf, z, hi1, hz1, hsz, hzs, hby, hby8⟩ := hT.hi
  cases x with
  | nil n' =>
    simp only at hr
    split at hr
    · rename_i hn
      subst hn
      rw [RM.run_bind] at hr
      cases hs : (srcOf n' y).run c.m with
      | none => rw [hs] at hr; simp at hr
      | some es =>
        rw [hs] at hr
        simp only [Option.bind_some] at hr
        simp only [VRep] at hx
        obtain ⟨a0, rfl⟩ := hx
        split at hr
        · rename_i h0
          simp only [RM.run, Option.some.injEq] at hr
          subst hr
          obtain ⟨a, cap, news, rfl, _⟩ := src_ok N ly hg hs hy
          rw [h0]
          exact OpOk.pure N ly pr hg (run_v pr (run_app_none pr c.w T ty e inf hT.ht hi1 a0 a 0 0 cap (Nat.le_refl _))) (by simp only [VRep]; exact ⟨a0, rfl⟩)
        · rename_i h0
          split at hr
          · rename_i hm
            obtain ⟨hh, rfl⟩ := run_atHole hr
            obtain ⟨c', q, k0, k1, k2, k3, k4, k5⟩ := app_new N ly pr hg (es := []) (olds := []) (a0 := a0) (cap0 := 0) (ty := ty) hT (.inl hh) (by simp [Flat]) (by simp) (.inl rfl) (fun _ => rfl) hs hy
              (fun h => h0 (by simp [h])) (by simp; omega) (by simpa using hm)
            exact ⟨q, c', .inl (run_v pr k0), by rw [applyUps_one]; simpa using k1, k2, k3, k4, by simpa using k5⟩
          · simp [RM.run] at hr
    · simp [RM.run] at hr
  | sl n' t es =>
    simp only at hr
    split at hr
    · rename_i hn
      subst hn
      simp only [RM.run] at hr
      cases hb : c.m[t]? with
      | none => rw [hb] at hr; simp [RM.run] at hr
      | some bl =>
        rw [hb] at hr
        cases bl with
        | cells _ => simp [RM.run] at hr
        | dead => simp [RM.run] at hr
        | hole => simp [RM.run] at hr
        | tok n'' k =>
          simp only at hr
          split at hr
          · rename_i hk
            obtain ⟨rfl, rfl⟩ := hk
            rw [RM.run_bind] at hr
            cases hs : (srcOf n'' y).run c.m with
            | none => rw [hs] at hr; simp at hr
            | some xs =>
              rw [hs] at hr
              simp only [Option.bind_some] at hr
              split at hr
              · rename_i hm
                simp only [RM.run, Option.some.injEq] at hr
                subst hr
                have htl : t < c.m.length := (List.getElem?_eq_some_iff.1 hb).1
                simp only [VRep] at hx
                obtain ⟨hrep, htok⟩ := hx
                have htok' : (es.length = 0 ∧ ∃ a, u = .slice a 0 0) ∨ ∃ R s cap, c.φ[t]? = some (some (R, s)) ∧ u = .slice (some ⟨R, 0, none⟩) es.length cap ∧ es.length ≤ cap ∧ cap * sz n'' ≤ s := by
                  rcases htok with h | ⟨k, h1, h2, h3⟩
                  · rw [hb] at h; cases h
                  · rw [hb] at h1; cases h1; exact h3 rfl
                by_cases hxs : xs = []
                · -- nothing is appended
                  subst hxs
                  obtain ⟨a, cap, news, rfl, _⟩ := src_ok N ly hg hs hy
                  have hsame : c.m.set t (.tok n'' (es.length + ([] : List P).length)) = c.m := by
                    simp only [List.length_nil, Nat.add_zero]
                    apply List.ext_getElem?
                    intro j
                    by_cases hj : t = j
                    · subst hj; rw [List.getElem?_set_self htl]; exact hb.symm
                    · rw [List.getElem?_set_ne hj]
                  have hrun : ∃ cc, (Builtin.append_ #[T, T] ty #[u, .slice a 0 cap]).run pr c.w = .ok u c.w ∧ cc = 0 := by
                    rcases htok' with ⟨h0, a0, rfl⟩ | ⟨R, s, cp, _, rfl, hle, _⟩
                    · exact ⟨0, run_app_none pr c.w T ty e inf hT.ht hi1 a0 a 0 0 cap (Nat.le_refl _), rfl⟩
                    · exact ⟨0, run_app_none pr c.w T ty e inf hT.ht hi1 _ a es.length cp cap hle, rfl⟩
                  obtain ⟨_, hrun, _⟩ := hrun
                  refine ⟨u, c, .inl (run_v pr hrun), by rw [applyUps_one, hsame], hg, Trans.refl c, Ext.refl, ?_⟩
                  simp only [List.append_nil, VRep]
                  exact ⟨hrep, htok⟩
                · rcases htok' with ⟨h0, a0, rfl⟩ | ⟨R, s, cp, hφ, rfl, hle, hcs⟩
                  · -- it was nil
                    have he : es = [] := List.eq_nil_of_length_eq_zero h0
                    subst he
                    obtain ⟨c', q, k0, k1, k2, k3, k4, k5⟩ := app_new N ly pr hg (es := []) (olds := []) (a0 := a0) (cap0 := 0) (ty := ty) hT
                      (.inr ⟨0, hb, by cases xs; exact absurd rfl hxs; simp⟩) (by simp [Flat]) (by simp) (.inl rfl) (fun _ => rfl) hs hy hxs (by cases xs; exact absurd rfl hxs; simp) (by simpa using hm)
                    exact ⟨q, c', .inl (run_v pr k0), by rw [applyUps_one]; simpa using k1, k2, k3, k4, by simpa using k5⟩
                  · -- it has a row
                    obtain ⟨R', s', arr, e', q1, q2, q3, q4⟩ : ∃ R' s' arr e', c.φ[t]? = some (some (R', s')) ∧ c.w.heap[R']? = some (.cells arr e' (0, 0)) ∧ arr.size = s' ∧ ∀ o, es.length * sz n'' ≤ o → c.H R' o = none := by
                      rcases hg.blk t _ hb with ⟨_, h1⟩ | h
                      · rw [hφ] at h1; cases h1
                      · exact h
                    rw [hφ] at q1; cases q1
                    -- its elements as cells
                    obtain ⟨olds, hfo, hco⟩ : ∃ olds, Flat N c.H n'' es olds ∧ ∀ j w, olds[j]? = some w → c.H R j = some w := by
                      by_cases he : es = []
                      · subst he; exact ⟨[], by simp [Flat], fun j w h => by simp at h⟩
                      · simp only [Rep] at hrep
                        obtain ⟨a, cap, ⟨ha, _⟩, hne⟩ := hrep
                        obtain ⟨b, off, rfl, hr⟩ := hne he
                        simp only [Value.slice.injEq, Option.some.injEq, Addr.mk.injEq] at ha
                        obtain ⟨⟨rfl, rfl, _⟩, _, _⟩ := ha
                        obtain ⟨vs, hf, hc⟩ := RepEs.flat N (hg.hok N ly) hr
                        exact ⟨vs, hf, fun j w hj => by have := hc j w hj; simpa using this⟩
                    have hlo := Flat.length N hfo
                    have hoo : ∀ w ∈ olds, w.oneCell' = true := fun w hw => by
                      obtain ⟨j, hj⟩ := List.getElem?_of_mem hw
                      exact (hg.frz _ _ _ (hco j w hj)).2
                    have hcell : ∀ j w, olds[j]? = some w → arr[j]? = some w := fun j w hj => by
                      have := (hg.frz _ _ _ (hco j w hj)).1
                      simpa [World.cell?, q2] using this
                    have hlo' : es.length * sz n'' ≤ arr.size := by
                      have := Nat.mul_le_mul_right (sz n'') hle
                      omega
                    have htake : arr.toList.take (es.length * sz n'') = olds := by
                      apply List.ext_getElem?
                      intro j
                      by_cases hj : j < es.length * sz n''
                      · rw [List.getElem?_take_of_lt hj]
                        have : olds[j]? = some olds[j] := List.getElem?_eq_getElem (by omega)
                        rw [this, Array.getElem?_toList]; exact hcell j _ this
                      · rw [List.getElem?_eq_none (by simp; omega), List.getElem?_eq_none (by omega)]
                    by_cases hroom : es.length + xs.length ≤ cp
                    · obtain ⟨a, cap, news, rfl, hfn, hon, hrn⟩ := src_ok N ly hg hs hy
                      obtain ⟨b, off, rfl, hrn2⟩ := hrn hxs
                      have hln := Flat.length N hfn
                      have hfit : es.length * sz n'' + news.length ≤ arr.size := by
                        have := Nat.mul_le_mul_right (sz n'') hroom
                        rw [Nat.add_mul] at this
                        omega
                      have hrun := run_app_room pr c.w T ty e inf hT.ht hi1 R es.length cp arr e' q2 ⟨b, off, none⟩ xs.length cap news (by rw [hsz]; exact hln) (fun j v hj => by rw [addr_add]; exact hrn2 j v hj) hon hroom (by rw [hsz]; exact hfit)
                      rw [hsz, htake] at hrun
                      let arr' : Array Value := (olds ++ news ++ arr.toList.drop (es.length * sz n'' + news.length)).toArray
                      have ha' : arr'.size = arr.size := by simp [arr']; omega
                      have hlen2 : (olds ++ news).length = (es.length + xs.length) * sz n'' := by rw [List.length_append, hlo, hln, Nat.add_mul]
                      have hget : ∀ j, j < (es.length + xs.length) * sz n'' → arr'[j]? = (olds ++ news)[j]? := fun j hj => by
                        simp only [arr']
                        rw [List.getElem?_toArray, List.getElem?_append_left (by omega)]
                      have hmul : es.length * sz n'' ≤ (es.length + xs.length) * sz n'' := Nat.mul_le_mul_right _ (by omega)
                      have hgrow := grow_row N ly hg t R s n'' es.length (es.length + xs.length) arr arr' e' hb hφ q2 ha' (by omega)
                        (fun j hj => by
                          rw [hget j (by omega), List.getElem?_append_left (by omega)]
                          have : olds[j]? = some olds[j] := List.getElem?_eq_getElem (by omega)
                          rw [this]; exact (hcell j _ this).symm)
                        (fun j v _ hj hv => by
                          rw [hget j hj] at hv
                          rcases List.mem_append.1 (List.mem_of_getElem? hv) with h | h
                          · exact hoo v h
                          · exact hon v h) q3 (fun o v ho hv => by rw [q4 o ho] at hv; cases hv) (fun j v hj hv => by
                          have : olds[j]? = some olds[j] := List.getElem?_eq_getElem (by omega)
                          have h2 := hcell j _ this
                          rw [hv] at h2; cases h2
                          exact hoo _ (List.getElem_mem (by omega)))
                      refine ⟨.slice (some ⟨R, 0, none⟩) (es.length + xs.length) cp, _, .inl (run_v pr hrun), by rw [applyUps_one], hgrow.1, hgrow.2.1, hgrow.2.2, ?_⟩
                      simp only [VRep, Rep]
                      refine ⟨⟨_, cp, ⟨by rw [List.length_append], by simpa using hroom⟩, fun _ => ⟨R, 0, rfl, ?_⟩⟩, .inr ⟨es.length + xs.length, by simp [htl], by simp, fun _ => .inr ⟨R, s, cp, hφ, rfl, hroom, hcs⟩⟩⟩
                      refine RepEs.of_flat N (Flat.mono N hgrow.2.1.hle (Flat.append N hfo hfn)) fun j w hj => ?_
                      have hjl : j < (es.length + xs.length) * sz n'' := by rw [← hlen2]; exact (List.getElem?_eq_some_iff.1 hj).1
                      rw [Nat.zero_add, HM.more_at hjl]
                      rw [hget j hjl]; exact hj
                    · obtain ⟨c', q, k0, k1, k2, k3, k4, k5⟩ := app_new N ly pr hg (es := es) (olds := olds) (a0 := some ⟨R, 0, none⟩) (cap0 := cp) (ty := ty) hT
                        (.inr ⟨es.length, hb, by cases xs; exact absurd rfl hxs; simp⟩) hfo hoo (.inr ⟨_, rfl, fun j w hj => by rw [addr_add, Nat.zero_add]; exact (hg.frz _ _ _ (hco j w hj)).1⟩) (fun h => by cases h) hs hy hxs (by omega) hm
                      exact ⟨q, c', .inl (run_v pr k0), by rw [applyUps_one]; exact k1, k2, k3, k4, k5⟩
              · simp [RM.run] at hr
          · simp [RM.run] at hr
    · simp [RM.run] at hr
  | _ => simp [RM.run] at hr

end Go.Am

/- The machine's operations are Go's: addresses, slices of slices, parts of structs. -/

namespace Go.Am
open Go

variable (N : Nm) (ly : Option Nat) (pr : Program)

theorem rep_notAgg {c : Cfg} (hg : Good N ly c) {b off : Nat} {ps : List P} (h : RepCs N c.H b ps off) : ∀ p ∈ ps, p.isAgg = false := fun p hp => by
  obtain ⟨j, hj⟩ := List.getElem?_of_mem hp
  obtain ⟨u, k1, k2⟩ := RepCs.get N h j p hj
  have := isCell_of_rep N k2 (hg.hok N ly _ _ _ k1)
  cases p <;> first | rfl | simp [V.isCell] at this

/-! ### Slices of slices -/

def mOpt (x : Option Opd) (o : Option Operand) : Bool :=
  match x, o with
  | none, none => true
  | some x, some o => mOpd N x o
  | _, _ => false

theorem run_bounds (w : World) (isSl : Bool) (len cap l h : Nat) (lo hi : Option Value) (hlo : (lo = none ∧ l = 0) ∨ ∃ k, lo = some (.int k (l : Int))) (hhi : (hi = none ∧ h = len) ∨ ∃ k, hi = some (.int k (h : Int))) (h1 : l ≤ h) (h2 : h ≤ cap) :
    (Instr.sliceBounds isSl len cap lo hi none).run pr w = .ok (l, h, cap) w := by
  rcases hlo with ⟨rfl, rfl⟩ | ⟨k, rfl⟩ <;> rcases hhi with ⟨rfl, rfl⟩ | ⟨k', rfl⟩ <;>
    simp [Instr.sliceBounds, run_sliceBound, h1, h2]

theorem lo_rep {c : Cfg} {fr : Fr} {a : Act} (hf : FRep N ly c fr a.tmps) {x : Option Opd} {o : Option Operand} (hm : mOpt N x o = true) {l d : Nat} (hl : x.elim (some d) (bound · fr) = some l) :
    (o.map a.eval = none ∧ l = d) ∨ ∃ k, o.map a.eval = some (.int k (l : Int)) := by
  unfold mOpt at hm
  split at hm
  · simp at hl; exact .inl ⟨rfl, hl.symm⟩
  · rename_i x o
    simp only [Option.elim] at hl
    obtain ⟨k, hk⟩ := bound_rep N ly hl (opd_rep N ly hf hm)
    exact .inr ⟨k, by simp [hk]⟩
  · cases hm

theorem take_drop_get {α : Type} (es : List α) (l h j : Nat) (x : α) (hx : ((es.take h).drop l)[j]? = some x) : es[l + j]? = some x ∧ l + j < h := by
  rw [List.getElem?_drop, List.getElem?_take] at hx
  split at hx
  · exact ⟨hx, by assumption⟩
  · cases hx

theorem slice_data {c : Cfg} {n : Nat} {es : List P} {a : Option Addr} {len cap l h : Nat} (hv : Rep N c.H (.sl n es) (.slice a len cap)) (h1 : l ≤ h) (h2 : h ≤ es.length) :
    Rep N c.H (.sl n ((es.take h).drop l)) (.slice (if cap = l then a else a.map (·.add (l * sz n))) (h - l) (cap - l)) := by
  simp only [Rep] at hv ⊢
  obtain ⟨a', cap', ⟨he, hcap⟩, hne⟩ := hv
  simp only [Value.slice.injEq] at he
  obtain ⟨rfl, rfl, rfl⟩ := he
  have hlen : ((es.take h).drop l).length = h - l := by simp; omega
  refine ⟨_, cap - l, ⟨by rw [hlen], by omega⟩, fun hx => ?_⟩
  have hlh : l < h := by
    rcases Nat.lt_or_ge l h with h' | h'
    · exact h'
    · exact absurd (List.eq_nil_of_length_eq_zero (by omega)) hx
  have hes : es ≠ [] := fun e => by subst e; simp at h2; omega
  obtain ⟨b, off, rfl, hr⟩ := hne hes
  by_cases hc : cap = l
  · omega
  · rw [if_neg hc]
    refine ⟨b, off + l * sz n, by simp [addr_add], RepEs.of N fun j p hj => ?_⟩
    obtain ⟨hj', _⟩ := take_drop_get es l h j p hj
    have := RepEs.get N hr (l + j) p hj'
    rwa [Nat.add_mul, ← Nat.add_assoc] at this


def mSlice (T n : Nat) (arr : Option Nat) : Bool :=
  match pr.underlying T, arr with
  | some (.slice e), none => kindOk pr e n
  | some (.array k e), some k' => k == k' && kindOk pr e n
  | _, _ => false

theorem slice_ok {c : Cfg} (hg : Good N ly c) {fr : Fr} {a : Act} (hf : FRep N ly c fr a.tmps) {T n base len : Nat} {arr : Option Nat} {x : Opd} {lo hi : Option Opd} {y : Operand} {lo' hi' : Option Operand} (E : Env) {r : Res}
    (hm : mSlice pr T n arr = true) (hx : mOpd N x y = true) (hlo : mOpt N lo lo' = true) (hhi : mOpt N hi hi' = true) (hr : (exec1 E base len fr (.slice n arr x lo hi)).run c.m = some r) :
    OpOk N ly pr c r (do let q ← Instr.sliceAt T (a.eval y) (lo'.map a.eval) (hi'.map a.eval) none; Pure.pure (Next.value q)) := by
  have hv := opd_rep N ly hf hx
  simp only [exec1] at hr
  cases hl : lo.elim (some 0) (bound · fr) with
  | none => rw [hl] at hr; simp [RM.run] at hr
  | some l =>
    rw [hl] at hr
    simp only at hr
    have hL := lo_rep N ly hf hlo hl
    unfold mSlice at hm
    cases hu : pr.underlying T with
    | none => rw [hu] at hm; simp at hm
    | some d =>
      rw [hu] at hm
      cases arr with
      | none =>
        cases d <;> simp only at hm <;> try (cases hm; done)
        rename_i e
        obtain ⟨_, hsz⟩ := kindOk.run pr hm c.w
        have hsl : ∀ (A : Option Addr) (ln cp h : Nat), a.eval y = .slice A ln cp → hi.elim (some ln) (bound · fr) = some h → l ≤ h → h ≤ cp →
            (Instr.sliceAt T (a.eval y) (lo'.map a.eval) (hi'.map a.eval) none).run pr c.w = .ok (.slice (if cp = l then A else A.map (·.add (l * sz n))) (h - l) (cp - l)) c.w := fun A ln cp h hA hh h1 h2 => by
          have hH := lo_rep N ly hf hhi hh
          have hb := run_bounds pr c.w true ln cp l h (lo'.map a.eval) (hi'.map a.eval) hL hH h1 h2
          rw [hA]
          simp only [Instr.sliceAt, Sem.run_bind, run_underlying hu, Result.andThen_ok, Instr.slice, hb, hsz, Sem.run_pure]
        split at hr
        · rename_i n' es _ hx'
          rw [hx'] at hv
          simp only [VRep] at hv
          split at hr
          · rename_i h hh
            split at hr
            · rename_i hc
              obtain ⟨rfl, h1, h2⟩ := hc
              simp only [RM.run, Option.some.injEq] at hr; subst hr
              obtain ⟨A, cp, ⟨hA, hcp⟩, hne⟩ : ∃ A cp, (a.eval y = .slice A es.length cp ∧ es.length ≤ cp) ∧ _ := by simpa only [Rep] using hv
              refine OpOk.pure N ly pr hg (run_v pr (hsl A es.length cp h hA hh h1 (by omega))) ?_
              simp only [VRep]
              rw [hA] at hv
              exact slice_data N hv h1 h2
            · simp [RM.run] at hr
          · simp [RM.run] at hr
        · rename_i n' t es _ hx'
          rw [hx'] at hv
          simp only [VRep] at hv
          have hv := hv.1
          split at hr
          · rename_i h hh
            split at hr
            · rename_i hc
              obtain ⟨rfl, h1, h2⟩ := hc
              simp only [RM.run, Option.some.injEq] at hr; subst hr
              obtain ⟨A, cp, ⟨hA, hcp⟩, hne⟩ : ∃ A cp, (a.eval y = .slice A es.length cp ∧ es.length ≤ cp) ∧ _ := by simpa only [Rep] using hv
              refine OpOk.pure N ly pr hg (run_v pr (hsl A es.length cp h hA hh h1 (by omega))) ?_
              simp only [VRep]
              rw [hA] at hv
              exact slice_data N hv h1 h2
            · simp [RM.run] at hr
          · simp [RM.run] at hr
        · rename_i n' _ hx'
          rw [hx'] at hv
          simp only [VRep] at hv
          obtain ⟨A, hA⟩ := hv
          split at hr
          · rename_i h hh
            split at hr
            · rename_i hc
              obtain ⟨rfl, rfl, rfl⟩ := hc
              simp only [RM.run, Option.some.injEq] at hr; subst hr
              refine OpOk.pure N ly pr hg (run_v pr (hsl A 0 0 0 hA hh (Nat.le_refl _) (Nat.le_refl _))) ?_
              simp only [VRep]; exact ⟨_, rfl⟩
            · simp [RM.run] at hr
          · simp [RM.run] at hr
        · rename_i n' b off ln _ hx'
          rw [hx'] at hv
          simp only [VRep] at hv
          split at hr
          · rename_i h hh
            split at hr
            · rename_i hc
              obtain ⟨rfl, h1, h2⟩ := hc
              simp only [RM.run, Option.some.injEq] at hr; subst hr
              rcases hv with ⟨rfl, A, hA⟩ | ⟨R, s, cp, k1, k2, hA, k3, k4⟩
              · have : h = 0 := by omega
                subst this
                have : l = 0 := by omega
                subst this
                refine OpOk.pure N ly pr hg (run_v pr (hsl A 0 0 0 hA hh (Nat.le_refl _) (Nat.le_refl _))) ?_
                simp only [VRep]; exact .inl ⟨rfl, _, rfl⟩
              · refine OpOk.pure N ly pr hg (run_v pr (hsl _ ln cp h hA hh h1 (by omega))) ?_
                simp only [VRep]
                by_cases hcl : cp = l
                · rw [if_pos hcl]
                  refine .inl ⟨by omega, _, by rw [hcl, Nat.sub_self, show h - l = 0 by omega]⟩
                · rw [if_neg hcl]
                  refine .inr ⟨R, s, cp - l, k1, k2, by simp [addr_add], by omega, ?_⟩
                  have : l * sz n' + (cp - l) * sz n' = cp * sz n' := by rw [← Nat.add_mul]; congr 1; omega
                  omega
            · simp [RM.run] at hr
          · simp [RM.run] at hr
        · rename_i hbad _; cases hbad
        · rename_i hbad _; cases hbad
        · simp [RM.run] at hr
      | some k =>
        cases d <;> simp only at hm <;> try (cases hm; done)
        rename_i k' e
        simp only [Bool.and_eq_true, beq_iff_eq] at hm
        obtain ⟨rfl, hm⟩ := hm
        obtain ⟨_, hsz⟩ := kindOk.run pr hm c.w
        have hsl : ∀ (A : Addr) (h : Nat), a.eval y = .pointer (some A) → hi.elim (some k') (bound · fr) = some h → l ≤ h → h ≤ k' →
            (Instr.sliceAt T (a.eval y) (lo'.map a.eval) (hi'.map a.eval) none).run pr c.w = .ok (.slice (some (if k' = l then A else A.add (l * sz n))) (h - l) (k' - l)) c.w := fun A h hA hh h1 h2 => by
          have hH := lo_rep N ly hf hhi hh
          have hb := run_bounds pr c.w false k' k' l h (lo'.map a.eval) (hi'.map a.eval) hL hH h1 h2
          rw [hA]
          simp only [Instr.sliceAt, Sem.run_bind, run_underlying hu, Result.andThen_ok, Instr.sureAddr, Sem.run_pure, hb, hsz]
        split at hr
        · rename_i hbad _; cases hbad
        · rename_i hbad _; cases hbad
        · rename_i hbad _; cases hbad
        · rename_i hbad _; cases hbad
        · rename_i len' b off heq hx'
          cases heq
          rw [hx'] at hv
          split at hr
          · rename_i h hh
            split at hr
            · rename_i hc
              obtain ⟨h1, h2⟩ := hc
              rw [RM.run_bind] at hr
              cases hcs : (getC b).run c.m with
              | none => rw [hcs] at hr; simp at hr
              | some cs =>
                rw [hcs] at hr
                simp only [Option.bind_some] at hr
                split at hr
                · rename_i hle
                  simp only [RM.run, Option.some.injEq] at hr; subst hr
                  have hb := run_getC_some hcs
                  simp only [VRep] at hv
                  obtain ⟨R, s, k1, k2, hA⟩ := hv
                  obtain ⟨arr, e', q1, q2, q3, _⟩ := cells_read N ly hg hb k2
                  refine OpOk.pure N ly pr hg (run_v pr (hsl _ h hA hh h1 h2)) ?_
                  simp only [VRep]
                  by_cases hcl : k' = l
                  · refine .inl ⟨by omega, _, by rw [hcl, Nat.sub_self, show h - l = 0 by omega]⟩
                  · rw [if_neg hcl]
                    refine .inr ⟨R, s, k' - l, k1, k2, by simp [addr_add], by omega, ?_⟩
                    have : l * sz n + (k' - l) * sz n = k' * sz n := by rw [← Nat.add_mul]; congr 1; omega
                    omega
                · simp [RM.run] at hr
            · simp [RM.run] at hr
          · simp [RM.run] at hr
        · rename_i len' ps heq hx'
          cases heq
          rw [hx'] at hv
          split at hr
          · rename_i h hh
            split at hr
            · rename_i hc
              obtain ⟨h1, h2, h3⟩ := hc
              simp only [RM.run, Option.some.injEq] at hr; subst hr
              simp only [VRep, Rep] at hv
              obtain ⟨b, off, hA, hr⟩ := hv
              refine OpOk.pure N ly pr hg (run_v pr (hsl _ h hA hh h1 h2)) ?_
              simp only [VRep, Rep]
              rw [chunk_length]
              refine ⟨_, k' - l, ⟨rfl, by omega⟩, fun hne => ?_⟩
              by_cases hcl : k' = l
              · exfalso; apply hne
                have : h - l = 0 := by omega
                rw [this]; rfl
              · rw [if_neg hcl]
                refine ⟨b, off + l * sz n, by rw [addr_add], ?_⟩
                refine RepCs.chunk N (RepCs.drop N hr (l * sz n)) ?_ (fun p hp => rep_notAgg N ly hg hr p (List.mem_of_mem_drop hp))
                have : (h - l) * sz n + l * sz n ≤ k' * sz n := by rw [← Nat.add_mul]; exact Nat.mul_le_mul_right _ (by omega)
                simp; omega
            · simp [RM.run] at hr
          · simp [RM.run] at hr
        · simp [RM.run] at hr

end Go.Am

/- The machine's operations are Go's: addresses, parts, arithmetic. -/

namespace Go.Am
open Go

variable (N : Nm) (ly : Option Nat) (pr : Program)

/-! ### Addresses -/

def mField (T off : Nat) (f : Nat) : Option TypeId :=
  match pr.underlying T with
  | some (.struct fs) => match fs[f]? with
    | some fd => if fd.offset = off then some fd.type else none
    | none => none
  | _ => none

def mFaddr (T off f : Nat) : Bool :=
  match mField pr T off f with
  | some t => match pr.info? t with
    | some i => i.size != 0
    | none => false
  | none => false

theorem mField_some {T off f t : Nat} (h : mField pr T off f = some t) : ∃ fs fd, pr.underlying T = some (.struct fs) ∧ fs[f]? = some fd ∧ fd.offset = off ∧ fd.type = t := by
  unfold mField at h
  split at h
  · rename_i fs hu
    split at h
    · rename_i fd hf
      split at h
      · rename_i ho
        cases h
        exact ⟨fs, fd, hu, hf, ho, rfl⟩
      · cases h
    · cases h
  · cases h

theorem faddr_run {T off f b o : Nat} (w : World) (hm : mFaddr pr T off f = true) : (Instr.fieldAt T (.pointer (some ⟨b, o, none⟩)) f).run pr w = .ok (.pointer (some ⟨b, o + off, none⟩)) w := by
  unfold mFaddr at hm
  split at hm
  · rename_i t ht
    split at hm
    · rename_i i hi
      obtain ⟨fs, fd, hu, hf, rfl, rfl⟩ := mField_some pr ht
      have hs : ¬ i.size = 0 := by simpa using hm
      simp [Instr.fieldAt, run_underlying hu, hf, Instr.sureAddr, fieldPlace, sizeOf, typeInfo, hi, hs, addr_add]
    · cases hm
  · cases hm

theorem faddr_ok {c : Cfg} (hg : Good N ly c) {fr : Fr} {a : Act} (hf : FRep N ly c fr a.tmps) {T base len off f : Nat} {x : Opd} {y : Operand} (E : Env) {r : Res}
    (hm : mFaddr pr T off f = true) (hx : mOpd N x y = true) (hr : (exec1 E base len fr (.faddr off x)).run c.m = some r) :
    OpOk N ly pr c r (do let q ← Instr.fieldAt T (a.eval y) f; Pure.pure (Next.value q)) := by
  have hv := opd_rep N ly hf hx
  simp only [exec1] at hr
  split at hr
  · rename_i b o hx'
    rw [hx'] at hv
    simp only [RM.run, Option.some.injEq] at hr; subst hr
    simp only [VRep] at hv
    obtain ⟨R, s, k1, k2, hA⟩ := hv
    refine OpOk.pure N ly pr hg (run_v pr (by rw [hA]; exact faddr_run pr c.w hm)) ?_
    simp only [VRep]; exact ⟨R, s, k1, k2, rfl⟩
  · rename_i ps hx'
    rw [hx'] at hv
    simp only [RM.run, Option.some.injEq] at hr; subst hr
    simp only [VRep, Rep] at hv
    obtain ⟨b, o, hA, hc⟩ := hv
    refine OpOk.pure N ly pr hg (run_v pr (by rw [hA]; exact faddr_run pr c.w hm)) ?_
    simp only [VRep, Rep]; exact ⟨b, o + off, rfl, RepCs.drop N hc off⟩
  · simp [RM.run] at hr

theorem iaddr_ok {c : Cfg} (hg : Good N ly c) {fr : Fr} {a : Act} (hf : FRep N ly c fr a.tmps) {T n base len : Nat} {arr : Option Nat} {x i : Opd} {y j : Operand} (E : Env) {r : Res}
    (hm : mSlice pr T n arr = true) (hx : mOpd N x y = true) (hi : mOpd N i j = true) (hr : (exec1 E base len fr (.iaddr n arr x i)).run c.m = some r) :
    OpOk N ly pr c r (do let q ← Instr.indexAt T (a.eval y) (a.eval j); Pure.pure (Next.value q)) := by
  have hv := opd_rep N ly hf hx
  simp only [exec1] at hr
  cases hb : bound i fr with
  | none => rw [hb] at hr; simp [RM.run] at hr
  | some k =>
    rw [hb] at hr
    simp only at hr
    obtain ⟨kd, hk⟩ := bound_rep N ly hb (opd_rep N ly hf hi)
    rw [hk]
    unfold mSlice at hm
    cases hu : pr.underlying T with
    | none => rw [hu] at hm; simp at hm
    | some d =>
      rw [hu] at hm
      cases arr with
      | none =>
        cases d <;> simp only at hm <;> try (cases hm; done)
        rename_i e
        obtain ⟨_, hsz⟩ := kindOk.run pr hm c.w
        have hrun : ∀ (b o ln cp : Nat), a.eval y = .slice (some ⟨b, o, none⟩) ln cp → k < ln →
            (Instr.indexAt T (a.eval y) (.int kd (k : Int))).run pr c.w = .ok (.pointer (some ⟨b, o + k * sz n, none⟩)) c.w := fun b o ln cp hA hlt => by
          rw [hA]
          simp [Instr.indexAt, asIntOf, run_underlying hu, hlt, hsz, addr_add]
        have data : ∀ {es : List P} {e : P}, Rep N c.H (.sl n es) (a.eval y) → es[k]? = some e → ∃ q, (Instr.indexAt T (a.eval y) (.int kd (k : Int))).run pr c.w = .ok q c.w ∧ VRep N ly c.H c.φ c.m (.p (.ptr e.cells)) q := by
          intro es e hv he
          simp only [Rep] at hv
          obtain ⟨A, cp, ⟨hA, _⟩, hne⟩ := hv
          have hkl : k < es.length := (List.getElem?_eq_some_iff.1 he).1
          obtain ⟨b, o, rfl, hr⟩ := hne (fun h => by subst h; simp at hkl)
          refine ⟨_, hrun b o es.length cp hA hkl, ?_⟩
          obtain ⟨v, hl, hp, hag⟩ := RepEs.get N hr k e he
          simp only [VRep, Rep]
          refine ⟨b, o + k * sz n, rfl, ?_⟩
          rcases hl with ⟨hn, h0⟩ | ⟨hn, cs, h1, rfl, h2⟩
          · have hna : e.isAgg = false := by
              cases h : e.isAgg with
              | false => rfl
              | true => exact absurd hn (hag.1 h)
            have : e.cells = [e] := by cases e <;> first | rfl | simp [P.isAgg] at hna
            rw [this]
            exact RepCs.of N fun j p hj => by
              cases j with
              | zero => simp at hj; subst hj; exact ⟨v, by simpa using h0, hp⟩
              | succ j => simp at hj
          · have he' := hag.2 hn
            cases e <;> simp only [P.isAgg, Bool.false_eq_true] at he'
            rename_i ps
            simp only [Rep] at hp
            obtain ⟨cs', hcs, hp⟩ := hp
            have : cs = cs' := by simpa using hcs
            subst this
            simp only [P.cells]
            exact RepCs.of N fun j p hj => by
              obtain ⟨u, k1, k2⟩ := Reps.get N hp j p hj
              exact ⟨u, h2 j u k1, k2⟩
        split at hr
        · rename_i n' es _ hx'
          rw [hx'] at hv
          split at hr
          · rename_i hn
            subst hn
            rw [run_lift] at hr
            cases he : es[k]? with
            | none => rw [he] at hr; simp at hr
            | some e =>
              rw [he] at hr; simp at hr; subst hr
              obtain ⟨q, h1, h2⟩ := data (by simpa only [VRep] using hv) he
              exact OpOk.pure N ly pr hg (run_v pr h1) h2
          · simp [RM.run] at hr
        · rename_i n' t es _ hx'
          rw [hx'] at hv
          split at hr
          · rename_i hn
            subst hn
            rw [run_lift] at hr
            cases he : es[k]? with
            | none => rw [he] at hr; simp at hr
            | some e =>
              rw [he] at hr; simp at hr; subst hr
              simp only [VRep] at hv
              obtain ⟨q, h1, h2⟩ := data hv.1 he
              exact OpOk.pure N ly pr hg (run_v pr h1) h2
          · simp [RM.run] at hr
        · rename_i n' b off ln _ hx'
          rw [hx'] at hv
          split at hr
          · rename_i hc
            obtain ⟨rfl, hlt⟩ := hc
            simp only [RM.run, Option.some.injEq] at hr; subst hr
            simp only [VRep] at hv
            rcases hv with ⟨h0, _⟩ | ⟨R, s, cp, k1, k2, hA, k3, k4⟩
            · omega
            · refine OpOk.pure N ly pr hg (run_v pr (hrun R off ln cp hA hlt)) ?_
              simp only [VRep]; exact ⟨R, s, k1, k2, rfl⟩
          · simp [RM.run] at hr
        · rename_i hbad _; cases hbad
        · rename_i hbad _; cases hbad
        · simp [RM.run] at hr
      | some q =>
        cases d <;> simp only at hm <;> try (cases hm; done)
        rename_i q' e
        simp only [Bool.and_eq_true, beq_iff_eq] at hm
        obtain ⟨rfl, hm⟩ := hm
        obtain ⟨_, hsz⟩ := kindOk.run pr hm c.w
        have hrun : ∀ (b o : Nat), a.eval y = .pointer (some ⟨b, o, none⟩) → k < q' →
            (Instr.indexAt T (a.eval y) (.int kd (k : Int))).run pr c.w = .ok (.pointer (some ⟨b, o + k * sz n, none⟩)) c.w := fun b o hA hlt => by
          rw [hA]
          simp [Instr.indexAt, asIntOf, run_underlying hu, hlt, hsz, addr_add, Instr.sureAddr]
        split at hr
        · rename_i hbad _; cases hbad
        · rename_i hbad _; cases hbad
        · rename_i hbad _; cases hbad
        · rename_i len' b off heq hx'
          cases heq
          rw [hx'] at hv
          split at hr
          · rename_i hlt
            simp only [RM.run, Option.some.injEq] at hr; subst hr
            simp only [VRep] at hv
            obtain ⟨R, s, k1, k2, hA⟩ := hv
            refine OpOk.pure N ly pr hg (run_v pr (hrun R off hA hlt)) ?_
            simp only [VRep]; exact ⟨R, s, k1, k2, rfl⟩
          · simp [RM.run] at hr
        · rename_i len' ps heq hx'
          cases heq
          rw [hx'] at hv
          split at hr
          · rename_i hlt
            simp only [RM.run, Option.some.injEq] at hr; subst hr
            simp only [VRep, Rep] at hv
            obtain ⟨b, o, hA, hc⟩ := hv
            refine OpOk.pure N ly pr hg (run_v pr (hrun b o hA hlt)) ?_
            simp only [VRep, Rep]; exact ⟨b, _, rfl, RepCs.drop N hc _⟩
          · simp [RM.run] at hr
        · simp [RM.run] at hr

/-! ### Parts of a value -/

theorem part_run {T n off : Nat} {vs : List Value} (w : World) (hk : kindOk pr T n = true) {v : Value} (hv : (if n = 0 then vs[off]? else if off + n ≤ vs.length then some (.agg ((vs.drop off).take n).toArray) else none) = some v) :
    (part T vs.toArray off).run pr w = .ok v w := by
  obtain ⟨h1, h2⟩ := kindOk.run pr hk w
  by_cases hn : n = 0
  · rw [if_pos hn] at hv
    simp [part, Sem.run_bind, h1, hn, hv]
  · rw [if_neg hn] at hv
    split at hv
    · cases hv
      have hsz : sz n = n := by simp [sz, hn]
      simp only [part, Sem.run_bind, h1, Result.andThen_ok, hn, ne_eq, not_false_eq_true, decide_true, if_true, h2, hsz, Sem.run_pure]
      congr 2
      apply Array.ext'
      simp [List.take_drop]
    · cases hv

theorem part_own {c : Cfg} {n off : Nat} {cs : List V} {vs : List Value} {x : V} (hr : VReps N ly c.H c.φ c.m cs vs) (hx : (if n = 0 then cs[off]? else if off + n ≤ cs.length then some (.agg ((cs.drop off).take n)) else none) = some x) :
    ∃ v, (if n = 0 then vs[off]? else if off + n ≤ vs.length then some (.agg ((vs.drop off).take n).toArray) else none) = some v ∧ VRep N ly c.H c.φ c.m x v := by
  have hl := VReps.length N ly hr
  by_cases hn : n = 0
  · rw [if_pos hn] at hx ⊢
    exact VReps.get N ly hr off x hx
  · rw [if_neg hn] at hx ⊢
    split at hx
    · rename_i hle
      cases hx
      rw [if_pos (by omega)]
      refine ⟨_, rfl, ?_⟩
      simp only [VRep]
      refine ⟨_, rfl, VReps.of N ly (by simp [hl]) fun j p u hp hu => ?_⟩
      simp only [List.getElem?_take, List.getElem?_drop] at hp hu
      split at hp
      · rename_i hj
        rw [if_pos hj] at hu
        obtain ⟨u', k1, k2⟩ := VReps.get N ly hr _ p hp
        rw [k1] at hu; cases hu; exact k2
      · cases hp
    · cases hx

theorem part_data {c : Cfg} {n off : Nat} {cs : List P} {vs : List Value} {x : V} (hr : Reps N c.H cs vs) (hx : (if n = 0 then cs[off]?.map V.p else if off + n ≤ cs.length then some (.p (.agg ((cs.drop off).take n))) else none) = some x) :
    ∃ v, (if n = 0 then vs[off]? else if off + n ≤ vs.length then some (.agg ((vs.drop off).take n).toArray) else none) = some v ∧ VRep N ly c.H c.φ c.m x v := by
  have hl := Reps.length N hr
  by_cases hn : n = 0
  · rw [if_pos hn] at hx ⊢
    simp only [Option.map_eq_some_iff] at hx
    obtain ⟨p, hp, rfl⟩ := hx
    obtain ⟨v, k1, k2⟩ := Reps.get N hr off p hp
    exact ⟨v, k1, by simpa only [VRep] using k2⟩
  · rw [if_neg hn] at hx ⊢
    split at hx
    · rename_i hle
      cases hx
      rw [if_pos (by omega)]
      refine ⟨_, rfl, ?_⟩
      simp only [VRep, Rep]
      refine ⟨_, rfl, Reps.of N (by simp [hl]) fun j p u hp hu => ?_⟩
      simp only [List.getElem?_take, List.getElem?_drop] at hp hu
      split at hp
      · rename_i hj
        rw [if_pos hj] at hu
        obtain ⟨u', k1, k2⟩ := Reps.get N hr _ p hp
        rw [k1] at hu; cases hu; exact k2
      · cases hp
    · cases hx

/-- What is taken out of an aggregate. -/
def partOf (x : V) (off n : Nat) : Option V :=
  match x with
  | .agg cs => if n = 0 then cs[off]? else if off + n ≤ cs.length then some (.agg ((cs.drop off).take n)) else none
  | .p (.agg ps) => if n = 0 then ps[off]?.map V.p else if off + n ≤ ps.length then some (.p (.agg ((ps.drop off).take n))) else none
  | _ => none

theorem partOf_ok {c : Cfg} {n off T : Nat} {x y : V} {v : Value} (w : World) (hk : kindOk pr T n = true) (h : partOf x off n = some y) (hv : VRep N ly c.H c.φ c.m x v) :
    ∃ cs u, v = .agg cs ∧ (part T cs off).run pr w = .ok u w ∧ VRep N ly c.H c.φ c.m y u := by
  unfold partOf at h
  split at h
  · simp only [VRep] at hv
    obtain ⟨vs, rfl, hr⟩ := hv
    obtain ⟨u, k1, k2⟩ := part_own N ly hr h
    exact ⟨_, u, rfl, part_run pr w hk k1, k2⟩
  · simp only [VRep, Rep] at hv
    obtain ⟨vs, rfl, hr⟩ := hv
    obtain ⟨u, k1, k2⟩ := part_data N ly hr h
    exact ⟨_, u, rfl, part_run pr w hk k1, k2⟩
  · cases h

theorem lift_some {α : Type} {m : List Blk} {x : Option α} {f : α → Res} {r : Res} (h : (RM.lift (x.map f)).run m = some r) : ∃ y, x = some y ∧ r = f y := by
  rw [run_lift] at h
  cases x with
  | none => simp at h
  | some y => simp at h; exact ⟨y, rfl, h.symm⟩

theorem field_ok {c : Cfg} (hg : Good N ly c) {fr : Fr} {a : Act} (hf : FRep N ly c fr a.tmps) {T base len off n f t : Nat} {x : Opd} {y : Operand} (E : Env) {r : Res}
    (hm : mField pr T off f = some t) (hk : kindOk pr t n = true) (hx : mOpd N x y = true) (hr : (exec1 E base len fr (.field off n x)).run c.m = some r) :
    OpOk N ly pr c r (do let q ← Instr.field T (a.eval y) f; Pure.pure (Next.value q)) := by
  have hv := opd_rep N ly hf hx
  have hp : ∃ z, partOf (opd fr x) off n = some z ∧ r = { val := z } := by
    simp only [exec1] at hr
    unfold partOf
    split at hr
    · rename_i cs hx'
      rw [hx']
      simp only
      split at hr
      · rename_i hn
        rw [if_pos hn]
        obtain ⟨q, hq, rfl⟩ := lift_some hr
        exact ⟨q, hq, rfl⟩
      · rename_i hn
        rw [if_neg hn]
        split at hr
        · rename_i hle
          simp only [RM.run, Option.some.injEq] at hr; subst hr
          rw [if_pos hle]; exact ⟨_, rfl, rfl⟩
        · simp [RM.run] at hr
    · rename_i cs hx'
      rw [hx']
      simp only
      split at hr
      · rename_i hn
        rw [if_pos hn]
        obtain ⟨q, hq, rfl⟩ := lift_some hr
        exact ⟨.p q, by rw [hq]; rfl, rfl⟩
      · rename_i hn
        rw [if_neg hn]
        split at hr
        · rename_i hle
          simp only [RM.run, Option.some.injEq] at hr; subst hr
          rw [if_pos hle]; exact ⟨_, rfl, rfl⟩
        · simp [RM.run] at hr
    · simp [RM.run] at hr
  obtain ⟨z, hz, rfl⟩ := hp
  obtain ⟨fs, fd, hu, hfd, rfl, rfl⟩ := mField_some pr hm
  obtain ⟨cs, u, hA, hrun, hrep⟩ := partOf_ok N ly pr c.w hk hz hv
  refine OpOk.pure N ly pr hg (run_v pr ?_) hrep
  rw [hA]
  simp only [Instr.field, Sem.run_bind, run_underlying hu, Result.andThen_ok, hfd, asAgg, Sem.run_pure, hrun]

theorem index_ok {c : Cfg} (hg : Good N ly c) {fr : Fr} {a : Act} (hf : FRep N ly c fr a.tmps) {T base len n ln e : Nat} {x i : Opd} {y j : Operand} (E : Env) {r : Res}
    (hu : pr.underlying T = some (.array ln e)) (hk : kindOk pr e n = true) (hx : mOpd N x y = true) (hi : mOpd N i j = true) (hr : (exec1 E base len fr (.index n ln x i)).run c.m = some r) :
    OpOk N ly pr c r (do let q ← Instr.index T (a.eval y) (a.eval j); Pure.pure (Next.value q)) := by
  have hv := opd_rep N ly hf hx
  simp only [exec1] at hr
  cases hb : bound i fr with
  | none => rw [hb] at hr; simp [RM.run] at hr
  | some k =>
    rw [hb] at hr
    simp only at hr
    obtain ⟨kd, hkd⟩ := bound_rep N ly hb (opd_rep N ly hf hi)
    split at hr
    · rename_i hlt
      have hp : ∃ z, partOf (opd fr x) (k * sz n) n = some z ∧ r = { val := z } := by
        unfold partOf
        split at hr
        · rename_i cs hx'
          rw [hx']
          simp only
          split at hr
          · rename_i hn
            rw [if_pos hn]
            obtain ⟨q, hq, rfl⟩ := lift_some hr
            exact ⟨q, by simpa [sz, hn] using hq, rfl⟩
          · rename_i hn
            rw [if_neg hn]
            have : sz n = n := by simp [sz, hn]
            rw [this]
            split at hr
            · rename_i hle
              simp only [RM.run, Option.some.injEq] at hr; subst hr
              rw [if_pos hle]; exact ⟨_, rfl, rfl⟩
            · simp [RM.run] at hr
        · rename_i cs hx'
          rw [hx']
          simp only
          split at hr
          · rename_i hn
            rw [if_pos hn]
            obtain ⟨q, hq, rfl⟩ := lift_some hr
            exact ⟨.p q, by simp [sz, hn, hq], rfl⟩
          · rename_i hn
            rw [if_neg hn]
            have : sz n = n := by simp [sz, hn]
            rw [this]
            split at hr
            · rename_i hle
              simp only [RM.run, Option.some.injEq] at hr; subst hr
              rw [if_pos hle]; exact ⟨_, rfl, rfl⟩
            · simp [RM.run] at hr
        · simp [RM.run] at hr
      obtain ⟨z, hz, rfl⟩ := hp
      obtain ⟨cs, u, hA, hrun, hrep⟩ := partOf_ok N ly pr c.w hk hz hv
      obtain ⟨_, hsz⟩ := kindOk.run pr hk c.w
      refine OpOk.pure N ly pr hg (run_v pr ?_) hrep
      rw [hA, hkd]
      simp [Instr.index, asIntOf, run_underlying hu, hlt, hsz, hrun]
    · simp [RM.run] at hr

end Go.Am

/- The machine's operations are Go's: arithmetic, comparisons, what is left. -/


namespace Go.Am
open Go

variable (N : Nm) (ly : Option Nat) (pr : Program)

/-! ### Arithmetic -/

theorem binI_run {op : BinOp} {k : IntKind} {x y : Int} {r : Value} (h : binI op k x y = some r) (h1 : op ≠ .shl) (h2 : op ≠ .shr) (T : TypeId) (w : World) : (binOp op T (.int k x) (.int k y)).run pr w = .ok r w := by
  cases op <;> simp only [binI, reduceCtorEq, Option.some.injEq] at h <;> first
    | (exact absurd rfl h1)
    | (exact absurd rfl h2)
    | (split at h
       · cases h
       · rename_i hy
         simp only [Option.some.injEq] at h; subst h
         simp [binOp, Op.intDiv, hy])
    | (subst h; simp [binOp, Op.intArith, Op.intBits, Op.intCmp])

/-- A type of scalars, by its kind. -/
def kindCode (T kd : Nat) : Bool :=
  match pr.underlying T, kd with
  | some (.int _), 0 => true
  | some .bool, 1 => true
  | some .string, 2 => true
  | _, _ => false

theorem kindCode.bool {T : Nat} (h : kindCode pr T 1 = true) : pr.underlying T = some .bool := by
  unfold kindCode at h
  cases hu : pr.underlying T with
  | none => simp [hu] at h
  | some d => cases d <;> simp [hu] at h ⊢

theorem kindCode.int {T : Nat} (h : kindCode pr T 0 = true) : ∃ k, pr.underlying T = some (.int k) := by
  unfold kindCode at h
  cases hu : pr.underlying T with
  | none => simp [hu] at h
  | some d => cases d <;> simp [hu] at h ⊢

theorem kindCode.string {T : Nat} (h : kindCode pr T 2 = true) : pr.underlying T = some .string := by
  unfold kindCode at h
  cases hu : pr.underlying T with
  | none => simp [hu] at h
  | some d => cases d <;> simp [hu] at h ⊢

theorem binV_run {op : BinOp} {kd : Nat} {a b r : Value} (h : binV op kd a b = some r) (T : TypeId) (hT : kindCode pr T kd = true) (w : World) : (binOp op T a b).run pr w = .ok r w := by
  unfold binV at h
  split at h
  · rename_i k x k' y
    split at h
    · split at h
      · cases h
      · rename_i hy
        simp only [Option.some.injEq] at h; subst h
        simp [binOp, Op.shift, hy]
    · split at h
      · cases h
      · rename_i hy
        simp only [Option.some.injEq] at h; subst h
        simp [binOp, Op.shift, hy]
    · rename_i hs1 hs2
      split at h
      · rename_i hk
        subst hk
        exact binI_run pr h (fun e => hs1 e) (fun e => hs2 e) T w
      · cases h
  · rename_i x y
    have hmax : IntKind.i64.max = 9223372036854775807 := by decide
    cases op <;> simp only [binS, reduceCtorEq, Option.some.injEq] at h <;> first
      | (subst h; simp [binOp, Op.stringOp]; done)
      | (split at h
         · rename_i hl
           simp only [Option.some.injEq] at h; subst h
           have h2 : ¬ (9223372036854775807 < ((x.size : Int) + (y.size : Int))) := by omega
           simp [binOp, Op.stringOp, hmax, h2]
         · cases h)
  · rename_i x y
    have hu := kindCode.bool pr hT
    have he : ∀ w, (Op.equal T (.bool x) (.bool y)).run pr w = .ok (x == y) w := fun w => run_equalIn_bool' (P := pr) w 9999 T x y hu
    split at h
    · simp only [Option.some.injEq] at h; subst h
      simp [binOp, Sem.run_bind, he]
    · simp only [Option.some.injEq] at h; subst h
      simp [binOp, Sem.run_bind, he]
    · cases h
  · cases h

theorem guard_scalar (op : BinOp) (T : TypeId) (x y : Operand) (a b : Value) (h : ∀ p q, a = .agg p → b = .agg q → False) (h' : a = .nilIface → b = .nilIface → False) (w : World) : (eqGuard op T x y a b).run pr w = .ok () w := by
  cases op <;> simp [eqGuard] <;> (split <;> first
    | (exact (h' rfl rfl).elim)
    | (exact (h _ _ rfl rfl).elim)
    | simp)

theorem binV_not {op : BinOp} {kd : Nat} {a b r : Value} (h : binV op kd a b = some r) : (∀ p q, a = .agg p → b = .agg q → False) ∧ (a = .nilIface → b = .nilIface → False) := by
  constructor
  · rintro p q rfl rfl; simp [binV] at h
  · rintro rfl rfl; simp [binV] at h

theorem bin_ok {c : Cfg} (hg : Good N ly c) {fr : Fr} {a : Act} (hf : FRep N ly c fr a.tmps) {T base len : Nat} {op : BinOp} {kd : Nat} {x y : Opd} {x' y' : Operand} (E : Env) {r : Res}
    (hm : kindCode pr T kd = true) (hx : mOpd N x x' = true) (hy : mOpd N y y' = true) (hr : (exec1 E base len fr (.bin op kd x y)).run c.m = some r) :
    OpOk N ly pr c r (do let q ← (do eqGuard op T x' y' (a.eval x') (a.eval y'); binOp op T (a.eval x') (a.eval y')); Pure.pure (Next.value q)) := by
  have hv := opd_rep N ly hf hx
  have hw := opd_rep N ly hf hy
  simp only [exec1] at hr
  split at hr
  · rename_i u v hu hv'
    obtain ⟨q, hq, rfl⟩ := lift_some hr
    rw [hu] at hv
    rw [hv'] at hw
    simp only [VRep, Rep] at hv hw
    obtain ⟨n1, n2⟩ := binV_not hq
    have hg1 := guard_scalar pr op T x' y' u v n1 n2 c.w
    refine OpOk.pure N ly pr hg (run_v pr ?_) (v := q) (by simp only [VRep, Rep])
    rw [hv, hw]
    simp only [Sem.run_bind, hg1, Result.andThen_ok]
    exact binV_run pr hq T hm c.w
  · simp [RM.run] at hr

/-! ### Structs and arrays of scalars, compared -/

def eqVals : List Nat → List Value → List Value → Option Bool
  | [], [], [] => some true
  | 0 :: ks, .int k a :: r, .int k' b :: s => if k = k' then (if a = b then eqVals ks r s else (eqVals ks r s).map fun _ => false) else none
  | 1 :: ks, .bool a :: r, .bool b :: s => if a = b then eqVals ks r s else (eqVals ks r s).map fun _ => false
  | 2 :: ks, .string a :: r, .string b :: s => if a.toList == b.toList then eqVals ks r s else (eqVals ks r s).map fun _ => false
  | _, _, _ => none

theorem eqCells_vals {c : Cfg} : ∀ {ks : List Nat} {a b : List V} {us vs : List Value} {r : Bool}, eqCells ks a b = some r → VReps N ly c.H c.φ c.m a us → VReps N ly c.H c.φ c.m b vs → eqVals ks us vs = some r := by
  intro ks
  induction ks with
  | nil =>
    intro a b us vs r h hu hv
    cases a <;> cases b <;> simp only [eqCells, reduceCtorEq] at h
    simp only [VReps] at hu hv; subst hu hv
    exact h
  | cons k ks ih =>
    intro a b us vs r h hu hv
    unfold eqCells at h
    split at h
    · rename_i heq; cases heq
    · rename_i ks' k1 p r1 k2 q r2 heq
      cases heq
      simp only [VReps, VRep, Rep] at hu hv
      obtain ⟨_, s1, rfl, rfl, hu⟩ := hu
      obtain ⟨_, s2, rfl, rfl, hv⟩ := hv
      simp only [eqVals]
      split at h
      · rename_i hk
        rw [if_pos hk]
        split at h
        · rename_i hpq; rw [if_pos hpq]; exact ih h hu hv
        · rename_i hpq; rw [if_neg hpq]
          simp only [Option.map_eq_some_iff] at h ⊢
          obtain ⟨z, hz, h⟩ := h
          exact ⟨z, ih hz hu hv, h⟩
      · cases h
    · rename_i ks' p r1 q r2 heq
      cases heq
      simp only [VReps, VRep, Rep] at hu hv
      obtain ⟨_, s1, rfl, rfl, hu⟩ := hu
      obtain ⟨_, s2, rfl, rfl, hv⟩ := hv
      simp only [eqVals]
      split at h
      · rename_i hpq; rw [if_pos hpq]; exact ih h hu hv
      · rename_i hpq; rw [if_neg hpq]
        simp only [Option.map_eq_some_iff] at h ⊢
        obtain ⟨z, hz, h⟩ := h
        exact ⟨z, ih hz hu hv, h⟩
    · rename_i ks' p r1 q r2 heq
      cases heq
      simp only [VReps, VRep, Rep] at hu hv
      obtain ⟨_, s1, rfl, rfl, hu⟩ := hu
      obtain ⟨_, s2, rfl, rfl, hv⟩ := hv
      simp only [eqVals]
      split at h
      · rename_i hpq; rw [if_pos hpq]; exact ih h hu hv
      · rename_i hpq; rw [if_neg hpq]
        simp only [Option.map_eq_some_iff] at h ⊢
        obtain ⟨z, hz, h⟩ := h
        exact ⟨z, ih hz hu hv, h⟩
    · cases h

/-- One pair of scalars. -/
theorem eqVals_cons {k : Nat} {ks : List Nat} {u v : Value} {us vs : List Value} {r : Bool} (h : eqVals (k :: ks) (u :: us) (v :: vs) = some r) {T : Nat} (hT : kindCode pr T k = true) (d : Nat) (w : World) :
    ∃ b s, (Op.equalIn (d + 1) T u v).run pr w = .ok b w ∧ eqVals ks us vs = some s ∧ r = (b && s) := by
  unfold eqVals at h
  split at h
  · rename_i heq _ _; cases heq
  · rename_i ks' k1 p r1 k2 q r2 heq h1 h2
    cases heq; cases h1; cases h2
    obtain ⟨k', hu⟩ := kindCode.int pr hT
    split at h
    · rename_i hk
      subst hk
      refine ⟨p == q, ?_⟩
      split at h
      · rename_i hpq; exact ⟨r, run_equalIn_int (P := pr) w d T k1 k' p q hu, h, by simp [hpq]⟩
      · rename_i hpq
        simp only [Option.map_eq_some_iff] at h
        obtain ⟨z, hz, rfl⟩ := h
        exact ⟨z, run_equalIn_int (P := pr) w d T k1 k' p q hu, hz, by simp [hpq]⟩
    · cases h
  · rename_i ks' p r1 q r2 heq h1 h2
    cases heq; cases h1; cases h2
    have hu := kindCode.bool pr hT
    refine ⟨p == q, ?_⟩
    split at h
    · rename_i hpq; exact ⟨r, run_equalIn_bool' (P := pr) w d T p q hu, h, by simp [hpq]⟩
    · rename_i hpq
      simp only [Option.map_eq_some_iff] at h
      obtain ⟨z, hz, rfl⟩ := h
      exact ⟨z, run_equalIn_bool' (P := pr) w d T p q hu, hz, by simp [hpq]⟩
  · rename_i ks' p r1 q r2 heq h1 h2
    cases heq; cases h1; cases h2
    have hu := kindCode.string pr hT
    refine ⟨p.toList == q.toList, ?_⟩
    split at h
    · rename_i hpq; exact ⟨r, run_equalIn_string (P := pr) w d T p q hu, h, by simp [hpq]⟩
    · rename_i hpq
      simp only [Option.map_eq_some_iff] at h
      obtain ⟨z, hz, rfl⟩ := h
      exact ⟨z, run_equalIn_string (P := pr) w d T p q hu, hz, by simp [hpq]⟩
  · cases h

theorem eqVals_length : ∀ {ks : List Nat} {us vs : List Value} {r : Bool}, eqVals ks us vs = some r → us.length = ks.length ∧ vs.length = ks.length := by
  intro ks
  induction ks with
  | nil => intro us vs r h; cases us <;> cases vs <;> simp [eqVals] at h; exact ⟨rfl, rfl⟩
  | cons k ks ih =>
    intro us vs r h
    unfold eqVals at h
    split at h
    · rename_i heq; cases heq
    · rename_i heq; cases heq
      split at h
      · split at h
        · have := ih h; simp [this]
        · simp only [Option.map_eq_some_iff] at h
          obtain ⟨z, hz, _⟩ := h
          have := ih hz; simp [this]
      · cases h
    · rename_i heq; cases heq
      split at h
      · have := ih h; simp [this]
      · simp only [Option.map_eq_some_iff] at h
        obtain ⟨z, hz, _⟩ := h
        have := ih hz; simp [this]
    · rename_i heq; cases heq
      split at h
      · have := ih h; simp [this]
      · simp only [Option.map_eq_some_iff] at h
        obtain ⟨z, hz, _⟩ := h
        have := ih hz; simp [this]
    · cases h

theorem kindCode.part {T k : Nat} (hT : kindCode pr T k = true) (xs : Array Value) (off : Nat) (v : Value) (hv : xs[off]? = some v) (w : World) : (part T xs off).run pr w = .ok v w := by
  have : (isAgg T).run pr w = .ok false w := by
    unfold isAgg
    cases hu : pr.underlying T with
    | none => simp [kindCode, hu] at hT
    | some d =>
      rw [Sem.run_bind, run_underlying hu w]
      cases d <;> simp_all [kindCode]
  simp [Go.part, Sem.run_bind, this, hv]

def mEqFields : List Field → List Nat → Nat → Bool
  | [], [], _ => true
  | f :: fs, k :: ks, j => f.name != "_" && f.offset == j && kindCode pr f.type k && mEqFields fs ks (j + 1)
  | _, _, _ => false

theorem eqFields_run (d : Nat) (w : World) (xs ys : Array Value) : ∀ {fs : List Field} {ks : List Nat} {j : Nat} {r : Bool}, mEqFields pr fs ks j = true → eqVals ks (xs.toList.drop j) (ys.toList.drop j) = some r →
    (Op.eqFields (d + 1) xs ys fs).run pr w = .ok r w
  | [], [], j, r, _, h => by
    generalize xs.toList.drop j = p at h
    generalize ys.toList.drop j = q at h
    cases p <;> cases q <;> simp [eqVals] at h
    subst h; simp [Op.eqFields]
  | f :: fs, k :: ks, j, r, hm, h => by
    simp only [mEqFields, Bool.and_eq_true, bne_iff_ne, beq_iff_eq] at hm
    obtain ⟨⟨⟨hn, ho⟩, hk⟩, hm⟩ := hm
    obtain ⟨l1, l2⟩ := eqVals_length h
    simp only [List.length_drop, Array.length_toList, List.length_cons] at l1 l2
    have hx : xs.toList.drop j = xs[j] :: xs.toList.drop (j + 1) := by rw [List.drop_eq_getElem_cons (by simp; omega)]; simp
    have hy : ys.toList.drop j = ys[j] :: ys.toList.drop (j + 1) := by rw [List.drop_eq_getElem_cons (by simp; omega)]; simp
    rw [hx, hy] at h
    obtain ⟨b, s, h1, h2, rfl⟩ := eqVals_cons pr h hk d w
    have hp := kindCode.part pr hk xs f.offset xs[j] (by rw [ho]; exact Array.getElem?_eq_getElem (by omega)) w
    have hq := kindCode.part pr hk ys f.offset ys[j] (by rw [ho]; exact Array.getElem?_eq_getElem (by omega)) w
    have ih := eqFields_run d w xs ys hm h2
    simp only [Op.eqFields, if_pos hn, Sem.run_bind, hp, hq, h1, Result.andThen_ok]
    cases b
    · simp
    · simpa using ih
  | [], _ :: _, _, _, hm, _ => by simp [mEqFields] at hm
  | _ :: _, [], _, _, hm, _ => by simp [mEqFields] at hm

theorem eqArr_run (d e : Nat) (w : World) (xs ys : Array Value) : ∀ {ks : List Nat} {j : Nat} {r : Bool}, (∀ k ∈ ks, kindCode pr e k = true) → eqVals ks (xs.toList.drop j) (ys.toList.drop j) = some r →
    (forIn (List.range' j ks.length) ((none : Option Bool), ()) (fun i _ => do
      let a ← part e xs (i * 1)
      let b ← part e ys (i * 1)
      let r ← Op.equalIn (d + 1) e a b
      if (!r) = true then pure (.done (some false, ())) else pure (.yield (none, ())))).run pr w = .ok (if r then (none, ()) else (some false, ())) w
  | [], j, r, _, h => by
    generalize xs.toList.drop j = p at h
    generalize ys.toList.drop j = q at h
    cases p <;> cases q <;> simp [eqVals] at h
    subst h; simp
  | k :: ks, j, r, hm, h => by
    obtain ⟨l1, l2⟩ := eqVals_length h
    simp only [List.length_drop, Array.length_toList, List.length_cons] at l1 l2
    have hx : xs.toList.drop j = xs[j] :: xs.toList.drop (j + 1) := by rw [List.drop_eq_getElem_cons (by simp; omega)]; simp
    have hy : ys.toList.drop j = ys[j] :: ys.toList.drop (j + 1) := by rw [List.drop_eq_getElem_cons (by simp; omega)]; simp
    rw [hx, hy] at h
    have hk := hm k (by simp)
    obtain ⟨b, s, h1, h2, rfl⟩ := eqVals_cons pr h hk d w
    have hp := kindCode.part pr hk xs (j * 1) xs[j] (by rw [Nat.mul_one]; exact Array.getElem?_eq_getElem (by omega)) w
    have hq := kindCode.part pr hk ys (j * 1) ys[j] (by rw [Nat.mul_one]; exact Array.getElem?_eq_getElem (by omega)) w
    have ih := eqArr_run d e w xs ys (fun k hk => hm k (by simp [hk])) h2
    simp only [List.length_cons, List.range'_succ, List.forIn_cons, Sem.run_bind, hp, hq, h1, Result.andThen_ok]
    cases b
    · simp
    · simpa [Sem.run_bind] using ih

end Go.Am

/- The machine's operations are Go's: the operations one by one, and all of them together (but calls). -/

namespace Go.Am
open Go

variable (N : Nm) (ly : Option Nat) (pr : Program)

theorem agg_rep {c : Cfg} {x : V} {v : Value} {cs : List V} (hx : x.agg? = some cs) (hv : VRep N ly c.H c.φ c.m x v) : ∃ vs : List Value, v = .agg vs.toArray ∧ VReps N ly c.H c.φ c.m cs vs := by
  unfold V.agg? at hx
  split at hx
  · cases hx
    simpa only [VRep] using hv
  · cases hx
    simp only [VRep, Rep] at hv
    obtain ⟨vs, rfl, hr⟩ := hv
    refine ⟨vs, rfl, VReps.of N ly (by simp [Reps.length N hr]) fun j p u hp hu => ?_⟩
    simp only [List.getElem?_map, Option.map_eq_some_iff] at hp
    obtain ⟨q, hq, rfl⟩ := hp
    obtain ⟨u', k1, k2⟩ := Reps.get N hr j q hq
    rw [k1] at hu; cases hu
    simpa only [VRep] using k2
  · cases hx

def mEqs (T : Nat) (ks : List Nat) : Bool :=
  match pr.underlying T with
  | some (.struct fs) => mEqFields pr fs.toList ks 0 && !pr.stoodInHeld T && !pr.eqGuardType pr.depth T
  | some (.array len e) => ks.length == len && ks.all (kindCode pr e) && kindOk pr e 0 && !pr.eqGuardType pr.depth T
  | _ => false

theorem equalIn_run {T : Nat} {ks : List Nat} {xs ys : Array Value} {r : Bool} (hm : mEqs pr T ks = true) (h : eqVals ks xs.toList ys.toList = some r) (w : World) : (Op.equalIn 10000 T (.agg xs) (.agg ys)).run pr w = .ok r w := by
  unfold mEqs at hm
  split at hm
  · rename_i fs hu
    simp only [Bool.and_eq_true, Bool.not_eq_true'] at hm
    have hf : pr.fieldsOf T = fs := by simp [Program.fieldsOf, hu]
    rw [run_equalIn_struct (P := pr) w 9999 T xs ys (by rw [hf]; exact hu) hm.1.2, hf]
    exact eqFields_run pr 9998 w xs ys hm.1.1 (by simpa using h)
  · rename_i len e hu
    simp only [Bool.and_eq_true, beq_iff_eq, Bool.not_eq_true', List.all_eq_true] at hm
    obtain ⟨⟨⟨hl, hk⟩, hs⟩, _⟩ := hm
    have hsz := (kindOk.run pr hs w).2
    have hsz' : ∀ w, (sizeOf e).run pr w = .ok 1 w := fun w => by have := (kindOk.run pr hs w).2; simpa [sz] using this
    have hrun := eqArr_run pr 9998 e w xs ys (j := 0) hk (by simpa using h)
    subst hl
    rw [Op.equalIn]
    simp only [Sem.run_bind, run_underlying hu, Result.andThen_ok, hsz']
    simp only [Std.Legacy.Range.forIn_eq_forIn_range', Std.Legacy.Range.size, Nat.sub_zero, Nat.add_sub_cancel, Nat.div_one] at hrun ⊢
    rw [show (9998 : Nat) + 1 = 9999 from rfl] at hrun
    rw [hrun]
    cases r <;> simp
  · cases hm

theorem mEqs_guard {T : Nat} {ks : List Nat} (hm : mEqs pr T ks = true) : pr.eqGuardType pr.depth T = false := by
  unfold mEqs at hm
  split at hm
  · simp only [Bool.and_eq_true, Bool.not_eq_true'] at hm; exact hm.2
  · simp only [Bool.and_eq_true, Bool.not_eq_true'] at hm; exact hm.2
  · cases hm

theorem eqs_ok {c : Cfg} (hg : Good N ly c) {fr : Fr} {a : Act} (hf : FRep N ly c fr a.tmps) {T base len : Nat} {neg : Bool} {op : BinOp} {ks : List Nat} {x y : Opd} {x' y' : Operand} (E : Env) {r : Res}
    (hop : op = if neg then .neq else .eql) (hm : mEqs pr T ks = true) (hx : mOpd N x x' = true) (hy : mOpd N y y' = true) (hr : (exec1 E base len fr (.eqs neg ks x y)).run c.m = some r) :
    OpOk N ly pr c r (do let q ← (do eqGuard op T x' y' (a.eval x') (a.eval y'); binOp op T (a.eval x') (a.eval y')); Pure.pure (Next.value q)) := by
  have hv := opd_rep N ly hf hx
  have hw := opd_rep N ly hf hy
  simp only [exec1] at hr
  split at hr
  · rename_i u v hu hv'
    obtain ⟨q, hq, rfl⟩ := lift_some hr
    obtain ⟨us, e1, h1⟩ := agg_rep N ly hu hv
    obtain ⟨vs, e2, h2⟩ := agg_rep N ly hv' hw
    have hvals := eqCells_vals N ly hq h1 h2
    have hgd := run_eqGuard_agg (P := pr) c.w op T x' y' us.toArray vs.toArray (mEqs_guard pr hm)
    have heq := equalIn_run pr (xs := us.toArray) (ys := vs.toArray) hm (by simpa using hvals) c.w
    refine OpOk.pure N ly pr hg (run_v pr ?_) (v := .bool (q != neg)) (by simp only [VRep, Rep])
    rw [e1, e2]
    simp only [Sem.run_bind, hgd, Result.andThen_ok]
    subst hop
    cases neg
    · rw [if_neg (by simp), run_eql_struct, heq]; simp
    · rw [if_pos rfl, run_neq_struct, heq]; simp
  · simp [RM.run] at hr

theorem unV_run {op : UnOp} {x r : Value} (h : unV op x = some r) (w : World) : (Op.unary op x).run pr w = .ok r w := by
  unfold unV at h
  split at h
  · split at h
    · simp only [Option.some.injEq] at h; subst h; simp [Op.unary, Op.intArith]
    · simp only [Option.some.injEq] at h; subst h; simp [Op.unary, Op.intBits]
    · cases h
  · split at h
    · simp only [Option.some.injEq] at h; subst h; simp [Op.unary]
    · cases h
  · cases h

theorem mm_run {isMax : Bool} {c : Cfg} : ∀ {xs : List V} {x y : V} {v : Value} {vs : List Value}, mmV isMax x xs = some y → VRep N ly c.H c.φ c.m x v → VReps N ly c.H c.φ c.m xs vs →
    ∃ u, ((vs.foldlM (if isMax then Builtin.max2 else Builtin.min2) v).run pr c.w = .ok u c.w) ∧ VRep N ly c.H c.φ c.m y u
  | [], x, y, v, vs, h, hv, hvs => by
    simp only [VReps] at hvs; subst hvs
    have : y = x := by unfold mmV at h; simpa using h.symm
    subst this
    exact ⟨v, by simp, hv⟩
  | z :: r, x, y, v, vs, h, hv, hvs => by
    unfold mmV at h
    split at h
    · rename_i heq; cases heq
    · rename_i k a k' b r' heq
      cases heq
      split at h
      · rename_i hk
        subst hk
        simp only [VReps, VRep, Rep] at hv hvs
        obtain ⟨_, s, rfl, rfl, hvs⟩ := hvs
        subst hv
        obtain ⟨u, h1, h2⟩ := mm_run (v := .int k (if isMax then (if b > a then b else a) else (if b < a then b else a))) h (by simp only [VRep, Rep]) hvs
        refine ⟨u, ?_, h2⟩
        simp only [List.foldlM_cons, Sem.run_bind]
        cases isMax
        · simpa [Builtin.min2] using h1
        · simpa [Builtin.max2] using h1
      · cases h
    · cases h

end Go.Am

/- append to a slice whose row may be written. -/

namespace Go.Am
open Go

variable (N : Nm) (ly : Option Nat) (pr : Program)

theorem flat_cells {c : Cfg} {n : Nat} : ∀ {es : List P} {vs : List Value}, Flat N c.H n es vs → (∀ u ∈ vs, u.oneCell' = true) → VReps N ly c.H c.φ c.m ((es.flatMap P.cells).map V.p) vs ∧ ∀ y ∈ (es.flatMap P.cells).map V.p, y.isCell = true
  | [], _, h, _ => by
    simp only [Flat] at h; subst h
    exact ⟨by simp [VReps], by simp⟩
  | e :: r, _, h, ho => by
    simp only [Flat] at h
    obtain ⟨v, rest, rfl, hs, ha, hp, hg, hr⟩ := h
    obtain ⟨k1, k2⟩ := flat_cells hr fun u hu => ho u (List.mem_append_right _ hu)
    have hhead : VReps N ly c.H c.φ c.m (e.cells.map V.p) v.cells.toList ∧ ∀ y ∈ e.cells.map V.p, y.isCell = true := by
      have one : ∀ {ps : List P} {us : List Value}, Reps N c.H ps us → (∀ u ∈ us, u.oneCell' = true) → VReps N ly c.H c.φ c.m (ps.map V.p) us ∧ ∀ y ∈ ps.map V.p, y.isCell = true := fun {ps us} hps hus =>
        ⟨VReps.of N ly (by simp [Reps.length N hps]) fun j p u hp hu => by
          simp only [List.getElem?_map, Option.map_eq_some_iff] at hp
          obtain ⟨q, hq, rfl⟩ := hp
          obtain ⟨u', q1, q2⟩ := Reps.get N hps j q hq
          rw [q1] at hu; cases hu
          simpa only [VRep] using q2, fun y hy => by
          obtain ⟨q, hq, rfl⟩ := List.mem_map.1 hy
          obtain ⟨j, hj⟩ := List.getElem?_of_mem hq
          obtain ⟨u', q1, q2⟩ := Reps.get N hps j q hj
          exact isCell_of_rep N q2 (hus u' (List.mem_of_getElem? q1))⟩
      have hov : ∀ u ∈ v.cells.toList, u.oneCell' = true := fun u hu => ho u (List.mem_append_left _ hu)
      cases hagg : e.isAgg with
      | true =>
        cases e <;> simp only [P.isAgg, Bool.false_eq_true] at hagg
        simp only [Rep] at hp
        obtain ⟨us, rfl, hus⟩ := hp
        simp only [P.cells, cells_agg] at hov ⊢
        exact one hus hov
      | false =>
        have hn : n = 0 := by
          by_cases h0 : n = 0
          · exact h0
          · have := hg.2 h0; rw [hagg] at this; cases this
        have hna : ¬ ∃ cs, v = .agg cs := fun h => (ha.2 h) hn
        have hce : e.cells = [e] := by cases e <;> first | rfl | (simp [P.isAgg] at hagg)
        rw [hce, cells_one hna] at *
        exact one (ps := [e]) (us := [v]) (by simp only [Reps]; exact ⟨v, [], rfl, hp, rfl⟩) (by simpa using hov)
    simp only [List.flatMap_cons, List.map_append]
    refine ⟨?_, fun y hy => ?_⟩
    · refine VReps.of N ly ?_ fun j p u hp hu => ?_
      · rw [List.length_append, List.length_append, VReps.length N ly hhead.1, VReps.length N ly k1]
      · have hl := VReps.length N ly hhead.1
        by_cases hj : j < (e.cells.map V.p).length
        · rw [List.getElem?_append_left hj] at hp
          rw [List.getElem?_append_left (by omega)] at hu
          obtain ⟨u', q1, q2⟩ := VReps.get N ly hhead.1 j p hp
          rw [q1] at hu; cases hu; exact q2
        · rw [List.getElem?_append_right (by omega)] at hp
          rw [List.getElem?_append_right (by omega), ← hl] at hu
          obtain ⟨u', q1, q2⟩ := VReps.get N ly k1 _ p hp
          rw [q1] at hu; cases hu; exact q2
    · rcases List.mem_append.1 hy with h | h
      · exact hhead.2 y h
      · exact k2 y h

theorem srcC_ok {c : Cfg} (hg : Good N ly c) {n : Nat} {y : V} {v : Value} {vs : List V} (h : (srcCells n y).run c.m = some vs) (hv : VRep N ly c.H c.φ c.m y v) :
    ∃ a k cap news, v = .slice a k cap ∧ vs.length = k * sz n ∧ VReps N ly c.H c.φ c.m vs news ∧ (∀ y ∈ vs, y.isCell = true) ∧ (k ≠ 0 → ∃ b off, a = some ⟨b, off, none⟩ ∧ ∀ j u, news[j]? = some u → c.w.cell? ⟨b, off + j, none⟩ = some u) := by
  have data : ∀ {es : List P}, Rep N c.H (.sl n es) v → ∃ a k cap news, v = .slice a k cap ∧ ((es.flatMap P.cells).map V.p).length = k * sz n ∧ VReps N ly c.H c.φ c.m ((es.flatMap P.cells).map V.p) news ∧ (∀ y ∈ (es.flatMap P.cells).map V.p, y.isCell = true) ∧
      (k ≠ 0 → ∃ b off, a = some ⟨b, off, none⟩ ∧ ∀ j u, news[j]? = some u → c.w.cell? ⟨b, off + j, none⟩ = some u) := fun {es} hv => by
    have hsrc : (srcOf n (.p (.sl n es))).run c.m = some es := by simp [srcOf, RM.run]
    obtain ⟨a, cap, news, rfl, hf, ho, hc⟩ := src_ok N ly hg hsrc (by simpa only [VRep] using hv)
    obtain ⟨k1, k2⟩ := flat_cells N ly hf ho
    exact ⟨a, es.length, cap, news, rfl, by rw [VReps.length N ly k1, Flat.length N hf], k1, k2, fun h => hc fun e => h (by rw [e]; rfl)⟩
  unfold srcCells at h
  split at h
  · rename_i n' es'
    split at h
    · rename_i hn
      subst hn
      simp only [RM.run, Option.some.injEq] at h; subst h
      exact data (by simpa only [VRep] using hv)
    · simp [RM.run] at h
  · rename_i n' t es'
    split at h
    · rename_i hn
      subst hn
      simp only [RM.run, Option.some.injEq] at h; subst h
      simp only [VRep] at hv
      exact data hv.1
    · simp [RM.run] at h
  · split at h
    · simp only [RM.run, Option.some.injEq] at h; subst h
      simp only [VRep] at hv
      obtain ⟨a, rfl⟩ := hv
      exact ⟨a, 0, 0, [], rfl, by simp, by simp [VReps], by simp, fun h => absurd rfl h⟩
    · simp [RM.run] at h
  · rename_i n' b off len
    split at h
    · rename_i hn
      subst hn
      rw [RM.run_bind] at h
      cases hc : (getC b).run c.m with
      | none => rw [hc] at h; simp at h
      | some cs =>
        rw [hc] at h
        simp only [Option.bind_some] at h
        split at h
        · rename_i hle
          simp only [RM.run, Option.some.injEq] at h; subst h
          have hb := run_getC_some hc
          simp only [VRep] at hv
          rcases hv with ⟨h0, a, rfl⟩ | ⟨R, s, cap, _, hφ, rfl, _, _⟩
          · subst h0
            exact ⟨a, 0, 0, [], rfl, by simp, by simp [VReps], by simp, fun h => absurd rfl h⟩
          · obtain ⟨arr, e, h1, h2, h3, h4⟩ := cells_read N ly hg hb hφ
            let us : List Value := (arr.toList.drop off).take (len * sz n')
            have hus : VReps N ly c.H c.φ c.m ((cs.drop off).take (len * sz n')) us := VReps.of N ly (by simp [us]; omega) fun j p u hp hu => by
              simp only [us, List.getElem?_take, List.getElem?_drop] at hp hu
              split at hp
              · rename_i hj
                rw [if_pos hj] at hu
                obtain ⟨_, v, k1, _, k2⟩ := h4 _ p hp
                rw [← Array.getElem?_toList] at k1
                rw [k1] at hu; cases hu; exact k2
              · cases hp
            refine ⟨_, len, cap, us, rfl, by simp; omega, hus, fun y hy => ?_, fun _ => ⟨R, off, rfl, fun j u hu => ?_⟩⟩
            · obtain ⟨j, hj⟩ := List.getElem?_of_mem (List.mem_of_mem_drop (List.mem_of_mem_take hy))
              exact (h4 j y hj).1
            · simp only [us, List.getElem?_take, List.getElem?_drop] at hu
              split at hu
              · rw [Array.getElem?_toList] at hu
                simp only [World.cell?, h1]; simpa using hu
              · cases hu
        · simp [RM.run] at h
    · simp [RM.run] at h
  · simp [RM.run] at h

/-- A block gets another number; the old one is dead. -/
theorem move_block {c : Cfg} (hg : Good N ly c) {b i : Nat} {cs : List V} (hb : c.m[b]? = some (.cells cs)) (hi : c.m[i]? = some .hole) :
    let c' : Cfg := ⟨c.H, c.φ.set i (c.φ[b]?.getD none), (c.m.set b .dead).set i (.cells cs), c.w⟩
    Good N ly c' ∧ Trans c c' ∧ Ext c.H c.φ c.m c'.H c'.φ c'.m ∧ c'.φ[i]? = c.φ[b]? ∧ c'.m[i]? = some (.cells cs) := by
  intro c'
  have hil : i < c.m.length := (List.getElem?_eq_some_iff.1 hi).1
  have hbl : b < c.m.length := (List.getElem?_eq_some_iff.1 hb).1
  have hbi : b ≠ i := fun e => by subst e; rw [hb] at hi; cases hi
  have hφi : c'.φ[i]? = c.φ[b]? := by
    simp only [c', List.getElem?_set, if_pos]
    rw [if_pos (by rw [hg.len]; exact hil), List.getElem?_eq_getElem (by rw [hg.len]; exact hbl)]; rfl
  have hmi : c'.m[i]? = some (.cells cs) := by simp [c', hil]
  have hmb : c'.m[b]? = some .dead := by simp [c', List.getElem?_set, Ne.symm hbi, hbl]
  have hφj : ∀ j, j ≠ i → c'.φ[j]? = c.φ[j]? := fun j hj => by simp [c', List.getElem?_set, Ne.symm hj]
  have hmj : ∀ j, j ≠ i → j ≠ b → c'.m[j]? = c.m[j]? := fun j hj hj' => by simp [c', List.getElem?_set, Ne.symm hj, Ne.symm hj']
  have hlink : ∀ j, Link c.φ c.m c'.φ c'.m j j := fun j => by
    by_cases hj : j = i
    · subst hj; unfold Link; rw [hi]; trivial
    · by_cases hjb : j = b
      · subst hjb; unfold Link; rw [hb]; exact ⟨.inr hmb, hφj j hj⟩
      · have := Link.refl c.φ c.m j
        unfold Link IdOk at this ⊢
        rw [hmj j hj hjb, hφj j hj]; exact this
  have hE : Ext c.H c.φ c.m c'.H c'.φ c'.m := Ext.of (HM.le_refl _) hlink
  have hlv : ∀ j, j ≠ i → Live c'.m j → Live c.m j ∧ j ≠ b := fun j hj hl => by
    by_cases hjb : j = b
    · subst hjb
      rcases hl with ⟨cs, h⟩ | ⟨n, q, h⟩ <;> rw [hmb] at h <;> cases h
    · unfold Live at hl ⊢; rw [hmj j hj hjb] at hl; exact ⟨hl, hjb⟩
  have hbo : Live c.m b := .inl ⟨cs, hb⟩
  refine ⟨⟨by simp [c', hg.len], hg.frz, fun j y hy => ?_, fun x z R s s' hx hz h1 h2 => ?_⟩, ⟨fun _ => rfl, rfl, rfl, rfl, Nat.le_refl _, HM.le_refl _, fun _ _ _ => rfl, ?_, fun _ _ _ h => .inl h⟩, hE, hφi, hmi⟩
  · by_cases hj : j = i
    · subst hj
      rw [hmi] at hy; cases hy
      obtain ⟨R, s, arr, e, h1, h2, h3, h4, h5, h6⟩ := hg.blk b _ hb
      exact ⟨R, s, arr, e, hφi.trans h1, h2, h3, h4, fun q z hz => let ⟨a, v, b, d⟩ := h5 q z hz; ⟨a, v, b, hE.rep N ly z v d⟩, h6⟩
    · by_cases hjb : j = b
      · subst hjb; rw [hmb] at hy; cases hy; trivial
      · rw [hmj j hj hjb] at hy
        by_cases hl : Live c.m j
        · exact (hg.blk j y hy).keep N ly hE (hφj j hj) fun R s _ => ⟨rfl, fun o ho => ho⟩
        · cases y with
          | cells cs => exact absurd (.inl ⟨cs, hy⟩) hl
          | tok n k => exact absurd (.inr ⟨n, k, hy⟩) hl
          | dead => trivial
          | hole => trivial
  · by_cases hxi : x = i
    · by_cases hzi : z = i
      · rw [hxi, hzi]
      · subst hxi
        rw [hφi] at h1; rw [hφj z hzi] at h2
        obtain ⟨q1, q2⟩ := hlv z hzi hz
        exact absurd (hg.inj z b R s' s q1 hbo h2 h1) q2
    · by_cases hzi : z = i
      · subst hzi
        rw [hφi] at h2; rw [hφj x hxi] at h1
        obtain ⟨q1, q2⟩ := hlv x hxi hx
        exact absurd (hg.inj x b R s s' q1 hbo h1 h2) q2
      · rw [hφj x hxi] at h1; rw [hφj z hzi] at h2
        exact hg.inj x z R s s' (hlv x hxi hx).1 (hlv z hzi hz).1 h1 h2
  · rintro R ⟨j, s, hl, hp⟩
    by_cases hj : j = i
    · subst hj; rw [hφi] at hp; exact .inl ⟨b, s, hbo, hp⟩
    · rw [hφj j hj] at hp; exact .inl ⟨j, s, (hlv j hj hl).1, hp⟩

/-- A slice grows into a new row that may be written. -/
theorem appC_new {c : Cfg} (hg : Good N ly c) {T e n i ty : Nat} {sm : Bool} (hT : AppT pr T e n sm) {cs vs : List V} {l k : Nat} {a0 : Option Addr} {cap0 : Nat} {olds news : List Value} {a : Option Addr} {cap : Nat} (hi : c.m[i]? = some .hole)
    (hlo : cs.length = l * sz n) (hro : VReps N ly c.H c.φ c.m cs olds) (hco : ∀ y ∈ cs, y.isCell = true) (hold : l = 0 ∨ ∃ b, a0 = some b ∧ ∀ j v, olds[j]? = some v → c.w.cell? (b.add j) = some v) (h00 : a0 = none → cap0 = 0)
    (hln : vs.length = k * sz n) (hrn : VReps N ly c.H c.φ c.m vs news) (hcn : ∀ y ∈ vs, y.isCell = true) (hnew : k ≠ 0 → ∃ b off, a = some ⟨b, off, none⟩ ∧ ∀ j u, news[j]? = some u → c.w.cell? ⟨b, off + j, none⟩ = some u) (hk : k ≠ 0)
    (hg0 : cap0 < l + k) (hmost : l + k ≤ mostOf sm) :
    ∃ c' : Cfg, ∃ u, (Builtin.append_ #[T, T] ty #[.slice a0 l cap0, .slice a k cap]).run pr c.w = .ok u c'.w ∧ c'.m = c.m.set i (.cells (cs ++ vs)) ∧ Good N ly c' ∧ Trans c c' ∧ Ext c.H c.φ c.m c'.H c'.φ c'.m ∧
      VRep N ly c'.H c'.φ c'.m (.ref n i 0 (l + k)) u := by
  obtain ⟨inf, z, hi1, hz1, hsz, hzs, hby, hby8⟩ := hT.hi
  obtain ⟨b, off, rfl, hrn2⟩ := hnew hk
  have e1 := VReps.length N ly hro
  have e2 := VReps.length N ly hrn
  obtain ⟨nc, us, hrun, h1, h2, h3⟩ := run_app_new pr c.w T ty e inf z hT.ht hi1 hz1 (by rw [hzs, hsz]) hby a0 l cap0 olds (by rw [hsz]; omega) hold h00
    ⟨b, off, none⟩ k cap news (by rw [hsz]; omega) (fun j v hj => by rw [addr_add]; exact hrn2 j v hj) hg0 (room_of hmost hby hby8).1 (room_of hmost hby hby8).2
  rw [hsz] at h2 h3
  obtain ⟨g1, t1⟩ := drew_good N ly hg
  have hlen : (cs ++ vs).length = (l + k) * sz n := by rw [List.length_append, hlo, hln, Nat.add_mul]
  have hle := Nat.mul_le_mul_right (sz n) h1
  obtain ⟨c', q1, q2, k1, k2, k3, k4⟩ := fresh_ref N ly g1 (i := i) (cs := cs ++ vs) (us := us) n (l + k) nc e hi (by
      rw [hlen, h3]
      refine VReps.of N ly (by simp [e1, e2]) fun j p u hp hu => ?_
      by_cases hj : j < cs.length
      · rw [List.getElem?_append_left hj] at hp
        rw [List.getElem?_append_left (by omega)] at hu
        obtain ⟨u', r1, r2⟩ := VReps.get N ly hro j p hp
        rw [r1] at hu; cases hu; exact r2
      · rw [List.getElem?_append_right (by omega)] at hp
        rw [List.getElem?_append_right (by omega), ← e1] at hu
        obtain ⟨u', r1, r2⟩ := VReps.get N ly hrn _ p hp
        rw [r1] at hu; cases hu; exact r2)
    (fun y hy => by
      rcases List.mem_append.1 hy with h | h
      · exact hco y h
      · exact hcn y h) (by omega) (by omega) h1 (c.w.drew.alloc (.cells us e)) rfl rfl rfl rfl
  exact ⟨c', _, by rw [q1]; exact hrun, q2, k1, t1.trans k2, k3, k4⟩

theorem app_own_ok {c : Cfg} (hg : Good N ly c) {T e n i ty : Nat} {sm : Bool} (hT : AppT pr T e n sm) {x y : V} {u v : Value} {r : Res}
    (hr : (match x with
      | .nil n' => if n' = n then (srcCells n y).bind fun vs => if vs.length = 0 then .ret { val := .nil n } else
          if vs.length ≤ mostOf sm then atHole i { val := .ref n i 0 (vs.length / sz n), ups := [(i, .cells vs)] } else .fail else .fail
      | .ref n' b off l => if n' = n ∧ off = 0 then (getC b).bind fun cs => if l * sz n ≤ cs.length then (srcCells n y).bind fun vs =>
          if l * sz n + vs.length ≤ mostOf sm then atHole i { val := .ref n i 0 ((l * sz n + vs.length) / sz n), ups := [(b, .dead), (i, .cells (cs.take (l * sz n) ++ vs))] } else .fail else .fail else .fail
      | _ => .fail : RM Res).run c.m = some r) (hx : VRep N ly c.H c.φ c.m x u) (hy : VRep N ly c.H c.φ c.m y v) :
    OpOk N ly pr c r (do let q ← Builtin.append_ #[T, T] ty #[u, v]; Pure.pure (Next.value q)) := by
  obtain ⟨inf, z, hi1, hz1, hsz, hzs, hby, hby8⟩ := hT.hi
  have hsz0 : 0 < sz n := by unfold sz; split <;> omega
  cases x with
  | nil n' =>
    simp only at hr
    split at hr
    · rename_i hn
      subst hn
      rw [RM.run_bind] at hr
      cases hs : (srcCells n' y).run c.m with
      | none => rw [hs] at hr; simp at hr
      | some vs =>
        rw [hs] at hr
        simp only [Option.bind_some] at hr
        simp only [VRep] at hx
        obtain ⟨a0, rfl⟩ := hx
        obtain ⟨a, k, cap, news, rfl, k1, k2, k3, k4⟩ := srcC_ok N ly hg hs hy
        split at hr
        · rename_i h0
          simp only [RM.run, Option.some.injEq] at hr
          subst hr
          have hk : k = 0 := by
            rw [h0] at k1
            rcases Nat.mul_eq_zero.1 k1.symm with h | h
            · exact h
            · omega
          subst hk
          exact OpOk.pure N ly pr hg (run_v pr (run_app_none pr c.w T ty e inf hT.ht hi1 a0 a 0 0 cap (Nat.le_refl _))) (by simp only [VRep]; exact ⟨a0, rfl⟩)
        · rename_i h0
          split at hr
          · rename_i hm
            obtain ⟨hh, rfl⟩ := run_atHole hr
            have hk : k ≠ 0 := fun e => by subst e; simp at k1; exact h0 (by rw [k1]; rfl)
            have hkl : k ≤ vs.length := by rw [k1]; exact Nat.le_mul_of_pos_right _ hsz0
            obtain ⟨c', q, r0, r1, r2, r3, r4, r5⟩ := appC_new N ly pr hg (cs := []) (olds := []) (l := 0) (a0 := a0) (cap0 := 0) (ty := ty) hT hh (by simp) (by simp [VReps]) (by simp) (.inl rfl) (fun _ => rfl) k1 k2 k3 k4 hk (by omega) (by omega)
            refine ⟨q, c', .inl (run_v pr r0), by rw [applyUps_one]; simpa using r1, r2, r3, r4, ?_⟩
            have : vs.length / sz n' = 0 + k := by rw [k1, Nat.mul_div_cancel _ hsz0, Nat.zero_add]
            rw [this]; exact r5
          · simp [RM.run] at hr
    · simp [RM.run] at hr
  | ref n' b off l =>
    simp only at hr
    split at hr
    · rename_i hn
      obtain ⟨rfl, rfl⟩ := hn
      rw [RM.run_bind] at hr
      cases hc : (getC b).run c.m with
      | none => rw [hc] at hr; simp at hr
      | some cs0 =>
        rw [hc] at hr
        simp only [Option.bind_some] at hr
        have hb := run_getC_some hc
        split at hr
        · rename_i hcl0
          rw [RM.run_bind] at hr
          cases hs : (srcCells n' y).run c.m with
          | none => rw [hs] at hr; simp at hr
          | some vs =>
            rw [hs] at hr
            simp only [Option.bind_some] at hr
            split at hr
            · rename_i hm
              obtain ⟨hh, rfl⟩ := run_atHole hr
              obtain ⟨a, k, cap, news, rfl, k1, k2, k3, k4⟩ := srcC_ok N ly hg hs hy
              obtain ⟨cs, hcs⟩ : ∃ cs, cs = cs0.take (l * sz n') := ⟨_, rfl⟩
              rw [← hcs]
              have hcl : cs.length = l * sz n' := by rw [hcs]; simp; omega
              rw [show l * sz n' + vs.length = cs.length + vs.length by rw [hcl]] at hm ⊢
              have hbi : b ≠ i := fun e => by subst e; rw [hb] at hh; cases hh
              have hil : i < c.m.length := (List.getElem?_eq_some_iff.1 hh).1
              have hups : ∀ cs' : List V, applyUps c.m [(b, .dead), (i, .cells cs')] ++ [] = (c.m.set b .dead).set i (.cells cs') := fun cs' => by simp [applyUps]
              have hnew : (cs.length + vs.length) / sz n' = l + k := by rw [hcl, k1, ← Nat.add_mul, Nat.mul_div_cancel _ hsz0]
              have hlk : l + k ≤ mostOf sm := by
                have : l + k ≤ (l + k) * sz n' := Nat.le_mul_of_pos_right _ hsz0
                rw [Nat.add_mul] at this; omega
              obtain ⟨R, s, arr, e', q1, q2, q3, q40, q50, q6⟩ := hg.blk b _ hb
              have q4 : cs.length ≤ s := by have : cs.length ≤ cs0.length := by omega
                                            omega
              have q5 : ∀ (j : Nat) (y : V), cs[j]? = some y → y.isCell = true ∧ ∃ v, arr[j]? = some v ∧ VRep N ly c.H c.φ c.m y v := fun j y hj => by
                rw [hcs, List.getElem?_take] at hj
                split at hj
                · exact q50 j y hj
                · cases hj
              let olds : List Value := arr.toList.take (l * sz n')
              have hro : VReps N ly c.H c.φ c.m cs olds := VReps.of N ly (by simp [olds]; omega) fun j p w hp hw => by
                have hj : j < cs.length := (List.getElem?_eq_some_iff.1 hp).1
                simp only [olds] at hw
                rw [List.getElem?_take_of_lt (by omega)] at hw
                obtain ⟨_, v', r1, r2⟩ := q5 j p hp
                rw [← Array.getElem?_toList] at r1
                rw [r1] at hw; cases hw; exact r2
              have hco : ∀ y ∈ cs, y.isCell = true := fun y hy => by
                obtain ⟨j, hj⟩ := List.getElem?_of_mem hy
                exact (q5 j y hj).1
              have hlo : olds.length = l * sz n' := by rw [← VReps.length N ly hro]; exact hcl
              have hcell : ∀ j w, olds[j]? = some w → c.w.cell? ⟨R, j, none⟩ = some w := fun j w hj => by
                simp only [olds, List.getElem?_take] at hj
                split at hj
                · rw [Array.getElem?_toList] at hj
                  simp only [World.cell?, q2]; simpa using hj
                · cases hj
              -- where the slice lies
              simp only [VRep] at hx
              -- a new row
              have fresh : ∀ (a0 : Option Addr) (cap0 : Nat), (l = 0 ∨ ∃ b, a0 = some b ∧ ∀ j v, olds[j]? = some v → c.w.cell? (b.add j) = some v) → (a0 = none → cap0 = 0) → k ≠ 0 → cap0 < l + k →
                  OpOk N ly pr c { val := .ref n' i 0 ((cs.length + vs.length) / sz n'), ups := [(b, .dead), (i, .cells (cs ++ vs))] } (do let q ← Builtin.append_ #[T, T] ty #[.slice a0 l cap0, .slice a k cap]; Pure.pure (Next.value q)) := fun a0 cap0 h1 h2 h3 h4 => by
                obtain ⟨g1, t1, x1⟩ := kill N ly hg b
                have hh1 : (c.m.set b Blk.dead)[i]? = some .hole := by rw [List.getElem?_set_ne hbi]; exact hh
                obtain ⟨c', q, r0, r1, r2, r3, r4, r5⟩ := appC_new N ly pr g1 (ty := ty) (a0 := a0) (cap0 := cap0) (a := a) (cap := cap) hT hh1 hcl (x1.reps N ly hro) hco h1 h2 k1 (x1.reps N ly k2) k3 k4 h3 h4 hlk
                exact ⟨q, c', .inl (run_v pr r0), by rw [hups]; exact r1, r2, t1.trans r3, x1.trans r4, by rw [hnew]; exact r5⟩
              -- the row that it has
              have stay : ∀ (arr' : Array Value) (u' : Value) (w' : World), w' = c.w.setRow R arr' → (Builtin.append_ #[T, T] ty #[u, .slice a k cap]).run pr c.w = .ok u' w' → arr'.size = s → (cs ++ vs).length ≤ s →
                  (∀ (j : Nat) (y : V), (cs ++ vs)[j]? = some y → y.isCell = true ∧ ∃ v, arr'[j]? = some v ∧ VRep N ly c.H c.φ c.m y v) → RefOk (c.φ.set i (c.φ[b]?.getD none)) ((c.m.set b .dead).set i (.cells (cs ++ vs))) n' i 0 (l + k) u' →
                  OpOk N ly pr c { val := .ref n' i 0 ((cs.length + vs.length) / sz n'), ups := [(b, .dead), (i, .cells (cs ++ vs))] } (do let q ← Builtin.append_ #[T, T] ty #[u, .slice a k cap]; Pure.pure (Next.value q)) := fun arr' u' w' hw hrun h1 h2 h3 h4 => by
                subst hw
                obtain ⟨g1, t1, x1⟩ := write_row N ly hg b R s cs0 (cs ++ vs) arr' hb q1 h1 h2 h3
                have hbl : b < c.m.length := (List.getElem?_eq_some_iff.1 hb).1
                have hm1 : (c.m.set b (Blk.cells (cs ++ vs)))[b]? = some (.cells (cs ++ vs)) := by simp [hbl]
                have hh1 : (c.m.set b (Blk.cells (cs ++ vs)))[i]? = some .hole := by rw [List.getElem?_set_ne hbi]; exact hh
                obtain ⟨g2, t2, x2, p1, p2⟩ := move_block N ly g1 (b := b) (i := i) hm1 hh1
                simp only [List.set_set] at g2 t2 x2 p1 p2
                exact ⟨u', _, .inl (run_v pr hrun), by rw [hups], g2, t1.trans t2, x1.trans x2, by rw [hnew]; simp only [VRep]; exact h4⟩
              have hidi : IdOk ((c.m.set b .dead).set i (Blk.cells (cs ++ vs))) i := .inl ⟨cs ++ vs, by simp [hil]⟩
              have hφi : (c.φ.set i (c.φ[b]?.getD none))[i]? = some (some (R, s)) := by simp [hg.len, hil, q1]
              have hsame : k = 0 → (cs ++ vs) = cs := fun h => by
                subst h
                have : vs = [] := List.eq_nil_of_length_eq_zero (by simpa using k1)
                rw [this, List.append_nil]
              by_cases hk : k = 0
              · -- nothing is appended
                have hcv := hsame hk
                rcases hx with ⟨h0, a0, rfl⟩ | ⟨R', s', cp, h1, h2, rfl, h3, h4⟩
                · subst h0 hk
                  refine stay arr _ _ (setRow_self c.w R arr e' (0, 0) q2).symm (run_app_none pr c.w T ty e inf hT.ht hi1 a0 a 0 0 cap (Nat.le_refl _)) q3 (by rw [hcv]; exact q4) (fun j y hj => by rw [hcv] at hj; exact q5 j y hj) (.inl ⟨rfl, a0, rfl⟩)
                · rw [q1] at h2; cases h2
                  subst hk
                  refine stay arr _ _ (setRow_self c.w R arr e' (0, 0) q2).symm (run_app_none pr c.w T ty e inf hT.ht hi1 _ a l cp cap h3) q3 (by rw [hcv]; exact q4) (fun j y hj => by rw [hcv] at hj; exact q5 j y hj) (.inr ⟨R, s, cp, hidi, hφi, rfl, h3, h4⟩)
              · rcases hx with ⟨h0, a0, rfl⟩ | ⟨R', s', cp, h1, h2, rfl, h3, h4⟩
                · subst h0
                  exact fresh a0 0 (.inl rfl) (fun _ => rfl) hk (by omega)
                · rw [q1] at h2; cases h2
                  by_cases hroom : l + k ≤ cp
                  · obtain ⟨b', off', rfl, hn2⟩ := k4 hk
                    have e2 := VReps.length N ly k2
                    have hmul := Nat.mul_le_mul_right (sz n') hroom
                    rw [Nat.add_mul] at hmul
                    have hfit : l * sz n' + news.length ≤ arr.size := by omega
                    have hon := VReps.one N ly k2 k3
                    have hrun := run_app_room pr c.w T ty e inf hT.ht hi1 R l cp arr e' q2 ⟨b', off', none⟩ k cap news (by rw [hsz]; omega) (fun j v hj => by rw [addr_add]; exact hn2 j v hj) hon hroom (by rw [hsz]; exact hfit)
                    rw [hsz] at hrun
                    refine stay _ _ _ rfl hrun ?_ ?_ (fun j y hj => ?_) (.inr ⟨R, s, cp, hidi, hφi, rfl, hroom, h4⟩)
                    · simp; omega
                    · rw [List.length_append]; omega
                    · rw [List.getElem?_toArray]
                      by_cases hjl : j < cs.length
                      · rw [List.getElem?_append_left hjl] at hj
                        obtain ⟨p1, w, p2, p3⟩ := q5 j y hj
                        refine ⟨p1, w, ?_, p3⟩
                        rw [List.append_assoc, List.getElem?_append_left (by simp; omega), List.getElem?_take_of_lt (by omega), Array.getElem?_toList]; exact p2
                      · rw [List.getElem?_append_right (by omega)] at hj
                        obtain ⟨w, p2, p3⟩ := VReps.get N ly k2 _ y hj
                        have hjn : j - cs.length < news.length := (List.getElem?_eq_some_iff.1 p2).1
                        refine ⟨k3 y (List.mem_of_getElem? hj), w, ?_, p3⟩
                        have ht : (arr.toList.take (l * sz n')).length = cs.length := by simp; omega
                        rw [List.getElem?_append_left (by rw [List.length_append, ht]; omega), List.getElem?_append_right (by omega), ht]
                        exact p2
                  · exact fresh _ cp (.inr ⟨_, rfl, fun j w hj => by rw [addr_add, Nat.zero_add]; exact hcell j w hj⟩) (fun h => by cases h) hk (by omega)
            · simp [RM.run] at hr
        · simp [RM.run] at hr
    · simp [RM.run] at hr
  | _ => simp [RM.run] at hr

end Go.Am
