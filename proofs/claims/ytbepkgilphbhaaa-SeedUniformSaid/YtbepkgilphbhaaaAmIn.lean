/- What a law is handed, as data. -/
import Derived.Test.YtbepkgilphbhaaaAmTop
namespace Go.Am
open Go

variable (N : Nm) (pr : Program)

/-- All cells of a world. -/
def allH (w : World) : HM := fun b o => match w.cell? ⟨b, o, none⟩ with
  | some v => if v.oneCell' = true then some v else none
  | none => none

theorem allH_frz (w : World) : FrzOk (allH w) w := fun b o v h => by
  unfold allH at h
  split at h
  · rename_i u hu
    split at h
    · rename_i h1; cases h; exact ⟨hu, h1⟩
    · cases h
  · cases h

def nOf (t : Nat) : Nat := match pr.underlying t with
  | some (.struct _) => pr.cellsOf t
  | some (.array _ _) => pr.cellsOf t
  | _ => 0

/-- The fields lie one behind the other. -/
def tiles : Nat → List Field → Option Nat
  | o, [] => some o
  | o, f :: r => if f.offset = o then tiles (o + pr.cellsOf f.type) r else none

/-- Types that are read. -/
def okTy : Nat → Nat → Bool
  | 0, _ => false
  | k + 1, t => match pr.underlying t with
    | some .bool => true
    | some (.int _) => true
    | some .string => true
    | some (.slice e) => okTy k e && pr.cellsOf e == sz (nOf pr e)
    | some (.struct fs) => tiles pr 0 fs.toList == some (pr.cellsOf t) && pr.cellsOf t != 0 && fs.toList.all fun f => okTy k f.type
    | _ => false

def tyP : Nat → Nat → List P → Prop
  | 0, _, _ => False
  | k + 1, t, ps => match pr.underlying t with
    | some .bool => ∃ b, ps = [.v (.bool b)]
    | some (.int kd) => ∃ n, ps = [.v (.int kd n)] ∧ (Lit.int kd n).wf = true
    | some .string => ∃ s, ps = [.v (.string s)] ∧ s.size ≤ maxLen
    | some (.slice e) => ∃ es, ps = [.sl (nOf pr e) es] ∧ es.length ≤ maxLen ∧ ∀ x ∈ es, tyP k e x.cells ∧ (x.isAgg = true ↔ nOf pr e ≠ 0)
    | some (.struct fs) => ps.length = pr.cellsOf t ∧ ∀ f ∈ fs.toList, tyP k f.type ((ps.drop f.offset).take (pr.cellsOf f.type))
    | _ => False

theorem mapM_get {α β : Type} {f : α → Option β} : ∀ {l : List α} {r : List β}, l.mapM f = some r → l.length = r.length ∧ ∀ (i : Nat) (a : α), l[i]? = some a → ∃ b, r[i]? = some b ∧ f a = some b
  | [], r, h => by
    simp only [List.mapM_nil, Option.pure_def, Option.some.injEq] at h; subst h
    exact ⟨rfl, fun i a h => by simp at h⟩
  | x :: l, r, h => by
    simp only [List.mapM_cons, Option.bind_eq_bind, Option.bind_eq_some_iff, Option.pure_def, Option.some.injEq] at h
    obtain ⟨b, hb, s, hs, rfl⟩ := h
    obtain ⟨h1, h2⟩ := mapM_get hs
    refine ⟨by simp [h1], fun i a hi => ?_⟩
    cases i with
    | zero => simp at hi; subst hi; exact ⟨b, by simp, hb⟩
    | succ i => simpa using h2 i a (by simpa using hi)

theorem cells_get {w : World} {base : Nat} {a : Addr} {n : Nat} {cs : List Value} (h : w.cells? base a n = some cs) : cs.length = n ∧ ∀ (i : Nat) (v : Value), cs[i]? = some v → w.cell? (a.add i) = some v := by
  unfold World.cells? at h
  split at h
  · obtain ⟨h1, h2⟩ := mapM_get h
    simp only [List.length_range] at h1
    refine ⟨h1.symm, fun i v hv => ?_⟩
    have hl : i < n := by rw [h1]; exact (List.getElem?_eq_some_iff.1 hv).1
    obtain ⟨b, hb, hf⟩ := h2 i i (by simp [hl])
    rw [hv] at hb; cases hb; exact hf
  · cases h

theorem choose_list {α : Type} {Q : Nat → α → Prop} : ∀ (n : Nat), (∀ i, i < n → ∃ x, Q i x) → ∃ l : List α, l.length = n ∧ ∀ (i : Nat) (x : α), l[i]? = some x → Q i x
  | 0, _ => ⟨[], rfl, fun i x h => by simp at h⟩
  | n + 1, h => by
    obtain ⟨l, h1, h2⟩ := choose_list n fun i hi => h i (by omega)
    obtain ⟨x, hx⟩ := h n (by omega)
    refine ⟨l ++ [x], by simp [h1], fun i y hy => ?_⟩
    by_cases hi : i < l.length
    · rw [List.getElem?_append_left hi] at hy; exact h2 i y hy
    · rw [List.getElem?_append_right (by omega)] at hy
      have h0 : i - l.length = 0 := by
        have := (List.getElem?_eq_some_iff.1 hy).1
        simp at this; omega
      rw [h0] at hy
      simp at hy; subst hy
      have : i = n := by omega
      rw [this]; exact hx

theorem add_add {a : Addr} (h : a.spot = none) (m j : Nat) : (a.add m).add j = ⟨a.block, a.off + m + j, none⟩ := by
  obtain ⟨b, o, sp⟩ := a
  simp only at h; subst h
  unfold Addr.add
  by_cases hm : m = 0 <;> by_cases hj : j = 0 <;> simp [hm, hj]

theorem spot_none {w : World} {a : Addr} {v : Value} (h : w.cell? a = some v) : a.spot = none := by
  unfold World.cell? at h
  split at h
  · split at h
    · cases h
    · rename_i hh; simpa using hh
  · cases h

structure Reads (w : World) (k t : Nat) (ps : List P) (cs : List Value) : Prop where
  rep : Reps N (allH w) ps cs
  ty : tyP pr k t ps
  flat : ∀ p ∈ ps, p.isAgg = false
  one : ∀ v ∈ cs, v.oneCell' = true

theorem Reps.take_drop {H : HM} {ps : List P} {cs : List Value} (h : Reps N H ps cs) (o n : Nat) : Reps N H ((ps.drop o).take n) ((cs.drop o).take n) :=
  Reps.of N (by simp [Reps.length N h]) fun j p v hp hv => by
    rw [List.getElem?_take] at hp hv
    split at hp
    · rename_i hj
      rw [if_pos hj] at hv
      rw [List.getElem?_drop] at hp hv
      obtain ⟨u, h1, h2⟩ := Reps.get N h _ p hp
      rw [h1] at hv; cases hv; exact h2
    · cases hp

theorem Reps.app {H : HM} : ∀ {ps qs : List P} {us vs : List Value}, Reps N H ps us → Reps N H qs vs → Reps N H (ps ++ qs) (us ++ vs)
  | [], _, _, _, h, k => by simp only [Reps] at h; subst h; simpa using k
  | x :: r, _, _, _, h, k => by
    simp only [Reps, List.cons_append] at h ⊢
    obtain ⟨v, s, rfl, h1, h2⟩ := h
    exact ⟨v, s ++ _, rfl, h1, Reps.app h2 k⟩

theorem tiles_ge {fs : List Field} : ∀ {o tot : Nat}, tiles pr o fs = some tot → o ≤ tot ∧ ∀ f ∈ fs, o ≤ f.offset ∧ f.offset + pr.cellsOf f.type ≤ tot := by
  induction fs with
  | nil => intro o tot h; simp only [tiles, Option.some.injEq] at h; subst h; exact ⟨Nat.le_refl _, by simp⟩
  | cons f r ih =>
    intro o tot h
    simp only [tiles] at h
    split at h
    · rename_i hf
      obtain ⟨h1, h2⟩ := ih h
      refine ⟨by omega, fun g hg => ?_⟩
      rcases List.mem_cons.1 hg with rfl | hg
      · omega
      · have := h2 g hg; omega
    · cases h

theorem fields_read {w : World} {k : Nat} {cs : List Value} : ∀ (fs : List Field) (o tot : Nat), tiles pr o fs = some tot → tot ≤ cs.length → (∀ f ∈ fs, ∃ ps, Reads N pr w k f.type ps ((cs.drop f.offset).take (pr.cellsOf f.type))) →
    ∃ ps, Reps N (allH w) ps ((cs.drop o).take (tot - o)) ∧ ps.length = tot - o ∧ (∀ f ∈ fs, tyP pr k f.type ((ps.drop (f.offset - o)).take (pr.cellsOf f.type))) ∧ (∀ p ∈ ps, p.isAgg = false) ∧ ∀ v ∈ (cs.drop o).take (tot - o), v.oneCell' = true
  | [], o, tot, h, _, _ => by
    simp only [tiles, Option.some.injEq] at h; subst h
    exact ⟨[], by simp [Reps], by simp, by simp, by simp, by simp⟩
  | f :: r, o, tot, h, hl, hr => by
    have hge := tiles_ge pr h
    simp only [tiles] at h
    split at h
    · rename_i hf
      obtain ⟨qs, q1, q2, q3, q4, q5⟩ := fields_read r (o + pr.cellsOf f.type) tot h hl fun g hg => hr g (by simp [hg])
      obtain ⟨ps, hp⟩ := hr f (by simp)
      rw [hf] at hp
      have hf2 := hge.2 f (by simp)
      have hlen : ps.length = pr.cellsOf f.type := by rw [Reps.length N hp.rep]; simp; omega
      have hcs : (cs.drop o).take (tot - o) = (cs.drop o).take (pr.cellsOf f.type) ++ (cs.drop (o + pr.cellsOf f.type)).take (tot - (o + pr.cellsOf f.type)) := by
        have h1 : tot - o = pr.cellsOf f.type + (tot - (o + pr.cellsOf f.type)) := by omega
        rw [h1, List.take_add, List.drop_drop]
      have hrest := (tiles_ge pr h).2
      refine ⟨ps ++ qs, by rw [hcs]; exact Reps.app N hp.rep q1, by rw [List.length_append, hlen, q2]; omega, fun g hg => ?_, fun p hpp => ?_, fun v hv => ?_⟩
      · rcases List.mem_cons.1 hg with rfl | hg
        · have : ((ps ++ qs).drop (g.offset - o)).take (pr.cellsOf g.type) = ps := by
            rw [hf, Nat.sub_self, List.drop_zero, ← hlen, List.take_left]
          rw [this]; exact hp.ty
        · have h1 := hrest g hg
          have : ((ps ++ qs).drop (g.offset - o)).take (pr.cellsOf g.type) = (qs.drop (g.offset - (o + pr.cellsOf f.type))).take (pr.cellsOf g.type) := by
            rw [List.drop_append, List.drop_of_length_le (by omega), List.nil_append, hlen]
            congr 2
            omega
          rw [this]; exact q3 g hg
      · rcases List.mem_append.1 hpp with h | h
        · exact hp.flat p h
        · exact q4 p h
      · rw [hcs] at hv
        rcases List.mem_append.1 hv with h | h
        · exact hp.one v h
        · exact q5 v h
    · cases h

theorem trod_reads {Hd : Type} {enc : TypeId × Value → Hd} {w : World} {base : Nat} {spare : Nat → Bool} {held : Bool} : ∀ (k t fuel : Nat) (cs : List Value) (d : DataW Hd) (pl : List MemPlace), okTy pr k t = true → DataW.trod enc pr w base spare held fuel t cs = some (d, pl) → ∃ ps, Reads N pr w k t ps cs := by
  intro k
  induction k with
  | zero => intro t fuel cs d pl h; simp [okTy] at h
  | succ k ih =>
    intro t fuel cs d pl ho h
    cases fuel with
    | zero => simp [DataW.trod] at h
    | succ fuel =>
      simp only [okTy] at ho
      simp only [DataW.trod] at h
      cases hu : pr.underlying t with
      | none => simp [hu] at ho
      | some ty =>
        rw [hu] at ho h
        cases ty <;> simp only [Bool.false_eq_true] at ho
        case bool =>
          split at h
          all_goals try (rename_i e; cases e; done)
          all_goals try (cases h; done)
          rename_i b _
          exact ⟨[.v (.bool b)], ⟨by simp only [Reps, Rep]; exact ⟨_, [], rfl, rfl, rfl⟩, by simp only [tyP, hu]; exact ⟨b, rfl⟩, by simp [P.isAgg], by simp [Value.oneCell']⟩⟩
        case int kd =>
          split at h
          all_goals try (rename_i e; cases e; done)
          all_goals try (cases h; done)
          rename_i k1 k2 n e
          cases e
          split at h
          · rename_i hk
            obtain ⟨rfl, hw⟩ := hk
            exact ⟨[.v (.int _ n)], ⟨by simp only [Reps, Rep]; exact ⟨_, [], rfl, rfl, rfl⟩, by simp only [tyP, hu]; exact ⟨n, rfl, hw⟩, by simp [P.isAgg], by simp [Value.oneCell']⟩⟩
          · cases h
        case string =>
          split at h
          all_goals try (rename_i e; cases e; done)
          all_goals try (cases h; done)
          rename_i b _
          split at h
          · rename_i hk
            exact ⟨[.v (.string b)], ⟨by simp only [Reps, Rep]; exact ⟨_, [], rfl, rfl, rfl⟩, by simp only [tyP, hu]; exact ⟨b, rfl, hk⟩, by simp [P.isAgg], by simp [Value.oneCell']⟩⟩
          · cases h
        case slice e =>
          simp only [Bool.and_eq_true, beq_iff_eq] at ho
          obtain ⟨hoe, hsz⟩ := ho
          split at h
          all_goals try (rename_i e; cases e; done)
          all_goals try (cases h; done)
          · exact ⟨[.sl (nOf pr e) []], ⟨by simp only [Reps, Rep]; exact ⟨_, [], rfl, ⟨none, 0, ⟨rfl, Nat.le_refl _⟩, fun h => absurd rfl h⟩, rfl⟩, by simp only [tyP, hu]; exact ⟨[], rfl, by simp, by simp⟩, by simp [P.isAgg], by simp [Value.oneCell']⟩⟩
          · rename_i e' a len cap he
            cases he
            split at h
            · rename_i hc
              obtain ⟨hb, hlc, hcm⟩ := hc
              simp only [Option.bind_eq_some_iff] at h
              obtain ⟨elems, hel, _⟩ := h
              obtain ⟨hl1, hl2⟩ := mapM_get hel
              have hpos : 0 < sz (nOf pr e) := by unfold sz; split <;> omega
              have hagg : ∀ {ps : List P}, tyP pr k e ps → ps.length = pr.cellsOf e → nOf pr e = 0 → ∃ x, ps = [x] := fun {ps} _ hl h0 => by
                rw [hsz, h0] at hl
                match ps, hl with
                | [x], _ => exact ⟨x, rfl⟩
              have hspot : 0 < len → a.spot = none := fun hi => by
                obtain ⟨x, _, hx⟩ := hl2 0 0 (by simp [hi])
                simp only [Option.bind_eq_some_iff] at hx
                obtain ⟨cs, hcs, hx⟩ := hx
                obtain ⟨c1, c2⟩ := cells_get hcs
                have h0 := c2 0 _ (List.getElem?_eq_getElem (by rw [c1, hsz]; exact hpos))
                have hz : (a.add (0 * pr.cellsOf e)).add 0 = a := by simp [Addr.add]
                rw [hz] at h0
                exact spot_none h0
              obtain ⟨es, he1, he2⟩ := choose_list (Q := fun i (x : P) => (tyP pr k e x.cells ∧ (x.isAgg = true ↔ nOf pr e ≠ 0)) ∧ a.spot = none ∧ ∃ v, Lies (allH w) (nOf pr e) a.block (a.off + i * sz (nOf pr e)) v ∧ Rep N (allH w) x v) len fun i hi => by
                obtain ⟨x, _, hx⟩ := hl2 i i (by simp [hi])
                simp only [Option.bind_eq_some_iff] at hx
                obtain ⟨cs, hcs, hx⟩ := hx
                obtain ⟨d', p'⟩ := x
                obtain ⟨ps, hr⟩ := ih e fuel cs d' p' hoe hx
                obtain ⟨c1, c2⟩ := cells_get hcs
                have hpl : ps.length = pr.cellsOf e := by rw [Reps.length N hr.rep, c1]
                have hsp : a.spot = none := hspot (by omega)
                have hcell : ∀ j v, cs[j]? = some v → allH w a.block (a.off + i * sz (nOf pr e) + j) = some v := fun j v hv => by
                  have h1 := c2 j v hv
                  rw [add_add hsp, hsz] at h1
                  unfold allH
                  rw [h1]
                  simp [hr.one v (List.mem_of_getElem? hv)]
                have hne : ∃ v, cs[0]? = some v := ⟨cs[0]'(by rw [c1, hsz]; exact hpos), List.getElem?_eq_getElem _⟩
                obtain ⟨v0, hv0⟩ := hne
                by_cases h0 : nOf pr e = 0
                · obtain ⟨x, rfl⟩ := hagg hr.ty hpl h0
                  have hxa := hr.flat x (by simp)
                  have hxc : x.cells = [x] := by cases x <;> first | rfl | (simp [P.isAgg] at hxa)
                  refine ⟨x, ⟨by rw [hxc]; exact hr.ty, by simp [hxa, h0]⟩, hsp, v0, .inl ⟨h0, by simpa using hcell 0 v0 hv0⟩, ?_⟩
                  obtain ⟨u, q1, q2⟩ := Reps.get N hr.rep 0 x rfl
                  rw [hv0] at q1; cases q1; exact q2
                · refine ⟨.agg ps, ⟨hr.ty, by simp [P.isAgg, h0]⟩, hsp, .agg cs.toArray, .inr ⟨h0, cs, by rw [c1, hsz]; simp [sz, h0], rfl, fun j c hj => hcell j c hj⟩, by simp only [Rep]; exact ⟨cs, rfl, hr.rep⟩⟩
              refine ⟨[.sl (nOf pr e) es], ⟨?_, ?_, by simp [P.isAgg], by simp [Value.oneCell']⟩⟩
              · simp only [Reps, Rep]
                refine ⟨_, [], rfl, ⟨some a, cap, ⟨by rw [he1], by rw [he1]; exact hlc⟩, fun hne => ?_⟩, rfl⟩
                obtain ⟨x, hx⟩ : ∃ x, es[0]? = some x := by
                  cases es with
                  | nil => exact absurd rfl hne
                  | cons x r => exact ⟨x, rfl⟩
                have hsp := (he2 0 x hx).2.1
                refine ⟨a.block, a.off, ?_, RepEs.of N fun j p hj => ?_⟩
                · cases a; simp only at hsp; subst hsp; rfl
                · obtain ⟨h1, _, v, h2, h3⟩ := he2 j p hj
                  exact ⟨v, h2, h3, h1.2⟩
              · simp only [tyP, hu]
                refine ⟨es, rfl, by rw [he1]; omega, fun x hx => ?_⟩
                obtain ⟨j, hj⟩ := List.getElem?_of_mem hx
                exact (he2 j x hj).1
            · cases h
        case struct fs =>
          simp only [Bool.and_eq_true, beq_iff_eq, bne_iff_ne, ne_eq] at ho
          obtain ⟨⟨ht, h0⟩, hall⟩ := ho
          simp only at h
          split at h
          · rename_i hlen
            simp only [Option.map_eq_some_iff] at h
            obtain ⟨xs, hxs, _⟩ := h
            obtain ⟨_, hg⟩ := mapM_get hxs
            obtain ⟨ps, q1, q2, q3, q4, q5⟩ := fields_read N pr (w := w) (k := k) (cs := cs) fs.toList 0 (pr.cellsOf t) ht (by omega) fun f hf => by
              obtain ⟨j, hj⟩ := List.getElem?_of_mem hf
              obtain ⟨⟨d', p'⟩, _, hx⟩ := hg j f hj
              exact ih f.type fuel _ d' p' ((List.all_eq_true.1 hall) f hf) hx
            simp only [Nat.sub_zero, List.drop_zero] at q1 q2 q3 q5
            rw [List.take_of_length_le (by omega)] at q1 q5
            exact ⟨ps, ⟨q1, by simp only [tyP, hu]; exact ⟨q2, q3⟩, q4, q5⟩⟩
          · cases h
        all_goals cases ho

/-- One argument, as data. -/
structure ArgIs (w : World) (k t : Nat) (q : P) (v : Value) : Prop where
  rep : Rep N (allH w) q v
  ty : tyP pr k t q.cells
  agg : q.isAgg = true ↔ nOf pr t ≠ 0

theorem arg_reads {Hd : Type} {enc : TypeId × Value → Hd} {w w2 : World} {base b2 : Nat} {r : Reach} {spare : Nat → Bool} {held : Bool} {k t : Nat} {v : Value} {d : DataW Hd} {pl : List MemPlace} (ho : okTy pr k t = true) (hc : pr.cellsOf t = sz (nOf pr t)) (hok : Value.okWide pr w2 r b2 t v)
    (h : DataW.Trod enc pr w base spare held t v d pl) : ∃ q, ArgIs N pr w k t q v := by
  obtain ⟨fuel, hf⟩ := h
  obtain ⟨ps, hr⟩ := trod_reads N pr k t fuel v.cells.toList d pl ho hf
  by_cases h0 : nOf pr t = 0
  · have hna : ¬ ∃ cs, v = .agg cs := by
      rintro ⟨cs, rfl⟩
      cases k with
      | zero => simp [okTy] at ho
      | succ k =>
        simp only [okTy] at ho
        unfold Value.okWide Cell.okWide Cell.ok at hok
        unfold nOf at h0
        cases hu : pr.underlying t with
        | none => simp [hu] at ho
        | some ty =>
          rw [hu] at ho hok h0
          cases ty <;> simp at ho hok h0
          obtain ⟨⟨_, h2⟩, _⟩ := ho
          exact h2 h0
    rw [cells_one hna] at hr
    obtain ⟨p, hp⟩ : ∃ p, ps = [p] := by
      have hl := Reps.length N hr.rep
      match ps, hl with
      | [p], _ => exact ⟨p, rfl⟩
    subst hp
    have hpa := hr.flat p (by simp)
    have hpc : p.cells = [p] := by cases p <;> first | rfl | (simp [P.isAgg] at hpa)
    obtain ⟨u, q1, q2⟩ := Reps.get N hr.rep 0 p rfl
    simp at q1; subst q1
    exact ⟨p, q2, by rw [hpc]; exact hr.ty, by simp [hpa, h0]⟩
  · have hag : ∃ cs, v = .agg cs := by
      unfold Value.okWide at hok
      unfold nOf at h0
      cases hu : pr.underlying t with
      | none => rw [hu] at h0; simp at h0
      | some ty =>
        rw [hu] at hok h0
        cases ty <;> simp at hok h0
        all_goals (obtain ⟨cs, h, _⟩ := hok; exact ⟨cs, h⟩)
    obtain ⟨cs, rfl⟩ := hag
    rw [cells_agg] at hr
    exact ⟨.agg ps, by simp only [Rep]; exact ⟨cs.toList, by simp, hr.rep⟩, hr.ty, by simp [P.isAgg, h0]⟩

open Go.RowKit in
/-- An open law, at arguments that are read as data. -/
theorem open_law (hmix : pr.follows .mixedOrders = true) {tbl : Nat → Option AFn} (ht : TblOk N pr tbl) {id f : Nat} (hid : N.num id = f) {w : World} {qs : List P} {vals : List Value} (hr : Reps N (allH w) qs vals)
    (hs : ∃ n, saysTrue ((evalN tbl n).call id (qs.map V.p) []) = true) : Calls pr f vals.toArray w fun e w' => e = .returned (.bool true) ∧ Grown w w' ∧ w'.tape = w.tape ∧ ∀ k, k < w.heap.size → w'.heap[k]? = w.heap[k]? := by
  subst hid
  obtain ⟨n, hs⟩ := hs
  obtain ⟨m, h⟩ := saysTrue_of hs
  obtain ⟨_, hc⟩ := (evalN_ok N pr hmix ht n).call id _ _ _ _ h
  have hno : ∀ b, ¬ Owned (⟨allH w, [], [], w⟩ : Cfg) b := by
    rintro b ⟨i, s, hl, _⟩
    rcases hl with ⟨cs, h⟩ | ⟨n, k, h⟩ <;> simp at h
  have hg : Good N none ⟨allH w, [], [], w⟩ := ⟨rfl, allH_frz w, fun i x h => by simp at h, fun i j R s s' h => by
    rcases h with ⟨cs, h⟩ | ⟨n, k, h⟩ <;> simp at h⟩
  refine (hc ⟨allH w, [], [], w⟩ vals hg rfl (VReps.ofReps N hr)).mono ?_
  rintro e w' ⟨c', v, rfl, rfl, _, _, ht, _, hv⟩
  simp only [VRep, Rep] at hv
  subst hv
  exact ⟨rfl, ⟨World.keptBut.congr (World.keptBut_refl _ _) ht.os ht.output fun k hk => ht.frame k hk (hno k), ht.fz, ht.size⟩, ht.tape, fun k hk => ht.frame k hk (hno k)⟩

end Go.Am
