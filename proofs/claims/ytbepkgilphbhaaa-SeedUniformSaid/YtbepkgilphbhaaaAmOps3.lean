/- The machine's operations are Go's: slices that are made, written out, and appended to. -/
import Derived.Test.YtbepkgilphbhaaaAmOps2
namespace Go.Am
open Go

variable (N : Nm) (ly : Option Nat) (pr : Program)

/-- A new row that no block stands for; its first cells are never written again. -/
theorem new_frozen {c : Cfg} (hg : Good N ly c) (arr : Array Value) (e : TypeId) (lim : Nat) (hone : ∀ j v, j < lim → arr[j]? = some v → v.oneCell' = true)
    (w' : World) (hw : w'.heap = c.w.heap.push (.cells arr e (0, 0))) (hos : w'.os = c.w.os) (htape : w'.tape = c.w.tape) (hout : w'.output = c.w.output) :
    let c' : Cfg := ⟨c.H.more c.w.heap.size arr lim, c.φ, c.m, w'⟩
    Good N ly c' ∧ Trans c c' ∧ Ext c.H c.φ c.m c'.H c'.φ c'.m := by
  intro c'
  -- a hole laid out for it, and taken away again
  obtain ⟨g1, t1, e1⟩ := more_blocks N ly hg [.hole] [none] rfl (fun j x hj => by
    cases j with
    | zero => simp at hj; exact .inr (.inl hj.symm)
    | succ j => simp at hj)
  have hH0 : ∀ o, c.H c.w.heap.size o = none := fun o => by
    cases h : c.H c.w.heap.size o with
    | none => rfl
    | some v => exact absurd (hg.hlt N ly h) (Nat.lt_irrefl _)
  have hle : c.H.le c'.H := HM.more_le fun o v hv _ => by rw [hH0] at hv; cases hv
  have hold : ∀ b, b < c.w.heap.size → w'.heap[b]? = c.w.heap[b]? := fun b hb => by rw [hw, Array.getElem?_push, if_neg (by omega)]
  have hnew : w'.heap[c.w.heap.size]? = some (.cells arr e (0, 0)) := by rw [hw]; simp
  have hE : Ext c.H c.φ c.m c'.H c'.φ c'.m := Ext.of hle (Link.refl c.φ c.m)
  refine ⟨⟨hg.len, ?_, ?_, hg.inj⟩, ⟨frozen_push hw, hos, htape, hout, by simp only [c', hw, Array.size_push]; omega, hle, fun b hb _ => hold b hb, fun b h => .inl h, ?_⟩, hE⟩
  · intro b o v hv
    simp only [c', HM.more] at hv
    split at hv
    · rename_i hb
      obtain ⟨rfl, ho⟩ := hb
      refine ⟨?_, hone o v ho hv⟩
      simp only [c', World.cell?, hnew]
      simpa using hv
    · have h := hg.frz b o v hv
      refine ⟨?_, h.2⟩
      rw [World.cell?_of_block (w := c.w) (w' := w') (a := ⟨b, o, none⟩) (hold b (hg.hlt N ly hv))]
      exact h.1
  · intro j y hy
    by_cases hl : Live c.m j
    · refine (hg.blk j y hy).keep N ly hE rfl fun R s hR => ?_
      have hlt : R < c.w.heap.size := hg.owned_lt N ly ⟨j, s, hl, hR⟩
      exact ⟨hold R hlt, fun o ho => by simp only [c']; rw [HM.more_other (by omega)]; exact ho⟩
    · cases y with
      | cells cs => exact absurd (.inl ⟨cs, hy⟩) hl
      | tok n k => exact absurd (.inr ⟨n, k, hy⟩) hl
      | dead => trivial
      | hole => trivial
  · intro b o v hv
    simp only [c', HM.more] at hv
    split at hv
    · rename_i hb; exact .inr (.inr (by omega))
    · exact .inl hv

/-- Cells that are data, in a row known from its start. -/
theorem data_cells {c : Cfg} {H' : HM} {R : Nat} {cs : List V} {us : List Value} {ps : List P} (hr : VReps N ly c.H c.φ c.m cs us) (hp : toPs cs = some ps) (hle : c.H.le H') (hH : ∀ j u, us[j]? = some u → H' R j = some u) :
    RepCs N H' R ps 0 := by
  have h := VReps.toPs N ly cs ps us hp hr
  exact RepCs.of N fun j p hj => by
    obtain ⟨u, k1, k2⟩ := Reps.get N h j p hj
    exact ⟨u, by rw [Nat.zero_add]; exact hH j u k1, Rep.mono N hle p u k2⟩

theorem toPs_notAgg {cs : List V} {ps : List P} (h : toPs cs = some ps) (hc : ∀ y ∈ cs, y.isCell = true) : ∀ p ∈ ps, p.isAgg = false := fun p hp => by
  obtain ⟨j, hj⟩ := List.getElem?_of_mem hp
  obtain ⟨x, hx, hxp⟩ := toPs_get h j p hj
  exact toP_isAgg (hc x (List.mem_of_getElem? hx)) hxp

theorem chunk_flat {H : HM} {n : Nat} : ∀ (k : Nat) (ps : List P) (vs : List Value), Reps N H ps vs → ps.length = k * sz n → (∀ p ∈ ps, p.isAgg = false) → (∀ v ∈ vs, v.oneCell' = true) → Flat N H n (chunk n k ps) vs
  | 0, ps, vs, h, hl, _, _ => by
    have : ps = [] := List.eq_nil_of_length_eq_zero (by simpa using hl)
    subst this
    simp only [Reps] at h; subst h
    simp [chunk, Flat]
  | k + 1, ps, vs, h, hl, ha, ho => by
    have e1 := Reps.length N h
    rw [Nat.add_mul, Nat.one_mul] at hl
    have hdrop : Reps N H (ps.drop (sz n)) (vs.drop (sz n)) := Reps.of N (by simp [e1]) fun j p v hp hv => by
      simp only [List.getElem?_drop] at hp hv
      obtain ⟨u, k1, k2⟩ := Reps.get N h _ p hp
      rw [k1] at hv; cases hv; exact k2
    have htake : Reps N H (ps.take (sz n)) (vs.take (sz n)) := Reps.of N (by simp [e1]) fun j p v hp hv => by
      rw [List.getElem?_take] at hp hv
      split at hp
      · rename_i hj
        rw [if_pos hj] at hv
        obtain ⟨u, k1, k2⟩ := Reps.get N h _ p hp
        rw [k1] at hv; cases hv; exact k2
      · cases hp
    have hdl : (ps.drop (sz n)).length = k * sz n := by rw [List.length_drop]; omega
    have ih := chunk_flat (n := n) k (ps.drop (sz n)) (vs.drop (sz n)) hdrop hdl (fun p hp => ha p (List.mem_of_mem_drop hp)) (fun v hv => ho v (List.mem_of_mem_drop hv))
    simp only [chunk, Flat]
    by_cases hn : n = 0
    · have hsz : sz n = 1 := by simp [sz, hn]
      rw [hsz] at hl ih ⊢
      match ps, vs, h with
      | [], _, _ => simp at hl
      | p :: r, vs, h =>
        simp only [Reps] at h
        obtain ⟨v, s, rfl, h1, h2⟩ := h
        have hna := oneCell_not_agg (ho v (by simp))
        refine ⟨v, s, by rw [cells_one hna]; rfl, by rw [cells_one hna]; simp, ⟨fun h => absurd hn h, fun h => absurd h hna⟩, by simpa [hn] using h1, ?_, by simpa using ih⟩
        simp [hn, ha p (by simp)]
    · have hsz : sz n = n := by simp [sz, hn]
      rw [hsz] at hl ih htake ⊢
      refine ⟨.agg (vs.take n).toArray, vs.drop n, by simp [cells_agg], by simp [cells_agg]; omega, ⟨fun _ => ⟨_, rfl⟩, fun _ => hn⟩, ?_, by simp [hn, P.isAgg], ih⟩
      rw [if_neg hn]
      simp only [Rep]
      exact ⟨vs.take n, rfl, htake⟩

/-! ### Zero cells -/

theorem rep_length {α : Type} (xs : List α) : ∀ k, (rep xs k).length = k * xs.length
  | 0 => by simp [rep]
  | k + 1 => by simp [rep, rep_length xs k, Nat.add_mul]; omega

theorem rep_get {α : Type} (xs : List α) : ∀ (k j : Nat), j < k * xs.length → (rep xs k)[j]? = xs[j % xs.length]?
  | 0, j, h => by simp at h
  | k + 1, j, h => by
    rw [Nat.add_mul, Nat.one_mul] at h
    simp only [rep]
    by_cases hj : j < xs.length
    · rw [List.getElem?_append_left hj, Nat.mod_eq_of_lt hj]
    · rw [List.getElem?_append_right (by omega), rep_get xs k (j - xs.length) (by omega)]
      rw [← Nat.mod_eq_sub_mod (by omega : j ≥ xs.length)]

theorem zsEq_length : ∀ {z : List Zc} {vs : List Value}, zsEq z vs = true → z.length = vs.length
  | [], [], _ => rfl
  | _ :: r, _ :: s, h => by simp only [zsEq, Bool.and_eq_true] at h; simp [zsEq_length h.2]
  | [], _ :: _, h => by simp [zsEq] at h
  | _ :: _, [], h => by simp [zsEq] at h

theorem zeros_rep {c : Cfg} {z : List Zc} {za : Array Value} (h : zsEq z za.toList = true) (k : Nat) :
    VReps N ly c.H c.φ c.m (rep (z.map Zc.toV) k) ((Array.range (k * za.size)).map (za[· % za.size]!)).toList ∧ ∀ y ∈ rep (z.map Zc.toV) k, y.isCell = true := by
  obtain ⟨h1, h2⟩ := zsEq.rep N ly (H := c.H) (φ := c.φ) (m := c.m) h
  have hl := zsEq_length h
  simp only [Array.length_toList] at hl
  have hget : ∀ (j : Nat) (y : V), (rep (z.map Zc.toV) k)[j]? = some y → j < k * za.size ∧ (z.map Zc.toV)[j % za.size]? = some y := fun j y hy => by
    have hj := (List.getElem?_eq_some_iff.1 hy).1
    rw [rep_length] at hj
    rw [rep_get _ _ _ hj] at hy
    simp only [List.length_map, hl] at hj hy
    exact ⟨hj, hy⟩
  constructor
  · refine VReps.of N ly (by rw [rep_length]; simp [hl]) fun j p u hp hu => ?_
    obtain ⟨hj, hy⟩ := hget j p hp
    obtain ⟨v, k1, k2⟩ := VReps.get N ly h1 _ p hy
    have hu' : u = za[j % za.size]! := by
      simp only [Array.toList_map, List.getElem?_map, Array.toList_range, List.getElem?_range hj, Option.map_some, Option.some.injEq] at hu
      exact hu.symm
    rw [Array.getElem?_toList] at k1
    have : za[j % za.size]! = v := by
      rw [getElem!_def, k1]
    rw [hu', this]; exact k2
  · intro y hy
    obtain ⟨j, hj⟩ := List.getElem?_of_mem hy
    exact h2 y (List.mem_of_getElem? (hget j y hj).2)

end Go.Am
