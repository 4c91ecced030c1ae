/- Calls: the blocks that are handed on, and what comes back. -/
import Derived.Test.YtbepkgilphbhaaaAmMatch
namespace Go.Am
open Go

variable (N : Nm) (ly : Option Nat) (pr : Program)

/-! ### Values without yield -/

mutual
theorem VRep.anyY {H : HM} {φ : FM} {m : List Blk} {ly' : Option Nat} : ∀ (x : V) (v : Value), x.noY = true → VRep N ly H φ m x v → VRep N ly' H φ m x v
  | .p x, v, _, k => by simpa only [VRep] using k
  | .nil n, v, _, k => by simpa only [VRep] using k
  | .sl n t es, v, _, k => by simpa only [VRep] using k
  | .ref n b off len, v, _, k => by simpa only [VRep] using k
  | .ptr b off, v, _, k => by simpa only [VRep] using k
  | .agg cs, v, h, k => by
    simp only [VRep] at k ⊢; simp only [V.noY] at h
    obtain ⟨vs, e, k⟩ := k
    exact ⟨vs, e, VReps.anyY cs vs h k⟩
  | .fn f cs, v, h, k => by
    simp only [VRep] at k ⊢; simp only [V.noY] at h
    obtain ⟨vs, e, k⟩ := k
    exact ⟨vs, e, VReps.anyY cs vs h k⟩
  | .iface t x, v, h, k => by
    simp only [VRep] at k ⊢; simp only [V.noY] at h
    obtain ⟨y, e, k⟩ := k
    exact ⟨y, e, VRep.anyY x y h k⟩
  | .tuple cs, v, h, k => by
    simp only [VRep] at k ⊢; simp only [V.noY] at h
    obtain ⟨vs, e, k⟩ := k
    exact ⟨vs, e, VReps.anyY cs vs h k⟩
  | .yield, v, h, k => by simp [V.noY] at h
  | .unk, v, _, k => by simp only [VRep]
theorem VReps.anyY {H : HM} {φ : FM} {m : List Blk} {ly' : Option Nat} : ∀ (xs : List V) (vs : List Value), noYs xs = true → VReps N ly H φ m xs vs → VReps N ly' H φ m xs vs
  | [], _, _, k => by simpa only [VReps] using k
  | x :: r, _, h, k => by
    simp only [VReps] at k ⊢; simp only [noYs, Bool.and_eq_true] at h
    obtain ⟨v, s, rfl, k1, k2⟩ := k
    exact ⟨v, s, rfl, VRep.anyY x v h.1 k1, VReps.anyY r s h.2 k2⟩
end

mutual
theorem VRep.fromNone {H : HM} {φ : FM} {m : List Blk} : ∀ (x : V) (v : Value), VRep N none H φ m x v → VRep N ly H φ m x v
  | .p x, v, k => by simpa only [VRep] using k
  | .nil n, v, k => by simpa only [VRep] using k
  | .sl n t es, v, k => by simpa only [VRep] using k
  | .ref n b off len, v, k => by simpa only [VRep] using k
  | .ptr b off, v, k => by simpa only [VRep] using k
  | .agg cs, v, k => by
    simp only [VRep] at k ⊢
    obtain ⟨vs, e, k⟩ := k
    exact ⟨vs, e, VReps.fromNone cs vs k⟩
  | .fn f cs, v, k => by
    simp only [VRep] at k ⊢
    obtain ⟨vs, e, k⟩ := k
    exact ⟨vs, e, VReps.fromNone cs vs k⟩
  | .iface t x, v, k => by
    simp only [VRep] at k ⊢
    obtain ⟨y, e, k⟩ := k
    exact ⟨y, e, VRep.fromNone x y k⟩
  | .tuple cs, v, k => by
    simp only [VRep] at k ⊢
    obtain ⟨vs, e, k⟩ := k
    exact ⟨vs, e, VReps.fromNone cs vs k⟩
  | .yield, v, k => by simp only [VRep] at k; obtain ⟨l, h, _⟩ := k; cases h
  | .unk, v, k => by simp only [VRep]
theorem VReps.fromNone {H : HM} {φ : FM} {m : List Blk} : ∀ (xs : List V) (vs : List Value), VReps N none H φ m xs vs → VReps N ly H φ m xs vs
  | [], _, k => by simpa only [VReps] using k
  | x :: r, _, k => by
    simp only [VReps] at k ⊢
    obtain ⟨v, s, rfl, k1, k2⟩ := k
    exact ⟨v, s, rfl, VRep.fromNone x v k1, VReps.fromNone r s k2⟩
end

mutual
theorem noY_ren {ρ : Nat → Option Nat} : ∀ {x y : V}, x.ren ρ = some y → x.noY = true → y.noY = true
  | .p _, y, h, _ => by simp only [V.ren, Option.some.injEq] at h; subst h; rfl
  | .nil _, y, h, _ => by simp only [V.ren, Option.some.injEq] at h; subst h; rfl
  | .sl _ _ _, y, h, _ => by simp only [V.ren, Option.map_eq_some_iff] at h; obtain ⟨_, _, rfl⟩ := h; rfl
  | .ref _ _ _ _, y, h, _ => by simp only [V.ren, Option.map_eq_some_iff] at h; obtain ⟨_, _, rfl⟩ := h; rfl
  | .ptr _ _, y, h, _ => by simp only [V.ren, Option.map_eq_some_iff] at h; obtain ⟨_, _, rfl⟩ := h; rfl
  | .agg cs, y, h, k => by
    simp only [V.ren, Option.map_eq_some_iff] at h; obtain ⟨z, hz, rfl⟩ := h
    simp only [V.noY] at k ⊢; exact noYs_ren hz k
  | .fn _ cs, y, h, k => by
    simp only [V.ren, Option.map_eq_some_iff] at h; obtain ⟨z, hz, rfl⟩ := h
    simp only [V.noY] at k ⊢; exact noYs_ren hz k
  | .iface _ x, y, h, k => by
    simp only [V.ren, Option.map_eq_some_iff] at h; obtain ⟨z, hz, rfl⟩ := h
    simp only [V.noY] at k ⊢; exact noY_ren hz k
  | .tuple cs, y, h, k => by
    simp only [V.ren, Option.map_eq_some_iff] at h; obtain ⟨z, hz, rfl⟩ := h
    simp only [V.noY] at k ⊢; exact noYs_ren hz k
  | .yield, y, h, k => by simp [V.noY] at k
  | .unk, y, h, _ => by simp only [V.ren, Option.some.injEq] at h; subst h; rfl
theorem noYs_ren {ρ : Nat → Option Nat} : ∀ {xs ys : List V}, rens ρ xs = some ys → noYs xs = true → noYs ys = true
  | [], ys, h, _ => by simp only [rens, Option.some.injEq] at h; subst h; rfl
  | x :: r, ys, h, k => by
    simp only [rens] at h
    simp only [noYs, Bool.and_eq_true] at k
    split at h
    · rename_i a b ha hb
      simp only [Option.some.injEq] at h; subst h
      simp only [noYs, Bool.and_eq_true]
      exact ⟨noY_ren ha k.1, noYs_ren hb k.2⟩
    · simp at h
end

theorem noYs_get : ∀ {xs : List V}, noYs xs = true → ∀ (j : Nat) (x : V), xs[j]? = some x → x.noY = true
  | [], _, j, x, h => by simp at h
  | a :: r, h, j, x, hj => by
    simp only [noYs, Bool.and_eq_true] at h
    cases j with
    | zero => simp at hj; subst hj; exact h.1
    | succ j => exact noYs_get h.2 j x (by simpa using hj)

theorem Good.anyY {c : Cfg} {ly' : Option Nat} (hg : Good N ly c) (h : ∀ (i : Nat) (x : Blk), c.m[i]? = some x → x.noY = true) : Good N ly' c := by
  refine ⟨hg.len, hg.frz, fun i x hx => ?_, hg.inj⟩
  have hb := hg.blk i x hx
  cases x with
  | cells cs =>
    obtain ⟨R, s, arr, e, h1, h2, h3, h4, h5, h6⟩ := hb
    refine ⟨R, s, arr, e, h1, h2, h3, h4, fun j y hj => ?_, h6⟩
    obtain ⟨a, v, b, d⟩ := h5 j y hj
    exact ⟨a, v, b, VRep.anyY N ly y v (noYs_get (h i _ hx) j y hj) d⟩
  | tok n k => exact hb
  | dead => trivial
  | hole => trivial

theorem Good.fromNone {c : Cfg} (hg : Good N none c) : Good N ly c := by
  refine ⟨hg.len, hg.frz, fun i x hx => ?_, hg.inj⟩
  have hb := hg.blk i x hx
  cases x with
  | cells cs =>
    obtain ⟨R, s, arr, e, h1, h2, h3, h4, h5, h6⟩ := hb
    refine ⟨R, s, arr, e, h1, h2, h3, h4, fun j y hj => ?_, h6⟩
    obtain ⟨a, v, b, d⟩ := h5 j y hj
    exact ⟨a, v, b, VRep.fromNone N ly y v d⟩
  | tok n k => exact hb
  | dead => trivial
  | hole => trivial

/-! ### Lists of blocks -/

theorem nd_nodup : ∀ {l : List Nat}, nd l = true → l.Nodup
  | [], _ => List.nodup_nil
  | x :: r, h => by
    simp only [nd, Bool.and_eq_true, Bool.not_eq_true', List.contains_eq_mem, decide_eq_false_iff_not] at h
    exact List.nodup_cons.2 ⟨h.1, nd_nodup h.2⟩

theorem readAll_get {m : List Blk} : ∀ {idx : List Nat} {bs : List Blk}, (readAll idx).run m = some bs → idx.length = bs.length ∧ ∀ (k i : Nat), idx[k]? = some i → ∃ x, bs[k]? = some x ∧ m[i]? = some x
  | [], bs, h => by simp only [readAll, RM.run, Option.some.injEq] at h; subst h; exact ⟨rfl, fun k i hk => by simp at hk⟩
  | b :: r, bs, h => by
    simp only [readAll, RM.run] at h
    cases hb : m[b]? with
    | none => rw [hb] at h; simp [RM.run] at h
    | some x =>
      rw [hb] at h
      simp only [RM.run_bind] at h
      cases hr : (readAll r).run m with
      | none => rw [hr] at h; simp at h
      | some l =>
        rw [hr] at h
        simp only [Option.bind_some, RM.run, Option.some.injEq] at h; subst h
        obtain ⟨k1, k2⟩ := readAll_get hr
        refine ⟨by simp [k1], fun k i hk => ?_⟩
        cases k with
        | zero => simp at hk; subst hk; exact ⟨x, by simp, hb⟩
        | succ k => simpa using k2 k i (by simpa using hk)

theorem renBlks_get {ρ : Nat → Option Nat} : ∀ {bs ms : List Blk}, renBlks ρ bs = some ms → bs.length = ms.length ∧ ∀ (k : Nat) (y : Blk), ms[k]? = some y → ∃ x : Blk, bs[k]? = some x ∧ x.ren ρ = some y
  | [], ms, h => by simp only [renBlks, Option.some.injEq] at h; subst h; exact ⟨rfl, fun k y hk => by simp at hk⟩
  | b :: r, ms, h => by
    simp only [renBlks] at h
    split at h
    · rename_i u v hu hv
      simp only [Option.some.injEq] at h; subst h
      obtain ⟨k1, k2⟩ := renBlks_get hv
      refine ⟨by simp [k1], fun k y hk => ?_⟩
      cases k with
      | zero => simp at hk; subst hk; exact ⟨b, by simp, hu⟩
      | succ k => simpa using k2 k y (by simpa using hk)
    · simp at h

theorem idxOf_get {idx : List Nat} {i k : Nat} (h : idx.idxOf? i = some k) : idx[k]? = some i := by
  have := List.findIdx?_eq_some_iff_getElem.1 (by simpa [List.idxOf?] using h)
  obtain ⟨hk, h1, _⟩ := this
  rw [List.getElem?_eq_getElem hk]
  simpa using h1

theorem get_idxOf {idx : List Nat} (hn : idx.Nodup) {i k : Nat} (h : idx[k]? = some i) : idx.idxOf? i = some k := by
  obtain ⟨hk, hi⟩ := List.getElem?_eq_some_iff.1 h
  cases ho : idx.idxOf? i with
  | none =>
    exfalso
    rw [List.idxOf?_eq_none_iff] at ho
    exact ho (hi ▸ List.getElem_mem hk)
  | some k' =>
    have h' := idxOf_get ho
    obtain ⟨hk', hi'⟩ := List.getElem?_eq_some_iff.1 h'
    have hp := List.pairwise_iff_getElem.1 hn
    rcases Nat.lt_trichotomy k k' with hlt | heq | hgt
    · exact absurd (hi.trans hi'.symm) (hp k k' hk hk' hlt)
    · rw [heq]
    · exact absurd (hi'.trans hi.symm) (hp k' k hk' hk hgt)

theorem ren_blk_kind {ρ : Nat → Option Nat} {x y : Blk} (h : x.ren ρ = some y) : (∃ cs cs', x = .cells cs ∧ y = .cells cs') ∨ (x = y ∧ ∀ cs, x ≠ .cells cs) := by
  cases x with
  | cells cs => simp only [Blk.ren, Option.map_eq_some_iff] at h; obtain ⟨cs', _, rfl⟩ := h; exact .inl ⟨cs, cs', rfl, rfl⟩
  | tok n c => simp only [Blk.ren, Option.some.injEq] at h; subst h; exact .inr ⟨rfl, fun _ h => by cases h⟩
  | dead => simp only [Blk.ren, Option.some.injEq] at h; subst h; exact .inr ⟨rfl, fun _ h => by cases h⟩
  | hole => simp only [Blk.ren, Option.some.injEq] at h; subst h; exact .inr ⟨rfl, fun _ h => by cases h⟩

/-- A block and what it is renamed to read alike. -/
theorem leaf_ren {φ φ' : FM} {m m' : List Blk} {i i' : Nat} {ρ : Nat → Option Nat} {x y : Blk} (hx : m[i]? = some x) (hy : m'[i']? = some y) (hr : x.ren ρ = some y) (hφ : φ'[i']? = φ[i]?) : Leaf φ m φ' m' i i' := by
  rcases ren_blk_kind hr with ⟨cs, cs', rfl, rfl⟩ | ⟨rfl, hn⟩
  · exact Link.leaf (by unfold Link; rw [hx]; exact ⟨.inl ⟨cs', hy⟩, hφ⟩)
  · refine Link.leaf ?_
    unfold Link
    rw [hx]
    cases x with
    | cells cs => exact absurd rfl (hn cs)
    | tok n c => exact .inr ⟨c, hy, Nat.le_refl _, fun _ => hφ⟩
    | dead => exact ⟨hy, hφ⟩
    | hole => trivial

theorem leaf_same {φ φ' : FM} {m m' : List Blk} {i : Nat} (hm : m'[i]? = m[i]?) (hφ : φ'[i]? = φ[i]?) : Leaf φ m φ' m' i i := by
  cases hx : m[i]? with
  | none => exact Link.leaf (by unfold Link; rw [hx]; trivial)
  | some x => exact leaf_ren (ρ := some) hx (hm.trans hx) (Blk.ren_some x) hφ

/-- The blocks that are handed on, as a memory of their own. -/
theorem sub_good {c : Cfg} (hg : Good N ly c) {idx : List Nat} {bs ms : List Blk} (hn : idx.Nodup) (hb : (readAll idx).run c.m = some bs) (hms : renBlks (fun i => idx.idxOf? i) bs = some ms) :
    let φ1 : FM := idx.map fun i => (c.φ[i]?).getD none
    Good N ly ⟨c.H, φ1, ms, c.w⟩ ∧ Trans c ⟨c.H, φ1, ms, c.w⟩ ∧ ∀ i k, idx[k]? = some i → Leaf c.φ c.m φ1 ms i k ∧ φ1[k]? = c.φ[i]? ∧ ∃ x, c.m[i]? = some x := by
  intro φ1
  obtain ⟨l1, g1⟩ := readAll_get hb
  obtain ⟨l2, g2⟩ := renBlks_get hms
  have hφ : ∀ i k, idx[k]? = some i → φ1[k]? = c.φ[i]? := fun i k hk => by
    obtain ⟨x, _, hx⟩ := g1 k i hk
    have hlt : i < c.φ.length := by rw [hg.len]; exact (List.getElem?_eq_some_iff.1 hx).1
    show (idx.map fun i => (c.φ[i]?).getD none)[k]? = c.φ[i]?
    rw [List.getElem?_map, hk]
    simp [List.getElem?_eq_getElem hlt]
  have hleaf : ∀ i k, idx[k]? = some i → Leaf c.φ c.m φ1 ms i k := fun i k hk => by
    obtain ⟨x, hx, hxi⟩ := g1 k i hk
    have hkl : k < ms.length := by rw [← l2]; exact (List.getElem?_eq_some_iff.1 hx).1
    obtain ⟨x', hx', hr⟩ := g2 k ms[k] (List.getElem?_eq_getElem hkl)
    rw [hx] at hx'; cases hx'
    exact leaf_ren hxi (List.getElem?_eq_getElem hkl) hr (hφ i k hk)
  have := renum N ly hg φ1 ms (fun i => idx.idxOf? i) (by simp [φ1, l1, l2]) (fun k y hy => by
    obtain ⟨x, hx, hr⟩ := g2 k y hy
    have hkl : k < idx.length := by rw [l1]; exact (List.getElem?_eq_some_iff.1 hx).1
    have hk : idx[k]? = some idx[k] := List.getElem?_eq_getElem hkl
    obtain ⟨x', hx', hxi⟩ := g1 k _ hk
    rw [hx] at hx'; cases hx'
    exact .inr ⟨idx[k], x, get_idxOf hn hk, hxi, hr, hφ _ k hk⟩)
    (fun i j k h1 h2 => by have e1 := idxOf_get h1; have e2 := idxOf_get h2; rw [e1] at e2; exact Option.some.inj e2)
    (fun i k h => hleaf i k (idxOf_get h))
  exact ⟨this.1, this.2, fun i k hk => ⟨hleaf i k hk, hφ i k hk, let ⟨x, _, hx⟩ := g1 k i hk; ⟨x, hx⟩⟩⟩

theorem applyUps_length : ∀ (l : List (Nat × Blk)) (m : List Blk), (applyUps m l).length = m.length
  | [], m => rfl
  | (i, b) :: r, m => by simp only [applyUps]; rw [applyUps_length r]; simp

theorem applyUps_other : ∀ (l : List (Nat × Blk)) (m : List Blk) (j : Nat), (∀ u ∈ l, u.1 ≠ j) → (applyUps m l)[j]? = m[j]?
  | [], m, j, _ => rfl
  | (i, b) :: r, m, j, h => by
    simp only [applyUps]
    rw [applyUps_other r _ j (fun u hu => h u (by simp [hu])), List.getElem?_set_ne (h (i, b) (by simp))]

theorem applyUps_zip : ∀ (idx : List Nat) (bs : List Blk) (m : List Blk), idx.Nodup → (∀ i ∈ idx, i < m.length) → ∀ (k i : Nat) (b : Blk), idx[k]? = some i → bs[k]? = some b → (applyUps m (idx.zip bs))[i]? = some b
  | [], bs, m, _, _, k, i, b, hk, _ => by simp at hk
  | a :: r, [], m, _, _, k, i, b, _, hb => by simp at hb
  | a :: r, x :: s, m, hn, hl, k, i, b, hk, hb => by
    rw [List.nodup_cons] at hn
    simp only [List.zip_cons_cons, applyUps]
    cases k with
    | zero =>
      simp at hk hb; subst hk hb
      rw [applyUps_other]
      · simp [hl a (by simp)]
      · intro u hu e
        have := (List.of_mem_zip hu).1
        rw [e] at this; exact hn.1 this
    | succ k => exact applyUps_zip r s _ hn.2 (fun i hi => by simpa using hl i (by simp [hi])) k i b (by simpa using hk) (by simpa using hb)

end Go.Am
