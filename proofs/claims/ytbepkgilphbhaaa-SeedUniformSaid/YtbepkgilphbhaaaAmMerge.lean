/- What comes back from a call, laid into the caller's memory. -/
import Derived.Test.YtbepkgilphbhaaaAmCall
namespace Go.Am
open Go

variable (N : Nm) (ly : Option Nat) (pr : Program)

def mergeφ (idx : List Nat) (φ φ2 : FM) : FM := ((List.range φ.length).map fun i => match idx.idxOf? i with | some k => (φ2[k]?).getD none | none => (φ[i]?).getD none) ++ φ2.drop idx.length

def mergeM (idx : List Nat) (m m2 : List Blk) : List Blk := applyUps m (idx.zip (m2.take idx.length)) ++ m2.drop idx.length

theorem merge_good {c c1 c2 : Cfg} (hg : Good N ly c) {idx : List Nat} {m2' : List Blk} (hn : idx.Nodup) (h1H : c1.H = c.H) (h1w : c1.w = c.w) (h1l : c1.m.length = idx.length)
    (hidx : ∀ i k, idx[k]? = some i → Leaf c.φ c.m c1.φ c1.m i k ∧ c1.φ[k]? = c.φ[i]? ∧ ∃ x, c.m[i]? = some x) (hg1 : Good N ly c1) (hlive1 : ∀ R, Owned c1 R → ∃ i, i ∈ idx ∧ Live c.m i ∧ ∃ s, c.φ[i]? = some (some (R, s)))
    (hg2 : Good N ly c2) (ht : Trans c1 c2) (hE : Ext c1.H c1.φ c1.m c2.H c2.φ c2.m) (hlen : idx.length ≤ c2.m.length) (hren : renBlks (back idx c.m.length) c2.m = some m2') :
    let c3 : Cfg := ⟨c2.H, mergeφ idx c.φ c2.φ, mergeM idx c.m m2', c2.w⟩
    Good N ly c3 ∧ Trans c c3 ∧ Ext c.H c.φ c.m c3.H c3.φ c3.m ∧ ∀ (x x' : V) (v : Value), x.ren (back idx c.m.length) = some x' → VRep N ly c2.H c2.φ c2.m x v → VRep N ly c3.H c3.φ c3.m x' v := by
  intro c3
  obtain ⟨l2, g2⟩ := renBlks_get hren
  have hll : c.φ.length = c.m.length := hg.len
  have hlt : ∀ i ∈ idx, i < c.m.length := fun i hi => by
    obtain ⟨k, hk⟩ := List.getElem?_of_mem hi
    obtain ⟨_, _, x, hx⟩ := hidx i k hk
    exact (List.getElem?_eq_some_iff.1 hx).1
  have htl : (m2'.take idx.length).length = idx.length := by simp; omega
  have hul : (applyUps c.m (idx.zip (m2'.take idx.length))).length = c.m.length := applyUps_length _ _
  have hpl : ((List.range c.φ.length).map fun i => match idx.idxOf? i with | some k => (c2.φ[k]?).getD none | none => (c.φ[i]?).getD none).length = c.m.length := by simp [hll]
  -- the three parts of the new memory
  have F1m : ∀ k i, idx[k]? = some i → c3.m[i]? = m2'[k]? := fun k i hk => by
    have hkl : k < idx.length := (List.getElem?_eq_some_iff.1 hk).1
    have hil := hlt i (List.mem_of_getElem? hk)
    have hkb : (m2'.take idx.length)[k]? = some (m2'[k]'(by omega)) := by rw [List.getElem?_take_of_lt hkl, List.getElem?_eq_getElem (by omega)]
    show (applyUps c.m (idx.zip (m2'.take idx.length)) ++ m2'.drop idx.length)[i]? = _
    rw [List.getElem?_append_left (by omega), applyUps_zip idx _ c.m hn hlt k i _ hk hkb, List.getElem?_eq_getElem (by omega)]
  have F1φ : ∀ k i, idx[k]? = some i → c3.φ[i]? = c2.φ[k]? := fun k i hk => by
    have hkl : k < idx.length := (List.getElem?_eq_some_iff.1 hk).1
    have hil := hlt i (List.mem_of_getElem? hk)
    show (((List.range c.φ.length).map _) ++ c2.φ.drop idx.length)[i]? = _
    rw [List.getElem?_append_left (by omega), List.getElem?_map, List.getElem?_range (by omega)]
    simp only [Option.map_some, get_idxOf hn hk]
    rw [List.getElem?_eq_getElem (by rw [hg2.len]; omega)]; rfl
  have F2m : ∀ i, i < c.m.length → i ∉ idx → c3.m[i]? = c.m[i]? := fun i hi hni => by
    show (applyUps c.m (idx.zip (m2'.take idx.length)) ++ m2'.drop idx.length)[i]? = _
    rw [List.getElem?_append_left (by omega), applyUps_other]
    intro u hu e
    exact hni (e ▸ (List.of_mem_zip hu).1)
  have F2φ : ∀ i, i < c.m.length → i ∉ idx → c3.φ[i]? = c.φ[i]? := fun i hi hni => by
    show (((List.range c.φ.length).map _) ++ c2.φ.drop idx.length)[i]? = _
    rw [List.getElem?_append_left (by omega), List.getElem?_map, List.getElem?_range (by omega)]
    have : idx.idxOf? i = none := List.idxOf?_eq_none_iff.2 hni
    simp only [Option.map_some, this]
    rw [List.getElem?_eq_getElem (by omega)]; rfl
  have F3m : ∀ j, c3.m[c.m.length + j]? = m2'[idx.length + j]? := fun j => by
    show (applyUps c.m (idx.zip (m2'.take idx.length)) ++ m2'.drop idx.length)[c.m.length + j]? = _
    rw [List.getElem?_append_right (by omega), hul, List.getElem?_drop]
    congr 1; omega
  have F3φ : ∀ j, c3.φ[c.m.length + j]? = c2.φ[idx.length + j]? := fun j => by
    show (((List.range c.φ.length).map _) ++ c2.φ.drop idx.length)[c.m.length + j]? = _
    rw [List.getElem?_append_right (by omega), hpl, List.getElem?_drop]
    congr 1; omega
  have FB : ∀ k i', back idx c.m.length k = some i' → c3.m[i']? = m2'[k]? ∧ c3.φ[i']? = c2.φ[k]? := fun k i' hb => by
    unfold back at hb
    split at hb
    · exact ⟨F1m k i' hb, F1φ k i' hb⟩
    · rename_i hk
      cases hb
      have e : idx.length + (k - idx.length) = k := by omega
      exact ⟨by rw [F3m, e], by rw [F3φ, e]⟩
  have hleafB : ∀ k i', back idx c.m.length k = some i' → Leaf c2.φ c2.m c3.φ c3.m k i' := fun k i' hb => by
    obtain ⟨e1, e2⟩ := FB k i' hb
    cases hx : c2.m[k]? with
    | none => exact Link.leaf (by unfold Link; rw [hx]; trivial)
    | some x =>
      have hkl : k < m2'.length := by rw [← l2]; exact (List.getElem?_eq_some_iff.1 hx).1
      have hy : m2'[k]? = some m2'[k] := List.getElem?_eq_getElem hkl
      obtain ⟨x', hx', hr⟩ := g2 k _ hy
      rw [hx] at hx'; cases hx'
      exact leaf_ren hx (e1.trans hy) hr e2
  have hback : ∀ (x x' : V) (v : Value), x.ren (back idx c.m.length) = some x' → VRep N ly c2.H c2.φ c2.m x v → VRep N ly c3.H c3.φ c3.m x' v := fun x x' v h k => VRep.ren N ly (HM.le_refl _) hleafB x x' v h k
  have hle : c.H.le c2.H := fun b o v h => ht.hle b o v (h1H ▸ h)
  have hleaf : ∀ i, Leaf c.φ c.m c3.φ c3.m i i := fun i => by
    by_cases hi : i ∈ idx
    · obtain ⟨k, hk⟩ := List.getElem?_of_mem hi
      have hkl : k < idx.length := (List.getElem?_eq_some_iff.1 hk).1
      exact ((hidx i k hk).1.trans (hE.leaf k)).trans (hleafB k i (by unfold back; rw [if_pos hkl]; exact hk))
    · by_cases hl : i < c.m.length
      · exact leaf_same (F2m i hl hi) (F2φ i hl hi)
      · exact Link.leaf (by unfold Link; rw [List.getElem?_eq_none (by omega)]; trivial)
  have hE3 : Ext c.H c.φ c.m c3.H c3.φ c3.m := ⟨hle, hleaf⟩
  -- where a block of the new memory comes from
  have hfrom : ∀ i x, c3.m[i]? = some x → (i < c.m.length ∧ i ∉ idx ∧ c.m[i]? = some x ∧ c3.φ[i]? = c.φ[i]?) ∨ ∃ k y, back idx c.m.length k = some i ∧ c2.m[k]? = some y ∧ y.ren (back idx c.m.length) = some x ∧ c3.φ[i]? = c2.φ[k]? := fun i x hx => by
    have inB : ∀ k, back idx c.m.length k = some i → ∃ k y, back idx c.m.length k = some i ∧ c2.m[k]? = some y ∧ y.ren (back idx c.m.length) = some x ∧ c3.φ[i]? = c2.φ[k]? := fun k hb => by
      obtain ⟨e1, e2⟩ := FB k i hb
      obtain ⟨y, hy, hr⟩ := g2 k x (e1 ▸ hx)
      exact ⟨k, y, hb, hy, hr, e2⟩
    by_cases hl : i < c.m.length
    · by_cases hi : i ∈ idx
      · obtain ⟨k, hk⟩ := List.getElem?_of_mem hi
        exact .inr (inB k (by unfold back; rw [if_pos (List.getElem?_eq_some_iff.1 hk).1]; exact hk))
      · exact .inl ⟨hl, hi, by rw [← F2m i hl hi]; exact hx, F2φ i hl hi⟩
    · exact .inr (inB (idx.length + (i - c.m.length)) (by
        unfold back
        rw [if_neg (by omega)]
        congr 1; omega))
  have hlive2 : ∀ i R s, Live c3.m i → c3.φ[i]? = some (some (R, s)) → (i ∉ idx ∧ Live c.m i ∧ c.φ[i]? = some (some (R, s))) ∨ ∃ k, back idx c.m.length k = some i ∧ Live c2.m k ∧ c2.φ[k]? = some (some (R, s)) := fun i R s hl hp => by
    obtain ⟨x, hx, hx'⟩ : ∃ x, c3.m[i]? = some x ∧ ((∃ cs, x = .cells cs) ∨ ∃ n k, x = .tok n k) := by
      rcases hl with ⟨cs, h⟩ | ⟨n, k, h⟩
      · exact ⟨_, h, .inl ⟨cs, rfl⟩⟩
      · exact ⟨_, h, .inr ⟨n, k, rfl⟩⟩
    rcases hfrom i x hx with ⟨_, h2, h3, h4⟩ | ⟨k, y, h1, h2, h3, h4⟩
    · refine .inl ⟨h2, ?_, h4 ▸ hp⟩
      rcases hx' with ⟨cs, rfl⟩ | ⟨n, q, rfl⟩
      · exact .inl ⟨cs, h3⟩
      · exact .inr ⟨n, q, h3⟩
    · refine .inr ⟨k, h1, ?_, h4 ▸ hp⟩
      rcases ren_blk_kind h3 with ⟨cs, cs', rfl, rfl⟩ | ⟨rfl, hnc⟩
      · exact .inl ⟨cs, h2⟩
      · rcases hx' with ⟨cs, rfl⟩ | ⟨n, q, rfl⟩
        · exact absurd rfl (hnc cs)
        · exact .inr ⟨n, q, h2⟩
  -- who owned a row of the callee's
  have hown2 : ∀ R, Owned c2 R → (∃ i ∈ idx, Live c.m i ∧ ∃ s, c.φ[i]? = some (some (R, s))) ∨ c.w.heap.size ≤ R := fun R h => by
    rcases ht.own R h with h | h
    · obtain ⟨i, a, b, d⟩ := hlive1 R h
      exact .inl ⟨i, a, b, d⟩
    · exact .inr (h1w ▸ h)
  have hapart : ∀ i R s, i ∉ idx → Live c.m i → c.φ[i]? = some (some (R, s)) → ¬ Owned c1 R := fun i R s hi hl hp ho => by
    obtain ⟨j, hj, hlj, s', hpj⟩ := hlive1 R ho
    exact hi ((hg.inj i j R s s' hl hlj hp hpj) ▸ hj)
  have hbinj : ∀ k k' i, back idx c.m.length k = some i → back idx c.m.length k' = some i → k = k' := fun k k' i h h' => by
    unfold back at h h'
    split at h <;> split at h'
    · have e1 := get_idxOf hn h
      have e2 := get_idxOf hn h'
      rw [e1] at e2; exact Option.some.inj e2
    · have := hlt i (List.mem_of_getElem? h)
      cases h'; omega
    · have := hlt i (List.mem_of_getElem? h')
      cases h; omega
    · cases h
      simp only [Option.some.injEq] at h'; omega
  refine ⟨⟨?_, hg2.frz, ?_, ?_⟩, ⟨fun a => (ht.fz a).trans (by rw [h1w]), ht.os.trans (by rw [h1w]), ht.tape.trans (by rw [h1w]), ht.output.trans (by rw [h1w]), by have := ht.size; rwa [h1w] at this, hle, ?_, ?_, ?_⟩, hE3, hback⟩
  · show (((List.range c.φ.length).map _) ++ c2.φ.drop idx.length).length = (applyUps c.m (idx.zip (m2'.take idx.length)) ++ m2'.drop idx.length).length
    rw [List.length_append, List.length_append, hpl, hul, List.length_drop, List.length_drop, hg2.len, l2]
  · intro i x hx
    rcases hfrom i x hx with ⟨hl, hi, h3, h4⟩ | ⟨k, y, h1, h2, h3, h4⟩
    · by_cases hlv : Live c.m i
      · refine (hg.blk i x h3).keep N ly hE3 h4 fun R s hR => ?_
        have hno := hapart i R s hi hlv hR
        have hRl : R < c.w.heap.size := hg.owned_lt N ly ⟨i, s, hlv, hR⟩
        refine ⟨by have := ht.frame R (by rw [h1w]; exact hRl) hno; rw [h1w] at this; exact this, fun o ho => ?_⟩
        cases hv : c2.H R o with
        | none => rfl
        | some v =>
          rcases ht.hnew R o v hv with h | h | h
          · rw [h1H, ho] at h; cases h
          · exact absurd h hno
          · rw [h1w] at h; omega
      · cases x with
        | cells cs => exact absurd (.inl ⟨cs, h3⟩) hlv
        | tok n q => exact absurd (.inr ⟨n, q, h3⟩) hlv
        | dead => trivial
        | hole => trivial
    · have hb := hg2.blk k y h2
      rcases ren_blk_kind h3 with ⟨cs, cs', rfl, rfl⟩ | ⟨rfl, hnc⟩
      · obtain ⟨R, s, arr, e, k1, k2, k3, k4, k5, k6⟩ := hb
        simp only [Blk.ren, Option.map_eq_some_iff, Blk.cells.injEq] at h3
        obtain ⟨z, h3, rfl⟩ := h3
        have hget : ∀ {xs ys : List V}, rens (back idx c.m.length) xs = some ys → xs.length = ys.length ∧ ∀ (j : Nat) (y : V), ys[j]? = some y → ∃ x : V, xs[j]? = some x ∧ x.ren (back idx c.m.length) = some y := by
          intro xs
          induction xs with
          | nil => intro ys h; simp only [rens, Option.some.injEq] at h; subst h; exact ⟨rfl, fun j y hj => by simp at hj⟩
          | cons a r ih =>
            intro ys h
            simp only [rens] at h
            split at h
            · rename_i u v hu hv
              simp only [Option.some.injEq] at h; subst h
              obtain ⟨q1, q2⟩ := ih hv
              refine ⟨by simp [q1], fun j y hj => ?_⟩
              cases j with
              | zero => simp at hj; subst hj; exact ⟨a, by simp, hu⟩
              | succ j => simpa using q2 j y (by simpa using hj)
            · simp at h
        obtain ⟨q1, q2⟩ := hget h3
        refine ⟨R, s, arr, e, h4.trans k1, k2, k3, q1 ▸ k4, fun j y hj => ?_, k6⟩
        obtain ⟨x, hxj, hr⟩ := q2 j y hj
        obtain ⟨a, v, b, d⟩ := k5 j x hxj
        have hcell : x.isCell = y.isCell := by
          cases x <;> simp only [V.ren, Option.some.injEq, Option.map_eq_some_iff] at hr <;> first
            | (subst hr; rfl)
            | (obtain ⟨_, _, rfl⟩ := hr; rfl)
        exact ⟨hcell ▸ a, v, b, hback x y v hr d⟩
      · cases y with
        | cells cs => exact absurd rfl (hnc cs)
        | tok n q =>
          rcases hb with ⟨q1, q2⟩ | ⟨R, s, arr, e, q1, q2⟩
          · exact .inl ⟨q1, h4.trans q2⟩
          · exact .inr ⟨R, s, arr, e, h4.trans q1, q2⟩
        | dead => trivial
        | hole => trivial
  · intro i j R s s' hi hj h1 h2
    rcases hlive2 i R s hi h1 with ⟨ai, al, ap⟩ | ⟨k, bk, bl, bp⟩
    · rcases hlive2 j R s' hj h2 with ⟨di, dl, dp⟩ | ⟨k', ek, el, ep⟩
      · exact hg.inj i j R s s' al dl ap dp
      · exfalso
        rcases hown2 R ⟨k', s', el, ep⟩ with ⟨q, hq, ql, s2, qp⟩ | h
        · exact ai ((hg.inj i q R s s2 al ql ap qp) ▸ hq)
        · have := hg.owned_lt N ly ⟨i, s, al, ap⟩; omega
    · rcases hlive2 j R s' hj h2 with ⟨di, dl, dp⟩ | ⟨k', ek, el, ep⟩
      · exfalso
        rcases hown2 R ⟨k, s, bl, bp⟩ with ⟨q, hq, ql, s2, qp⟩ | h
        · exact di ((hg.inj j q R s' s2 dl ql dp qp) ▸ hq)
        · have := hg.owned_lt N ly ⟨j, s', dl, dp⟩; omega
      · have := hg2.inj k k' R s s' bl el bp ep
        subst this
        rw [bk] at ek; exact Option.some.inj ek
  · intro b hb hno
    have hno1 : ¬ Owned c1 b := fun h => by
      obtain ⟨i, _, hl, s, hp⟩ := hlive1 b h
      exact hno ⟨i, s, hl, hp⟩
    have := ht.frame b (by rw [h1w]; exact hb) hno1
    rw [h1w] at this; exact this
  · rintro b ⟨i, s, hl, hp⟩
    rcases hlive2 i b s hl hp with ⟨_, al, ap⟩ | ⟨k, _, bl, bp⟩
    · exact .inl ⟨i, s, al, ap⟩
    · rcases hown2 b ⟨k, s, bl, bp⟩ with ⟨q, _, ql, s2, qp⟩ | h
      · exact .inl ⟨q, s2, ql, qp⟩
      · exact .inr h
  · intro b o v hv
    rcases ht.hnew b o v hv with h | h | h
    · exact .inl (h1H ▸ h)
    · obtain ⟨i, _, hl, s, hp⟩ := hlive1 b h
      exact .inr (.inl ⟨i, s, hl, hp⟩)
    · exact .inr (.inr (h1w ▸ h))

end Go.Am
