/- What some functions of this seat answer. No condition. -/
import Derived.Test.YtbepkgilphbhaaaS33e
namespace Go.Am
open Go
set_option linter.unusedSimpArgs false
set_option linter.unusedVariables false
set_option maxRecDepth 100000
open Go.Proofs.Ytbepkgilphbhaaa.Fns

theorem L48r {D : List Int} {off len : Nat} {c : Int} (hlen : off + len ≤ D.length) (hD : D.length ≤ 1000000) {σ : Type} (Y : List P → σ → Option (Bool × σ)) (s : σ) :
    ∀ (r : List Int) (k : Nat) (st : St), ((D.drop off).take len).drop k = r → k ≤ len → gc 1 (liftAll [] ⟨keepOnly [0, 1, 7, 8] st.fr, st.mem⟩) = some ⟨⟨19, [(0, .ref 0 0 off len), (1, Vi c), (7, Vi len), (8, Vi k)]⟩, [.cells ((D.map Pi).map V.p)]⟩ →
      match r.findIdx? (fun x => decide (c = x)) with
      | none => U tbl Y 1 fn48_L0 st s = some (.exit 0, ⟨⟨19, [(0, .ref 0 0 off len), (1, Vi c), (7, Vi len), (8, Vi len), (9, Vb false)]⟩, [.cells ((D.map Pi).map V.p)]⟩, s)
      | some j => ∃ fr, U tbl Y 1 fn48_L0 st s = some (.ret, ⟨fr, [.cells ((D.map Pi).map V.p)]⟩, s) ∧ getF fr.l 4 = Vi (k + j : Nat) := by
  have hll : ((D.drop off).take len).length = len := by simp; omega
  intro r
  induction r with
  | nil =>
    intro k st hd hk hg
    have hle := drop_nil_facts hd
    have e : k = len := by omega
    subst e
    simp only [List.findIdx?_nil]
    rw [fn48_L0, u_loop tbl Y 1 s hg]
    simp only [fn48_B0, natnlt (Nat.le_refl k), go_sem, Nat.reduceBEq, Nat.reduceEqDiff, Nat.reduceLT, Nat.reduceLeDiff, Nat.reduceAdd, Nat.reduceMul, Nat.reduceSub, Nat.reduceDiv, Int.reduceLT, Int.reduceLE, Int.reduceToNat, Int.reduceNeg, Int.reduceSub, Int.reduceAdd, reduceIte, reduceCtorEq]
  | cons x r ih =>
    intro k st hd hk hg
    obtain ⟨h1, h2, h3⟩ := drop_cons_facts hd
    have hkl : k < len := by omega
    have h1' : D[off + k]? = some x := by
      rw [List.getElem?_take, if_pos hkl, List.getElem?_drop] at h1; exact h1
    have hkt : (k < len) = True := by simp [hkl]
    rw [List.findIdx?_cons]
    by_cases hpx : c = x
    · have hb : (c == x) = true := by simp [hpx]
      simp only [hpx, decide_true, if_true]
      rw [fn48_L0, u_loop tbl Y 1 s hg]
      simp only [fn48_B0, natlt hkl, h1', hkt, hb, go_sem, Nat.reduceBEq, Nat.reduceEqDiff, Nat.reduceLT, Nat.reduceLeDiff, Nat.reduceAdd, Nat.reduceMul, Nat.reduceSub, Nat.reduceDiv, Int.reduceLT, Int.reduceLE, Int.reduceToNat, Int.reduceNeg, Int.reduceSub, Int.reduceAdd, reduceIte, reduceCtorEq]
      exact ⟨_, rfl, by simp only [go_sem, Nat.reduceBEq, Nat.reduceEqDiff, Nat.reduceLT, Nat.reduceLeDiff, Nat.reduceAdd, Nat.reduceMul, Nat.reduceSub, Nat.reduceDiv, Int.reduceLT, Int.reduceLE, Int.reduceToNat, Int.reduceNeg, Int.reduceSub, Int.reduceAdd, reduceIte, reduceCtorEq]⟩
    · have hb : (c == x) = false := by simp [hpx]
      simp only [hpx, decide_false, Bool.false_eq_true, if_false]
      have hno : ∃ st1, U tbl Y 1 fn48_L0 st s = U tbl Y 1 fn48_L0 st1 s ∧ gc 1 (liftAll [] ⟨keepOnly [0, 1, 7, 8] st1.fr, st1.mem⟩) = some ⟨⟨19, [(0, .ref 0 0 off len), (1, Vi c), (7, Vi len), (8, Vi (k + 1 : Nat))]⟩, [.cells ((D.map Pi).map V.p)]⟩ := by
        rw [fn48_L0, u_loop tbl Y 1 s hg]
        simp only [fn48_B0, natlt hkl, h1', hkt, hb, succ64 (show k < 9223372036854775807 by omega), go_sem, Nat.reduceBEq, Nat.reduceEqDiff, Nat.reduceLT, Nat.reduceLeDiff, Nat.reduceAdd, Nat.reduceMul, Nat.reduceSub, Nat.reduceDiv, Int.reduceLT, Int.reduceLE, Int.reduceToNat, Int.reduceNeg, Int.reduceSub, Int.reduceAdd, reduceIte, reduceCtorEq]
        exact ⟨_, rfl, by simp only [gc, gcIdx, range1, range2, range3, range4, range5, List.filter_cons, List.idxOf?_cons, List.idxOf?_nil, List.getD_cons_zero, List.getD_cons_succ, List.getD_nil, List.contains_cons, List.contains_nil, List.elem_nil, Nat.reduceBEq, Bool.or_false, Bool.or_true, Bool.true_or, Bool.false_or, back, rangeIn, go_sem, Nat.reduceBEq, Nat.reduceEqDiff, Nat.reduceLT, Nat.reduceLeDiff, Nat.reduceAdd, Nat.reduceMul, Nat.reduceSub, Nat.reduceDiv, Int.reduceLT, Int.reduceLE, Int.reduceToNat, Int.reduceNeg, Int.reduceSub, Int.reduceAdd, reduceIte, reduceCtorEq]⟩
      obtain ⟨st1, e1, e2⟩ := hno
      have := ih (k + 1) st1 h3 (by omega) e2
      rw [e1]
      cases hf : r.findIdx? (fun x => decide (c = x)) with
      | none => simpa [hf] using this
      | some j =>
        rw [hf] at this
        obtain ⟨fr, a, b⟩ := this
        simp only [Option.map_some]
        exact ⟨fr, a, by rw [b, show k + 1 + j = k + (j + 1) by omega]⟩

theorem s48r (D : List Int) (off len : Nat) (c : Int) (hlen : off + len ≤ D.length) (hD : D.length ≤ 1000000) :
    (EL tbl).call 48 [.ref 0 0 off len, Vi c] [.cells ((D.map Pi).map V.p)] = some (Vi (place ((D.drop off).take len) c), [.cells ((D.map Pi).map V.p)]) := by
  rw [call_fn' tbl (show tbl 48 = some fn48 from rfl) _ _ (Nat.le_of_ble_eq_true rfl)]
  simp only [fn48, go_sem, Nat.reduceBEq, Nat.reduceEqDiff, Nat.reduceLT, Nat.reduceLeDiff, Nat.reduceAdd, Nat.reduceMul, Nat.reduceSub, Nat.reduceDiv, Int.reduceLT, Int.reduceLE, Int.reduceToNat, Int.reduceNeg, Int.reduceSub, Int.reduceAdd, reduceIte, reduceCtorEq]
  have := L48r (c := c) hlen hD noY () ((D.drop off).take len) 0 ⟨⟨19, [(0, .ref 0 0 off len), (1, Vi c), (7, Vi len), (8, Vi (0 : Nat))]⟩, [.cells ((D.map Pi).map V.p)]⟩ (by simp) (by omega) (by simp only [gc, gcIdx, range1, range2, range3, range4, range5, List.filter_cons, List.idxOf?_cons, List.idxOf?_nil, List.getD_cons_zero, List.getD_cons_succ, List.getD_nil, List.contains_cons, List.contains_nil, List.elem_nil, Nat.reduceBEq, Bool.or_false, Bool.or_true, Bool.true_or, Bool.false_or, back, rangeIn, go_sem, Nat.reduceBEq, Nat.reduceEqDiff, Nat.reduceLT, Nat.reduceLeDiff, Nat.reduceAdd, Nat.reduceMul, Nat.reduceSub, Nat.reduceDiv, Int.reduceLT, Int.reduceLE, Int.reduceToNat, Int.reduceNeg, Int.reduceSub, Int.reduceAdd, reduceIte, reduceCtorEq])
  unfold place
  cases hf : ((D.drop off).take len).findIdx? (fun x => decide (c = x)) with
  | none =>
    rw [hf] at this
    simp only [Int.natCast_zero] at this
    simp only [this, gc, gcIdx, range1, range2, range3, range4, range5, List.filter_cons, List.idxOf?_cons, List.idxOf?_nil, List.getD_cons_zero, List.getD_cons_succ, List.getD_nil, List.contains_cons, List.contains_nil, List.elem_nil, Nat.reduceBEq, Bool.or_false, Bool.or_true, Bool.true_or, Bool.false_or, back, rangeIn, go_sem, Nat.reduceBEq, Nat.reduceEqDiff, Nat.reduceLT, Nat.reduceLeDiff, Nat.reduceAdd, Nat.reduceMul, Nat.reduceSub, Nat.reduceDiv, Int.reduceLT, Int.reduceLE, Int.reduceToNat, Int.reduceNeg, Int.reduceSub, Int.reduceAdd, reduceIte, reduceCtorEq]
  | some j =>
    rw [hf] at this
    obtain ⟨fr, a, b⟩ := this
    simp only [Int.natCast_zero] at a
    simp only [a, b, gc, gcIdx, range1, range2, range3, range4, range5, List.filter_cons, List.idxOf?_cons, List.idxOf?_nil, List.getD_cons_zero, List.getD_cons_succ, List.getD_nil, List.contains_cons, List.contains_nil, List.elem_nil, Nat.reduceBEq, Bool.or_false, Bool.or_true, Bool.true_or, Bool.false_or, back, rangeIn, go_sem, Nat.reduceBEq, Nat.reduceEqDiff, Nat.reduceLT, Nat.reduceLeDiff, Nat.reduceAdd, Nat.reduceMul, Nat.reduceSub, Nat.reduceDiv, Int.reduceLT, Int.reduceLE, Int.reduceToNat, Int.reduceNeg, Int.reduceSub, Int.reduceAdd, reduceIte, reduceCtorEq]

/-- The digits that an order has. -/
def rk (n : Nat) : List Int → Nat → List Int → Option (List Int)
  | _, _, [] => some []
  | D, i, c :: cs => if place ((D.drop i).take (n - i)) c < 0 then none else (rk n (swp D i (i + (place ((D.drop i).take (n - i)) c).toNat)) (i + 1) cs).map (place ((D.drop i).take (n - i)) c :: ·)

theorem place_bound (l : List Int) (c : Int) : place l c < 0 ∨ ∃ j : Nat, place l c = j ∧ j < l.length := by
  unfold place
  cases hf : l.findIdx? (fun x => decide (c = x)) with
  | none => left; decide
  | some j =>
    right
    rw [List.findIdx?_eq_some_iff_getElem] at hf
    exact ⟨j, rfl, hf.1⟩

theorem L29 {o R : List Int} (ho : o.length ≤ 17) {σ : Type} (Y : List P → σ → Option (Bool × σ)) (s : σ) : ∀ (r : List Int) (i : Nat) (D : List Int) (acc : List P) (st : St), o.drop i = r → i ≤ o.length → D.length = 17 → acc.length = i →
    gc 0 (liftAll [6] ⟨keepOnly [0, 4, 5, 6, 19, 20, 21] st.fr, st.mem⟩) = some ⟨⟨58, [(0, Vl o), (4, .ptr 0 0), (5, Vl R), (6, .sl 0 1 acc), (19, Vl o), (20, Vi o.length), (21, Vi i)]⟩, [.cells ((D.map Pi).map V.p), .tok 0 acc.length]⟩ →
    match rk o.length D i r with
    | none => ∃ fr m, U tbl Y 0 fn29_L0 st s = some (.ret, ⟨fr, m⟩, s) ∧ getF fr.l 2 = Vi 0 ∧ getF fr.l 3 = Vi 3
    | some ks => ∃ D' : List Int, U tbl Y 0 fn29_L0 st s = some (.exit 0, ⟨⟨58, [(0, Vl o), (4, .ptr 0 0), (5, Vl R), (6, .sl 0 1 (acc ++ ks.map Pi)), (19, Vl o), (20, Vi o.length), (21, Vi o.length), (22, Vb false)]⟩, [.cells ((D'.map Pi).map V.p), .tok 0 o.length]⟩, s) := by
  intro r
  induction r with
  | nil =>
    intro i D acc st hd hi hD ha hg
    have e : i = o.length := by have := drop_nil_facts hd; omega
    subst e
    rw [fn29_L0, u_loop tbl Y 0 s hg]
    simp only [rk]
    simp only [fn29_B0, fn29_P11, fn29_D11, natnlt (Nat.le_refl o.length), go_sem, Nat.reduceBEq, Nat.reduceEqDiff, Nat.reduceLT, Nat.reduceLeDiff, Nat.reduceAdd, Nat.reduceMul, Nat.reduceSub, Nat.reduceDiv, Int.reduceLT, Int.reduceLE, Int.reduceToNat, Int.reduceNeg, Int.reduceSub, Int.reduceAdd, reduceIte, reduceCtorEq]
    exact ⟨D, by rw [ha]⟩
  | cons c r ih =>
    intro i D acc st hd hi hD ha hg
    obtain ⟨h1, h2, h3⟩ := drop_cons_facts hd
    have b1 : (o.length ≤ 17) = True := by simp [ho]
    have b2 : (i ≤ o.length) = True := by simp [hi]
    have hs48 := s48r D i (o.length - i) c (by omega) (by omega)
    rw [fn29_L0, u_loop tbl Y 0 s hg]
    simp only [rk]
    rcases place_bound ((D.drop i).take (o.length - i)) c with hp | ⟨dn, hdn, hlt⟩
    · simp only [hp, if_true]
      simp only [fn29_B0, fn29_P11, fn29_D11, natlt h2, h1, b1, b2, hD, hs48, hp, gc, gcIdx, range1, range2, range3, range4, range5, List.filter_cons, List.idxOf?_cons, List.idxOf?_nil, List.getD_cons_zero, List.getD_cons_succ, List.getD_nil, List.contains_cons, List.contains_nil, List.elem_nil, Nat.reduceBEq, Bool.or_false, Bool.or_true, Bool.true_or, Bool.false_or, back, rangeIn, go_sem, Nat.reduceBEq, Nat.reduceEqDiff, Nat.reduceLT, Nat.reduceLeDiff, Nat.reduceAdd, Nat.reduceMul, Nat.reduceSub, Nat.reduceDiv, Int.reduceLT, Int.reduceLE, Int.reduceToNat, Int.reduceNeg, Int.reduceSub, Int.reduceAdd, reduceIte, reduceCtorEq]
      exact ⟨_, _, rfl, by simp only [go_sem, Nat.reduceBEq, Nat.reduceEqDiff, Nat.reduceLT, Nat.reduceLeDiff, Nat.reduceAdd, Nat.reduceMul, Nat.reduceSub, Nat.reduceDiv, Int.reduceLT, Int.reduceLE, Int.reduceToNat, Int.reduceNeg, Int.reduceSub, Int.reduceAdd, reduceIte, reduceCtorEq], by simp only [go_sem, Nat.reduceBEq, Nat.reduceEqDiff, Nat.reduceLT, Nat.reduceLeDiff, Nat.reduceAdd, Nat.reduceMul, Nat.reduceSub, Nat.reduceDiv, Int.reduceLT, Int.reduceLE, Int.reduceToNat, Int.reduceNeg, Int.reduceSub, Int.reduceAdd, reduceIte, reduceCtorEq]⟩
    · have hj : i + dn < o.length := by simp at hlt; omega
      have hnn : ¬ (dn : Int) < 0 := by omega
      have hw : IntKind.wrap .i64 ((i : Int) + (dn : Int)) = ((i + dn : Nat) : Int) := by rw [wrap64 (by omega) (by omega)]; omega
      have g1 : D[i]? = some (D.getD i 0) := by rw [List.getD_eq_getElem?_getD, List.getElem?_eq_getElem (by omega)]; rfl
      have g2 : D[i + dn]? = some (D.getD (i + dn) 0) := by rw [List.getD_eq_getElem?_getD, List.getElem?_eq_getElem (by omega)]; rfl
      have c1 : (i < 17) = True := by simp; omega
      have c2 : (i + dn < 17) = True := by simp; omega
      have c3 : (i + 1 ≤ 17) = True := by simp; omega
      have c4 : (i + dn + 1 ≤ 17) = True := by simp; omega
      have hm : (acc.length + 1 ≤ most) = True := by simp [most]; omega
      rw [hdn]
      simp only [hnn, if_false, Int.toNat_natCast]
      have hst : ∃ st1, loopC tbl Y 0 [0, 4, 5, 6, 19, 20, 21] [6] fn29_B0 (U tbl Y 0 fn29_B0 ⟨⟨58, [(0, Vl o), (4, .ptr 0 0), (5, Vl R), (6, .sl 0 1 acc), (19, Vl o), (20, Vi o.length), (21, Vi i)]⟩, [.cells ((D.map Pi).map V.p), .tok 0 acc.length]⟩ s) = U tbl Y 0 fn29_L0 st1 s ∧
          gc 0 (liftAll [6] ⟨keepOnly [0, 4, 5, 6, 19, 20, 21] st1.fr, st1.mem⟩) = some ⟨⟨58, [(0, Vl o), (4, .ptr 0 0), (5, Vl R), (6, .sl 0 1 (acc ++ [Pi dn])), (19, Vl o), (20, Vi o.length), (21, Vi (i + 1 : Nat))]⟩, [.cells (((swp D i (i + dn)).map Pi).map V.p), .tok 0 (acc ++ [Pi dn]).length]⟩ := by
        simp only [fn29_B0, fn29_P11, fn29_D11, fn29_L0, natlt h2, h1, b1, b2, hD, hs48, hdn, hnn, hw, g1, g2, c1, c2, c3, c4, hm, setRange_p, List.length_set, succ64 (show i < 9223372036854775807 by omega), gc, gcIdx, range1, range2, range3, range4, range5, List.filter_cons, List.idxOf?_cons, List.idxOf?_nil, List.getD_cons_zero, List.getD_cons_succ, List.getD_nil, List.contains_cons, List.contains_nil, List.elem_nil, Nat.reduceBEq, Bool.or_false, Bool.or_true, Bool.true_or, Bool.false_or, back, rangeIn, go_sem, Nat.reduceBEq, Nat.reduceEqDiff, Nat.reduceLT, Nat.reduceLeDiff, Nat.reduceAdd, Nat.reduceMul, Nat.reduceSub, Nat.reduceDiv, Int.reduceLT, Int.reduceLE, Int.reduceToNat, Int.reduceNeg, Int.reduceSub, Int.reduceAdd, reduceIte, reduceCtorEq]
        refine ⟨_, rfl, ?_⟩
        simp only [gc, gcIdx, range1, range2, range3, range4, range5, List.filter_cons, List.idxOf?_cons, List.idxOf?_nil, List.getD_cons_zero, List.getD_cons_succ, List.getD_nil, List.contains_cons, List.contains_nil, List.elem_nil, Nat.reduceBEq, Bool.or_false, Bool.or_true, Bool.true_or, Bool.false_or, back, rangeIn, go_sem, Nat.reduceBEq, Nat.reduceEqDiff, Nat.reduceLT, Nat.reduceLeDiff, Nat.reduceAdd, Nat.reduceMul, Nat.reduceSub, Nat.reduceDiv, Int.reduceLT, Int.reduceLE, Int.reduceToNat, Int.reduceNeg, Int.reduceSub, Int.reduceAdd, reduceIte, reduceCtorEq]
        simp only [swp, List.map_set]
      obtain ⟨st1, e1, e2⟩ := hst
      rw [e1]
      have := ih (i + 1) (swp D i (i + dn)) (acc ++ [Pi dn]) st1 h3 (by omega) (by rw [swp_length]; exact hD) (by simp [ha]) e2
      cases hr : rk o.length (swp D i (i + dn)) (i + 1) r with
      | none => rw [hr] at this; exact this
      | some ks =>
        rw [hr] at this
        obtain ⟨m, hm⟩ := this
        exact ⟨m, by simpa using hm⟩
end Go.Am
