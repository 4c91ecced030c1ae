/- What some functions of this seat answer. No condition. -/
import Derived.Test.YtbepkgilphbhaaaS33c
import Derived.Test.YtbepkgilphbhaaaS33w
namespace Go.Am
open Go
set_option linter.unusedSimpArgs false
set_option linter.unusedVariables false
set_option maxRecDepth 100000
open Go.Proofs.Ytbepkgilphbhaaa.Fns

theorem s66 (r : Int) : (EL tbl).call 66 [Vi r] [] = some (Vb (decide (r < 1) || decide (1000000000 < r)), []) := by
  rw [call_fn' tbl (show tbl 66 = some fn66 from rfl) _ _ (Nat.le_of_ble_eq_true rfl)]
  simp only [fn66, go_sem, Nat.reduceBEq, Nat.reduceEqDiff, Nat.reduceLT, Nat.reduceLeDiff, Nat.reduceAdd, Nat.reduceMul, Nat.reduceSub, Nat.reduceDiv, Int.reduceLT, Int.reduceLE, Int.reduceToNat, Int.reduceNeg, Int.reduceSub, Int.reduceAdd, reduceIte, reduceCtorEq]
  repeat' ((first | rw [condC_b] | rw [guardO_b] | rw [guardS_b] | rw [guardB_b] | skip); split <;> (rename_i hsp; (try simp only [decide_eq_true_eq, decide_eq_false_iff_not, Bool.not_eq_true, Bool.not_eq_false, Bool.not_eq_true', Bool.not_eq_false', Decidable.not_not, beq_iff_eq, bne_iff_ne, beq_eq_false_iff_ne, bne_eq_false_iff_eq, ne_eq, gt_iff_lt, ge_iff_le] at hsp); simp only [hsp, go_sem, Nat.reduceBEq, Nat.reduceEqDiff, Nat.reduceLT, Nat.reduceLeDiff, Nat.reduceAdd, Nat.reduceMul, Nat.reduceSub, Nat.reduceDiv, Int.reduceLT, Int.reduceLE, Int.reduceToNat, Int.reduceNeg, Int.reduceSub, Int.reduceAdd, reduceIte, reduceCtorEq]))
  all_goals simp

theorem s43 (l : List Int) (hlen : l.length ≤ 1000) : (EL tbl).call 43 [Vl l] [] = some (Vi (chk l), []) := by
  have h65 := s65 (l := l) (id := 66) (caps := []) (fun r => decide (r < 1) || decide (1000000000 < r)) (by omega) (fun x _ => s66 x)
  rw [call_fn' tbl (show tbl 43 = some fn43 from rfl) _ _ (Nat.le_of_ble_eq_true rfl)]
  unfold chk
  by_cases h1 : (100 : Int) < l.length
  · rw [if_pos h1]
    simp only [fn43, h1, h65, go_sem, Nat.reduceBEq, Nat.reduceEqDiff, Nat.reduceLT, Nat.reduceLeDiff, Nat.reduceAdd, Nat.reduceMul, Nat.reduceSub, Nat.reduceDiv, Int.reduceLT, Int.reduceLE, Int.reduceToNat, Int.reduceNeg, Int.reduceSub, Int.reduceAdd, reduceIte, reduceCtorEq]
  · rw [if_neg h1]
    cases h2 : l.any (fun r => decide (r < 1) || decide (1000000000 < r)) with
    | true => simp only [fn43, h1, h65, h2, go_sem, Nat.reduceBEq, Nat.reduceEqDiff, Nat.reduceLT, Nat.reduceLeDiff, Nat.reduceAdd, Nat.reduceMul, Nat.reduceSub, Nat.reduceDiv, Int.reduceLT, Int.reduceLE, Int.reduceToNat, Int.reduceNeg, Int.reduceSub, Int.reduceAdd, reduceIte, reduceCtorEq]
    | false => simp only [fn43, h1, h65, h2, go_sem, Nat.reduceBEq, Nat.reduceEqDiff, Nat.reduceLT, Nat.reduceLeDiff, Nat.reduceAdd, Nat.reduceMul, Nat.reduceSub, Nat.reduceDiv, Int.reduceLT, Int.reduceLE, Int.reduceToNat, Int.reduceNeg, Int.reduceSub, Int.reduceAdd, reduceIte, reduceCtorEq]

set_option maxHeartbeats 4000000 in
theorem s5 (n : Int) (l d : List Int) : (EL tbl).call 5 [Vi n, Vl l, Vl d] [] = some (Vb true, []) := by
  have aw : (EL tbl).call 11 [] [] = some (Vb true, []) := awake33
  rw [call_fn' tbl (show tbl 5 = some fn5 from rfl) _ _ (Nat.le_of_ble_eq_true rfl)]
  by_cases h1 : (110 : Int) < l.length
  · simp only [fn5, h1, aw, gc, gcIdx, range1, range2, range3, range4, range5, List.filter_cons, List.idxOf?_cons, List.idxOf?_nil, List.getD_cons_zero, List.getD_cons_succ, List.getD_nil, List.contains_cons, List.contains_nil, List.elem_nil, Nat.reduceBEq, Bool.or_false, Bool.or_true, Bool.true_or, Bool.false_or, back, rangeIn, go_sem, Nat.reduceBEq, Nat.reduceEqDiff, Nat.reduceLT, Nat.reduceLeDiff, Nat.reduceAdd, Nat.reduceMul, Nat.reduceSub, Nat.reduceDiv, Int.reduceLT, Int.reduceLE, Int.reduceToNat, Int.reduceNeg, Int.reduceSub, Int.reduceAdd, reduceIte, reduceCtorEq]
  · by_cases h2 : (110 : Int) < d.length
    · simp only [fn5, h1, h2, aw, gc, gcIdx, range1, range2, range3, range4, range5, List.filter_cons, List.idxOf?_cons, List.idxOf?_nil, List.getD_cons_zero, List.getD_cons_succ, List.getD_nil, List.contains_cons, List.contains_nil, List.elem_nil, Nat.reduceBEq, Bool.or_false, Bool.or_true, Bool.true_or, Bool.false_or, back, rangeIn, go_sem, Nat.reduceBEq, Nat.reduceEqDiff, Nat.reduceLT, Nat.reduceLeDiff, Nat.reduceAdd, Nat.reduceMul, Nat.reduceSub, Nat.reduceDiv, Int.reduceLT, Int.reduceLE, Int.reduceToNat, Int.reduceNeg, Int.reduceSub, Int.reduceAdd, reduceIte, reduceCtorEq]
    · have hm1 : (l.length ≤ most) = True := by simp [most]; omega
      have hm2 : (d.length ≤ most) = True := by simp [most]; omega
      have hlen : ∀ (n : Int) (l : List Int), (digs n l).length = l.length := fun n l => by induction l generalizing n <;> simp_all [digs]
      have e21 := s21 n l (chk l) (by omega) (s43 l (by omega)) (fun h => chk_ok h)
      have e23 := s23 n l (by omega)
      have e24 := s24 d l n (chk l) (by omega) (by omega) (s43 l (by omega)) (fun h => chk_ok h)
      have e25 := s25 d l n (by omega) (by omega)
      have t1 : ∃ out r e, out.length ≤ 1000 ∧ (if chk l = 0 then if n < 0 then [Pl [], Pi 0, Pi 2] else if 999999999999999 < n then [Pl [], Pi 0, Pi 2] else [Pl (digs n l), Pi (left n l), Pi 0] else [Pl [], Pi 0, Pi (chk l)]) = [Pl out, Pi r, Pi e] := by
        repeat' split
        · exact ⟨[], 0, 2, by simp, rfl⟩
        · exact ⟨[], 0, 2, by simp, rfl⟩
        · exact ⟨digs n l, left n l, 0, by rw [hlen]; omega, rfl⟩
        · exact ⟨[], 0, chk l, by simp, rfl⟩
      have t2 : ∃ x y, joinOf (chk l) d l n = [Pi x, Pi y] := by
        unfold joinOf
        repeat' split
        all_goals exact ⟨_, _, rfl⟩
      obtain ⟨out, r, e, ho, t1⟩ := t1
      obtain ⟨x, y, t2⟩ := t2
      rw [t1] at e21 e23
      rw [t2] at e24 e25
      have e22 : ∀ x : List Int, x.length ≤ 1000 → (EL tbl).call 22 [Vl x, Vl x] [] = some (Vb true, []) := fun x hx => by rw [s22 x x (by omega)]; simp
      have e22o := e22 out ho
      have e22l := e22 l (by omega)
      have e22d := e22 d (by omega)
      rcases l with _ | ⟨l0, l⟩ <;> rcases d with _ | ⟨d0, d⟩ <;> simp only [Vl, Pl, List.length_cons, List.length_nil, List.map_cons, List.map_nil] at h1 h2 hm1 hm2 e21 e23 e24 e25 e22l e22d <;>
        simp only [fn5, h1, h2, hm1, hm2, e21, e23, e24, e25, e22o, e22l, e22d, aw, Nat.add_eq_zero_iff, Nat.succ_ne_zero, gc, gcIdx, range1, range2, range3, range4, range5, List.filter_cons, List.idxOf?_cons, List.idxOf?_nil, List.getD_cons_zero, List.getD_cons_succ, List.getD_nil, List.contains_cons, List.contains_nil, List.elem_nil, Nat.reduceBEq, Bool.or_false, Bool.or_true, Bool.true_or, Bool.false_or, back, rangeIn, go_sem, Nat.reduceBEq, Nat.reduceEqDiff, Nat.reduceLT, Nat.reduceLeDiff, Nat.reduceAdd, Nat.reduceMul, Nat.reduceSub, Nat.reduceDiv, Int.reduceLT, Int.reduceLE, Int.reduceToNat, Int.reduceNeg, Int.reduceSub, Int.reduceAdd, reduceIte, reduceCtorEq]
end Go.Am
