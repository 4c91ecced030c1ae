/- What some functions of this seat answer. No condition. -/
import Derived.Test.YtbepkgilphbhaaaSC
namespace Go.Am
open Go
set_option linter.unusedSimpArgs false
set_option linter.unusedVariables false
set_option maxRecDepth 100000
open Go.Proofs.Ytbepkgilphbhaaa.Fns

/-- The digits of a number, each with what is left. -/
def dg : Int → List Int → List (List P)
  | _, [] => []
  | n, r :: t => [Pi (n.tmod r), Pi (n.tdiv r)] :: dg (n.tdiv r) t

theorem quot64 {n r : Int} (h1 : 0 ≤ n) (h2 : n ≤ 1000000000000000) (h3 : 1 ≤ r) : IntKind.wrap .i64 (n.tdiv r) = n.tdiv r ∧ 0 ≤ n.tdiv r ∧ n.tdiv r ≤ 1000000000000000 := by
  have h4 : 0 ≤ n.tdiv r := Int.tdiv_nonneg h1 (by omega)
  have h5 : n.tdiv r ≤ n := Int.tdiv_le_self r h1
  exact ⟨wrap64 (by omega) (by omega), h4, by omega⟩

theorem L67 {l : List Int} (hlen : l.length ≤ 1000000000) (hl : ∀ r ∈ l, 1 ≤ r) {σ : Type} (Y : List P → σ → Option (Bool × σ)) :
    ∀ (r : List Int) (k : Nat) (n : Int) (s s' : σ) (st : St), l.drop k = r → k ≤ l.length → 0 ≤ n → n ≤ 1000000000000000 → feed Y (dg n r) s = some s' →
      gc 2 (liftAll [] ⟨keepOnly [0, 2, 7, 8, 9] st.fr, st.mem⟩) = some ⟨⟨25, [(0, .yield), (2, .ptr 1 0), (7, Vl l), (8, Vi l.length), (9, Vi k)]⟩, [.cells [Vl l], .cells [Vi n]]⟩ →
      ∃ ex fr x, (ex = .exit 0 ∨ ex = .ret) ∧ U tbl Y 2 fn67_L0 st s = some (ex, ⟨fr, [.cells [Vl l], .cells [Vi x]]⟩, s') := by
  intro r
  induction r with
  | nil =>
    intro k n s s' st hd hk hn1 hn2 hf hg
    have e : k = l.length := by have := drop_nil_facts hd; omega
    subst e
    simp only [dg, feed, Option.some.injEq] at hf
    subst hf
    rw [fn67_L0, u_loop tbl Y 2 s hg]
    simp only [fn67_B0, natnlt (Nat.le_refl l.length), go_sem, Nat.reduceBEq, Nat.reduceEqDiff, Nat.reduceLT, Nat.reduceLeDiff, Nat.reduceAdd, Nat.reduceMul, Nat.reduceSub, Nat.reduceDiv, Int.reduceLT, Int.reduceLE, Int.reduceToNat, Int.reduceNeg, Int.reduceSub, Int.reduceAdd, reduceIte, reduceCtorEq]
    exact ⟨_, _, _, .inl rfl, rfl⟩
  | cons x r ih =>
    intro k n s s' st hd hk hn1 hn2 hf hg
    obtain ⟨h1, h2, h3⟩ := drop_cons_facts hd
    have hx := hl x (List.mem_of_getElem? h1)
    obtain ⟨q1, q2, q3⟩ := quot64 hn1 hn2 hx
    have hx0 : ¬ x = 0 := by omega
    simp only [dg, feed] at hf
    rw [fn67_L0, u_loop tbl Y 2 s hg]
    cases hy : Y [Pi (n.tmod x), Pi (n.tdiv x)] s with
    | none => rw [hy] at hf; cases hf
    | some p =>
      obtain ⟨b, s1⟩ := p
      rw [hy] at hf
      cases b with
      | false =>
        simp only [Option.some.injEq] at hf
        subst hf
        simp only [fn67_B0, natlt h2, h1, hx0, q1, hy, go_sem, Nat.reduceBEq, Nat.reduceEqDiff, Nat.reduceLT, Nat.reduceLeDiff, Nat.reduceAdd, Nat.reduceMul, Nat.reduceSub, Nat.reduceDiv, Int.reduceLT, Int.reduceLE, Int.reduceToNat, Int.reduceNeg, Int.reduceSub, Int.reduceAdd, reduceIte, reduceCtorEq]
        exact ⟨_, _, _, .inr rfl, rfl⟩
      | true =>
        simp only at hf
        simp only [fn67_B0, natlt h2, h1, hx0, q1, hy, succ64 (show k < 9223372036854775807 by omega), go_sem, Nat.reduceBEq, Nat.reduceEqDiff, Nat.reduceLT, Nat.reduceLeDiff, Nat.reduceAdd, Nat.reduceMul, Nat.reduceSub, Nat.reduceDiv, Int.reduceLT, Int.reduceLE, Int.reduceToNat, Int.reduceNeg, Int.reduceSub, Int.reduceAdd, reduceIte, reduceCtorEq]
        refine ih (k + 1) _ s1 s' _ h3 (by omega) q2 q3 hf ?_
        simp only [gc, gcIdx, range1, range2, range3, range4, range5, List.filter_cons, List.idxOf?_cons, List.idxOf?_nil, List.getD_cons_zero, List.getD_cons_succ, List.getD_nil, List.contains_cons, List.contains_nil, List.elem_nil, Nat.reduceBEq, Bool.or_false, Bool.or_true, Bool.true_or, Bool.false_or, back, rangeIn, go_sem, Nat.reduceBEq, Nat.reduceEqDiff, Nat.reduceLT, Nat.reduceLeDiff, Nat.reduceAdd, Nat.reduceMul, Nat.reduceSub, Nat.reduceDiv, Int.reduceLT, Int.reduceLE, Int.reduceToNat, Int.reduceNeg, Int.reduceSub, Int.reduceAdd, reduceIte, reduceCtorEq]

theorem i67 {l : List Int} (hlen : l.length ≤ 1000000000) (hl : ∀ r ∈ l, 1 ≤ r) {σ : Type} (Y : List P → σ → Option (Bool × σ)) (n : Int) (hn1 : 0 ≤ n) (hn2 : n ≤ 1000000000000000) (s s' : σ) (hf : feed Y (dg n l) s = some s') :
    (EL tbl).iter σ Y 67 [.yield, .ptr 0 0, .ptr 1 0] [.cells [Vl l], .cells [Vi n]] s = some s' := by
  rw [iter_fn' tbl _ (show tbl 67 = some fn67 from rfl) _ _ _ (Nat.le_of_ble_eq_true rfl)]
  simp only [fn67, go_sem, Nat.reduceBEq, Nat.reduceEqDiff, Nat.reduceLT, Nat.reduceLeDiff, Nat.reduceAdd, Nat.reduceMul, Nat.reduceSub, Nat.reduceDiv, Int.reduceLT, Int.reduceLE, Int.reduceToNat, Int.reduceNeg, Int.reduceSub, Int.reduceAdd, reduceIte, reduceCtorEq]
  obtain ⟨ex, fr, x, he, hu⟩ := L67 hlen hl Y l 0 n s s' ⟨⟨25, [(0, .yield), (2, .ptr 1 0), (7, Vl l), (8, Vi l.length), (9, Vi (0 : Nat))]⟩, [.cells [Vl l], .cells [Vi n]]⟩ (by simp) (by omega) hn1 hn2 hf (by simp only [gc, gcIdx, range1, range2, range3, range4, range5, List.filter_cons, List.idxOf?_cons, List.idxOf?_nil, List.getD_cons_zero, List.getD_cons_succ, List.getD_nil, List.contains_cons, List.contains_nil, List.elem_nil, Nat.reduceBEq, Bool.or_false, Bool.or_true, Bool.true_or, Bool.false_or, back, rangeIn, go_sem, Nat.reduceBEq, Nat.reduceEqDiff, Nat.reduceLT, Nat.reduceLeDiff, Nat.reduceAdd, Nat.reduceMul, Nat.reduceSub, Nat.reduceDiv, Int.reduceLT, Int.reduceLE, Int.reduceToNat, Int.reduceNeg, Int.reduceSub, Int.reduceAdd, reduceIte, reduceCtorEq])
  simp only [Int.natCast_zero] at hu
  rcases he with rfl | rfl <;> simp only [hu, gc, gcIdx, range1, range2, range3, range4, range5, List.filter_cons, List.idxOf?_cons, List.idxOf?_nil, List.getD_cons_zero, List.getD_cons_succ, List.getD_nil, List.contains_cons, List.contains_nil, List.elem_nil, Nat.reduceBEq, Bool.or_false, Bool.or_true, Bool.true_or, Bool.false_or, back, rangeIn, go_sem, Nat.reduceBEq, Nat.reduceEqDiff, Nat.reduceLT, Nat.reduceLeDiff, Nat.reduceAdd, Nat.reduceMul, Nat.reduceSub, Nat.reduceDiv, Int.reduceLT, Int.reduceLE, Int.reduceToNat, Int.reduceNeg, Int.reduceSub, Int.reduceAdd, reduceIte, reduceCtorEq]

theorem s44 (n : Int) (l : List Int) : (EL tbl).call 44 [Vi n, Vl l] [] = some (.fn 67 [.ptr 0 0, .ptr 1 0], [.cells [Vl l], .cells [Vi n]]) := by
  rw [call_fn' tbl (show tbl 44 = some fn44 from rfl) _ _ (Nat.le_of_ble_eq_true rfl)]
  simp only [fn44, gc, gcIdx, range1, range2, range3, range4, range5, List.filter_cons, List.idxOf?_cons, List.idxOf?_nil, List.getD_cons_zero, List.getD_cons_succ, List.getD_nil, List.contains_cons, List.contains_nil, List.elem_nil, Nat.reduceBEq, Bool.or_false, Bool.or_true, Bool.true_or, Bool.false_or, back, rangeIn, go_sem, Nat.reduceBEq, Nat.reduceEqDiff, Nat.reduceLT, Nat.reduceLeDiff, Nat.reduceAdd, Nat.reduceMul, Nat.reduceSub, Nat.reduceDiv, Int.reduceLT, Int.reduceLE, Int.reduceToNat, Int.reduceNeg, Int.reduceSub, Int.reduceAdd, reduceIte, reduceCtorEq]

/-- The digits alone, and what is left at the end. -/
def digs : Int → List Int → List Int
  | _, [] => []
  | n, r :: t => n.tmod r :: digs (n.tdiv r) t
def left (n : Int) (l : List Int) : Int := l.foldl Int.tdiv n

abbrev fr21 : Fr := ⟨34, [(4, V.ptr 0 0), (5, V.ptr 1 0), (7, V.p (P.v (Value.int IntKind.i64 0))), (13, V.p (P.v (Value.bool false))), (20, V.p (P.v (Value.bool false))), (24, V.fn 67 [V.ptr 2 0, V.ptr 3 0])]⟩

theorem feed21 : ∀ (l : List Int) (n : Int) (acc : List P), acc.length + l.length ≤ 1000 →
    feed (UY tbl noY 5 fr21 [25, 26] fn21_A0 fn21_C0) (dg n l) ⟨[Blk.cells [V.sl 0 4 acc], Blk.cells [Vi n], Blk.dead, Blk.dead, Blk.tok 0 acc.length], .normal, ()⟩ =
      some ⟨[Blk.cells [V.sl 0 4 (acc ++ (digs n l).map Pi)], Blk.cells [Vi (left n l)], Blk.dead, Blk.dead, Blk.tok 0 (acc.length + l.length)], .normal, ()⟩
  | [], n, acc, _ => by simp [feed, dg, digs, left]
  | x :: r, n, acc, h => by
    have hm : (acc.length + 1 ≤ most) = True := by simp [most] at h ⊢; omega
    have hs : UY tbl noY 5 fr21 [25, 26] fn21_A0 fn21_C0 [Pi (n.tmod x), Pi (n.tdiv x)] ⟨[Blk.cells [V.sl 0 4 acc], Blk.cells [Vi n], Blk.dead, Blk.dead, Blk.tok 0 acc.length], .normal, ()⟩ =
        some (true, ⟨[Blk.cells [V.sl 0 4 (acc ++ [Pi (n.tmod x)])], Blk.cells [Vi (n.tdiv x)], Blk.dead, Blk.dead, Blk.tok 0 (acc.length + 1)], .normal, ()⟩) := by
      rw [uy_eq _ _ _ _ _ _ _ _ _ _ rfl]
      simp only [fn21_A0, fn21_C0, hm, gc, gcIdx, range1, range2, range3, range4, range5, List.filter_cons, List.idxOf?_cons, List.idxOf?_nil, List.getD_cons_zero, List.getD_cons_succ, List.getD_nil, List.contains_cons, List.contains_nil, List.elem_nil, Nat.reduceBEq, Bool.or_false, Bool.or_true, Bool.true_or, Bool.false_or, back, rangeIn, go_sem, Nat.reduceBEq, Nat.reduceEqDiff, Nat.reduceLT, Nat.reduceLeDiff, Nat.reduceAdd, Nat.reduceMul, Nat.reduceSub, Nat.reduceDiv, Int.reduceLT, Int.reduceLE, Int.reduceToNat, Int.reduceNeg, Int.reduceSub, Int.reduceAdd, reduceIte, reduceCtorEq]
    simp only [dg, feed, hs]
    have := feed21 r (n.tdiv x) (acc ++ [Pi (n.tmod x)]) (by simp at h ⊢; omega)
    simp only [List.length_append, List.length_cons, List.length_nil, List.append_assoc, List.cons_append, List.nil_append, Nat.zero_add] at this
    rw [this]
    simp only [digs, left, List.map_cons, List.foldl_cons, List.length_cons, Nat.add_assoc, Nat.add_comm 1]

theorem s21 (n : Int) (l : List Int) (c : Int) (hlen : l.length ≤ 1000) (h43 : (EL tbl).call 43 [Vl l] [] = some (Vi c, [])) (hc : c = 0 → ∀ r ∈ l, 1 ≤ r) : (EL tbl).call 21 [Vi n, Vl l] [] =
    some (.p (.tuple (if c = 0 then if n < 0 then [Pl [], Pi 0, Pi 2] else if 999999999999999 < n then [Pl [], Pi 0, Pi 2] else [Pl (digs n l), Pi (left n l), Pi 0] else [Pl [], Pi 0, Pi c])), []) := by
  rw [call_fn' tbl (show tbl 21 = some fn21 from rfl) _ _ (Nat.le_of_ble_eq_true rfl)]
  simp only [fn21, fn21_P11, fn21_D11, h43, s44, gc, gcIdx, range1, range2, range3, range4, range5, List.filter_cons, List.idxOf?_cons, List.idxOf?_nil, List.getD_cons_zero, List.getD_cons_succ, List.getD_nil, List.contains_cons, List.contains_nil, List.elem_nil, Nat.reduceBEq, Bool.or_false, Bool.or_true, Bool.true_or, Bool.false_or, back, rangeIn, go_sem, Nat.reduceBEq, Nat.reduceEqDiff, Nat.reduceLT, Nat.reduceLeDiff, Nat.reduceAdd, Nat.reduceMul, Nat.reduceSub, Nat.reduceDiv, Int.reduceLT, Int.reduceLE, Int.reduceToNat, Int.reduceNeg, Int.reduceSub, Int.reduceAdd, reduceIte, reduceCtorEq]
  by_cases h1 : c = 0
  · by_cases h2 : n < 0
    · repeat' ((first | rw [condC_b] | rw [guardO_b] | rw [guardS_b] | rw [guardB_b] | skip); split <;> (rename_i hsp; (try simp only [decide_eq_true_eq, decide_eq_false_iff_not, Bool.not_eq_true, Bool.not_eq_false, Bool.not_eq_true', Bool.not_eq_false', Decidable.not_not, beq_iff_eq, bne_iff_ne, beq_eq_false_iff_ne, bne_eq_false_iff_eq, ne_eq, gt_iff_lt, ge_iff_le] at hsp); simp only [hsp, h43, s44, gc, gcIdx, range1, range2, range3, range4, range5, List.filter_cons, List.idxOf?_cons, List.idxOf?_nil, List.getD_cons_zero, List.getD_cons_succ, List.getD_nil, List.contains_cons, List.contains_nil, List.elem_nil, Nat.reduceBEq, Bool.or_false, Bool.or_true, Bool.true_or, Bool.false_or, back, rangeIn, go_sem, Nat.reduceBEq, Nat.reduceEqDiff, Nat.reduceLT, Nat.reduceLeDiff, Nat.reduceAdd, Nat.reduceMul, Nat.reduceSub, Nat.reduceDiv, Int.reduceLT, Int.reduceLE, Int.reduceToNat, Int.reduceNeg, Int.reduceSub, Int.reduceAdd, reduceIte, reduceCtorEq]))
      all_goals simp_all
    · by_cases h3 : 999999999999999 < n
      · repeat' ((first | rw [condC_b] | rw [guardO_b] | rw [guardS_b] | rw [guardB_b] | skip); split <;> (rename_i hsp; (try simp only [decide_eq_true_eq, decide_eq_false_iff_not, Bool.not_eq_true, Bool.not_eq_false, Bool.not_eq_true', Bool.not_eq_false', Decidable.not_not, beq_iff_eq, bne_iff_ne, beq_eq_false_iff_ne, bne_eq_false_iff_eq, ne_eq, gt_iff_lt, ge_iff_le] at hsp); simp only [hsp, h43, s44, gc, gcIdx, range1, range2, range3, range4, range5, List.filter_cons, List.idxOf?_cons, List.idxOf?_nil, List.getD_cons_zero, List.getD_cons_succ, List.getD_nil, List.contains_cons, List.contains_nil, List.elem_nil, Nat.reduceBEq, Bool.or_false, Bool.or_true, Bool.true_or, Bool.false_or, back, rangeIn, go_sem, Nat.reduceBEq, Nat.reduceEqDiff, Nat.reduceLT, Nat.reduceLeDiff, Nat.reduceAdd, Nat.reduceMul, Nat.reduceSub, Nat.reduceDiv, Int.reduceLT, Int.reduceLE, Int.reduceToNat, Int.reduceNeg, Int.reduceSub, Int.reduceAdd, reduceIte, reduceCtorEq]))
        all_goals simp_all
      · have hit := i67 (l := l) (by omega) (hc h1) (UY tbl noY 5 fr21 [25, 26] fn21_A0 fn21_C0) n (by omega) (by omega) _ _ (feed21 l n [] (by simpa using hlen))
        simp only [List.length_nil] at hit
        subst h1
        simp only [h2, h3, bne_self_eq_false, condC_b, guardO_b, hit, fn21, fn21_P11, fn21_D11, h43, s44, gc, gcIdx, range1, range2, range3, range4, range5, List.filter_cons, List.idxOf?_cons, List.idxOf?_nil, List.getD_cons_zero, List.getD_cons_succ, List.getD_nil, List.contains_cons, List.contains_nil, List.elem_nil, Nat.reduceBEq, Bool.or_false, Bool.or_true, Bool.true_or, Bool.false_or, back, rangeIn, go_sem, Nat.reduceBEq, Nat.reduceEqDiff, Nat.reduceLT, Nat.reduceLeDiff, Nat.reduceAdd, Nat.reduceMul, Nat.reduceSub, Nat.reduceDiv, Int.reduceLT, Int.reduceLE, Int.reduceToNat, Int.reduceNeg, Int.reduceSub, Int.reduceAdd, reduceIte, reduceCtorEq]
  · repeat' ((first | rw [condC_b] | rw [guardO_b] | rw [guardS_b] | rw [guardB_b] | skip); split <;> (rename_i hsp; (try simp only [decide_eq_true_eq, decide_eq_false_iff_not, Bool.not_eq_true, Bool.not_eq_false, Bool.not_eq_true', Bool.not_eq_false', Decidable.not_not, beq_iff_eq, bne_iff_ne, beq_eq_false_iff_ne, bne_eq_false_iff_eq, ne_eq, gt_iff_lt, ge_iff_le] at hsp); simp only [hsp, h43, s44, gc, gcIdx, range1, range2, range3, range4, range5, List.filter_cons, List.idxOf?_cons, List.idxOf?_nil, List.getD_cons_zero, List.getD_cons_succ, List.getD_nil, List.contains_cons, List.contains_nil, List.elem_nil, Nat.reduceBEq, Bool.or_false, Bool.or_true, Bool.true_or, Bool.false_or, back, rangeIn, go_sem, Nat.reduceBEq, Nat.reduceEqDiff, Nat.reduceLT, Nat.reduceLeDiff, Nat.reduceAdd, Nat.reduceMul, Nat.reduceSub, Nat.reduceDiv, Int.reduceLT, Int.reduceLE, Int.reduceToNat, Int.reduceNeg, Int.reduceSub, Int.reduceAdd, reduceIte, reduceCtorEq]))
    all_goals simp_all

/-! ### The reference's digits -/

def okR (r : Int) : Bool := !(decide (r < 1) || decide (1000000000 < r))

theorem L45 {l : List Int} (hlen : l.length ≤ 1000) {σ : Type} (Y : List P → σ → Option (Bool × σ)) (s : σ) : ∀ (r : List Int) (k : Nat) (st : St), l.drop k = r → k ≤ l.length →
    gc 0 (liftAll [] ⟨keepOnly [0, 3] st.fr, st.mem⟩) = some ⟨⟨25, [(0, Vl l), (3, Vi k)]⟩, []⟩ →
    ∃ fr, if r.any (fun r => decide (r < 1) || decide (1000000000 < r)) = true then U tbl Y 0 fn45_L0 st s = some (.ret, ⟨fr, []⟩, s) ∧ getF fr.l 2 = Vi 2 else U tbl Y 0 fn45_L0 st s = some (.exit 0, ⟨⟨25, [(0, Vl l), (3, Vi l.length), (10, Vb false)]⟩, []⟩, s) := by
  intro r
  induction r with
  | nil =>
    intro k st hd hk hg
    have e : k = l.length := by have := drop_nil_facts hd; omega
    subst e
    rw [fn45_L0, u_loop tbl Y 0 s hg]
    simp only [fn45_B0, natnlt (Nat.le_refl l.length), go_sem, Nat.reduceBEq, Nat.reduceEqDiff, Nat.reduceLT, Nat.reduceLeDiff, Nat.reduceAdd, Nat.reduceMul, Nat.reduceSub, Nat.reduceDiv, Int.reduceLT, Int.reduceLE, Int.reduceToNat, Int.reduceNeg, Int.reduceSub, Int.reduceAdd, reduceIte, reduceCtorEq]
    exact ⟨default, trivial⟩
  | cons x r ih =>
    intro k st hd hk hg
    obtain ⟨h1, h2, h3⟩ := drop_cons_facts hd
    rw [fn45_L0, u_loop tbl Y 0 s hg]
    by_cases c1 : x < 1
    · have : ((x :: r).any fun r => decide (r < 1) || decide (1000000000 < r)) = true := by simp [c1]
      simp only [this, if_true]
      simp only [fn45_B0, natlt h2, h1, c1, go_sem, Nat.reduceBEq, Nat.reduceEqDiff, Nat.reduceLT, Nat.reduceLeDiff, Nat.reduceAdd, Nat.reduceMul, Nat.reduceSub, Nat.reduceDiv, Int.reduceLT, Int.reduceLE, Int.reduceToNat, Int.reduceNeg, Int.reduceSub, Int.reduceAdd, reduceIte, reduceCtorEq]
      exact ⟨_, rfl, by simp only [go_sem, Nat.reduceBEq, Nat.reduceEqDiff, Nat.reduceLT, Nat.reduceLeDiff, Nat.reduceAdd, Nat.reduceMul, Nat.reduceSub, Nat.reduceDiv, Int.reduceLT, Int.reduceLE, Int.reduceToNat, Int.reduceNeg, Int.reduceSub, Int.reduceAdd, reduceIte, reduceCtorEq]⟩
    · by_cases c2 : 1000000000 < x
      · have : ((x :: r).any fun r => decide (r < 1) || decide (1000000000 < r)) = true := by simp [c2]
        simp only [this, if_true]
        simp only [fn45_B0, natlt h2, h1, c1, c2, go_sem, Nat.reduceBEq, Nat.reduceEqDiff, Nat.reduceLT, Nat.reduceLeDiff, Nat.reduceAdd, Nat.reduceMul, Nat.reduceSub, Nat.reduceDiv, Int.reduceLT, Int.reduceLE, Int.reduceToNat, Int.reduceNeg, Int.reduceSub, Int.reduceAdd, reduceIte, reduceCtorEq]
        exact ⟨_, rfl, by simp only [go_sem, Nat.reduceBEq, Nat.reduceEqDiff, Nat.reduceLT, Nat.reduceLeDiff, Nat.reduceAdd, Nat.reduceMul, Nat.reduceSub, Nat.reduceDiv, Int.reduceLT, Int.reduceLE, Int.reduceToNat, Int.reduceNeg, Int.reduceSub, Int.reduceAdd, reduceIte, reduceCtorEq]⟩
      · have : ((x :: r).any fun r => decide (r < 1) || decide (1000000000 < r)) = r.any fun r => decide (r < 1) || decide (1000000000 < r) := by simp [c1, c2]
        rw [this]
        simp only [fn45_B0, natlt h2, h1, c1, c2, succ64 (show k < 9223372036854775807 by omega), go_sem, Nat.reduceBEq, Nat.reduceEqDiff, Nat.reduceLT, Nat.reduceLeDiff, Nat.reduceAdd, Nat.reduceMul, Nat.reduceSub, Nat.reduceDiv, Int.reduceLT, Int.reduceLE, Int.reduceToNat, Int.reduceNeg, Int.reduceSub, Int.reduceAdd, reduceIte, reduceCtorEq]
        exact ih (k + 1) _ h3 (by omega) (by simp only [go_sem, Nat.reduceBEq, Nat.reduceEqDiff, Nat.reduceLT, Nat.reduceLeDiff, Nat.reduceAdd, Nat.reduceMul, Nat.reduceSub, Nat.reduceDiv, Int.reduceLT, Int.reduceLE, Int.reduceToNat, Int.reduceNeg, Int.reduceSub, Int.reduceAdd, reduceIte, reduceCtorEq])

def chk (l : List Int) : Int := if (100 : Int) < l.length then 4 else if l.any (fun r => decide (r < 1) || decide (1000000000 < r)) = true then 2 else 0

theorem s45 (l : List Int) (hlen : l.length ≤ 1000) : (EL tbl).call 45 [Vl l] [] = some (Vi (chk l), []) := by
  rw [call_fn' tbl (show tbl 45 = some fn45 from rfl) _ _ (Nat.le_of_ble_eq_true rfl)]
  simp only [fn45, go_sem, Nat.reduceBEq, Nat.reduceEqDiff, Nat.reduceLT, Nat.reduceLeDiff, Nat.reduceAdd, Nat.reduceMul, Nat.reduceSub, Nat.reduceDiv, Int.reduceLT, Int.reduceLE, Int.reduceToNat, Int.reduceNeg, Int.reduceSub, Int.reduceAdd, reduceIte, reduceCtorEq]
  obtain ⟨fr, h⟩ := L45 hlen noY () l 0 ⟨⟨25, [(0, Vl l), (3, Vi (0 : Nat)), (6, Vb false)]⟩, []⟩ (by simp) (by omega) (by simp only [go_sem, Nat.reduceBEq, Nat.reduceEqDiff, Nat.reduceLT, Nat.reduceLeDiff, Nat.reduceAdd, Nat.reduceMul, Nat.reduceSub, Nat.reduceDiv, Int.reduceLT, Int.reduceLE, Int.reduceToNat, Int.reduceNeg, Int.reduceSub, Int.reduceAdd, reduceIte, reduceCtorEq])
  simp only [Int.natCast_zero] at h
  unfold chk
  by_cases h1 : (100 : Int) < l.length
  · simp only [h1, go_sem, Nat.reduceBEq, Nat.reduceEqDiff, Nat.reduceLT, Nat.reduceLeDiff, Nat.reduceAdd, Nat.reduceMul, Nat.reduceSub, Nat.reduceDiv, Int.reduceLT, Int.reduceLE, Int.reduceToNat, Int.reduceNeg, Int.reduceSub, Int.reduceAdd, reduceIte, reduceCtorEq]
  · cases h2 : l.any (fun r => decide (r < 1) || decide (1000000000 < r)) with
    | true =>
      simp only [h2, if_true] at h
      simp only [h1, h.1, h.2, go_sem, Nat.reduceBEq, Nat.reduceEqDiff, Nat.reduceLT, Nat.reduceLeDiff, Nat.reduceAdd, Nat.reduceMul, Nat.reduceSub, Nat.reduceDiv, Int.reduceLT, Int.reduceLE, Int.reduceToNat, Int.reduceNeg, Int.reduceSub, Int.reduceAdd, reduceIte, reduceCtorEq]
    | false =>
      simp only [h2, Bool.false_eq_true, if_false] at h
      simp only [h1, h, go_sem, Nat.reduceBEq, Nat.reduceEqDiff, Nat.reduceLT, Nat.reduceLeDiff, Nat.reduceAdd, Nat.reduceMul, Nat.reduceSub, Nat.reduceDiv, Int.reduceLT, Int.reduceLE, Int.reduceToNat, Int.reduceNeg, Int.reduceSub, Int.reduceAdd, reduceIte, reduceCtorEq]

theorem chk_ok {l : List Int} (h : chk l = 0) : ∀ r ∈ l, 1 ≤ r := by
  unfold chk at h
  split at h
  · cases h
  · split at h
    · cases h
    · rename_i h2
      intro r hr
      simp only [Bool.not_eq_true, List.any_eq_false] at h2
      have := h2 r hr
      simp at this; omega

theorem L23 {l : List Int} (hlen : l.length ≤ 1000) (hl : ∀ r ∈ l, 1 ≤ r) {σ : Type} (Y : List P → σ → Option (Bool × σ)) (s : σ) : ∀ (r : List Int) (k : Nat) (n : Int) (acc : List P) (st : St), l.drop k = r → k ≤ l.length → acc.length = k → 0 ≤ n → n ≤ 1000000000000000 →
    gc 0 (liftAll [4] ⟨keepOnly [0, 1, 4, 8] st.fr, st.mem⟩) = some ⟨⟨43, [(0, Vi n), (1, Vl l), (4, .sl 0 0 acc), (8, Vi k)]⟩, [.tok 0 acc.length]⟩ →
    U tbl Y 0 fn23_L0 st s = some (.exit 0, ⟨⟨43, [(0, Vi (left n r)), (1, Vl l), (4, .sl 0 0 (acc ++ (digs n r).map Pi)), (8, Vi l.length), (23, Vb false)]⟩, [.tok 0 l.length]⟩, s) := by
  intro r
  induction r with
  | nil =>
    intro k n acc st hd hk ha hn1 hn2 hg
    have e : k = l.length := by have := drop_nil_facts hd; omega
    subst e
    rw [fn23_L0, u_loop tbl Y 0 s hg]
    simp only [fn23_B0, natnlt (Nat.le_refl l.length), ha, left, digs, List.foldl_nil, go_sem, Nat.reduceBEq, Nat.reduceEqDiff, Nat.reduceLT, Nat.reduceLeDiff, Nat.reduceAdd, Nat.reduceMul, Nat.reduceSub, Nat.reduceDiv, Int.reduceLT, Int.reduceLE, Int.reduceToNat, Int.reduceNeg, Int.reduceSub, Int.reduceAdd, reduceIte, reduceCtorEq]
  | cons x r ih =>
    intro k n acc st hd hk ha hn1 hn2 hg
    obtain ⟨h1, h2, h3⟩ := drop_cons_facts hd
    have hx := hl x (List.mem_of_getElem? h1)
    obtain ⟨q1, q2, q3⟩ := quot64 hn1 hn2 hx
    have hx0 : ¬ x = 0 := by omega
    have hm : (acc.length + 1 ≤ most) = True := by simp [most]; omega
    rw [fn23_L0, u_loop tbl Y 0 s hg]
    simp only [fn23_B0, natlt h2, h1, hx0, q1, hm, succ64 (show k < 9223372036854775807 by omega), go_sem, Nat.reduceBEq, Nat.reduceEqDiff, Nat.reduceLT, Nat.reduceLeDiff, Nat.reduceAdd, Nat.reduceMul, Nat.reduceSub, Nat.reduceDiv, Int.reduceLT, Int.reduceLE, Int.reduceToNat, Int.reduceNeg, Int.reduceSub, Int.reduceAdd, reduceIte, reduceCtorEq]
    refine (ih (k + 1) (n.tdiv x) (acc ++ [Pi (n.tmod x)]) _ h3 (by omega) (by simp [ha]) q2 q3 (by simp only [gc, gcIdx, range1, range2, range3, range4, range5, List.filter_cons, List.idxOf?_cons, List.idxOf?_nil, List.getD_cons_zero, List.getD_cons_succ, List.getD_nil, List.contains_cons, List.contains_nil, List.elem_nil, Nat.reduceBEq, Bool.or_false, Bool.or_true, Bool.true_or, Bool.false_or, back, rangeIn, go_sem, Nat.reduceBEq, Nat.reduceEqDiff, Nat.reduceLT, Nat.reduceLeDiff, Nat.reduceAdd, Nat.reduceMul, Nat.reduceSub, Nat.reduceDiv, Int.reduceLT, Int.reduceLE, Int.reduceToNat, Int.reduceNeg, Int.reduceSub, Int.reduceAdd, reduceIte, reduceCtorEq])).trans ?_
    simp [left, digs]

theorem s23 (n : Int) (l : List Int) (hlen : l.length ≤ 1000) : (EL tbl).call 23 [Vi n, Vl l] [] =
    some (.p (.tuple (if chk l = 0 then if n < 0 then [Pl [], Pi 0, Pi 2] else if 999999999999999 < n then [Pl [], Pi 0, Pi 2] else [Pl (digs n l), Pi (left n l), Pi 0] else [Pl [], Pi 0, Pi (chk l)])), []) := by
  have h45 := s45 l hlen
  rw [call_fn' tbl (show tbl 23 = some fn23 from rfl) _ _ (Nat.le_of_ble_eq_true rfl)]
  simp only [fn23, h45, gc, gcIdx, range1, range2, range3, range4, range5, List.filter_cons, List.idxOf?_cons, List.idxOf?_nil, List.getD_cons_zero, List.getD_cons_succ, List.getD_nil, List.contains_cons, List.contains_nil, List.elem_nil, Nat.reduceBEq, Bool.or_false, Bool.or_true, Bool.true_or, Bool.false_or, back, rangeIn, go_sem, Nat.reduceBEq, Nat.reduceEqDiff, Nat.reduceLT, Nat.reduceLeDiff, Nat.reduceAdd, Nat.reduceMul, Nat.reduceSub, Nat.reduceDiv, Int.reduceLT, Int.reduceLE, Int.reduceToNat, Int.reduceNeg, Int.reduceSub, Int.reduceAdd, reduceIte, reduceCtorEq]
  by_cases h1 : chk l = 0
  · by_cases h2 : n < 0
    · simp only [h1, h2, bne_self_eq_false, fn23, gc, gcIdx, range1, range2, range3, range4, range5, List.filter_cons, List.idxOf?_cons, List.idxOf?_nil, List.getD_cons_zero, List.getD_cons_succ, List.getD_nil, List.contains_cons, List.contains_nil, List.elem_nil, Nat.reduceBEq, Bool.or_false, Bool.or_true, Bool.true_or, Bool.false_or, back, rangeIn, go_sem, Nat.reduceBEq, Nat.reduceEqDiff, Nat.reduceLT, Nat.reduceLeDiff, Nat.reduceAdd, Nat.reduceMul, Nat.reduceSub, Nat.reduceDiv, Int.reduceLT, Int.reduceLE, Int.reduceToNat, Int.reduceNeg, Int.reduceSub, Int.reduceAdd, reduceIte, reduceCtorEq]
      rfl
    · by_cases h3 : 999999999999999 < n
      · have h3' : 1000000000000000 ≤ n := by omega
        simp only [h1, h2, h3, h3', bne_self_eq_false, fn23, gc, gcIdx, range1, range2, range3, range4, range5, List.filter_cons, List.idxOf?_cons, List.idxOf?_nil, List.getD_cons_zero, List.getD_cons_succ, List.getD_nil, List.contains_cons, List.contains_nil, List.elem_nil, Nat.reduceBEq, Bool.or_false, Bool.or_true, Bool.true_or, Bool.false_or, back, rangeIn, go_sem, Nat.reduceBEq, Nat.reduceEqDiff, Nat.reduceLT, Nat.reduceLeDiff, Nat.reduceAdd, Nat.reduceMul, Nat.reduceSub, Nat.reduceDiv, Int.reduceLT, Int.reduceLE, Int.reduceToNat, Int.reduceNeg, Int.reduceSub, Int.reduceAdd, reduceIte, reduceCtorEq]
        rfl
      · have h3' : ¬ 1000000000000000 ≤ n := by omega
        have hL := L23 hlen (chk_ok h1) noY () l 0 n [] ⟨⟨43, [(0, Vi n), (1, Vl l), (4, .nil 0), (7, Vi 0), (8, Vi (0 : Nat)), (12, Vb false), (19, Vb false)]⟩, []⟩ (by simp) (by omega) (by simp) (by omega) (by omega) (by simp only [gc, gcIdx, range1, range2, range3, range4, range5, List.filter_cons, List.idxOf?_cons, List.idxOf?_nil, List.getD_cons_zero, List.getD_cons_succ, List.getD_nil, List.contains_cons, List.contains_nil, List.elem_nil, Nat.reduceBEq, Bool.or_false, Bool.or_true, Bool.true_or, Bool.false_or, back, rangeIn, go_sem, Nat.reduceBEq, Nat.reduceEqDiff, Nat.reduceLT, Nat.reduceLeDiff, Nat.reduceAdd, Nat.reduceMul, Nat.reduceSub, Nat.reduceDiv, Int.reduceLT, Int.reduceLE, Int.reduceToNat, Int.reduceNeg, Int.reduceSub, Int.reduceAdd, reduceIte, reduceCtorEq])
        simp only [Int.natCast_zero] at hL
        simp only [h1, h2, h3, h3', bne_self_eq_false, hL, fn23, gc, gcIdx, range1, range2, range3, range4, range5, List.filter_cons, List.idxOf?_cons, List.idxOf?_nil, List.getD_cons_zero, List.getD_cons_succ, List.getD_nil, List.contains_cons, List.contains_nil, List.elem_nil, Nat.reduceBEq, Bool.or_false, Bool.or_true, Bool.true_or, Bool.false_or, back, rangeIn, go_sem, Nat.reduceBEq, Nat.reduceEqDiff, Nat.reduceLT, Nat.reduceLeDiff, Nat.reduceAdd, Nat.reduceMul, Nat.reduceSub, Nat.reduceDiv, Int.reduceLT, Int.reduceLE, Int.reduceToNat, Int.reduceNeg, Int.reduceSub, Int.reduceAdd, reduceIte, reduceCtorEq]
  · have : (chk l != 0) = true := by simp [h1]
    simp only [h1, this, fn23, gc, gcIdx, range1, range2, range3, range4, range5, List.filter_cons, List.idxOf?_cons, List.idxOf?_nil, List.getD_cons_zero, List.getD_cons_succ, List.getD_nil, List.contains_cons, List.contains_nil, List.elem_nil, Nat.reduceBEq, Bool.or_false, Bool.or_true, Bool.true_or, Bool.false_or, back, rangeIn, go_sem, Nat.reduceBEq, Nat.reduceEqDiff, Nat.reduceLT, Nat.reduceLeDiff, Nat.reduceAdd, Nat.reduceMul, Nat.reduceSub, Nat.reduceDiv, Int.reduceLT, Int.reduceLE, Int.reduceToNat, Int.reduceNeg, Int.reduceSub, Int.reduceAdd, reduceIte, reduceCtorEq]
    rfl
end Go.Am
