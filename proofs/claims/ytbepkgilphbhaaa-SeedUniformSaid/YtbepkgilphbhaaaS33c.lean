/- What some functions of this seat answer. No condition. -/
import Derived.Test.YtbepkgilphbhaaaS33b
namespace Go.Am
open Go
set_option linter.unusedSimpArgs false
set_option linter.unusedVariables false
set_option maxRecDepth 100000
open Go.Proofs.Ytbepkgilphbhaaa.Fns

/-! ### Going back through a list -/

def bw (l : List Int) : Nat → List (List P)
  | 0 => []
  | k + 1 => [Pi (k : Nat), Pi (l.getD k 0)] :: bw l k

theorem pred64 {k : Nat} (h : k < 1000000000) : IntKind.wrap .i64 ((k : Int) - 1) = (k : Int) - 1 := wrap64 (by omega) (by omega)

theorem L75 {l : List Int} (hlen : l.length ≤ 1000) {σ : Type} (Y : List P → σ → Option (Bool × σ)) :
    ∀ (k : Nat) (i : Int) (s s' : σ) (st : St), k ≤ l.length → i = (k : Int) - 1 → feed Y (bw l k) s = some s' →
      gc 1 (liftAll [] ⟨keepOnly [0, 1, 3] st.fr, st.mem⟩) = some ⟨⟨19, [(0, .yield), (1, .ptr 0 0), (3, Vi i)]⟩, [.cells [Vl l]]⟩ →
      ∃ ex fr, (ex = .exit 0 ∨ ex = .ret) ∧ U tbl Y 1 fn75_L0 st s = some (ex, ⟨fr, [.cells [Vl l]]⟩, s') := by
  intro k
  induction k with
  | zero =>
    intro i s s' st hk hi hf hg
    simp only [bw, feed, Option.some.injEq] at hf
    subst hf
    have : ¬ 0 ≤ i := by omega
    rw [fn75_L0, u_loop tbl Y 1 s hg]
    simp only [fn75_B0, this, go_sem, Nat.reduceBEq, Nat.reduceEqDiff, Nat.reduceLT, Nat.reduceLeDiff, Nat.reduceAdd, Nat.reduceMul, Nat.reduceSub, Nat.reduceDiv, Int.reduceLT, Int.reduceLE, Int.reduceToNat, Int.reduceNeg, Int.reduceSub, Int.reduceAdd, reduceIte, reduceCtorEq]
    exact ⟨_, _, .inl rfl, rfl⟩
  | succ k ih =>
    intro i s s' st hk hi hf hg
    have e : i = (k : Int) := by omega
    subst e
    have h1 : l[k]? = some (l.getD k 0) := by rw [List.getD_eq_getElem?_getD, List.getElem?_eq_getElem (by omega)]; rfl
    simp only [bw, feed] at hf
    rw [fn75_L0, u_loop tbl Y 1 s hg]
    cases hy : Y [Pi (k : Nat), Pi (l.getD k 0)] s with
    | none => rw [hy] at hf; cases hf
    | some p =>
      obtain ⟨b, s1⟩ := p
      rw [hy] at hf
      cases b with
      | false =>
        simp only [Option.some.injEq] at hf
        subst hf
        simp only [fn75_B0, h1, hy, go_sem, Nat.reduceBEq, Nat.reduceEqDiff, Nat.reduceLT, Nat.reduceLeDiff, Nat.reduceAdd, Nat.reduceMul, Nat.reduceSub, Nat.reduceDiv, Int.reduceLT, Int.reduceLE, Int.reduceToNat, Int.reduceNeg, Int.reduceSub, Int.reduceAdd, reduceIte, reduceCtorEq]
        exact ⟨_, _, .inr rfl, rfl⟩
      | true =>
        simp only at hf
        simp only [fn75_B0, h1, hy, pred64 (show k < 1000000000 by omega), go_sem, Nat.reduceBEq, Nat.reduceEqDiff, Nat.reduceLT, Nat.reduceLeDiff, Nat.reduceAdd, Nat.reduceMul, Nat.reduceSub, Nat.reduceDiv, Int.reduceLT, Int.reduceLE, Int.reduceToNat, Int.reduceNeg, Int.reduceSub, Int.reduceAdd, reduceIte, reduceCtorEq]
        exact ih _ s1 s' _ (by omega) rfl hf (by simp only [gc, gcIdx, range1, range2, range3, range4, range5, List.filter_cons, List.idxOf?_cons, List.idxOf?_nil, List.getD_cons_zero, List.getD_cons_succ, List.getD_nil, List.contains_cons, List.contains_nil, List.elem_nil, Nat.reduceBEq, Bool.or_false, Bool.or_true, Bool.true_or, Bool.false_or, back, rangeIn, go_sem, Nat.reduceBEq, Nat.reduceEqDiff, Nat.reduceLT, Nat.reduceLeDiff, Nat.reduceAdd, Nat.reduceMul, Nat.reduceSub, Nat.reduceDiv, Int.reduceLT, Int.reduceLE, Int.reduceToNat, Int.reduceNeg, Int.reduceSub, Int.reduceAdd, reduceIte, reduceCtorEq])

theorem i75 {l : List Int} (hlen : l.length ≤ 1000) {σ : Type} (Y : List P → σ → Option (Bool × σ)) (s s' : σ) (hf : feed Y (bw l l.length) s = some s') :
    (EL tbl).iter σ Y 75 [.yield, .ptr 0 0] [.cells [Vl l]] s = some s' := by
  rw [iter_fn' tbl _ (show tbl 75 = some fn75 from rfl) _ _ _ (Nat.le_of_ble_eq_true rfl)]
  simp only [fn75, pred64 (show l.length < 1000000000 by omega), go_sem, Nat.reduceBEq, Nat.reduceEqDiff, Nat.reduceLT, Nat.reduceLeDiff, Nat.reduceAdd, Nat.reduceMul, Nat.reduceSub, Nat.reduceDiv, Int.reduceLT, Int.reduceLE, Int.reduceToNat, Int.reduceNeg, Int.reduceSub, Int.reduceAdd, reduceIte, reduceCtorEq]
  obtain ⟨ex, fr, he, hu⟩ := L75 hlen Y l.length ((l.length : Int) - 1) s s' ⟨⟨19, [(0, .yield), (1, .ptr 0 0), (3, Vi ((l.length : Int) - 1))]⟩, [.cells [Vl l]]⟩ (by omega) rfl hf (by simp only [gc, gcIdx, range1, range2, range3, range4, range5, List.filter_cons, List.idxOf?_cons, List.idxOf?_nil, List.getD_cons_zero, List.getD_cons_succ, List.getD_nil, List.contains_cons, List.contains_nil, List.elem_nil, Nat.reduceBEq, Bool.or_false, Bool.or_true, Bool.true_or, Bool.false_or, back, rangeIn, go_sem, Nat.reduceBEq, Nat.reduceEqDiff, Nat.reduceLT, Nat.reduceLeDiff, Nat.reduceAdd, Nat.reduceMul, Nat.reduceSub, Nat.reduceDiv, Int.reduceLT, Int.reduceLE, Int.reduceToNat, Int.reduceNeg, Int.reduceSub, Int.reduceAdd, reduceIte, reduceCtorEq])
  rcases he with rfl | rfl <;> simp only [hu, gc, gcIdx, range1, range2, range3, range4, range5, List.filter_cons, List.idxOf?_cons, List.idxOf?_nil, List.getD_cons_zero, List.getD_cons_succ, List.getD_nil, List.contains_cons, List.contains_nil, List.elem_nil, Nat.reduceBEq, Bool.or_false, Bool.or_true, Bool.true_or, Bool.false_or, back, rangeIn, go_sem, Nat.reduceBEq, Nat.reduceEqDiff, Nat.reduceLT, Nat.reduceLeDiff, Nat.reduceAdd, Nat.reduceMul, Nat.reduceSub, Nat.reduceDiv, Int.reduceLT, Int.reduceLE, Int.reduceToNat, Int.reduceNeg, Int.reduceSub, Int.reduceAdd, reduceIte, reduceCtorEq]

theorem s68 (l : List Int) : (EL tbl).call 68 [Vl l] [] = some (.fn 75 [.ptr 0 0], [.cells [Vl l]]) := by
  rw [call_fn' tbl (show tbl 68 = some fn68 from rfl) _ _ (Nat.le_of_ble_eq_true rfl)]
  simp only [fn68, gc, gcIdx, range1, range2, range3, range4, range5, List.filter_cons, List.idxOf?_cons, List.idxOf?_nil, List.getD_cons_zero, List.getD_cons_succ, List.getD_nil, List.contains_cons, List.contains_nil, List.elem_nil, Nat.reduceBEq, Bool.or_false, Bool.or_true, Bool.true_or, Bool.false_or, back, rangeIn, go_sem, Nat.reduceBEq, Nat.reduceEqDiff, Nat.reduceLT, Nat.reduceLeDiff, Nat.reduceAdd, Nat.reduceMul, Nat.reduceSub, Nat.reduceDiv, Int.reduceLT, Int.reduceLE, Int.reduceToNat, Int.reduceNeg, Int.reduceSub, Int.reduceAdd, reduceIte, reduceCtorEq]

/-- Digits joined: the last one first. -/
def jn (l m : List Int) : Nat → Int → Int × Int
  | 0, rest => (rest, 0)
  | k + 1, rest => if IntKind.wrap .i64 ((IntKind.wrap .i64 (999999999999999 - l.getD k 0)).tdiv (m.getD k 0)) < rest then (0, 5) else jn l m k (IntKind.wrap .i64 (IntKind.wrap .i64 (rest * m.getD k 0) + l.getD k 0))

abbrev fr46 : Fr := ⟨32, [(4, V.ptr 0 0), (5, V.ptr 1 0), (6, V.ptr 2 0), (7, V.ptr 3 0), (11, V.fn 75 [V.ptr 4 0])]⟩

theorem feed46 {l m : List Int} (he : l.length = m.length) (hm : ∀ r ∈ m, 1 ≤ r) : ∀ (k : Nat) (rest : Int), k ≤ l.length →
    ∃ x, feed (UY tbl noY 5 fr46 [12, 13] fn46_A0 fn46_C0) (bw l k) ⟨[.cells [Vl m], .cells [Vi rest], .cells [Vi 0], .cells [Vi 0], .dead], .normal, ()⟩ =
      some (if (jn l m k rest).2 = 0 then ⟨[.cells [Vl m], .cells [Vi (jn l m k rest).1], .cells [Vi 0], .cells [Vi 0], .dead], .normal, ()⟩ else ⟨[.cells [Vl m], .cells [Vi x], .cells [Vi 0], .cells [Vi 5], .dead], .ret, ()⟩)
  | 0, rest, _ => ⟨0, by simp [feed, bw, jn]⟩
  | k + 1, rest, hk => by
    have h1 : l[k]? = some (l.getD k 0) := by rw [List.getD_eq_getElem?_getD, List.getElem?_eq_getElem (by omega)]; rfl
    have h2 : m[k]? = some (m.getD k 0) := by rw [List.getD_eq_getElem?_getD, List.getElem?_eq_getElem (by omega)]; rfl
    have h3 := hm _ (List.mem_of_getElem? h2)
    have h0 : ¬ m.getD k 0 = 0 := by omega
    by_cases c : IntKind.wrap .i64 ((IntKind.wrap .i64 (999999999999999 - l.getD k 0)).tdiv (m.getD k 0)) < rest
    · have hs : UY tbl noY 5 fr46 [12, 13] fn46_A0 fn46_C0 [Pi (k : Nat), Pi (l.getD k 0)] ⟨[.cells [Vl m], .cells [Vi rest], .cells [Vi 0], .cells [Vi 0], .dead], .normal, ()⟩ =
          some (false, ⟨[.cells [Vl m], .cells [Vi rest], .cells [Vi 0], .cells [Vi 5], .dead], .ret, ()⟩) := by
        rw [uy_eq _ _ _ _ _ _ _ _ _ _ rfl]
        simp only [fn46_A0, fn46_C0, fn46, fn46_P4, fn46_D4, fn46_P6, fn46_D6, h2, h0, c, gc, gcIdx, range1, range2, range3, range4, range5, List.filter_cons, List.idxOf?_cons, List.idxOf?_nil, List.getD_cons_zero, List.getD_cons_succ, List.getD_nil, List.contains_cons, List.contains_nil, List.elem_nil, Nat.reduceBEq, Bool.or_false, Bool.or_true, Bool.true_or, Bool.false_or, back, rangeIn, go_sem, Nat.reduceBEq, Nat.reduceEqDiff, Nat.reduceLT, Nat.reduceLeDiff, Nat.reduceAdd, Nat.reduceMul, Nat.reduceSub, Nat.reduceDiv, Int.reduceLT, Int.reduceLE, Int.reduceToNat, Int.reduceNeg, Int.reduceSub, Int.reduceAdd, reduceIte, reduceCtorEq]
      refine ⟨rest, ?_⟩
      simp only [feed, bw, hs, jn, c, if_true]
      rfl
    · have hs : UY tbl noY 5 fr46 [12, 13] fn46_A0 fn46_C0 [Pi (k : Nat), Pi (l.getD k 0)] ⟨[.cells [Vl m], .cells [Vi rest], .cells [Vi 0], .cells [Vi 0], .dead], .normal, ()⟩ =
          some (true, ⟨[.cells [Vl m], .cells [Vi (IntKind.wrap .i64 (IntKind.wrap .i64 (rest * m.getD k 0) + l.getD k 0))], .cells [Vi 0], .cells [Vi 0], .dead], .normal, ()⟩) := by
        rw [uy_eq _ _ _ _ _ _ _ _ _ _ rfl]
        simp only [fn46_A0, fn46_C0, fn46, fn46_P4, fn46_D4, fn46_P6, fn46_D6, h2, h0, c, gc, gcIdx, range1, range2, range3, range4, range5, List.filter_cons, List.idxOf?_cons, List.idxOf?_nil, List.getD_cons_zero, List.getD_cons_succ, List.getD_nil, List.contains_cons, List.contains_nil, List.elem_nil, Nat.reduceBEq, Bool.or_false, Bool.or_true, Bool.true_or, Bool.false_or, back, rangeIn, go_sem, Nat.reduceBEq, Nat.reduceEqDiff, Nat.reduceLT, Nat.reduceLeDiff, Nat.reduceAdd, Nat.reduceMul, Nat.reduceSub, Nat.reduceDiv, Int.reduceLT, Int.reduceLE, Int.reduceToNat, Int.reduceNeg, Int.reduceSub, Int.reduceAdd, reduceIte, reduceCtorEq]
      simp only [feed, bw, hs, jn, c, if_false]
      exact feed46 he hm k _ (by omega)

theorem jn_two (l m : List Int) : ∀ (k : Nat) (rest : Int), ((jn l m k rest).2 = 0) ∨ (jn l m k rest) = (0, 5)
  | 0, rest => .inl rfl
  | k + 1, rest => by
    simp only [jn]
    split
    · exact .inr rfl
    · exact jn_two l m k _

theorem s46 (l m : List Int) (rest : Int) (hlen : l.length ≤ 1000) (he : l.length = m.length) (hm : ∀ r ∈ m, 1 ≤ r) : (EL tbl).call 46 [Vl l, Vl m, Vi rest] [] = some (.p (.tuple [Pi (jn l m l.length rest).1, Pi (jn l m l.length rest).2]), []) := by
  obtain ⟨x, hf⟩ := feed46 he hm l.length rest (Nat.le_refl _)
  have hit := i75 hlen _ _ _ hf
  rw [call_fn' tbl (show tbl 46 = some fn46 from rfl) _ _ (Nat.le_of_ble_eq_true rfl)]
  rcases jn_two l m l.length rest with h | h
  · simp only [h, if_true] at hit
    simp only [hit, h, s68, fn46, fn46_P4, fn46_D4, fn46_P6, fn46_D6, gc, gcIdx, range1, range2, range3, range4, range5, List.filter_cons, List.idxOf?_cons, List.idxOf?_nil, List.getD_cons_zero, List.getD_cons_succ, List.getD_nil, List.contains_cons, List.contains_nil, List.elem_nil, Nat.reduceBEq, Bool.or_false, Bool.or_true, Bool.true_or, Bool.false_or, back, rangeIn, go_sem, Nat.reduceBEq, Nat.reduceEqDiff, Nat.reduceLT, Nat.reduceLeDiff, Nat.reduceAdd, Nat.reduceMul, Nat.reduceSub, Nat.reduceDiv, Int.reduceLT, Int.reduceLE, Int.reduceToNat, Int.reduceNeg, Int.reduceSub, Int.reduceAdd, reduceIte, reduceCtorEq]
  · have hn : ¬ (jn l m l.length rest).2 = 0 := by rw [h]; decide
    simp only [hn, if_false] at hit
    simp only [hit, h, s68, fn46, fn46_P4, fn46_D4, fn46_P6, fn46_D6, gc, gcIdx, range1, range2, range3, range4, range5, List.filter_cons, List.idxOf?_cons, List.idxOf?_nil, List.getD_cons_zero, List.getD_cons_succ, List.getD_nil, List.contains_cons, List.contains_nil, List.elem_nil, Nat.reduceBEq, Bool.or_false, Bool.or_true, Bool.true_or, Bool.false_or, back, rangeIn, go_sem, Nat.reduceBEq, Nat.reduceEqDiff, Nat.reduceLT, Nat.reduceLeDiff, Nat.reduceAdd, Nat.reduceMul, Nat.reduceSub, Nat.reduceDiv, Int.reduceLT, Int.reduceLE, Int.reduceToNat, Int.reduceNeg, Int.reduceSub, Int.reduceAdd, reduceIte, reduceCtorEq]

/-- A digit that is none. -/
def bad : List Int → List Int → Bool
  | d :: l, r :: m => decide (d < 0) || decide (r ≤ d) || bad l m
  | _, _ => false

theorem L24 {l m : List Int} {q : Int} (hlen : l.length ≤ 1000) (he : l.length = m.length) {σ : Type} (Y : List P → σ → Option (Bool × σ)) (s : σ) : ∀ (r t : List Int) (k : Nat) (st : St), l.drop k = r → m.drop k = t → k ≤ l.length →
    gc 0 (liftAll [] ⟨keepOnly [0, 1, 2, 21, 22, 23] st.fr, st.mem⟩) = some ⟨⟨51, [(0, Vl l), (1, Vl m), (2, Vi q), (21, Vl l), (22, Vi l.length), (23, Vi k)]⟩, []⟩ →
    ∃ fr, if bad r t = true then U tbl Y 0 fn24_L0 st s = some (.ret, ⟨fr, []⟩, s) ∧ getF fr.l 6 = Vi 0 ∧ getF fr.l 7 = Vi 2 else U tbl Y 0 fn24_L0 st s = some (.exit 0, ⟨⟨51, [(0, Vl l), (1, Vl m), (2, Vi q), (21, Vl l), (22, Vi l.length), (23, Vi l.length), (24, Vb false)]⟩, []⟩, s) := by
  intro r
  induction r with
  | nil =>
    intro t k st hd ht hk hg
    have e : k = l.length := by have := drop_nil_facts hd; omega
    subst e
    have hb : bad [] t = false := by simp [bad]
    rw [fn24_L0, u_loop tbl Y 0 s hg]
    simp only [fn24_B0, hb, natnlt (Nat.le_refl l.length), go_sem, Nat.reduceBEq, Nat.reduceEqDiff, Nat.reduceLT, Nat.reduceLeDiff, Nat.reduceAdd, Nat.reduceMul, Nat.reduceSub, Nat.reduceDiv, Int.reduceLT, Int.reduceLE, Int.reduceToNat, Int.reduceNeg, Int.reduceSub, Int.reduceAdd, reduceIte, reduceCtorEq]
    exact ⟨default, trivial⟩
  | cons x r ih =>
    intro t k st hd ht hk hg
    obtain ⟨h1, h2, h3⟩ := drop_cons_facts hd
    cases t with
    | nil => have := drop_nil_facts ht; omega
    | cons y t =>
      obtain ⟨g1, g2, g3⟩ := drop_cons_facts ht
      rw [fn24_L0, u_loop tbl Y 0 s hg]
      by_cases c1 : x < 0
      · have hb : bad (x :: r) (y :: t) = true := by simp [bad, c1]
        simp only [hb, if_true]
        simp only [fn24_B0, natlt h2, h1, g1, c1, go_sem, Nat.reduceBEq, Nat.reduceEqDiff, Nat.reduceLT, Nat.reduceLeDiff, Nat.reduceAdd, Nat.reduceMul, Nat.reduceSub, Nat.reduceDiv, Int.reduceLT, Int.reduceLE, Int.reduceToNat, Int.reduceNeg, Int.reduceSub, Int.reduceAdd, reduceIte, reduceCtorEq]
        exact ⟨_, rfl, by simp only [go_sem, Nat.reduceBEq, Nat.reduceEqDiff, Nat.reduceLT, Nat.reduceLeDiff, Nat.reduceAdd, Nat.reduceMul, Nat.reduceSub, Nat.reduceDiv, Int.reduceLT, Int.reduceLE, Int.reduceToNat, Int.reduceNeg, Int.reduceSub, Int.reduceAdd, reduceIte, reduceCtorEq]⟩
      · by_cases c2 : y ≤ x
        · have hb : bad (x :: r) (y :: t) = true := by simp [bad, c2]
          simp only [hb, if_true]
          simp only [fn24_B0, natlt h2, h1, g1, c1, c2, go_sem, Nat.reduceBEq, Nat.reduceEqDiff, Nat.reduceLT, Nat.reduceLeDiff, Nat.reduceAdd, Nat.reduceMul, Nat.reduceSub, Nat.reduceDiv, Int.reduceLT, Int.reduceLE, Int.reduceToNat, Int.reduceNeg, Int.reduceSub, Int.reduceAdd, reduceIte, reduceCtorEq]
          exact ⟨_, rfl, by simp only [go_sem, Nat.reduceBEq, Nat.reduceEqDiff, Nat.reduceLT, Nat.reduceLeDiff, Nat.reduceAdd, Nat.reduceMul, Nat.reduceSub, Nat.reduceDiv, Int.reduceLT, Int.reduceLE, Int.reduceToNat, Int.reduceNeg, Int.reduceSub, Int.reduceAdd, reduceIte, reduceCtorEq]⟩
        · have hb : bad (x :: r) (y :: t) = bad r t := by simp [bad, c1, c2]
          rw [hb]
          simp only [fn24_B0, natlt h2, h1, g1, c1, c2, succ64 (show k < 9223372036854775807 by omega), go_sem, Nat.reduceBEq, Nat.reduceEqDiff, Nat.reduceLT, Nat.reduceLeDiff, Nat.reduceAdd, Nat.reduceMul, Nat.reduceSub, Nat.reduceDiv, Int.reduceLT, Int.reduceLE, Int.reduceToNat, Int.reduceNeg, Int.reduceSub, Int.reduceAdd, reduceIte, reduceCtorEq]
          exact ih t (k + 1) _ h3 g3 (by omega) (by simp only [go_sem, Nat.reduceBEq, Nat.reduceEqDiff, Nat.reduceLT, Nat.reduceLeDiff, Nat.reduceAdd, Nat.reduceMul, Nat.reduceSub, Nat.reduceDiv, Int.reduceLT, Int.reduceLE, Int.reduceToNat, Int.reduceNeg, Int.reduceSub, Int.reduceAdd, reduceIte, reduceCtorEq])

/-- What joining digits says. -/
def joinOf (c : Int) (l m : List Int) (rest : Int) : List P :=
  if c = 0 then if (l.length : Int) = m.length then if bad l m = true then [Pi 0, Pi 2] else if rest < 0 then [Pi 0, Pi 2] else if 999999999999999 < rest then [Pi 0, Pi 2] else [Pi (jn l m l.length rest).1, Pi (jn l m l.length rest).2]
    else [Pi 0, Pi 10] else [Pi 0, Pi c]

theorem s24 (l m : List Int) (q : Int) (c : Int) (hlen : l.length ≤ 1000) (hlen2 : m.length ≤ 1000) (h43 : (EL tbl).call 43 [Vl m] [] = some (Vi c, [])) (hc : c = 0 → ∀ r ∈ m, 1 ≤ r) : (EL tbl).call 24 [Vl l, Vl m, Vi q] [] = some (.p (.tuple (joinOf c l m q)), []) := by
  rw [call_fn' tbl (show tbl 24 = some fn24 from rfl) _ _ (Nat.le_of_ble_eq_true rfl)]
  unfold joinOf
  by_cases h1 : c = 0
  · subst h1
    rw [if_pos rfl]
    by_cases he : (l.length : Int) = m.length
    · have he' : l.length = m.length := by omega
      obtain ⟨fr, h⟩ := L24 (q := q) hlen he' noY () l m 0 ⟨⟨51, [(0, Vl l), (1, Vl m), (2, Vi q), (8, Vi 0), (14, Vb false), (20, Vb false), (21, Vl l), (22, Vi l.length), (23, Vi (0 : Nat))]⟩, []⟩ (by simp) (by simp) (by omega) (by simp only [go_sem, Nat.reduceBEq, Nat.reduceEqDiff, Nat.reduceLT, Nat.reduceLeDiff, Nat.reduceAdd, Nat.reduceMul, Nat.reduceSub, Nat.reduceDiv, Int.reduceLT, Int.reduceLE, Int.reduceToNat, Int.reduceNeg, Int.reduceSub, Int.reduceAdd, reduceIte, reduceCtorEq])
      simp only [Int.natCast_zero] at h
      have hb : ((l.length : Int) != (m.length : Int)) = false := by simp; omega
      rw [if_pos he]
      cases hbad : bad l m with
      | true =>
        simp only [hbad, if_true] at h
        simp only [h.1, h.2.1, h.2.2, h43, bne_self_eq_false, hb, fn24, gc, gcIdx, range1, range2, range3, range4, range5, List.filter_cons, List.idxOf?_cons, List.idxOf?_nil, List.getD_cons_zero, List.getD_cons_succ, List.getD_nil, List.contains_cons, List.contains_nil, List.elem_nil, Nat.reduceBEq, Bool.or_false, Bool.or_true, Bool.true_or, Bool.false_or, back, rangeIn, go_sem, Nat.reduceBEq, Nat.reduceEqDiff, Nat.reduceLT, Nat.reduceLeDiff, Nat.reduceAdd, Nat.reduceMul, Nat.reduceSub, Nat.reduceDiv, Int.reduceLT, Int.reduceLE, Int.reduceToNat, Int.reduceNeg, Int.reduceSub, Int.reduceAdd, reduceIte, reduceCtorEq]
      | false =>
        simp only [hbad, Bool.false_eq_true, if_false] at h
        rw [if_neg (by decide)]
        by_cases c1 : q < 0
        · rw [if_pos c1]
          simp only [c1, h43, bne_self_eq_false, hb, h, fn24, gc, gcIdx, range1, range2, range3, range4, range5, List.filter_cons, List.idxOf?_cons, List.idxOf?_nil, List.getD_cons_zero, List.getD_cons_succ, List.getD_nil, List.contains_cons, List.contains_nil, List.elem_nil, Nat.reduceBEq, Bool.or_false, Bool.or_true, Bool.true_or, Bool.false_or, back, rangeIn, go_sem, Nat.reduceBEq, Nat.reduceEqDiff, Nat.reduceLT, Nat.reduceLeDiff, Nat.reduceAdd, Nat.reduceMul, Nat.reduceSub, Nat.reduceDiv, Int.reduceLT, Int.reduceLE, Int.reduceToNat, Int.reduceNeg, Int.reduceSub, Int.reduceAdd, reduceIte, reduceCtorEq]
        · rw [if_neg c1]
          by_cases c2 : 999999999999999 < q
          · rw [if_pos c2]
            simp only [c1, c2, h43, bne_self_eq_false, hb, h, fn24, gc, gcIdx, range1, range2, range3, range4, range5, List.filter_cons, List.idxOf?_cons, List.idxOf?_nil, List.getD_cons_zero, List.getD_cons_succ, List.getD_nil, List.contains_cons, List.contains_nil, List.elem_nil, Nat.reduceBEq, Bool.or_false, Bool.or_true, Bool.true_or, Bool.false_or, back, rangeIn, go_sem, Nat.reduceBEq, Nat.reduceEqDiff, Nat.reduceLT, Nat.reduceLeDiff, Nat.reduceAdd, Nat.reduceMul, Nat.reduceSub, Nat.reduceDiv, Int.reduceLT, Int.reduceLE, Int.reduceToNat, Int.reduceNeg, Int.reduceSub, Int.reduceAdd, reduceIte, reduceCtorEq]
          · rw [if_neg c2]
            have h46 := s46 l m q hlen he' (hc rfl)
            simp only [c1, c2, h43, bne_self_eq_false, hb, h, h46, fn24, gc, gcIdx, range1, range2, range3, range4, range5, List.filter_cons, List.idxOf?_cons, List.idxOf?_nil, List.getD_cons_zero, List.getD_cons_succ, List.getD_nil, List.contains_cons, List.contains_nil, List.elem_nil, Nat.reduceBEq, Bool.or_false, Bool.or_true, Bool.true_or, Bool.false_or, back, rangeIn, go_sem, Nat.reduceBEq, Nat.reduceEqDiff, Nat.reduceLT, Nat.reduceLeDiff, Nat.reduceAdd, Nat.reduceMul, Nat.reduceSub, Nat.reduceDiv, Int.reduceLT, Int.reduceLE, Int.reduceToNat, Int.reduceNeg, Int.reduceSub, Int.reduceAdd, reduceIte, reduceCtorEq]
    · have hb : ((l.length : Int) != (m.length : Int)) = true := by simp; omega
      rw [if_neg he]
      simp only [h43, hb, bne_self_eq_false, fn24, gc, gcIdx, range1, range2, range3, range4, range5, List.filter_cons, List.idxOf?_cons, List.idxOf?_nil, List.getD_cons_zero, List.getD_cons_succ, List.getD_nil, List.contains_cons, List.contains_nil, List.elem_nil, Nat.reduceBEq, Bool.or_false, Bool.or_true, Bool.true_or, Bool.false_or, back, rangeIn, go_sem, Nat.reduceBEq, Nat.reduceEqDiff, Nat.reduceLT, Nat.reduceLeDiff, Nat.reduceAdd, Nat.reduceMul, Nat.reduceSub, Nat.reduceDiv, Int.reduceLT, Int.reduceLE, Int.reduceToNat, Int.reduceNeg, Int.reduceSub, Int.reduceAdd, reduceIte, reduceCtorEq]
  · have : (c != 0) = true := by simp [h1]
    rw [if_neg h1]
    simp only [h43, this, fn24, gc, gcIdx, range1, range2, range3, range4, range5, List.filter_cons, List.idxOf?_cons, List.idxOf?_nil, List.getD_cons_zero, List.getD_cons_succ, List.getD_nil, List.contains_cons, List.contains_nil, List.elem_nil, Nat.reduceBEq, Bool.or_false, Bool.or_true, Bool.true_or, Bool.false_or, back, rangeIn, go_sem, Nat.reduceBEq, Nat.reduceEqDiff, Nat.reduceLT, Nat.reduceLeDiff, Nat.reduceAdd, Nat.reduceMul, Nat.reduceSub, Nat.reduceDiv, Int.reduceLT, Int.reduceLE, Int.reduceToNat, Int.reduceNeg, Int.reduceSub, Int.reduceAdd, reduceIte, reduceCtorEq]

theorem L25 {l m : List Int} {q : Int} (hlen : m.length ≤ 1000) (he : l.length = m.length) {σ : Type} (Y : List P → σ → Option (Bool × σ)) (s : σ) : ∀ (r t : List Int) (k : Nat) (st : St), l.drop k = r → m.drop k = t → k ≤ m.length →
    gc 0 (liftAll [] ⟨keepOnly [0, 1, 2, 9] st.fr, st.mem⟩) = some ⟨⟨80, [(0, Vl l), (1, Vl m), (2, Vi q), (9, Vi k)]⟩, []⟩ →
    ∃ fr, if bad r t = true then U tbl Y 0 fn25_L0 st s = some (.ret, ⟨fr, []⟩, s) ∧ getF fr.l 6 = Vi 0 ∧ getF fr.l 7 = Vi 2 else U tbl Y 0 fn25_L0 st s = some (.exit 0, ⟨⟨80, [(0, Vl l), (1, Vl m), (2, Vi q), (9, Vi m.length), (24, Vb false)]⟩, []⟩, s) := by
  intro r t
  induction t generalizing r with
  | nil =>
    intro k st hd ht hk hg
    have e : k = m.length := by have := drop_nil_facts ht; omega
    subst e
    have hb : bad r [] = false := by cases r <;> simp [bad]
    rw [fn25_L0, u_loop tbl Y 0 s hg]
    simp only [fn25_B0, fn25_P9, fn25_D9, fn25_P16, fn25_D16, fn25_P18, fn25_D18, hb, natnlt (Nat.le_refl m.length), go_sem, Nat.reduceBEq, Nat.reduceEqDiff, Nat.reduceLT, Nat.reduceLeDiff, Nat.reduceAdd, Nat.reduceMul, Nat.reduceSub, Nat.reduceDiv, Int.reduceLT, Int.reduceLE, Int.reduceToNat, Int.reduceNeg, Int.reduceSub, Int.reduceAdd, reduceIte, reduceCtorEq]
    exact ⟨default, trivial⟩
  | cons y t ih =>
    intro k st hd ht hk hg
    obtain ⟨g1, g2, g3⟩ := drop_cons_facts ht
    cases r with
    | nil => have := drop_nil_facts hd; omega
    | cons x r =>
      obtain ⟨h1, h2, h3⟩ := drop_cons_facts hd
      rw [fn25_L0, u_loop tbl Y 0 s hg]
      by_cases c1 : x < 0
      · have hb : bad (x :: r) (y :: t) = true := by simp [bad, c1]
        simp only [hb, if_true]
        simp only [fn25_B0, fn25_P9, fn25_D9, fn25_P16, fn25_D16, fn25_P18, fn25_D18, natlt g2, h1, g1, c1, go_sem, Nat.reduceBEq, Nat.reduceEqDiff, Nat.reduceLT, Nat.reduceLeDiff, Nat.reduceAdd, Nat.reduceMul, Nat.reduceSub, Nat.reduceDiv, Int.reduceLT, Int.reduceLE, Int.reduceToNat, Int.reduceNeg, Int.reduceSub, Int.reduceAdd, reduceIte, reduceCtorEq]
        exact ⟨_, rfl, by simp only [go_sem, Nat.reduceBEq, Nat.reduceEqDiff, Nat.reduceLT, Nat.reduceLeDiff, Nat.reduceAdd, Nat.reduceMul, Nat.reduceSub, Nat.reduceDiv, Int.reduceLT, Int.reduceLE, Int.reduceToNat, Int.reduceNeg, Int.reduceSub, Int.reduceAdd, reduceIte, reduceCtorEq]⟩
      · by_cases c2 : y ≤ x
        · have hb : bad (x :: r) (y :: t) = true := by simp [bad, c2]
          simp only [hb, if_true]
          simp only [fn25_B0, fn25_P9, fn25_D9, fn25_P16, fn25_D16, fn25_P18, fn25_D18, natlt g2, h1, g1, c1, c2, go_sem, Nat.reduceBEq, Nat.reduceEqDiff, Nat.reduceLT, Nat.reduceLeDiff, Nat.reduceAdd, Nat.reduceMul, Nat.reduceSub, Nat.reduceDiv, Int.reduceLT, Int.reduceLE, Int.reduceToNat, Int.reduceNeg, Int.reduceSub, Int.reduceAdd, reduceIte, reduceCtorEq]
          exact ⟨_, rfl, by simp only [go_sem, Nat.reduceBEq, Nat.reduceEqDiff, Nat.reduceLT, Nat.reduceLeDiff, Nat.reduceAdd, Nat.reduceMul, Nat.reduceSub, Nat.reduceDiv, Int.reduceLT, Int.reduceLE, Int.reduceToNat, Int.reduceNeg, Int.reduceSub, Int.reduceAdd, reduceIte, reduceCtorEq]⟩
        · have hb : bad (x :: r) (y :: t) = bad r t := by simp [bad, c1, c2]
          rw [hb]
          simp only [fn25_B0, fn25_P9, fn25_D9, fn25_P16, fn25_D16, fn25_P18, fn25_D18, natlt g2, h1, g1, c1, c2, succ64 (show k < 9223372036854775807 by omega), go_sem, Nat.reduceBEq, Nat.reduceEqDiff, Nat.reduceLT, Nat.reduceLeDiff, Nat.reduceAdd, Nat.reduceMul, Nat.reduceSub, Nat.reduceDiv, Int.reduceLT, Int.reduceLE, Int.reduceToNat, Int.reduceNeg, Int.reduceSub, Int.reduceAdd, reduceIte, reduceCtorEq]
          exact ih r (k + 1) _ h3 g3 (by omega) (by simp only [go_sem, Nat.reduceBEq, Nat.reduceEqDiff, Nat.reduceLT, Nat.reduceLeDiff, Nat.reduceAdd, Nat.reduceMul, Nat.reduceSub, Nat.reduceDiv, Int.reduceLT, Int.reduceLE, Int.reduceToNat, Int.reduceNeg, Int.reduceSub, Int.reduceAdd, reduceIte, reduceCtorEq])

theorem M25 {l m : List Int} (hlen : l.length ≤ 1000) (he : l.length = m.length) (hm : ∀ r ∈ m, 1 ≤ r) {σ : Type} (Y : List P → σ → Option (Bool × σ)) (s : σ) : ∀ (k : Nat) (i q : Int) (st : St), k ≤ l.length → i = (k : Int) - 1 →
    gc 0 (liftAll [] ⟨keepOnly [0, 1, 2, 10] st.fr, st.mem⟩) = some ⟨⟨80, [(0, Vl l), (1, Vl m), (2, Vi q), (10, Vi i)]⟩, []⟩ →
    ∃ fr, if (jn l m k q).2 = 0 then U tbl Y 0 fn25_L1 st s = some (.exit 2, ⟨⟨80, [(0, Vl l), (1, Vl m), (2, Vi (jn l m k q).1), (10, Vi (-1)), (53, Vb false)]⟩, []⟩, s) else U tbl Y 0 fn25_L1 st s = some (.ret, ⟨fr, []⟩, s) ∧ getF fr.l 6 = Vi 0 ∧ getF fr.l 7 = Vi 5 := by
  intro k
  induction k with
  | zero =>
    intro i q st hk hi hg
    have hi : i = -1 := by omega
    subst hi
    rw [fn25_L1, u_loop tbl Y 0 s hg]
    simp only [fn25_B1, fn25_P9, fn25_D9, fn25_P16, fn25_D16, fn25_P18, fn25_D18, jn, go_sem, Nat.reduceBEq, Nat.reduceEqDiff, Nat.reduceLT, Nat.reduceLeDiff, Nat.reduceAdd, Nat.reduceMul, Nat.reduceSub, Nat.reduceDiv, Int.reduceLT, Int.reduceLE, Int.reduceToNat, Int.reduceNeg, Int.reduceSub, Int.reduceAdd, reduceIte, reduceCtorEq]
    exact ⟨default, trivial⟩
  | succ k ih =>
    intro i q st hk hi hg
    have e : i = (k : Int) := by omega
    subst e
    have h1 : l[k]? = some (l.getD k 0) := by rw [List.getD_eq_getElem?_getD, List.getElem?_eq_getElem (by omega)]; rfl
    have h2 : m[k]? = some (m.getD k 0) := by rw [List.getD_eq_getElem?_getD, List.getElem?_eq_getElem (by omega)]; rfl
    have h3 := hm _ (List.mem_of_getElem? h2)
    have h0 : ¬ m.getD k 0 = 0 := by omega
    rw [fn25_L1, u_loop tbl Y 0 s hg]
    by_cases c : IntKind.wrap .i64 ((IntKind.wrap .i64 (999999999999999 - l.getD k 0)).tdiv (m.getD k 0)) < q
    · have hj : ¬ (jn l m (k + 1) q).2 = 0 := by simp only [jn, c, if_true]; decide
      simp only [hj, if_false]
      simp only [fn25_B1, fn25_P9, fn25_D9, fn25_P16, fn25_D16, fn25_P18, fn25_D18, h1, h2, h0, c, go_sem, Nat.reduceBEq, Nat.reduceEqDiff, Nat.reduceLT, Nat.reduceLeDiff, Nat.reduceAdd, Nat.reduceMul, Nat.reduceSub, Nat.reduceDiv, Int.reduceLT, Int.reduceLE, Int.reduceToNat, Int.reduceNeg, Int.reduceSub, Int.reduceAdd, reduceIte, reduceCtorEq]
      exact ⟨_, rfl, by simp only [go_sem, Nat.reduceBEq, Nat.reduceEqDiff, Nat.reduceLT, Nat.reduceLeDiff, Nat.reduceAdd, Nat.reduceMul, Nat.reduceSub, Nat.reduceDiv, Int.reduceLT, Int.reduceLE, Int.reduceToNat, Int.reduceNeg, Int.reduceSub, Int.reduceAdd, reduceIte, reduceCtorEq], by simp only [go_sem, Nat.reduceBEq, Nat.reduceEqDiff, Nat.reduceLT, Nat.reduceLeDiff, Nat.reduceAdd, Nat.reduceMul, Nat.reduceSub, Nat.reduceDiv, Int.reduceLT, Int.reduceLE, Int.reduceToNat, Int.reduceNeg, Int.reduceSub, Int.reduceAdd, reduceIte, reduceCtorEq]⟩
    · have hj : jn l m (k + 1) q = jn l m k (IntKind.wrap .i64 (IntKind.wrap .i64 (q * m.getD k 0) + l.getD k 0)) := by simp only [jn, c, if_false]
      rw [hj]
      simp only [fn25_B1, fn25_P9, fn25_D9, fn25_P16, fn25_D16, fn25_P18, fn25_D18, h1, h2, h0, c, pred64 (show k < 1000000000 by omega), go_sem, Nat.reduceBEq, Nat.reduceEqDiff, Nat.reduceLT, Nat.reduceLeDiff, Nat.reduceAdd, Nat.reduceMul, Nat.reduceSub, Nat.reduceDiv, Int.reduceLT, Int.reduceLE, Int.reduceToNat, Int.reduceNeg, Int.reduceSub, Int.reduceAdd, reduceIte, reduceCtorEq]
      exact ih _ _ _ (by omega) rfl (by simp only [go_sem, Nat.reduceBEq, Nat.reduceEqDiff, Nat.reduceLT, Nat.reduceLeDiff, Nat.reduceAdd, Nat.reduceMul, Nat.reduceSub, Nat.reduceDiv, Int.reduceLT, Int.reduceLE, Int.reduceToNat, Int.reduceNeg, Int.reduceSub, Int.reduceAdd, reduceIte, reduceCtorEq])

theorem s25 (l m : List Int) (q : Int) (hlen : l.length ≤ 1000) (hlen2 : m.length ≤ 1000) : (EL tbl).call 25 [Vl l, Vl m, Vi q] [] = some (.p (.tuple (joinOf (chk m) l m q)), []) := by
  have h45 := s45 m hlen2
  rw [call_fn' tbl (show tbl 25 = some fn25 from rfl) _ _ (Nat.le_of_ble_eq_true rfl)]
  unfold joinOf
  by_cases h1 : chk m = 0
  · rw [if_pos h1]
    rw [h1] at h45
    by_cases he : (l.length : Int) = m.length
    · have he' : l.length = m.length := by omega
      obtain ⟨fr, h⟩ := L25 (q := q) hlen2 he' noY () l m 0 ⟨⟨80, [(0, Vl l), (1, Vl m), (2, Vi q), (8, Vi 0), (9, Vi (0 : Nat)), (14, Vb false), (20, Vb false)]⟩, []⟩ (by simp) (by simp) (by omega) (by simp only [go_sem, Nat.reduceBEq, Nat.reduceEqDiff, Nat.reduceLT, Nat.reduceLeDiff, Nat.reduceAdd, Nat.reduceMul, Nat.reduceSub, Nat.reduceDiv, Int.reduceLT, Int.reduceLE, Int.reduceToNat, Int.reduceNeg, Int.reduceSub, Int.reduceAdd, reduceIte, reduceCtorEq])
      simp only [Int.natCast_zero] at h
      have hb : ((l.length : Int) != (m.length : Int)) = false := by simp; omega
      rw [if_pos he]
      cases hbad : bad l m with
      | true =>
        simp only [hbad, if_true] at h
        simp only [h.1, h.2.1, h.2.2, h45, bne_self_eq_false, hb, fn25, fn25_P9, fn25_D9, fn25_P16, fn25_D16, fn25_P18, fn25_D18, gc, gcIdx, range1, range2, range3, range4, range5, List.filter_cons, List.idxOf?_cons, List.idxOf?_nil, List.getD_cons_zero, List.getD_cons_succ, List.getD_nil, List.contains_cons, List.contains_nil, List.elem_nil, Nat.reduceBEq, Bool.or_false, Bool.or_true, Bool.true_or, Bool.false_or, back, rangeIn, go_sem, Nat.reduceBEq, Nat.reduceEqDiff, Nat.reduceLT, Nat.reduceLeDiff, Nat.reduceAdd, Nat.reduceMul, Nat.reduceSub, Nat.reduceDiv, Int.reduceLT, Int.reduceLE, Int.reduceToNat, Int.reduceNeg, Int.reduceSub, Int.reduceAdd, reduceIte, reduceCtorEq]
      | false =>
        simp only [hbad, Bool.false_eq_true, if_false] at h
        rw [if_neg (by decide)]
        by_cases c1 : q < 0
        · rw [if_pos c1]
          simp only [c1, h45, bne_self_eq_false, hb, h, fn25, fn25_P9, fn25_D9, fn25_P16, fn25_D16, fn25_P18, fn25_D18, gc, gcIdx, range1, range2, range3, range4, range5, List.filter_cons, List.idxOf?_cons, List.idxOf?_nil, List.getD_cons_zero, List.getD_cons_succ, List.getD_nil, List.contains_cons, List.contains_nil, List.elem_nil, Nat.reduceBEq, Bool.or_false, Bool.or_true, Bool.true_or, Bool.false_or, back, rangeIn, go_sem, Nat.reduceBEq, Nat.reduceEqDiff, Nat.reduceLT, Nat.reduceLeDiff, Nat.reduceAdd, Nat.reduceMul, Nat.reduceSub, Nat.reduceDiv, Int.reduceLT, Int.reduceLE, Int.reduceToNat, Int.reduceNeg, Int.reduceSub, Int.reduceAdd, reduceIte, reduceCtorEq]
        · rw [if_neg c1]
          by_cases c2 : 999999999999999 < q
          · rw [if_pos c2]
            have c3 : 1000000000000000 ≤ q := by omega
            simp only [c1, c3, h45, bne_self_eq_false, hb, h, fn25, fn25_P9, fn25_D9, fn25_P16, fn25_D16, fn25_P18, fn25_D18, gc, gcIdx, range1, range2, range3, range4, range5, List.filter_cons, List.idxOf?_cons, List.idxOf?_nil, List.getD_cons_zero, List.getD_cons_succ, List.getD_nil, List.contains_cons, List.contains_nil, List.elem_nil, Nat.reduceBEq, Bool.or_false, Bool.or_true, Bool.true_or, Bool.false_or, back, rangeIn, go_sem, Nat.reduceBEq, Nat.reduceEqDiff, Nat.reduceLT, Nat.reduceLeDiff, Nat.reduceAdd, Nat.reduceMul, Nat.reduceSub, Nat.reduceDiv, Int.reduceLT, Int.reduceLE, Int.reduceToNat, Int.reduceNeg, Int.reduceSub, Int.reduceAdd, reduceIte, reduceCtorEq]
          · rw [if_neg c2]
            have c3 : ¬ 1000000000000000 ≤ q := by omega
            obtain ⟨fr, g⟩ := M25 hlen he' (chk_ok h1) noY () l.length ((l.length : Int) - 1) q ⟨⟨80, [(0, Vl l), (1, Vl m), (2, Vi q), (9, Vi m.length), (10, Vi ((m.length : Int) - 1)), (24, Vb false), (48, Vb false)]⟩, []⟩ (by omega) rfl (by simp only [he, go_sem, Nat.reduceBEq, Nat.reduceEqDiff, Nat.reduceLT, Nat.reduceLeDiff, Nat.reduceAdd, Nat.reduceMul, Nat.reduceSub, Nat.reduceDiv, Int.reduceLT, Int.reduceLE, Int.reduceToNat, Int.reduceNeg, Int.reduceSub, Int.reduceAdd, reduceIte, reduceCtorEq])
            rcases jn_two l m l.length q with hj | hj
            · simp only [hj, if_true] at g
              simp only [c1, c3, h45, bne_self_eq_false, hb, h, g, hj, pred64 (show m.length < 1000000000 by omega), fn25, fn25_P9, fn25_D9, fn25_P16, fn25_D16, fn25_P18, fn25_D18, gc, gcIdx, range1, range2, range3, range4, range5, List.filter_cons, List.idxOf?_cons, List.idxOf?_nil, List.getD_cons_zero, List.getD_cons_succ, List.getD_nil, List.contains_cons, List.contains_nil, List.elem_nil, Nat.reduceBEq, Bool.or_false, Bool.or_true, Bool.true_or, Bool.false_or, back, rangeIn, go_sem, Nat.reduceBEq, Nat.reduceEqDiff, Nat.reduceLT, Nat.reduceLeDiff, Nat.reduceAdd, Nat.reduceMul, Nat.reduceSub, Nat.reduceDiv, Int.reduceLT, Int.reduceLE, Int.reduceToNat, Int.reduceNeg, Int.reduceSub, Int.reduceAdd, reduceIte, reduceCtorEq]
            · have hn : ¬ (jn l m l.length q).2 = 0 := by rw [hj]; decide
              simp only [hn, if_false] at g
              simp only [c1, c3, h45, bne_self_eq_false, hb, h, g.1, g.2.1, g.2.2, hj, pred64 (show m.length < 1000000000 by omega), fn25, fn25_P9, fn25_D9, fn25_P16, fn25_D16, fn25_P18, fn25_D18, gc, gcIdx, range1, range2, range3, range4, range5, List.filter_cons, List.idxOf?_cons, List.idxOf?_nil, List.getD_cons_zero, List.getD_cons_succ, List.getD_nil, List.contains_cons, List.contains_nil, List.elem_nil, Nat.reduceBEq, Bool.or_false, Bool.or_true, Bool.true_or, Bool.false_or, back, rangeIn, go_sem, Nat.reduceBEq, Nat.reduceEqDiff, Nat.reduceLT, Nat.reduceLeDiff, Nat.reduceAdd, Nat.reduceMul, Nat.reduceSub, Nat.reduceDiv, Int.reduceLT, Int.reduceLE, Int.reduceToNat, Int.reduceNeg, Int.reduceSub, Int.reduceAdd, reduceIte, reduceCtorEq]
    · have hb : ((l.length : Int) != (m.length : Int)) = true := by simp; omega
      rw [if_neg he]
      simp only [h45, hb, bne_self_eq_false, fn25, fn25_P9, fn25_D9, fn25_P16, fn25_D16, fn25_P18, fn25_D18, gc, gcIdx, range1, range2, range3, range4, range5, List.filter_cons, List.idxOf?_cons, List.idxOf?_nil, List.getD_cons_zero, List.getD_cons_succ, List.getD_nil, List.contains_cons, List.contains_nil, List.elem_nil, Nat.reduceBEq, Bool.or_false, Bool.or_true, Bool.true_or, Bool.false_or, back, rangeIn, go_sem, Nat.reduceBEq, Nat.reduceEqDiff, Nat.reduceLT, Nat.reduceLeDiff, Nat.reduceAdd, Nat.reduceMul, Nat.reduceSub, Nat.reduceDiv, Int.reduceLT, Int.reduceLE, Int.reduceToNat, Int.reduceNeg, Int.reduceSub, Int.reduceAdd, reduceIte, reduceCtorEq]
  · have : (chk m != 0) = true := by simp [h1]
    rw [if_neg h1]
    simp only [h45, this, fn25, fn25_P9, fn25_D9, fn25_P16, fn25_D16, fn25_P18, fn25_D18, gc, gcIdx, range1, range2, range3, range4, range5, List.filter_cons, List.idxOf?_cons, List.idxOf?_nil, List.getD_cons_zero, List.getD_cons_succ, List.getD_nil, List.contains_cons, List.contains_nil, List.elem_nil, Nat.reduceBEq, Bool.or_false, Bool.or_true, Bool.true_or, Bool.false_or, back, rangeIn, go_sem, Nat.reduceBEq, Nat.reduceEqDiff, Nat.reduceLT, Nat.reduceLeDiff, Nat.reduceAdd, Nat.reduceMul, Nat.reduceSub, Nat.reduceDiv, Int.reduceLT, Int.reduceLE, Int.reduceToNat, Int.reduceNeg, Int.reduceSub, Int.reduceAdd, reduceIte, reduceCtorEq]
end Go.Am
