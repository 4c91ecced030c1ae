/- What some functions of this seat answer, part 1. No condition. -/
import Derived.Test.YtdhfhbmfdjnnjaaSp0
import Derived.Test.YtdhfhbmfdjnnjaaAmE
namespace Go.Am
open Go
set_option linter.unusedSimpArgs false
set_option linter.unusedVariables false
set_option maxRecDepth 100000
open Go.Proofs.Ytdhfhbmfdjnnjaa.Fns

/-! ### Preorder -/

def ordS (F : List Nd → Int → Option (List Nd × Nat)) (at_ : Int) (len : Nat) (s : List Nd × Nat) (to : Int) : Option (List Nd × Nat) :=
  if to = at_ + (len : Int) - (s.1.length : Int) then (F s.1 to).map fun q => (q.1, max s.2 (q.2 + 1)) else none
def foldO (F : List Nd → Int → Option (List Nd × Nat)) (at_ : Int) (len : Nat) : List Int → List Nd × Nat → Option (List Nd × Nat)
  | [], s => some s
  | to :: r, s => match ordS F at_ len s to with | none => none | some s' => foldO F at_ len r s'
def ordN : Nat → List Nd → Int → Option (List Nd × Nat)
  | f + 1, x :: l, at_ => foldO (ordN f) at_ (l.length + 1) x.next (l, 0)
  | _, _, _ => none

def OkO (l : List Nd) (s : List Nd × Nat) : Prop := s.1.length + s.2 ≤ l.length ∧ ∃ k, s.1 = l.drop k

theorem foldO_ok {F : List Nd → Int → Option (List Nd × Nat)} (hF : ∀ l a s, F l a = some s → s.1.length + s.2 + 1 ≤ l.length ∧ ∃ k, s.1 = l.drop k) {at_ : Int} {len : Nat} {l : List Nd} : ∀ (r : List Int) (s s' : List Nd × Nat), OkO l s → foldO F at_ len r s = some s' → OkO l s'
  | [], s, s', h, e => by simp only [foldO, Option.some.injEq] at e; subst e; exact h
  | to :: r, s, s', h, e => by
    simp only [foldO, ordS] at e
    split at e
    · cases e
    · rename_i s1 h1
      split at h1
      · cases hq : F s.1 to with
        | none => rw [hq] at h1; cases h1
        | some q =>
          rw [hq] at h1
          simp only [Option.map_some, Option.some.injEq] at h1
          subst h1
          obtain ⟨q1, k, q2⟩ := hF _ _ _ hq
          obtain ⟨h2, j, h3⟩ := h
          refine foldO_ok hF r _ s' ⟨?_, j + k, ?_⟩ e
          · simp only; omega
          · simp only [q2, h3, List.drop_drop]
      · cases h1

theorem ordN_ok : ∀ (f : Nat) (l : List Nd) (at_ : Int) (s : List Nd × Nat), ordN f l at_ = some s → s.1.length + s.2 + 1 ≤ l.length ∧ ∃ k, s.1 = l.drop k
  | 0, l, at_, s, h => by cases l <;> simp [ordN] at h
  | f + 1, [], at_, s, h => by simp [ordN] at h
  | f + 1, x :: l, at_, s, h => by
    simp only [ordN] at h
    obtain ⟨h1, k, h2⟩ := foldO_ok (ordN_ok f) (l := l) x.next (l, 0) s ⟨by simp, 0, by simp⟩ h
    exact ⟨by simp; omega, k + 1, by simp [h2]⟩

def ordP : Option (List Nd × Nat) → List P
  | none => [.sl 6 [], Pi 0, Pb false]
  | some s => [.sl 6 (s.1.map Pn), Pi (s.2 : Nat), Pb true]

section
variable {g : Gm}

set_option maxHeartbeats 4000000 in
theorem L51 {f : Nat} {x : Nd} {l : List Nd} {at_ : Int} (ha : 0 ≤ at_) (ha2 : at_ + ((l.length + 1 : Nat) : Int) ≤ 5000) (hx : x.next.length ≤ 2000000)
    (ih51 : ∀ (l' : List Nd) (a : Int), (∃ k, l' = l.drop k) → 0 ≤ a → a + (l'.length : Int) ≤ 5000 → (EL tbl).call 51 [Vg g, .p (.sl 6 (l'.map Pn)), Vi a] [] = some (.p (.tuple (ordP (ordN f l' a))), []))
    {σ : Type} (Y : List P → σ → Option (Bool × σ)) (z : σ) : ∀ (r : List Int) (k : Nat) (s : List Nd × Nat) (st : St), x.next.drop k = r → k ≤ x.next.length → OkO l s →
    gc 0 (liftAll [] ⟨keepOnly [1, 2, 3, 6, 7, 22, 23, 24] st.fr, st.mem⟩) = some ⟨⟨54, [(1, .p (.sl 6 ((x :: l).map Pn))), (2, Vi at_), (3, .ptr 0 0), (6, .p (.sl 6 (s.1.map Pn))), (7, Vi (s.2 : Nat)), (22, Vl x.next), (23, Vi x.next.length), (24, Vi k)]⟩, [Cg g]⟩ →
    match foldO (ordN f) at_ (l.length + 1) r s with
    | none => ∃ fr, U tbl Y 0 fn51_L0 st z = some (.ret, ⟨fr, [Cg g]⟩, z) ∧ getF fr.l 6 = .nil 6 ∧ getF fr.l 7 = Vi 0 ∧ getF fr.l 8 = Vb false
    | some s' => U tbl Y 0 fn51_L0 st z = some (.exit 0, ⟨⟨54, [(1, .p (.sl 6 ((x :: l).map Pn))), (2, Vi at_), (3, .ptr 0 0), (6, .p (.sl 6 (s'.1.map Pn))), (7, Vi (s'.2 : Nat)), (22, Vl x.next), (23, Vi x.next.length), (24, Vi x.next.length), (25, Vb false)]⟩, [Cg g]⟩, z) := by
  intro r
  induction r with
  | nil =>
    intro k s st hd hk hs hg
    have e : k = x.next.length := by have := drop_nil_facts hd; omega
    subst e
    simp only [foldO]
    rw [fn51_L0, u_loop tbl Y 0 z hg]
    simp only [fn51_B0, natnlt (Nat.le_refl x.next.length), go_sem, Nat.reduceBEq, Nat.reduceEqDiff, Nat.reduceLT, Nat.reduceLeDiff, Nat.reduceAdd, Nat.reduceMul, Nat.reduceSub, Nat.reduceDiv, Int.reduceLT, Int.reduceLE, Int.reduceToNat, Int.reduceNeg, Int.reduceSub, Int.reduceAdd, reduceIte, reduceCtorEq]
  | cons to r ih =>
    intro k s st hd hk hs hg
    obtain ⟨h1, h2, h3⟩ := drop_cons_facts hd
    have hsl := hs.1
    have hw1 : IntKind.wrap .i64 (at_ + ((l.length + 1 : Nat) : Int)) = at_ + ((l.length + 1 : Nat) : Int) := wrap64 (by omega) (by omega)
    have hw2 : IntKind.wrap .i64 (at_ + ((l.length + 1 : Nat) : Int) - (s.1.length : Int)) = at_ + ((l.length + 1 : Nat) : Int) - (s.1.length : Int) := wrap64 (by omega) (by omega)
    simp only [foldO, ordS]
    by_cases hto : to = at_ + ((l.length + 1 : Nat) : Int) - (s.1.length : Int)
    · have e51 := ih51 s.1 to hs.2 (by omega) (by omega)
      have hb : (to != at_ + ((l.length + 1 : Nat) : Int) - (s.1.length : Int)) = false := by simp only [bne_eq_false_iff_eq]; exact hto
      rw [if_pos hto]
      cases hq : ordN f s.1 to with
      | none =>
        rw [hq] at e51
        simp only [ordP] at e51
        simp only [Option.map_none]
        rw [fn51_L0, u_loop tbl Y 0 z hg]
        simp only [fn51_B0, natlt h2, h1, hw1, hw2, hb, e51, gc, gcIdx, range1, range2, range3, range4, range5, List.filter_cons, List.idxOf?_cons, List.idxOf?_nil, List.getD_cons_zero, List.getD_cons_succ, List.getD_nil, List.contains_cons, List.contains_nil, List.elem_nil, Nat.reduceBEq, Bool.or_false, Bool.or_true, Bool.true_or, Bool.false_or, back, rangeIn, go_sem, Nat.reduceBEq, Nat.reduceEqDiff, Nat.reduceLT, Nat.reduceLeDiff, Nat.reduceAdd, Nat.reduceMul, Nat.reduceSub, Nat.reduceDiv, Int.reduceLT, Int.reduceLE, Int.reduceToNat, Int.reduceNeg, Int.reduceSub, Int.reduceAdd, reduceIte, reduceCtorEq]
        exact ⟨_, rfl, by simp only [go_sem, Nat.reduceBEq, Nat.reduceEqDiff, Nat.reduceLT, Nat.reduceLeDiff, Nat.reduceAdd, Nat.reduceMul, Nat.reduceSub, Nat.reduceDiv, Int.reduceLT, Int.reduceLE, Int.reduceToNat, Int.reduceNeg, Int.reduceSub, Int.reduceAdd, reduceIte, reduceCtorEq], by simp only [go_sem, Nat.reduceBEq, Nat.reduceEqDiff, Nat.reduceLT, Nat.reduceLeDiff, Nat.reduceAdd, Nat.reduceMul, Nat.reduceSub, Nat.reduceDiv, Int.reduceLT, Int.reduceLE, Int.reduceToNat, Int.reduceNeg, Int.reduceSub, Int.reduceAdd, reduceIte, reduceCtorEq], by simp only [go_sem, Nat.reduceBEq, Nat.reduceEqDiff, Nat.reduceLT, Nat.reduceLeDiff, Nat.reduceAdd, Nat.reduceMul, Nat.reduceSub, Nat.reduceDiv, Int.reduceLT, Int.reduceLE, Int.reduceToNat, Int.reduceNeg, Int.reduceSub, Int.reduceAdd, reduceIte, reduceCtorEq]⟩
      | some q =>
        rw [hq] at e51
        simp only [ordP] at e51
        simp only [Option.map_some]
        obtain ⟨q1, q2⟩ := ordN_ok _ _ _ _ hq
        have hw3 : IntKind.wrap .i64 ((q.2 : Int) + 1) = ((q.2 + 1 : Nat) : Int) := succ64 (by omega)
        have hmx : (if (s.2 : Int) < ((q.2 + 1 : Nat) : Int) then ((q.2 + 1 : Nat) : Int) else (s.2 : Int)) = ((max s.2 (q.2 + 1) : Nat) : Int) := by split <;> omega
        have hs' : OkO l (q.1, max s.2 (q.2 + 1)) := by
          obtain ⟨j, e1⟩ := hs.2
          obtain ⟨i, e2⟩ := q2
          exact ⟨by simp only; omega, j + i, by simp only [e2, e1, List.drop_drop]⟩
        rw [fn51_L0, u_loop tbl Y 0 z hg]
        simp only [fn51_B0, natlt h2, h1, hw1, hw2, hw3, hb, e51, succ64 (show k < 9223372036854775807 by omega), gc, gcIdx, range1, range2, range3, range4, range5, List.filter_cons, List.idxOf?_cons, List.idxOf?_nil, List.getD_cons_zero, List.getD_cons_succ, List.getD_nil, List.contains_cons, List.contains_nil, List.elem_nil, Nat.reduceBEq, Bool.or_false, Bool.or_true, Bool.true_or, Bool.false_or, back, rangeIn, go_sem, Nat.reduceBEq, Nat.reduceEqDiff, Nat.reduceLT, Nat.reduceLeDiff, Nat.reduceAdd, Nat.reduceMul, Nat.reduceSub, Nat.reduceDiv, Int.reduceLT, Int.reduceLE, Int.reduceToNat, Int.reduceNeg, Int.reduceSub, Int.reduceAdd, reduceIte, reduceCtorEq]
        exact ih (k + 1) (q.1, max s.2 (q.2 + 1)) _ h3 (by omega) hs' (by simp only [hmx, gc, gcIdx, range1, range2, range3, range4, range5, List.filter_cons, List.idxOf?_cons, List.idxOf?_nil, List.getD_cons_zero, List.getD_cons_succ, List.getD_nil, List.contains_cons, List.contains_nil, List.elem_nil, Nat.reduceBEq, Bool.or_false, Bool.or_true, Bool.true_or, Bool.false_or, back, rangeIn, go_sem, Nat.reduceBEq, Nat.reduceEqDiff, Nat.reduceLT, Nat.reduceLeDiff, Nat.reduceAdd, Nat.reduceMul, Nat.reduceSub, Nat.reduceDiv, Int.reduceLT, Int.reduceLE, Int.reduceToNat, Int.reduceNeg, Int.reduceSub, Int.reduceAdd, reduceIte, reduceCtorEq])
    · have hb : (to != at_ + ((l.length + 1 : Nat) : Int) - (s.1.length : Int)) = true := by simp only [bne_iff_ne, ne_eq]; exact hto
      rw [if_neg hto]
      simp only
      rw [fn51_L0, u_loop tbl Y 0 z hg]
      simp only [fn51_B0, natlt h2, h1, hw1, hw2, hb, gc, gcIdx, range1, range2, range3, range4, range5, List.filter_cons, List.idxOf?_cons, List.idxOf?_nil, List.getD_cons_zero, List.getD_cons_succ, List.getD_nil, List.contains_cons, List.contains_nil, List.elem_nil, Nat.reduceBEq, Bool.or_false, Bool.or_true, Bool.true_or, Bool.false_or, back, rangeIn, go_sem, Nat.reduceBEq, Nat.reduceEqDiff, Nat.reduceLT, Nat.reduceLeDiff, Nat.reduceAdd, Nat.reduceMul, Nat.reduceSub, Nat.reduceDiv, Int.reduceLT, Int.reduceLE, Int.reduceToNat, Int.reduceNeg, Int.reduceSub, Int.reduceAdd, reduceIte, reduceCtorEq]
      exact ⟨_, rfl, by simp only [go_sem, Nat.reduceBEq, Nat.reduceEqDiff, Nat.reduceLT, Nat.reduceLeDiff, Nat.reduceAdd, Nat.reduceMul, Nat.reduceSub, Nat.reduceDiv, Int.reduceLT, Int.reduceLE, Int.reduceToNat, Int.reduceNeg, Int.reduceSub, Int.reduceAdd, reduceIte, reduceCtorEq], by simp only [go_sem, Nat.reduceBEq, Nat.reduceEqDiff, Nat.reduceLT, Nat.reduceLeDiff, Nat.reduceAdd, Nat.reduceMul, Nat.reduceSub, Nat.reduceDiv, Int.reduceLT, Int.reduceLE, Int.reduceToNat, Int.reduceNeg, Int.reduceSub, Int.reduceAdd, reduceIte, reduceCtorEq], by simp only [go_sem, Nat.reduceBEq, Nat.reduceEqDiff, Nat.reduceLT, Nat.reduceLeDiff, Nat.reduceAdd, Nat.reduceMul, Nat.reduceSub, Nat.reduceDiv, Int.reduceLT, Int.reduceLE, Int.reduceToNat, Int.reduceNeg, Int.reduceSub, Int.reduceAdd, reduceIte, reduceCtorEq]⟩

set_option maxHeartbeats 4000000 in
theorem s51 : ∀ (f : Nat) (L : List Nd) (at_ : Int), L.length ≤ f → 0 ≤ at_ → at_ + (L.length : Int) ≤ 5000 → (∀ x ∈ L, x.next.length ≤ 2000000) → (EL tbl).call 51 [Vg g, .p (.sl 6 (L.map Pn)), Vi at_] [] = some (.p (.tuple (ordP (ordN f L at_))), [])
  | f, [], at_, hf, ha, ha2, hx => by
    have e : ordN f [] at_ = none := by cases f <;> rfl
    rw [e]
    rw [call_fn' tbl (show tbl 51 = some fn51 from rfl) _ _ (Nat.le_of_ble_eq_true rfl)]
    simp only [fn51, ordP, Int.natCast_zero, beq_self_eq_true, gc, gcIdx, range1, range2, range3, range4, range5, List.filter_cons, List.idxOf?_cons, List.idxOf?_nil, List.getD_cons_zero, List.getD_cons_succ, List.getD_nil, List.contains_cons, List.contains_nil, List.elem_nil, Nat.reduceBEq, Bool.or_false, Bool.or_true, Bool.true_or, Bool.false_or, back, rangeIn, go_sem, Nat.reduceBEq, Nat.reduceEqDiff, Nat.reduceLT, Nat.reduceLeDiff, Nat.reduceAdd, Nat.reduceMul, Nat.reduceSub, Nat.reduceDiv, Int.reduceLT, Int.reduceLE, Int.reduceToNat, Int.reduceNeg, Int.reduceSub, Int.reduceAdd, reduceIte, reduceCtorEq]
  | f + 1, x :: l, at_, hf, ha, ha2, hx => by
    have hl : l.length ≤ f := by simpa using hf
    have hL := L51 (g := g) (f := f) (x := x) (l := l) (at_ := at_) ha (by simpa using ha2) (hx x (by simp)) (fun l' a h1 h2 h3 => by
        obtain ⟨k, rfl⟩ := h1
        exact s51 f (l.drop k) a (by simp; omega) h2 h3 fun y hy => hx y (by simp [List.mem_of_mem_drop hy]))
      noY () x.next 0 (l, 0) ⟨⟨54, [(1, .p (.sl 6 ((x :: l).map Pn))), (2, Vi at_), (3, .ptr 0 0), (6, .p (.sl 6 (l.map Pn))), (7, Vi (0 : Nat)), (15, Vb false), (22, Vl x.next), (23, Vi x.next.length), (24, Vi (0 : Nat))]⟩, [Cg g, Cn x]⟩ (by simp) (by simp) ⟨by simp, 0, by simp⟩ (by simp only [gc, gcIdx, range1, range2, range3, range4, range5, List.filter_cons, List.idxOf?_cons, List.idxOf?_nil, List.getD_cons_zero, List.getD_cons_succ, List.getD_nil, List.contains_cons, List.contains_nil, List.elem_nil, Nat.reduceBEq, Bool.or_false, Bool.or_true, Bool.true_or, Bool.false_or, back, rangeIn, go_sem, Nat.reduceBEq, Nat.reduceEqDiff, Nat.reduceLT, Nat.reduceLeDiff, Nat.reduceAdd, Nat.reduceMul, Nat.reduceSub, Nat.reduceDiv, Int.reduceLT, Int.reduceLE, Int.reduceToNat, Int.reduceNeg, Int.reduceSub, Int.reduceAdd, reduceIte, reduceCtorEq])
    have htk : (l.map Pn).take l.length = l.map Pn := List.take_of_length_le (by simp)
    simp only [ordN]
    have hne : (((l.length + 1 : Nat) : Int) == 0) = false := by simp; omega
    rw [call_fn' tbl (show tbl 51 = some fn51 from rfl) _ _ (Nat.le_of_ble_eq_true rfl)]
    cases hq : foldO (ordN f) at_ (l.length + 1) x.next (l, 0) with
    | none =>
      rw [hq] at hL
      obtain ⟨fr, h1, h2, h3, h4⟩ := hL
      simp only [Int.natCast_zero, List.map_cons] at h1
      simp only [fn51, ordP, hne, htk, h1, h2, h3, h4, gc, gcIdx, range1, range2, range3, range4, range5, List.filter_cons, List.idxOf?_cons, List.idxOf?_nil, List.getD_cons_zero, List.getD_cons_succ, List.getD_nil, List.contains_cons, List.contains_nil, List.elem_nil, Nat.reduceBEq, Bool.or_false, Bool.or_true, Bool.true_or, Bool.false_or, back, rangeIn, go_sem, Nat.reduceBEq, Nat.reduceEqDiff, Nat.reduceLT, Nat.reduceLeDiff, Nat.reduceAdd, Nat.reduceMul, Nat.reduceSub, Nat.reduceDiv, Int.reduceLT, Int.reduceLE, Int.reduceToNat, Int.reduceNeg, Int.reduceSub, Int.reduceAdd, reduceIte, reduceCtorEq]
    | some s =>
      rw [hq] at hL
      simp only [Int.natCast_zero, List.map_cons] at hL
      simp only [fn51, ordP, hne, htk, hL, gc, gcIdx, range1, range2, range3, range4, range5, List.filter_cons, List.idxOf?_cons, List.idxOf?_nil, List.getD_cons_zero, List.getD_cons_succ, List.getD_nil, List.contains_cons, List.contains_nil, List.elem_nil, Nat.reduceBEq, Bool.or_false, Bool.or_true, Bool.true_or, Bool.false_or, back, rangeIn, go_sem, Nat.reduceBEq, Nat.reduceEqDiff, Nat.reduceLT, Nat.reduceLeDiff, Nat.reduceAdd, Nat.reduceMul, Nat.reduceSub, Nat.reduceDiv, Int.reduceLT, Int.reduceLE, Int.reduceToNat, Int.reduceNeg, Int.reduceSub, Int.reduceAdd, reduceIte, reduceCtorEq]
  | 0, x :: l, at_, hf, ha, ha2, hx => by simp at hf

/-! ### The same, by numbers of nodes -/

theorem drop_le {f : Nat} {l : List Nd} {at_ : Int} {s : List Nd × Nat} (h : ordN f l at_ = some s) : s.1.length < l.length := by
  have := (ordN_ok _ _ _ _ h).1; omega

theorem foldO_mono {F : List Nd → Int → Option (List Nd × Nat)} {at_ : Int} {len : Nat} : ∀ (r : List Int) (s s' : List Nd × Nat), foldO F at_ len r s = some s' → s.2 ≤ s'.2
  | [], s, s', e => by simp only [foldO, Option.some.injEq] at e; subst e; omega
  | to :: r, s, s', e => by
    simp only [foldO, ordS] at e
    split at e
    · cases e
    · rename_i s1 h1
      split at h1
      · cases hq : F s.1 to with
        | none => rw [hq] at h1; cases h1
        | some q =>
          rw [hq] at h1
          simp only [Option.map_some, Option.some.injEq] at h1
          subst h1
          have := foldO_mono r _ s' e
          simp only at this
          omega
      · cases h1

theorem drop_back {l m : List Nd} {j : Nat} (h : m = l.drop j) : m = l.drop (l.length - m.length) := by
  have e : m.length = l.length - j := by rw [h]; simp
  by_cases hj : j ≤ l.length
  · rw [show l.length - m.length = j by omega]; exact h
  · rw [h, List.drop_eq_nil_of_le (by omega), List.drop_eq_nil_of_le (by simp)]

set_option maxHeartbeats 4000000 in
theorem L59 {f at_ : Nat} {x : Nd} {l : List Nd} {dp : Int} (hx0 : g.nodes.drop at_ = x :: l) (hn : g.nodes.length ≤ 5000) (hdp : 0 ≤ dp ∧ dp + (l.length : Int) + 1 ≤ 10000) (hx : x.next.length ≤ 2000000)
    (ih59 : ∀ (a : Nat) (d dd : Int), at_ < a → (∃ k, g.nodes.drop a = l.drop k) → 0 ≤ dd → dd + ((g.nodes.drop a).length : Int) ≤ 10000 → match ordN f (g.nodes.drop a) a with
      | none => ∃ d', (EL tbl).call 59 [Vg g, Vi a, Vi dd, .ptr 0 0] [.cells [Vi d]] = some (Vi (-1), [.cells [Vi d']])
      | some s => (EL tbl).call 59 [Vg g, Vi a, Vi dd, .ptr 0 0] [.cells [Vi d]] = some (Vi (g.nodes.length - s.1.length : Nat), [.cells [Vi (max d (dd + s.2))]]))
    {σ : Type} (Y : List P → σ → Option (Bool × σ)) (z : σ) : ∀ (r : List Int) (k : Nat) (s : List Nd × Nat) (d : Int) (st : St), x.next.drop k = r → k ≤ x.next.length → OkO l s → dp + s.2 ≤ d →
    gc 1 (liftAll [] ⟨keepOnly [1, 2, 3, 4, 9, 10] st.fr, st.mem⟩) = some ⟨⟨56, [(1, Vi at_), (2, Vi dp), (3, .ptr 0 0), (4, .ptr 1 0), (9, Vi (g.nodes.length - s.1.length : Nat)), (10, Vi k)]⟩, [.cells [Vi d], Cg g]⟩ →
    match foldO (ordN f) at_ (l.length + 1) r s with
    | none => ∃ fr d', U tbl Y 1 fn59_L0 st z = some (.ret, ⟨fr, [.cells [Vi d'], Cg g]⟩, z) ∧ getF fr.l 8 = Vi (-1)
    | some s' => U tbl Y 1 fn59_L0 st z = some (.exit 0, ⟨⟨56, [(1, Vi at_), (2, Vi dp), (3, .ptr 0 0), (4, .ptr 1 0), (9, Vi (g.nodes.length - s'.1.length : Nat)), (10, Vi x.next.length), (33, Vb false)]⟩, [.cells [Vi (max d (dp + s'.2))], Cg g]⟩, z) := by
  intro r
  have hxn : g.nodes[at_]? = some x := by
    have := congrArg List.head? hx0
    rw [List.head?_drop] at this
    simpa using this
  induction r with
  | nil =>
    intro k s d st hd hk hs hds hg
    have e : k = x.next.length := by have := drop_nil_facts hd; omega
    subst e
    have hmx : max d (dp + (s.2 : Int)) = d := by omega
    simp only [foldO, hmx]
    rw [fn59_L0, u_loop tbl Y 1 z hg]
    simp only [fn59_B0, hxn, natnlt (Nat.le_refl x.next.length), go_sem, Nat.reduceBEq, Nat.reduceEqDiff, Nat.reduceLT, Nat.reduceLeDiff, Nat.reduceAdd, Nat.reduceMul, Nat.reduceSub, Nat.reduceDiv, Int.reduceLT, Int.reduceLE, Int.reduceToNat, Int.reduceNeg, Int.reduceSub, Int.reduceAdd, reduceIte, reduceCtorEq]
  | cons to r ih =>
    intro k s d st hd hk hs hds hg
    obtain ⟨h1, h2, h3⟩ := drop_cons_facts hd
    have hsl := hs.1
    have hlen : g.nodes.length = at_ + (l.length + 1) := by
      have := congrArg List.length hx0
      simp at this
      omega
    obtain ⟨j, hj⟩ := hs.2
    have hl : l = g.nodes.drop (at_ + 1) := by
      have := congrArg List.tail hx0
      simpa [List.tail_drop] using this.symm
    have hs1 : s.1 = g.nodes.drop (at_ + 1 + j) := by rw [hj, hl, List.drop_drop]
    have ha : s.1 = g.nodes.drop (g.nodes.length - s.1.length) := drop_back hs1
    have hidx : ((g.nodes.length - s.1.length : Nat) : Int) = (at_ : Int) + ((l.length + 1 : Nat) : Int) - (s.1.length : Int) := by omega
    simp only [foldO, ordS]
    by_cases hto : to = (at_ : Int) + ((l.length + 1 : Nat) : Int) - (s.1.length : Int)
    · have hb : (to != ((g.nodes.length - s.1.length : Nat) : Int)) = false := by simp only [bne_eq_false_iff_eq]; omega
      have hw : IntKind.wrap .i64 (dp + 1) = dp + 1 := wrap64 (by omega) (by omega)
      have hi := ih59 (g.nodes.length - s.1.length) d (dp + 1) (by omega) ⟨j, by rw [← ha]; exact hj⟩ (by omega) (by rw [← ha]; omega)
      rw [← ha, hidx, ← hto] at hi
      rw [if_pos hto]
      cases hq : ordN f s.1 to with
      | none =>
        rw [hq] at hi
        obtain ⟨d', hi⟩ := hi
        rw [hto, ← hidx] at hi
        simp only [Option.map_none]
        rw [fn59_L0, u_loop tbl Y 1 z hg]
        simp only [fn59_B0, hxn, natlt h2, h1, hb, hw, hi, gc, gcIdx, range1, range2, range3, range4, range5, List.filter_cons, List.idxOf?_cons, List.idxOf?_nil, List.getD_cons_zero, List.getD_cons_succ, List.getD_nil, List.contains_cons, List.contains_nil, List.elem_nil, Nat.reduceBEq, Bool.or_false, Bool.or_true, Bool.true_or, Bool.false_or, back, rangeIn, go_sem, Nat.reduceBEq, Nat.reduceEqDiff, Nat.reduceLT, Nat.reduceLeDiff, Nat.reduceAdd, Nat.reduceMul, Nat.reduceSub, Nat.reduceDiv, Int.reduceLT, Int.reduceLE, Int.reduceToNat, Int.reduceNeg, Int.reduceSub, Int.reduceAdd, reduceIte, reduceCtorEq]
        exact ⟨_, _, rfl, by simp only [go_sem, Nat.reduceBEq, Nat.reduceEqDiff, Nat.reduceLT, Nat.reduceLeDiff, Nat.reduceAdd, Nat.reduceMul, Nat.reduceSub, Nat.reduceDiv, Int.reduceLT, Int.reduceLE, Int.reduceToNat, Int.reduceNeg, Int.reduceSub, Int.reduceAdd, reduceIte, reduceCtorEq]⟩
      | some q =>
        rw [hq] at hi
        simp only at hi
        rw [hto, ← hidx] at hi
        simp only [Option.map_some]
        obtain ⟨q1, i, q2⟩ := ordN_ok _ _ _ _ hq
        have hneg : ¬ ((g.nodes.length - q.1.length : Nat) : Int) < 0 := by omega
        have hs' : OkO l (q.1, max s.2 (q.2 + 1)) := ⟨by simp only; omega, j + i, by simp only [q2, hj, List.drop_drop]⟩
        have hstep : ∃ st1, U tbl Y 1 fn59_L0 st z = U tbl Y 1 fn59_L0 st1 z ∧ gc 1 (liftAll [] ⟨keepOnly [1, 2, 3, 4, 9, 10] st1.fr, st1.mem⟩) = some ⟨⟨56, [(1, Vi at_), (2, Vi dp), (3, .ptr 0 0), (4, .ptr 1 0), (9, Vi (g.nodes.length - q.1.length : Nat)), (10, Vi (k + 1 : Nat))]⟩, [.cells [Vi (max d (dp + 1 + q.2))], Cg g]⟩ := by
          rw [fn59_L0, u_loop tbl Y 1 z hg]
          simp only [fn59_B0, hxn, natlt h2, h1, hb, hw, hi, hneg, succ64 (show k < 9223372036854775807 by omega), gc, gcIdx, range1, range2, range3, range4, range5, List.filter_cons, List.idxOf?_cons, List.idxOf?_nil, List.getD_cons_zero, List.getD_cons_succ, List.getD_nil, List.contains_cons, List.contains_nil, List.elem_nil, Nat.reduceBEq, Bool.or_false, Bool.or_true, Bool.true_or, Bool.false_or, back, rangeIn, go_sem, Nat.reduceBEq, Nat.reduceEqDiff, Nat.reduceLT, Nat.reduceLeDiff, Nat.reduceAdd, Nat.reduceMul, Nat.reduceSub, Nat.reduceDiv, Int.reduceLT, Int.reduceLE, Int.reduceToNat, Int.reduceNeg, Int.reduceSub, Int.reduceAdd, reduceIte, reduceCtorEq]
          exact ⟨_, rfl, by simp only [gc, gcIdx, range1, range2, range3, range4, range5, List.filter_cons, List.idxOf?_cons, List.idxOf?_nil, List.getD_cons_zero, List.getD_cons_succ, List.getD_nil, List.contains_cons, List.contains_nil, List.elem_nil, Nat.reduceBEq, Bool.or_false, Bool.or_true, Bool.true_or, Bool.false_or, back, rangeIn, go_sem, Nat.reduceBEq, Nat.reduceEqDiff, Nat.reduceLT, Nat.reduceLeDiff, Nat.reduceAdd, Nat.reduceMul, Nat.reduceSub, Nat.reduceDiv, Int.reduceLT, Int.reduceLE, Int.reduceToNat, Int.reduceNeg, Int.reduceSub, Int.reduceAdd, reduceIte, reduceCtorEq]⟩
        obtain ⟨st1, e1, e2⟩ := hstep
        have := ih (k + 1) (q.1, max s.2 (q.2 + 1)) (max d (dp + 1 + q.2)) st1 h3 (by omega) hs' (by simp only; omega) e2
        rw [e1]
        cases hf : foldO (ordN f) at_ (l.length + 1) r (q.1, max s.2 (q.2 + 1)) with
        | none => rw [hf] at this; exact this
        | some s' =>
          rw [hf] at this
          have hm := foldO_mono r _ _ hf
          simp only at hm this ⊢
          rw [this, show max (max d (dp + 1 + q.2)) (dp + s'.2) = max d (dp + (s'.2 : Int)) by omega]
    · have hb : (to != ((g.nodes.length - s.1.length : Nat) : Int)) = true := by simp only [bne_iff_ne, ne_eq]; omega
      rw [if_neg hto]
      simp only
      rw [fn59_L0, u_loop tbl Y 1 z hg]
      simp only [fn59_B0, hxn, natlt h2, h1, hb, gc, gcIdx, range1, range2, range3, range4, range5, List.filter_cons, List.idxOf?_cons, List.idxOf?_nil, List.getD_cons_zero, List.getD_cons_succ, List.getD_nil, List.contains_cons, List.contains_nil, List.elem_nil, Nat.reduceBEq, Bool.or_false, Bool.or_true, Bool.true_or, Bool.false_or, back, rangeIn, go_sem, Nat.reduceBEq, Nat.reduceEqDiff, Nat.reduceLT, Nat.reduceLeDiff, Nat.reduceAdd, Nat.reduceMul, Nat.reduceSub, Nat.reduceDiv, Int.reduceLT, Int.reduceLE, Int.reduceToNat, Int.reduceNeg, Int.reduceSub, Int.reduceAdd, reduceIte, reduceCtorEq]
      exact ⟨_, _, rfl, by simp only [go_sem, Nat.reduceBEq, Nat.reduceEqDiff, Nat.reduceLT, Nat.reduceLeDiff, Nat.reduceAdd, Nat.reduceMul, Nat.reduceSub, Nat.reduceDiv, Int.reduceLT, Int.reduceLE, Int.reduceToNat, Int.reduceNeg, Int.reduceSub, Int.reduceAdd, reduceIte, reduceCtorEq]⟩
end
end Go.Am

namespace Go.Am
open Go
set_option linter.unusedSimpArgs false
set_option linter.unusedVariables false
set_option maxRecDepth 100000
open Go.Proofs.Ytdhfhbmfdjnnjaa.Fns

section
variable {g : Gm}
set_option maxHeartbeats 4000000 in
theorem s59 (hn : g.nodes.length ≤ 5000) (hx : ∀ x ∈ g.nodes, x.next.length ≤ 2000000) : ∀ (f a : Nat) (d dd : Int), (g.nodes.drop a).length ≤ f → 0 ≤ dd → dd + ((g.nodes.drop a).length : Int) ≤ 10000 → match ordN f (g.nodes.drop a) a with
      | none => ∃ d', (EL tbl).call 59 [Vg g, Vi a, Vi dd, .ptr 0 0] [.cells [Vi d]] = some (Vi (-1), [.cells [Vi d']])
      | some s => (EL tbl).call 59 [Vg g, Vi a, Vi dd, .ptr 0 0] [.cells [Vi d]] = some (Vi (g.nodes.length - s.1.length : Nat), [.cells [Vi (max d (dd + s.2))]]) := by
  intro f
  induction f with
  | zero =>
    intro a d dd hf hdd hdd2
    have e : g.nodes.drop a = [] := List.eq_nil_of_length_eq_zero (by omega)
    have e2 : ordN 0 (g.nodes.drop a) a = none := by rw [e]; rfl
    rw [e2]
    have hle := drop_nil_facts e
    have c1 : ((g.nodes.length : Int) ≤ (a : Int)) = True := by simp; omega
    refine ⟨d, ?_⟩
    rw [call_fn' tbl (show tbl 59 = some fn59 from rfl) _ _ (Nat.le_of_ble_eq_true rfl)]
    simp only [fn59, c1, gc, gcIdx, range1, range2, range3, range4, range5, List.filter_cons, List.idxOf?_cons, List.idxOf?_nil, List.getD_cons_zero, List.getD_cons_succ, List.getD_nil, List.contains_cons, List.contains_nil, List.elem_nil, Nat.reduceBEq, Bool.or_false, Bool.or_true, Bool.true_or, Bool.false_or, back, rangeIn, go_sem, Nat.reduceBEq, Nat.reduceEqDiff, Nat.reduceLT, Nat.reduceLeDiff, Nat.reduceAdd, Nat.reduceMul, Nat.reduceSub, Nat.reduceDiv, Int.reduceLT, Int.reduceLE, Int.reduceToNat, Int.reduceNeg, Int.reduceSub, Int.reduceAdd, reduceIte, reduceCtorEq]
  | succ f ih =>
    intro a d dd hf hdd hdd2
    cases hq : g.nodes.drop a with
    | nil =>
      have e2 : ordN (f + 1) [] (a : Int) = none := rfl
      rw [e2]
      have hle := drop_nil_facts hq
      have c1 : ((g.nodes.length : Int) ≤ (a : Int)) = True := by simp; omega
      refine ⟨d, ?_⟩
      rw [call_fn' tbl (show tbl 59 = some fn59 from rfl) _ _ (Nat.le_of_ble_eq_true rfl)]
      simp only [fn59, c1, gc, gcIdx, range1, range2, range3, range4, range5, List.filter_cons, List.idxOf?_cons, List.idxOf?_nil, List.getD_cons_zero, List.getD_cons_succ, List.getD_nil, List.contains_cons, List.contains_nil, List.elem_nil, Nat.reduceBEq, Bool.or_false, Bool.or_true, Bool.true_or, Bool.false_or, back, rangeIn, go_sem, Nat.reduceBEq, Nat.reduceEqDiff, Nat.reduceLT, Nat.reduceLeDiff, Nat.reduceAdd, Nat.reduceMul, Nat.reduceSub, Nat.reduceDiv, Int.reduceLT, Int.reduceLE, Int.reduceToNat, Int.reduceNeg, Int.reduceSub, Int.reduceAdd, reduceIte, reduceCtorEq]
    | cons x l =>
      have hlen : g.nodes.length = a + (l.length + 1) := by
        have := congrArg List.length hq
        simp at this
        omega
      rw [hq] at hf hdd2
      simp only [List.length_cons] at hf hdd2
      have c1 : ((g.nodes.length : Int) ≤ (a : Int)) = False := by simp; omega
      have hmem : x ∈ g.nodes := List.mem_of_mem_drop (i := a) (by rw [hq]; simp)
      have hmx : (if d < dd then dd else d) = max d dd := by split <;> omega
      have hL := L59 (g := g) (f := f) (at_ := a) (x := x) (l := l) (dp := dd) hq hn ⟨hdd, by omega⟩ (hx x hmem) (fun a' d' dd' h1 h2 h3 h4 => ih a' d' dd' (by simp; omega) h3 h4)
        noY () x.next 0 (l, 0) (max d dd) ⟨⟨56, [(1, Vi a), (2, Vi dd), (3, .ptr 0 0), (4, .ptr 1 0), (9, Vi (g.nodes.length - l.length : Nat)), (10, Vi (0 : Nat)), (15, Vb false)]⟩, [.cells [Vi (max d dd)], Cg g]⟩ (by simp) (by simp) ⟨by simp, 0, by simp⟩ (by simp only; omega) (by simp only [gc, gcIdx, range1, range2, range3, range4, range5, List.filter_cons, List.idxOf?_cons, List.idxOf?_nil, List.getD_cons_zero, List.getD_cons_succ, List.getD_nil, List.contains_cons, List.contains_nil, List.elem_nil, Nat.reduceBEq, Bool.or_false, Bool.or_true, Bool.true_or, Bool.false_or, back, rangeIn, go_sem, Nat.reduceBEq, Nat.reduceEqDiff, Nat.reduceLT, Nat.reduceLeDiff, Nat.reduceAdd, Nat.reduceMul, Nat.reduceSub, Nat.reduceDiv, Int.reduceLT, Int.reduceLE, Int.reduceToNat, Int.reduceNeg, Int.reduceSub, Int.reduceAdd, reduceIte, reduceCtorEq])
      have hnx : g.nodes.length - l.length = a + 1 := by omega
      simp only [hnx, Int.natCast_zero] at hL
      simp only [ordN]
      cases hr : foldO (ordN f) a (l.length + 1) x.next (l, 0) with
      | none =>
        rw [hr] at hL
        obtain ⟨fr, d', h1, h2⟩ := hL
        refine ⟨d', ?_⟩
        rw [call_fn' tbl (show tbl 59 = some fn59 from rfl) _ _ (Nat.le_of_ble_eq_true rfl)]
        simp only [fn59, c1, hmx, succ64 (show a < 9223372036854775807 by omega), h1, h2, gc, gcIdx, range1, range2, range3, range4, range5, List.filter_cons, List.idxOf?_cons, List.idxOf?_nil, List.getD_cons_zero, List.getD_cons_succ, List.getD_nil, List.contains_cons, List.contains_nil, List.elem_nil, Nat.reduceBEq, Bool.or_false, Bool.or_true, Bool.true_or, Bool.false_or, back, rangeIn, go_sem, Nat.reduceBEq, Nat.reduceEqDiff, Nat.reduceLT, Nat.reduceLeDiff, Nat.reduceAdd, Nat.reduceMul, Nat.reduceSub, Nat.reduceDiv, Int.reduceLT, Int.reduceLE, Int.reduceToNat, Int.reduceNeg, Int.reduceSub, Int.reduceAdd, reduceIte, reduceCtorEq]
      | some s =>
        rw [hr] at hL
        simp only at hL ⊢
        rw [show max (max d dd) (dd + (s.2 : Int)) = max d (dd + (s.2 : Int)) by omega] at hL
        rw [call_fn' tbl (show tbl 59 = some fn59 from rfl) _ _ (Nat.le_of_ble_eq_true rfl)]
        simp only [fn59, c1, hmx, succ64 (show a < 9223372036854775807 by omega), hL, gc, gcIdx, range1, range2, range3, range4, range5, List.filter_cons, List.idxOf?_cons, List.idxOf?_nil, List.getD_cons_zero, List.getD_cons_succ, List.getD_nil, List.contains_cons, List.contains_nil, List.elem_nil, Nat.reduceBEq, Bool.or_false, Bool.or_true, Bool.true_or, Bool.false_or, back, rangeIn, go_sem, Nat.reduceBEq, Nat.reduceEqDiff, Nat.reduceLT, Nat.reduceLeDiff, Nat.reduceAdd, Nat.reduceMul, Nat.reduceSub, Nat.reduceDiv, Int.reduceLT, Int.reduceLE, Int.reduceToNat, Int.reduceNeg, Int.reduceSub, Int.reduceAdd, reduceIte, reduceCtorEq]
end
end Go.Am

namespace Go.Am
open Go
set_option linter.unusedSimpArgs false
set_option linter.unusedVariables false
set_option maxRecDepth 100000

/-! ### Rows of lists that grow, each with its token -/

abbrev W := Option (Nat × List Int)
def ew : W → V
  | none => .nil 0
  | some (q, es) => .sl 0 q (es.map Pi)
def tw : List W → List Nat
  | [] => []
  | none :: r => tw r
  | some (q, _) :: r => q :: tw r
def cw : Nat → List (List Int) → List W
  | _, [] => []
  | p, [] :: r => none :: cw p r
  | p, (e :: es) :: r => some (p, e :: es) :: cw (p + 1) r
def tks : List (List Int) → List Blk
  | [] => []
  | [] :: r => tks r
  | (e :: es) :: r => .tok 0 (e :: es).length :: tks r
def ct : W → List Int
  | none => []
  | some (_, es) => es
def okW (m : Nat → Option Blk) (w : List W) : Prop := ∀ q es, some (q, es) ∈ w → es ≠ [] ∧ m q = some (.tok 0 es.length)

theorem idss_w : ∀ w : List W, idss (w.map ew) = tw w
  | [] => rfl
  | none :: r => by simp only [List.map_cons, ew, idss, V.ids, tw, idss_w r, List.nil_append]
  | some (q, es) :: r => by simp only [List.map_cons, ew, idss, V.ids, tw, idss_w r, List.cons_append, List.nil_append]

theorem mem_tw : ∀ {w : List W} {q : Nat}, q ∈ tw w → ∃ es, some (q, es) ∈ w
  | none :: r, q, h => by obtain ⟨es, h1⟩ := mem_tw (w := r) h; exact ⟨es, List.mem_cons_of_mem _ h1⟩
  | some (p, es) :: r, q, h => by
    rcases List.mem_cons.1 h with rfl | h
    · exact ⟨es, List.mem_cons_self ..⟩
    · obtain ⟨es', h1⟩ := mem_tw (w := r) h; exact ⟨es', List.mem_cons_of_mem _ h1⟩

theorem reach_toks {m : List Blk} : ∀ (τ : List Nat) (k : Nat) (seen : List Nat), τ.length ≤ k → (∀ q ∈ τ, ∃ c, m[q]? = some (.tok 0 c)) → τ.Nodup → (∀ q ∈ τ, q ∉ seen) → (reach k τ seen).run m = some (seen.reverse ++ τ)
  | [], k, seen, _, _, _, _ => by simp [reach, RM.run]
  | q :: τ, 0, seen, h, _, _, _ => by simp at h
  | q :: τ, k + 1, seen, h, ht, hn, hs => by
    obtain ⟨c, hc⟩ := ht q (by simp)
    have h1 : seen.contains q = false := by simpa using hs q (by simp)
    rw [reach, h1]
    simp only [Bool.false_eq_true, if_false, RM.run, hc]
    rw [reach_toks τ k (q :: seen) (by simpa using h) (fun x hx => ht x (by simp [hx])) (List.nodup_cons.1 hn).2 (fun x hx hx2 => by
      rcases List.mem_cons.1 hx2 with rfl | hx2
      · exact (List.nodup_cons.1 hn).1 hx
      · exact hs x (by simp [hx]) hx2)]
    simp

theorem idx_at {q : Nat} : ∀ (pre l : List Nat), q ∉ pre → (pre ++ q :: l).idxOf? q = some pre.length
  | [], l, _ => by simp [List.idxOf?_cons]
  | x :: pre, l, h => by
    have h1 : (x == q) = false := by simp at h ⊢; omega
    rw [List.cons_append, List.idxOf?_cons, h1, idx_at pre l (by simp at h ⊢; exact h.2)]
    simp

theorem rens_w : ∀ (w : List W) (pre : List Nat), (tw w).Nodup → (∀ q ∈ tw w, q ∉ pre) → (∀ q es, some (q, es) ∈ w → es ≠ []) →
    rens (fun i => (pre ++ tw w).idxOf? i) (w.map ew) = some ((cw pre.length (w.map ct)).map ew)
  | [], pre, _, _, _ => rfl
  | none :: r, pre, hn, hp, he => by
    have := rens_w r pre hn hp fun q es h => he q es (List.mem_cons_of_mem _ h)
    simp only [List.map_cons, ew, ct, cw, tw, rens, V.ren, this]
  | some (q, es) :: r, pre, hn, hp, he => by
    have h1 : q ∉ pre := hp q (by simp [tw])
    have := rens_w r (pre ++ [q]) (List.nodup_cons.1 hn).2 (fun x hx hx2 => by
      rcases List.mem_append.1 hx2 with h | h
      · exact hp x (by simp [tw, hx]) h
      · simp at h; subst h; exact (List.nodup_cons.1 hn).1 hx) fun q es h => he q es (List.mem_cons_of_mem _ h)
    rw [List.append_assoc] at this
    simp only [List.cons_append, List.nil_append, List.length_append, List.length_cons, List.length_nil, Nat.zero_add] at this
    have hne := he q es (List.mem_cons_self ..)
    cases es with
    | nil => exact absurd rfl hne
    | cons e es => simp only [List.map_cons, ew, ct, cw, tw, rens, V.ren, idx_at pre (tw r) h1, Option.map_some, this]

theorem renBlks_w {m : List Blk} {ρ : Nat → Option Nat} : ∀ (w : List W), okW (fun q => m[q]?) w → renBlks ρ ((tw w).map fun i => m.getD i .dead) = some (tks (w.map ct))
  | [], _ => rfl
  | none :: r, h => renBlks_w r fun q es hm => h q es (List.mem_cons_of_mem _ hm)
  | some (q, es) :: r, h => by
    obtain ⟨h1, h2⟩ := h q es (List.mem_cons_self ..)
    have := renBlks_w (ρ := ρ) r fun q es hm => h q es (List.mem_cons_of_mem _ hm)
    have h2 : m[q]? = some (.tok 0 es.length) := h2
    have h3 : m.getD q .dead = .tok 0 es.length := by rw [List.getD_eq_getElem?_getD, h2]; rfl
    cases es with
    | nil => exact absurd rfl h1
    | cons e es => simp only [List.map_cons, ct, tw, tks, renBlks, h3, Blk.ren, this]

theorem nd_of : ∀ {l : List Nat}, l.Nodup → nd l = true
  | [], _ => rfl
  | x :: r, h => by
    have h1 : r.contains x = false := by simpa using (List.nodup_cons.1 h).1
    simp only [nd, h1, nd_of (List.nodup_cons.1 h).2, Bool.not_false, Bool.and_self]

/-- One row, and no other block. -/
theorem gc_row {n : Nat} {fr : List (Nat × V)} {fr' : List (Nat × V)} {m : List Blk} {w : List W} (hm : m[0]? = some (.cells (w.map ew))) (hw : okW (fun q => m[q]?) w) (hn : (tw w).Nodup) (h0 : ∀ q ∈ tw w, q ≠ 0) (hl : (tw w).length ≤ 90000)
    (hid : idss (fr.map (·.2)) = [0]) (hren : ∀ ρ : Nat → Option Nat, ρ 0 = some 0 → mapF (V.ren ρ) fr = some fr') :
    gc 0 ⟨⟨n, fr⟩, m⟩ = some ⟨⟨n, fr'⟩, .cells ((cw 1 (w.map ct)).map ew) :: tks (w.map ct)⟩ := by
  have hr : (reach 100000 [0] []).run m = some (0 :: tw w) := by
    rw [reach]
    simp only [List.contains_nil, Bool.false_eq_true, if_false, RM.run, hm, idss_w, List.append_nil]
    rw [reach_toks (tw w) 99999 [0] (by omega) (fun q hq => by obtain ⟨es, h⟩ := mem_tw hq; exact ⟨_, (hw q es h).2⟩) hn (fun q hq h => h0 q hq (by simpa using h))]
    rfl
  have hg : gcIdx 0 (Fr.vals ⟨n, fr⟩) m = some (0 :: tw w) := by
    unfold gcIdx
    simp only [Fr.vals, hid, List.range_zero, List.filter_nil, List.nil_append, hr, Option.map_some, Nat.zero_le, decide_true]
    simp
  have hi0 : (0 :: tw w).idxOf? 0 = some 0 := by simp [List.idxOf?_cons]
  have h1 := rens_w w [0] hn (fun q hq h => h0 q hq (by simpa using h)) fun q es h => (hw q es h).1
  simp only [List.cons_append, List.nil_append, List.length_cons, List.length_nil, Nat.zero_add] at h1
  have h2 := renBlks_w (m := m) (ρ := fun i => (0 :: tw w).idxOf? i) w hw
  have h3 : m.getD 0 .dead = .cells (w.map ew) := by rw [List.getD_eq_getElem?_getD, hm]; rfl
  have hall : (0 :: tw w).all (fun i => decide (i < m.length)) = true := by
    rw [List.all_eq_true]
    intro q hq
    rcases List.mem_cons.1 hq with rfl | hq
    · simp; exact (List.getElem?_eq_some_iff.1 hm).1
    · obtain ⟨es, h⟩ := mem_tw hq
      have := (List.getElem?_eq_some_iff.1 (hw q es h).2).1
      simpa using this
  have hnd : nd (0 :: tw w) = true := nd_of (List.nodup_cons.2 ⟨fun h => h0 0 h rfl, hn⟩)
  have hf := hren (fun i => (0 :: tw w).idxOf? i) hi0
  unfold gc
  rw [hg]
  simp only [Fr.map?, hf, List.map_cons, h3, renBlks, Blk.ren, h1, h2, Option.map_some, hall, hnd, Bool.and_self, if_true]

theorem cw_len : ∀ (E : List (List Int)) (p : Nat), (cw p E).length = E.length
  | [], _ => rfl
  | [] :: r, p => by simp [cw, cw_len r]
  | (e :: es) :: r, p => by simp [cw, cw_len r]
theorem cw_ct : ∀ (E : List (List Int)) (p : Nat), (cw p E).map ct = E
  | [], _ => rfl
  | [] :: r, p => by simp [cw, ct, cw_ct r]
  | (e :: es) :: r, p => by simp [cw, ct, cw_ct r]
theorem tks_len : ∀ E : List (List Int), (tks E).length ≤ E.length
  | [] => by simp [tks]
  | [] :: r => by have := tks_len r; simp [tks]; omega
  | (e :: es) :: r => by have := tks_len r; simp [tks]; omega
theorem tw_len : ∀ w : List W, (tw w).length ≤ w.length
  | [] => by simp [tw]
  | none :: r => by have := tw_len r; simp [tw]; omega
  | some (q, es) :: r => by have := tw_len r; simp [tw]; omega

theorem cw_get : ∀ (E : List (List Int)) (p i q : Nat) (es : List Int), (cw p E)[i]? = some (some (q, es)) → p ≤ q ∧ (tks E)[q - p]? = some (.tok 0 es.length) ∧ es ≠ [] ∧ E[i]? = some es
  | [], p, i, q, es, h => by simp [cw] at h
  | [] :: r, p, i, q, es, h => by
    cases i with
    | zero => simp [cw] at h
    | succ i =>
      simp only [cw, List.getElem?_cons_succ] at h
      obtain ⟨h1, h2, h3, h4⟩ := cw_get r p i q es h
      exact ⟨h1, by simpa [tks] using h2, h3, by simpa using h4⟩
  | (e :: es') :: r, p, i, q, es, h => by
    cases i with
    | zero =>
      simp only [cw, List.getElem?_cons_zero, Option.some.injEq, Prod.mk.injEq] at h
      obtain ⟨rfl, rfl⟩ := h
      exact ⟨Nat.le_refl _, by simp [tks], by simp, by simp⟩
    | succ i =>
      simp only [cw, List.getElem?_cons_succ] at h
      obtain ⟨h1, h2, h3, h4⟩ := cw_get r (p + 1) i q es h
      refine ⟨by omega, ?_, h3, by simpa using h4⟩
      rw [show q - p = (q - (p + 1)) + 1 by omega]
      simpa [tks] using h2
theorem cw_none : ∀ (E : List (List Int)) (p i : Nat), (cw p E)[i]? = some none → E[i]? = some []
  | [], p, i, h => by simp [cw] at h
  | [] :: r, p, i, h => by
    cases i with
    | zero => rfl
    | succ i => simp only [cw, List.getElem?_cons_succ] at h; simpa using cw_none r p i h
  | (e :: es') :: r, p, i, h => by
    cases i with
    | zero => simp [cw] at h
    | succ i => simp only [cw, List.getElem?_cons_succ] at h; simpa using cw_none r (p + 1) i h
theorem cw_inj : ∀ (E : List (List Int)) (p i i' q : Nat) (es es' : List Int), (cw p E)[i]? = some (some (q, es)) → (cw p E)[i']? = some (some (q, es')) → i = i'
  | [], p, i, i', q, es, es', h, g => by simp [cw] at h
  | [] :: r, p, i, i', q, es, es', h, g => by
    cases i with
    | zero => simp [cw] at h
    | succ i => cases i' with
      | zero => simp [cw] at g
      | succ i' => simp only [cw, List.getElem?_cons_succ] at h g; rw [cw_inj r p i i' q es es' h g]
  | (e :: ee) :: r, p, i, i', q, es, es', h, g => by
    cases i with
    | zero => cases i' with
      | zero => rfl
      | succ i' =>
        simp only [cw, List.getElem?_cons_succ, List.getElem?_cons_zero, Option.some.injEq, Prod.mk.injEq] at h g
        have := (cw_get r (p + 1) i' q es' g).1
        omega
    | succ i => cases i' with
      | zero =>
        simp only [cw, List.getElem?_cons_succ, List.getElem?_cons_zero, Option.some.injEq, Prod.mk.injEq] at h g
        have := (cw_get r (p + 1) i q es h).1
        omega
      | succ i' => simp only [cw, List.getElem?_cons_succ] at h g; rw [cw_inj r (p + 1) i i' q es es' h g]

theorem tw_nodup : ∀ (w : List W), (∀ (i i' q : Nat) (es es' : List Int), w[i]? = some (some (q, es)) → w[i']? = some (some (q, es')) → i = i') → (tw w).Nodup
  | [], _ => by simp [tw]
  | none :: r, h => tw_nodup r fun i i' q es es' h1 h2 => by have := h (i + 1) (i' + 1) q es es' (by simpa using h1) (by simpa using h2); omega
  | some (q, es) :: r, h => by
    refine List.nodup_cons.2 ⟨fun hq => ?_, tw_nodup r fun i i' q es es' h1 h2 => by have := h (i + 1) (i' + 1) q es es' (by simpa using h1) (by simpa using h2); omega⟩
    obtain ⟨es', h1⟩ := mem_tw hq
    obtain ⟨i, hi⟩ := List.mem_iff_getElem?.1 h1
    have := h 0 (i + 1) q es es' (by simp) (by simpa using hi)
    omega

section
variable {n : Nat} {fr fr' : List (Nat × V)} {E : List (List Int)} {rest : List Blk} {j q : Nat} {es : List Int} {k : Int}

theorem row_same (hE : E.length ≤ 90000) (hid : idss (fr.map (·.2)) = [0]) (hren : ∀ ρ : Nat → Option Nat, ρ 0 = some 0 → mapF (V.ren ρ) fr = some fr') :
    gc 0 ⟨⟨n, fr⟩, .cells ((cw 1 E).map ew) :: (tks E ++ rest)⟩ = some ⟨⟨n, fr'⟩, .cells ((cw 1 E).map ew) :: tks E⟩ := by
  have hw : okW (fun q => (Blk.cells ((cw 1 E).map ew) :: (tks E ++ rest))[q]?) (cw 1 E) := fun q es h => by
    obtain ⟨i, hi⟩ := List.mem_iff_getElem?.1 h
    obtain ⟨h1, h2, h3, _⟩ := cw_get E 1 i q es hi
    refine ⟨h3, ?_⟩
    simp only
    rw [show q = (q - 1) + 1 by omega, List.getElem?_cons_succ, List.getElem?_append_left (List.getElem?_eq_some_iff.1 h2).1]
    exact h2
  have := gc_row (n := n) (fr := fr) (fr' := fr') (m := .cells ((cw 1 E).map ew) :: (tks E ++ rest)) (w := cw 1 E) rfl hw (tw_nodup _ fun i i' q es es' h1 h2 => cw_inj E 1 i i' q es es' h1 h2)
    (fun q hq => by
      obtain ⟨es, h⟩ := mem_tw hq
      obtain ⟨i, hi⟩ := List.mem_iff_getElem?.1 h
      have := (cw_get E 1 i q es hi).1; omega) (by have := tw_len (cw 1 E); have := cw_len E 1; omega) hid hren
  rw [cw_ct] at this
  exact this

theorem row_set (hE : E.length ≤ 90000) (hid : idss (fr.map (·.2)) = [0]) (hren : ∀ ρ : Nat → Option Nat, ρ 0 = some 0 → mapF (V.ren ρ) fr = some fr') {M : List Blk} (hj : j < E.length) (hes : es ≠ []) (hq : M[q]? = some (.tok 0 es.length))
    (hM : ∀ (i q' : Nat) (es' : List Int), i ≠ j → (cw 1 E)[i]? = some (some (q', es')) → q' ≠ q + 1 ∧ M[q' - 1]? = some (.tok 0 es'.length)) :
    gc 0 ⟨⟨n, fr⟩, .cells (((cw 1 E).map ew).set j (.sl 0 (q + 1) (es.map Pi))) :: M⟩ = some ⟨⟨n, fr'⟩, .cells ((cw 1 (E.set j es)).map ew) :: tks (E.set j es)⟩ := by
  have he : ((cw 1 E).map ew).set j (.sl 0 (q + 1) (es.map Pi)) = ((cw 1 E).set j (some (q + 1, es))).map ew := by rw [List.map_set]; rfl
  have hl : ((cw 1 E).set j (some (q + 1, es))).length = E.length := by rw [List.length_set, cw_len]
  have hcase : ∀ (i q' : Nat) (es' : List Int), ((cw 1 E).set j (some (q + 1, es)))[i]? = some (some (q', es')) → (i = j ∧ q' = q + 1 ∧ es' = es) ∨ (i ≠ j ∧ (cw 1 E)[i]? = some (some (q', es'))) := fun i q' es' h => by
    rw [List.getElem?_set] at h
    split at h
    · rename_i hij
      rw [if_pos (by rw [cw_len]; exact hj)] at h
      simp only [Option.some.injEq, Prod.mk.injEq] at h
      exact .inl ⟨hij.symm, h.1.symm, h.2.symm⟩
    · rename_i hij
      exact .inr ⟨fun h => hij h.symm, h⟩
  have hw : okW (fun q' => (Blk.cells (((cw 1 E).set j (some (q + 1, es))).map ew) :: M)[q']?) ((cw 1 E).set j (some (q + 1, es))) := fun q' es' h => by
    obtain ⟨i, hi⟩ := List.mem_iff_getElem?.1 h
    rcases hcase i q' es' hi with ⟨_, rfl, rfl⟩ | ⟨hij, h1⟩
    · exact ⟨hes, by simpa using hq⟩
    · obtain ⟨h2, h3, h4, _⟩ := cw_get E 1 i q' es' h1
      refine ⟨h4, ?_⟩
      simp only
      rw [show q' = (q' - 1) + 1 by omega, List.getElem?_cons_succ]
      simpa using (hM i q' es' hij h1).2
  have := gc_row (n := n) (fr := fr) (fr' := fr') (m := .cells (((cw 1 E).set j (some (q + 1, es))).map ew) :: M) (w := (cw 1 E).set j (some (q + 1, es))) rfl hw
    (tw_nodup _ fun i i' q' a b h1 h2 => by
      rcases hcase i q' a h1 with ⟨e1, e2, _⟩ | ⟨n1, h1⟩ <;> rcases hcase i' q' b h2 with ⟨g1, g2, _⟩ | ⟨n2, h2⟩
      · omega
      · exact absurd e2 (hM i' q' b n2 h2).1
      · exact absurd g2 (hM i q' a n1 h1).1
      · exact cw_inj E 1 i i' q' a b h1 h2)
    (fun q' hq' => by
      obtain ⟨a, h⟩ := mem_tw hq'
      obtain ⟨i, hi⟩ := List.mem_iff_getElem?.1 h
      rcases hcase i q' a hi with ⟨_, rfl, _⟩ | ⟨_, h1⟩
      · omega
      · have := (cw_get E 1 i q' a h1).1; omega) (by have := tw_len ((cw 1 E).set j (some (q + 1, es))); omega) hid hren
  have hct : ((cw 1 E).set j (some (q + 1, es))).map ct = E.set j es := by rw [List.map_set, cw_ct]; rfl
  rw [hct] at this
  rw [he]
  exact this

theorem row_old (hE : E.length ≤ 90000) (hid : idss (fr.map (·.2)) = [0]) (hren : ∀ ρ : Nat → Option Nat, ρ 0 = some 0 → mapF (V.ren ρ) fr = some fr') (h : (cw 1 E)[j]? = some (some (q + 1, es))) :
    gc 0 ⟨⟨n, fr⟩, .cells (((cw 1 E).map ew).set j (.sl 0 (q + 1) (es.map Pi ++ [Pi k]))) :: ((tks E ++ rest).set q (.tok 0 (es.length + 1)))⟩ = some ⟨⟨n, fr'⟩, .cells ((cw 1 (E.set j (es ++ [k]))).map ew) :: tks (E.set j (es ++ [k]))⟩ := by
  obtain ⟨h1, h2, h3, h4⟩ := cw_get E 1 j (q + 1) es h
  have hql : q < (tks E).length := by have := (List.getElem?_eq_some_iff.1 h2).1; omega
  have := row_set (n := n) (fr := fr) (fr' := fr') (E := E) (M := (tks E ++ rest).set q (.tok 0 (es.length + 1))) (j := j) (q := q) (es := es ++ [k]) hE hid hren (List.getElem?_eq_some_iff.1 h4).1 (by simp)
    (by rw [List.getElem?_set_self (by simp; omega)]; simp) (fun i q' es' hij hi => by
      obtain ⟨g1, g2, g3, g4⟩ := cw_get E 1 i q' es' hi
      have hne : q' ≠ q + 1 := fun e => hij (cw_inj E 1 i j q' es' es hi (by rw [e]; exact h))
      refine ⟨hne, ?_⟩
      rw [List.getElem?_set_ne (by omega), List.getElem?_append_left (List.getElem?_eq_some_iff.1 g2).1]
      exact g2)
  rw [List.map_append, List.map_cons, List.map_nil] at this
  exact this

theorem row_new (hE : E.length ≤ 90000) (hid : idss (fr.map (·.2)) = [0]) (hren : ∀ ρ : Nat → Option Nat, ρ 0 = some 0 → mapF (V.ren ρ) fr = some fr') (h : (cw 1 E)[j]? = some none) (hq : (tks E ++ rest)[q]? = some (.tok 0 1)) (hq2 : (tks E).length ≤ q) :
    gc 0 ⟨⟨n, fr⟩, .cells (((cw 1 E).map ew).set j (.sl 0 (q + 1) [Pi k])) :: (tks E ++ rest)⟩ = some ⟨⟨n, fr'⟩, .cells ((cw 1 (E.set j [k])).map ew) :: tks (E.set j [k])⟩ := by
  have h4 := cw_none E 1 j h
  have := row_set (n := n) (fr := fr) (fr' := fr') (E := E) (M := tks E ++ rest) (j := j) (q := q) (es := [k]) hE hid hren (List.getElem?_eq_some_iff.1 h4).1 (by simp)
    (by simpa using hq) (fun i q' es' hij hi => by
      obtain ⟨g1, g2, g3, g4⟩ := cw_get E 1 i q' es' hi
      have hl := (List.getElem?_eq_some_iff.1 g2).1
      refine ⟨by omega, ?_⟩
      rw [List.getElem?_append_left hl]
      exact g2)
  exact this
end
end Go.Am

namespace Go.Am
open Go
set_option linter.unusedSimpArgs false
set_option linter.unusedVariables false
set_option maxRecDepth 100000
open Go.Proofs.Ytdhfhbmfdjnnjaa.Fns

def stR : List Nd → Nat → List (List Int) → List (List Int)
  | [], _, E => E
  | x :: r, k, E => stR r (k + 1) (if x.kind = 2 then E.set x.info.toNat (E.getD x.info.toNat [] ++ [(k : Int)]) else E)

theorem t1 (T : List Blk) (u v : Blk) : (T ++ [u]).set T.length v = T ++ [v] := by simp
theorem t2 (T : List Blk) (u w v : Blk) : (T ++ [u] ++ [w]).set (T.length + 1) v = T ++ [u] ++ [v] := by
  rw [show T.length + 1 = (T ++ [u]).length by simp, t1]
theorem t3 (T : List Blk) (v : Blk) : (T ++ [v])[T.length]? = some v := by simp
theorem t4 (T : List Blk) (u v : Blk) : (T ++ [u] ++ [v])[T.length + 1]? = some v := by
  rw [show T.length + 1 = (T ++ [u]).length by simp, t3]
theorem t5 (T : List Blk) (u v : Blk) : (T ++ [u] ++ [v])[T.length]? = some u := by simp

theorem setRange_one (cs : List V) (j : Nat) (v : V) (h : j < cs.length) : setRange cs j [v] = cs.set j v := by
  rw [List.set_eq_take_append_cons_drop, if_pos h]
  simp [setRange]
theorem z1 (n : Nat) : (n + 1 == 0) = false := by simp
theorem z2 (n : Nat) : (0 == n + 1) = false := by simp
theorem z3 (n : Nat) : (n + 1 == n + 1 + 1) = false := by simp
theorem z5 (n : Nat) : (n + 2 < n + 1 + 1 + 1) = True := by simp
theorem z6 (n : Nat) : (0 < n + 1) = True := by simp
theorem z4 (n : Nat) : (n + 1 + 1 == n + 1) = false := by simp

section
variable {g : Gm}
set_option maxHeartbeats 4000000 in
theorem L52 (hn : g.nodes.length ≤ 5000) (hi : ∀ x ∈ g.nodes, x.kind = 2 → 0 ≤ x.info ∧ x.info < g.infos.length) (hin : g.infos.length ≤ 5000) {σ : Type} (Y : List P → σ → Option (Bool × σ)) (z : σ) : ∀ (r : List Nd) (k : Nat) (E : List (List Int)) (st : St), g.nodes.drop k = r → k ≤ g.nodes.length → E.length = g.infos.length → (∀ es ∈ E, es.length ≤ k) →
    gc 0 (liftAll [] ⟨keepOnly [3, 11, 12, 13] st.fr, st.mem⟩) = some ⟨⟨35, [(3, .ref 0 0 0 g.infos.length), (11, .p (.sl 6 (g.nodes.map Pn))), (12, Vi g.nodes.length), (13, Vi k)]⟩, .cells ((cw 1 E).map ew) :: tks E⟩ →
    U tbl Y 0 fn52_L0 st z = some (.exit 0, ⟨⟨35, [(3, .ref 0 0 0 g.infos.length), (11, .p (.sl 6 (g.nodes.map Pn))), (12, Vi g.nodes.length), (13, Vi g.nodes.length), (14, Vb false)]⟩, .cells ((cw 1 (stR r k E)).map ew) :: tks (stR r k E)⟩, z) := by
  intro r
  induction r with
  | nil =>
    intro k E st hd hk hE hEk hg
    have e : k = g.nodes.length := by have := drop_nil_facts hd; omega
    subst e
    rw [fn52_L0, u_loop tbl Y 0 z hg]
    simp only [fn52_B0, fn52_P6, fn52_D6, natnlt (Nat.le_refl g.nodes.length), stR, go_sem, Nat.reduceBEq, Nat.reduceEqDiff, Nat.reduceLT, Nat.reduceLeDiff, Nat.reduceAdd, Nat.reduceMul, Nat.reduceSub, Nat.reduceDiv, Int.reduceLT, Int.reduceLE, Int.reduceToNat, Int.reduceNeg, Int.reduceSub, Int.reduceAdd, reduceIte, reduceCtorEq]
  | cons x r ih =>
    intro k E st hd hk hE hEk hg
    obtain ⟨h1, h2, h3⟩ := drop_cons_facts hd
    rw [stR]
    by_cases hk2 : x.kind = 2
    · rw [if_pos hk2]
      obtain ⟨i0, i1⟩ := hi x (List.mem_of_getElem? h1) hk2
      obtain ⟨j, hj⟩ := Int.eq_ofNat_of_zero_le i0
      have hjl : j < E.length := by omega
      have hjt : x.info.toNat = j := by omega
      rw [hjt]
      have hjc : j < ((cw 1 E).map ew).length := by rw [List.length_map, cw_len]; exact hjl
      have c1 : (j < g.infos.length) = True := by simp; omega
      have c2 : (j < (cw 1 E).length) = True := by rw [cw_len]; simp; omega
      have c3 : (j + 1 ≤ (cw 1 E).length) = True := by rw [cw_len]; simp; omega
      have m1 : (1 ≤ most) = True := by simp [most]
      have hsr := fun v => setRange_one ((cw 1 E).map ew) j v hjc
      cases hc : (cw 1 E)[j]? with
      | none => rw [List.getElem?_eq_none_iff, cw_len] at hc; omega
      | some w =>
        cases w with
        | none =>
          have hgd : E.getD j [] = [] := by rw [List.getD_eq_getElem?_getD, cw_none E 1 j hc]; rfl
          rw [hgd]
          rw [fn52_L0, u_loop tbl Y 0 z hg]
          simp only [fn52_B0, fn52_P6, fn52_D6, natlt h2, h1, hk2, hj, hc, m1, c1, c2, c3, ew, hsr, t1, t2, t3, t4, t5, z1, z2, z3, z4, z5, z6, succ64 (show k < 9223372036854775807 by omega), gc, gcIdx, range1, range2, range3, range4, range5, List.filter_cons, List.idxOf?_cons, List.idxOf?_nil, List.getD_cons_zero, List.getD_cons_succ, List.getD_nil, List.contains_cons, List.contains_nil, List.elem_nil, Nat.reduceBEq, Bool.or_false, Bool.or_true, Bool.true_or, Bool.false_or, back, rangeIn, go_sem, Nat.reduceBEq, Nat.reduceEqDiff, Nat.reduceLT, Nat.reduceLeDiff, Nat.reduceAdd, Nat.reduceMul, Nat.reduceSub, Nat.reduceDiv, Int.reduceLT, Int.reduceLE, Int.reduceToNat, Int.reduceNeg, Int.reduceSub, Int.reduceAdd, reduceIte, reduceCtorEq]
          exact ih (k + 1) (E.set j [(k : Int)]) _ h3 (by omega) (by simp [hE]) (fun es hes => by
            rcases List.mem_or_eq_of_mem_set hes with h | rfl
            · have := hEk es h; omega
            · simp) (by
            simp only [go_sem, Nat.reduceBEq, Nat.reduceEqDiff, Nat.reduceLT, Nat.reduceLeDiff, Nat.reduceAdd, Nat.reduceMul, Nat.reduceSub, Nat.reduceDiv, Int.reduceLT, Int.reduceLE, Int.reduceToNat, Int.reduceNeg, Int.reduceSub, Int.reduceAdd, reduceIte, reduceCtorEq]
            rw [List.append_assoc]
            exact row_new (k := (k : Int)) (q := (tks E).length + 1) (by omega) rfl (fun ρ h => by simp only [mapF, V.ren, h, Option.map_some]) hc (by simp) (by omega))
        | some qe =>
          obtain ⟨q1, es⟩ := qe
          obtain ⟨g1, g2, g3, g4⟩ := cw_get E 1 j q1 es hc
          obtain ⟨q, rfl⟩ : ∃ q, q1 = q + 1 := ⟨q1 - 1, by omega⟩
          have hql : q < (tks E).length := (List.getElem?_eq_some_iff.1 g2).1
          have hgd : E.getD j [] = es := by rw [List.getD_eq_getElem?_getD, g4]; rfl
          have hesk := hEk es (List.mem_of_getElem? g4)
          have hmo : (es.length + 1 ≤ most) = True := by simp [most]; omega
          have y1 : ∀ u v, (tks E ++ [u] ++ [v])[q]? = some (.tok 0 es.length) := fun u v => by
            rw [List.append_assoc, List.getElem?_append_left hql]; exact g2
          have y2 : (q + 1 == (tks E).length + 1) = false := by simp; omega
          have y3 : ((tks E).length + 1 == q + 1) = false := by simp; omega
          have y4 : (q + 1 < (tks E).length + 1 + 1 + 1) = True := by simp; omega
          rw [hgd]
          rw [fn52_L0, u_loop tbl Y 0 z hg]
          simp only [fn52_B0, fn52_P6, fn52_D6, natlt h2, h1, hk2, hj, hc, hmo, y1, y2, y3, y4, c1, c2, c3, ew, hsr, t1, t2, t3, t4, t5, z1, z2, z3, z4, z5, z6, succ64 (show k < 9223372036854775807 by omega), gc, gcIdx, range1, range2, range3, range4, range5, List.filter_cons, List.idxOf?_cons, List.idxOf?_nil, List.getD_cons_zero, List.getD_cons_succ, List.getD_nil, List.contains_cons, List.contains_nil, List.elem_nil, Nat.reduceBEq, Bool.or_false, Bool.or_true, Bool.true_or, Bool.false_or, back, rangeIn, go_sem, Nat.reduceBEq, Nat.reduceEqDiff, Nat.reduceLT, Nat.reduceLeDiff, Nat.reduceAdd, Nat.reduceMul, Nat.reduceSub, Nat.reduceDiv, Int.reduceLT, Int.reduceLE, Int.reduceToNat, Int.reduceNeg, Int.reduceSub, Int.reduceAdd, reduceIte, reduceCtorEq]
          exact ih (k + 1) (E.set j (es ++ [(k : Int)])) _ h3 (by omega) (by simp [hE]) (fun es' hes => by
            rcases List.mem_or_eq_of_mem_set hes with h | rfl
            · have := hEk es' h; omega
            · simp; omega) (by
            simp only [go_sem, Nat.reduceBEq, Nat.reduceEqDiff, Nat.reduceLT, Nat.reduceLeDiff, Nat.reduceAdd, Nat.reduceMul, Nat.reduceSub, Nat.reduceDiv, Int.reduceLT, Int.reduceLE, Int.reduceToNat, Int.reduceNeg, Int.reduceSub, Int.reduceAdd, reduceIte, reduceCtorEq]
            rw [List.append_assoc]
            exact row_old (k := (k : Int)) (q := q) (by omega) rfl (fun ρ h => by simp only [mapF, V.ren, h, Option.map_some]) hc)
    · have hb : (x.kind == 2) = false := by simpa using hk2
      rw [if_neg hk2]
      rw [fn52_L0, u_loop tbl Y 0 z hg]
      simp only [fn52_B0, fn52_P6, fn52_D6, natlt h2, h1, hb, t1, t2, t3, t4, t5, succ64 (show k < 9223372036854775807 by omega), gc, gcIdx, range1, range2, range3, range4, range5, List.filter_cons, List.idxOf?_cons, List.idxOf?_nil, List.getD_cons_zero, List.getD_cons_succ, List.getD_nil, List.contains_cons, List.contains_nil, List.elem_nil, Nat.reduceBEq, Bool.or_false, Bool.or_true, Bool.true_or, Bool.false_or, back, rangeIn, go_sem, Nat.reduceBEq, Nat.reduceEqDiff, Nat.reduceLT, Nat.reduceLeDiff, Nat.reduceAdd, Nat.reduceMul, Nat.reduceSub, Nat.reduceDiv, Int.reduceLT, Int.reduceLE, Int.reduceToNat, Int.reduceNeg, Int.reduceSub, Int.reduceAdd, reduceIte, reduceCtorEq]
      exact ih (k + 1) E _ h3 (by omega) hE (fun es h => by have := hEk es h; omega) (by simp only [go_sem, Nat.reduceBEq, Nat.reduceEqDiff, Nat.reduceLT, Nat.reduceLeDiff, Nat.reduceAdd, Nat.reduceMul, Nat.reduceSub, Nat.reduceDiv, Int.reduceLT, Int.reduceLE, Int.reduceToNat, Int.reduceNeg, Int.reduceSub, Int.reduceAdd, reduceIte, reduceCtorEq]; exact row_same (by omega) rfl fun ρ h => by simp only [mapF, V.ren, h, Option.map_some])
end
end Go.Am

namespace Go.Am
open Go
set_option linter.unusedSimpArgs false
set_option linter.unusedVariables false
set_option maxRecDepth 100000

/-- A row behind a block of data. -/
theorem gc_row1 {n : Nat} {fr : List (Nat × V)} {fr' : List (Nat × V)} {m : List Blk} {w : List W} {a : List V} (ha : m[0]? = some (.cells a)) (hai : idss a = []) (har : ∀ ρ : Nat → Option Nat, rens ρ a = some a) (hm : m[1]? = some (.cells (w.map ew))) (hw : okW (fun q => m[q]?) w) (hn : (tw w).Nodup) (h0 : ∀ q ∈ tw w, 2 ≤ q) (hl : (tw w).length ≤ 90000)
    (hid : idss (fr.map (·.2)) = [0, 1]) (hren : ∀ ρ : Nat → Option Nat, ρ 0 = some 0 → ρ 1 = some 1 → mapF (V.ren ρ) fr = some fr') :
    gc 0 ⟨⟨n, fr⟩, m⟩ = some ⟨⟨n, fr'⟩, .cells a :: .cells ((cw 2 (w.map ct)).map ew) :: tks (w.map ct)⟩ := by
  have hr : (reach 100000 [0, 1] []).run m = some (0 :: 1 :: tw w) := by
    rw [reach]
    simp only [List.contains_nil, Bool.false_eq_true, if_false, RM.run, ha, hai, List.nil_append]
    rw [reach]
    simp only [List.contains_cons, List.contains_nil, Bool.or_false, Nat.reduceBEq, Bool.false_eq_true, if_false, RM.run, hm, idss_w, List.append_nil]
    rw [reach_toks (tw w) 99998 [1, 0] (by omega) (fun q hq => by obtain ⟨es, h⟩ := mem_tw hq; exact ⟨_, (hw q es h).2⟩) hn (fun q hq h => by
      have := h0 q hq
      simp at h
      omega)]
    rfl
  have hg : gcIdx 0 (Fr.vals ⟨n, fr⟩) m = some (0 :: 1 :: tw w) := by
    unfold gcIdx
    simp only [Fr.vals, hid, List.range_zero, List.filter_nil, List.nil_append, hr, Option.map_some, Nat.zero_le, decide_true]
    simp
  have hi0 : (0 :: 1 :: tw w).idxOf? 0 = some 0 := by simp [List.idxOf?_cons]
  have hi1 : (0 :: 1 :: tw w).idxOf? 1 = some 1 := by simp [List.idxOf?_cons]
  have h1 := rens_w w [0, 1] hn (fun q hq h => by
      have := h0 q hq
      simp at h
      omega) fun q es h => (hw q es h).1
  simp only [List.cons_append, List.nil_append, List.length_cons, List.length_nil, Nat.zero_add, Nat.reduceAdd] at h1
  have h2 := renBlks_w (m := m) (ρ := fun i => (0 :: 1 :: tw w).idxOf? i) w hw
  have h3 : m.getD 0 .dead = .cells a := by rw [List.getD_eq_getElem?_getD, ha]; rfl
  have h4 : m.getD 1 .dead = .cells (w.map ew) := by rw [List.getD_eq_getElem?_getD, hm]; rfl
  have hall : (0 :: 1 :: tw w).all (fun i => decide (i < m.length)) = true := by
    rw [List.all_eq_true]
    intro q hq
    have hl1 := (List.getElem?_eq_some_iff.1 hm).1
    rcases List.mem_cons.1 hq with rfl | hq
    · simp; omega
    rcases List.mem_cons.1 hq with rfl | hq
    · simpa using hl1
    · obtain ⟨es, h⟩ := mem_tw hq
      have := (List.getElem?_eq_some_iff.1 (hw q es h).2).1
      simpa using this
  have hnd : nd (0 :: 1 :: tw w) = true := nd_of (List.nodup_cons.2 ⟨fun h => by
      rcases List.mem_cons.1 h with h | h
      · cases h
      · have := h0 0 h; omega, List.nodup_cons.2 ⟨fun h => by have := h0 1 h; omega, hn⟩⟩)
  have hf := hren (fun i => (0 :: 1 :: tw w).idxOf? i) hi0 hi1
  unfold gc
  rw [hg]
  simp only [Fr.map?, hf, List.map_cons, h3, h4, renBlks, Blk.ren, har, h1, h2, Option.map_some, hall, hnd, Bool.and_self, if_true]

section
variable {a : List V} {n : Nat} {fr fr' : List (Nat × V)} {E : List (List Int)} {rest : List Blk} {j q : Nat} {es : List Int} {k : Int}

theorem row_same1 (hE : E.length ≤ 90000) (hai : idss a = []) (har : ∀ ρ : Nat → Option Nat, rens ρ a = some a) (hid : idss (fr.map (·.2)) = [0, 1]) (hren : ∀ ρ : Nat → Option Nat, ρ 0 = some 0 → ρ 1 = some 1 → mapF (V.ren ρ) fr = some fr') :
    gc 0 ⟨⟨n, fr⟩, .cells a :: .cells ((cw 2 E).map ew) :: (tks E ++ rest)⟩ = some ⟨⟨n, fr'⟩, .cells a :: .cells ((cw 2 E).map ew) :: tks E⟩ := by
  have hw : okW (fun q => (Blk.cells a :: Blk.cells ((cw 2 E).map ew) :: (tks E ++ rest))[q]?) (cw 2 E) := fun q es h => by
    obtain ⟨i, hi⟩ := List.mem_iff_getElem?.1 h
    obtain ⟨h1, h2, h3, _⟩ := cw_get E 2 i q es hi
    refine ⟨h3, ?_⟩
    simp only
    rw [show q = (q - 2) + 1 + 1 by omega, List.getElem?_cons_succ, List.getElem?_cons_succ, List.getElem?_append_left (List.getElem?_eq_some_iff.1 h2).1]
    exact h2
  have := gc_row1 (n := n) (fr := fr) (fr' := fr') (m := .cells a :: .cells ((cw 2 E).map ew) :: (tks E ++ rest)) (w := cw 2 E) rfl hai har rfl hw (tw_nodup _ fun i i' q es es' h1 h2 => cw_inj E 2 i i' q es es' h1 h2)
    (fun q hq => by
      obtain ⟨es, h⟩ := mem_tw hq
      obtain ⟨i, hi⟩ := List.mem_iff_getElem?.1 h
      have := (cw_get E 2 i q es hi).1; omega) (by have := tw_len (cw 2 E); have := cw_len E 2; omega) hid hren
  rw [cw_ct] at this
  exact this

theorem row_set1 (hE : E.length ≤ 90000) (hai : idss a = []) (har : ∀ ρ : Nat → Option Nat, rens ρ a = some a) (hid : idss (fr.map (·.2)) = [0, 1]) (hren : ∀ ρ : Nat → Option Nat, ρ 0 = some 0 → ρ 1 = some 1 → mapF (V.ren ρ) fr = some fr') {M : List Blk} (hj : j < E.length) (hes : es ≠ []) (hq : M[q]? = some (.tok 0 es.length))
    (hM : ∀ (i q' : Nat) (es' : List Int), i ≠ j → (cw 2 E)[i]? = some (some (q', es')) → q' ≠ q + 2 ∧ M[q' - 2]? = some (.tok 0 es'.length)) :
    gc 0 ⟨⟨n, fr⟩, .cells a :: .cells (((cw 2 E).map ew).set j (.sl 0 (q + 2) (es.map Pi))) :: M⟩ = some ⟨⟨n, fr'⟩, .cells a :: .cells ((cw 2 (E.set j es)).map ew) :: tks (E.set j es)⟩ := by
  have he : ((cw 2 E).map ew).set j (.sl 0 (q + 2) (es.map Pi)) = ((cw 2 E).set j (some (q + 2, es))).map ew := by rw [List.map_set]; rfl
  have hl : ((cw 2 E).set j (some (q + 2, es))).length = E.length := by rw [List.length_set, cw_len]
  have hcase : ∀ (i q' : Nat) (es' : List Int), ((cw 2 E).set j (some (q + 2, es)))[i]? = some (some (q', es')) → (i = j ∧ q' = q + 2 ∧ es' = es) ∨ (i ≠ j ∧ (cw 2 E)[i]? = some (some (q', es'))) := fun i q' es' h => by
    rw [List.getElem?_set] at h
    split at h
    · rename_i hij
      rw [if_pos (by rw [cw_len]; exact hj)] at h
      simp only [Option.some.injEq, Prod.mk.injEq] at h
      exact .inl ⟨hij.symm, h.1.symm, h.2.symm⟩
    · rename_i hij
      exact .inr ⟨fun h => hij h.symm, h⟩
  have hw : okW (fun q' => (Blk.cells a :: Blk.cells (((cw 2 E).set j (some (q + 2, es))).map ew) :: M)[q']?) ((cw 2 E).set j (some (q + 2, es))) := fun q' es' h => by
    obtain ⟨i, hi⟩ := List.mem_iff_getElem?.1 h
    rcases hcase i q' es' hi with ⟨_, rfl, rfl⟩ | ⟨hij, h1⟩
    · exact ⟨hes, by simpa using hq⟩
    · obtain ⟨h2, h3, h4, _⟩ := cw_get E 2 i q' es' h1
      refine ⟨h4, ?_⟩
      simp only
      rw [show q' = (q' - 2) + 1 + 1 by omega, List.getElem?_cons_succ, List.getElem?_cons_succ]
      simpa using (hM i q' es' hij h1).2
  have := gc_row1 (n := n) (fr := fr) (fr' := fr') (m := .cells a :: .cells (((cw 2 E).set j (some (q + 2, es))).map ew) :: M) (w := (cw 2 E).set j (some (q + 2, es))) rfl hai har rfl hw
    (tw_nodup _ fun i i' q' a b h1 h2 => by
      rcases hcase i q' a h1 with ⟨e1, e2, _⟩ | ⟨n1, h1⟩ <;> rcases hcase i' q' b h2 with ⟨g1, g2, _⟩ | ⟨n2, h2⟩
      · omega
      · exact absurd e2 (hM i' q' b n2 h2).1
      · exact absurd g2 (hM i q' a n1 h1).1
      · exact cw_inj E 2 i i' q' a b h1 h2)
    (fun q' hq' => by
      obtain ⟨a, h⟩ := mem_tw hq'
      obtain ⟨i, hi⟩ := List.mem_iff_getElem?.1 h
      rcases hcase i q' a hi with ⟨_, rfl, _⟩ | ⟨_, h1⟩
      · omega
      · have := (cw_get E 2 i q' a h1).1; omega) (by have := tw_len ((cw 2 E).set j (some (q + 2, es))); omega) hid hren
  have hct : ((cw 2 E).set j (some (q + 2, es))).map ct = E.set j es := by rw [List.map_set, cw_ct]; rfl
  rw [hct] at this
  rw [he]
  exact this

theorem row_old1 (hE : E.length ≤ 90000) (hai : idss a = []) (har : ∀ ρ : Nat → Option Nat, rens ρ a = some a) (hid : idss (fr.map (·.2)) = [0, 1]) (hren : ∀ ρ : Nat → Option Nat, ρ 0 = some 0 → ρ 1 = some 1 → mapF (V.ren ρ) fr = some fr') (h : (cw 2 E)[j]? = some (some (q + 2, es))) :
    gc 0 ⟨⟨n, fr⟩, .cells a :: .cells (((cw 2 E).map ew).set j (.sl 0 (q + 2) (es.map Pi ++ [Pi k]))) :: ((tks E ++ rest).set q (.tok 0 (es.length + 1)))⟩ = some ⟨⟨n, fr'⟩, .cells a :: .cells ((cw 2 (E.set j (es ++ [k]))).map ew) :: tks (E.set j (es ++ [k]))⟩ := by
  obtain ⟨h1, h2, h3, h4⟩ := cw_get E 2 j (q + 2) es h
  have hql : q < (tks E).length := by have := (List.getElem?_eq_some_iff.1 h2).1; omega
  have := row_set1 (n := n) (fr := fr) (fr' := fr') (E := E) (M := (tks E ++ rest).set q (.tok 0 (es.length + 1))) (j := j) (q := q) (es := es ++ [k]) hE hai har hid hren (List.getElem?_eq_some_iff.1 h4).1 (by simp)
    (by rw [List.getElem?_set_self (by simp; omega)]; simp) (fun i q' es' hij hi => by
      obtain ⟨g1, g2, g3, g4⟩ := cw_get E 2 i q' es' hi
      have hne : q' ≠ q + 2 := fun e => hij (cw_inj E 2 i j q' es' es hi (by rw [e]; exact h))
      refine ⟨hne, ?_⟩
      rw [List.getElem?_set_ne (by omega), List.getElem?_append_left (List.getElem?_eq_some_iff.1 g2).1]
      exact g2)
  rw [List.map_append, List.map_cons, List.map_nil] at this
  exact this

theorem row_new1 (hE : E.length ≤ 90000) (hai : idss a = []) (har : ∀ ρ : Nat → Option Nat, rens ρ a = some a) (hid : idss (fr.map (·.2)) = [0, 1]) (hren : ∀ ρ : Nat → Option Nat, ρ 0 = some 0 → ρ 1 = some 1 → mapF (V.ren ρ) fr = some fr') (h : (cw 2 E)[j]? = some none) (hq : (tks E ++ rest)[q]? = some (.tok 0 1)) (hq2 : (tks E).length ≤ q) :
    gc 0 ⟨⟨n, fr⟩, .cells a :: .cells (((cw 2 E).map ew).set j (.sl 0 (q + 2) [Pi k])) :: (tks E ++ rest)⟩ = some ⟨⟨n, fr'⟩, .cells a :: .cells ((cw 2 (E.set j [k])).map ew) :: tks (E.set j [k])⟩ := by
  have h4 := cw_none E 2 j h
  have := row_set1 (n := n) (fr := fr) (fr' := fr') (E := E) (M := tks E ++ rest) (j := j) (q := q) (es := [k]) hE hai har hid hren (List.getElem?_eq_some_iff.1 h4).1 (by simp)
    (by simpa using hq) (fun i q' es' hij hi => by
      obtain ⟨g1, g2, g3, g4⟩ := cw_get E 2 i q' es' hi
      have hl := (List.getElem?_eq_some_iff.1 g2).1
      refine ⟨by omega, ?_⟩
      rw [List.getElem?_append_left hl]
      exact g2)
  exact this
end
end Go.Am

namespace Go.Am
open Go
set_option linter.unusedSimpArgs false
set_option linter.unusedVariables false
set_option maxRecDepth 100000
open Go.Proofs.Ytdhfhbmfdjnnjaa.Fns

theorem z7 (n : Nat) : (1 < n + 1 + 1) = True := by simp
theorem z8 (n : Nat) : (n + 2 == 1) = false := by simp
theorem z9 (n : Nat) : (1 == n + 2) = false := by simp

section
variable {g : Gm}
set_option maxHeartbeats 4000000 in
theorem L60 (hn : g.nodes.length ≤ 5000) (hi : ∀ x ∈ g.nodes, x.kind = 2 → 0 ≤ x.info ∧ x.info < g.infos.length) (hin : g.infos.length ≤ 5000) {σ : Type} (Y : List P → σ → Option (Bool × σ)) (z : σ) : ∀ (r : List Nd) (k : Nat) (E : List (List Int)) (st : St), g.nodes.drop k = r → k ≤ g.nodes.length → E.length = g.infos.length → (∀ es ∈ E, es.length ≤ k) →
    gc 0 (liftAll [] ⟨keepOnly [1, 3, 4] st.fr, st.mem⟩) = some ⟨⟨38, [(1, .ptr 0 0), (3, .ref 0 1 0 g.infos.length), (4, Vi k)]⟩, Cg g :: .cells ((cw 2 E).map ew) :: tks E⟩ →
    U tbl Y 0 fn60_L0 st z = some (.exit 0, ⟨⟨38, [(1, .ptr 0 0), (3, .ref 0 1 0 g.infos.length), (4, Vi g.nodes.length), (14, Vb false)]⟩, Cg g :: .cells ((cw 2 (stR r k E)).map ew) :: tks (stR r k E)⟩, z) := by
  intro r
  induction r with
  | nil =>
    intro k E st hd hk hE hEk hg
    have e : k = g.nodes.length := by have := drop_nil_facts hd; omega
    subst e
    rw [fn60_L0, u_loop tbl Y 0 z hg]
    simp only [fn60_B0, fn60_P7, fn60_D7, natnlt (Nat.le_refl g.nodes.length), stR, go_sem, Nat.reduceBEq, Nat.reduceEqDiff, Nat.reduceLT, Nat.reduceLeDiff, Nat.reduceAdd, Nat.reduceMul, Nat.reduceSub, Nat.reduceDiv, Int.reduceLT, Int.reduceLE, Int.reduceToNat, Int.reduceNeg, Int.reduceSub, Int.reduceAdd, reduceIte, reduceCtorEq]
  | cons x r ih =>
    intro k E st hd hk hE hEk hg
    obtain ⟨h1, h2, h3⟩ := drop_cons_facts hd
    rw [stR]
    by_cases hk2 : x.kind = 2
    · rw [if_pos hk2]
      obtain ⟨i0, i1⟩ := hi x (List.mem_of_getElem? h1) hk2
      obtain ⟨j, hj⟩ := Int.eq_ofNat_of_zero_le i0
      have hjl : j < E.length := by omega
      have hjt : x.info.toNat = j := by omega
      rw [hjt]
      have hjc : j < ((cw 2 E).map ew).length := by rw [List.length_map, cw_len]; exact hjl
      have c1 : (j < g.infos.length) = True := by simp; omega
      have c2 : (j < (cw 2 E).length) = True := by rw [cw_len]; simp; omega
      have c3 : (j + 1 ≤ (cw 2 E).length) = True := by rw [cw_len]; simp; omega
      have m1 : (1 ≤ most) = True := by simp [most]
      have hsr := fun v => setRange_one ((cw 2 E).map ew) j v hjc
      cases hc : (cw 2 E)[j]? with
      | none => rw [List.getElem?_eq_none_iff, cw_len] at hc; omega
      | some w =>
        cases w with
        | none =>
          have hgd : E.getD j [] = [] := by rw [List.getD_eq_getElem?_getD, cw_none E 2 j hc]; rfl
          rw [hgd]
          rw [fn60_L0, u_loop tbl Y 0 z hg]
          simp only [fn60_B0, fn60_P7, fn60_D7, natlt h2, h1, hk2, hj, hc, m1, c1, c2, c3, ew, hsr, t1, t2, t3, t4, t5, z1, z2, z3, z4, z5, z6, z7, z8, z9, succ64 (show k < 9223372036854775807 by omega), gc, gcIdx, range1, range2, range3, range4, range5, List.filter_cons, List.idxOf?_cons, List.idxOf?_nil, List.getD_cons_zero, List.getD_cons_succ, List.getD_nil, List.contains_cons, List.contains_nil, List.elem_nil, Nat.reduceBEq, Bool.or_false, Bool.or_true, Bool.true_or, Bool.false_or, back, rangeIn, go_sem, Nat.reduceBEq, Nat.reduceEqDiff, Nat.reduceLT, Nat.reduceLeDiff, Nat.reduceAdd, Nat.reduceMul, Nat.reduceSub, Nat.reduceDiv, Int.reduceLT, Int.reduceLE, Int.reduceToNat, Int.reduceNeg, Int.reduceSub, Int.reduceAdd, reduceIte, reduceCtorEq]
          exact ih (k + 1) (E.set j [(k : Int)]) _ h3 (by omega) (by simp [hE]) (fun es hes => by
            rcases List.mem_or_eq_of_mem_set hes with h | rfl
            · have := hEk es h; omega
            · simp) (by
            simp only [go_sem, Nat.reduceBEq, Nat.reduceEqDiff, Nat.reduceLT, Nat.reduceLeDiff, Nat.reduceAdd, Nat.reduceMul, Nat.reduceSub, Nat.reduceDiv, Int.reduceLT, Int.reduceLE, Int.reduceToNat, Int.reduceNeg, Int.reduceSub, Int.reduceAdd, reduceIte, reduceCtorEq]
            rw [List.append_assoc]
            exact row_new1 (k := (k : Int)) (q := (tks E).length + 1) (by omega) rfl (fun ρ => rfl) rfl (fun ρ h h' => by simp only [mapF, V.ren, h, h', Option.map_some]) hc (by simp) (by omega))
        | some qe =>
          obtain ⟨q1, es⟩ := qe
          obtain ⟨g1, g2, g3, g4⟩ := cw_get E 2 j q1 es hc
          obtain ⟨q, rfl⟩ : ∃ q, q1 = q + 2 := ⟨q1 - 2, by omega⟩
          have hql : q < (tks E).length := (List.getElem?_eq_some_iff.1 g2).1
          have hgd : E.getD j [] = es := by rw [List.getD_eq_getElem?_getD, g4]; rfl
          have hesk := hEk es (List.mem_of_getElem? g4)
          have hmo : (es.length + 1 ≤ most) = True := by simp [most]; omega
          have y1 : ∀ u v, (tks E ++ [u] ++ [v])[q]? = some (.tok 0 es.length) := fun u v => by
            rw [List.append_assoc, List.getElem?_append_left hql]; exact g2
          have y2 : (q + 2 == (tks E).length + 2) = false := by simp; omega
          have y3 : ((tks E).length + 2 == q + 2) = false := by simp; omega
          have y4 : (q + 2 < (tks E).length + 1 + 1 + 1 + 1) = True := by simp; omega
          rw [hgd]
          rw [fn60_L0, u_loop tbl Y 0 z hg]
          simp only [fn60_B0, fn60_P7, fn60_D7, natlt h2, h1, hk2, hj, hc, hmo, y1, y2, y3, y4, c1, c2, c3, ew, hsr, t1, t2, t3, t4, t5, z1, z2, z3, z4, z5, z6, z7, z8, z9, succ64 (show k < 9223372036854775807 by omega), gc, gcIdx, range1, range2, range3, range4, range5, List.filter_cons, List.idxOf?_cons, List.idxOf?_nil, List.getD_cons_zero, List.getD_cons_succ, List.getD_nil, List.contains_cons, List.contains_nil, List.elem_nil, Nat.reduceBEq, Bool.or_false, Bool.or_true, Bool.true_or, Bool.false_or, back, rangeIn, go_sem, Nat.reduceBEq, Nat.reduceEqDiff, Nat.reduceLT, Nat.reduceLeDiff, Nat.reduceAdd, Nat.reduceMul, Nat.reduceSub, Nat.reduceDiv, Int.reduceLT, Int.reduceLE, Int.reduceToNat, Int.reduceNeg, Int.reduceSub, Int.reduceAdd, reduceIte, reduceCtorEq]
          exact ih (k + 1) (E.set j (es ++ [(k : Int)])) _ h3 (by omega) (by simp [hE]) (fun es' hes => by
            rcases List.mem_or_eq_of_mem_set hes with h | rfl
            · have := hEk es' h; omega
            · simp; omega) (by
            simp only [go_sem, Nat.reduceBEq, Nat.reduceEqDiff, Nat.reduceLT, Nat.reduceLeDiff, Nat.reduceAdd, Nat.reduceMul, Nat.reduceSub, Nat.reduceDiv, Int.reduceLT, Int.reduceLE, Int.reduceToNat, Int.reduceNeg, Int.reduceSub, Int.reduceAdd, reduceIte, reduceCtorEq]
            rw [List.append_assoc]
            exact row_old1 (k := (k : Int)) (q := q) (by omega) rfl (fun ρ => rfl) rfl (fun ρ h h' => by simp only [mapF, V.ren, h, h', Option.map_some]) hc)
    · have hb : (x.kind == 2) = false := by simpa using hk2
      rw [if_neg hk2]
      rw [fn60_L0, u_loop tbl Y 0 z hg]
      simp only [fn60_B0, fn60_P7, fn60_D7, natlt h2, h1, hb, t1, t2, t3, t4, t5, succ64 (show k < 9223372036854775807 by omega), gc, gcIdx, range1, range2, range3, range4, range5, List.filter_cons, List.idxOf?_cons, List.idxOf?_nil, List.getD_cons_zero, List.getD_cons_succ, List.getD_nil, List.contains_cons, List.contains_nil, List.elem_nil, Nat.reduceBEq, Bool.or_false, Bool.or_true, Bool.true_or, Bool.false_or, back, rangeIn, go_sem, Nat.reduceBEq, Nat.reduceEqDiff, Nat.reduceLT, Nat.reduceLeDiff, Nat.reduceAdd, Nat.reduceMul, Nat.reduceSub, Nat.reduceDiv, Int.reduceLT, Int.reduceLE, Int.reduceToNat, Int.reduceNeg, Int.reduceSub, Int.reduceAdd, reduceIte, reduceCtorEq]
      exact ih (k + 1) E _ h3 (by omega) hE (fun es h => by have := hEk es h; omega) (by simp only [go_sem, Nat.reduceBEq, Nat.reduceEqDiff, Nat.reduceLT, Nat.reduceLeDiff, Nat.reduceAdd, Nat.reduceMul, Nat.reduceSub, Nat.reduceDiv, Int.reduceLT, Int.reduceLE, Int.reduceToNat, Int.reduceNeg, Int.reduceSub, Int.reduceAdd, reduceIte, reduceCtorEq]; exact row_same1 (by omega) rfl (fun ρ => rfl) rfl fun ρ h h' => by simp only [mapF, V.ren, h, h', Option.map_some])
end
end Go.Am

namespace Go.Am
open Go
set_option linter.unusedSimpArgs false
set_option linter.unusedVariables false
set_option maxRecDepth 100000
open Go.Proofs.Ytdhfhbmfdjnnjaa.Fns

theorem cw_rep (p : Nat) : ∀ n, (cw p (List.replicate n [])).map ew = List.replicate n (V.nil 0)
  | 0 => rfl
  | n + 1 => by simp only [List.replicate_succ, cw, List.map_cons, ew, cw_rep p n]
theorem tks_rep : ∀ n, tks (List.replicate n []) = []
  | 0 => rfl
  | n + 1 => by simp only [List.replicate_succ, tks, tks_rep n]
theorem rep_nil : ∀ n, rep [V.nil 0] n = List.replicate n (V.nil 0)
  | 0 => rfl
  | n + 1 => by simp only [rep, rep_nil n, List.replicate_succ, List.cons_append, List.nil_append]
theorem idss_rep : ∀ n, idss (List.replicate n (V.nil 0)) = []
  | 0 => rfl
  | n + 1 => by simp only [List.replicate_succ, idss, V.ids, idss_rep n, List.nil_append]
theorem rens_rep (ρ : Nat → Option Nat) : ∀ n, rens ρ (List.replicate n (V.nil 0)) = some (List.replicate n (V.nil 0))
  | 0 => rfl
  | n + 1 => by simp only [List.replicate_succ, rens, V.ren, rens_rep ρ n]

theorem inner_toks {m : List Blk} : ∀ (τ : List Nat) (k : Nat) (seen : List Nat), (∀ q ∈ τ, ∃ c, m[q]? = some (.tok 0 c)) → inner m k τ seen = seen
  | [], _, _, _ => by simp [inner]
  | q :: τ, 0, seen, _ => by simp [inner]
  | q :: τ, k + 1, seen, h => by
    obtain ⟨c, hc⟩ := h q (by simp)
    have := inner_toks (m := m) τ k seen fun x hx => h x (by simp [hx])
    rw [inner, hc]
    simp only [this, ite_self]
theorem toPs_cw : ∀ (E : List (List Int)) (p : Nat), toPs ((cw p E).map ew) = some (E.map Pl)
  | [], _ => rfl
  | [] :: r, p => by simp only [cw, List.map_cons, ew, toPs, V.toP, toPs_cw r, List.map_nil]; rfl
  | (e :: es) :: r, p => by simp only [cw, List.map_cons, ew, toPs, V.toP, toPs_cw r]; rfl
theorem openBlks_tks (i : Nat) (ps : List P) : ∀ E : List (List Int), openBlks i ps (tks E) = some (tks E)
  | [] => rfl
  | [] :: r => by simp only [tks, openBlks_tks i ps r]
  | (e :: es) :: r => by simp only [tks, openBlks, openBlks_tks i ps r]; rfl
theorem tw_cw_tok {A : List Blk} : ∀ {E : List (List Int)} {p : Nat} {q : Nat}, A.length = p → q ∈ tw (cw p E) → ∃ c, (A ++ tks E)[q]? = some (.tok 0 c) := fun {E p q} hA hq => by
  obtain ⟨es, h⟩ := mem_tw hq
  obtain ⟨i, hi⟩ := List.mem_iff_getElem?.1 h
  obtain ⟨h1, h2, _, _⟩ := cw_get E p i q es hi
  exact ⟨_, by rw [List.getElem?_append_right (by omega), hA]; exact h2⟩
theorem stR_len : ∀ (r : List Nd) (k : Nat) (E : List (List Int)), (stR r k E).length = E.length
  | [], _, _ => rfl
  | x :: r, k, E => by rw [stR, stR_len r]; split <;> simp

section
variable {g : Gm}

/-- The sets of a game. -/
def sts (g : Gm) : List (List Int) := stR g.nodes 0 (List.replicate g.infos.length [])

set_option maxHeartbeats 4000000 in
theorem s52 (hn : g.nodes.length ≤ 5000) (hi : ∀ x ∈ g.nodes, x.kind = 2 → 0 ≤ x.info ∧ x.info < g.infos.length) (hin : g.infos.length ≤ 5000) :
    (EL tbl).call 52 [Vg g] [] = some (.p (.sl 0 ((sts g).map Pl)), []) := by
  have hL := L52 (g := g) hn hi hin noY () g.nodes 0 (List.replicate g.infos.length []) ⟨⟨35, [(3, .ref 0 1 0 g.infos.length), (11, .p (.sl 6 (g.nodes.map Pn))), (12, Vi g.nodes.length), (13, Vi (0 : Nat))]⟩, [Cg g, .cells (List.replicate g.infos.length (V.nil 0))]⟩ (by simp) (by simp) (by simp) (fun es h => by
    have := (List.mem_replicate.1 h).2; subst this; simp) (by simp only [cw_rep, tks_rep, idss_rep, rens_rep, gc, gcIdx, range1, range2, range3, range4, range5, List.filter_cons, List.idxOf?_cons, List.idxOf?_nil, List.getD_cons_zero, List.getD_cons_succ, List.getD_nil, List.contains_cons, List.contains_nil, List.elem_nil, Nat.reduceBEq, Bool.or_false, Bool.or_true, Bool.true_or, Bool.false_or, back, rangeIn, go_sem, Nat.reduceBEq, Nat.reduceEqDiff, Nat.reduceLT, Nat.reduceLeDiff, Nat.reduceAdd, Nat.reduceMul, Nat.reduceSub, Nat.reduceDiv, Int.reduceLT, Int.reduceLE, Int.reduceToNat, Int.reduceNeg, Int.reduceSub, Int.reduceAdd, reduceIte, reduceCtorEq])
  simp only [Int.natCast_zero] at hL
  have hm : (g.infos.length ≤ most) = True := by simp [most]; omega
  have hlen : (sts g).length = g.infos.length := by unfold sts; rw [stR_len]; simp
  have hin1 : ∀ k seen, inner (.cells ((cw 1 (sts g)).map ew) :: tks (sts g)) k (tw (cw 1 (sts g))) seen = seen := fun k seen => inner_toks _ k seen fun q hq => tw_cw_tok (A := [.cells ((cw 1 (sts g)).map ew)]) rfl hq
  have hch : chunk 0 g.infos.length ((sts g).map Pl) = (sts g).map Pl := chunk0 _ _ (by simp [hlen])
  rw [show stR g.nodes 0 (List.replicate g.infos.length []) = sts g from rfl] at hL
  rw [call_fn' tbl (show tbl 52 = some fn52 from rfl) _ _ (Nat.le_of_ble_eq_true rfl)]
  simp only [fn52, fn52_P6, fn52_D6, hL, hm, rep_nil, idss_w, hin1, toPs_cw, openBlks_tks, hlen, hch, gc, gcIdx, range1, range2, range3, range4, range5, List.filter_cons, List.idxOf?_cons, List.idxOf?_nil, List.getD_cons_zero, List.getD_cons_succ, List.getD_nil, List.contains_cons, List.contains_nil, List.elem_nil, Nat.reduceBEq, Bool.or_false, Bool.or_true, Bool.true_or, Bool.false_or, back, rangeIn, go_sem, Nat.reduceBEq, Nat.reduceEqDiff, Nat.reduceLT, Nat.reduceLeDiff, Nat.reduceAdd, Nat.reduceMul, Nat.reduceSub, Nat.reduceDiv, Int.reduceLT, Int.reduceLE, Int.reduceToNat, Int.reduceNeg, Int.reduceSub, Int.reduceAdd, reduceIte, reduceCtorEq]

set_option maxHeartbeats 4000000 in
theorem s60 (hn : g.nodes.length ≤ 5000) (hi : ∀ x ∈ g.nodes, x.kind = 2 → 0 ≤ x.info ∧ x.info < g.infos.length) (hin : g.infos.length ≤ 5000) :
    (EL tbl).call 60 [Vg g] [] = some (.p (.sl 0 ((sts g).map Pl)), []) := by
  have hL := L60 (g := g) hn hi hin noY () g.nodes 0 (List.replicate g.infos.length []) ⟨⟨38, [(1, .ptr 0 0), (3, .ref 0 1 0 g.infos.length), (4, Vi (0 : Nat))]⟩, [Cg g, .cells (List.replicate g.infos.length (V.nil 0))]⟩ (by simp) (by simp) (by simp) (fun es h => by
    have := (List.mem_replicate.1 h).2; subst this; simp) (by simp only [cw_rep, tks_rep, idss_rep, rens_rep, gc, gcIdx, range1, range2, range3, range4, range5, List.filter_cons, List.idxOf?_cons, List.idxOf?_nil, List.getD_cons_zero, List.getD_cons_succ, List.getD_nil, List.contains_cons, List.contains_nil, List.elem_nil, Nat.reduceBEq, Bool.or_false, Bool.or_true, Bool.true_or, Bool.false_or, back, rangeIn, go_sem, Nat.reduceBEq, Nat.reduceEqDiff, Nat.reduceLT, Nat.reduceLeDiff, Nat.reduceAdd, Nat.reduceMul, Nat.reduceSub, Nat.reduceDiv, Int.reduceLT, Int.reduceLE, Int.reduceToNat, Int.reduceNeg, Int.reduceSub, Int.reduceAdd, reduceIte, reduceCtorEq])
  simp only [Int.natCast_zero] at hL
  have hm : (g.infos.length ≤ most) = True := by simp [most]; omega
  have hlen : (sts g).length = g.infos.length := by unfold sts; rw [stR_len]; simp
  have hin1 : ∀ k seen, inner (Cg g :: .cells ((cw 2 (sts g)).map ew) :: tks (sts g)) k (tw (cw 2 (sts g))) seen = seen := fun k seen => inner_toks _ k seen fun q hq => tw_cw_tok (A := [Cg g, .cells ((cw 2 (sts g)).map ew)]) rfl hq
  have hch : chunk 0 g.infos.length ((sts g).map Pl) = (sts g).map Pl := chunk0 _ _ (by simp [hlen])
  rw [show stR g.nodes 0 (List.replicate g.infos.length []) = sts g from rfl] at hL
  rw [call_fn' tbl (show tbl 60 = some fn60 from rfl) _ _ (Nat.le_of_ble_eq_true rfl)]
  simp only [fn60, fn60_P7, fn60_D7, hL, hm, rep_nil, idss_w, hin1, toPs_cw, openBlks_tks, hlen, hch, gc, gcIdx, range1, range2, range3, range4, range5, List.filter_cons, List.idxOf?_cons, List.idxOf?_nil, List.getD_cons_zero, List.getD_cons_succ, List.getD_nil, List.contains_cons, List.contains_nil, List.elem_nil, Nat.reduceBEq, Bool.or_false, Bool.or_true, Bool.true_or, Bool.false_or, back, rangeIn, go_sem, Nat.reduceBEq, Nat.reduceEqDiff, Nat.reduceLT, Nat.reduceLeDiff, Nat.reduceAdd, Nat.reduceMul, Nat.reduceSub, Nat.reduceDiv, Int.reduceLT, Int.reduceLE, Int.reduceToNat, Int.reduceNeg, Int.reduceSub, Int.reduceAdd, reduceIte, reduceCtorEq]
end
end Go.Am

namespace Go.Am
open Go
set_option linter.unusedSimpArgs false
set_option linter.unusedVariables false
set_option maxRecDepth 100000
open Go.Proofs.Ytdhfhbmfdjnnjaa.Fns

abbrev Vls (E : List (List Int)) : V := .p (.sl 0 (E.map Pl))

theorem L73 {id : Nat} {caps : List P} {l : List (List Int)} (p : List Int → Bool) (hlen : l.length ≤ 1000000000) (hp : ∀ x ∈ l, (EL tbl).call id (Vl x :: caps.map V.p) [] = some (Vb (p x), [])) {σ : Type} (Y : List P → σ → Option (Bool × σ)) (s : σ) :
    ∀ (r : List (List Int)) (k : Nat) (st : St), l.drop k = r → k ≤ l.length → gc 0 (liftAll [] ⟨keepOnly [0, 1, 7, 8] st.fr, st.mem⟩) = some ⟨⟨19, [(0, Vls l), (1, .p (.fn id caps)), (7, Vi l.length), (8, Vi k)]⟩, []⟩ →
      match r.findIdx? p with
      | none => U tbl Y 0 fn73_L0 st s = some (.exit 0, ⟨⟨19, [(0, Vls l), (1, .p (.fn id caps)), (7, Vi l.length), (8, Vi l.length), (9, Vb false)]⟩, []⟩, s)
      | some j => ∃ fr, U tbl Y 0 fn73_L0 st s = some (.ret, ⟨fr, []⟩, s) ∧ getF fr.l 4 = Vi (k + j : Nat) := by
  intro r
  induction r with
  | nil =>
    intro k st hd hk hg
    have hle := drop_nil_facts hd
    have e : k = l.length := by omega
    subst e
    simp only [List.findIdx?_nil]
    rw [fn73_L0, u_loop tbl Y 0 s hg]
    simp only [fn73_B0, natnlt (Nat.le_refl l.length), go_sem, Nat.reduceBEq, Nat.reduceEqDiff, Nat.reduceLT, Nat.reduceLeDiff, Nat.reduceAdd, Nat.reduceMul, Nat.reduceSub, Nat.reduceDiv, Int.reduceLT, Int.reduceLE, Int.reduceToNat, Int.reduceNeg, Int.reduceSub, Int.reduceAdd, reduceIte, reduceCtorEq]
  | cons x r ih =>
    intro k st hd hk hg
    obtain ⟨h1, h2, h3⟩ := drop_cons_facts hd
    have hx := hp x (List.mem_of_getElem? h1)
    have hgo : p x = true → ∃ fr, U tbl Y 0 fn73_L0 st s = some (.ret, ⟨fr, []⟩, s) ∧ getF fr.l 4 = Vi (k : Nat) := fun hpx => by
      rw [fn73_L0, u_loop tbl Y 0 s hg]
      simp only [fn73_B0, natlt h2, h1, hx, hpx, go_sem, Nat.reduceBEq, Nat.reduceEqDiff, Nat.reduceLT, Nat.reduceLeDiff, Nat.reduceAdd, Nat.reduceMul, Nat.reduceSub, Nat.reduceDiv, Int.reduceLT, Int.reduceLE, Int.reduceToNat, Int.reduceNeg, Int.reduceSub, Int.reduceAdd, reduceIte, reduceCtorEq]
      exact ⟨_, rfl, by simp only [go_sem, Nat.reduceBEq, Nat.reduceEqDiff, Nat.reduceLT, Nat.reduceLeDiff, Nat.reduceAdd, Nat.reduceMul, Nat.reduceSub, Nat.reduceDiv, Int.reduceLT, Int.reduceLE, Int.reduceToNat, Int.reduceNeg, Int.reduceSub, Int.reduceAdd, reduceIte, reduceCtorEq]⟩
    have hno : p x = false → ∃ st1, U tbl Y 0 fn73_L0 st s = U tbl Y 0 fn73_L0 st1 s ∧ gc 0 (liftAll [] ⟨keepOnly [0, 1, 7, 8] st1.fr, st1.mem⟩) = some ⟨⟨19, [(0, Vls l), (1, .p (.fn id caps)), (7, Vi l.length), (8, Vi (k + 1 : Nat))]⟩, []⟩ := fun hpx => by
      rw [fn73_L0, u_loop tbl Y 0 s hg]
      simp only [fn73_B0, natlt h2, h1, hx, hpx, succ64 (show k < 9223372036854775807 by omega), go_sem, Nat.reduceBEq, Nat.reduceEqDiff, Nat.reduceLT, Nat.reduceLeDiff, Nat.reduceAdd, Nat.reduceMul, Nat.reduceSub, Nat.reduceDiv, Int.reduceLT, Int.reduceLE, Int.reduceToNat, Int.reduceNeg, Int.reduceSub, Int.reduceAdd, reduceIte, reduceCtorEq]
      exact ⟨_, rfl, by simp only [go_sem, Nat.reduceBEq, Nat.reduceEqDiff, Nat.reduceLT, Nat.reduceLeDiff, Nat.reduceAdd, Nat.reduceMul, Nat.reduceSub, Nat.reduceDiv, Int.reduceLT, Int.reduceLE, Int.reduceToNat, Int.reduceNeg, Int.reduceSub, Int.reduceAdd, reduceIte, reduceCtorEq]⟩
    rw [List.findIdx?_cons]
    cases hpx : p x with
    | true => simpa using hgo hpx
    | false =>
      obtain ⟨st1, e1, e2⟩ := hno hpx
      have := ih (k + 1) st1 h3 (by omega) e2
      rw [e1]
      cases hf : r.findIdx? p with
      | none => simpa [hf] using this
      | some j => 
        rw [hf] at this
        obtain ⟨fr, a, b⟩ := this
        simp only [Bool.false_eq_true, if_false, Option.map_some]
        exact ⟨fr, a, by rw [b, show k + 1 + j = k + (j + 1) by omega]⟩

theorem s73 {id : Nat} {caps : List P} {l : List (List Int)} (p : List Int → Bool) (hlen : l.length ≤ 1000000000) (hp : ∀ x ∈ l, (EL tbl).call id (Vl x :: caps.map V.p) [] = some (Vb (p x), [])) :
    (EL tbl).call 73 [Vls l, .p (.fn id caps)] [] = some (Vi (match l.findIdx? p with | some j => (j : Int) | none => -1), []) := by
  rw [call_fn' tbl (show tbl 73 = some fn73 from rfl) _ _ (Nat.le_of_ble_eq_true rfl)]
  simp only [fn73, go_sem, Nat.reduceBEq, Nat.reduceEqDiff, Nat.reduceLT, Nat.reduceLeDiff, Nat.reduceAdd, Nat.reduceMul, Nat.reduceSub, Nat.reduceDiv, Int.reduceLT, Int.reduceLE, Int.reduceToNat, Int.reduceNeg, Int.reduceSub, Int.reduceAdd, reduceIte, reduceCtorEq]
  have := L73 p hlen hp noY () l 0 ⟨⟨19, [(0, Vls l), (1, .p (.fn id caps)), (7, Vi l.length), (8, Vi (0 : Nat))]⟩, []⟩ (by simp) (by omega) (by simp only [go_sem, Nat.reduceBEq, Nat.reduceEqDiff, Nat.reduceLT, Nat.reduceLeDiff, Nat.reduceAdd, Nat.reduceMul, Nat.reduceSub, Nat.reduceDiv, Int.reduceLT, Int.reduceLE, Int.reduceToNat, Int.reduceNeg, Int.reduceSub, Int.reduceAdd, reduceIte, reduceCtorEq])
  cases hf : l.findIdx? p with
  | none =>
    rw [hf] at this
    simp only [Int.natCast_zero] at this
    simp only [this, go_sem, Nat.reduceBEq, Nat.reduceEqDiff, Nat.reduceLT, Nat.reduceLeDiff, Nat.reduceAdd, Nat.reduceMul, Nat.reduceSub, Nat.reduceDiv, Int.reduceLT, Int.reduceLE, Int.reduceToNat, Int.reduceNeg, Int.reduceSub, Int.reduceAdd, reduceIte, reduceCtorEq]
  | some j =>
    rw [hf] at this
    obtain ⟨fr, a, b⟩ := this
    simp only [Int.natCast_zero] at a
    simp only [a, b, go_sem, Nat.reduceBEq, Nat.reduceEqDiff, Nat.reduceLT, Nat.reduceLeDiff, Nat.reduceAdd, Nat.reduceMul, Nat.reduceSub, Nat.reduceDiv, Int.reduceLT, Int.reduceLE, Int.reduceToNat, Int.reduceNeg, Int.reduceSub, Int.reduceAdd, reduceIte, reduceCtorEq]
theorem s53 {id : Nat} {caps : List P} {l : List (List Int)} (p : List Int → Bool) (hlen : l.length ≤ 1000000000) (hp : ∀ x ∈ l, (EL tbl).call id (Vl x :: caps.map V.p) [] = some (Vb (p x), [])) :
    (EL tbl).call 53 [Vls l, .p (.fn id caps)] [] = some (Vb (l.any p), []) := by
  have h73 := s73 p hlen hp
  rw [call_fn' tbl (show tbl 53 = some fn53 from rfl) _ _ (Nat.le_of_ble_eq_true rfl)]
  simp only [fn53, h73, go_sem, Nat.reduceBEq, Nat.reduceEqDiff, Nat.reduceLT, Nat.reduceLeDiff, Nat.reduceAdd, Nat.reduceMul, Nat.reduceSub, Nat.reduceDiv, Int.reduceLT, Int.reduceLE, Int.reduceToNat, Int.reduceNeg, Int.reduceSub, Int.reduceAdd, reduceIte, reduceCtorEq]
  cases hf : l.findIdx? p with
  | none =>
    have : l.any p = false := by
      rw [List.any_eq_false]; intro x hx; exact (List.findIdx?_eq_none_iff.1 hf) x hx ▸ (by simp)
    simp [this]
  | some j =>
    have : l.any p = true := by
      rw [List.findIdx?_eq_some_iff_getElem] at hf
      obtain ⟨hj, h1, _⟩ := hf
      exact List.any_eq_true.2 ⟨_, List.getElem_mem hj, h1⟩
    simp [this]


theorem s54 (l : List Int) : (EL tbl).call 54 [Vl l] [] = some (Vb ((l.length : Int) == 0), []) := by
  rw [call_fn' tbl (show tbl 54 = some fn54 from rfl) _ _ (Nat.le_of_ble_eq_true rfl)]
  simp only [fn54, go_sem, Nat.reduceBEq, Nat.reduceEqDiff, Nat.reduceLT, Nat.reduceLeDiff, Nat.reduceAdd, Nat.reduceMul, Nat.reduceSub, Nat.reduceDiv, Int.reduceLT, Int.reduceLE, Int.reduceToNat, Int.reduceNeg, Int.reduceSub, Int.reduceAdd, reduceIte, reduceCtorEq]

def hd0 (l : List Int) : Int := l.getD 0 0

theorem s56 (a b : List Int) (ha : a ≠ []) (hb : b ≠ []) (h1 : 0 ≤ hd0 a ∧ hd0 a ≤ 10000) (h2 : 0 ≤ hd0 b ∧ hd0 b ≤ 10000) : (EL tbl).call 56 [Vl a, Vl b] [] = some (Vi (hd0 a - hd0 b), []) := by
  cases a with
  | nil => exact absurd rfl ha
  | cons x a =>
    cases b with
    | nil => exact absurd rfl hb
    | cons y b =>
      have hw : IntKind.wrap .i64 (x - y) = x - y := by
        simp only [hd0, List.getD_cons_zero] at h1 h2
        exact wrap64 (by omega) (by omega)
      rw [call_fn' tbl (show tbl 56 = some fn56 from rfl) _ _ (Nat.le_of_ble_eq_true rfl)]
      simp only [fn56, fn56_P1, fn56_D1, hd0, hw, gc, gcIdx, range1, range2, range3, range4, range5, List.filter_cons, List.idxOf?_cons, List.idxOf?_nil, List.getD_cons_zero, List.getD_cons_succ, List.getD_nil, List.contains_cons, List.contains_nil, List.elem_nil, Nat.reduceBEq, Bool.or_false, Bool.or_true, Bool.true_or, Bool.false_or, back, rangeIn, go_sem, Nat.reduceBEq, Nat.reduceEqDiff, Nat.reduceLT, Nat.reduceLeDiff, Nat.reduceAdd, Nat.reduceMul, Nat.reduceSub, Nat.reduceDiv, Int.reduceLT, Int.reduceLE, Int.reduceToNat, Int.reduceNeg, Int.reduceSub, Int.reduceAdd, reduceIte, reduceCtorEq]

/-- Is it in order up to a place? -/
def srtD (E : List (List Int)) : Nat → Bool
  | 0 => true
  | i + 1 => if hd0 (E.getD (i + 1) []) - hd0 (E.getD i []) < 0 then false else srtD E i

set_option maxHeartbeats 4000000 in
theorem L55 {E : List (List Int)} (hE : E.length ≤ 5000) (hne : ∀ l ∈ E, l ≠ [] ∧ 0 ≤ hd0 l ∧ hd0 l ≤ 10000) {σ : Type} (Y : List P → σ → Option (Bool × σ)) (z : σ) : ∀ (i : Nat) (st : St), i < E.length →
    gc 0 (liftAll [] ⟨keepOnly [0, 1, 5] st.fr, st.mem⟩) = some ⟨⟨25, [(0, Vls E), (1, .p (.fn 56 [])), (5, Vi i)]⟩, []⟩ →
    if srtD E i = true then U tbl Y 0 fn55_L0 st z = some (.exit 0, ⟨⟨25, [(0, Vls E), (1, .p (.fn 56 [])), (5, Vi 0), (10, Vb false)]⟩, []⟩, z)
    else ∃ fr, U tbl Y 0 fn55_L0 st z = some (.ret, ⟨fr, []⟩, z) ∧ getF fr.l 4 = Vb false := by
  intro i
  induction i with
  | zero =>
    intro st hi hg
    rw [if_pos (show srtD E 0 = true from rfl)]
    rw [fn55_L0, u_loop tbl Y 0 z hg]
    simp only [fn55_B0, fn55_P4, fn55_D4, Int.natCast_zero, go_sem, Nat.reduceBEq, Nat.reduceEqDiff, Nat.reduceLT, Nat.reduceLeDiff, Nat.reduceAdd, Nat.reduceMul, Nat.reduceSub, Nat.reduceDiv, Int.reduceLT, Int.reduceLE, Int.reduceToNat, Int.reduceNeg, Int.reduceSub, Int.reduceAdd, reduceIte, reduceCtorEq]
  | succ i ih =>
    intro st hi hg
    have g1 : E[i + 1]? = some (E.getD (i + 1) []) := by rw [List.getD_eq_getElem?_getD, List.getElem?_eq_getElem hi]; rfl
    have g2 : E[i]? = some (E.getD i []) := by rw [List.getD_eq_getElem?_getD, List.getElem?_eq_getElem (by omega)]; rfl
    obtain ⟨n1, b1⟩ := hne _ (List.mem_of_getElem? g1)
    obtain ⟨n2, b2⟩ := hne _ (List.mem_of_getElem? g2)
    have e56 := s56 _ _ n1 n2 b1 b2
    have c1 : (0 : Int) < ((i + 1 : Nat) : Int) := by omega
    have hw : IntKind.wrap .i64 (((i + 1 : Nat) : Int) - 1) = (i : Int) := by rw [wrap64 (by omega) (by omega)]; omega
    by_cases hc : hd0 (E.getD (i + 1) []) - hd0 (E.getD i []) < 0
    · have hsd : srtD E (i + 1) = false := by simp only [srtD]; rw [if_pos hc]
      rw [hsd, if_neg (by simp)]
      rw [fn55_L0, u_loop tbl Y 0 z hg]
      simp only [fn55_B0, fn55_P4, fn55_D4, c1, g1, g2, e56, hw, hc, gc, gcIdx, range1, range2, range3, range4, range5, List.filter_cons, List.idxOf?_cons, List.idxOf?_nil, List.getD_cons_zero, List.getD_cons_succ, List.getD_nil, List.contains_cons, List.contains_nil, List.elem_nil, Nat.reduceBEq, Bool.or_false, Bool.or_true, Bool.true_or, Bool.false_or, back, rangeIn, go_sem, Nat.reduceBEq, Nat.reduceEqDiff, Nat.reduceLT, Nat.reduceLeDiff, Nat.reduceAdd, Nat.reduceMul, Nat.reduceSub, Nat.reduceDiv, Int.reduceLT, Int.reduceLE, Int.reduceToNat, Int.reduceNeg, Int.reduceSub, Int.reduceAdd, reduceIte, reduceCtorEq]
      exact ⟨_, rfl, by simp only [go_sem, Nat.reduceBEq, Nat.reduceEqDiff, Nat.reduceLT, Nat.reduceLeDiff, Nat.reduceAdd, Nat.reduceMul, Nat.reduceSub, Nat.reduceDiv, Int.reduceLT, Int.reduceLE, Int.reduceToNat, Int.reduceNeg, Int.reduceSub, Int.reduceAdd, reduceIte, reduceCtorEq]⟩
    · have hsd : srtD E (i + 1) = srtD E i := by simp only [srtD]; rw [if_neg hc]
      rw [hsd]
      have hst : ∃ st1, U tbl Y 0 fn55_L0 st z = U tbl Y 0 fn55_L0 st1 z ∧ gc 0 (liftAll [] ⟨keepOnly [0, 1, 5] st1.fr, st1.mem⟩) = some ⟨⟨25, [(0, Vls E), (1, .p (.fn 56 [])), (5, Vi i)]⟩, []⟩ := by
        rw [fn55_L0, u_loop tbl Y 0 z hg]
        simp only [fn55_B0, fn55_P4, fn55_D4, c1, g1, g2, e56, hw, hc, gc, gcIdx, range1, range2, range3, range4, range5, List.filter_cons, List.idxOf?_cons, List.idxOf?_nil, List.getD_cons_zero, List.getD_cons_succ, List.getD_nil, List.contains_cons, List.contains_nil, List.elem_nil, Nat.reduceBEq, Bool.or_false, Bool.or_true, Bool.true_or, Bool.false_or, back, rangeIn, go_sem, Nat.reduceBEq, Nat.reduceEqDiff, Nat.reduceLT, Nat.reduceLeDiff, Nat.reduceAdd, Nat.reduceMul, Nat.reduceSub, Nat.reduceDiv, Int.reduceLT, Int.reduceLE, Int.reduceToNat, Int.reduceNeg, Int.reduceSub, Int.reduceAdd, reduceIte, reduceCtorEq]
        exact ⟨_, rfl, by simp only [gc, gcIdx, range1, range2, range3, range4, range5, List.filter_cons, List.idxOf?_cons, List.idxOf?_nil, List.getD_cons_zero, List.getD_cons_succ, List.getD_nil, List.contains_cons, List.contains_nil, List.elem_nil, Nat.reduceBEq, Bool.or_false, Bool.or_true, Bool.true_or, Bool.false_or, back, rangeIn, go_sem, Nat.reduceBEq, Nat.reduceEqDiff, Nat.reduceLT, Nat.reduceLeDiff, Nat.reduceAdd, Nat.reduceMul, Nat.reduceSub, Nat.reduceDiv, Int.reduceLT, Int.reduceLE, Int.reduceToNat, Int.reduceNeg, Int.reduceSub, Int.reduceAdd, reduceIte, reduceCtorEq]⟩
      obtain ⟨st1, e1, e2⟩ := hst
      rw [e1]
      exact ih st1 (by omega) e2

theorem s55 (E : List (List Int)) (hE : E.length ≤ 5000) (hne : ∀ l ∈ E, l ≠ [] ∧ 0 ≤ hd0 l ∧ hd0 l ≤ 10000) : (EL tbl).call 55 [Vls E, .p (.fn 56 [])] [] = some (Vb (srtD E (E.length - 1)), []) := by
  by_cases h0 : E.length = 0
  · have e : E = [] := List.eq_nil_of_length_eq_zero h0
    subst e
    have hw : IntKind.wrap .i64 (((0 : Nat) : Int) - 1) = -1 := by decide
    rw [call_fn' tbl (show tbl 55 = some fn55 from rfl) _ _ (Nat.le_of_ble_eq_true rfl)]
    simp only [fn55, fn55_L0, fn55_B0, fn55_P4, fn55_D4, u_loop, List.map_nil, List.length_nil, srtD, hw, gc, gcIdx, range1, range2, range3, range4, range5, List.filter_cons, List.idxOf?_cons, List.idxOf?_nil, List.getD_cons_zero, List.getD_cons_succ, List.getD_nil, List.contains_cons, List.contains_nil, List.elem_nil, Nat.reduceBEq, Bool.or_false, Bool.or_true, Bool.true_or, Bool.false_or, back, rangeIn, go_sem, Nat.reduceBEq, Nat.reduceEqDiff, Nat.reduceLT, Nat.reduceLeDiff, Nat.reduceAdd, Nat.reduceMul, Nat.reduceSub, Nat.reduceDiv, Int.reduceLT, Int.reduceLE, Int.reduceToNat, Int.reduceNeg, Int.reduceSub, Int.reduceAdd, reduceIte, reduceCtorEq]
  · obtain ⟨n, hn⟩ : ∃ n, E.length = n + 1 := ⟨E.length - 1, by omega⟩
    have hL := L55 hE hne noY () n ⟨⟨25, [(0, Vls E), (1, .p (.fn 56 [])), (5, Vi n)]⟩, []⟩ (by omega) (by simp only [gc, gcIdx, range1, range2, range3, range4, range5, List.filter_cons, List.idxOf?_cons, List.idxOf?_nil, List.getD_cons_zero, List.getD_cons_succ, List.getD_nil, List.contains_cons, List.contains_nil, List.elem_nil, Nat.reduceBEq, Bool.or_false, Bool.or_true, Bool.true_or, Bool.false_or, back, rangeIn, go_sem, Nat.reduceBEq, Nat.reduceEqDiff, Nat.reduceLT, Nat.reduceLeDiff, Nat.reduceAdd, Nat.reduceMul, Nat.reduceSub, Nat.reduceDiv, Int.reduceLT, Int.reduceLE, Int.reduceToNat, Int.reduceNeg, Int.reduceSub, Int.reduceAdd, reduceIte, reduceCtorEq])
    have hw : IntKind.wrap .i64 (((n + 1 : Nat) : Int) - 1) = (n : Int) := by rw [wrap64 (by omega) (by omega)]; omega
    rw [show E.length - 1 = n by omega]
    rw [call_fn' tbl (show tbl 55 = some fn55 from rfl) _ _ (Nat.le_of_ble_eq_true rfl)]
    cases hs : srtD E n with
    | true =>
      rw [if_pos hs] at hL
      simp only [fn55, fn55_P4, fn55_D4, hn, hw, hL, gc, gcIdx, range1, range2, range3, range4, range5, List.filter_cons, List.idxOf?_cons, List.idxOf?_nil, List.getD_cons_zero, List.getD_cons_succ, List.getD_nil, List.contains_cons, List.contains_nil, List.elem_nil, Nat.reduceBEq, Bool.or_false, Bool.or_true, Bool.true_or, Bool.false_or, back, rangeIn, go_sem, Nat.reduceBEq, Nat.reduceEqDiff, Nat.reduceLT, Nat.reduceLeDiff, Nat.reduceAdd, Nat.reduceMul, Nat.reduceSub, Nat.reduceDiv, Int.reduceLT, Int.reduceLE, Int.reduceToNat, Int.reduceNeg, Int.reduceSub, Int.reduceAdd, reduceIte, reduceCtorEq]
    | false =>
      rw [if_neg (by simp [hs])] at hL
      obtain ⟨fr, h1, h2⟩ := hL
      simp only [fn55, fn55_P4, fn55_D4, hn, hw, h1, h2, gc, gcIdx, range1, range2, range3, range4, range5, List.filter_cons, List.idxOf?_cons, List.idxOf?_nil, List.getD_cons_zero, List.getD_cons_succ, List.getD_nil, List.contains_cons, List.contains_nil, List.elem_nil, Nat.reduceBEq, Bool.or_false, Bool.or_true, Bool.true_or, Bool.false_or, back, rangeIn, go_sem, Nat.reduceBEq, Nat.reduceEqDiff, Nat.reduceLT, Nat.reduceLeDiff, Nat.reduceAdd, Nat.reduceMul, Nat.reduceSub, Nat.reduceDiv, Int.reduceLT, Int.reduceLE, Int.reduceToNat, Int.reduceNeg, Int.reduceSub, Int.reduceAdd, reduceIte, reduceCtorEq]
end Go.Am
