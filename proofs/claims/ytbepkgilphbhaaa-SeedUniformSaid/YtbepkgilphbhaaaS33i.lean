/- What some functions of this seat answer. No condition. -/
import Derived.Test.YtbepkgilphbhaaaS33h
import Derived.KernelRfl
namespace Go.Am
open Go
set_option linter.unusedSimpArgs false
set_option linter.unusedVariables false
set_option maxRecDepth 100000
open Go.Proofs.Ytbepkgilphbhaaa.Fns

/-! ### All orders of a small deck -/

/-- The cards, as seeds say them. -/
def pl (m : Nat) (s : Nat) : List Int := (prm (ints 17) 0 (digs s (rdx m))).take m
/-- The number that a list of cards is told apart by. -/
def cd (l : List Int) (c : Int) : Int := l.foldl (fun c x => IntKind.wrap .i64 (IntKind.wrap .i64 (c * 6) + x)) c
def fct : Nat → Nat
  | 0 => 1
  | n + 1 => (n + 1) * fct n
/-- Digits of an order, and what they are worth. -/
def rkv (m : Nat) (l : List Int) : Option Int := (rk m (ints 17) 0 l).map fun ks => (jn ks (rdx m) m 0).1
def rke (m : Nat) (l : List Int) : Bool := match rk m (ints 17) 0 l with | some ks => (jn ks (rdx m) m 0).2 == 0 | none => false

/-- All that is asked of a seed. -/
def good (m s : Nat) : Bool := (pl m s).length == m && rkv m (pl m s) == some (s : Int) && rke m (pl m s) && (List.range m).all (fun i => (List.range i).all fun k => !((pl m s).getD i 0 == (pl m s).getD k 0)) && (pl m s).all (fun x => decide (0 ≤ x) && decide (x < m))
def fresh (m s : Nat) : Bool := (List.range s).all fun t => !(cd (pl m t) 0 == cd (pl m s) 0)
theorem good_all : (List.range 6).all (fun m => (List.range (fct m)).all fun s => good m s) = true := by decide +kernel
theorem fresh_all : (List.range 6).all (fun m => (List.range (fct m)).all fun s => fresh m s) = true := by decide +kernel

theorem good_of {m s : Nat} (hm : m < 6) (hs : s < fct m) : good m s = true := by
  have := List.all_eq_true.1 good_all m (by simp [hm])
  exact List.all_eq_true.1 this s (by simp [hs])
theorem fresh_of {m s : Nat} (hm : m < 6) (hs : s < fct m) : fresh m s = true := by
  have := List.all_eq_true.1 fresh_all m (by simp [hm])
  exact List.all_eq_true.1 this s (by simp [hs])

section
variable {m : Nat} {a s c : Int} {S : List P} {l : List Int}

theorem L8_1 (hl : l.length = m) (hm : m < 6) {i : Nat} (hi : i < m) (hne : ∀ k, k < i → l.getD i 0 ≠ l.getD k 0) {σ : Type} (Y : List P → σ → Option (Bool × σ)) (z : σ) : ∀ (j k : Nat) (st : St), k + j = i →
    gc 0 (liftAll [] ⟨keepOnly [0, 3, 5, 6, 7, 11, 12, 13] st.fr, st.mem⟩) = some ⟨⟨126, [(0, Vi m), (3, Vi a), (5, .sl 0 0 S), (6, Vi s), (7, Vl l), (11, Vi c), (12, Vi i), (13, Vi k)]⟩, [.tok 0 S.length]⟩ →
    U tbl Y 0 fn8_L1 st z = some (.exit 6, ⟨⟨126, [(0, Vi m), (3, Vi a), (5, .sl 0 0 S), (6, Vi s), (7, Vl l), (11, Vi c), (12, Vi i), (13, Vi i), (67, Vb false)]⟩, [.tok 0 S.length]⟩, z) := by
  intro j
  induction j with
  | zero =>
    intro k st hk hg
    have e : k = i := by omega
    subst e
    rw [fn8_L1, u_loop tbl Y 0 z hg]
    simp only [fn8_B1, fn8_P22, fn8_D22, natnlt (Nat.le_refl k), go_sem, Nat.reduceBEq, Nat.reduceEqDiff, Nat.reduceLT, Nat.reduceLeDiff, Nat.reduceAdd, Nat.reduceMul, Nat.reduceSub, Nat.reduceDiv, Int.reduceLT, Int.reduceLE, Int.reduceToNat, Int.reduceNeg, Int.reduceSub, Int.reduceAdd, reduceIte, reduceCtorEq]
  | succ j ih =>
    intro k st hk hg
    have g1 : l[i]? = some (l.getD i 0) := by rw [List.getD_eq_getElem?_getD, List.getElem?_eq_getElem (by omega)]; rfl
    have g2 : l[k]? = some (l.getD k 0) := by rw [List.getD_eq_getElem?_getD, List.getElem?_eq_getElem (by omega)]; rfl
    have hb : (l.getD i 0 == l.getD k 0) = false := by simpa using hne k (by omega)
    rw [fn8_L1, u_loop tbl Y 0 z hg]
    simp only [fn8_B1, fn8_P22, fn8_D22, natlt (show k < i by omega), g1, g2, hb, succ64 (show k < 9223372036854775807 by omega), go_sem, Nat.reduceBEq, Nat.reduceEqDiff, Nat.reduceLT, Nat.reduceLeDiff, Nat.reduceAdd, Nat.reduceMul, Nat.reduceSub, Nat.reduceDiv, Int.reduceLT, Int.reduceLE, Int.reduceToNat, Int.reduceNeg, Int.reduceSub, Int.reduceAdd, reduceIte, reduceCtorEq]
    exact ih (k + 1) _ (by omega) (by simp only [gc, gcIdx, range1, range2, range3, range4, range5, List.filter_cons, List.idxOf?_cons, List.idxOf?_nil, List.getD_cons_zero, List.getD_cons_succ, List.getD_nil, List.contains_cons, List.contains_nil, List.elem_nil, Nat.reduceBEq, Bool.or_false, Bool.or_true, Bool.true_or, Bool.false_or, back, rangeIn, go_sem, Nat.reduceBEq, Nat.reduceEqDiff, Nat.reduceLT, Nat.reduceLeDiff, Nat.reduceAdd, Nat.reduceMul, Nat.reduceSub, Nat.reduceDiv, Int.reduceLT, Int.reduceLE, Int.reduceToNat, Int.reduceNeg, Int.reduceSub, Int.reduceAdd, reduceIte, reduceCtorEq])

theorem L8_2 (hl : l.length = m) (hm : m < 6) (hne : ∀ i k, i < m → k < i → l.getD i 0 ≠ l.getD k 0) (hr : ∀ x ∈ l, 0 ≤ x ∧ x < m) {σ : Type} (Y : List P → σ → Option (Bool × σ)) (z : σ) : ∀ (r : List Int) (i : Nat) (c : Int) (st : St), l.drop i = r → i ≤ m →
    gc 0 (liftAll [] ⟨keepOnly [0, 3, 5, 6, 7, 11, 12] st.fr, st.mem⟩) = some ⟨⟨126, [(0, Vi m), (3, Vi a), (5, .sl 0 0 S), (6, Vi s), (7, Vl l), (11, Vi c), (12, Vi i)]⟩, [.tok 0 S.length]⟩ →
    U tbl Y 0 fn8_L2 st z = some (.exit 4, ⟨⟨126, [(0, Vi m), (3, Vi a), (5, .sl 0 0 S), (6, Vi s), (7, Vl l), (11, Vi (cd r c)), (12, Vi m), (62, Vb false)]⟩, [.tok 0 S.length]⟩, z) := by
  intro r
  induction r with
  | nil =>
    intro i c st hd hi hg
    have e : i = m := by have := drop_nil_facts hd; omega
    subst e
    rw [fn8_L2, u_loop tbl Y 0 z hg]
    simp only [fn8_B2, fn8_P22, fn8_D22, natnlt (Nat.le_refl i), cd, List.foldl_nil, go_sem, Nat.reduceBEq, Nat.reduceEqDiff, Nat.reduceLT, Nat.reduceLeDiff, Nat.reduceAdd, Nat.reduceMul, Nat.reduceSub, Nat.reduceDiv, Int.reduceLT, Int.reduceLE, Int.reduceToNat, Int.reduceNeg, Int.reduceSub, Int.reduceAdd, reduceIte, reduceCtorEq]
  | cons x r ih =>
    intro i c st hd hi hg
    obtain ⟨h1, h2, h3⟩ := drop_cons_facts hd
    have him : i < m := by omega
    obtain ⟨x0, x1⟩ := hr x (List.mem_of_getElem? h1)
    have n0 : ¬ x < 0 := by omega
    have n1 : ¬ (m : Int) ≤ x := by omega
    have hL := L8_1 (m := m) (a := a) (s := s) (c := c) (S := S) (l := l) hl hm him (fun k hk => hne i k him hk) Y z i 0 ⟨⟨126, [(0, Vi m), (3, Vi a), (5, .sl 0 0 S), (6, Vi s), (7, Vl l), (11, Vi c), (12, Vi i), (13, Vi (0 : Nat)), (62, Vb true)]⟩, [.tok 0 S.length]⟩ (by omega) (by simp only [gc, gcIdx, range1, range2, range3, range4, range5, List.filter_cons, List.idxOf?_cons, List.idxOf?_nil, List.getD_cons_zero, List.getD_cons_succ, List.getD_nil, List.contains_cons, List.contains_nil, List.elem_nil, Nat.reduceBEq, Bool.or_false, Bool.or_true, Bool.true_or, Bool.false_or, back, rangeIn, go_sem, Nat.reduceBEq, Nat.reduceEqDiff, Nat.reduceLT, Nat.reduceLeDiff, Nat.reduceAdd, Nat.reduceMul, Nat.reduceSub, Nat.reduceDiv, Int.reduceLT, Int.reduceLE, Int.reduceToNat, Int.reduceNeg, Int.reduceSub, Int.reduceAdd, reduceIte, reduceCtorEq])
    simp only [Int.natCast_zero] at hL
    rw [fn8_L2, u_loop tbl Y 0 z hg]
    simp only [fn8_B2, fn8_P22, fn8_D22, natlt him, hL, h1, n0, n1, succ64 (show i < 9223372036854775807 by omega), go_sem, Nat.reduceBEq, Nat.reduceEqDiff, Nat.reduceLT, Nat.reduceLeDiff, Nat.reduceAdd, Nat.reduceMul, Nat.reduceSub, Nat.reduceDiv, Int.reduceLT, Int.reduceLE, Int.reduceToNat, Int.reduceNeg, Int.reduceSub, Int.reduceAdd, reduceIte, reduceCtorEq]
    exact ih (i + 1) _ _ h3 (by omega) (by simp only [gc, gcIdx, range1, range2, range3, range4, range5, List.filter_cons, List.idxOf?_cons, List.idxOf?_nil, List.getD_cons_zero, List.getD_cons_succ, List.getD_nil, List.contains_cons, List.contains_nil, List.elem_nil, Nat.reduceBEq, Bool.or_false, Bool.or_true, Bool.true_or, Bool.false_or, back, rangeIn, go_sem, Nat.reduceBEq, Nat.reduceEqDiff, Nat.reduceLT, Nat.reduceLeDiff, Nat.reduceAdd, Nat.reduceMul, Nat.reduceSub, Nat.reduceDiv, Int.reduceLT, Int.reduceLE, Int.reduceToNat, Int.reduceNeg, Int.reduceSub, Int.reduceAdd, reduceIte, reduceCtorEq])

theorem L8_3 {Z : List Int} (hZ : Z.length ≤ 1000) (hne : ∀ x ∈ Z, x ≠ c) {σ : Type} (Y : List P → σ → Option (Bool × σ)) (z : σ) : ∀ (r : List Int) (j : Nat) (st : St), Z.drop j = r → j ≤ Z.length →
    gc 0 (liftAll [] ⟨keepOnly [0, 3, 5, 6, 11, 14] st.fr, st.mem⟩) = some ⟨⟨126, [(0, Vi m), (3, Vi a), (5, .sl 0 0 (Z.map Pi)), (6, Vi s), (11, Vi c), (14, Vi j)]⟩, [.tok 0 Z.length]⟩ →
    U tbl Y 0 fn8_L3 st z = some (.exit 8, ⟨⟨126, [(0, Vi m), (3, Vi a), (5, .sl 0 0 (Z.map Pi)), (6, Vi s), (11, Vi c), (14, Vi Z.length), (102, Vb false)]⟩, [.tok 0 Z.length]⟩, z) := by
  intro r
  induction r with
  | nil =>
    intro j st hd hj hg
    have e : j = Z.length := by have := drop_nil_facts hd; omega
    subst e
    rw [fn8_L3, u_loop tbl Y 0 z hg]
    simp only [fn8_B3, fn8_P22, fn8_D22, natnlt (Nat.le_refl Z.length), go_sem, Nat.reduceBEq, Nat.reduceEqDiff, Nat.reduceLT, Nat.reduceLeDiff, Nat.reduceAdd, Nat.reduceMul, Nat.reduceSub, Nat.reduceDiv, Int.reduceLT, Int.reduceLE, Int.reduceToNat, Int.reduceNeg, Int.reduceSub, Int.reduceAdd, reduceIte, reduceCtorEq]
  | cons x r ih =>
    intro j st hd hj hg
    obtain ⟨h1, h2, h3⟩ := drop_cons_facts hd
    have hb : (x == c) = false := by simpa using hne x (List.mem_of_getElem? h1)
    rw [fn8_L3, u_loop tbl Y 0 z hg]
    simp only [fn8_B3, fn8_P22, fn8_D22, natlt h2, h1, hb, succ64 (show j < 9223372036854775807 by omega), go_sem, Nat.reduceBEq, Nat.reduceEqDiff, Nat.reduceLT, Nat.reduceLeDiff, Nat.reduceAdd, Nat.reduceMul, Nat.reduceSub, Nat.reduceDiv, Int.reduceLT, Int.reduceLE, Int.reduceToNat, Int.reduceNeg, Int.reduceSub, Int.reduceAdd, reduceIte, reduceCtorEq]
    exact ih (j + 1) _ h3 (by omega) (by simp only [gc, gcIdx, range1, range2, range3, range4, range5, List.filter_cons, List.idxOf?_cons, List.idxOf?_nil, List.getD_cons_zero, List.getD_cons_succ, List.getD_nil, List.contains_cons, List.contains_nil, List.elem_nil, Nat.reduceBEq, Bool.or_false, Bool.or_true, Bool.true_or, Bool.false_or, back, rangeIn, go_sem, Nat.reduceBEq, Nat.reduceEqDiff, Nat.reduceLT, Nat.reduceLeDiff, Nat.reduceAdd, Nat.reduceMul, Nat.reduceSub, Nat.reduceDiv, Int.reduceLT, Int.reduceLE, Int.reduceToNat, Int.reduceNeg, Int.reduceSub, Int.reduceAdd, reduceIte, reduceCtorEq])
end

theorem fct_prod : ∀ m, m < 6 → prod (rdx m) 1 = (fct m : Int) := by decide
theorem fct_le : ∀ m, m < 6 → fct m ≤ 120 := by decide

theorem pl_says {m s : Nat} (hm : m < 6) (hs : s < fct m) : (EL tbl).call 27 [Vi m, Vi s] [] = some (.p (.tuple [Pl (pl m s), Pi 0]), []) := by
  have h := s27 m s (by omega) (prod_le m (by omega))
  unfold permOf at h
  rw [if_neg (by omega), fct_prod m hm, if_neg (by omega)] at h
  exact h

theorem pl_back {m s : Nat} (hm : m < 6) (hs : s < fct m) : (EL tbl).call 29 [Vl (pl m s)] [] = some (.p (.tuple [Pi s, Pi 0]), []) := by
  have hg := good_of hm hs
  simp only [good, Bool.and_eq_true, beq_iff_eq] at hg
  obtain ⟨⟨⟨⟨g1, g2⟩, g3⟩, g4⟩, g5⟩ := hg
  have h := s29 (pl m s)
  unfold rankOf at h
  rw [if_neg (by omega), g1] at h
  unfold rkv at g2
  unfold rke at g3
  cases hr : rk m (ints 17) 0 (pl m s) with
  | none => rw [hr] at g2; simp at g2
  | some ks =>
    rw [hr] at g2 g3 h
    simp only [Option.map_some, Option.some.injEq] at g2
    simp only [beq_iff_eq] at g3
    simp only [g2, g3] at h
    exact h

/-- The numbers of the orders that have been. -/
def been (m s : Nat) : List Int := (List.range s).map fun t => cd (pl m t) 0

theorem L8_4 {m : Nat} (hm : m < 6) {σ : Type} (Y : List P → σ → Option (Bool × σ)) (z : σ) : ∀ (j s : Nat) (st : St), s + j = fct m →
    gc 0 (liftAll [5] ⟨keepOnly [0, 3, 5, 6] st.fr, st.mem⟩) = some ⟨⟨126, [(0, Vi m), (3, Vi (fct m : Nat)), (5, .sl 0 0 ((been m s).map Pi)), (6, Vi s)]⟩, [.tok 0 (been m s).length]⟩ →
    U tbl Y 0 fn8_L4 st z = some (.exit 2, ⟨⟨126, [(0, Vi m), (3, Vi (fct m : Nat)), (5, .sl 0 0 ((been m (fct m)).map Pi)), (6, Vi (fct m : Nat)), (29, Vb false)]⟩, [.tok 0 (been m (fct m)).length]⟩, z) := by
  intro j
  induction j with
  | zero =>
    intro s st hs hg
    have e : s = fct m := by omega
    subst e
    rw [fn8_L4, u_loop tbl Y 0 z hg]
    simp only [fn8_B4, fn8_P22, fn8_D22, natnlt (Nat.le_refl (fct m)), go_sem, Nat.reduceBEq, Nat.reduceEqDiff, Nat.reduceLT, Nat.reduceLeDiff, Nat.reduceAdd, Nat.reduceMul, Nat.reduceSub, Nat.reduceDiv, Int.reduceLT, Int.reduceLE, Int.reduceToNat, Int.reduceNeg, Int.reduceSub, Int.reduceAdd, reduceIte, reduceCtorEq]
  | succ j ih =>
    intro s st hs hg
    have hsf : s < fct m := by omega
    have hF := fct_le m hm
    have hgood := good_of hm hsf
    simp only [good, Bool.and_eq_true, beq_iff_eq] at hgood
    obtain ⟨⟨⟨⟨g1, g2⟩, g3⟩, g4⟩, g5⟩ := hgood
    have hfresh := fresh_of hm hsf
    have e27 := pl_says hm hsf
    have e29 := pl_back hm hsf
    have hbl : (been m s).length = s := by simp [been]
    have hlen : (((pl m s).length : Int) != (m : Int)) = false := by simp [g1]
    have h2 := L8_2 (m := m) (a := (fct m : Nat)) (s := s) (S := (been m s).map Pi) (l := pl m s) g1 hm (fun i k hi hk => by
      have := List.all_eq_true.1 (List.all_eq_true.1 g4 i (by simp [hi])) k (by simp [hk])
      simpa using this) (fun x hx => by simpa using List.all_eq_true.1 g5 x hx) Y z (pl m s) 0 0 ⟨⟨126, [(0, Vi m), (3, Vi (fct m : Nat)), (5, .sl 0 0 ((been m s).map Pi)), (6, Vi s), (7, Vl (pl m s)), (11, Vi 0), (12, Vi (0 : Nat)), (29, Vb true), (59, Vb false)]⟩, [.tok 0 (been m s).length]⟩ (by simp) (by omega) (by simp only [gc, gcIdx, range1, range2, range3, range4, range5, List.filter_cons, List.idxOf?_cons, List.idxOf?_nil, List.getD_cons_zero, List.getD_cons_succ, List.getD_nil, List.contains_cons, List.contains_nil, List.elem_nil, Nat.reduceBEq, Bool.or_false, Bool.or_true, Bool.true_or, Bool.false_or, back, rangeIn, go_sem, Nat.reduceBEq, Nat.reduceEqDiff, Nat.reduceLT, Nat.reduceLeDiff, Nat.reduceAdd, Nat.reduceMul, Nat.reduceSub, Nat.reduceDiv, Int.reduceLT, Int.reduceLE, Int.reduceToNat, Int.reduceNeg, Int.reduceSub, Int.reduceAdd, reduceIte, reduceCtorEq])
    have h3 := L8_3 (m := m) (a := (fct m : Nat)) (s := s) (c := cd (pl m s) 0) (Z := been m s) (by omega) (fun x hx => by
      simp only [been, List.mem_map, List.mem_range] at hx
      obtain ⟨t, ht, rfl⟩ := hx
      simpa using List.all_eq_true.1 hfresh t (by simp [ht])) Y z (been m s) 0 ⟨⟨126, [(0, Vi m), (3, Vi (fct m : Nat)), (5, .sl 0 0 ((been m s).map Pi)), (6, Vi s), (7, Vl (pl m s)), (11, Vi (cd (pl m s) 0)), (12, Vi m), (14, Vi (0 : Nat)), (62, Vb false)]⟩, [.tok 0 (been m s).length]⟩ (by simp) (by omega) (by simp only [gc, gcIdx, range1, range2, range3, range4, range5, List.filter_cons, List.idxOf?_cons, List.idxOf?_nil, List.getD_cons_zero, List.getD_cons_succ, List.getD_nil, List.contains_cons, List.contains_nil, List.elem_nil, Nat.reduceBEq, Bool.or_false, Bool.or_true, Bool.true_or, Bool.false_or, back, rangeIn, go_sem, Nat.reduceBEq, Nat.reduceEqDiff, Nat.reduceLT, Nat.reduceLeDiff, Nat.reduceAdd, Nat.reduceMul, Nat.reduceSub, Nat.reduceDiv, Int.reduceLT, Int.reduceLE, Int.reduceToNat, Int.reduceNeg, Int.reduceSub, Int.reduceAdd, reduceIte, reduceCtorEq])
    simp only [Int.natCast_zero, List.length_map] at h2 h3
    have hmost : ((been m s).length + 1 ≤ most) = True := by simp [most]; omega
    have hnext : (been m s).map Pi ++ [Pi (cd (pl m s) 0)] = (been m (s + 1)).map Pi := by simp [been, List.range_succ]
    have hnl : (been m s).length + 1 = (been m (s + 1)).length := by simp [been]
    rw [fn8_L4, u_loop tbl Y 0 z hg]
    simp only [fn8_B4, fn8_P22, fn8_D22, natlt hsf, e27, e29, bne_self_eq_false, hlen, h2, h3, hmost, succ64 (show s < 9223372036854775807 by omega), gc, gcIdx, range1, range2, range3, range4, range5, List.filter_cons, List.idxOf?_cons, List.idxOf?_nil, List.getD_cons_zero, List.getD_cons_succ, List.getD_nil, List.contains_cons, List.contains_nil, List.elem_nil, Nat.reduceBEq, Bool.or_false, Bool.or_true, Bool.true_or, Bool.false_or, back, rangeIn, go_sem, Nat.reduceBEq, Nat.reduceEqDiff, Nat.reduceLT, Nat.reduceLeDiff, Nat.reduceAdd, Nat.reduceMul, Nat.reduceSub, Nat.reduceDiv, Int.reduceLT, Int.reduceLE, Int.reduceToNat, Int.reduceNeg, Int.reduceSub, Int.reduceAdd, reduceIte, reduceCtorEq]
    exact ih (s + 1) _ (by omega) (by simp only [hnext, hnl, gc, gcIdx, range1, range2, range3, range4, range5, List.filter_cons, List.idxOf?_cons, List.idxOf?_nil, List.getD_cons_zero, List.getD_cons_succ, List.getD_nil, List.contains_cons, List.contains_nil, List.elem_nil, Nat.reduceBEq, Bool.or_false, Bool.or_true, Bool.true_or, Bool.false_or, back, rangeIn, go_sem, Nat.reduceBEq, Nat.reduceEqDiff, Nat.reduceLT, Nat.reduceLeDiff, Nat.reduceAdd, Nat.reduceMul, Nat.reduceSub, Nat.reduceDiv, Int.reduceLT, Int.reduceLE, Int.reduceToNat, Int.reduceNeg, Int.reduceSub, Int.reduceAdd, reduceIte, reduceCtorEq])

def k8 (m : Nat) : Int := if m < 2 then 2 else (m : Int) + 1
theorem K8_0 : runC (evalN tbl 1000) noY 0 1000 fn8_L0 ⟨⟨126, [(0, Vi 0), (3, Vi 1), (4, Vi 2)]⟩, []⟩ () = some (.exit 0, ⟨⟨126, [(0, Vi 0), (3, Vi (fct 0)), (4, Vi (k8 0)), (21, Vb false)]⟩, []⟩, ()) := by kernel_rfl
theorem K8_1 : runC (evalN tbl 1000) noY 0 1000 fn8_L0 ⟨⟨126, [(0, Vi 1), (3, Vi 1), (4, Vi 2)]⟩, []⟩ () = some (.exit 0, ⟨⟨126, [(0, Vi 1), (3, Vi (fct 1)), (4, Vi (k8 1)), (21, Vb false)]⟩, []⟩, ()) := by kernel_rfl
theorem K8_2 : runC (evalN tbl 1000) noY 0 1000 fn8_L0 ⟨⟨126, [(0, Vi 2), (3, Vi 1), (4, Vi 2)]⟩, []⟩ () = some (.exit 0, ⟨⟨126, [(0, Vi 2), (3, Vi (fct 2)), (4, Vi (k8 2)), (21, Vb false)]⟩, []⟩, ()) := by kernel_rfl
theorem K8_3 : runC (evalN tbl 1000) noY 0 1000 fn8_L0 ⟨⟨126, [(0, Vi 3), (3, Vi 1), (4, Vi 2)]⟩, []⟩ () = some (.exit 0, ⟨⟨126, [(0, Vi 3), (3, Vi (fct 3)), (4, Vi (k8 3)), (21, Vb false)]⟩, []⟩, ()) := by kernel_rfl
theorem K8_4 : runC (evalN tbl 1000) noY 0 1000 fn8_L0 ⟨⟨126, [(0, Vi 4), (3, Vi 1), (4, Vi 2)]⟩, []⟩ () = some (.exit 0, ⟨⟨126, [(0, Vi 4), (3, Vi (fct 4)), (4, Vi (k8 4)), (21, Vb false)]⟩, []⟩, ()) := by kernel_rfl
theorem K8_5 : runC (evalN tbl 1000) noY 0 1000 fn8_L0 ⟨⟨126, [(0, Vi 5), (3, Vi 1), (4, Vi 2)]⟩, []⟩ () = some (.exit 0, ⟨⟨126, [(0, Vi 5), (3, Vi (fct 5)), (4, Vi (k8 5)), (21, Vb false)]⟩, []⟩, ()) := by kernel_rfl
theorem K8 (m : Nat) (h : m < 6) : U tbl noY 0 fn8_L0 ⟨⟨126, [(0, Vi m), (3, Vi 1), (4, Vi 2)]⟩, []⟩ () = some (.exit 0, ⟨⟨126, [(0, Vi m), (3, Vi (fct m : Nat)), (4, Vi (k8 m)), (21, Vb false)]⟩, []⟩, ()) := by
  rcases m with _ | ⟨_ | ⟨_ | ⟨_ | ⟨_ | ⟨_ | n⟩⟩⟩⟩⟩
  · exact U_of_run tbl K8_0
  · exact U_of_run tbl K8_1
  · exact U_of_run tbl K8_2
  · exact U_of_run tbl K8_3
  · exact U_of_run tbl K8_4
  · exact U_of_run tbl K8_5
  · omega

theorem s8 (n : Int) : (EL tbl).call 8 [Vi n] [] = some (Vb true, []) := by
  have aw : (EL tbl).call 11 [] [] = some (Vb true, []) := awake33
  have h0 := Int.emod_nonneg n (show (6 : Int) ≠ 0 by decide)
  have h1 := Int.emod_lt_of_pos n (show (0 : Int) < 6 by decide)
  have e19 := s19 n 6 (by decide) (by decide)
  obtain ⟨m, hm⟩ := Int.eq_ofNat_of_zero_le h0
  rw [hm] at e19 h1
  have hm6 : m < 6 := by omega
  have hK := K8 m hm6
  have hL := L8_4 hm6 noY () (fct m) 0 ⟨⟨126, [(0, Vi m), (3, Vi (fct m : Nat)), (4, Vi (k8 m)), (5, .nil 0), (6, Vi (0 : Nat)), (21, Vb false)]⟩, []⟩ (by omega) (by simp only [been, List.range_zero, gc, gcIdx, range1, range2, range3, range4, range5, List.filter_cons, List.idxOf?_cons, List.idxOf?_nil, List.getD_cons_zero, List.getD_cons_succ, List.getD_nil, List.contains_cons, List.contains_nil, List.elem_nil, Nat.reduceBEq, Bool.or_false, Bool.or_true, Bool.true_or, Bool.false_or, back, rangeIn, go_sem, Nat.reduceBEq, Nat.reduceEqDiff, Nat.reduceLT, Nat.reduceLeDiff, Nat.reduceAdd, Nat.reduceMul, Nat.reduceSub, Nat.reduceDiv, Int.reduceLT, Int.reduceLE, Int.reduceToNat, Int.reduceNeg, Int.reduceSub, Int.reduceAdd, reduceIte, reduceCtorEq])
  have e27 := s27 m (fct m : Nat) (by omega) (prod_le m (by omega))
  unfold permOf at e27
  rw [if_neg (by omega), fct_prod m hm6, if_pos (Int.le_refl _)] at e27
  simp only [Int.natCast_zero] at hL
  rw [call_fn' tbl (show tbl 8 = some fn8 from rfl) _ _ (Nat.le_of_ble_eq_true rfl)]
  simp only [fn8, fn8_P22, fn8_D22, e19, hK, hL, e27, aw, gc, gcIdx, range1, range2, range3, range4, range5, List.filter_cons, List.idxOf?_cons, List.idxOf?_nil, List.getD_cons_zero, List.getD_cons_succ, List.getD_nil, List.contains_cons, List.contains_nil, List.elem_nil, Nat.reduceBEq, Bool.or_false, Bool.or_true, Bool.true_or, Bool.false_or, back, rangeIn, go_sem, Nat.reduceBEq, Nat.reduceEqDiff, Nat.reduceLT, Nat.reduceLeDiff, Nat.reduceAdd, Nat.reduceMul, Nat.reduceSub, Nat.reduceDiv, Int.reduceLT, Int.reduceLE, Int.reduceToNat, Int.reduceNeg, Int.reduceSub, Int.reduceAdd, reduceIte, reduceCtorEq]
end Go.Am
