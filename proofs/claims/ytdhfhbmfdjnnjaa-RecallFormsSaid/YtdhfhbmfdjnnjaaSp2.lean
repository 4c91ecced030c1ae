/- What some functions of this seat answer, part 2. No condition. -/
import Derived.Test.YtdhfhbmfdjnnjaaSp1
import Derived.Test.YtdhfhbmfdjnnjaaAmE
import Derived.Test.YtdhfhbmfdjnnjaaSp0
namespace Go.Am
open Go
set_option linter.unusedSimpArgs false
set_option linter.unusedVariables false
set_option maxRecDepth 100000
open Go.Proofs.Ytdhfhbmfdjnnjaa.Fns

/-- The first fault of a node by itself. -/
def errN (g : Gm) : List Nd → Int
  | [] => 0
  | x :: r => if nodeE g x = 0 then errN g r else nodeE g x

/-- Is a node of another kind than its set? -/
def tyB (g : Gm) (x : Nd) : Bool := (x.kind == 2) && (let y := g.infos.getD x.info.toNat ⟨0, 0⟩; !(y.player == x.player) || !(y.actions == x.next.length))

theorem ft : (false != true) = true := rfl

section
variable {g : Gm}

set_option maxHeartbeats 4000000 in
theorem L33_0 (hn : g.nodes.length ≤ 5000) (hb : ∀ x ∈ g.nodes, x.weights.length ≤ 2000000 ∧ x.pay.length ≤ 2000000) {σ : Type} (Y : List P → σ → Option (Bool × σ)) (z : σ) : ∀ (r : List Nd) (k : Nat) (st : St), g.nodes.drop k = r → k ≤ g.nodes.length →
    gc 0 (liftAll [] ⟨keepOnly [1, 39, 40, 41] st.fr, st.mem⟩) = some ⟨⟨104, [(1, .ptr 0 0), (39, .p (.sl 6 (g.nodes.map Pn))), (40, Vi g.nodes.length), (41, Vi k)]⟩, [Cg g]⟩ →
    if errN g r = 0 then U tbl Y 0 fn33_L0 st z = some (.exit 0, ⟨⟨104, [(1, .ptr 0 0), (39, .p (.sl 6 (g.nodes.map Pn))), (40, Vi g.nodes.length), (41, Vi g.nodes.length), (42, Vb false)]⟩, [Cg g]⟩, z)
    else ∃ fr m, U tbl Y 0 fn33_L0 st z = some (.ret, ⟨fr, m⟩, z) ∧ getF fr.l 2 = Vi (errN g r) := by
  intro r
  induction r with
  | nil =>
    intro k st hd hk hg
    have e : k = g.nodes.length := by have := drop_nil_facts hd; omega
    subst e
    rw [if_pos (show errN g [] = 0 from rfl)]
    rw [fn33_L0, u_loop tbl Y 0 z hg]
    simp only [fn33_B0, fn33_P18, fn33_D18, natnlt (Nat.le_refl g.nodes.length), go_sem, Nat.reduceBEq, Nat.reduceEqDiff, Nat.reduceLT, Nat.reduceLeDiff, Nat.reduceAdd, Nat.reduceMul, Nat.reduceSub, Nat.reduceDiv, Int.reduceLT, Int.reduceLE, Int.reduceToNat, Int.reduceNeg, Int.reduceSub, Int.reduceAdd, reduceIte, reduceCtorEq]
  | cons x r ih =>
    intro k st hd hk hg
    obtain ⟨h1, h2, h3⟩ := drop_cons_facts hd
    obtain ⟨w1, w2⟩ := hb x (List.mem_of_getElem? h1)
    have e50 := s50 g x w1 w2
    by_cases hx : nodeE g x = 0
    · have e : errN g (x :: r) = errN g r := by simp only [errN]; rw [if_pos hx]
      have hb0 : (nodeE g x != 0) = false := by rw [hx]; rfl
      rw [e]
      have hst : ∃ st1, U tbl Y 0 fn33_L0 st z = U tbl Y 0 fn33_L0 st1 z ∧ gc 0 (liftAll [] ⟨keepOnly [1, 39, 40, 41] st1.fr, st1.mem⟩) = some ⟨⟨104, [(1, .ptr 0 0), (39, .p (.sl 6 (g.nodes.map Pn))), (40, Vi g.nodes.length), (41, Vi (k + 1 : Nat))]⟩, [Cg g]⟩ := by
        rw [fn33_L0, u_loop tbl Y 0 z hg]
        simp only [fn33_B0, fn33_P18, fn33_D18, natlt h2, h1, e50, hb0, succ64 (show k < 9223372036854775807 by omega), gc, gcIdx, range1, range2, range3, range4, range5, List.filter_cons, List.idxOf?_cons, List.idxOf?_nil, List.getD_cons_zero, List.getD_cons_succ, List.getD_nil, List.contains_cons, List.contains_nil, List.elem_nil, Nat.reduceBEq, Bool.or_false, Bool.or_true, Bool.true_or, Bool.false_or, back, rangeIn, go_sem, Nat.reduceBEq, Nat.reduceEqDiff, Nat.reduceLT, Nat.reduceLeDiff, Nat.reduceAdd, Nat.reduceMul, Nat.reduceSub, Nat.reduceDiv, Int.reduceLT, Int.reduceLE, Int.reduceToNat, Int.reduceNeg, Int.reduceSub, Int.reduceAdd, reduceIte, reduceCtorEq]
        exact ⟨_, rfl, by simp only [gc, gcIdx, range1, range2, range3, range4, range5, List.filter_cons, List.idxOf?_cons, List.idxOf?_nil, List.getD_cons_zero, List.getD_cons_succ, List.getD_nil, List.contains_cons, List.contains_nil, List.elem_nil, Nat.reduceBEq, Bool.or_false, Bool.or_true, Bool.true_or, Bool.false_or, back, rangeIn, go_sem, Nat.reduceBEq, Nat.reduceEqDiff, Nat.reduceLT, Nat.reduceLeDiff, Nat.reduceAdd, Nat.reduceMul, Nat.reduceSub, Nat.reduceDiv, Int.reduceLT, Int.reduceLE, Int.reduceToNat, Int.reduceNeg, Int.reduceSub, Int.reduceAdd, reduceIte, reduceCtorEq]⟩
      obtain ⟨st1, e1, e2⟩ := hst
      rw [e1]
      exact ih (k + 1) st1 h3 (by omega) e2
    · have e : errN g (x :: r) = nodeE g x := by simp only [errN]; rw [if_neg hx]
      have hb0 : (nodeE g x != 0) = true := by simpa using hx
      rw [e, if_neg hx]
      rw [fn33_L0, u_loop tbl Y 0 z hg]
      simp only [fn33_B0, fn33_P18, fn33_D18, natlt h2, h1, e50, hb0, gc, gcIdx, range1, range2, range3, range4, range5, List.filter_cons, List.idxOf?_cons, List.idxOf?_nil, List.getD_cons_zero, List.getD_cons_succ, List.getD_nil, List.contains_cons, List.contains_nil, List.elem_nil, Nat.reduceBEq, Bool.or_false, Bool.or_true, Bool.true_or, Bool.false_or, back, rangeIn, go_sem, Nat.reduceBEq, Nat.reduceEqDiff, Nat.reduceLT, Nat.reduceLeDiff, Nat.reduceAdd, Nat.reduceMul, Nat.reduceSub, Nat.reduceDiv, Int.reduceLT, Int.reduceLE, Int.reduceToNat, Int.reduceNeg, Int.reduceSub, Int.reduceAdd, reduceIte, reduceCtorEq]
      exact ⟨_, _, rfl, by simp only [go_sem, Nat.reduceBEq, Nat.reduceEqDiff, Nat.reduceLT, Nat.reduceLeDiff, Nat.reduceAdd, Nat.reduceMul, Nat.reduceSub, Nat.reduceDiv, Int.reduceLT, Int.reduceLE, Int.reduceToNat, Int.reduceNeg, Int.reduceSub, Int.reduceAdd, reduceIte, reduceCtorEq]⟩

set_option maxHeartbeats 4000000 in
theorem L33_1 (hn : g.nodes.length ≤ 5000) (hi : ∀ x ∈ g.nodes, x.kind = 2 → 0 ≤ x.info ∧ x.info < g.infos.length) {σ : Type} (Y : List P → σ → Option (Bool × σ)) (z : σ) : ∀ (r : List Nd) (k : Nat) (st : St), g.nodes.drop k = r → k ≤ g.nodes.length →
    gc 0 (liftAll [] ⟨keepOnly [1, 72, 73, 74] st.fr, st.mem⟩) = some ⟨⟨104, [(1, .ptr 0 0), (72, .p (.sl 6 (g.nodes.map Pn))), (73, Vi g.nodes.length), (74, Vi k)]⟩, [Cg g]⟩ →
    if r.any (tyB g) = false then U tbl Y 0 fn33_L1 st z = some (.exit 3, ⟨⟨104, [(1, .ptr 0 0), (72, .p (.sl 6 (g.nodes.map Pn))), (73, Vi g.nodes.length), (74, Vi g.nodes.length), (75, Vb false)]⟩, [Cg g]⟩, z)
    else ∃ fr m, U tbl Y 0 fn33_L1 st z = some (.ret, ⟨fr, m⟩, z) ∧ getF fr.l 2 = Vi 10 := by
  intro r
  induction r with
  | nil =>
    intro k st hd hk hg
    have e : k = g.nodes.length := by have := drop_nil_facts hd; omega
    subst e
    rw [if_pos (show [].any (tyB g) = false from rfl)]
    rw [fn33_L1, u_loop tbl Y 0 z hg]
    simp only [fn33_B1, fn33_P18, fn33_D18, natnlt (Nat.le_refl g.nodes.length), go_sem, Nat.reduceBEq, Nat.reduceEqDiff, Nat.reduceLT, Nat.reduceLeDiff, Nat.reduceAdd, Nat.reduceMul, Nat.reduceSub, Nat.reduceDiv, Int.reduceLT, Int.reduceLE, Int.reduceToNat, Int.reduceNeg, Int.reduceSub, Int.reduceAdd, reduceIte, reduceCtorEq]
  | cons x r ih =>
    intro k st hd hk hg
    obtain ⟨h1, h2, h3⟩ := drop_cons_facts hd
    have hno : tyB g x = false → ∃ st1, U tbl Y 0 fn33_L1 st z = U tbl Y 0 fn33_L1 st1 z ∧ gc 0 (liftAll [] ⟨keepOnly [1, 72, 73, 74] st1.fr, st1.mem⟩) = some ⟨⟨104, [(1, .ptr 0 0), (72, .p (.sl 6 (g.nodes.map Pn))), (73, Vi g.nodes.length), (74, Vi (k + 1 : Nat))]⟩, [Cg g]⟩ := fun ht => by
      rw [fn33_L1, u_loop tbl Y 0 z hg]
      by_cases hk2 : x.kind = 2
      · obtain ⟨i0, i1⟩ := hi x (List.mem_of_getElem? h1) hk2
        obtain ⟨j, hj⟩ := Int.eq_ofNat_of_zero_le i0
        have g1 : g.infos[j]? = some (g.infos.getD j ⟨0, 0⟩) := by rw [List.getD_eq_getElem?_getD, List.getElem?_eq_getElem (by omega)]; rfl
        unfold tyB at ht
        rw [hj, hk2] at ht
        generalize g.infos.getD j ⟨0, 0⟩ = y at g1
        simp only [Int.toNat_natCast] at ht
        have g2 : g.infos.getD j ⟨0, 0⟩ = y := by rw [List.getD_eq_getElem?_getD, g1]; rfl
        rw [g2] at ht
        simp at ht
        obtain ⟨t1, t2⟩ := ht
        simp only [fn33_B1, fn33_P18, fn33_D18, natlt h2, h1, hk2, hj, g1, t1, t2, succ64 (show k < 9223372036854775807 by omega), gc, gcIdx, range1, range2, range3, range4, range5, List.filter_cons, List.idxOf?_cons, List.idxOf?_nil, List.getD_cons_zero, List.getD_cons_succ, List.getD_nil, List.contains_cons, List.contains_nil, List.elem_nil, Nat.reduceBEq, Bool.or_false, Bool.or_true, Bool.true_or, Bool.false_or, back, rangeIn, go_sem, Nat.reduceBEq, Nat.reduceEqDiff, Nat.reduceLT, Nat.reduceLeDiff, Nat.reduceAdd, Nat.reduceMul, Nat.reduceSub, Nat.reduceDiv, Int.reduceLT, Int.reduceLE, Int.reduceToNat, Int.reduceNeg, Int.reduceSub, Int.reduceAdd, reduceIte, reduceCtorEq]
        exact ⟨_, rfl, by simp only [gc, gcIdx, range1, range2, range3, range4, range5, List.filter_cons, List.idxOf?_cons, List.idxOf?_nil, List.getD_cons_zero, List.getD_cons_succ, List.getD_nil, List.contains_cons, List.contains_nil, List.elem_nil, Nat.reduceBEq, Bool.or_false, Bool.or_true, Bool.true_or, Bool.false_or, back, rangeIn, go_sem, Nat.reduceBEq, Nat.reduceEqDiff, Nat.reduceLT, Nat.reduceLeDiff, Nat.reduceAdd, Nat.reduceMul, Nat.reduceSub, Nat.reduceDiv, Int.reduceLT, Int.reduceLE, Int.reduceToNat, Int.reduceNeg, Int.reduceSub, Int.reduceAdd, reduceIte, reduceCtorEq]⟩
      · have hb : (x.kind == 2) = false := by simpa using hk2
        simp only [fn33_B1, fn33_P18, fn33_D18, natlt h2, h1, hb, succ64 (show k < 9223372036854775807 by omega), gc, gcIdx, range1, range2, range3, range4, range5, List.filter_cons, List.idxOf?_cons, List.idxOf?_nil, List.getD_cons_zero, List.getD_cons_succ, List.getD_nil, List.contains_cons, List.contains_nil, List.elem_nil, Nat.reduceBEq, Bool.or_false, Bool.or_true, Bool.true_or, Bool.false_or, back, rangeIn, go_sem, Nat.reduceBEq, Nat.reduceEqDiff, Nat.reduceLT, Nat.reduceLeDiff, Nat.reduceAdd, Nat.reduceMul, Nat.reduceSub, Nat.reduceDiv, Int.reduceLT, Int.reduceLE, Int.reduceToNat, Int.reduceNeg, Int.reduceSub, Int.reduceAdd, reduceIte, reduceCtorEq]
        exact ⟨_, rfl, by simp only [gc, gcIdx, range1, range2, range3, range4, range5, List.filter_cons, List.idxOf?_cons, List.idxOf?_nil, List.getD_cons_zero, List.getD_cons_succ, List.getD_nil, List.contains_cons, List.contains_nil, List.elem_nil, Nat.reduceBEq, Bool.or_false, Bool.or_true, Bool.true_or, Bool.false_or, back, rangeIn, go_sem, Nat.reduceBEq, Nat.reduceEqDiff, Nat.reduceLT, Nat.reduceLeDiff, Nat.reduceAdd, Nat.reduceMul, Nat.reduceSub, Nat.reduceDiv, Int.reduceLT, Int.reduceLE, Int.reduceToNat, Int.reduceNeg, Int.reduceSub, Int.reduceAdd, reduceIte, reduceCtorEq]⟩
    have hyes : tyB g x = true → ∃ fr m, U tbl Y 0 fn33_L1 st z = some (.ret, ⟨fr, m⟩, z) ∧ getF fr.l 2 = Vi 10 := fun ht => by
      rw [fn33_L1, u_loop tbl Y 0 z hg]
      unfold tyB at ht
      have hk2 : x.kind = 2 := by
        by_cases hk2 : x.kind = 2
        · exact hk2
        · simp [hk2] at ht
      obtain ⟨i0, i1⟩ := hi x (List.mem_of_getElem? h1) hk2
      obtain ⟨j, hj⟩ := Int.eq_ofNat_of_zero_le i0
      have g1 : g.infos[j]? = some (g.infos.getD j ⟨0, 0⟩) := by rw [List.getD_eq_getElem?_getD, List.getElem?_eq_getElem (by omega)]; rfl
      rw [hj, hk2] at ht
      generalize g.infos.getD j ⟨0, 0⟩ = y at g1
      simp only [Int.toNat_natCast] at ht
      have g2 : g.infos.getD j ⟨0, 0⟩ = y := by rw [List.getD_eq_getElem?_getD, g1]; rfl
      rw [g2] at ht
      by_cases t1 : y.player = x.player
      · have t2 : ¬ y.actions = x.next.length := by simp [t1] at ht; exact ht
        simp only [fn33_B1, fn33_P18, fn33_D18, natlt h2, h1, hk2, hj, g1, t1, t2, ft, gc, gcIdx, range1, range2, range3, range4, range5, List.filter_cons, List.idxOf?_cons, List.idxOf?_nil, List.getD_cons_zero, List.getD_cons_succ, List.getD_nil, List.contains_cons, List.contains_nil, List.elem_nil, Nat.reduceBEq, Bool.or_false, Bool.or_true, Bool.true_or, Bool.false_or, back, rangeIn, go_sem, Nat.reduceBEq, Nat.reduceEqDiff, Nat.reduceLT, Nat.reduceLeDiff, Nat.reduceAdd, Nat.reduceMul, Nat.reduceSub, Nat.reduceDiv, Int.reduceLT, Int.reduceLE, Int.reduceToNat, Int.reduceNeg, Int.reduceSub, Int.reduceAdd, reduceIte, reduceCtorEq]
        exact ⟨_, _, rfl, by simp only [go_sem, Nat.reduceBEq, Nat.reduceEqDiff, Nat.reduceLT, Nat.reduceLeDiff, Nat.reduceAdd, Nat.reduceMul, Nat.reduceSub, Nat.reduceDiv, Int.reduceLT, Int.reduceLE, Int.reduceToNat, Int.reduceNeg, Int.reduceSub, Int.reduceAdd, reduceIte, reduceCtorEq]⟩
      · by_cases t2 : y.actions = x.next.length
        · simp only [fn33_B1, fn33_P18, fn33_D18, natlt h2, h1, hk2, hj, g1, t1, t2, ft, gc, gcIdx, range1, range2, range3, range4, range5, List.filter_cons, List.idxOf?_cons, List.idxOf?_nil, List.getD_cons_zero, List.getD_cons_succ, List.getD_nil, List.contains_cons, List.contains_nil, List.elem_nil, Nat.reduceBEq, Bool.or_false, Bool.or_true, Bool.true_or, Bool.false_or, back, rangeIn, go_sem, Nat.reduceBEq, Nat.reduceEqDiff, Nat.reduceLT, Nat.reduceLeDiff, Nat.reduceAdd, Nat.reduceMul, Nat.reduceSub, Nat.reduceDiv, Int.reduceLT, Int.reduceLE, Int.reduceToNat, Int.reduceNeg, Int.reduceSub, Int.reduceAdd, reduceIte, reduceCtorEq]
          exact ⟨_, _, rfl, by simp only [go_sem, Nat.reduceBEq, Nat.reduceEqDiff, Nat.reduceLT, Nat.reduceLeDiff, Nat.reduceAdd, Nat.reduceMul, Nat.reduceSub, Nat.reduceDiv, Int.reduceLT, Int.reduceLE, Int.reduceToNat, Int.reduceNeg, Int.reduceSub, Int.reduceAdd, reduceIte, reduceCtorEq]⟩
        · simp only [fn33_B1, fn33_P18, fn33_D18, natlt h2, h1, hk2, hj, g1, t1, t2, ft, gc, gcIdx, range1, range2, range3, range4, range5, List.filter_cons, List.idxOf?_cons, List.idxOf?_nil, List.getD_cons_zero, List.getD_cons_succ, List.getD_nil, List.contains_cons, List.contains_nil, List.elem_nil, Nat.reduceBEq, Bool.or_false, Bool.or_true, Bool.true_or, Bool.false_or, back, rangeIn, go_sem, Nat.reduceBEq, Nat.reduceEqDiff, Nat.reduceLT, Nat.reduceLeDiff, Nat.reduceAdd, Nat.reduceMul, Nat.reduceSub, Nat.reduceDiv, Int.reduceLT, Int.reduceLE, Int.reduceToNat, Int.reduceNeg, Int.reduceSub, Int.reduceAdd, reduceIte, reduceCtorEq]
          exact ⟨_, _, rfl, by simp only [go_sem, Nat.reduceBEq, Nat.reduceEqDiff, Nat.reduceLT, Nat.reduceLeDiff, Nat.reduceAdd, Nat.reduceMul, Nat.reduceSub, Nat.reduceDiv, Int.reduceLT, Int.reduceLE, Int.reduceToNat, Int.reduceNeg, Int.reduceSub, Int.reduceAdd, reduceIte, reduceCtorEq]⟩
    cases ht : tyB g x with
    | true =>
      rw [List.any_cons, ht, Bool.true_or, if_neg (by simp)]
      exact hyes ht
    | false =>
      obtain ⟨st1, e1, e2⟩ := hno ht
      rw [List.any_cons, ht, Bool.false_or, e1]
      exact ih (k + 1) st1 h3 (by omega) e2
end
end Go.Am

namespace Go.Am
open Go
set_option linter.unusedSimpArgs false
set_option linter.unusedVariables false
set_option maxRecDepth 100000
open Go.Proofs.Ytdhfhbmfdjnnjaa.Fns

def hdB (g : Gm) : Bool := decide (g.players < 1) || decide (4 < g.players) || decide ((g.nodes.length : Int) < 1) || decide (2000 < (g.nodes.length : Int)) || decide (200 < (g.infos.length : Int))

/-- What a game is told. -/
def formE (g : Gm) : Int :=
  if hdB g = true then 2 else if errN g g.nodes = 0 then
    match ordN g.nodes.length g.nodes 0 with
    | none => 9
    | some s => if 0 < s.1.length then 9 else if 40 < s.2 then 5 else if g.nodes.any (tyB g) = false then (if (sts g).any (fun l => (l.length : Int) == 0) = false then (if srtD (sts g) ((sts g).length - 1) = true then 0 else 9) else 18) else 10
  else errN g g.nodes

theorem either_zero {a b : Bool} (h : either a b = 0) : a = true ∧ b = true := by
  cases a <;> cases b <;> simp [either] at h ⊢

theorem errN_zero {g : Gm} : ∀ {l : List Nd}, errN g l = 0 → ∀ x ∈ l, nodeE g x = 0
  | [], _, x, hx => by simp at hx
  | y :: l, h, x, hx => by
    simp only [errN] at h
    split at h
    · rename_i h0
      rcases List.mem_cons.1 hx with rfl | hx
      · exact h0
      · exact errN_zero h x hx
    · rename_i h0; exact absurd h h0

theorem info_ok {g : Gm} (h : errN g g.nodes = 0) : ∀ x ∈ g.nodes, x.kind = 2 → 0 ≤ x.info ∧ x.info < g.infos.length := fun x hx hk => by
  have h1 := errN_zero h x hx
  unfold nodeE at h1
  rw [if_neg (by omega), if_pos hk] at h1
  have h2 := (either_zero h1).2
  simp only [mvR, Bool.and_eq_true, decide_eq_true_eq] at h2
  omega

theorem stR_val : ∀ (r : List Nd) (k : Nat) (E : List (List Int)), k + r.length ≤ 5000 → (∀ es ∈ E, ∀ v ∈ es, 0 ≤ v ∧ v ≤ 5000) → ∀ es ∈ stR r k E, ∀ v ∈ es, 0 ≤ v ∧ v ≤ 5000
  | [], k, E, _, h => h
  | x :: r, k, E, hk, h => by
    rw [stR]
    refine stR_val r (k + 1) _ (by simp at hk; omega) ?_
    split
    · intro es hes v hv
      rcases List.mem_or_eq_of_mem_set hes with h1 | rfl
      · exact h es h1 v hv
      · rcases List.mem_append.1 hv with h1 | h1
        · by_cases hj : x.info.toNat < E.length
          · refine h _ (List.getElem_mem hj) v ?_
            rw [List.getD_eq_getElem?_getD, List.getElem?_eq_getElem hj] at h1
            exact h1
          · rw [List.getD_eq_getElem?_getD, List.getElem?_eq_none (by omega)] at h1
            simp at h1
        · simp at h1; simp at hk; omega
    · exact h

theorem sts_ok {g : Gm} (hn : g.nodes.length ≤ 5000) (h : (sts g).any (fun l => (l.length : Int) == 0) = false) : ∀ l ∈ sts g, l ≠ [] ∧ 0 ≤ hd0 l ∧ hd0 l ≤ 10000 := fun l hl => by
  have h1 : l ≠ [] := fun e => by
    have := List.any_eq_false.1 h l hl
    rw [e] at this
    simp at this
  refine ⟨h1, ?_⟩
  cases l with
  | nil => exact absurd rfl h1
  | cons v r =>
    have := stR_val g.nodes 0 (List.replicate g.infos.length []) (by omega) (fun es hes v hv => by rw [(List.mem_replicate.1 hes).2] at hv; simp at hv) _ hl v (by simp)
    simp only [hd0, List.getD_cons_zero]
    omega

set_option maxHeartbeats 4000000 in
theorem s33 (g : Gm) (hb : ∀ x ∈ g.nodes, x.next.length ≤ 2000000 ∧ x.weights.length ≤ 2000000 ∧ x.pay.length ≤ 2000000) : (EL tbl).call 33 [Vg g] [] = some (Vi (formE g), []) := by
  unfold formE
  cases hh : hdB g with
  | true =>
    rw [if_pos rfl]
    unfold hdB at hh
    rw [call_fn' tbl (show tbl 33 = some fn33 from rfl) _ _ (Nat.le_of_ble_eq_true rfl)]
    simp only [fn33, fn33_P18, fn33_D18, gc, gcIdx, range1, range2, range3, range4, range5, List.filter_cons, List.idxOf?_cons, List.idxOf?_nil, List.getD_cons_zero, List.getD_cons_succ, List.getD_nil, List.contains_cons, List.contains_nil, List.elem_nil, Nat.reduceBEq, Bool.or_false, Bool.or_true, Bool.true_or, Bool.false_or, back, rangeIn, go_sem, Nat.reduceBEq, Nat.reduceEqDiff, Nat.reduceLT, Nat.reduceLeDiff, Nat.reduceAdd, Nat.reduceMul, Nat.reduceSub, Nat.reduceDiv, Int.reduceLT, Int.reduceLE, Int.reduceToNat, Int.reduceNeg, Int.reduceSub, Int.reduceAdd, reduceIte, reduceCtorEq]
    all_goals try (rcases Bool.eq_false_or_eq_true (decide (g.players < 1)) with hc0 | hc0 <;> simp only [hc0, fn33, fn33_P18, fn33_D18, gc, gcIdx, range1, range2, range3, range4, range5, List.filter_cons, List.idxOf?_cons, List.idxOf?_nil, List.getD_cons_zero, List.getD_cons_succ, List.getD_nil, List.contains_cons, List.contains_nil, List.elem_nil, Nat.reduceBEq, Bool.or_false, Bool.or_true, Bool.true_or, Bool.false_or, back, rangeIn, go_sem, Nat.reduceBEq, Nat.reduceEqDiff, Nat.reduceLT, Nat.reduceLeDiff, Nat.reduceAdd, Nat.reduceMul, Nat.reduceSub, Nat.reduceDiv, Int.reduceLT, Int.reduceLE, Int.reduceToNat, Int.reduceNeg, Int.reduceSub, Int.reduceAdd, reduceIte, reduceCtorEq])
    all_goals try (rcases Bool.eq_false_or_eq_true (decide (4 < g.players)) with hc1 | hc1 <;> simp only [hc1, fn33, fn33_P18, fn33_D18, gc, gcIdx, range1, range2, range3, range4, range5, List.filter_cons, List.idxOf?_cons, List.idxOf?_nil, List.getD_cons_zero, List.getD_cons_succ, List.getD_nil, List.contains_cons, List.contains_nil, List.elem_nil, Nat.reduceBEq, Bool.or_false, Bool.or_true, Bool.true_or, Bool.false_or, back, rangeIn, go_sem, Nat.reduceBEq, Nat.reduceEqDiff, Nat.reduceLT, Nat.reduceLeDiff, Nat.reduceAdd, Nat.reduceMul, Nat.reduceSub, Nat.reduceDiv, Int.reduceLT, Int.reduceLE, Int.reduceToNat, Int.reduceNeg, Int.reduceSub, Int.reduceAdd, reduceIte, reduceCtorEq])
    all_goals try (rcases Bool.eq_false_or_eq_true (decide ((g.nodes.length : Int) < 1)) with hc2 | hc2 <;> simp only [hc2, fn33, fn33_P18, fn33_D18, gc, gcIdx, range1, range2, range3, range4, range5, List.filter_cons, List.idxOf?_cons, List.idxOf?_nil, List.getD_cons_zero, List.getD_cons_succ, List.getD_nil, List.contains_cons, List.contains_nil, List.elem_nil, Nat.reduceBEq, Bool.or_false, Bool.or_true, Bool.true_or, Bool.false_or, back, rangeIn, go_sem, Nat.reduceBEq, Nat.reduceEqDiff, Nat.reduceLT, Nat.reduceLeDiff, Nat.reduceAdd, Nat.reduceMul, Nat.reduceSub, Nat.reduceDiv, Int.reduceLT, Int.reduceLE, Int.reduceToNat, Int.reduceNeg, Int.reduceSub, Int.reduceAdd, reduceIte, reduceCtorEq])
    all_goals try (rcases Bool.eq_false_or_eq_true (decide (2000 < (g.nodes.length : Int))) with hc3 | hc3 <;> simp only [hc3, fn33, fn33_P18, fn33_D18, gc, gcIdx, range1, range2, range3, range4, range5, List.filter_cons, List.idxOf?_cons, List.idxOf?_nil, List.getD_cons_zero, List.getD_cons_succ, List.getD_nil, List.contains_cons, List.contains_nil, List.elem_nil, Nat.reduceBEq, Bool.or_false, Bool.or_true, Bool.true_or, Bool.false_or, back, rangeIn, go_sem, Nat.reduceBEq, Nat.reduceEqDiff, Nat.reduceLT, Nat.reduceLeDiff, Nat.reduceAdd, Nat.reduceMul, Nat.reduceSub, Nat.reduceDiv, Int.reduceLT, Int.reduceLE, Int.reduceToNat, Int.reduceNeg, Int.reduceSub, Int.reduceAdd, reduceIte, reduceCtorEq])
    all_goals try (rcases Bool.eq_false_or_eq_true (decide (200 < (g.infos.length : Int))) with hc4 | hc4 <;> simp only [hc4, fn33, fn33_P18, fn33_D18, gc, gcIdx, range1, range2, range3, range4, range5, List.filter_cons, List.idxOf?_cons, List.idxOf?_nil, List.getD_cons_zero, List.getD_cons_succ, List.getD_nil, List.contains_cons, List.contains_nil, List.elem_nil, Nat.reduceBEq, Bool.or_false, Bool.or_true, Bool.true_or, Bool.false_or, back, rangeIn, go_sem, Nat.reduceBEq, Nat.reduceEqDiff, Nat.reduceLT, Nat.reduceLeDiff, Nat.reduceAdd, Nat.reduceMul, Nat.reduceSub, Nat.reduceDiv, Int.reduceLT, Int.reduceLE, Int.reduceToNat, Int.reduceNeg, Int.reduceSub, Int.reduceAdd, reduceIte, reduceCtorEq])
    all_goals simp_all
  | false =>
    rw [if_neg (by simp)]
    unfold hdB at hh
    simp only [Bool.or_eq_false_iff] at hh
    obtain ⟨⟨⟨⟨c1, c2⟩, c3⟩, c4⟩, c5⟩ := hh
    have hn : g.nodes.length ≤ 2000 := by simp at c4; omega
    have hin : g.infos.length ≤ 200 := by simp at c5; omega
    have h0 := L33_0 (g := g) (by omega) (fun x hx => (hb x hx).2) noY () g.nodes 0 ⟨⟨104, [(1, .ptr 0 0), (37, Vb false), (39, .p (.sl 6 (g.nodes.map Pn))), (40, Vi g.nodes.length), (41, Vi (0 : Nat))]⟩, [Cg g]⟩ (by simp) (by simp) (by simp only [gc, gcIdx, range1, range2, range3, range4, range5, List.filter_cons, List.idxOf?_cons, List.idxOf?_nil, List.getD_cons_zero, List.getD_cons_succ, List.getD_nil, List.contains_cons, List.contains_nil, List.elem_nil, Nat.reduceBEq, Bool.or_false, Bool.or_true, Bool.true_or, Bool.false_or, back, rangeIn, go_sem, Nat.reduceBEq, Nat.reduceEqDiff, Nat.reduceLT, Nat.reduceLeDiff, Nat.reduceAdd, Nat.reduceMul, Nat.reduceSub, Nat.reduceDiv, Int.reduceLT, Int.reduceLE, Int.reduceToNat, Int.reduceNeg, Int.reduceSub, Int.reduceAdd, reduceIte, reduceCtorEq])
    simp only [Int.natCast_zero] at h0
    by_cases he : errN g g.nodes = 0
    · rw [if_pos he] at h0 ⊢
      have e51 := s51 (g := g) g.nodes.length g.nodes 0 (Nat.le_refl _) (by omega) (by omega) (fun x hx => by have := (hb x hx).1; omega)
      cases ho : ordN g.nodes.length g.nodes 0 with
      | none =>
        rw [ho] at e51
        simp only [ordP] at e51
        rw [call_fn' tbl (show tbl 33 = some fn33 from rfl) _ _ (Nat.le_of_ble_eq_true rfl)]
        simp only [fn33, fn33_P18, fn33_D18, c1, c2, c3, c4, c5, h0, e51, gc, gcIdx, range1, range2, range3, range4, range5, List.filter_cons, List.idxOf?_cons, List.idxOf?_nil, List.getD_cons_zero, List.getD_cons_succ, List.getD_nil, List.contains_cons, List.contains_nil, List.elem_nil, Nat.reduceBEq, Bool.or_false, Bool.or_true, Bool.true_or, Bool.false_or, back, rangeIn, go_sem, Nat.reduceBEq, Nat.reduceEqDiff, Nat.reduceLT, Nat.reduceLeDiff, Nat.reduceAdd, Nat.reduceMul, Nat.reduceSub, Nat.reduceDiv, Int.reduceLT, Int.reduceLE, Int.reduceToNat, Int.reduceNeg, Int.reduceSub, Int.reduceAdd, reduceIte, reduceCtorEq]
      | some s =>
        rw [ho] at e51
        simp only [ordP] at e51
        simp only
        have hi := info_ok he
        have e52 := s52 (g := g) (by omega) hi (by omega)
        by_cases a1 : 0 < s.1.length
        · rw [if_pos a1]
          have a1' : (0 : Int) < (s.1.length : Int) := by omega
          rw [call_fn' tbl (show tbl 33 = some fn33 from rfl) _ _ (Nat.le_of_ble_eq_true rfl)]
          simp only [fn33, fn33_P18, fn33_D18, c1, c2, c3, c4, c5, h0, e51, a1', gc, gcIdx, range1, range2, range3, range4, range5, List.filter_cons, List.idxOf?_cons, List.idxOf?_nil, List.getD_cons_zero, List.getD_cons_succ, List.getD_nil, List.contains_cons, List.contains_nil, List.elem_nil, Nat.reduceBEq, Bool.or_false, Bool.or_true, Bool.true_or, Bool.false_or, back, rangeIn, go_sem, Nat.reduceBEq, Nat.reduceEqDiff, Nat.reduceLT, Nat.reduceLeDiff, Nat.reduceAdd, Nat.reduceMul, Nat.reduceSub, Nat.reduceDiv, Int.reduceLT, Int.reduceLE, Int.reduceToNat, Int.reduceNeg, Int.reduceSub, Int.reduceAdd, reduceIte, reduceCtorEq]
        · rw [if_neg a1]
          have a1' : ¬ (0 : Int) < (s.1.length : Int) := by omega
          by_cases a2 : 40 < s.2
          · rw [if_pos a2]
            have a2' : (40 : Int) < (s.2 : Int) := by omega
            rw [call_fn' tbl (show tbl 33 = some fn33 from rfl) _ _ (Nat.le_of_ble_eq_true rfl)]
            simp only [fn33, fn33_P18, fn33_D18, c1, c2, c3, c4, c5, h0, e51, a1', a2', gc, gcIdx, range1, range2, range3, range4, range5, List.filter_cons, List.idxOf?_cons, List.idxOf?_nil, List.getD_cons_zero, List.getD_cons_succ, List.getD_nil, List.contains_cons, List.contains_nil, List.elem_nil, Nat.reduceBEq, Bool.or_false, Bool.or_true, Bool.true_or, Bool.false_or, back, rangeIn, go_sem, Nat.reduceBEq, Nat.reduceEqDiff, Nat.reduceLT, Nat.reduceLeDiff, Nat.reduceAdd, Nat.reduceMul, Nat.reduceSub, Nat.reduceDiv, Int.reduceLT, Int.reduceLE, Int.reduceToNat, Int.reduceNeg, Int.reduceSub, Int.reduceAdd, reduceIte, reduceCtorEq]
          · rw [if_neg a2]
            have a2' : ¬ (40 : Int) < (s.2 : Int) := by omega
            have h1 := L33_1 (g := g) (by omega) hi noY () g.nodes 0 ⟨⟨104, [(1, .ptr 0 0), (39, .p (.sl 6 (g.nodes.map Pn))), (40, Vi g.nodes.length), (41, Vi g.nodes.length), (42, Vb false), (60, Vb false), (68, Vb false), (72, .p (.sl 6 (g.nodes.map Pn))), (73, Vi g.nodes.length), (74, Vi (0 : Nat))]⟩, [Cg g]⟩ (by simp) (by simp) (by simp only [gc, gcIdx, range1, range2, range3, range4, range5, List.filter_cons, List.idxOf?_cons, List.idxOf?_nil, List.getD_cons_zero, List.getD_cons_succ, List.getD_nil, List.contains_cons, List.contains_nil, List.elem_nil, Nat.reduceBEq, Bool.or_false, Bool.or_true, Bool.true_or, Bool.false_or, back, rangeIn, go_sem, Nat.reduceBEq, Nat.reduceEqDiff, Nat.reduceLT, Nat.reduceLeDiff, Nat.reduceAdd, Nat.reduceMul, Nat.reduceSub, Nat.reduceDiv, Int.reduceLT, Int.reduceLE, Int.reduceToNat, Int.reduceNeg, Int.reduceSub, Int.reduceAdd, reduceIte, reduceCtorEq])
            simp only [Int.natCast_zero] at h1
            cases ht : g.nodes.any (tyB g) with
            | true =>
              rw [if_neg (by simp [ht])] at h1
              rw [if_neg (by simp)]
              obtain ⟨fr, m, q1, q2⟩ := h1
              rw [call_fn' tbl (show tbl 33 = some fn33 from rfl) _ _ (Nat.le_of_ble_eq_true rfl)]
              simp only [fn33, fn33_P18, fn33_D18, c1, c2, c3, c4, c5, h0, e51, a1', a2', q1, q2, gc, gcIdx, range1, range2, range3, range4, range5, List.filter_cons, List.idxOf?_cons, List.idxOf?_nil, List.getD_cons_zero, List.getD_cons_succ, List.getD_nil, List.contains_cons, List.contains_nil, List.elem_nil, Nat.reduceBEq, Bool.or_false, Bool.or_true, Bool.true_or, Bool.false_or, back, rangeIn, go_sem, Nat.reduceBEq, Nat.reduceEqDiff, Nat.reduceLT, Nat.reduceLeDiff, Nat.reduceAdd, Nat.reduceMul, Nat.reduceSub, Nat.reduceDiv, Int.reduceLT, Int.reduceLE, Int.reduceToNat, Int.reduceNeg, Int.reduceSub, Int.reduceAdd, reduceIte, reduceCtorEq]
            | false =>
              rw [if_pos ht] at h1
              rw [if_pos rfl]
              have hsl : (sts g).length = g.infos.length := by unfold sts; rw [stR_len]; simp
              have e53 := s53 (l := sts g) (id := 54) (caps := []) (fun l => (l.length : Int) == 0) (by omega) (fun l _ => s54 l)
              cases ha : (sts g).any (fun l => (l.length : Int) == 0) with
              | true =>
                rw [ha] at e53
                rw [if_neg (by simp)]
                rw [call_fn' tbl (show tbl 33 = some fn33 from rfl) _ _ (Nat.le_of_ble_eq_true rfl)]
                simp only [fn33, fn33_P18, fn33_D18, c1, c2, c3, c4, c5, h0, e51, a1', a2', h1, e52, e53, gc, gcIdx, range1, range2, range3, range4, range5, List.filter_cons, List.idxOf?_cons, List.idxOf?_nil, List.getD_cons_zero, List.getD_cons_succ, List.getD_nil, List.contains_cons, List.contains_nil, List.elem_nil, Nat.reduceBEq, Bool.or_false, Bool.or_true, Bool.true_or, Bool.false_or, back, rangeIn, go_sem, Nat.reduceBEq, Nat.reduceEqDiff, Nat.reduceLT, Nat.reduceLeDiff, Nat.reduceAdd, Nat.reduceMul, Nat.reduceSub, Nat.reduceDiv, Int.reduceLT, Int.reduceLE, Int.reduceToNat, Int.reduceNeg, Int.reduceSub, Int.reduceAdd, reduceIte, reduceCtorEq]
              | false =>
                rw [ha] at e53
                rw [if_pos rfl]
                have e55 := s55 (sts g) (by omega) (sts_ok (by omega) ha)
                cases hs : srtD (sts g) ((sts g).length - 1) with
                | true =>
                  rw [hs] at e55
                  rw [if_pos rfl]
                  rw [call_fn' tbl (show tbl 33 = some fn33 from rfl) _ _ (Nat.le_of_ble_eq_true rfl)]
                  simp only [fn33, fn33_P18, fn33_D18, c1, c2, c3, c4, c5, h0, e51, a1', a2', h1, e52, e53, e55, gc, gcIdx, range1, range2, range3, range4, range5, List.filter_cons, List.idxOf?_cons, List.idxOf?_nil, List.getD_cons_zero, List.getD_cons_succ, List.getD_nil, List.contains_cons, List.contains_nil, List.elem_nil, Nat.reduceBEq, Bool.or_false, Bool.or_true, Bool.true_or, Bool.false_or, back, rangeIn, go_sem, Nat.reduceBEq, Nat.reduceEqDiff, Nat.reduceLT, Nat.reduceLeDiff, Nat.reduceAdd, Nat.reduceMul, Nat.reduceSub, Nat.reduceDiv, Int.reduceLT, Int.reduceLE, Int.reduceToNat, Int.reduceNeg, Int.reduceSub, Int.reduceAdd, reduceIte, reduceCtorEq]
                | false =>
                  rw [hs] at e55
                  rw [if_neg (by simp)]
                  rw [call_fn' tbl (show tbl 33 = some fn33 from rfl) _ _ (Nat.le_of_ble_eq_true rfl)]
                  simp only [fn33, fn33_P18, fn33_D18, c1, c2, c3, c4, c5, h0, e51, a1', a2', h1, e52, e53, e55, gc, gcIdx, range1, range2, range3, range4, range5, List.filter_cons, List.idxOf?_cons, List.idxOf?_nil, List.getD_cons_zero, List.getD_cons_succ, List.getD_nil, List.contains_cons, List.contains_nil, List.elem_nil, Nat.reduceBEq, Bool.or_false, Bool.or_true, Bool.true_or, Bool.false_or, back, rangeIn, go_sem, Nat.reduceBEq, Nat.reduceEqDiff, Nat.reduceLT, Nat.reduceLeDiff, Nat.reduceAdd, Nat.reduceMul, Nat.reduceSub, Nat.reduceDiv, Int.reduceLT, Int.reduceLE, Int.reduceToNat, Int.reduceNeg, Int.reduceSub, Int.reduceAdd, reduceIte, reduceCtorEq]
    · rw [if_neg he] at h0 ⊢
      obtain ⟨fr, m, h1, h2⟩ := h0
      rw [call_fn' tbl (show tbl 33 = some fn33 from rfl) _ _ (Nat.le_of_ble_eq_true rfl)]
      simp only [fn33, fn33_P18, fn33_D18, c1, c2, c3, c4, c5, h1, h2, gc, gcIdx, range1, range2, range3, range4, range5, List.filter_cons, List.idxOf?_cons, List.idxOf?_nil, List.getD_cons_zero, List.getD_cons_succ, List.getD_nil, List.contains_cons, List.contains_nil, List.elem_nil, Nat.reduceBEq, Bool.or_false, Bool.or_true, Bool.true_or, Bool.false_or, back, rangeIn, go_sem, Nat.reduceBEq, Nat.reduceEqDiff, Nat.reduceLT, Nat.reduceLeDiff, Nat.reduceAdd, Nat.reduceMul, Nat.reduceSub, Nat.reduceDiv, Int.reduceLT, Int.reduceLE, Int.reduceToNat, Int.reduceNeg, Int.reduceSub, Int.reduceAdd, reduceIte, reduceCtorEq]
end Go.Am

namespace Go.Am
open Go
set_option linter.unusedSimpArgs false
set_option linter.unusedVariables false
set_option maxRecDepth 100000
open Go.Proofs.Ytdhfhbmfdjnnjaa.Fns

theorem gS_u (E : Env) (base : Nat) (w : Bool) (d : Option Nat) (op : AOp) (st : St) : guardS E base (.p (.v (.tuple #[]))) w d op st = some ⟨putD st.fr d undefV, st.mem⟩ := rfl
theorem gB_u (E : Env) (base : Nat) (w : Bool) (d : Option Nat) (op : AOp) (st : St) : guardB E base (.p (.v (.tuple #[]))) w d op st = some (⟨putD st.fr d undefV, st.mem⟩, [], []) := rfl
theorem gO_u (E : Env) {σ : Type} (Y : List P → σ → Option (Bool × σ)) (base : Nat) (w : Bool) (d : Option Nat) (op : AOp) (st : St) (s : σ) : guardO E Y base (.p (.v (.tuple #[]))) w d op st s = some (⟨putD st.fr d undefV, st.mem⟩, s) := rfl

section
variable {g : Gm}

set_option maxHeartbeats 400000 in
theorem L35_0 (hn : g.nodes.length ≤ 5000) (hb : ∀ x ∈ g.nodes, x.weights.length ≤ 2000000 ∧ x.pay.length ≤ 2000000) {σ : Type} (Y : List P → σ → Option (Bool × σ)) (z : σ) : ∀ (r : List Nd) (k : Nat) (st : St), g.nodes.drop k = r → k ≤ g.nodes.length →
    gc 0 (liftAll [] ⟨keepOnly [1, 3] st.fr, st.mem⟩) = some ⟨⟨136, [(1, .ptr 0 0), (3, Vi k)]⟩, [Cg g]⟩ →
    if errN g r = 0 then U tbl Y 0 fn35_L0 st z = some (.exit 0, ⟨⟨136, [(1, .ptr 0 0), (3, Vi g.nodes.length), (41, Vb false)]⟩, [Cg g]⟩, z)
    else ∃ fr m, U tbl Y 0 fn35_L0 st z = some (.ret, ⟨fr, m⟩, z) ∧ getF fr.l 2 = Vi (errN g r) := by
  intro r
  induction r with
  | nil =>
    intro k st hd hk hg
    have e : k = g.nodes.length := by have := drop_nil_facts hd; omega
    subst e
    rw [if_pos (show errN g [] = 0 from rfl)]
    rw [fn35_L0, u_loop tbl Y 0 z hg]
    simp only [fn35_B0, fn35_P6, fn35_D6, fn35_P10, fn35_D10, fn35_P18, fn35_D18, fn35_P29, fn35_D29, natnlt (Nat.le_refl g.nodes.length), go_sem, Nat.reduceBEq, Nat.reduceEqDiff, Nat.reduceLT, Nat.reduceLeDiff, Nat.reduceAdd, Nat.reduceMul, Nat.reduceSub, Nat.reduceDiv, Int.reduceLT, Int.reduceLE, Int.reduceToNat, Int.reduceNeg, Int.reduceSub, Int.reduceAdd, reduceIte, reduceCtorEq]
  | cons x r ih =>
    intro k st hd hk hg
    obtain ⟨h1, h2, h3⟩ := drop_cons_facts hd
    obtain ⟨w1, w2⟩ := hb x (List.mem_of_getElem? h1)
    have e58 := s58 g x w1 w2
    by_cases hx : nodeE g x = 0
    · have e : errN g (x :: r) = errN g r := by simp only [errN]; rw [if_pos hx]
      have hb0 : (nodeE g x != 0) = false := by rw [hx]; rfl
      rw [e]
      have hst : ∃ st1, U tbl Y 0 fn35_L0 st z = U tbl Y 0 fn35_L0 st1 z ∧ gc 0 (liftAll [] ⟨keepOnly [1, 3] st1.fr, st1.mem⟩) = some ⟨⟨136, [(1, .ptr 0 0), (3, Vi (k + 1 : Nat))]⟩, [Cg g]⟩ := by
        rw [fn35_L0, u_loop tbl Y 0 z hg]
        simp only [fn35_B0, fn35_P6, fn35_D6, fn35_P10, fn35_D10, fn35_P18, fn35_D18, fn35_P29, fn35_D29, natlt h2, h1, e58, hb0, succ64 (show k < 9223372036854775807 by omega), gc, gcIdx, range1, range2, range3, range4, range5, List.filter_cons, List.idxOf?_cons, List.idxOf?_nil, List.getD_cons_zero, List.getD_cons_succ, List.getD_nil, List.contains_cons, List.contains_nil, List.elem_nil, Nat.reduceBEq, Bool.or_false, Bool.or_true, Bool.true_or, Bool.false_or, back, rangeIn, go_sem, Nat.reduceBEq, Nat.reduceEqDiff, Nat.reduceLT, Nat.reduceLeDiff, Nat.reduceAdd, Nat.reduceMul, Nat.reduceSub, Nat.reduceDiv, Int.reduceLT, Int.reduceLE, Int.reduceToNat, Int.reduceNeg, Int.reduceSub, Int.reduceAdd, reduceIte, reduceCtorEq]
        exact ⟨_, rfl, by simp only [gc, gcIdx, range1, range2, range3, range4, range5, List.filter_cons, List.idxOf?_cons, List.idxOf?_nil, List.getD_cons_zero, List.getD_cons_succ, List.getD_nil, List.contains_cons, List.contains_nil, List.elem_nil, Nat.reduceBEq, Bool.or_false, Bool.or_true, Bool.true_or, Bool.false_or, back, rangeIn, go_sem, Nat.reduceBEq, Nat.reduceEqDiff, Nat.reduceLT, Nat.reduceLeDiff, Nat.reduceAdd, Nat.reduceMul, Nat.reduceSub, Nat.reduceDiv, Int.reduceLT, Int.reduceLE, Int.reduceToNat, Int.reduceNeg, Int.reduceSub, Int.reduceAdd, reduceIte, reduceCtorEq]⟩
      obtain ⟨st1, e1, e2⟩ := hst
      rw [e1]
      exact ih (k + 1) st1 h3 (by omega) e2
    · have e : errN g (x :: r) = nodeE g x := by simp only [errN]; rw [if_neg hx]
      have hb0 : (nodeE g x != 0) = true := by simpa using hx
      rw [e, if_neg hx]
      rw [fn35_L0, u_loop tbl Y 0 z hg]
      simp only [fn35_B0, fn35_P6, fn35_D6, fn35_P10, fn35_D10, fn35_P18, fn35_D18, fn35_P29, fn35_D29, natlt h2, h1, e58, hb0, gc, gcIdx, range1, range2, range3, range4, range5, List.filter_cons, List.idxOf?_cons, List.idxOf?_nil, List.getD_cons_zero, List.getD_cons_succ, List.getD_nil, List.contains_cons, List.contains_nil, List.elem_nil, Nat.reduceBEq, Bool.or_false, Bool.or_true, Bool.true_or, Bool.false_or, back, rangeIn, go_sem, Nat.reduceBEq, Nat.reduceEqDiff, Nat.reduceLT, Nat.reduceLeDiff, Nat.reduceAdd, Nat.reduceMul, Nat.reduceSub, Nat.reduceDiv, Int.reduceLT, Int.reduceLE, Int.reduceToNat, Int.reduceNeg, Int.reduceSub, Int.reduceAdd, reduceIte, reduceCtorEq]
      exact ⟨_, _, rfl, by simp only [go_sem, Nat.reduceBEq, Nat.reduceEqDiff, Nat.reduceLT, Nat.reduceLeDiff, Nat.reduceAdd, Nat.reduceMul, Nat.reduceSub, Nat.reduceDiv, Int.reduceLT, Int.reduceLE, Int.reduceToNat, Int.reduceNeg, Int.reduceSub, Int.reduceAdd, reduceIte, reduceCtorEq]⟩

set_option maxHeartbeats 400000 in
theorem L35_1 (hn : g.nodes.length ≤ 5000) (hi : ∀ x ∈ g.nodes, x.kind = 2 → 0 ≤ x.info ∧ x.info < g.infos.length) {σ : Type} (Y : List P → σ → Option (Bool × σ)) (z : σ) : ∀ (r : List Nd) (k : Nat) (st : St), g.nodes.drop k = r → k ≤ g.nodes.length →
    gc 0 (liftAll [] ⟨keepOnly [1, 6] st.fr, st.mem⟩) = some ⟨⟨136, [(1, .ptr 0 0), (6, Vi k)]⟩, [Cg g]⟩ →
    if r.any (tyB g) = false then U tbl Y 0 fn35_L1 st z = some (.exit 2, ⟨⟨136, [(1, .ptr 0 0), (6, Vi g.nodes.length), (66, Vb false)]⟩, [Cg g]⟩, z)
    else ∃ fr m, U tbl Y 0 fn35_L1 st z = some (.ret, ⟨fr, m⟩, z) ∧ getF fr.l 2 = Vi 10 := by
  intro r
  induction r with
  | nil =>
    intro k st hd hk hg
    have e : k = g.nodes.length := by have := drop_nil_facts hd; omega
    subst e
    rw [if_pos (show [].any (tyB g) = false from rfl)]
    rw [fn35_L1, u_loop tbl Y 0 z hg]
    simp only [fn35_B1, fn35_P6, fn35_D6, fn35_P10, fn35_D10, fn35_P18, fn35_D18, fn35_P29, fn35_D29, natnlt (Nat.le_refl g.nodes.length), go_sem, Nat.reduceBEq, Nat.reduceEqDiff, Nat.reduceLT, Nat.reduceLeDiff, Nat.reduceAdd, Nat.reduceMul, Nat.reduceSub, Nat.reduceDiv, Int.reduceLT, Int.reduceLE, Int.reduceToNat, Int.reduceNeg, Int.reduceSub, Int.reduceAdd, reduceIte, reduceCtorEq]
  | cons x r ih =>
    intro k st hd hk hg
    obtain ⟨h1, h2, h3⟩ := drop_cons_facts hd
    have hno : tyB g x = false → ∃ st1, U tbl Y 0 fn35_L1 st z = U tbl Y 0 fn35_L1 st1 z ∧ gc 0 (liftAll [] ⟨keepOnly [1, 6] st1.fr, st1.mem⟩) = some ⟨⟨136, [(1, .ptr 0 0), (6, Vi (k + 1 : Nat))]⟩, [Cg g]⟩ := fun ht => by
      rw [fn35_L1, u_loop tbl Y 0 z hg]
      by_cases hk2 : x.kind = 2
      · obtain ⟨i0, i1⟩ := hi x (List.mem_of_getElem? h1) hk2
        obtain ⟨j, hj⟩ := Int.eq_ofNat_of_zero_le i0
        have g1 : g.infos[j]? = some (g.infos.getD j ⟨0, 0⟩) := by rw [List.getD_eq_getElem?_getD, List.getElem?_eq_getElem (by omega)]; rfl
        unfold tyB at ht
        rw [hj, hk2] at ht
        generalize g.infos.getD j ⟨0, 0⟩ = y at g1
        simp only [Int.toNat_natCast] at ht
        have g2 : g.infos.getD j ⟨0, 0⟩ = y := by rw [List.getD_eq_getElem?_getD, g1]; rfl
        rw [g2] at ht
        simp at ht
        obtain ⟨t1, t2⟩ := ht
        have b1 : (y.player == x.player) = true := by simpa using t1
        have b2 : (y.actions == (x.next.length : Int)) = true := by simpa using t2
        simp only [fn35_B1, fn35_P6, fn35_D6, fn35_P10, fn35_D10, fn35_P18, fn35_D18, fn35_P29, fn35_D29, natlt h2, h1, hk2, hj, g1, t1, t2, succ64 (show k < 9223372036854775807 by omega), gS_u, gB_u, gO_u, gc, gcIdx, range1, range2, range3, range4, range5, List.filter_cons, List.idxOf?_cons, List.idxOf?_nil, List.getD_cons_zero, List.getD_cons_succ, List.getD_nil, List.contains_cons, List.contains_nil, List.elem_nil, Nat.reduceBEq, Bool.or_false, Bool.or_true, Bool.true_or, Bool.false_or, back, rangeIn, go_sem, Nat.reduceBEq, Nat.reduceEqDiff, Nat.reduceLT, Nat.reduceLeDiff, Nat.reduceAdd, Nat.reduceMul, Nat.reduceSub, Nat.reduceDiv, Int.reduceLT, Int.reduceLE, Int.reduceToNat, Int.reduceNeg, Int.reduceSub, Int.reduceAdd, reduceIte, reduceCtorEq]
        exact ⟨_, rfl, by simp only [gS_u, gB_u, gO_u, gc, gcIdx, range1, range2, range3, range4, range5, List.filter_cons, List.idxOf?_cons, List.idxOf?_nil, List.getD_cons_zero, List.getD_cons_succ, List.getD_nil, List.contains_cons, List.contains_nil, List.elem_nil, Nat.reduceBEq, Bool.or_false, Bool.or_true, Bool.true_or, Bool.false_or, back, rangeIn, go_sem, Nat.reduceBEq, Nat.reduceEqDiff, Nat.reduceLT, Nat.reduceLeDiff, Nat.reduceAdd, Nat.reduceMul, Nat.reduceSub, Nat.reduceDiv, Int.reduceLT, Int.reduceLE, Int.reduceToNat, Int.reduceNeg, Int.reduceSub, Int.reduceAdd, reduceIte, reduceCtorEq]⟩
      · have hb : (x.kind == 2) = false := by simpa using hk2
        simp only [fn35_B1, fn35_P6, fn35_D6, fn35_P10, fn35_D10, fn35_P18, fn35_D18, fn35_P29, fn35_D29, natlt h2, h1, hb, succ64 (show k < 9223372036854775807 by omega), gS_u, gB_u, gO_u, gc, gcIdx, range1, range2, range3, range4, range5, List.filter_cons, List.idxOf?_cons, List.idxOf?_nil, List.getD_cons_zero, List.getD_cons_succ, List.getD_nil, List.contains_cons, List.contains_nil, List.elem_nil, Nat.reduceBEq, Bool.or_false, Bool.or_true, Bool.true_or, Bool.false_or, back, rangeIn, go_sem, Nat.reduceBEq, Nat.reduceEqDiff, Nat.reduceLT, Nat.reduceLeDiff, Nat.reduceAdd, Nat.reduceMul, Nat.reduceSub, Nat.reduceDiv, Int.reduceLT, Int.reduceLE, Int.reduceToNat, Int.reduceNeg, Int.reduceSub, Int.reduceAdd, reduceIte, reduceCtorEq]
        exact ⟨_, rfl, by simp only [gS_u, gB_u, gO_u, gc, gcIdx, range1, range2, range3, range4, range5, List.filter_cons, List.idxOf?_cons, List.idxOf?_nil, List.getD_cons_zero, List.getD_cons_succ, List.getD_nil, List.contains_cons, List.contains_nil, List.elem_nil, Nat.reduceBEq, Bool.or_false, Bool.or_true, Bool.true_or, Bool.false_or, back, rangeIn, go_sem, Nat.reduceBEq, Nat.reduceEqDiff, Nat.reduceLT, Nat.reduceLeDiff, Nat.reduceAdd, Nat.reduceMul, Nat.reduceSub, Nat.reduceDiv, Int.reduceLT, Int.reduceLE, Int.reduceToNat, Int.reduceNeg, Int.reduceSub, Int.reduceAdd, reduceIte, reduceCtorEq]⟩
    have hyes : tyB g x = true → ∃ fr m, U tbl Y 0 fn35_L1 st z = some (.ret, ⟨fr, m⟩, z) ∧ getF fr.l 2 = Vi 10 := fun ht => by
      rw [fn35_L1, u_loop tbl Y 0 z hg]
      unfold tyB at ht
      have hk2 : x.kind = 2 := by
        by_cases hk2 : x.kind = 2
        · exact hk2
        · simp [hk2] at ht
      obtain ⟨i0, i1⟩ := hi x (List.mem_of_getElem? h1) hk2
      obtain ⟨j, hj⟩ := Int.eq_ofNat_of_zero_le i0
      have g1 : g.infos[j]? = some (g.infos.getD j ⟨0, 0⟩) := by rw [List.getD_eq_getElem?_getD, List.getElem?_eq_getElem (by omega)]; rfl
      rw [hj, hk2] at ht
      generalize g.infos.getD j ⟨0, 0⟩ = y at g1
      simp only [Int.toNat_natCast] at ht
      have g2 : g.infos.getD j ⟨0, 0⟩ = y := by rw [List.getD_eq_getElem?_getD, g1]; rfl
      rw [g2] at ht
      cases b1 : (y.player == x.player) with
      | true =>
        have b2 : (y.actions == (x.next.length : Int)) = false := by simpa [b1] using ht
        simp only [fn35_B1, fn35_P6, fn35_D6, fn35_P10, fn35_D10, fn35_P18, fn35_D18, fn35_P29, fn35_D29, natlt h2, h1, hk2, hj, g1, bne, b1, b2, ft, gS_u, gB_u, gO_u, gc, gcIdx, range1, range2, range3, range4, range5, List.filter_cons, List.idxOf?_cons, List.idxOf?_nil, List.getD_cons_zero, List.getD_cons_succ, List.getD_nil, List.contains_cons, List.contains_nil, List.elem_nil, Nat.reduceBEq, Bool.or_false, Bool.or_true, Bool.true_or, Bool.false_or, back, rangeIn, go_sem, Nat.reduceBEq, Nat.reduceEqDiff, Nat.reduceLT, Nat.reduceLeDiff, Nat.reduceAdd, Nat.reduceMul, Nat.reduceSub, Nat.reduceDiv, Int.reduceLT, Int.reduceLE, Int.reduceToNat, Int.reduceNeg, Int.reduceSub, Int.reduceAdd, reduceIte, reduceCtorEq]
        exact ⟨_, _, rfl, by simp only [go_sem, Nat.reduceBEq, Nat.reduceEqDiff, Nat.reduceLT, Nat.reduceLeDiff, Nat.reduceAdd, Nat.reduceMul, Nat.reduceSub, Nat.reduceDiv, Int.reduceLT, Int.reduceLE, Int.reduceToNat, Int.reduceNeg, Int.reduceSub, Int.reduceAdd, reduceIte, reduceCtorEq]⟩
      | false =>
        simp only [fn35_B1, fn35_P6, fn35_D6, fn35_P10, fn35_D10, fn35_P18, fn35_D18, fn35_P29, fn35_D29, natlt h2, h1, hk2, hj, g1, bne, b1, ft, gS_u, gB_u, gO_u, gc, gcIdx, range1, range2, range3, range4, range5, List.filter_cons, List.idxOf?_cons, List.idxOf?_nil, List.getD_cons_zero, List.getD_cons_succ, List.getD_nil, List.contains_cons, List.contains_nil, List.elem_nil, Nat.reduceBEq, Bool.or_false, Bool.or_true, Bool.true_or, Bool.false_or, back, rangeIn, go_sem, Nat.reduceBEq, Nat.reduceEqDiff, Nat.reduceLT, Nat.reduceLeDiff, Nat.reduceAdd, Nat.reduceMul, Nat.reduceSub, Nat.reduceDiv, Int.reduceLT, Int.reduceLE, Int.reduceToNat, Int.reduceNeg, Int.reduceSub, Int.reduceAdd, reduceIte, reduceCtorEq]
        exact ⟨_, _, rfl, by simp only [go_sem, Nat.reduceBEq, Nat.reduceEqDiff, Nat.reduceLT, Nat.reduceLeDiff, Nat.reduceAdd, Nat.reduceMul, Nat.reduceSub, Nat.reduceDiv, Int.reduceLT, Int.reduceLE, Int.reduceToNat, Int.reduceNeg, Int.reduceSub, Int.reduceAdd, reduceIte, reduceCtorEq]⟩
    cases ht : tyB g x with
    | true =>
      rw [List.any_cons, ht, Bool.true_or, if_neg (by simp)]
      exact hyes ht
    | false =>
      obtain ⟨st1, e1, e2⟩ := hno ht
      rw [List.any_cons, ht, Bool.false_or, e1]
      exact ih (k + 1) st1 h3 (by omega) e2

set_option maxHeartbeats 400000 in
theorem L35_2 {E : List (List Int)} (hE : E.length ≤ 5000) {σ : Type} (Y : List P → σ → Option (Bool × σ)) (z : σ) : ∀ (r : List (List Int)) (k : Nat) (st : St), E.drop k = r → k ≤ E.length →
    gc 0 (liftAll [] ⟨keepOnly [8, 9] st.fr, st.mem⟩) = some ⟨⟨136, [(8, Vls E), (9, Vi k)]⟩, []⟩ →
    if r.any (fun l => (l.length : Int) == 0) = false then U tbl Y 0 fn35_L2 st z = some (.exit 4, ⟨⟨136, [(8, Vls E), (9, Vi E.length), (107, Vb false)]⟩, []⟩, z)
    else ∃ fr m, U tbl Y 0 fn35_L2 st z = some (.ret, ⟨fr, m⟩, z) ∧ getF fr.l 2 = Vi 18 := by
  intro r
  induction r with
  | nil =>
    intro k st hd hk hg
    have e : k = E.length := by have := drop_nil_facts hd; omega
    subst e
    rw [if_pos (show ([] : List (List Int)).any (fun l => (l.length : Int) == 0) = false from rfl)]
    rw [fn35_L2, u_loop tbl Y 0 z hg]
    simp only [fn35_B2, fn35_P6, fn35_D6, fn35_P10, fn35_D10, fn35_P18, fn35_D18, fn35_P29, fn35_D29, natnlt (Nat.le_refl E.length), go_sem, Nat.reduceBEq, Nat.reduceEqDiff, Nat.reduceLT, Nat.reduceLeDiff, Nat.reduceAdd, Nat.reduceMul, Nat.reduceSub, Nat.reduceDiv, Int.reduceLT, Int.reduceLE, Int.reduceToNat, Int.reduceNeg, Int.reduceSub, Int.reduceAdd, reduceIte, reduceCtorEq]
  | cons x r ih =>
    intro k st hd hk hg
    obtain ⟨h1, h2, h3⟩ := drop_cons_facts hd
    have hno : ((x.length : Int) == 0) = false → ∃ st1, U tbl Y 0 fn35_L2 st z = U tbl Y 0 fn35_L2 st1 z ∧ gc 0 (liftAll [] ⟨keepOnly [8, 9] st1.fr, st1.mem⟩) = some ⟨⟨136, [(8, Vls E), (9, Vi (k + 1 : Nat))]⟩, []⟩ := fun ht => by
      rw [fn35_L2, u_loop tbl Y 0 z hg]
      simp only [fn35_B2, fn35_P6, fn35_D6, fn35_P10, fn35_D10, fn35_P18, fn35_D18, fn35_P29, fn35_D29, natlt h2, h1, ht, succ64 (show k < 9223372036854775807 by omega), gc, gcIdx, range1, range2, range3, range4, range5, List.filter_cons, List.idxOf?_cons, List.idxOf?_nil, List.getD_cons_zero, List.getD_cons_succ, List.getD_nil, List.contains_cons, List.contains_nil, List.elem_nil, Nat.reduceBEq, Bool.or_false, Bool.or_true, Bool.true_or, Bool.false_or, back, rangeIn, go_sem, Nat.reduceBEq, Nat.reduceEqDiff, Nat.reduceLT, Nat.reduceLeDiff, Nat.reduceAdd, Nat.reduceMul, Nat.reduceSub, Nat.reduceDiv, Int.reduceLT, Int.reduceLE, Int.reduceToNat, Int.reduceNeg, Int.reduceSub, Int.reduceAdd, reduceIte, reduceCtorEq]
      exact ⟨_, rfl, by simp only [gc, gcIdx, range1, range2, range3, range4, range5, List.filter_cons, List.idxOf?_cons, List.idxOf?_nil, List.getD_cons_zero, List.getD_cons_succ, List.getD_nil, List.contains_cons, List.contains_nil, List.elem_nil, Nat.reduceBEq, Bool.or_false, Bool.or_true, Bool.true_or, Bool.false_or, back, rangeIn, go_sem, Nat.reduceBEq, Nat.reduceEqDiff, Nat.reduceLT, Nat.reduceLeDiff, Nat.reduceAdd, Nat.reduceMul, Nat.reduceSub, Nat.reduceDiv, Int.reduceLT, Int.reduceLE, Int.reduceToNat, Int.reduceNeg, Int.reduceSub, Int.reduceAdd, reduceIte, reduceCtorEq]⟩
    have hyes : ((x.length : Int) == 0) = true → ∃ fr m, U tbl Y 0 fn35_L2 st z = some (.ret, ⟨fr, m⟩, z) ∧ getF fr.l 2 = Vi 18 := fun ht => by
      rw [fn35_L2, u_loop tbl Y 0 z hg]
      simp only [fn35_B2, fn35_P6, fn35_D6, fn35_P10, fn35_D10, fn35_P18, fn35_D18, fn35_P29, fn35_D29, natlt h2, h1, ht, gc, gcIdx, range1, range2, range3, range4, range5, List.filter_cons, List.idxOf?_cons, List.idxOf?_nil, List.getD_cons_zero, List.getD_cons_succ, List.getD_nil, List.contains_cons, List.contains_nil, List.elem_nil, Nat.reduceBEq, Bool.or_false, Bool.or_true, Bool.true_or, Bool.false_or, back, rangeIn, go_sem, Nat.reduceBEq, Nat.reduceEqDiff, Nat.reduceLT, Nat.reduceLeDiff, Nat.reduceAdd, Nat.reduceMul, Nat.reduceSub, Nat.reduceDiv, Int.reduceLT, Int.reduceLE, Int.reduceToNat, Int.reduceNeg, Int.reduceSub, Int.reduceAdd, reduceIte, reduceCtorEq]
      exact ⟨_, _, rfl, by simp only [go_sem, Nat.reduceBEq, Nat.reduceEqDiff, Nat.reduceLT, Nat.reduceLeDiff, Nat.reduceAdd, Nat.reduceMul, Nat.reduceSub, Nat.reduceDiv, Int.reduceLT, Int.reduceLE, Int.reduceToNat, Int.reduceNeg, Int.reduceSub, Int.reduceAdd, reduceIte, reduceCtorEq]⟩
    cases ht : ((x.length : Int) == 0) with
    | true =>
      rw [List.any_cons, ht, Bool.true_or, if_neg (by simp)]
      exact hyes ht
    | false =>
      obtain ⟨st1, e1, e2⟩ := hno ht
      rw [List.any_cons, ht, Bool.false_or, e1]
      exact ih (k + 1) st1 h3 (by omega) e2

/-- The same order, from the front. -/
theorem srtD_iff (E : List (List Int)) : ∀ i, srtD E i = true ↔ ∀ k, k < i → ¬ hd0 (E.getD (k + 1) []) < hd0 (E.getD k [])
  | 0 => by simp [srtD]
  | i + 1 => by
    simp only [srtD]
    constructor
    · intro h k hk
      split at h
      · cases h
      · rename_i hc
        rcases Nat.lt_or_ge k i with h1 | h1
        · exact (srtD_iff E i).1 h k h1
        · have : k = i := by omega
          subst this
          omega
    · intro h
      rw [if_neg (by have := h i (by omega); omega)]
      exact (srtD_iff E i).2 fun k hk => h k (by omega)

set_option maxHeartbeats 400000 in
theorem L35_3 {E : List (List Int)} (hE : E.length ≤ 5000) (hne : ∀ l ∈ E, l ≠ [] ∧ 0 ≤ hd0 l ∧ hd0 l ≤ 10000) {σ : Type} (Y : List P → σ → Option (Bool × σ)) (z : σ) : ∀ (j k : Nat) (st : St), k + j = E.length → 1 ≤ k →
    (∀ i, i + 1 < k → ¬ hd0 (E.getD (i + 1) []) < hd0 (E.getD i [])) →
    gc 0 (liftAll [] ⟨keepOnly [8, 10] st.fr, st.mem⟩) = some ⟨⟨136, [(8, Vls E), (10, Vi k)]⟩, []⟩ →
    if srtD E (E.length - 1) = true then U tbl Y 0 fn35_L3 st z = some (.exit 6, ⟨⟨136, [(8, Vls E), (10, Vi E.length), (119, Vb false)]⟩, []⟩, z)
    else ∃ fr m, U tbl Y 0 fn35_L3 st z = some (.ret, ⟨fr, m⟩, z) ∧ getF fr.l 2 = Vi 9 := by
  intro j
  induction j with
  | zero =>
    intro k st hk h1 hs hg
    have e : k = E.length := by omega
    subst e
    rw [if_pos ((srtD_iff E _).2 fun i hi => hs i (by omega))]
    rw [fn35_L3, u_loop tbl Y 0 z hg]
    simp only [fn35_B3, fn35_P6, fn35_D6, fn35_P10, fn35_D10, fn35_P18, fn35_D18, fn35_P29, fn35_D29, natnlt (Nat.le_refl E.length), go_sem, Nat.reduceBEq, Nat.reduceEqDiff, Nat.reduceLT, Nat.reduceLeDiff, Nat.reduceAdd, Nat.reduceMul, Nat.reduceSub, Nat.reduceDiv, Int.reduceLT, Int.reduceLE, Int.reduceToNat, Int.reduceNeg, Int.reduceSub, Int.reduceAdd, reduceIte, reduceCtorEq]
  | succ j ih =>
    intro k st hk h1 hs hg
    obtain ⟨i, rfl⟩ : ∃ i, k = i + 1 := ⟨k - 1, by omega⟩
    have h2 : i + 1 < E.length := by omega
    have g1 : E[i + 1]? = some (E.getD (i + 1) []) := by rw [List.getD_eq_getElem?_getD, List.getElem?_eq_getElem h2]; rfl
    have g2 : E[i]? = some (E.getD i []) := by rw [List.getD_eq_getElem?_getD, List.getElem?_eq_getElem (by omega)]; rfl
    obtain ⟨n1, b1⟩ := hne _ (List.mem_of_getElem? g1)
    obtain ⟨n2, b2⟩ := hne _ (List.mem_of_getElem? g2)
    have hw : IntKind.wrap .i64 (((i + 1 : Nat) : Int) - 1) = (i : Int) := by rw [wrap64 (by omega) (by omega)]; omega
    have hstep : (hd0 (E.getD (i + 1) []) < hd0 (E.getD i []) → ∃ fr m, U tbl Y 0 fn35_L3 st z = some (.ret, ⟨fr, m⟩, z) ∧ getF fr.l 2 = Vi 9) ∧
        (¬ hd0 (E.getD (i + 1) []) < hd0 (E.getD i []) → ∃ st1, U tbl Y 0 fn35_L3 st z = U tbl Y 0 fn35_L3 st1 z ∧ gc 0 (liftAll [] ⟨keepOnly [8, 10] st1.fr, st1.mem⟩) = some ⟨⟨136, [(8, Vls E), (10, Vi (i + 1 + 1 : Nat))]⟩, []⟩) := by
      generalize E.getD (i + 1) [] = u at *
      generalize E.getD i [] = v at *
      cases u with
      | nil => exact absurd rfl n1
      | cons x u =>
        cases v with
        | nil => exact absurd rfl n2
        | cons y v =>
          simp only [hd0, List.getD_cons_zero]
          constructor
          · intro hc
            rw [fn35_L3, u_loop tbl Y 0 z hg]
            simp only [fn35_B3, fn35_P6, fn35_D6, fn35_P10, fn35_D10, fn35_P18, fn35_D18, fn35_P29, fn35_D29, natlt h2, g1, g2, hw, hc, gc, gcIdx, range1, range2, range3, range4, range5, List.filter_cons, List.idxOf?_cons, List.idxOf?_nil, List.getD_cons_zero, List.getD_cons_succ, List.getD_nil, List.contains_cons, List.contains_nil, List.elem_nil, Nat.reduceBEq, Bool.or_false, Bool.or_true, Bool.true_or, Bool.false_or, back, rangeIn, go_sem, Nat.reduceBEq, Nat.reduceEqDiff, Nat.reduceLT, Nat.reduceLeDiff, Nat.reduceAdd, Nat.reduceMul, Nat.reduceSub, Nat.reduceDiv, Int.reduceLT, Int.reduceLE, Int.reduceToNat, Int.reduceNeg, Int.reduceSub, Int.reduceAdd, reduceIte, reduceCtorEq]
            exact ⟨_, _, rfl, by simp only [go_sem, Nat.reduceBEq, Nat.reduceEqDiff, Nat.reduceLT, Nat.reduceLeDiff, Nat.reduceAdd, Nat.reduceMul, Nat.reduceSub, Nat.reduceDiv, Int.reduceLT, Int.reduceLE, Int.reduceToNat, Int.reduceNeg, Int.reduceSub, Int.reduceAdd, reduceIte, reduceCtorEq]⟩
          · intro hc
            rw [fn35_L3, u_loop tbl Y 0 z hg]
            simp only [fn35_B3, fn35_P6, fn35_D6, fn35_P10, fn35_D10, fn35_P18, fn35_D18, fn35_P29, fn35_D29, natlt h2, g1, g2, hw, hc, succ64 (show i + 1 < 9223372036854775807 by omega), gc, gcIdx, range1, range2, range3, range4, range5, List.filter_cons, List.idxOf?_cons, List.idxOf?_nil, List.getD_cons_zero, List.getD_cons_succ, List.getD_nil, List.contains_cons, List.contains_nil, List.elem_nil, Nat.reduceBEq, Bool.or_false, Bool.or_true, Bool.true_or, Bool.false_or, back, rangeIn, go_sem, Nat.reduceBEq, Nat.reduceEqDiff, Nat.reduceLT, Nat.reduceLeDiff, Nat.reduceAdd, Nat.reduceMul, Nat.reduceSub, Nat.reduceDiv, Int.reduceLT, Int.reduceLE, Int.reduceToNat, Int.reduceNeg, Int.reduceSub, Int.reduceAdd, reduceIte, reduceCtorEq]
            exact ⟨_, rfl, by simp only [gc, gcIdx, range1, range2, range3, range4, range5, List.filter_cons, List.idxOf?_cons, List.idxOf?_nil, List.getD_cons_zero, List.getD_cons_succ, List.getD_nil, List.contains_cons, List.contains_nil, List.elem_nil, Nat.reduceBEq, Bool.or_false, Bool.or_true, Bool.true_or, Bool.false_or, back, rangeIn, go_sem, Nat.reduceBEq, Nat.reduceEqDiff, Nat.reduceLT, Nat.reduceLeDiff, Nat.reduceAdd, Nat.reduceMul, Nat.reduceSub, Nat.reduceDiv, Int.reduceLT, Int.reduceLE, Int.reduceToNat, Int.reduceNeg, Int.reduceSub, Int.reduceAdd, reduceIte, reduceCtorEq]⟩
    by_cases hc : hd0 (E.getD (i + 1) []) < hd0 (E.getD i [])
    · rw [if_neg (fun h => (srtD_iff E _).1 h i (by omega) hc)]
      exact hstep.1 hc
    · obtain ⟨st1, e1, e2⟩ := hstep.2 hc
      rw [e1]
      exact ih (i + 1 + 1) st1 (by omega) (by omega) (fun k hk => by
        by_cases hki : k = i
        · subst hki; exact hc
        · exact hs k (by omega)) e2
end
end Go.Am

namespace Go.Am
open Go
set_option linter.unusedSimpArgs false
set_option linter.unusedVariables false
set_option maxRecDepth 100000
open Go.Proofs.Ytdhfhbmfdjnnjaa.Fns

theorem fin35 {g : Gm} (hE : (sts g).length ≤ 5000) (hne : ∀ l ∈ sts g, l ≠ [] ∧ 0 ≤ hd0 l ∧ hd0 l ≤ 10000) :
    if srtD (sts g) ((sts g).length - 1) = true then ∃ q : Int, U tbl noY 0 fn35_L3 ⟨⟨136, [(8, Vls (sts g)), (9, Vi (sts g).length), (10, Vi 1), (107, Vb false)]⟩, []⟩ () = some (.exit 6, ⟨⟨136, [(8, Vls (sts g)), (10, Vi q), (119, Vb false)]⟩, []⟩, ())
    else ∃ fr m, U tbl noY 0 fn35_L3 ⟨⟨136, [(8, Vls (sts g)), (9, Vi (sts g).length), (10, Vi 1), (107, Vb false)]⟩, []⟩ () = some (.ret, ⟨fr, m⟩, ()) ∧ getF fr.l 2 = Vi 9 := by
  by_cases h0 : (sts g).length = 0
  · have e : sts g = [] := List.eq_nil_of_length_eq_zero h0
    rw [e, if_pos (show srtD [] (([] : List (List Int)).length - 1) = true from rfl)]
    have hg : gc 0 (liftAll [] ⟨keepOnly [8, 10] (⟨136, [(8, Vls []), (9, Vi ([] : List (List Int)).length), (10, Vi 1), (107, Vb false)]⟩ : Fr), []⟩) = some ⟨⟨136, [(8, Vls []), (10, Vi 1)]⟩, []⟩ := by
      simp only [List.map_nil, gc, gcIdx, range1, range2, range3, range4, range5, List.filter_cons, List.idxOf?_cons, List.idxOf?_nil, List.getD_cons_zero, List.getD_cons_succ, List.getD_nil, List.contains_cons, List.contains_nil, List.elem_nil, Nat.reduceBEq, Bool.or_false, Bool.or_true, Bool.true_or, Bool.false_or, back, rangeIn, go_sem, Nat.reduceBEq, Nat.reduceEqDiff, Nat.reduceLT, Nat.reduceLeDiff, Nat.reduceAdd, Nat.reduceMul, Nat.reduceSub, Nat.reduceDiv, Int.reduceLT, Int.reduceLE, Int.reduceToNat, Int.reduceNeg, Int.reduceSub, Int.reduceAdd, reduceIte, reduceCtorEq]
      rfl
    have c1 : ¬ (1 : Int) < ((0 : Nat) : Int) := by omega
    rw [fn35_L3, u_loop tbl noY 0 () hg]
    simp only [fn35_B3, fn35_P6, fn35_D6, fn35_P10, fn35_D10, fn35_P18, fn35_D18, fn35_P29, fn35_D29, c1, List.map_nil, List.length_nil, go_sem, Nat.reduceBEq, Nat.reduceEqDiff, Nat.reduceLT, Nat.reduceLeDiff, Nat.reduceAdd, Nat.reduceMul, Nat.reduceSub, Nat.reduceDiv, Int.reduceLT, Int.reduceLE, Int.reduceToNat, Int.reduceNeg, Int.reduceSub, Int.reduceAdd, reduceIte, reduceCtorEq]
    exact ⟨1, rfl⟩
  · have := L35_3 hE hne noY () ((sts g).length - 1) 1 ⟨⟨136, [(8, Vls (sts g)), (9, Vi (sts g).length), (10, Vi (1 : Nat)), (107, Vb false)]⟩, []⟩ (by omega) (by omega) (fun i hi => by omega) (by simp only [gc, gcIdx, range1, range2, range3, range4, range5, List.filter_cons, List.idxOf?_cons, List.idxOf?_nil, List.getD_cons_zero, List.getD_cons_succ, List.getD_nil, List.contains_cons, List.contains_nil, List.elem_nil, Nat.reduceBEq, Bool.or_false, Bool.or_true, Bool.true_or, Bool.false_or, back, rangeIn, go_sem, Nat.reduceBEq, Nat.reduceEqDiff, Nat.reduceLT, Nat.reduceLeDiff, Nat.reduceAdd, Nat.reduceMul, Nat.reduceSub, Nat.reduceDiv, Int.reduceLT, Int.reduceLE, Int.reduceToNat, Int.reduceNeg, Int.reduceSub, Int.reduceAdd, reduceIte, reduceCtorEq])
    simp only [Int.natCast_one] at this
    by_cases hs : srtD (sts g) ((sts g).length - 1) = true
    · rw [if_pos hs] at this ⊢
      exact ⟨_, this⟩
    · rw [if_neg hs] at this ⊢
      exact this

set_option maxHeartbeats 2000000 in
theorem s35 (g : Gm) (hb : ∀ x ∈ g.nodes, x.next.length ≤ 2000000 ∧ x.weights.length ≤ 2000000 ∧ x.pay.length ≤ 2000000) : (EL tbl).call 35 [Vg g] [] = some (Vi (formE g), []) := by
  unfold formE
  cases hh : hdB g with
  | true =>
    rw [if_pos rfl]
    unfold hdB at hh
    rw [call_fn' tbl (show tbl 35 = some fn35 from rfl) _ _ (Nat.le_of_ble_eq_true rfl)]
    simp only [fn35, fn35_P6, fn35_D6, fn35_P10, fn35_D10, fn35_P18, fn35_D18, fn35_P29, fn35_D29, gc, gcIdx, range1, range2, range3, range4, range5, List.filter_cons, List.idxOf?_cons, List.idxOf?_nil, List.getD_cons_zero, List.getD_cons_succ, List.getD_nil, List.contains_cons, List.contains_nil, List.elem_nil, Nat.reduceBEq, Bool.or_false, Bool.or_true, Bool.true_or, Bool.false_or, back, rangeIn, go_sem, Nat.reduceBEq, Nat.reduceEqDiff, Nat.reduceLT, Nat.reduceLeDiff, Nat.reduceAdd, Nat.reduceMul, Nat.reduceSub, Nat.reduceDiv, Int.reduceLT, Int.reduceLE, Int.reduceToNat, Int.reduceNeg, Int.reduceSub, Int.reduceAdd, reduceIte, reduceCtorEq]
    all_goals try (rcases Bool.eq_false_or_eq_true (decide (g.players < 1)) with hc0 | hc0 <;> simp only [hc0, fn35, fn35_P6, fn35_D6, fn35_P10, fn35_D10, fn35_P18, fn35_D18, fn35_P29, fn35_D29, gc, gcIdx, range1, range2, range3, range4, range5, List.filter_cons, List.idxOf?_cons, List.idxOf?_nil, List.getD_cons_zero, List.getD_cons_succ, List.getD_nil, List.contains_cons, List.contains_nil, List.elem_nil, Nat.reduceBEq, Bool.or_false, Bool.or_true, Bool.true_or, Bool.false_or, back, rangeIn, go_sem, Nat.reduceBEq, Nat.reduceEqDiff, Nat.reduceLT, Nat.reduceLeDiff, Nat.reduceAdd, Nat.reduceMul, Nat.reduceSub, Nat.reduceDiv, Int.reduceLT, Int.reduceLE, Int.reduceToNat, Int.reduceNeg, Int.reduceSub, Int.reduceAdd, reduceIte, reduceCtorEq])
    all_goals try (rcases Bool.eq_false_or_eq_true (decide (4 < g.players)) with hc1 | hc1 <;> simp only [hc1, fn35, fn35_P6, fn35_D6, fn35_P10, fn35_D10, fn35_P18, fn35_D18, fn35_P29, fn35_D29, gc, gcIdx, range1, range2, range3, range4, range5, List.filter_cons, List.idxOf?_cons, List.idxOf?_nil, List.getD_cons_zero, List.getD_cons_succ, List.getD_nil, List.contains_cons, List.contains_nil, List.elem_nil, Nat.reduceBEq, Bool.or_false, Bool.or_true, Bool.true_or, Bool.false_or, back, rangeIn, go_sem, Nat.reduceBEq, Nat.reduceEqDiff, Nat.reduceLT, Nat.reduceLeDiff, Nat.reduceAdd, Nat.reduceMul, Nat.reduceSub, Nat.reduceDiv, Int.reduceLT, Int.reduceLE, Int.reduceToNat, Int.reduceNeg, Int.reduceSub, Int.reduceAdd, reduceIte, reduceCtorEq])
    all_goals try (rcases Bool.eq_false_or_eq_true (decide ((g.nodes.length : Int) < 1)) with hc2 | hc2 <;> simp only [hc2, fn35, fn35_P6, fn35_D6, fn35_P10, fn35_D10, fn35_P18, fn35_D18, fn35_P29, fn35_D29, gc, gcIdx, range1, range2, range3, range4, range5, List.filter_cons, List.idxOf?_cons, List.idxOf?_nil, List.getD_cons_zero, List.getD_cons_succ, List.getD_nil, List.contains_cons, List.contains_nil, List.elem_nil, Nat.reduceBEq, Bool.or_false, Bool.or_true, Bool.true_or, Bool.false_or, back, rangeIn, go_sem, Nat.reduceBEq, Nat.reduceEqDiff, Nat.reduceLT, Nat.reduceLeDiff, Nat.reduceAdd, Nat.reduceMul, Nat.reduceSub, Nat.reduceDiv, Int.reduceLT, Int.reduceLE, Int.reduceToNat, Int.reduceNeg, Int.reduceSub, Int.reduceAdd, reduceIte, reduceCtorEq])
    all_goals try (rcases Bool.eq_false_or_eq_true (decide (2000 < (g.nodes.length : Int))) with hc3 | hc3 <;> simp only [hc3, fn35, fn35_P6, fn35_D6, fn35_P10, fn35_D10, fn35_P18, fn35_D18, fn35_P29, fn35_D29, gc, gcIdx, range1, range2, range3, range4, range5, List.filter_cons, List.idxOf?_cons, List.idxOf?_nil, List.getD_cons_zero, List.getD_cons_succ, List.getD_nil, List.contains_cons, List.contains_nil, List.elem_nil, Nat.reduceBEq, Bool.or_false, Bool.or_true, Bool.true_or, Bool.false_or, back, rangeIn, go_sem, Nat.reduceBEq, Nat.reduceEqDiff, Nat.reduceLT, Nat.reduceLeDiff, Nat.reduceAdd, Nat.reduceMul, Nat.reduceSub, Nat.reduceDiv, Int.reduceLT, Int.reduceLE, Int.reduceToNat, Int.reduceNeg, Int.reduceSub, Int.reduceAdd, reduceIte, reduceCtorEq])
    all_goals try (rcases Bool.eq_false_or_eq_true (decide (200 < (g.infos.length : Int))) with hc4 | hc4 <;> simp only [hc4, fn35, fn35_P6, fn35_D6, fn35_P10, fn35_D10, fn35_P18, fn35_D18, fn35_P29, fn35_D29, gc, gcIdx, range1, range2, range3, range4, range5, List.filter_cons, List.idxOf?_cons, List.idxOf?_nil, List.getD_cons_zero, List.getD_cons_succ, List.getD_nil, List.contains_cons, List.contains_nil, List.elem_nil, Nat.reduceBEq, Bool.or_false, Bool.or_true, Bool.true_or, Bool.false_or, back, rangeIn, go_sem, Nat.reduceBEq, Nat.reduceEqDiff, Nat.reduceLT, Nat.reduceLeDiff, Nat.reduceAdd, Nat.reduceMul, Nat.reduceSub, Nat.reduceDiv, Int.reduceLT, Int.reduceLE, Int.reduceToNat, Int.reduceNeg, Int.reduceSub, Int.reduceAdd, reduceIte, reduceCtorEq])
    all_goals simp_all
  | false =>
    rw [if_neg (by simp)]
    unfold hdB at hh
    simp only [Bool.or_eq_false_iff] at hh
    obtain ⟨⟨⟨⟨c1, c2⟩, c3⟩, c4⟩, c5⟩ := hh
    have hn : g.nodes.length ≤ 2000 := by simp at c4; omega
    have hin : g.infos.length ≤ 200 := by simp at c5; omega
    have h0 := L35_0 (g := g) (by omega) (fun x hx => (hb x hx).2) noY () g.nodes 0 ⟨⟨136, [(1, .ptr 0 0), (3, Vi (0 : Nat)), (36, Vb false)]⟩, [Cg g]⟩ (by simp) (by simp) (by simp only [gc, gcIdx, range1, range2, range3, range4, range5, List.filter_cons, List.idxOf?_cons, List.idxOf?_nil, List.getD_cons_zero, List.getD_cons_succ, List.getD_nil, List.contains_cons, List.contains_nil, List.elem_nil, Nat.reduceBEq, Bool.or_false, Bool.or_true, Bool.true_or, Bool.false_or, back, rangeIn, go_sem, Nat.reduceBEq, Nat.reduceEqDiff, Nat.reduceLT, Nat.reduceLeDiff, Nat.reduceAdd, Nat.reduceMul, Nat.reduceSub, Nat.reduceDiv, Int.reduceLT, Int.reduceLE, Int.reduceToNat, Int.reduceNeg, Int.reduceSub, Int.reduceAdd, reduceIte, reduceCtorEq])
    simp only [Int.natCast_zero] at h0
    by_cases he : errN g g.nodes = 0
    · rw [if_pos he] at h0 ⊢
      have e59 := s59 (g := g) (by omega) (fun x hx => by have := (hb x hx).1; omega) g.nodes.length 0 0 0 (by simp) (by omega) (by rw [List.drop_zero]; omega)
      rw [List.drop_zero, Int.natCast_zero] at e59
      cases ho : ordN g.nodes.length g.nodes 0 with
      | none =>
        rw [ho] at e59
        obtain ⟨d', e59⟩ := e59
        have b1 : ((-1 : Int) != (g.nodes.length : Int)) = true := by rw [bne_iff_ne]; omega
        rw [call_fn' tbl (show tbl 35 = some fn35 from rfl) _ _ (Nat.le_of_ble_eq_true rfl)]
        simp only [fn35, fn35_P6, fn35_D6, fn35_P10, fn35_D10, fn35_P18, fn35_D18, fn35_P29, fn35_D29, c1, c2, c3, c4, c5, h0, e59, b1, gc, gcIdx, range1, range2, range3, range4, range5, List.filter_cons, List.idxOf?_cons, List.idxOf?_nil, List.getD_cons_zero, List.getD_cons_succ, List.getD_nil, List.contains_cons, List.contains_nil, List.elem_nil, Nat.reduceBEq, Bool.or_false, Bool.or_true, Bool.true_or, Bool.false_or, back, rangeIn, go_sem, Nat.reduceBEq, Nat.reduceEqDiff, Nat.reduceLT, Nat.reduceLeDiff, Nat.reduceAdd, Nat.reduceMul, Nat.reduceSub, Nat.reduceDiv, Int.reduceLT, Int.reduceLE, Int.reduceToNat, Int.reduceNeg, Int.reduceSub, Int.reduceAdd, reduceIte, reduceCtorEq]
      | some s =>
        rw [ho] at e59
        simp only at e59 ⊢
        have hsl := drop_le ho
        have hi := info_ok he
        have e60 := s60 (g := g) (by omega) hi (by omega)
        by_cases a1 : 0 < s.1.length
        · rw [if_pos a1]
          have b1 : (((g.nodes.length - s.1.length : Nat) : Int) != (g.nodes.length : Int)) = true := by rw [bne_iff_ne]; omega
          rw [call_fn' tbl (show tbl 35 = some fn35 from rfl) _ _ (Nat.le_of_ble_eq_true rfl)]
          simp only [fn35, fn35_P6, fn35_D6, fn35_P10, fn35_D10, fn35_P18, fn35_D18, fn35_P29, fn35_D29, c1, c2, c3, c4, c5, h0, e59, b1, gc, gcIdx, range1, range2, range3, range4, range5, List.filter_cons, List.idxOf?_cons, List.idxOf?_nil, List.getD_cons_zero, List.getD_cons_succ, List.getD_nil, List.contains_cons, List.contains_nil, List.elem_nil, Nat.reduceBEq, Bool.or_false, Bool.or_true, Bool.true_or, Bool.false_or, back, rangeIn, go_sem, Nat.reduceBEq, Nat.reduceEqDiff, Nat.reduceLT, Nat.reduceLeDiff, Nat.reduceAdd, Nat.reduceMul, Nat.reduceSub, Nat.reduceDiv, Int.reduceLT, Int.reduceLE, Int.reduceToNat, Int.reduceNeg, Int.reduceSub, Int.reduceAdd, reduceIte, reduceCtorEq]
        · rw [if_neg a1]
          have b1 : (((g.nodes.length - s.1.length : Nat) : Int) != (g.nodes.length : Int)) = false := by rw [bne_eq_false_iff_eq]; omega
          by_cases a2 : 40 < s.2
          · rw [if_pos a2]
            have a2' : (40 : Int) < max 0 (0 + (s.2 : Int)) := by omega
            rw [call_fn' tbl (show tbl 35 = some fn35 from rfl) _ _ (Nat.le_of_ble_eq_true rfl)]
            simp only [fn35, fn35_P6, fn35_D6, fn35_P10, fn35_D10, fn35_P18, fn35_D18, fn35_P29, fn35_D29, c1, c2, c3, c4, c5, h0, e59, b1, a2', gc, gcIdx, range1, range2, range3, range4, range5, List.filter_cons, List.idxOf?_cons, List.idxOf?_nil, List.getD_cons_zero, List.getD_cons_succ, List.getD_nil, List.contains_cons, List.contains_nil, List.elem_nil, Nat.reduceBEq, Bool.or_false, Bool.or_true, Bool.true_or, Bool.false_or, back, rangeIn, go_sem, Nat.reduceBEq, Nat.reduceEqDiff, Nat.reduceLT, Nat.reduceLeDiff, Nat.reduceAdd, Nat.reduceMul, Nat.reduceSub, Nat.reduceDiv, Int.reduceLT, Int.reduceLE, Int.reduceToNat, Int.reduceNeg, Int.reduceSub, Int.reduceAdd, reduceIte, reduceCtorEq]
          · rw [if_neg a2]
            have a2' : ¬ (40 : Int) < max 0 (0 + (s.2 : Int)) := by omega
            have h1 := L35_1 (g := g) (by omega) hi noY () g.nodes 0 ⟨⟨136, [(1, .ptr 0 0), (3, Vi g.nodes.length), (6, Vi (0 : Nat)), (41, Vb false), (59, Vb false), (61, Vb false)]⟩, [Cg g, .cells [Vi (max 0 (0 + (s.2 : Int)))]]⟩ (by simp) (by simp) (by simp only [gc, gcIdx, range1, range2, range3, range4, range5, List.filter_cons, List.idxOf?_cons, List.idxOf?_nil, List.getD_cons_zero, List.getD_cons_succ, List.getD_nil, List.contains_cons, List.contains_nil, List.elem_nil, Nat.reduceBEq, Bool.or_false, Bool.or_true, Bool.true_or, Bool.false_or, back, rangeIn, go_sem, Nat.reduceBEq, Nat.reduceEqDiff, Nat.reduceLT, Nat.reduceLeDiff, Nat.reduceAdd, Nat.reduceMul, Nat.reduceSub, Nat.reduceDiv, Int.reduceLT, Int.reduceLE, Int.reduceToNat, Int.reduceNeg, Int.reduceSub, Int.reduceAdd, reduceIte, reduceCtorEq])
            simp only [Int.natCast_zero] at h1
            cases ht : g.nodes.any (tyB g) with
            | true =>
              rw [if_neg (by simp [ht])] at h1
              rw [if_neg (by simp)]
              obtain ⟨fr, m, q1, q2⟩ := h1
              rw [call_fn' tbl (show tbl 35 = some fn35 from rfl) _ _ (Nat.le_of_ble_eq_true rfl)]
              simp only [fn35, fn35_P6, fn35_D6, fn35_P10, fn35_D10, fn35_P18, fn35_D18, fn35_P29, fn35_D29, c1, c2, c3, c4, c5, h0, e59, b1, a2', q1, q2, gc, gcIdx, range1, range2, range3, range4, range5, List.filter_cons, List.idxOf?_cons, List.idxOf?_nil, List.getD_cons_zero, List.getD_cons_succ, List.getD_nil, List.contains_cons, List.contains_nil, List.elem_nil, Nat.reduceBEq, Bool.or_false, Bool.or_true, Bool.true_or, Bool.false_or, back, rangeIn, go_sem, Nat.reduceBEq, Nat.reduceEqDiff, Nat.reduceLT, Nat.reduceLeDiff, Nat.reduceAdd, Nat.reduceMul, Nat.reduceSub, Nat.reduceDiv, Int.reduceLT, Int.reduceLE, Int.reduceToNat, Int.reduceNeg, Int.reduceSub, Int.reduceAdd, reduceIte, reduceCtorEq]
            | false =>
              rw [if_pos ht] at h1
              rw [if_pos rfl]
              have hsl : (sts g).length = g.infos.length := by unfold sts; rw [stR_len]; simp
              have h2 := L35_2 (E := sts g) (by omega) noY () (sts g) 0 ⟨⟨136, [(6, Vi g.nodes.length), (8, Vls (sts g)), (9, Vi (0 : Nat)), (66, Vb false)]⟩, [Cg g]⟩ (by simp) (by simp) (by simp only [gc, gcIdx, range1, range2, range3, range4, range5, List.filter_cons, List.idxOf?_cons, List.idxOf?_nil, List.getD_cons_zero, List.getD_cons_succ, List.getD_nil, List.contains_cons, List.contains_nil, List.elem_nil, Nat.reduceBEq, Bool.or_false, Bool.or_true, Bool.true_or, Bool.false_or, back, rangeIn, go_sem, Nat.reduceBEq, Nat.reduceEqDiff, Nat.reduceLT, Nat.reduceLeDiff, Nat.reduceAdd, Nat.reduceMul, Nat.reduceSub, Nat.reduceDiv, Int.reduceLT, Int.reduceLE, Int.reduceToNat, Int.reduceNeg, Int.reduceSub, Int.reduceAdd, reduceIte, reduceCtorEq])
              simp only [Int.natCast_zero] at h2
              cases ha : (sts g).any (fun l => (l.length : Int) == 0) with
              | true =>
                rw [if_neg (by simp [ha])] at h2
                rw [if_neg (by simp)]
                obtain ⟨fr, m, q1, q2⟩ := h2
                rw [call_fn' tbl (show tbl 35 = some fn35 from rfl) _ _ (Nat.le_of_ble_eq_true rfl)]
                simp only [fn35, fn35_P6, fn35_D6, fn35_P10, fn35_D10, fn35_P18, fn35_D18, fn35_P29, fn35_D29, c1, c2, c3, c4, c5, h0, e59, b1, a2', h1, e60, q1, q2, gc, gcIdx, range1, range2, range3, range4, range5, List.filter_cons, List.idxOf?_cons, List.idxOf?_nil, List.getD_cons_zero, List.getD_cons_succ, List.getD_nil, List.contains_cons, List.contains_nil, List.elem_nil, Nat.reduceBEq, Bool.or_false, Bool.or_true, Bool.true_or, Bool.false_or, back, rangeIn, go_sem, Nat.reduceBEq, Nat.reduceEqDiff, Nat.reduceLT, Nat.reduceLeDiff, Nat.reduceAdd, Nat.reduceMul, Nat.reduceSub, Nat.reduceDiv, Int.reduceLT, Int.reduceLE, Int.reduceToNat, Int.reduceNeg, Int.reduceSub, Int.reduceAdd, reduceIte, reduceCtorEq]
              | false =>
                rw [if_pos ha] at h2
                rw [if_pos rfl]
                have h3 := fin35 (g := g) (by omega) (sts_ok (by omega) ha)
                cases hs : srtD (sts g) ((sts g).length - 1) with
                | true =>
                  rw [if_pos hs] at h3
                  rw [if_pos rfl]
                  obtain ⟨st3, q1⟩ := h3
                  rw [call_fn' tbl (show tbl 35 = some fn35 from rfl) _ _ (Nat.le_of_ble_eq_true rfl)]
                  simp only [fn35, fn35_P6, fn35_D6, fn35_P10, fn35_D10, fn35_P18, fn35_D18, fn35_P29, fn35_D29, c1, c2, c3, c4, c5, h0, e59, b1, a2', h1, e60, h2, q1, gc, gcIdx, range1, range2, range3, range4, range5, List.filter_cons, List.idxOf?_cons, List.idxOf?_nil, List.getD_cons_zero, List.getD_cons_succ, List.getD_nil, List.contains_cons, List.contains_nil, List.elem_nil, Nat.reduceBEq, Bool.or_false, Bool.or_true, Bool.true_or, Bool.false_or, back, rangeIn, go_sem, Nat.reduceBEq, Nat.reduceEqDiff, Nat.reduceLT, Nat.reduceLeDiff, Nat.reduceAdd, Nat.reduceMul, Nat.reduceSub, Nat.reduceDiv, Int.reduceLT, Int.reduceLE, Int.reduceToNat, Int.reduceNeg, Int.reduceSub, Int.reduceAdd, reduceIte, reduceCtorEq]
                | false =>
                  rw [if_neg (by simp [hs])] at h3
                  rw [if_neg (by simp)]
                  obtain ⟨fr, m, q1, q2⟩ := h3
                  rw [call_fn' tbl (show tbl 35 = some fn35 from rfl) _ _ (Nat.le_of_ble_eq_true rfl)]
                  simp only [fn35, fn35_P6, fn35_D6, fn35_P10, fn35_D10, fn35_P18, fn35_D18, fn35_P29, fn35_D29, c1, c2, c3, c4, c5, h0, e59, b1, a2', h1, e60, h2, q1, q2, gc, gcIdx, range1, range2, range3, range4, range5, List.filter_cons, List.idxOf?_cons, List.idxOf?_nil, List.getD_cons_zero, List.getD_cons_succ, List.getD_nil, List.contains_cons, List.contains_nil, List.elem_nil, Nat.reduceBEq, Bool.or_false, Bool.or_true, Bool.true_or, Bool.false_or, back, rangeIn, go_sem, Nat.reduceBEq, Nat.reduceEqDiff, Nat.reduceLT, Nat.reduceLeDiff, Nat.reduceAdd, Nat.reduceMul, Nat.reduceSub, Nat.reduceDiv, Int.reduceLT, Int.reduceLE, Int.reduceToNat, Int.reduceNeg, Int.reduceSub, Int.reduceAdd, reduceIte, reduceCtorEq]
    · rw [if_neg he] at h0 ⊢
      obtain ⟨fr, m, h1, h2⟩ := h0
      rw [call_fn' tbl (show tbl 35 = some fn35 from rfl) _ _ (Nat.le_of_ble_eq_true rfl)]
      simp only [fn35, fn35_P6, fn35_D6, fn35_P10, fn35_D10, fn35_P18, fn35_D18, fn35_P29, fn35_D29, c1, c2, c3, c4, c5, h1, h2, gc, gcIdx, range1, range2, range3, range4, range5, List.filter_cons, List.idxOf?_cons, List.idxOf?_nil, List.getD_cons_zero, List.getD_cons_succ, List.getD_nil, List.contains_cons, List.contains_nil, List.elem_nil, Nat.reduceBEq, Bool.or_false, Bool.or_true, Bool.true_or, Bool.false_or, back, rangeIn, go_sem, Nat.reduceBEq, Nat.reduceEqDiff, Nat.reduceLT, Nat.reduceLeDiff, Nat.reduceAdd, Nat.reduceMul, Nat.reduceSub, Nat.reduceDiv, Int.reduceLT, Int.reduceLE, Int.reduceToNat, Int.reduceNeg, Int.reduceSub, Int.reduceAdd, reduceIte, reduceCtorEq]
end Go.Am

namespace Go.Am
open Go
set_option linter.unusedSimpArgs false
set_option linter.unusedVariables false
set_option maxRecDepth 100000
open Go.Proofs.Ytdhfhbmfdjnnjaa.Fns

/-! ### Games are like themselves -/

set_option maxHeartbeats 400000 in
theorem L40 {l : List Inf} (hl : l.length ≤ 2000000) {σ : Type} (Y : List P → σ → Option (Bool × σ)) (z : σ) : ∀ (r : List Inf) (k : Nat) (st : St), l.drop k = r → k ≤ l.length →
    gc 0 (liftAll [] ⟨keepOnly [0, 1, 5] st.fr, st.mem⟩) = some ⟨⟨26, [(0, .p (.sl 2 (l.map Pf))), (1, .p (.sl 2 (l.map Pf))), (5, Vi k)]⟩, []⟩ →
    U tbl Y 0 fn40_L0 st z = some (.exit 0, ⟨⟨26, [(0, .p (.sl 2 (l.map Pf))), (1, .p (.sl 2 (l.map Pf))), (5, Vi l.length), (14, Vb false)]⟩, []⟩, z) := by
  intro r
  induction r with
  | nil =>
    intro k st hd hk hg
    have e : k = l.length := by have := drop_nil_facts hd; omega
    subst e
    rw [fn40_L0, u_loop tbl Y 0 z hg]
    simp only [fn40_B0, fn40_P6, fn40_D6, natnlt (Nat.le_refl l.length), go_sem, Nat.reduceBEq, Nat.reduceEqDiff, Nat.reduceLT, Nat.reduceLeDiff, Nat.reduceAdd, Nat.reduceMul, Nat.reduceSub, Nat.reduceDiv, Int.reduceLT, Int.reduceLE, Int.reduceToNat, Int.reduceNeg, Int.reduceSub, Int.reduceAdd, reduceIte, reduceCtorEq]
  | cons x r ih =>
    intro k st hd hk hg
    obtain ⟨h1, h2, h3⟩ := drop_cons_facts hd
    rw [fn40_L0, u_loop tbl Y 0 z hg]
    simp only [fn40_B0, fn40_P6, fn40_D6, natlt h2, h1, succ64 (show k < 9223372036854775807 by omega), gc, gcIdx, range1, range2, range3, range4, range5, List.filter_cons, List.idxOf?_cons, List.idxOf?_nil, List.getD_cons_zero, List.getD_cons_succ, List.getD_nil, List.contains_cons, List.contains_nil, List.elem_nil, Nat.reduceBEq, Bool.or_false, Bool.or_true, Bool.true_or, Bool.false_or, back, rangeIn, go_sem, Nat.reduceBEq, Nat.reduceEqDiff, Nat.reduceLT, Nat.reduceLeDiff, Nat.reduceAdd, Nat.reduceMul, Nat.reduceSub, Nat.reduceDiv, Int.reduceLT, Int.reduceLE, Int.reduceToNat, Int.reduceNeg, Int.reduceSub, Int.reduceAdd, reduceIte, reduceCtorEq]
    exact ih (k + 1) _ h3 (by omega) (by simp only [gc, gcIdx, range1, range2, range3, range4, range5, List.filter_cons, List.idxOf?_cons, List.idxOf?_nil, List.getD_cons_zero, List.getD_cons_succ, List.getD_nil, List.contains_cons, List.contains_nil, List.elem_nil, Nat.reduceBEq, Bool.or_false, Bool.or_true, Bool.true_or, Bool.false_or, back, rangeIn, go_sem, Nat.reduceBEq, Nat.reduceEqDiff, Nat.reduceLT, Nat.reduceLeDiff, Nat.reduceAdd, Nat.reduceMul, Nat.reduceSub, Nat.reduceDiv, Int.reduceLT, Int.reduceLE, Int.reduceToNat, Int.reduceNeg, Int.reduceSub, Int.reduceAdd, reduceIte, reduceCtorEq])

theorem s40 (l : List Inf) (hl : l.length ≤ 2000000) : (EL tbl).call 40 [.p (.sl 2 (l.map Pf)), .p (.sl 2 (l.map Pf))] [] = some (Vb true, []) := by
  have hL := L40 hl noY () l 0 ⟨⟨26, [(0, .p (.sl 2 (l.map Pf))), (1, .p (.sl 2 (l.map Pf))), (5, Vi (0 : Nat)), (10, Vb false)]⟩, []⟩ (by simp) (by simp) (by simp only [gc, gcIdx, range1, range2, range3, range4, range5, List.filter_cons, List.idxOf?_cons, List.idxOf?_nil, List.getD_cons_zero, List.getD_cons_succ, List.getD_nil, List.contains_cons, List.contains_nil, List.elem_nil, Nat.reduceBEq, Bool.or_false, Bool.or_true, Bool.true_or, Bool.false_or, back, rangeIn, go_sem, Nat.reduceBEq, Nat.reduceEqDiff, Nat.reduceLT, Nat.reduceLeDiff, Nat.reduceAdd, Nat.reduceMul, Nat.reduceSub, Nat.reduceDiv, Int.reduceLT, Int.reduceLE, Int.reduceToNat, Int.reduceNeg, Int.reduceSub, Int.reduceAdd, reduceIte, reduceCtorEq])
  simp only [Int.natCast_zero] at hL
  rw [call_fn' tbl (show tbl 40 = some fn40 from rfl) _ _ (Nat.le_of_ble_eq_true rfl)]
  simp only [fn40, fn40_P6, fn40_D6, hL, bne_self_eq_false, gc, gcIdx, range1, range2, range3, range4, range5, List.filter_cons, List.idxOf?_cons, List.idxOf?_nil, List.getD_cons_zero, List.getD_cons_succ, List.getD_nil, List.contains_cons, List.contains_nil, List.elem_nil, Nat.reduceBEq, Bool.or_false, Bool.or_true, Bool.true_or, Bool.false_or, back, rangeIn, go_sem, Nat.reduceBEq, Nat.reduceEqDiff, Nat.reduceLT, Nat.reduceLeDiff, Nat.reduceAdd, Nat.reduceMul, Nat.reduceSub, Nat.reduceDiv, Int.reduceLT, Int.reduceLE, Int.reduceToNat, Int.reduceNeg, Int.reduceSub, Int.reduceAdd, reduceIte, reduceCtorEq]

set_option maxHeartbeats 400000 in
theorem s41 (x : Nd) (h : x.next.length ≤ 2000000 ∧ x.weights.length ≤ 2000000 ∧ x.pay.length ≤ 2000000) : (EL tbl).call 41 [.p (Pn x), .p (Pn x)] [] = some (Vb true, []) := by
  have e1 := s22 x.next x.next (by omega)
  have e2 := s22 x.weights x.weights (by omega)
  have e3 := s22 x.pay x.pay (by omega)
  rw [decide_eq_true rfl] at e1 e2 e3
  rw [call_fn' tbl (show tbl 41 = some fn41 from rfl) _ _ (Nat.le_of_ble_eq_true rfl)]
  simp only [fn41, e1, e2, e3, beq_self_eq_true, gc, gcIdx, range1, range2, range3, range4, range5, List.filter_cons, List.idxOf?_cons, List.idxOf?_nil, List.getD_cons_zero, List.getD_cons_succ, List.getD_nil, List.contains_cons, List.contains_nil, List.elem_nil, Nat.reduceBEq, Bool.or_false, Bool.or_true, Bool.true_or, Bool.false_or, back, rangeIn, go_sem, Nat.reduceBEq, Nat.reduceEqDiff, Nat.reduceLT, Nat.reduceLeDiff, Nat.reduceAdd, Nat.reduceMul, Nat.reduceSub, Nat.reduceDiv, Int.reduceLT, Int.reduceLE, Int.reduceToNat, Int.reduceNeg, Int.reduceSub, Int.reduceAdd, reduceIte, reduceCtorEq]

set_option maxHeartbeats 400000 in
theorem L17 {g : Gm} (hn : g.nodes.length ≤ 2000000) (hb : ∀ x ∈ g.nodes, x.next.length ≤ 2000000 ∧ x.weights.length ≤ 2000000 ∧ x.pay.length ≤ 2000000) {σ : Type} (Y : List P → σ → Option (Bool × σ)) (z : σ) : ∀ (r : List Nd) (k : Nat) (st : St), g.nodes.drop k = r → k ≤ g.nodes.length →
    gc 0 (liftAll [] ⟨keepOnly [2, 3, 5] st.fr, st.mem⟩) = some ⟨⟨47, [(2, .ptr 0 0), (3, .ptr 1 0), (5, Vi k)]⟩, [Cg g, Cg g]⟩ →
    U tbl Y 0 fn17_L0 st z = some (.exit 0, ⟨⟨47, [(2, .ptr 0 0), (3, .ptr 1 0), (5, Vi g.nodes.length), (32, Vb false)]⟩, [Cg g, Cg g]⟩, z) := by
  intro r
  induction r with
  | nil =>
    intro k st hd hk hg
    have e : k = g.nodes.length := by have := drop_nil_facts hd; omega
    subst e
    rw [fn17_L0, u_loop tbl Y 0 z hg]
    simp only [fn17_B0, fn17_P6, fn17_D6, natnlt (Nat.le_refl g.nodes.length), go_sem, Nat.reduceBEq, Nat.reduceEqDiff, Nat.reduceLT, Nat.reduceLeDiff, Nat.reduceAdd, Nat.reduceMul, Nat.reduceSub, Nat.reduceDiv, Int.reduceLT, Int.reduceLE, Int.reduceToNat, Int.reduceNeg, Int.reduceSub, Int.reduceAdd, reduceIte, reduceCtorEq]
  | cons x r ih =>
    intro k st hd hk hg
    obtain ⟨h1, h2, h3⟩ := drop_cons_facts hd
    have e41 := s41 x (hb x (List.mem_of_getElem? h1))
    rw [fn17_L0, u_loop tbl Y 0 z hg]
    simp only [fn17_B0, fn17_P6, fn17_D6, natlt h2, h1, e41, succ64 (show k < 9223372036854775807 by omega), gc, gcIdx, range1, range2, range3, range4, range5, List.filter_cons, List.idxOf?_cons, List.idxOf?_nil, List.getD_cons_zero, List.getD_cons_succ, List.getD_nil, List.contains_cons, List.contains_nil, List.elem_nil, Nat.reduceBEq, Bool.or_false, Bool.or_true, Bool.true_or, Bool.false_or, back, rangeIn, go_sem, Nat.reduceBEq, Nat.reduceEqDiff, Nat.reduceLT, Nat.reduceLeDiff, Nat.reduceAdd, Nat.reduceMul, Nat.reduceSub, Nat.reduceDiv, Int.reduceLT, Int.reduceLE, Int.reduceToNat, Int.reduceNeg, Int.reduceSub, Int.reduceAdd, reduceIte, reduceCtorEq]
    exact ih (k + 1) _ h3 (by omega) (by simp only [gc, gcIdx, range1, range2, range3, range4, range5, List.filter_cons, List.idxOf?_cons, List.idxOf?_nil, List.getD_cons_zero, List.getD_cons_succ, List.getD_nil, List.contains_cons, List.contains_nil, List.elem_nil, Nat.reduceBEq, Bool.or_false, Bool.or_true, Bool.true_or, Bool.false_or, back, rangeIn, go_sem, Nat.reduceBEq, Nat.reduceEqDiff, Nat.reduceLT, Nat.reduceLeDiff, Nat.reduceAdd, Nat.reduceMul, Nat.reduceSub, Nat.reduceDiv, Int.reduceLT, Int.reduceLE, Int.reduceToNat, Int.reduceNeg, Int.reduceSub, Int.reduceAdd, reduceIte, reduceCtorEq])

set_option maxHeartbeats 400000 in
theorem s17 (g : Gm) (hn : g.nodes.length ≤ 2000000) (hi : g.infos.length ≤ 2000000) (hb : ∀ x ∈ g.nodes, x.next.length ≤ 2000000 ∧ x.weights.length ≤ 2000000 ∧ x.pay.length ≤ 2000000) : (EL tbl).call 17 [Vg g, Vg g] [] = some (Vb true, []) := by
  have e40 := s40 g.infos hi
  have hL := L17 hn hb noY () g.nodes 0 ⟨⟨47, [(2, .ptr 0 0), (3, .ptr 1 0), (5, Vi (0 : Nat)), (27, Vb false)]⟩, [Cg g, Cg g]⟩ (by simp) (by simp) (by simp only [gc, gcIdx, range1, range2, range3, range4, range5, List.filter_cons, List.idxOf?_cons, List.idxOf?_nil, List.getD_cons_zero, List.getD_cons_succ, List.getD_nil, List.contains_cons, List.contains_nil, List.elem_nil, Nat.reduceBEq, Bool.or_false, Bool.or_true, Bool.true_or, Bool.false_or, back, rangeIn, go_sem, Nat.reduceBEq, Nat.reduceEqDiff, Nat.reduceLT, Nat.reduceLeDiff, Nat.reduceAdd, Nat.reduceMul, Nat.reduceSub, Nat.reduceDiv, Int.reduceLT, Int.reduceLE, Int.reduceToNat, Int.reduceNeg, Int.reduceSub, Int.reduceAdd, reduceIte, reduceCtorEq])
  simp only [Int.natCast_zero] at hL
  rw [call_fn' tbl (show tbl 17 = some fn17 from rfl) _ _ (Nat.le_of_ble_eq_true rfl)]
  simp only [fn17, fn17_P6, fn17_D6, e40, hL, bne_self_eq_false, gc, gcIdx, range1, range2, range3, range4, range5, List.filter_cons, List.idxOf?_cons, List.idxOf?_nil, List.getD_cons_zero, List.getD_cons_succ, List.getD_nil, List.contains_cons, List.contains_nil, List.elem_nil, Nat.reduceBEq, Bool.or_false, Bool.or_true, Bool.true_or, Bool.false_or, back, rangeIn, go_sem, Nat.reduceBEq, Nat.reduceEqDiff, Nat.reduceLT, Nat.reduceLeDiff, Nat.reduceAdd, Nat.reduceMul, Nat.reduceSub, Nat.reduceDiv, Int.reduceLT, Int.reduceLE, Int.reduceToNat, Int.reduceNeg, Int.reduceSub, Int.reduceAdd, reduceIte, reduceCtorEq]
end Go.Am

namespace Go.Am
open Go
set_option linter.unusedSimpArgs false
set_option linter.unusedVariables false
set_option maxRecDepth 100000
open Go.Proofs.Ytdhfhbmfdjnnjaa.Fns

/-! ### Copies of games -/

abbrev Z12 : Blk := .cells [.p (Pi 0), .nil 6, .nil 2]
abbrev f12 (k : Nat) : Fr := ⟨47, [(1, .ptr 0 0), (2, .ptr 1 0), (3, .ptr 2 0), (4, Vi k)]⟩
def vN (T : List P) : V := match T with | [] => .nil 6 | t :: r => .sl 6 3 (t :: r)
def vI (T : List P) (I : List Inf) : V := match T, I with | _, [] => .nil 2 | [], i :: r => .sl 2 3 ((i :: r).map Pf) | _ :: _, i :: r => .sl 2 4 ((i :: r).map Pf)
def tN (T : List P) : List Blk := match T with | [] => [] | t :: r => [.tok 6 (t :: r).length]
def tI (I : List Inf) : List Blk := match I with | [] => [] | i :: r => [.tok 2 (i :: r).length]
def M12 (g : Gm) (T : List P) : List Blk := [Cg g, Z12, .cells [.p (Pi g.players), vN T, vI T g.infos]] ++ tN T ++ tI g.infos

set_option maxHeartbeats 1000000 in
theorem T12 {p : Int} {N : List Nd} {I : List Inf} {σ : Type} (Y : List P → σ → Option (Bool × σ)) (z : σ) {x : Nd} {k : Nat} {st : St} (hk : k < 2000000) (h1 : N[k]? = some x) (h2 : k < N.length) (hb : x.next.length ≤ 2000000 ∧ x.weights.length ≤ 2000000 ∧ x.pay.length ≤ 2000000) (T : List P) (hT : T.length = k)
    (hg : gc 0 (liftAll [] ⟨keepOnly [1, 2, 3, 4] st.fr, st.mem⟩) = some ⟨f12 k, M12 ⟨p, N, I⟩ T⟩) :
    ∃ st1, U tbl Y 0 fn12_L0 st z = U tbl Y 0 fn12_L0 st1 z ∧ gc 0 (liftAll [] ⟨keepOnly [1, 2, 3, 4] st1.fr, st1.mem⟩) = some ⟨f12 (k + 1), M12 ⟨p, N, I⟩ (T ++ [Pn x])⟩ := by
  rw [fn12_L0, u_loop tbl Y 0 z hg]
  obtain ⟨kd, pl, inf, nx, ws, py⟩ := x
  simp only at hb
  have m0 : (T.length + 1 ≤ most) = True := by simp [most]; omega
  have m1 : (nx.length ≤ most) = True := by simp [most]; omega
  have m2 : (ws.length ≤ most) = True := by simp [most]; omega
  have m3 : (py.length ≤ most) = True := by simp [most]; omega
  have m4 : (1 ≤ most) = True := by simp [most]
  have s64 := succ64 (show k < 9223372036854775807 by omega)
  rcases T with _ | ⟨t, T⟩
  · rcases I with _ | ⟨i0, I⟩ <;> rcases nx with _ | ⟨n0, nx⟩ <;> rcases ws with _ | ⟨w0, ws⟩ <;> rcases py with _ | ⟨p0, py⟩ <;>
    simp only [List.length_cons, List.length_nil] at m0 m1 m2 m3 <;>
    simp only [fn12_B0, fn12_P1, fn12_D1, fn12_P6, fn12_D6, M12, vN, vI, tN, tI, natlt h2, h1, m0, m1, m2, m3, m4, s64, List.length_cons, List.length_nil, List.map_cons, List.map_nil, Nat.add_eq_zero_iff, Nat.succ_ne_zero, List.cons_append, List.nil_append, List.append_nil, gc, gcIdx, range1, range2, range3, range4, range5, List.filter_cons, List.idxOf?_cons, List.idxOf?_nil, List.getD_cons_zero, List.getD_cons_succ, List.getD_nil, List.contains_cons, List.contains_nil, List.elem_nil, Nat.reduceBEq, Bool.or_false, Bool.or_true, Bool.true_or, Bool.false_or, back, rangeIn, go_sem, Nat.reduceBEq, Nat.reduceEqDiff, Nat.reduceLT, Nat.reduceLeDiff, Nat.reduceAdd, Nat.reduceMul, Nat.reduceSub, Nat.reduceDiv, Int.reduceLT, Int.reduceLE, Int.reduceToNat, Int.reduceNeg, Int.reduceSub, Int.reduceAdd, reduceIte, reduceCtorEq] <;>
    exact ⟨_, rfl, by simp only [List.length_cons, List.length_nil, List.append_nil, gc, gcIdx, range1, range2, range3, range4, range5, List.filter_cons, List.idxOf?_cons, List.idxOf?_nil, List.getD_cons_zero, List.getD_cons_succ, List.getD_nil, List.contains_cons, List.contains_nil, List.elem_nil, Nat.reduceBEq, Bool.or_false, Bool.or_true, Bool.true_or, Bool.false_or, back, rangeIn, go_sem, Nat.reduceBEq, Nat.reduceEqDiff, Nat.reduceLT, Nat.reduceLeDiff, Nat.reduceAdd, Nat.reduceMul, Nat.reduceSub, Nat.reduceDiv, Int.reduceLT, Int.reduceLE, Int.reduceToNat, Int.reduceNeg, Int.reduceSub, Int.reduceAdd, reduceIte, reduceCtorEq]; rfl⟩
  · simp only [List.length_cons] at hT
    subst hT
    rcases I with _ | ⟨i0, I⟩ <;> rcases nx with _ | ⟨n0, nx⟩ <;> rcases ws with _ | ⟨w0, ws⟩ <;> rcases py with _ | ⟨p0, py⟩ <;>
    simp only [List.length_cons, List.length_nil] at m0 m1 m2 m3 <;>
    simp only [fn12_B0, fn12_P1, fn12_D1, fn12_P6, fn12_D6, M12, vN, vI, tN, tI, natlt h2, h1, m0, m1, m2, m3, m4, s64, List.length_cons, List.length_nil, List.map_cons, List.map_nil, Nat.add_eq_zero_iff, Nat.succ_ne_zero, List.cons_append, List.nil_append, List.append_nil, List.length_append, gc, gcIdx, range1, range2, range3, range4, range5, List.filter_cons, List.idxOf?_cons, List.idxOf?_nil, List.getD_cons_zero, List.getD_cons_succ, List.getD_nil, List.contains_cons, List.contains_nil, List.elem_nil, Nat.reduceBEq, Bool.or_false, Bool.or_true, Bool.true_or, Bool.false_or, back, rangeIn, go_sem, Nat.reduceBEq, Nat.reduceEqDiff, Nat.reduceLT, Nat.reduceLeDiff, Nat.reduceAdd, Nat.reduceMul, Nat.reduceSub, Nat.reduceDiv, Int.reduceLT, Int.reduceLE, Int.reduceToNat, Int.reduceNeg, Int.reduceSub, Int.reduceAdd, reduceIte, reduceCtorEq] <;>
    exact ⟨_, rfl, by simp only [List.length_cons, List.length_nil, List.append_nil, List.length_append, gc, gcIdx, range1, range2, range3, range4, range5, List.filter_cons, List.idxOf?_cons, List.idxOf?_nil, List.getD_cons_zero, List.getD_cons_succ, List.getD_nil, List.contains_cons, List.contains_nil, List.elem_nil, Nat.reduceBEq, Bool.or_false, Bool.or_true, Bool.true_or, Bool.false_or, back, rangeIn, go_sem, Nat.reduceBEq, Nat.reduceEqDiff, Nat.reduceLT, Nat.reduceLeDiff, Nat.reduceAdd, Nat.reduceMul, Nat.reduceSub, Nat.reduceDiv, Int.reduceLT, Int.reduceLE, Int.reduceToNat, Int.reduceNeg, Int.reduceSub, Int.reduceAdd, reduceIte, reduceCtorEq]; rfl⟩
end Go.Am

namespace Go.Am
open Go
set_option linter.unusedSimpArgs false
set_option linter.unusedVariables false
set_option maxRecDepth 100000
open Go.Proofs.Ytdhfhbmfdjnnjaa.Fns

set_option maxHeartbeats 400000 in
theorem L12 {g : Gm} (hn : g.nodes.length ≤ 2000000) (hb : ∀ x ∈ g.nodes, x.next.length ≤ 2000000 ∧ x.weights.length ≤ 2000000 ∧ x.pay.length ≤ 2000000) {σ : Type} (Y : List P → σ → Option (Bool × σ)) (z : σ) : ∀ (r : List Nd) (k : Nat) (T : List P) (st : St), g.nodes.drop k = r → k ≤ g.nodes.length → T.length = k →
    gc 0 (liftAll [] ⟨keepOnly [1, 2, 3, 4] st.fr, st.mem⟩) = some ⟨f12 k, M12 g T⟩ →
    U tbl Y 0 fn12_L0 st z = some (.exit 0, ⟨⟨47, [(1, .ptr 0 0), (2, .ptr 1 0), (3, .ptr 2 0), (4, Vi g.nodes.length), (17, Vb false)]⟩, M12 g (T ++ r.map Pn)⟩, z) := by
  intro r
  induction r with
  | nil =>
    intro k T st hd hk hT hg
    have e : k = g.nodes.length := by have := drop_nil_facts hd; omega
    subst e
    rw [fn12_L0, u_loop tbl Y 0 z hg]
    simp only [fn12_B0, fn12_P1, fn12_D1, fn12_P6, fn12_D6, M12, List.map_nil, List.append_nil, List.cons_append, List.nil_append, natnlt (Nat.le_refl g.nodes.length), go_sem, Nat.reduceBEq, Nat.reduceEqDiff, Nat.reduceLT, Nat.reduceLeDiff, Nat.reduceAdd, Nat.reduceMul, Nat.reduceSub, Nat.reduceDiv, Int.reduceLT, Int.reduceLE, Int.reduceToNat, Int.reduceNeg, Int.reduceSub, Int.reduceAdd, reduceIte, reduceCtorEq]
  | cons x r ih =>
    intro k T st hd hk hT hg
    obtain ⟨h1, h2, h3⟩ := drop_cons_facts hd
    obtain ⟨st1, e1, e2⟩ := T12 (p := g.players) (N := g.nodes) (I := g.infos) Y z (by omega) h1 h2 (hb x (List.mem_of_getElem? h1)) T hT hg
    rw [e1, ih (k + 1) (T ++ [Pn x]) st1 h3 (by omega) (by simp [hT]) e2]
    simp only [List.append_assoc, List.map_cons, List.cons_append, List.nil_append]

set_option maxHeartbeats 1000000 in
theorem s12 (g : Gm) (hn : g.nodes.length ≤ 2000000) (hi : g.infos.length ≤ 2000000) (hb : ∀ x ∈ g.nodes, x.next.length ≤ 2000000 ∧ x.weights.length ≤ 2000000 ∧ x.pay.length ≤ 2000000) : (EL tbl).call 12 [Vg g] [] = some (Vg g, []) := by
  obtain ⟨p, N, I⟩ := g
  have mi : (I.length ≤ most) = True := by simp [most]; simp at hi; omega
  have hL := fun st h => L12 (g := ⟨p, N, I⟩) hn hb noY () N 0 [] st (by simp) (by simp) rfl h
  simp only [Int.natCast_zero] at hL
  rw [call_fn' tbl (show tbl 12 = some fn12 from rfl) _ _ (Nat.le_of_ble_eq_true rfl)]
  rcases I with _ | ⟨i0, I⟩ <;> rcases N with _ | ⟨x0, N⟩ <;> (try simp only [List.length_cons] at mi) <;> (try simp only [List.length_cons] at hL)
  all_goals (simp only [fn12, fn12_P1, fn12_D1, fn12_P6, fn12_D6, mi, List.length_cons, List.length_nil, List.map_cons, List.map_nil, Nat.add_eq_zero_iff, Nat.succ_ne_zero, gc, gcIdx, range1, range2, range3, range4, range5, List.filter_cons, List.idxOf?_cons, List.idxOf?_nil, List.getD_cons_zero, List.getD_cons_succ, List.getD_nil, List.contains_cons, List.contains_nil, List.elem_nil, Nat.reduceBEq, Bool.or_false, Bool.or_true, Bool.true_or, Bool.false_or, back, rangeIn, go_sem, Nat.reduceBEq, Nat.reduceEqDiff, Nat.reduceLT, Nat.reduceLeDiff, Nat.reduceAdd, Nat.reduceMul, Nat.reduceSub, Nat.reduceDiv, Int.reduceLT, Int.reduceLE, Int.reduceToNat, Int.reduceNeg, Int.reduceSub, Int.reduceAdd, reduceIte, reduceCtorEq]; rw [hL _ (by simp only [M12, vN, vI, tN, tI, List.length_cons, List.map_cons, List.map_nil, gc, gcIdx, range1, range2, range3, range4, range5, List.filter_cons, List.idxOf?_cons, List.idxOf?_nil, List.getD_cons_zero, List.getD_cons_succ, List.getD_nil, List.contains_cons, List.contains_nil, List.elem_nil, Nat.reduceBEq, Bool.or_false, Bool.or_true, Bool.true_or, Bool.false_or, back, rangeIn, go_sem, Nat.reduceBEq, Nat.reduceEqDiff, Nat.reduceLT, Nat.reduceLeDiff, Nat.reduceAdd, Nat.reduceMul, Nat.reduceSub, Nat.reduceDiv, Int.reduceLT, Int.reduceLE, Int.reduceToNat, Int.reduceNeg, Int.reduceSub, Int.reduceAdd, reduceIte, reduceCtorEq]; rfl)]; simp only [M12, vN, vI, tN, tI, List.length_cons, List.length_nil, List.map_cons, List.map_nil, List.nil_append, List.cons_append, List.append_nil, gc, gcIdx, range1, range2, range3, range4, range5, List.filter_cons, List.idxOf?_cons, List.idxOf?_nil, List.getD_cons_zero, List.getD_cons_succ, List.getD_nil, List.contains_cons, List.contains_nil, List.elem_nil, Nat.reduceBEq, Bool.or_false, Bool.or_true, Bool.true_or, Bool.false_or, back, rangeIn, go_sem, Nat.reduceBEq, Nat.reduceEqDiff, Nat.reduceLT, Nat.reduceLeDiff, Nat.reduceAdd, Nat.reduceMul, Nat.reduceSub, Nat.reduceDiv, Int.reduceLT, Int.reduceLE, Int.reduceToNat, Int.reduceNeg, Int.reduceSub, Int.reduceAdd, reduceIte, reduceCtorEq]; rfl)
end Go.Am

namespace Go.Am
open Go
set_option linter.unusedSimpArgs false
set_option linter.unusedVariables false
variable (pr : Program)

/-- Whole numbers of 64 bits. -/
def i64ok (n : Int) : Prop := (Lit.int .i64 n).wf = true
structure NdOk (x : Nd) : Prop where
  kind : i64ok x.kind
  player : i64ok x.player
  info : i64ok x.info
  next : ∀ n ∈ x.next, i64ok n
  weights : ∀ n ∈ x.weights, i64ok n
  pay : ∀ n ∈ x.pay, i64ok n
  len : x.next.length ≤ maxLen ∧ x.weights.length ≤ maxLen ∧ x.pay.length ≤ maxLen
structure InfOk (x : Inf) : Prop where
  player : i64ok x.player
  actions : i64ok x.actions
structure GmOk (g : Gm) : Prop where
  players : i64ok g.players
  nodes : ∀ x ∈ g.nodes, NdOk x
  infos : ∀ x ∈ g.infos, InfOk x
  len : g.nodes.length ≤ maxLen ∧ g.infos.length ≤ maxLen

/-- The types of a game. -/
structure GTy (tg tn ti tsn tsi tL tI : Nat) : Prop where
  g : isStruct pr tg [(tI, 0), (tsn, 1), (tsi, 2)] = true
  n : isStruct pr tn [(tI, 0), (tI, 1), (tI, 2), (tL, 3), (tL, 4), (tL, 5)] = true
  i : isStruct pr ti [(tI, 0), (tI, 1)] = true
  I : pr.underlying tI = some (.int .i64)
  L : pr.underlying tL = some (.slice tI)
  sn : pr.underlying tsn = some (.slice tn)
  si : pr.underlying tsi = some (.slice ti)
  ng : nOf pr tg = 3
  nn : nOf pr tn = 6
  ni : nOf pr ti = 2
  cg : pr.cellsOf tg = 3
  cn : pr.cellsOf tn = 6
  ci : pr.cellsOf ti = 2
  cI : pr.cellsOf tI = 1
  cL : pr.cellsOf tL = 1
  csn : pr.cellsOf tsn = 1
  csi : pr.cellsOf tsi = 1

variable {pr} in
theorem arg_game {tg tn ti tsn tsi tL tI k : Nat} (T : GTy pr tg tn ti tsn tsi tL tI) {q : P} (h : tyP pr (k + 5) tg q.cells) (ha : q.isAgg = true ↔ nOf pr tg ≠ 0) : ∃ g : Gm, q = Pg g ∧ GmOk g := by
  obtain ⟨ps, rfl, hl, hf⟩ := arg_agg pr T.g h ha (by rw [T.ng]; decide)
  rw [T.cg] at hl
  obtain ⟨a, b, c, rfl⟩ := len3 hl
  have h0 := hf (tI, 0) (by simp)
  have h1 := hf (tsn, 1) (by simp)
  have h2 := hf (tsi, 2) (by simp)
  simp only [T.cI, T.csn, T.csi, List.drop_zero, List.drop_succ_cons, List.take_succ_cons, List.take_zero] at h0 h1 h2
  obtain ⟨p, rfl, hp⟩ := cell_int pr T.I h0
  have en : ∀ x : P, tyP pr (k + 3) tn x.cells → (x.isAgg = true ↔ nOf pr tn ≠ 0) → ∃ y : Nd, x = Pn y ∧ NdOk y := fun x hx hxa => by
    obtain ⟨qs, rfl, hl, hf⟩ := arg_agg pr T.n hx hxa (by rw [T.nn]; decide)
    rw [T.cn] at hl
    obtain ⟨a, b, c, d, e, f, rfl⟩ := len6 hl
    have h0 := hf (tI, 0) (by simp)
    have h1 := hf (tI, 1) (by simp)
    have h2 := hf (tI, 2) (by simp)
    have h3 := hf (tL, 3) (by simp)
    have h4 := hf (tL, 4) (by simp)
    have h5 := hf (tL, 5) (by simp)
    simp only [T.cI, T.cL, List.drop_zero, List.drop_succ_cons, List.take_succ_cons, List.take_zero] at h0 h1 h2 h3 h4 h5
    obtain ⟨kd, rfl, k0⟩ := cell_int pr T.I h0
    obtain ⟨pl, rfl, k1⟩ := cell_int pr T.I h1
    obtain ⟨inf, rfl, k2⟩ := cell_int pr T.I h2
    obtain ⟨nx, rfl, l3, k3⟩ := cell_ints pr T.L T.I h3
    obtain ⟨ws, rfl, l4, k4⟩ := cell_ints pr T.L T.I h4
    obtain ⟨py, rfl, l5, k5⟩ := cell_ints pr T.L T.I h5
    exact ⟨⟨kd, pl, inf, nx, ws, py⟩, rfl, ⟨k0, k1, k2, k3, k4, k5, l3, l4, l5⟩⟩
  have ei : ∀ x : P, tyP pr (k + 3) ti x.cells → (x.isAgg = true ↔ nOf pr ti ≠ 0) → ∃ y : Inf, x = Pf y ∧ InfOk y := fun x hx hxa => by
    obtain ⟨qs, rfl, hl, hf⟩ := arg_agg pr T.i hx hxa (by rw [T.ni]; decide)
    rw [T.ci] at hl
    obtain ⟨a, b, rfl⟩ := len2 hl
    have h0 := hf (tI, 0) (by simp)
    have h1 := hf (tI, 1) (by simp)
    simp only [T.cI, List.drop_zero, List.drop_succ_cons, List.take_succ_cons, List.take_zero] at h0 h1
    obtain ⟨pl, rfl, k0⟩ := cell_int pr T.I h0
    obtain ⟨ac, rfl, k1⟩ := cell_int pr T.I h1
    exact ⟨⟨pl, ac⟩, rfl, ⟨k0, k1⟩⟩
  obtain ⟨N, rfl, lN, kN⟩ := cell_slice pr T.sn en h1
  obtain ⟨I, rfl, lI, kI⟩ := cell_slice pr T.si ei h2
  rw [T.nn, T.ni]
  exact ⟨⟨p, N, I⟩, rfl, ⟨hp, kN, kI, lN, lI⟩⟩
end Go.Am

namespace Go.Am
open Go
set_option linter.unusedSimpArgs false
set_option linter.unusedVariables false
set_option maxRecDepth 100000
open Go.Proofs.Ytdhfhbmfdjnnjaa.Fns

theorem awake11 : (EL tbl).call 104 [] [] = some (Vb true, []) := by
  have h : (match (evalN tbl 30).call 104 [] [] with | some (.p (.v (.bool true)), []) => true | _ => false) = true := by decide +kernel
  split at h
  · rename_i e; exact call_of_run tbl e
  · cases h

theorem bigG_no {g : Gm} (h : bigG g = false) : g.nodes.length ≤ 80 ∧ g.infos.length ≤ 80 ∧ ∀ x ∈ g.nodes, x.next.length ≤ 80 ∧ x.weights.length ≤ 80 ∧ x.pay.length ≤ 80 := by
  unfold bigG at h
  simp only [Bool.or_eq_false_iff, decide_eq_false_iff_not] at h
  refine ⟨by omega, by omega, fun x hx => ?_⟩
  have : g.nodes.take 81 = g.nodes := List.take_of_length_le (by omega)
  rw [this] at h
  have hb := List.any_eq_false.1 h.1.1 x hx
  simp only [bigN, Bool.or_eq_true, decide_eq_true_eq] at hb
  omega

set_option maxHeartbeats 400000 in
theorem s97 (g : Gm) : (EL tbl).call 97 [Vg g] [] = some (Vb true, []) := by
  have e103 := s103 g
  cases hb : bigG g with
  | true =>
    rw [hb] at e103
    rw [call_fn' tbl (show tbl 97 = some fn97 from rfl) _ _ (Nat.le_of_ble_eq_true rfl)]
    simp only [fn97, fn97_P4, fn97_D4, e103, awake11, gc, gcIdx, range1, range2, range3, range4, range5, List.filter_cons, List.idxOf?_cons, List.idxOf?_nil, List.getD_cons_zero, List.getD_cons_succ, List.getD_nil, List.contains_cons, List.contains_nil, List.elem_nil, Nat.reduceBEq, Bool.or_false, Bool.or_true, Bool.true_or, Bool.false_or, back, rangeIn, go_sem, Nat.reduceBEq, Nat.reduceEqDiff, Nat.reduceLT, Nat.reduceLeDiff, Nat.reduceAdd, Nat.reduceMul, Nat.reduceSub, Nat.reduceDiv, Int.reduceLT, Int.reduceLE, Int.reduceToNat, Int.reduceNeg, Int.reduceSub, Int.reduceAdd, reduceIte, reduceCtorEq]
  | false =>
    rw [hb] at e103
    obtain ⟨h1, h2, h3⟩ := bigG_no hb
    have hx : ∀ x ∈ g.nodes, x.next.length ≤ 2000000 ∧ x.weights.length ≤ 2000000 ∧ x.pay.length ≤ 2000000 := fun x hx => by have := h3 x hx; omega
    have e12 := s12 g (by omega) (by omega) hx
    have e33 := s33 g hx
    have e35 := s35 g hx
    have e17 := s17 g (by omega) (by omega) hx
    rw [call_fn' tbl (show tbl 97 = some fn97 from rfl) _ _ (Nat.le_of_ble_eq_true rfl)]
    simp only [fn97, fn97_P4, fn97_D4, e103, awake11, e12, e33, e35, e17, beq_self_eq_true, gc, gcIdx, range1, range2, range3, range4, range5, List.filter_cons, List.idxOf?_cons, List.idxOf?_nil, List.getD_cons_zero, List.getD_cons_succ, List.getD_nil, List.contains_cons, List.contains_nil, List.elem_nil, Nat.reduceBEq, Bool.or_false, Bool.or_true, Bool.true_or, Bool.false_or, back, rangeIn, go_sem, Nat.reduceBEq, Nat.reduceEqDiff, Nat.reduceLT, Nat.reduceLeDiff, Nat.reduceAdd, Nat.reduceMul, Nat.reduceSub, Nat.reduceDiv, Int.reduceLT, Int.reduceLE, Int.reduceToNat, Int.reduceNeg, Int.reduceSub, Int.reduceAdd, reduceIte, reduceCtorEq]
end Go.Am
