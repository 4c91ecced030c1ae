/- What some functions of this seat answer. No condition. -/
import Derived.Test.YtbepkgilphbhaaaS33c
import Derived.KernelRfl
namespace Go.Am
open Go
set_option linter.unusedSimpArgs false
set_option linter.unusedVariables false
set_option maxRecDepth 100000
open Go.Proofs.Ytbepkgilphbhaaa.Fns

/-- The radices of a deck. -/
def rdx (n : Nat) : List Int := (List.range n).map fun (i : Nat) => (n : Int) - i
def ints (n : Nat) : List Int := (List.range n).map fun (i : Nat) => (i : Int)

theorem f47_0 : (evalN tbl 1000).call 47 [Vi 0] [] = some (.p (.tuple [.agg ((ints 17).map Pi), Pl (rdx 0)]), []) := by kernel_rfl
theorem f47_1 : (evalN tbl 1000).call 47 [Vi 1] [] = some (.p (.tuple [.agg ((ints 17).map Pi), Pl (rdx 1)]), []) := by kernel_rfl
theorem f47_2 : (evalN tbl 1000).call 47 [Vi 2] [] = some (.p (.tuple [.agg ((ints 17).map Pi), Pl (rdx 2)]), []) := by kernel_rfl
theorem f47_3 : (evalN tbl 1000).call 47 [Vi 3] [] = some (.p (.tuple [.agg ((ints 17).map Pi), Pl (rdx 3)]), []) := by kernel_rfl
theorem f47_4 : (evalN tbl 1000).call 47 [Vi 4] [] = some (.p (.tuple [.agg ((ints 17).map Pi), Pl (rdx 4)]), []) := by kernel_rfl
theorem f47_5 : (evalN tbl 1000).call 47 [Vi 5] [] = some (.p (.tuple [.agg ((ints 17).map Pi), Pl (rdx 5)]), []) := by kernel_rfl
theorem f47_6 : (evalN tbl 1000).call 47 [Vi 6] [] = some (.p (.tuple [.agg ((ints 17).map Pi), Pl (rdx 6)]), []) := by kernel_rfl
theorem f47_7 : (evalN tbl 1000).call 47 [Vi 7] [] = some (.p (.tuple [.agg ((ints 17).map Pi), Pl (rdx 7)]), []) := by kernel_rfl
theorem f47_8 : (evalN tbl 1000).call 47 [Vi 8] [] = some (.p (.tuple [.agg ((ints 17).map Pi), Pl (rdx 8)]), []) := by kernel_rfl
theorem f47_9 : (evalN tbl 1000).call 47 [Vi 9] [] = some (.p (.tuple [.agg ((ints 17).map Pi), Pl (rdx 9)]), []) := by kernel_rfl
theorem f47_10 : (evalN tbl 1000).call 47 [Vi 10] [] = some (.p (.tuple [.agg ((ints 17).map Pi), Pl (rdx 10)]), []) := by kernel_rfl
theorem f47_11 : (evalN tbl 1000).call 47 [Vi 11] [] = some (.p (.tuple [.agg ((ints 17).map Pi), Pl (rdx 11)]), []) := by kernel_rfl
theorem f47_12 : (evalN tbl 1000).call 47 [Vi 12] [] = some (.p (.tuple [.agg ((ints 17).map Pi), Pl (rdx 12)]), []) := by kernel_rfl
theorem f47_13 : (evalN tbl 1000).call 47 [Vi 13] [] = some (.p (.tuple [.agg ((ints 17).map Pi), Pl (rdx 13)]), []) := by kernel_rfl
theorem f47_14 : (evalN tbl 1000).call 47 [Vi 14] [] = some (.p (.tuple [.agg ((ints 17).map Pi), Pl (rdx 14)]), []) := by kernel_rfl
theorem f47_15 : (evalN tbl 1000).call 47 [Vi 15] [] = some (.p (.tuple [.agg ((ints 17).map Pi), Pl (rdx 15)]), []) := by kernel_rfl
theorem f47_16 : (evalN tbl 1000).call 47 [Vi 16] [] = some (.p (.tuple [.agg ((ints 17).map Pi), Pl (rdx 16)]), []) := by kernel_rfl
theorem f47_17 : (evalN tbl 1000).call 47 [Vi 17] [] = some (.p (.tuple [.agg ((ints 17).map Pi), Pl (rdx 17)]), []) := by kernel_rfl
theorem s47 (n : Nat) (h : n ≤ 17) : (EL tbl).call 47 [Vi n] [] = some (.p (.tuple [.agg ((ints 17).map Pi), Pl (rdx n)]), []) := by
  rcases n with _ | ⟨_ | ⟨_ | ⟨_ | ⟨_ | ⟨_ | ⟨_ | ⟨_ | ⟨_ | ⟨_ | ⟨_ | ⟨_ | ⟨_ | ⟨_ | ⟨_ | ⟨_ | ⟨_ | ⟨_ | n⟩⟩⟩⟩⟩⟩⟩⟩⟩⟩⟩⟩⟩⟩⟩⟩⟩
  · exact call_of_run tbl f47_0
  · exact call_of_run tbl f47_1
  · exact call_of_run tbl f47_2
  · exact call_of_run tbl f47_3
  · exact call_of_run tbl f47_4
  · exact call_of_run tbl f47_5
  · exact call_of_run tbl f47_6
  · exact call_of_run tbl f47_7
  · exact call_of_run tbl f47_8
  · exact call_of_run tbl f47_9
  · exact call_of_run tbl f47_10
  · exact call_of_run tbl f47_11
  · exact call_of_run tbl f47_12
  · exact call_of_run tbl f47_13
  · exact call_of_run tbl f47_14
  · exact call_of_run tbl f47_15
  · exact call_of_run tbl f47_16
  · exact call_of_run tbl f47_17
  · omega

/-- The product of the radices, one after the other. -/
def prod (l : List Int) (a : Int) : Int := l.foldl (fun a r => IntKind.wrap .i64 (a * r)) a

theorem L27 {l : List Int} {n q : Int} {D : List P} (hlen : l.length ≤ 1000) {σ : Type} (Y : List P → σ → Option (Bool × σ)) (s : σ) : ∀ (r : List Int) (k : Nat) (a : Int) (st : St), l.drop k = r → k ≤ l.length →
    gc 0 (liftAll [] ⟨keepOnly [0, 1, 6, 7, 8, 24, 25, 26] st.fr, st.mem⟩) = some ⟨⟨64, [(0, Vi n), (1, Vi q), (6, .ptr 0 0), (7, Vl l), (8, Vi a), (24, Vl l), (25, Vi l.length), (26, Vi k)]⟩, [.cells (D.map V.p)]⟩ →
    U tbl Y 0 fn27_L0 st s = some (.exit 0, ⟨⟨64, [(0, Vi n), (1, Vi q), (6, .ptr 0 0), (7, Vl l), (8, Vi (prod r a)), (24, Vl l), (25, Vi l.length), (26, Vi l.length), (27, Vb false)]⟩, [.cells (D.map V.p)]⟩, s) := by
  intro r
  induction r with
  | nil =>
    intro k a st hd hk hg
    have e : k = l.length := by have := drop_nil_facts hd; omega
    subst e
    rw [fn27_L0, u_loop tbl Y 0 s hg]
    simp only [fn27_B0, fn27_P15, fn27_D15, natnlt (Nat.le_refl l.length), prod, List.foldl_nil, go_sem, Nat.reduceBEq, Nat.reduceEqDiff, Nat.reduceLT, Nat.reduceLeDiff, Nat.reduceAdd, Nat.reduceMul, Nat.reduceSub, Nat.reduceDiv, Int.reduceLT, Int.reduceLE, Int.reduceToNat, Int.reduceNeg, Int.reduceSub, Int.reduceAdd, reduceIte, reduceCtorEq]
  | cons x r ih =>
    intro k a st hd hk hg
    obtain ⟨h1, h2, h3⟩ := drop_cons_facts hd
    rw [fn27_L0, u_loop tbl Y 0 s hg]
    simp only [fn27_B0, fn27_P15, fn27_D15, natlt h2, h1, succ64 (show k < 9223372036854775807 by omega), go_sem, Nat.reduceBEq, Nat.reduceEqDiff, Nat.reduceLT, Nat.reduceLeDiff, Nat.reduceAdd, Nat.reduceMul, Nat.reduceSub, Nat.reduceDiv, Int.reduceLT, Int.reduceLE, Int.reduceToNat, Int.reduceNeg, Int.reduceSub, Int.reduceAdd, reduceIte, reduceCtorEq]
    exact ih (k + 1) _ _ h3 (by omega) (by simp only [gc, gcIdx, range1, range2, range3, range4, range5, List.filter_cons, List.idxOf?_cons, List.idxOf?_nil, List.getD_cons_zero, List.getD_cons_succ, List.getD_nil, List.contains_cons, List.contains_nil, List.elem_nil, Nat.reduceBEq, Bool.or_false, Bool.or_true, Bool.true_or, Bool.false_or, back, rangeIn, go_sem, Nat.reduceBEq, Nat.reduceEqDiff, Nat.reduceLT, Nat.reduceLeDiff, Nat.reduceAdd, Nat.reduceMul, Nat.reduceSub, Nat.reduceDiv, Int.reduceLT, Int.reduceLE, Int.reduceToNat, Int.reduceNeg, Int.reduceSub, Int.reduceAdd, reduceIte, reduceCtorEq])

/-- Two cards change places. -/
def swp (D : List Int) (i j : Nat) : List Int := (D.set i (D.getD j 0)).set j (D.getD i 0)
def prm (D : List Int) : Nat → List Int → List Int
  | _, [] => D
  | i, k :: ks => prm (swp D i (i + k.toNat)) (i + 1) ks
theorem swp_length (D : List Int) (i j : Nat) : (swp D i j).length = D.length := by simp [swp]

abbrev fr27 (n : Nat) (R : List Int) : Fr := ⟨64, [(0, Vi n), (6, V.ptr 0 0), (11, V.ptr 1 0), (24, Vl R), (25, Vi R.length), (26, Vi R.length), (27, Vb false), (40, Vb false), (43, V.fn 67 [V.ptr 2 0, V.ptr 3 0])]⟩

theorem feed27 {n : Nat} {R : List Int} : ∀ (l : List Int) (q : Int) (i : Nat) (D : List Int), D.length = 17 → 0 ≤ q → (∀ (j : Nat) (r : Int), l[j]? = some r → 1 ≤ r ∧ ((i + j : Nat) : Int) + r ≤ 17) →
    feed (UY tbl noY 4 (fr27 n R) [44, 45] fn27_A0 fn27_C0) (dg q l) ⟨[.cells ((D.map Pi).map V.p), .cells [Vi i], .dead, .dead], .normal, ()⟩ =
      some ⟨[.cells (((match l with | [] => D | _ => prm D i (digs q l)).map Pi).map V.p), .cells [Vi (i + l.length : Nat)], .dead, .dead], .normal, ()⟩
  | [], q, i, D, _, _, _ => by simp [feed, dg]
  | x :: r, q, i, D, hD, hq, hl => by
    obtain ⟨hx1, hx2⟩ := hl 0 x rfl
    have hd1 : 0 ≤ q.tmod x := Int.tmod_nonneg x hq
    have hd2 : q.tmod x < x := Int.tmod_lt_of_pos q (by omega)
    obtain ⟨dn, hdn⟩ := Int.eq_ofNat_of_zero_le hd1
    have hj : i + dn < 17 := by simp at hx2; omega
    have hw : IntKind.wrap .i64 ((i : Int) + (dn : Int)) = ((i + dn : Nat) : Int) := by rw [wrap64 (by omega) (by omega)]; omega
    have g1 : D[i]? = some (D.getD i 0) := by rw [List.getD_eq_getElem?_getD, List.getElem?_eq_getElem (by omega)]; rfl
    have g2 : D[i + dn]? = some (D.getD (i + dn) 0) := by rw [List.getD_eq_getElem?_getD, List.getElem?_eq_getElem (by omega)]; rfl
    have b1 : (i < 17) = True := by simp; omega
    have b2 : (i + dn < 17) = True := by simp; omega
    have b3 : (i + 1 ≤ 17) = True := by simp; omega
    have b4 : (i + dn + 1 ≤ 17) = True := by simp; omega
    have hs : UY tbl noY 4 (fr27 n R) [44, 45] fn27_A0 fn27_C0 [Pi (q.tmod x), Pi (q.tdiv x)] ⟨[.cells ((D.map Pi).map V.p), .cells [Vi i], .dead, .dead], .normal, ()⟩ =
        some (true, ⟨[.cells (((swp D i (i + dn)).map Pi).map V.p), .cells [Vi (i + 1 : Nat)], .dead, .dead], .normal, ()⟩) := by
      rw [uy_eq _ _ _ _ _ _ _ _ _ _ rfl, hdn]
      simp only [fn27_A0, fn27_C0, fn27, fn27_P15, fn27_D15, g1, g2, b1, b2, b3, b4, hw, hD, setRange_p, List.length_set, succ64 (show i < 9223372036854775807 by omega), gc, gcIdx, range1, range2, range3, range4, range5, List.filter_cons, List.idxOf?_cons, List.idxOf?_nil, List.getD_cons_zero, List.getD_cons_succ, List.getD_nil, List.contains_cons, List.contains_nil, List.elem_nil, Nat.reduceBEq, Bool.or_false, Bool.or_true, Bool.true_or, Bool.false_or, back, rangeIn, go_sem, Nat.reduceBEq, Nat.reduceEqDiff, Nat.reduceLT, Nat.reduceLeDiff, Nat.reduceAdd, Nat.reduceMul, Nat.reduceSub, Nat.reduceDiv, Int.reduceLT, Int.reduceLE, Int.reduceToNat, Int.reduceNeg, Int.reduceSub, Int.reduceAdd, reduceIte, reduceCtorEq]
      simp only [swp, List.map_set]
    have ih := feed27 (n := n) (R := R) r (q.tdiv x) (i + 1) (swp D i (i + dn)) (by rw [swp_length]; exact hD) (Int.tdiv_nonneg hq (by omega)) (fun j r' hj => by
      have := hl (j + 1) r' (by simpa using hj)
      refine ⟨this.1, ?_⟩
      have h2 := this.2
      simp at h2 ⊢; omega)
    simp only [dg, feed, hs]
    rw [ih]
    have e1 : i + 1 + r.length = i + (x :: r).length := by simp; omega
    rw [e1]
    have e2 : (i + (q.tmod x).toNat) = i + dn := by rw [hdn]; simp
    cases r with
    | nil => simp only [digs, prm, e2]
    | cons y r => simp only [digs, prm, e2]

theorem rdx_get {n i : Nat} {r : Int} (h : (rdx n)[i]? = some r) : i < n ∧ r = (n : Int) - i := by
  have hi : i < n := by
    have := (List.getElem?_eq_some_iff.1 h).1
    simpa [rdx] using this
  simp [rdx, hi] at h
  exact ⟨hi, h.symm⟩

/-- The order of a deck. -/
def permOf (n : Nat) (seed : Int) : List P := if seed < 0 then [Pl [], Pi 2] else if prod (rdx n) 1 ≤ seed then [Pl [], Pi 2] else [Pl ((prm (ints 17) 0 (digs seed (rdx n))).take n), Pi 0]

theorem prm_length : ∀ (ks D : List Int) (i : Nat), (prm D i ks).length = D.length
  | [], _, _ => rfl
  | k :: ks, D, i => by simp only [prm]; rw [prm_length ks, swp_length]

theorem s27 (n : Nat) (seed : Int) (h : n ≤ 17) (hp : prod (rdx n) 1 ≤ 1000000000000000) : (EL tbl).call 27 [Vi n, Vi seed] [] = some (.p (.tuple (permOf n seed)), []) := by
  have h47 := s47 n h
  have h1 : ¬ (n : Int) < 0 := by omega
  have h2 : ¬ (17 : Int) < n := by omega
  have hlen : (rdx n).length = n := by simp [rdx]
  have hi : (ints 17).length = 17 := rfl
  have hL := L27 (l := rdx n) (n := n) (q := seed) (D := (ints 17).map Pi) (by omega) noY () (rdx n) 0 1 ⟨⟨64, [(0, Vi n), (1, Vi seed), (6, .ptr 0 0), (7, Vl (rdx n)), (8, Vi 1), (18, Vb false), (24, Vl (rdx n)), (25, Vi (rdx n).length), (26, Vi (0 : Nat))]⟩, [.cells (((ints 17).map Pi).map V.p)]⟩ (by simp) (by omega) (by simp only [gc, gcIdx, range1, range2, range3, range4, range5, List.filter_cons, List.idxOf?_cons, List.idxOf?_nil, List.getD_cons_zero, List.getD_cons_succ, List.getD_nil, List.contains_cons, List.contains_nil, List.elem_nil, Nat.reduceBEq, Bool.or_false, Bool.or_true, Bool.true_or, Bool.false_or, back, rangeIn, go_sem, Nat.reduceBEq, Nat.reduceEqDiff, Nat.reduceLT, Nat.reduceLeDiff, Nat.reduceAdd, Nat.reduceMul, Nat.reduceSub, Nat.reduceDiv, Int.reduceLT, Int.reduceLE, Int.reduceToNat, Int.reduceNeg, Int.reduceSub, Int.reduceAdd, reduceIte, reduceCtorEq])
  simp only [Int.natCast_zero] at hL
  rw [call_fn' tbl (show tbl 27 = some fn27 from rfl) _ _ (Nat.le_of_ble_eq_true rfl)]
  unfold permOf
  by_cases h3 : seed < 0
  · rw [if_pos h3]
    simp only [fn27, fn27_P15, fn27_D15, h1, h2, h47, hi, hL, h3, List.take_append_of_le_length, List.drop_of_length_le, gc, gcIdx, range1, range2, range3, range4, range5, List.filter_cons, List.idxOf?_cons, List.idxOf?_nil, List.getD_cons_zero, List.getD_cons_succ, List.getD_nil, List.contains_cons, List.contains_nil, List.elem_nil, Nat.reduceBEq, Bool.or_false, Bool.or_true, Bool.true_or, Bool.false_or, back, rangeIn, go_sem, Nat.reduceBEq, Nat.reduceEqDiff, Nat.reduceLT, Nat.reduceLeDiff, Nat.reduceAdd, Nat.reduceMul, Nat.reduceSub, Nat.reduceDiv, Int.reduceLT, Int.reduceLE, Int.reduceToNat, Int.reduceNeg, Int.reduceSub, Int.reduceAdd, reduceIte, reduceCtorEq]
    rfl
  · rw [if_neg h3]
    by_cases h4 : prod (rdx n) 1 ≤ seed
    · rw [if_pos h4]
      simp only [fn27, fn27_P15, fn27_D15, h1, h2, h47, hi, hL, h3, h4, List.take_append_of_le_length, List.drop_of_length_le, gc, gcIdx, range1, range2, range3, range4, range5, List.filter_cons, List.idxOf?_cons, List.idxOf?_nil, List.getD_cons_zero, List.getD_cons_succ, List.getD_nil, List.contains_cons, List.contains_nil, List.elem_nil, Nat.reduceBEq, Bool.or_false, Bool.or_true, Bool.true_or, Bool.false_or, back, rangeIn, go_sem, Nat.reduceBEq, Nat.reduceEqDiff, Nat.reduceLT, Nat.reduceLeDiff, Nat.reduceAdd, Nat.reduceMul, Nat.reduceSub, Nat.reduceDiv, Int.reduceLT, Int.reduceLE, Int.reduceToNat, Int.reduceNeg, Int.reduceSub, Int.reduceAdd, reduceIte, reduceCtorEq]
      rfl
    · rw [if_neg h4]
      have hf := feed27 (n := n) (R := rdx n) (rdx n) seed 0 (ints 17) rfl (by omega) (fun j r hj => by
        obtain ⟨q1, q2⟩ := rdx_get hj
        subst q2
        exact ⟨by omega, by simp; omega⟩)
      have hit := i67 (l := rdx n) (by omega) (fun r hr => by
        obtain ⟨j, hj⟩ := List.getElem?_of_mem hr
        obtain ⟨q1, q2⟩ := rdx_get hj
        omega) _ seed (by omega) (by omega) _ _ hf
      have hm : (match rdx n with | [] => ints 17 | _ => prm (ints 17) 0 (digs seed (rdx n))) = prm (ints 17) 0 (digs seed (rdx n)) := by
        cases rdx n <;> rfl
      rw [hm] at hit
      have hpl : (prm (ints 17) 0 (digs seed (rdx n))).length = 17 := by rw [prm_length]; rfl
      have hn : (n ≤ 17) = True := by simp [h]
      have hc : chunk 0 n ((prm (ints 17) 0 (digs seed (rdx n))).map Pi) = ((prm (ints 17) 0 (digs seed (rdx n))).take n).map Pi := by
        rw [chunk0_take n _ (by simp [hpl]; exact h), List.map_take]
      simp only [Int.natCast_zero] at hit
      simp only [fn27, fn27_P15, fn27_D15, h1, h2, h47, hi, hL, h3, h4, s44, hit, hn, hpl, hc, Nat.sub_zero, List.take_append_of_le_length, List.drop_of_length_le, gc, gcIdx, range1, range2, range3, range4, range5, List.filter_cons, List.idxOf?_cons, List.idxOf?_nil, List.getD_cons_zero, List.getD_cons_succ, List.getD_nil, List.contains_cons, List.contains_nil, List.elem_nil, Nat.reduceBEq, Bool.or_false, Bool.or_true, Bool.true_or, Bool.false_or, back, rangeIn, go_sem, Nat.reduceBEq, Nat.reduceEqDiff, Nat.reduceLT, Nat.reduceLeDiff, Nat.reduceAdd, Nat.reduceMul, Nat.reduceSub, Nat.reduceDiv, Int.reduceLT, Int.reduceLE, Int.reduceToNat, Int.reduceNeg, Int.reduceSub, Int.reduceAdd, reduceIte, reduceCtorEq]

theorem prod_le : ∀ n, n ≤ 17 → prod (rdx n) 1 ≤ 1000000000000000 := by decide

/-! ### The reference's orders -/

theorem L28 {n : Nat} {q : Int} (hn : n ≤ 17) {σ : Type} (Y : List P → σ → Option (Bool × σ)) (s : σ) : ∀ (m k : Nat) (a : Int) (st : St), k + m = n + 1 → 2 ≤ k →
    gc 0 (liftAll [] ⟨keepOnly [0, 1, 6, 7] st.fr, st.mem⟩) = some ⟨⟨76, [(0, Vi n), (1, Vi q), (6, Vi a), (7, Vi k)]⟩, []⟩ →
    U tbl Y 0 fn28_L0 st s = some (.exit 0, ⟨⟨76, [(0, Vi n), (1, Vi q), (6, Vi (prod ((List.range' k m).map fun (i : Nat) => (i : Int)) a)), (7, Vi (n + 1 : Nat)), (20, Vb false)]⟩, []⟩, s) := by
  intro m
  induction m with
  | zero =>
    intro k a st hk h2 hg
    have e : k = n + 1 := by omega
    subst e
    have c : ¬ ((n + 1 : Nat) : Int) ≤ (n : Int) := by omega
    rw [fn28_L0, u_loop tbl Y 0 s hg]
    simp only [fn28_B0, fn28_P20, fn28_D20, c, prod, List.range'_zero, List.foldl_nil, go_sem, Nat.reduceBEq, Nat.reduceEqDiff, Nat.reduceLT, Nat.reduceLeDiff, Nat.reduceAdd, Nat.reduceMul, Nat.reduceSub, Nat.reduceDiv, Int.reduceLT, Int.reduceLE, Int.reduceToNat, Int.reduceNeg, Int.reduceSub, Int.reduceAdd, reduceIte, reduceCtorEq]
  | succ m ih =>
    intro k a st hk h2 hg
    have c : (k : Int) ≤ (n : Int) := by omega
    rw [fn28_L0, u_loop tbl Y 0 s hg]
    simp only [fn28_B0, fn28_P20, fn28_D20, c, succ64 (show k < 9223372036854775807 by omega), go_sem, Nat.reduceBEq, Nat.reduceEqDiff, Nat.reduceLT, Nat.reduceLeDiff, Nat.reduceAdd, Nat.reduceMul, Nat.reduceSub, Nat.reduceDiv, Int.reduceLT, Int.reduceLE, Int.reduceToNat, Int.reduceNeg, Int.reduceSub, Int.reduceAdd, reduceIte, reduceCtorEq]
    refine (ih (k + 1) (IntKind.wrap .i64 (a * k)) _ (by omega) (by omega) (by simp only [go_sem, Nat.reduceBEq, Nat.reduceEqDiff, Nat.reduceLT, Nat.reduceLeDiff, Nat.reduceAdd, Nat.reduceMul, Nat.reduceSub, Nat.reduceDiv, Int.reduceLT, Int.reduceLE, Int.reduceToNat, Int.reduceNeg, Int.reduceSub, Int.reduceAdd, reduceIte, reduceCtorEq])).trans ?_
    simp only [prod, List.range'_succ, List.map_cons, List.foldl_cons]

theorem prod_same : ∀ n, n ≤ 17 → prod ((List.range' 2 (n - 1)).map fun (i : Nat) => (i : Int)) 1 = prod (rdx n) 1 := by decide

def v28 (n : Nat) : V := if n = 0 then .nil 0 else .ref 0 0 0 n
def m28 (n : Nat) : List Blk := if n = 0 then [] else [.cells (((ints n).map Pi).map V.p)]
theorem M28_0 (q : Int) : runC (evalN tbl 1000) noY 0 1000 fn28_L1 ⟨⟨76, [(0, Vi 0), (1, Vi q), (7, Vi (0 + 1 : Nat)), (8, .nil 0), (9, Vi 0), (20, Vb false), (32, Vb false)]⟩, []⟩ () = some (.exit 2, ⟨⟨76, [(0, Vi 0), (1, Vi q), (8, v28 0), (9, Vi 0), (35, Vb false)]⟩, m28 0⟩, ()) := by kernel_rfl
theorem M28_1 (q : Int) : runC (evalN tbl 1000) noY 0 1000 fn28_L1 ⟨⟨76, [(0, Vi 1), (1, Vi q), (7, Vi (1 + 1 : Nat)), (8, .nil 0), (9, Vi 0), (20, Vb false), (32, Vb false)]⟩, []⟩ () = some (.exit 2, ⟨⟨76, [(0, Vi 1), (1, Vi q), (8, v28 1), (9, Vi 1), (35, Vb false)]⟩, m28 1⟩, ()) := by kernel_rfl
theorem M28_2 (q : Int) : runC (evalN tbl 1000) noY 0 1000 fn28_L1 ⟨⟨76, [(0, Vi 2), (1, Vi q), (7, Vi (2 + 1 : Nat)), (8, .nil 0), (9, Vi 0), (20, Vb false), (32, Vb false)]⟩, []⟩ () = some (.exit 2, ⟨⟨76, [(0, Vi 2), (1, Vi q), (8, v28 2), (9, Vi 2), (35, Vb false)]⟩, m28 2⟩, ()) := by kernel_rfl
theorem M28_3 (q : Int) : runC (evalN tbl 1000) noY 0 1000 fn28_L1 ⟨⟨76, [(0, Vi 3), (1, Vi q), (7, Vi (3 + 1 : Nat)), (8, .nil 0), (9, Vi 0), (20, Vb false), (32, Vb false)]⟩, []⟩ () = some (.exit 2, ⟨⟨76, [(0, Vi 3), (1, Vi q), (8, v28 3), (9, Vi 3), (35, Vb false)]⟩, m28 3⟩, ()) := by kernel_rfl
theorem M28_4 (q : Int) : runC (evalN tbl 1000) noY 0 1000 fn28_L1 ⟨⟨76, [(0, Vi 4), (1, Vi q), (7, Vi (4 + 1 : Nat)), (8, .nil 0), (9, Vi 0), (20, Vb false), (32, Vb false)]⟩, []⟩ () = some (.exit 2, ⟨⟨76, [(0, Vi 4), (1, Vi q), (8, v28 4), (9, Vi 4), (35, Vb false)]⟩, m28 4⟩, ()) := by kernel_rfl
theorem M28_5 (q : Int) : runC (evalN tbl 1000) noY 0 1000 fn28_L1 ⟨⟨76, [(0, Vi 5), (1, Vi q), (7, Vi (5 + 1 : Nat)), (8, .nil 0), (9, Vi 0), (20, Vb false), (32, Vb false)]⟩, []⟩ () = some (.exit 2, ⟨⟨76, [(0, Vi 5), (1, Vi q), (8, v28 5), (9, Vi 5), (35, Vb false)]⟩, m28 5⟩, ()) := by kernel_rfl
theorem M28_6 (q : Int) : runC (evalN tbl 1000) noY 0 1000 fn28_L1 ⟨⟨76, [(0, Vi 6), (1, Vi q), (7, Vi (6 + 1 : Nat)), (8, .nil 0), (9, Vi 0), (20, Vb false), (32, Vb false)]⟩, []⟩ () = some (.exit 2, ⟨⟨76, [(0, Vi 6), (1, Vi q), (8, v28 6), (9, Vi 6), (35, Vb false)]⟩, m28 6⟩, ()) := by kernel_rfl
theorem M28_7 (q : Int) : runC (evalN tbl 1000) noY 0 1000 fn28_L1 ⟨⟨76, [(0, Vi 7), (1, Vi q), (7, Vi (7 + 1 : Nat)), (8, .nil 0), (9, Vi 0), (20, Vb false), (32, Vb false)]⟩, []⟩ () = some (.exit 2, ⟨⟨76, [(0, Vi 7), (1, Vi q), (8, v28 7), (9, Vi 7), (35, Vb false)]⟩, m28 7⟩, ()) := by kernel_rfl
theorem M28_8 (q : Int) : runC (evalN tbl 1000) noY 0 1000 fn28_L1 ⟨⟨76, [(0, Vi 8), (1, Vi q), (7, Vi (8 + 1 : Nat)), (8, .nil 0), (9, Vi 0), (20, Vb false), (32, Vb false)]⟩, []⟩ () = some (.exit 2, ⟨⟨76, [(0, Vi 8), (1, Vi q), (8, v28 8), (9, Vi 8), (35, Vb false)]⟩, m28 8⟩, ()) := by kernel_rfl
theorem M28_9 (q : Int) : runC (evalN tbl 1000) noY 0 1000 fn28_L1 ⟨⟨76, [(0, Vi 9), (1, Vi q), (7, Vi (9 + 1 : Nat)), (8, .nil 0), (9, Vi 0), (20, Vb false), (32, Vb false)]⟩, []⟩ () = some (.exit 2, ⟨⟨76, [(0, Vi 9), (1, Vi q), (8, v28 9), (9, Vi 9), (35, Vb false)]⟩, m28 9⟩, ()) := by kernel_rfl
theorem M28_10 (q : Int) : runC (evalN tbl 1000) noY 0 1000 fn28_L1 ⟨⟨76, [(0, Vi 10), (1, Vi q), (7, Vi (10 + 1 : Nat)), (8, .nil 0), (9, Vi 0), (20, Vb false), (32, Vb false)]⟩, []⟩ () = some (.exit 2, ⟨⟨76, [(0, Vi 10), (1, Vi q), (8, v28 10), (9, Vi 10), (35, Vb false)]⟩, m28 10⟩, ()) := by kernel_rfl
theorem M28_11 (q : Int) : runC (evalN tbl 1000) noY 0 1000 fn28_L1 ⟨⟨76, [(0, Vi 11), (1, Vi q), (7, Vi (11 + 1 : Nat)), (8, .nil 0), (9, Vi 0), (20, Vb false), (32, Vb false)]⟩, []⟩ () = some (.exit 2, ⟨⟨76, [(0, Vi 11), (1, Vi q), (8, v28 11), (9, Vi 11), (35, Vb false)]⟩, m28 11⟩, ()) := by kernel_rfl
theorem M28_12 (q : Int) : runC (evalN tbl 1000) noY 0 1000 fn28_L1 ⟨⟨76, [(0, Vi 12), (1, Vi q), (7, Vi (12 + 1 : Nat)), (8, .nil 0), (9, Vi 0), (20, Vb false), (32, Vb false)]⟩, []⟩ () = some (.exit 2, ⟨⟨76, [(0, Vi 12), (1, Vi q), (8, v28 12), (9, Vi 12), (35, Vb false)]⟩, m28 12⟩, ()) := by kernel_rfl
theorem M28_13 (q : Int) : runC (evalN tbl 1000) noY 0 1000 fn28_L1 ⟨⟨76, [(0, Vi 13), (1, Vi q), (7, Vi (13 + 1 : Nat)), (8, .nil 0), (9, Vi 0), (20, Vb false), (32, Vb false)]⟩, []⟩ () = some (.exit 2, ⟨⟨76, [(0, Vi 13), (1, Vi q), (8, v28 13), (9, Vi 13), (35, Vb false)]⟩, m28 13⟩, ()) := by kernel_rfl
theorem M28_14 (q : Int) : runC (evalN tbl 1000) noY 0 1000 fn28_L1 ⟨⟨76, [(0, Vi 14), (1, Vi q), (7, Vi (14 + 1 : Nat)), (8, .nil 0), (9, Vi 0), (20, Vb false), (32, Vb false)]⟩, []⟩ () = some (.exit 2, ⟨⟨76, [(0, Vi 14), (1, Vi q), (8, v28 14), (9, Vi 14), (35, Vb false)]⟩, m28 14⟩, ()) := by kernel_rfl
theorem M28_15 (q : Int) : runC (evalN tbl 1000) noY 0 1000 fn28_L1 ⟨⟨76, [(0, Vi 15), (1, Vi q), (7, Vi (15 + 1 : Nat)), (8, .nil 0), (9, Vi 0), (20, Vb false), (32, Vb false)]⟩, []⟩ () = some (.exit 2, ⟨⟨76, [(0, Vi 15), (1, Vi q), (8, v28 15), (9, Vi 15), (35, Vb false)]⟩, m28 15⟩, ()) := by kernel_rfl
theorem M28_16 (q : Int) : runC (evalN tbl 1000) noY 0 1000 fn28_L1 ⟨⟨76, [(0, Vi 16), (1, Vi q), (7, Vi (16 + 1 : Nat)), (8, .nil 0), (9, Vi 0), (20, Vb false), (32, Vb false)]⟩, []⟩ () = some (.exit 2, ⟨⟨76, [(0, Vi 16), (1, Vi q), (8, v28 16), (9, Vi 16), (35, Vb false)]⟩, m28 16⟩, ()) := by kernel_rfl
theorem M28_17 (q : Int) : runC (evalN tbl 1000) noY 0 1000 fn28_L1 ⟨⟨76, [(0, Vi 17), (1, Vi q), (7, Vi (17 + 1 : Nat)), (8, .nil 0), (9, Vi 0), (20, Vb false), (32, Vb false)]⟩, []⟩ () = some (.exit 2, ⟨⟨76, [(0, Vi 17), (1, Vi q), (8, v28 17), (9, Vi 17), (35, Vb false)]⟩, m28 17⟩, ()) := by kernel_rfl
theorem M28 (n : Nat) (q : Int) (h : n ≤ 17) : U tbl noY 0 fn28_L1 ⟨⟨76, [(0, Vi n), (1, Vi q), (7, Vi (n + 1 : Nat)), (8, .nil 0), (9, Vi 0), (20, Vb false), (32, Vb false)]⟩, []⟩ () = some (.exit 2, ⟨⟨76, [(0, Vi n), (1, Vi q), (8, v28 n), (9, Vi n), (35, Vb false)]⟩, m28 n⟩, ()) := by
  rcases n with _ | ⟨_ | ⟨_ | ⟨_ | ⟨_ | ⟨_ | ⟨_ | ⟨_ | ⟨_ | ⟨_ | ⟨_ | ⟨_ | ⟨_ | ⟨_ | ⟨_ | ⟨_ | ⟨_ | ⟨_ | n⟩⟩⟩⟩⟩⟩⟩⟩⟩⟩⟩⟩⟩⟩⟩⟩⟩
  · exact U_of_run tbl (M28_0 q)
  · exact U_of_run tbl (M28_1 q)
  · exact U_of_run tbl (M28_2 q)
  · exact U_of_run tbl (M28_3 q)
  · exact U_of_run tbl (M28_4 q)
  · exact U_of_run tbl (M28_5 q)
  · exact U_of_run tbl (M28_6 q)
  · exact U_of_run tbl (M28_7 q)
  · exact U_of_run tbl (M28_8 q)
  · exact U_of_run tbl (M28_9 q)
  · exact U_of_run tbl (M28_10 q)
  · exact U_of_run tbl (M28_11 q)
  · exact U_of_run tbl (M28_12 q)
  · exact U_of_run tbl (M28_13 q)
  · exact U_of_run tbl (M28_14 q)
  · exact U_of_run tbl (M28_15 q)
  · exact U_of_run tbl (M28_16 q)
  · exact U_of_run tbl (M28_17 q)
  · omega

theorem N28 {n : Nat} (hn : n ≤ 17) {σ : Type} (Y : List P → σ → Option (Bool × σ)) (s : σ) : ∀ (r : List Int) (i : Nat) (q : Int) (D : List Int) (st : St), (rdx n).drop i = r → i ≤ n → D.length = n → 0 ≤ q → q ≤ 1000000000000000 →
    gc 0 (liftAll [] ⟨keepOnly [0, 1, 8, 10] st.fr, st.mem⟩) = some ⟨⟨76, [(0, Vi n), (1, Vi q), (8, .ref 0 0 0 n), (10, Vi i)]⟩, [.cells ((D.map Pi).map V.p)]⟩ →
    U tbl Y 0 fn28_L2 st s = some (.exit 4, ⟨⟨76, [(0, Vi n), (1, Vi (left q r)), (8, .ref 0 0 0 n), (10, Vi n), (44, Vb false)]⟩, [.cells (((prm D i (digs q r)).map Pi).map V.p)]⟩, s) := by
  intro r
  have hlen : (rdx n).length = n := by simp [rdx]
  induction r with
  | nil =>
    intro i q D st hd hi hD hq1 hq2 hg
    have e : i = n := by have := drop_nil_facts hd; omega
    subst e
    rw [fn28_L2, u_loop tbl Y 0 s hg]
    simp only [fn28_B2, fn28_P20, fn28_D20, natnlt (Nat.le_refl i), prm, digs, left, List.foldl_nil, go_sem, Nat.reduceBEq, Nat.reduceEqDiff, Nat.reduceLT, Nat.reduceLeDiff, Nat.reduceAdd, Nat.reduceMul, Nat.reduceSub, Nat.reduceDiv, Int.reduceLT, Int.reduceLE, Int.reduceToNat, Int.reduceNeg, Int.reduceSub, Int.reduceAdd, reduceIte, reduceCtorEq]
  | cons x r ih =>
    intro i q D st hd hi hD hq1 hq2 hg
    obtain ⟨h1, h2, h3⟩ := drop_cons_facts hd
    obtain ⟨hin, hx⟩ := rdx_get h1
    have hx1 : 1 ≤ x := by omega
    obtain ⟨q1, q2, q3⟩ := quot64 hq1 hq2 hx1
    have hd1 : 0 ≤ q.tmod x := Int.tmod_nonneg x hq1
    have hd2 : q.tmod x < x := Int.tmod_lt_of_pos q (by omega)
    obtain ⟨dn, hdn⟩ := Int.eq_ofNat_of_zero_le hd1
    have hj : i + dn < n := by omega
    have hs : IntKind.wrap .i64 ((n : Int) - (i : Int)) = x := by rw [wrap64 (by omega) (by omega)]; omega
    have hw : IntKind.wrap .i64 ((i : Int) + (dn : Int)) = ((i + dn : Nat) : Int) := by rw [wrap64 (by omega) (by omega)]; omega
    have g1 : D[i]? = some (D.getD i 0) := by rw [List.getD_eq_getElem?_getD, List.getElem?_eq_getElem (by omega)]; rfl
    have g2 : D[i + dn]? = some (D.getD (i + dn) 0) := by rw [List.getD_eq_getElem?_getD, List.getElem?_eq_getElem (by omega)]; rfl
    have b1 : (i < n) = True := by simp; omega
    have b2 : (i + dn < n) = True := by simp; omega
    have b3 : (i + 1 ≤ n) = True := by simp; omega
    have b4 : (i + dn + 1 ≤ n) = True := by simp; omega
    have x0 : ¬ x = 0 := by omega
    have e2 : (q.tmod x).toNat = dn := by rw [hdn]; simp
    rw [fn28_L2, u_loop tbl Y 0 s hg]
    simp only [fn28_B2, fn28_P20, fn28_D20, natlt hin, hs, x0, hdn, q1, g1, g2, b1, b2, b3, b4, hw, hD, setRange_p, List.length_set, succ64 (show i < 9223372036854775807 by omega), gc, gcIdx, range1, range2, range3, range4, range5, List.filter_cons, List.idxOf?_cons, List.idxOf?_nil, List.getD_cons_zero, List.getD_cons_succ, List.getD_nil, List.contains_cons, List.contains_nil, List.elem_nil, Nat.reduceBEq, Bool.or_false, Bool.or_true, Bool.true_or, Bool.false_or, back, rangeIn, go_sem, Nat.reduceBEq, Nat.reduceEqDiff, Nat.reduceLT, Nat.reduceLeDiff, Nat.reduceAdd, Nat.reduceMul, Nat.reduceSub, Nat.reduceDiv, Int.reduceLT, Int.reduceLE, Int.reduceToNat, Int.reduceNeg, Int.reduceSub, Int.reduceAdd, reduceIte, reduceCtorEq]
    refine (ih (i + 1) (q.tdiv x) (swp D i (i + dn)) _ h3 (by omega) (by rw [swp_length]; exact hD) q2 q3 (by simp only [gc, gcIdx, range1, range2, range3, range4, range5, List.filter_cons, List.idxOf?_cons, List.idxOf?_nil, List.getD_cons_zero, List.getD_cons_succ, List.getD_nil, List.contains_cons, List.contains_nil, List.elem_nil, Nat.reduceBEq, Bool.or_false, Bool.or_true, Bool.true_or, Bool.false_or, back, rangeIn, go_sem, Nat.reduceBEq, Nat.reduceEqDiff, Nat.reduceLT, Nat.reduceLeDiff, Nat.reduceAdd, Nat.reduceMul, Nat.reduceSub, Nat.reduceDiv, Int.reduceLT, Int.reduceLE, Int.reduceToNat, Int.reduceNeg, Int.reduceSub, Int.reduceAdd, reduceIte, reduceCtorEq]; simp only [swp, List.map_set])).trans ?_
    simp only [digs, prm, e2, left, List.foldl_cons]

theorem take_swp (D : List Int) (n i j : Nat) (hi : i < n) (hj : j < n) : (swp D i j).take n = swp (D.take n) i j := by
  simp only [swp, List.take_set, List.getD_eq_getElem?_getD, List.getElem?_take, hi, hj, if_true]

theorem take_prm (n : Nat) : ∀ (ks : List Int) (D : List Int) (i : Nat), (∀ (j : Nat) (k : Int), ks[j]? = some k → 0 ≤ k ∧ ((i + j : Nat) : Int) + k < n) → (prm D i ks).take n = prm (D.take n) i ks
  | [], D, i, _ => rfl
  | k :: ks, D, i, h => by
    obtain ⟨h1, h2⟩ := h 0 k rfl
    simp only [prm]
    rw [take_prm n ks _ (i + 1) (fun j k' hj => by
      have := h (j + 1) k' (by simpa using hj)
      refine ⟨this.1, ?_⟩
      have := this.2
      simp at this ⊢; omega), take_swp D n i _ (by simp at h2; omega) (by simp at h2; omega)]

theorem digs_get : ∀ (l : List Int) (q : Int), 0 ≤ q → (∀ r ∈ l, 1 ≤ r) → ∀ (j : Nat) (k : Int), (digs q l)[j]? = some k → ∃ r, l[j]? = some r ∧ 0 ≤ k ∧ k < r
  | [], q, _, _, j, k, h => by simp [digs] at h
  | x :: l, q, hq, hl, j, k, h => by
    have hx := hl x (by simp)
    cases j with
    | zero =>
      simp only [digs, List.getElem?_cons_zero, Option.some.injEq] at h
      subst h
      exact ⟨x, rfl, Int.tmod_nonneg x hq, Int.tmod_lt_of_pos q (by omega)⟩
    | succ j =>
      simp only [digs, List.getElem?_cons_succ] at h ⊢
      exact digs_get l _ (Int.tdiv_nonneg hq (by omega)) (fun r hr => hl r (by simp [hr])) j k h

theorem perm_same (n : Nat) (q : Int) (hn : n ≤ 17) (hq : 0 ≤ q) : (prm (ints 17) 0 (digs q (rdx n))).take n = prm (ints n) 0 (digs q (rdx n)) := by
  rw [take_prm]
  · congr 1
    simp only [ints, ← List.map_take, List.take_range]
    congr 2; omega
  · intro j k hj
    obtain ⟨r, h1, h2, h3⟩ := digs_get (rdx n) q hq (fun r hr => by
      obtain ⟨j, hj⟩ := List.getElem?_of_mem hr
      have := rdx_get hj; omega) j k hj
    have := rdx_get h1
    exact ⟨h2, by simp; omega⟩

theorem s28 (n : Nat) (seed : Int) (h : n ≤ 17) (hs : seed ≤ 9223372036854775807) : (EL tbl).call 28 [Vi n, Vi seed] [] = some (.p (.tuple (permOf n seed)), []) := by
  have h1 : ¬ (n : Int) < 0 := by omega
  have h2 : ¬ (17 : Int) < n := by omega
  rw [call_fn' tbl (show tbl 28 = some fn28 from rfl) _ _ (Nat.le_of_ble_eq_true rfl)]
  unfold permOf
  by_cases hn0 : n = 0
  · subst hn0
    have e1 : prod (rdx 0) 1 = 1 := rfl
    have hL : U tbl noY 0 fn28_L0 ⟨⟨76, [(0, Vi (0 : Nat)), (1, Vi seed), (6, Vi 1), (7, Vi 2), (17, Vb false)]⟩, []⟩ () = some (.exit 0, ⟨⟨76, [(0, Vi (0 : Nat)), (1, Vi seed), (6, Vi 1), (7, Vi 2), (20, Vb false)]⟩, []⟩, ()) := by
      rw [fn28_L0, u_loop tbl noY 0 () (st1 := ⟨⟨76, [(0, Vi (0 : Nat)), (1, Vi seed), (6, Vi 1), (7, Vi 2)]⟩, []⟩) (by simp only [gc, gcIdx, range1, range2, range3, range4, range5, List.filter_cons, List.idxOf?_cons, List.idxOf?_nil, List.getD_cons_zero, List.getD_cons_succ, List.getD_nil, List.contains_cons, List.contains_nil, List.elem_nil, Nat.reduceBEq, Bool.or_false, Bool.or_true, Bool.true_or, Bool.false_or, back, rangeIn, go_sem, Nat.reduceBEq, Nat.reduceEqDiff, Nat.reduceLT, Nat.reduceLeDiff, Nat.reduceAdd, Nat.reduceMul, Nat.reduceSub, Nat.reduceDiv, Int.reduceLT, Int.reduceLE, Int.reduceToNat, Int.reduceNeg, Int.reduceSub, Int.reduceAdd, reduceIte, reduceCtorEq])]
      simp only [fn28_B0, fn28_P20, fn28_D20, Int.natCast_zero, Int.reduceLE, go_sem, Nat.reduceBEq, Nat.reduceEqDiff, Nat.reduceLT, Nat.reduceLeDiff, Nat.reduceAdd, Nat.reduceMul, Nat.reduceSub, Nat.reduceDiv, Int.reduceLT, Int.reduceLE, Int.reduceToNat, Int.reduceNeg, Int.reduceSub, Int.reduceAdd, reduceIte, reduceCtorEq]
    have hM : U tbl noY 0 fn28_L1 ⟨⟨76, [(0, Vi (0 : Nat)), (1, Vi seed), (7, Vi 2), (8, .nil 0), (9, Vi 0), (20, Vb false), (32, Vb false)]⟩, []⟩ () = some (.exit 2, ⟨⟨76, [(0, Vi (0 : Nat)), (1, Vi seed), (8, .nil 0), (9, Vi 0), (35, Vb false)]⟩, []⟩, ()) := by
      rw [fn28_L1, u_loop tbl noY 0 () (st1 := ⟨⟨76, [(0, Vi (0 : Nat)), (1, Vi seed), (8, .nil 0), (9, Vi 0)]⟩, []⟩) (by simp only [gc, gcIdx, range1, range2, range3, range4, range5, List.filter_cons, List.idxOf?_cons, List.idxOf?_nil, List.getD_cons_zero, List.getD_cons_succ, List.getD_nil, List.contains_cons, List.contains_nil, List.elem_nil, Nat.reduceBEq, Bool.or_false, Bool.or_true, Bool.true_or, Bool.false_or, back, rangeIn, go_sem, Nat.reduceBEq, Nat.reduceEqDiff, Nat.reduceLT, Nat.reduceLeDiff, Nat.reduceAdd, Nat.reduceMul, Nat.reduceSub, Nat.reduceDiv, Int.reduceLT, Int.reduceLE, Int.reduceToNat, Int.reduceNeg, Int.reduceSub, Int.reduceAdd, reduceIte, reduceCtorEq])]
      simp only [fn28_B1, fn28_P20, fn28_D20, Int.natCast_zero, Int.reduceLT, go_sem, Nat.reduceBEq, Nat.reduceEqDiff, Nat.reduceLT, Nat.reduceLeDiff, Nat.reduceAdd, Nat.reduceMul, Nat.reduceSub, Nat.reduceDiv, Int.reduceLT, Int.reduceLE, Int.reduceToNat, Int.reduceNeg, Int.reduceSub, Int.reduceAdd, reduceIte, reduceCtorEq]
    have hN : U tbl noY 0 fn28_L2 ⟨⟨76, [(0, Vi (0 : Nat)), (1, Vi seed), (8, .nil 0), (9, Vi 0), (10, Vi 0), (35, Vb false)]⟩, []⟩ () = some (.exit 4, ⟨⟨76, [(0, Vi (0 : Nat)), (1, Vi seed), (8, .nil 0), (10, Vi 0), (44, Vb false)]⟩, []⟩, ()) := by
      rw [fn28_L2, u_loop tbl noY 0 () (st1 := ⟨⟨76, [(0, Vi (0 : Nat)), (1, Vi seed), (8, .nil 0), (10, Vi 0)]⟩, []⟩) (by simp only [gc, gcIdx, range1, range2, range3, range4, range5, List.filter_cons, List.idxOf?_cons, List.idxOf?_nil, List.getD_cons_zero, List.getD_cons_succ, List.getD_nil, List.contains_cons, List.contains_nil, List.elem_nil, Nat.reduceBEq, Bool.or_false, Bool.or_true, Bool.true_or, Bool.false_or, back, rangeIn, go_sem, Nat.reduceBEq, Nat.reduceEqDiff, Nat.reduceLT, Nat.reduceLeDiff, Nat.reduceAdd, Nat.reduceMul, Nat.reduceSub, Nat.reduceDiv, Int.reduceLT, Int.reduceLE, Int.reduceToNat, Int.reduceNeg, Int.reduceSub, Int.reduceAdd, reduceIte, reduceCtorEq])]
      simp only [fn28_B2, fn28_P20, fn28_D20, Int.natCast_zero, Int.reduceLT, go_sem, Nat.reduceBEq, Nat.reduceEqDiff, Nat.reduceLT, Nat.reduceLeDiff, Nat.reduceAdd, Nat.reduceMul, Nat.reduceSub, Nat.reduceDiv, Int.reduceLT, Int.reduceLE, Int.reduceToNat, Int.reduceNeg, Int.reduceSub, Int.reduceAdd, reduceIte, reduceCtorEq]
    rw [e1]
    by_cases h3 : seed < 0
    · rw [if_pos h3]
      simp only [fn28, fn28_P20, fn28_D20, h1, h2, hL, h3, gc, gcIdx, range1, range2, range3, range4, range5, List.filter_cons, List.idxOf?_cons, List.idxOf?_nil, List.getD_cons_zero, List.getD_cons_succ, List.getD_nil, List.contains_cons, List.contains_nil, List.elem_nil, Nat.reduceBEq, Bool.or_false, Bool.or_true, Bool.true_or, Bool.false_or, back, rangeIn, go_sem, Nat.reduceBEq, Nat.reduceEqDiff, Nat.reduceLT, Nat.reduceLeDiff, Nat.reduceAdd, Nat.reduceMul, Nat.reduceSub, Nat.reduceDiv, Int.reduceLT, Int.reduceLE, Int.reduceToNat, Int.reduceNeg, Int.reduceSub, Int.reduceAdd, reduceIte, reduceCtorEq]
      rfl
    · rw [if_neg h3]
      by_cases h4 : 1 ≤ seed
      · rw [if_pos h4]
        simp only [fn28, fn28_P20, fn28_D20, h1, h2, hL, h3, h4, gc, gcIdx, range1, range2, range3, range4, range5, List.filter_cons, List.idxOf?_cons, List.idxOf?_nil, List.getD_cons_zero, List.getD_cons_succ, List.getD_nil, List.contains_cons, List.contains_nil, List.elem_nil, Nat.reduceBEq, Bool.or_false, Bool.or_true, Bool.true_or, Bool.false_or, back, rangeIn, go_sem, Nat.reduceBEq, Nat.reduceEqDiff, Nat.reduceLT, Nat.reduceLeDiff, Nat.reduceAdd, Nat.reduceMul, Nat.reduceSub, Nat.reduceDiv, Int.reduceLT, Int.reduceLE, Int.reduceToNat, Int.reduceNeg, Int.reduceSub, Int.reduceAdd, reduceIte, reduceCtorEq]
        rfl
      · rw [if_neg h4]
        simp only [fn28, fn28_P20, fn28_D20, h1, h2, hL, h3, h4, hM, hN, gc, gcIdx, range1, range2, range3, range4, range5, List.filter_cons, List.idxOf?_cons, List.idxOf?_nil, List.getD_cons_zero, List.getD_cons_succ, List.getD_nil, List.contains_cons, List.contains_nil, List.elem_nil, Nat.reduceBEq, Bool.or_false, Bool.or_true, Bool.true_or, Bool.false_or, back, rangeIn, go_sem, Nat.reduceBEq, Nat.reduceEqDiff, Nat.reduceLT, Nat.reduceLeDiff, Nat.reduceAdd, Nat.reduceMul, Nat.reduceSub, Nat.reduceDiv, Int.reduceLT, Int.reduceLE, Int.reduceToNat, Int.reduceNeg, Int.reduceSub, Int.reduceAdd, reduceIte, reduceCtorEq]
        rfl
  · have hL := L28 (n := n) (q := seed) h noY () (n - 1) 2 1 ⟨⟨76, [(0, Vi n), (1, Vi seed), (6, Vi 1), (7, Vi 2), (17, Vb false)]⟩, []⟩ (by omega) (by omega) (by simp only [go_sem, Nat.reduceBEq, Nat.reduceEqDiff, Nat.reduceLT, Nat.reduceLeDiff, Nat.reduceAdd, Nat.reduceMul, Nat.reduceSub, Nat.reduceDiv, Int.reduceLT, Int.reduceLE, Int.reduceToNat, Int.reduceNeg, Int.reduceSub, Int.reduceAdd, reduceIte, reduceCtorEq]; rfl)
    rw [prod_same n h] at hL
    have hM := M28 n seed h
    have hv : v28 n = .ref 0 0 0 n := by simp [v28, hn0]
    have hm : m28 n = [.cells (((ints n).map Pi).map V.p)] := by simp [m28, hn0]
    rw [hv, hm] at hM
    by_cases h3 : seed < 0
    · rw [if_pos h3]
      simp only [fn28, fn28_P20, fn28_D20, h1, h2, hL, h3, gc, gcIdx, range1, range2, range3, range4, range5, List.filter_cons, List.idxOf?_cons, List.idxOf?_nil, List.getD_cons_zero, List.getD_cons_succ, List.getD_nil, List.contains_cons, List.contains_nil, List.elem_nil, Nat.reduceBEq, Bool.or_false, Bool.or_true, Bool.true_or, Bool.false_or, back, rangeIn, go_sem, Nat.reduceBEq, Nat.reduceEqDiff, Nat.reduceLT, Nat.reduceLeDiff, Nat.reduceAdd, Nat.reduceMul, Nat.reduceSub, Nat.reduceDiv, Int.reduceLT, Int.reduceLE, Int.reduceToNat, Int.reduceNeg, Int.reduceSub, Int.reduceAdd, reduceIte, reduceCtorEq]
      rfl
    · rw [if_neg h3]
      by_cases h4 : prod (rdx n) 1 ≤ seed
      · rw [if_pos h4]
        simp only [fn28, fn28_P20, fn28_D20, h1, h2, hL, h3, h4, gc, gcIdx, range1, range2, range3, range4, range5, List.filter_cons, List.idxOf?_cons, List.idxOf?_nil, List.getD_cons_zero, List.getD_cons_succ, List.getD_nil, List.contains_cons, List.contains_nil, List.elem_nil, Nat.reduceBEq, Bool.or_false, Bool.or_true, Bool.true_or, Bool.false_or, back, rangeIn, go_sem, Nat.reduceBEq, Nat.reduceEqDiff, Nat.reduceLT, Nat.reduceLeDiff, Nat.reduceAdd, Nat.reduceMul, Nat.reduceSub, Nat.reduceDiv, Int.reduceLT, Int.reduceLE, Int.reduceToNat, Int.reduceNeg, Int.reduceSub, Int.reduceAdd, reduceIte, reduceCtorEq]
        rfl
      · rw [if_neg h4]
        have hp := prod_le n h
        have hN := N28 h noY () (rdx n) 0 seed (ints n) ⟨⟨76, [(0, Vi n), (1, Vi seed), (8, .ref 0 0 0 n), (9, Vi n), (10, Vi (0 : Nat)), (35, Vb false)]⟩, [.cells (((ints n).map Pi).map V.p)]⟩ (by simp) (by omega) (by simp [ints]) (by omega) (by omega) (by simp only [gc, gcIdx, range1, range2, range3, range4, range5, List.filter_cons, List.idxOf?_cons, List.idxOf?_nil, List.getD_cons_zero, List.getD_cons_succ, List.getD_nil, List.contains_cons, List.contains_nil, List.elem_nil, Nat.reduceBEq, Bool.or_false, Bool.or_true, Bool.true_or, Bool.false_or, back, rangeIn, go_sem, Nat.reduceBEq, Nat.reduceEqDiff, Nat.reduceLT, Nat.reduceLeDiff, Nat.reduceAdd, Nat.reduceMul, Nat.reduceSub, Nat.reduceDiv, Int.reduceLT, Int.reduceLE, Int.reduceToNat, Int.reduceNeg, Int.reduceSub, Int.reduceAdd, reduceIte, reduceCtorEq])
        simp only [Int.natCast_zero] at hN
        have hpl : (prm (ints n) 0 (digs seed (rdx n))).length = n := by rw [prm_length]; simp [ints]
        have hc : chunk 0 n ((prm (ints n) 0 (digs seed (rdx n))).map Pi) = (prm (ints n) 0 (digs seed (rdx n))).map Pi := chunk0 n _ (by simp [hpl])
        rw [perm_same n seed h (by omega)]
        simp only [fn28, fn28_P20, fn28_D20, h1, h2, hL, h3, h4, hM, hN, hpl, hc, gc, gcIdx, range1, range2, range3, range4, range5, List.filter_cons, List.idxOf?_cons, List.idxOf?_nil, List.getD_cons_zero, List.getD_cons_succ, List.getD_nil, List.contains_cons, List.contains_nil, List.elem_nil, Nat.reduceBEq, Bool.or_false, Bool.or_true, Bool.true_or, Bool.false_or, back, rangeIn, go_sem, Nat.reduceBEq, Nat.reduceEqDiff, Nat.reduceLT, Nat.reduceLeDiff, Nat.reduceAdd, Nat.reduceMul, Nat.reduceSub, Nat.reduceDiv, Int.reduceLT, Int.reduceLE, Int.reduceToNat, Int.reduceNeg, Int.reduceSub, Int.reduceAdd, reduceIte, reduceCtorEq]
        trace_state

/-! ### Where a number stands -/

theorem L48 {l : List Int} {c : Int} (hlen : l.length ≤ 1000000) {σ : Type} (Y : List P → σ → Option (Bool × σ)) (s : σ) :
    ∀ (r : List Int) (k : Nat) (st : St), l.drop k = r → k ≤ l.length → gc 0 (liftAll [] ⟨keepOnly [0, 1, 7, 8] st.fr, st.mem⟩) = some ⟨⟨19, [(0, Vl l), (1, Vi c), (7, Vi l.length), (8, Vi k)]⟩, []⟩ →
      match r.findIdx? (fun x => decide (c = x)) with
      | none => U tbl Y 0 fn48_L0 st s = some (.exit 0, ⟨⟨19, [(0, Vl l), (1, Vi c), (7, Vi l.length), (8, Vi l.length), (9, Vb false)]⟩, []⟩, s)
      | some j => ∃ fr, U tbl Y 0 fn48_L0 st s = some (.ret, ⟨fr, []⟩, s) ∧ getF fr.l 4 = Vi (k + j : Nat) := by
  intro r
  induction r with
  | nil =>
    intro k st hd hk hg
    have hle := drop_nil_facts hd
    have e : k = l.length := by omega
    subst e
    simp only [List.findIdx?_nil]
    rw [fn48_L0, u_loop tbl Y 0 s hg]
    simp only [fn48_B0, natnlt (Nat.le_refl l.length), go_sem, Nat.reduceBEq, Nat.reduceEqDiff, Nat.reduceLT, Nat.reduceLeDiff, Nat.reduceAdd, Nat.reduceMul, Nat.reduceSub, Nat.reduceDiv, Int.reduceLT, Int.reduceLE, Int.reduceToNat, Int.reduceNeg, Int.reduceSub, Int.reduceAdd, reduceIte, reduceCtorEq]
  | cons x r ih =>
    intro k st hd hk hg
    obtain ⟨h1, h2, h3⟩ := drop_cons_facts hd
    rw [List.findIdx?_cons]
    by_cases hpx : c = x
    · have hb : (c == x) = true := by simp [hpx]
      simp only [hpx, decide_true, if_true]
      rw [fn48_L0, u_loop tbl Y 0 s hg]
      simp only [fn48_B0, natlt h2, h1, hb, go_sem, Nat.reduceBEq, Nat.reduceEqDiff, Nat.reduceLT, Nat.reduceLeDiff, Nat.reduceAdd, Nat.reduceMul, Nat.reduceSub, Nat.reduceDiv, Int.reduceLT, Int.reduceLE, Int.reduceToNat, Int.reduceNeg, Int.reduceSub, Int.reduceAdd, reduceIte, reduceCtorEq]
      exact ⟨_, rfl, by simp only [go_sem, Nat.reduceBEq, Nat.reduceEqDiff, Nat.reduceLT, Nat.reduceLeDiff, Nat.reduceAdd, Nat.reduceMul, Nat.reduceSub, Nat.reduceDiv, Int.reduceLT, Int.reduceLE, Int.reduceToNat, Int.reduceNeg, Int.reduceSub, Int.reduceAdd, reduceIte, reduceCtorEq]⟩
    · have hb : (c == x) = false := by simp [hpx]
      simp only [hpx, decide_false, Bool.false_eq_true, if_false]
      have hno : ∃ st1, U tbl Y 0 fn48_L0 st s = U tbl Y 0 fn48_L0 st1 s ∧ gc 0 (liftAll [] ⟨keepOnly [0, 1, 7, 8] st1.fr, st1.mem⟩) = some ⟨⟨19, [(0, Vl l), (1, Vi c), (7, Vi l.length), (8, Vi (k + 1 : Nat))]⟩, []⟩ := by
        rw [fn48_L0, u_loop tbl Y 0 s hg]
        simp only [fn48_B0, natlt h2, h1, hb, succ64 (show k < 9223372036854775807 by omega), go_sem, Nat.reduceBEq, Nat.reduceEqDiff, Nat.reduceLT, Nat.reduceLeDiff, Nat.reduceAdd, Nat.reduceMul, Nat.reduceSub, Nat.reduceDiv, Int.reduceLT, Int.reduceLE, Int.reduceToNat, Int.reduceNeg, Int.reduceSub, Int.reduceAdd, reduceIte, reduceCtorEq]
        exact ⟨_, rfl, by simp only [go_sem, Nat.reduceBEq, Nat.reduceEqDiff, Nat.reduceLT, Nat.reduceLeDiff, Nat.reduceAdd, Nat.reduceMul, Nat.reduceSub, Nat.reduceDiv, Int.reduceLT, Int.reduceLE, Int.reduceToNat, Int.reduceNeg, Int.reduceSub, Int.reduceAdd, reduceIte, reduceCtorEq]⟩
      obtain ⟨st1, e1, e2⟩ := hno
      have := ih (k + 1) st1 h3 (by omega) e2
      rw [e1]
      cases hf : r.findIdx? (fun x => decide (c = x)) with
      | none => simpa [hf] using this
      | some j =>
        rw [hf] at this
        obtain ⟨fr, a, b⟩ := this
        simp only [Option.map_some]
        exact ⟨fr, a, by rw [b, show k + 1 + j = k + (j + 1) by omega]⟩

/-- Where a number stands; -1 if nowhere. -/
def place (l : List Int) (c : Int) : Int := match l.findIdx? (fun x => decide (c = x)) with | some j => (j : Int) | none => -1

theorem s48 (l : List Int) (c : Int) (hlen : l.length ≤ 1000000) : (EL tbl).call 48 [Vl l, Vi c] [] = some (Vi (place l c), []) := by
  rw [call_fn' tbl (show tbl 48 = some fn48 from rfl) _ _ (Nat.le_of_ble_eq_true rfl)]
  simp only [fn48, go_sem, Nat.reduceBEq, Nat.reduceEqDiff, Nat.reduceLT, Nat.reduceLeDiff, Nat.reduceAdd, Nat.reduceMul, Nat.reduceSub, Nat.reduceDiv, Int.reduceLT, Int.reduceLE, Int.reduceToNat, Int.reduceNeg, Int.reduceSub, Int.reduceAdd, reduceIte, reduceCtorEq]
  have := L48 (c := c) hlen noY () l 0 ⟨⟨19, [(0, Vl l), (1, Vi c), (7, Vi l.length), (8, Vi (0 : Nat))]⟩, []⟩ (by simp) (by omega) (by simp only [go_sem, Nat.reduceBEq, Nat.reduceEqDiff, Nat.reduceLT, Nat.reduceLeDiff, Nat.reduceAdd, Nat.reduceMul, Nat.reduceSub, Nat.reduceDiv, Int.reduceLT, Int.reduceLE, Int.reduceToNat, Int.reduceNeg, Int.reduceSub, Int.reduceAdd, reduceIte, reduceCtorEq])
  unfold place
  cases hf : l.findIdx? (fun x => decide (c = x)) with
  | none =>
    rw [hf] at this
    simp only [Int.natCast_zero] at this
    simp only [this, go_sem, Nat.reduceBEq, Nat.reduceEqDiff, Nat.reduceLT, Nat.reduceLeDiff, Nat.reduceAdd, Nat.reduceMul, Nat.reduceSub, Nat.reduceDiv, Int.reduceLT, Int.reduceLE, Int.reduceToNat, Int.reduceNeg, Int.reduceSub, Int.reduceAdd, reduceIte, reduceCtorEq]
  | some j =>
    rw [hf] at this
    obtain ⟨fr, a, b⟩ := this
    simp only [Int.natCast_zero] at a
    simp only [a, b, go_sem, Nat.reduceBEq, Nat.reduceEqDiff, Nat.reduceLT, Nat.reduceLeDiff, Nat.reduceAdd, Nat.reduceMul, Nat.reduceSub, Nat.reduceDiv, Int.reduceLT, Int.reduceLE, Int.reduceToNat, Int.reduceNeg, Int.reduceSub, Int.reduceAdd, reduceIte, reduceCtorEq]
end Go.Am
