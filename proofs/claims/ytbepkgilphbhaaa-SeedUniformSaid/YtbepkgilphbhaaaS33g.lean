/- What some functions of this seat answer. No condition. -/
import Derived.Test.YtbepkgilphbhaaaS33f
import Derived.KernelRfl
namespace Go.Am
open Go
set_option linter.unusedSimpArgs false
set_option linter.unusedVariables false
set_option maxRecDepth 100000
open Go.Proofs.Ytbepkgilphbhaaa.Fns

theorem rk_length (n : Nat) : ∀ (cs D : List Int) (i : Nat) (ks : List Int), rk n D i cs = some ks → ks.length = cs.length
  | [], D, i, ks, h => by simp [rk] at h; subst h; rfl
  | c :: cs, D, i, ks, h => by
    simp only [rk] at h
    split at h
    · cases h
    · simp only [Option.map_eq_some_iff] at h
      obtain ⟨a, h1, rfl⟩ := h
      simp [rk_length n cs _ _ a h1]

/-- The seed of an order. -/
def rankOf (o : List Int) : List P := if (17 : Int) < o.length then [Pi 0, Pi 4] else match rk o.length (ints 17) 0 o with
  | none => [Pi 0, Pi 3]
  | some ks => [Pi (jn ks (rdx o.length) o.length 0).1, Pi (jn ks (rdx o.length) o.length 0).2]

theorem s29 (o : List Int) : (EL tbl).call 29 [Vl o] [] = some (.p (.tuple (rankOf o)), []) := by
  rw [call_fn' tbl (show tbl 29 = some fn29 from rfl) _ _ (Nat.le_of_ble_eq_true rfl)]
  unfold rankOf
  by_cases h1 : (17 : Int) < o.length
  · rw [if_pos h1]
    simp only [fn29, fn29_P11, fn29_D11, h1, gc, gcIdx, range1, range2, range3, range4, range5, List.filter_cons, List.idxOf?_cons, List.idxOf?_nil, List.getD_cons_zero, List.getD_cons_succ, List.getD_nil, List.contains_cons, List.contains_nil, List.elem_nil, Nat.reduceBEq, Bool.or_false, Bool.or_true, Bool.true_or, Bool.false_or, back, rangeIn, go_sem, Nat.reduceBEq, Nat.reduceEqDiff, Nat.reduceLT, Nat.reduceLeDiff, Nat.reduceAdd, Nat.reduceMul, Nat.reduceSub, Nat.reduceDiv, Int.reduceLT, Int.reduceLE, Int.reduceToNat, Int.reduceNeg, Int.reduceSub, Int.reduceAdd, reduceIte, reduceCtorEq]
  · rw [if_neg h1]
    have ho : o.length ≤ 17 := by omega
    have h47 := s47 o.length ho
    have hi : (ints 17).length = 17 := rfl
    have hR : (rdx o.length).length = o.length := by simp [rdx]
    have hL := L29 (R := rdx o.length) ho noY () o 0 (ints 17) [] ⟨⟨58, [(0, Vl o), (4, .ptr 0 0), (5, Vl (rdx o.length)), (6, .nil 0), (12, Vb false), (19, Vl o), (20, Vi o.length), (21, Vi (0 : Nat))]⟩, [.cells (((ints 17).map Pi).map V.p)]⟩ (by simp) (by omega) rfl rfl (by simp only [gc, gcIdx, range1, range2, range3, range4, range5, List.filter_cons, List.idxOf?_cons, List.idxOf?_nil, List.getD_cons_zero, List.getD_cons_succ, List.getD_nil, List.contains_cons, List.contains_nil, List.elem_nil, Nat.reduceBEq, Bool.or_false, Bool.or_true, Bool.true_or, Bool.false_or, back, rangeIn, go_sem, Nat.reduceBEq, Nat.reduceEqDiff, Nat.reduceLT, Nat.reduceLeDiff, Nat.reduceAdd, Nat.reduceMul, Nat.reduceSub, Nat.reduceDiv, Int.reduceLT, Int.reduceLE, Int.reduceToNat, Int.reduceNeg, Int.reduceSub, Int.reduceAdd, reduceIte, reduceCtorEq])
    cases hr : rk o.length (ints 17) 0 o with
    | none =>
      rw [hr] at hL
      obtain ⟨fr, m, e1, e2, e3⟩ := hL
      simp only [Int.natCast_zero] at e1
      simp only [fn29, fn29_P11, fn29_D11, h1, h47, hi, List.take_append_of_le_length, List.drop_of_length_le, e1, e2, e3, gc, gcIdx, range1, range2, range3, range4, range5, List.filter_cons, List.idxOf?_cons, List.idxOf?_nil, List.getD_cons_zero, List.getD_cons_succ, List.getD_nil, List.contains_cons, List.contains_nil, List.elem_nil, Nat.reduceBEq, Bool.or_false, Bool.or_true, Bool.true_or, Bool.false_or, back, rangeIn, go_sem, Nat.reduceBEq, Nat.reduceEqDiff, Nat.reduceLT, Nat.reduceLeDiff, Nat.reduceAdd, Nat.reduceMul, Nat.reduceSub, Nat.reduceDiv, Int.reduceLT, Int.reduceLE, Int.reduceToNat, Int.reduceNeg, Int.reduceSub, Int.reduceAdd, reduceIte, reduceCtorEq]
    | some ks =>
      rw [hr] at hL
      obtain ⟨D', e1⟩ := hL
      simp only [Int.natCast_zero, List.nil_append] at e1
      have hk := rk_length _ _ _ _ _ hr
      have h46 := s46 ks (rdx o.length) 0 (by omega) (by omega) (fun r hr => by
        obtain ⟨j, hj⟩ := List.getElem?_of_mem hr
        have := rdx_get hj; omega)
      rw [hk] at h46
      simp only [fn29, fn29_P11, fn29_D11, h1, h47, hi, List.take_append_of_le_length, List.drop_of_length_le, e1, h46, gc, gcIdx, range1, range2, range3, range4, range5, List.filter_cons, List.idxOf?_cons, List.idxOf?_nil, List.getD_cons_zero, List.getD_cons_succ, List.getD_nil, List.contains_cons, List.contains_nil, List.elem_nil, Nat.reduceBEq, Bool.or_false, Bool.or_true, Bool.true_or, Bool.false_or, back, rangeIn, go_sem, Nat.reduceBEq, Nat.reduceEqDiff, Nat.reduceLT, Nat.reduceLeDiff, Nat.reduceAdd, Nat.reduceMul, Nat.reduceSub, Nat.reduceDiv, Int.reduceLT, Int.reduceLE, Int.reduceToNat, Int.reduceNeg, Int.reduceSub, Int.reduceAdd, reduceIte, reduceCtorEq]

theorem K30_0 (q : P) : runC (evalN tbl 1000) noY 0 1000 fn30_L0 ⟨⟨76, [(0, .p q), (4, Vi 0), (5, .nil 0), (6, Vi 0), (14, Vb false)]⟩, []⟩ () = some (.exit 0, ⟨⟨76, [(0, .p q), (4, Vi 0), (5, v28 0), (6, Vi 0), (17, Vb false)]⟩, m28 0⟩, ()) := by kernel_rfl
theorem K30_1 (q : P) : runC (evalN tbl 1000) noY 0 1000 fn30_L0 ⟨⟨76, [(0, .p q), (4, Vi 1), (5, .nil 0), (6, Vi 0), (14, Vb false)]⟩, []⟩ () = some (.exit 0, ⟨⟨76, [(0, .p q), (4, Vi 1), (5, v28 1), (6, Vi 1), (17, Vb false)]⟩, m28 1⟩, ()) := by kernel_rfl
theorem K30_2 (q : P) : runC (evalN tbl 1000) noY 0 1000 fn30_L0 ⟨⟨76, [(0, .p q), (4, Vi 2), (5, .nil 0), (6, Vi 0), (14, Vb false)]⟩, []⟩ () = some (.exit 0, ⟨⟨76, [(0, .p q), (4, Vi 2), (5, v28 2), (6, Vi 2), (17, Vb false)]⟩, m28 2⟩, ()) := by kernel_rfl
theorem K30_3 (q : P) : runC (evalN tbl 1000) noY 0 1000 fn30_L0 ⟨⟨76, [(0, .p q), (4, Vi 3), (5, .nil 0), (6, Vi 0), (14, Vb false)]⟩, []⟩ () = some (.exit 0, ⟨⟨76, [(0, .p q), (4, Vi 3), (5, v28 3), (6, Vi 3), (17, Vb false)]⟩, m28 3⟩, ()) := by kernel_rfl
theorem K30_4 (q : P) : runC (evalN tbl 1000) noY 0 1000 fn30_L0 ⟨⟨76, [(0, .p q), (4, Vi 4), (5, .nil 0), (6, Vi 0), (14, Vb false)]⟩, []⟩ () = some (.exit 0, ⟨⟨76, [(0, .p q), (4, Vi 4), (5, v28 4), (6, Vi 4), (17, Vb false)]⟩, m28 4⟩, ()) := by kernel_rfl
theorem K30_5 (q : P) : runC (evalN tbl 1000) noY 0 1000 fn30_L0 ⟨⟨76, [(0, .p q), (4, Vi 5), (5, .nil 0), (6, Vi 0), (14, Vb false)]⟩, []⟩ () = some (.exit 0, ⟨⟨76, [(0, .p q), (4, Vi 5), (5, v28 5), (6, Vi 5), (17, Vb false)]⟩, m28 5⟩, ()) := by kernel_rfl
theorem K30_6 (q : P) : runC (evalN tbl 1000) noY 0 1000 fn30_L0 ⟨⟨76, [(0, .p q), (4, Vi 6), (5, .nil 0), (6, Vi 0), (14, Vb false)]⟩, []⟩ () = some (.exit 0, ⟨⟨76, [(0, .p q), (4, Vi 6), (5, v28 6), (6, Vi 6), (17, Vb false)]⟩, m28 6⟩, ()) := by kernel_rfl
theorem K30_7 (q : P) : runC (evalN tbl 1000) noY 0 1000 fn30_L0 ⟨⟨76, [(0, .p q), (4, Vi 7), (5, .nil 0), (6, Vi 0), (14, Vb false)]⟩, []⟩ () = some (.exit 0, ⟨⟨76, [(0, .p q), (4, Vi 7), (5, v28 7), (6, Vi 7), (17, Vb false)]⟩, m28 7⟩, ()) := by kernel_rfl
theorem K30_8 (q : P) : runC (evalN tbl 1000) noY 0 1000 fn30_L0 ⟨⟨76, [(0, .p q), (4, Vi 8), (5, .nil 0), (6, Vi 0), (14, Vb false)]⟩, []⟩ () = some (.exit 0, ⟨⟨76, [(0, .p q), (4, Vi 8), (5, v28 8), (6, Vi 8), (17, Vb false)]⟩, m28 8⟩, ()) := by kernel_rfl
theorem K30_9 (q : P) : runC (evalN tbl 1000) noY 0 1000 fn30_L0 ⟨⟨76, [(0, .p q), (4, Vi 9), (5, .nil 0), (6, Vi 0), (14, Vb false)]⟩, []⟩ () = some (.exit 0, ⟨⟨76, [(0, .p q), (4, Vi 9), (5, v28 9), (6, Vi 9), (17, Vb false)]⟩, m28 9⟩, ()) := by kernel_rfl
theorem K30_10 (q : P) : runC (evalN tbl 1000) noY 0 1000 fn30_L0 ⟨⟨76, [(0, .p q), (4, Vi 10), (5, .nil 0), (6, Vi 0), (14, Vb false)]⟩, []⟩ () = some (.exit 0, ⟨⟨76, [(0, .p q), (4, Vi 10), (5, v28 10), (6, Vi 10), (17, Vb false)]⟩, m28 10⟩, ()) := by kernel_rfl
theorem K30_11 (q : P) : runC (evalN tbl 1000) noY 0 1000 fn30_L0 ⟨⟨76, [(0, .p q), (4, Vi 11), (5, .nil 0), (6, Vi 0), (14, Vb false)]⟩, []⟩ () = some (.exit 0, ⟨⟨76, [(0, .p q), (4, Vi 11), (5, v28 11), (6, Vi 11), (17, Vb false)]⟩, m28 11⟩, ()) := by kernel_rfl
theorem K30_12 (q : P) : runC (evalN tbl 1000) noY 0 1000 fn30_L0 ⟨⟨76, [(0, .p q), (4, Vi 12), (5, .nil 0), (6, Vi 0), (14, Vb false)]⟩, []⟩ () = some (.exit 0, ⟨⟨76, [(0, .p q), (4, Vi 12), (5, v28 12), (6, Vi 12), (17, Vb false)]⟩, m28 12⟩, ()) := by kernel_rfl
theorem K30_13 (q : P) : runC (evalN tbl 1000) noY 0 1000 fn30_L0 ⟨⟨76, [(0, .p q), (4, Vi 13), (5, .nil 0), (6, Vi 0), (14, Vb false)]⟩, []⟩ () = some (.exit 0, ⟨⟨76, [(0, .p q), (4, Vi 13), (5, v28 13), (6, Vi 13), (17, Vb false)]⟩, m28 13⟩, ()) := by kernel_rfl
theorem K30_14 (q : P) : runC (evalN tbl 1000) noY 0 1000 fn30_L0 ⟨⟨76, [(0, .p q), (4, Vi 14), (5, .nil 0), (6, Vi 0), (14, Vb false)]⟩, []⟩ () = some (.exit 0, ⟨⟨76, [(0, .p q), (4, Vi 14), (5, v28 14), (6, Vi 14), (17, Vb false)]⟩, m28 14⟩, ()) := by kernel_rfl
theorem K30_15 (q : P) : runC (evalN tbl 1000) noY 0 1000 fn30_L0 ⟨⟨76, [(0, .p q), (4, Vi 15), (5, .nil 0), (6, Vi 0), (14, Vb false)]⟩, []⟩ () = some (.exit 0, ⟨⟨76, [(0, .p q), (4, Vi 15), (5, v28 15), (6, Vi 15), (17, Vb false)]⟩, m28 15⟩, ()) := by kernel_rfl
theorem K30_16 (q : P) : runC (evalN tbl 1000) noY 0 1000 fn30_L0 ⟨⟨76, [(0, .p q), (4, Vi 16), (5, .nil 0), (6, Vi 0), (14, Vb false)]⟩, []⟩ () = some (.exit 0, ⟨⟨76, [(0, .p q), (4, Vi 16), (5, v28 16), (6, Vi 16), (17, Vb false)]⟩, m28 16⟩, ()) := by kernel_rfl
theorem K30_17 (q : P) : runC (evalN tbl 1000) noY 0 1000 fn30_L0 ⟨⟨76, [(0, .p q), (4, Vi 17), (5, .nil 0), (6, Vi 0), (14, Vb false)]⟩, []⟩ () = some (.exit 0, ⟨⟨76, [(0, .p q), (4, Vi 17), (5, v28 17), (6, Vi 17), (17, Vb false)]⟩, m28 17⟩, ()) := by kernel_rfl
theorem K30 (n : Nat) (q : P) (h : n ≤ 17) : U tbl noY 0 fn30_L0 ⟨⟨76, [(0, .p q), (4, Vi n), (5, .nil 0), (6, Vi 0), (14, Vb false)]⟩, []⟩ () = some (.exit 0, ⟨⟨76, [(0, .p q), (4, Vi n), (5, v28 n), (6, Vi n), (17, Vb false)]⟩, m28 n⟩, ()) := by
  rcases n with _ | ⟨_ | ⟨_ | ⟨_ | ⟨_ | ⟨_ | ⟨_ | ⟨_ | ⟨_ | ⟨_ | ⟨_ | ⟨_ | ⟨_ | ⟨_ | ⟨_ | ⟨_ | ⟨_ | ⟨_ | n⟩⟩⟩⟩⟩⟩⟩⟩⟩⟩⟩⟩⟩⟩⟩⟩⟩
  · exact U_of_run tbl (K30_0 q)
  · exact U_of_run tbl (K30_1 q)
  · exact U_of_run tbl (K30_2 q)
  · exact U_of_run tbl (K30_3 q)
  · exact U_of_run tbl (K30_4 q)
  · exact U_of_run tbl (K30_5 q)
  · exact U_of_run tbl (K30_6 q)
  · exact U_of_run tbl (K30_7 q)
  · exact U_of_run tbl (K30_8 q)
  · exact U_of_run tbl (K30_9 q)
  · exact U_of_run tbl (K30_10 q)
  · exact U_of_run tbl (K30_11 q)
  · exact U_of_run tbl (K30_12 q)
  · exact U_of_run tbl (K30_13 q)
  · exact U_of_run tbl (K30_14 q)
  · exact U_of_run tbl (K30_15 q)
  · exact U_of_run tbl (K30_16 q)
  · exact U_of_run tbl (K30_17 q)
  · omega

theorem L30 {o D : List Int} {c : Int} {i : Nat} {sd pl : Int} (ho : o.length ≤ 17) (hD : D.length = o.length) (hc : o[i]? = some c) {σ : Type} (Y : List P → σ → Option (Bool × σ)) (s : σ) : ∀ (r : List Int) (k : Nat) (st : St), D.drop k = r → k ≤ D.length →
    gc 0 (liftAll [] ⟨keepOnly [0, 4, 5, 7, 8, 9, 10] st.fr, st.mem⟩) = some ⟨⟨76, [(0, Vl o), (4, Vi o.length), (5, .ref 0 0 0 o.length), (7, Vi sd), (8, Vi pl), (9, Vi i), (10, Vi k)]⟩, [.cells ((D.map Pi).map V.p)]⟩ →
    U tbl Y 0 fn30_L1 st s = some (.exit 4, ⟨⟨76, [(0, Vl o), (4, Vi o.length), (5, .ref 0 0 0 o.length), (7, Vi sd), (8, Vi pl), (9, Vi i), (10, Vi (k + (r.findIdx? (fun x => decide (c = x))).getD r.length : Nat)), (43, Vb false)]⟩, [.cells ((D.map Pi).map V.p)]⟩, s) := by
  intro r
  induction r with
  | nil =>
    intro k st hd hk hg
    have e : k = o.length := by have := drop_nil_facts hd; omega
    subst e
    rw [fn30_L1, u_loop tbl Y 0 s hg]
    simp only [fn30_B1, fn30_P14, fn30_D14, fn30_P18, fn30_D18, natnlt (Nat.le_refl o.length), List.findIdx?_nil, Option.getD_none, go_sem, Nat.reduceBEq, Nat.reduceEqDiff, Nat.reduceLT, Nat.reduceLeDiff, Nat.reduceAdd, Nat.reduceMul, Nat.reduceSub, Nat.reduceDiv, Int.reduceLT, Int.reduceLE, Int.reduceToNat, Int.reduceNeg, Int.reduceSub, Int.reduceAdd, reduceIte, reduceCtorEq]
  | cons x r ih =>
    intro k st hd hk hg
    obtain ⟨h1, h2, h3⟩ := drop_cons_facts hd
    have hkn : k < o.length := by omega
    have hkt : (k < o.length) = True := by simp [hkn]
    rw [List.findIdx?_cons, fn30_L1, u_loop tbl Y 0 s hg]
    by_cases hpx : c = x
    · subst hpx
      simp only [fn30_B1, fn30_P14, fn30_D14, fn30_P18, fn30_D18, natlt hkn, hkt, h1, hc, bne_self_eq_false, decide_true, if_true, Option.getD_some, go_sem, Nat.reduceBEq, Nat.reduceEqDiff, Nat.reduceLT, Nat.reduceLeDiff, Nat.reduceAdd, Nat.reduceMul, Nat.reduceSub, Nat.reduceDiv, Int.reduceLT, Int.reduceLE, Int.reduceToNat, Int.reduceNeg, Int.reduceSub, Int.reduceAdd, reduceIte, reduceCtorEq]
    · have hb : (x != c) = true := by simp; exact fun e => hpx e.symm
      simp only [fn30_B1, fn30_P14, fn30_D14, fn30_P18, fn30_D18, natlt hkn, hkt, h1, hc, hb, hpx, decide_false, succ64 (show k < 9223372036854775807 by omega), go_sem, Nat.reduceBEq, Nat.reduceEqDiff, Nat.reduceLT, Nat.reduceLeDiff, Nat.reduceAdd, Nat.reduceMul, Nat.reduceSub, Nat.reduceDiv, Int.reduceLT, Int.reduceLE, Int.reduceToNat, Int.reduceNeg, Int.reduceSub, Int.reduceAdd, reduceIte, reduceCtorEq]
      refine (ih (k + 1) _ h3 (by omega) (by simp only [gc, gcIdx, range1, range2, range3, range4, range5, List.filter_cons, List.idxOf?_cons, List.idxOf?_nil, List.getD_cons_zero, List.getD_cons_succ, List.getD_nil, List.contains_cons, List.contains_nil, List.elem_nil, Nat.reduceBEq, Bool.or_false, Bool.or_true, Bool.true_or, Bool.false_or, back, rangeIn, go_sem, Nat.reduceBEq, Nat.reduceEqDiff, Nat.reduceLT, Nat.reduceLeDiff, Nat.reduceAdd, Nat.reduceMul, Nat.reduceSub, Nat.reduceDiv, Int.reduceLT, Int.reduceLE, Int.reduceToNat, Int.reduceNeg, Int.reduceSub, Int.reduceAdd, reduceIte, reduceCtorEq])).trans ?_
      cases r.findIdx? (fun x => decide (c = x)) with
      | none => simp only [Option.map_none, Option.getD_none, List.length_cons]; rw [show k + 1 + r.length = k + (r.length + 1) by omega]
      | some j => simp only [Option.map_some, Option.getD_some]; rw [show k + 1 + j = k + (j + 1) by omega]

/-- The reference's seed: from the first digit on. -/
def acc (n : Nat) : Int → Int → Nat → List Int → Int
  | sd, _, _, [] => sd
  | sd, pl, i, k :: ks => acc n (IntKind.wrap .i64 (sd + IntKind.wrap .i64 (pl * k))) (IntKind.wrap .i64 (pl * ((n : Int) - i))) (i + 1) ks

theorem M30 {o : List Int} (ho : o.length ≤ 17) {σ : Type} (Y : List P → σ → Option (Bool × σ)) (s : σ) : ∀ (r : List Int) (i : Nat) (D : List Int) (sd pl : Int) (st : St), o.drop i = r → i ≤ o.length → D.length = o.length →
    gc 0 (liftAll [] ⟨keepOnly [0, 4, 5, 7, 8, 9] st.fr, st.mem⟩) = some ⟨⟨76, [(0, Vl o), (4, Vi o.length), (5, .ref 0 0 0 o.length), (7, Vi sd), (8, Vi pl), (9, Vi i)]⟩, [.cells ((D.map Pi).map V.p)]⟩ →
    match rk o.length D i r with
    | none => ∃ fr m, U tbl Y 0 fn30_L2 st s = some (.ret, ⟨fr, m⟩, s) ∧ getF fr.l 2 = Vi 0 ∧ getF fr.l 3 = Vi 3
    | some ks => ∃ x m, U tbl Y 0 fn30_L2 st s = some (.exit 2, ⟨⟨76, [(0, Vl o), (4, Vi o.length), (5, .ref 0 0 0 o.length), (7, Vi (acc o.length sd pl i ks)), (8, Vi x), (9, Vi o.length), (26, Vb false)]⟩, m⟩, s) := by
  intro r
  induction r with
  | nil =>
    intro i D sd pl st hd hi hD hg
    have e : i = o.length := by have := drop_nil_facts hd; omega
    subst e
    rw [fn30_L2, u_loop tbl Y 0 s hg]
    simp only [rk]
    simp only [fn30_B2, fn30_P14, fn30_D14, fn30_P18, fn30_D18, natnlt (Nat.le_refl o.length), acc, go_sem, Nat.reduceBEq, Nat.reduceEqDiff, Nat.reduceLT, Nat.reduceLeDiff, Nat.reduceAdd, Nat.reduceMul, Nat.reduceSub, Nat.reduceDiv, Int.reduceLT, Int.reduceLE, Int.reduceToNat, Int.reduceNeg, Int.reduceSub, Int.reduceAdd, reduceIte, reduceCtorEq]
    exact ⟨_, _, rfl⟩
  | cons c r ih =>
    intro i D sd pl st hd hi hD hg
    obtain ⟨h1, h2, h3⟩ := drop_cons_facts hd
    have ht : (D.drop i).take (o.length - i) = D.drop i := List.take_of_length_le (by simp; omega)
    have hL := L30 (sd := sd) (pl := pl) (c := c) (i := i) ho hD h1 Y s (D.drop i) i ⟨⟨76, [(0, Vl o), (4, Vi o.length), (5, .ref 0 0 0 o.length), (7, Vi sd), (8, Vi pl), (9, Vi i), (10, Vi i), (26, Vb true)]⟩, [.cells ((D.map Pi).map V.p)]⟩ rfl (by omega) (by simp only [gc, gcIdx, range1, range2, range3, range4, range5, List.filter_cons, List.idxOf?_cons, List.idxOf?_nil, List.getD_cons_zero, List.getD_cons_succ, List.getD_nil, List.contains_cons, List.contains_nil, List.elem_nil, Nat.reduceBEq, Bool.or_false, Bool.or_true, Bool.true_or, Bool.false_or, back, rangeIn, go_sem, Nat.reduceBEq, Nat.reduceEqDiff, Nat.reduceLT, Nat.reduceLeDiff, Nat.reduceAdd, Nat.reduceMul, Nat.reduceSub, Nat.reduceDiv, Int.reduceLT, Int.reduceLE, Int.reduceToNat, Int.reduceNeg, Int.reduceSub, Int.reduceAdd, reduceIte, reduceCtorEq])
    rw [fn30_L2, u_loop tbl Y 0 s hg]
    simp only [rk, ht]
    unfold place
    cases hf : (D.drop i).findIdx? (fun x => decide (c = x)) with
    | none =>
      rw [hf] at hL
      have e : i + (D.drop i).length = o.length := by simp; omega
      simp only [Option.getD_none, e] at hL
      simp only [Int.reduceNeg, Int.reduceLT, if_true]
      simp only [fn30_B2, fn30_P14, fn30_D14, fn30_P18, fn30_D18, natlt h2, hL, go_sem, Nat.reduceBEq, Nat.reduceEqDiff, Nat.reduceLT, Nat.reduceLeDiff, Nat.reduceAdd, Nat.reduceMul, Nat.reduceSub, Nat.reduceDiv, Int.reduceLT, Int.reduceLE, Int.reduceToNat, Int.reduceNeg, Int.reduceSub, Int.reduceAdd, reduceIte, reduceCtorEq]
      exact ⟨_, _, rfl, by simp only [go_sem, Nat.reduceBEq, Nat.reduceEqDiff, Nat.reduceLT, Nat.reduceLeDiff, Nat.reduceAdd, Nat.reduceMul, Nat.reduceSub, Nat.reduceDiv, Int.reduceLT, Int.reduceLE, Int.reduceToNat, Int.reduceNeg, Int.reduceSub, Int.reduceAdd, reduceIte, reduceCtorEq], by simp only [go_sem, Nat.reduceBEq, Nat.reduceEqDiff, Nat.reduceLT, Nat.reduceLeDiff, Nat.reduceAdd, Nat.reduceMul, Nat.reduceSub, Nat.reduceDiv, Int.reduceLT, Int.reduceLE, Int.reduceToNat, Int.reduceNeg, Int.reduceSub, Int.reduceAdd, reduceIte, reduceCtorEq]⟩
    | some dn =>
      rw [hf] at hL
      simp only [Option.getD_some] at hL
      rw [List.findIdx?_eq_some_iff_getElem] at hf
      have hlt := hf.1
      have hj : i + dn < o.length := by simp at hlt; omega
      have hne : (((i + dn : Nat) : Int) == (o.length : Int)) = false := by simp; omega
      have hnn : ¬ (dn : Int) < 0 := by omega
      have hw : IntKind.wrap .i64 (((i + dn : Nat) : Int) - (i : Int)) = (dn : Int) := by rw [wrap64 (by omega) (by omega)]; omega
      have hw2 : IntKind.wrap .i64 ((o.length : Int) - (i : Int)) = (o.length : Int) - i := by rw [wrap64 (by omega) (by omega)]
      have g1 : D[i]? = some (D.getD i 0) := by rw [List.getD_eq_getElem?_getD, List.getElem?_eq_getElem (by omega)]; rfl
      have g2 : D[i + dn]? = some (D.getD (i + dn) 0) := by rw [List.getD_eq_getElem?_getD, List.getElem?_eq_getElem (by omega)]; rfl
      have c1 : (i < o.length) = True := by simp; omega
      have c2 : (i + dn < o.length) = True := by simp; omega
      have c3 : (i + 1 ≤ o.length) = True := by simp; omega
      have c4 : (i + dn + 1 ≤ o.length) = True := by simp; omega
      simp only [hnn, if_false, Int.toNat_natCast]
      have hst : ∃ st1, loopC tbl Y 0 [0, 4, 5, 7, 8, 9] [] fn30_B2 (U tbl Y 0 fn30_B2 ⟨⟨76, [(0, Vl o), (4, Vi o.length), (5, .ref 0 0 0 o.length), (7, Vi sd), (8, Vi pl), (9, Vi i)]⟩, [.cells ((D.map Pi).map V.p)]⟩ s) = U tbl Y 0 fn30_L2 st1 s ∧
          gc 0 (liftAll [] ⟨keepOnly [0, 4, 5, 7, 8, 9] st1.fr, st1.mem⟩) = some ⟨⟨76, [(0, Vl o), (4, Vi o.length), (5, .ref 0 0 0 o.length), (7, Vi (IntKind.wrap .i64 (sd + IntKind.wrap .i64 (pl * dn)))), (8, Vi (IntKind.wrap .i64 (pl * ((o.length : Int) - i)))), (9, Vi (i + 1 : Nat))]⟩, [.cells (((swp D i (i + dn)).map Pi).map V.p)]⟩ := by
        simp only [fn30_B2, fn30_P14, fn30_D14, fn30_P18, fn30_D18, fn30_L2, natlt h2, hL, hne, hw, hw2, hD, g1, g2, c1, c2, c3, c4, setRange_p, List.length_set, succ64 (show i < 9223372036854775807 by omega), gc, gcIdx, range1, range2, range3, range4, range5, List.filter_cons, List.idxOf?_cons, List.idxOf?_nil, List.getD_cons_zero, List.getD_cons_succ, List.getD_nil, List.contains_cons, List.contains_nil, List.elem_nil, Nat.reduceBEq, Bool.or_false, Bool.or_true, Bool.true_or, Bool.false_or, back, rangeIn, go_sem, Nat.reduceBEq, Nat.reduceEqDiff, Nat.reduceLT, Nat.reduceLeDiff, Nat.reduceAdd, Nat.reduceMul, Nat.reduceSub, Nat.reduceDiv, Int.reduceLT, Int.reduceLE, Int.reduceToNat, Int.reduceNeg, Int.reduceSub, Int.reduceAdd, reduceIte, reduceCtorEq]
        refine ⟨_, rfl, ?_⟩
        simp only [gc, gcIdx, range1, range2, range3, range4, range5, List.filter_cons, List.idxOf?_cons, List.idxOf?_nil, List.getD_cons_zero, List.getD_cons_succ, List.getD_nil, List.contains_cons, List.contains_nil, List.elem_nil, Nat.reduceBEq, Bool.or_false, Bool.or_true, Bool.true_or, Bool.false_or, back, rangeIn, go_sem, Nat.reduceBEq, Nat.reduceEqDiff, Nat.reduceLT, Nat.reduceLeDiff, Nat.reduceAdd, Nat.reduceMul, Nat.reduceSub, Nat.reduceDiv, Int.reduceLT, Int.reduceLE, Int.reduceToNat, Int.reduceNeg, Int.reduceSub, Int.reduceAdd, reduceIte, reduceCtorEq]
        simp only [swp, List.map_set]
      obtain ⟨st1, e1, e2⟩ := hst
      rw [e1]
      have := ih (i + 1) (swp D i (i + dn)) _ _ st1 h3 (by omega) (by rw [swp_length]; exact hD) e2
      cases hr : rk o.length (swp D i (i + dn)) (i + 1) r with
      | none => rw [hr] at this; exact this
      | some ks =>
        rw [hr] at this
        exact this

def rankRef (o : List Int) : List P := if (17 : Int) < o.length then [Pi 0, Pi 4] else match rk o.length (ints o.length) 0 o with | none => [Pi 0, Pi 3] | some ks => [Pi (acc o.length 0 1 0 ks), Pi 0]

theorem s30 (o : List Int) : (EL tbl).call 30 [Vl o] [] = some (.p (.tuple (rankRef o)), []) := by
  rw [call_fn' tbl (show tbl 30 = some fn30 from rfl) _ _ (Nat.le_of_ble_eq_true rfl)]
  unfold rankRef
  by_cases h1 : (17 : Int) < o.length
  · rw [if_pos h1]
    simp only [fn30, fn30_P14, fn30_D14, fn30_P18, fn30_D18, h1, gc, gcIdx, range1, range2, range3, range4, range5, List.filter_cons, List.idxOf?_cons, List.idxOf?_nil, List.getD_cons_zero, List.getD_cons_succ, List.getD_nil, List.contains_cons, List.contains_nil, List.elem_nil, Nat.reduceBEq, Bool.or_false, Bool.or_true, Bool.true_or, Bool.false_or, back, rangeIn, go_sem, Nat.reduceBEq, Nat.reduceEqDiff, Nat.reduceLT, Nat.reduceLeDiff, Nat.reduceAdd, Nat.reduceMul, Nat.reduceSub, Nat.reduceDiv, Int.reduceLT, Int.reduceLE, Int.reduceToNat, Int.reduceNeg, Int.reduceSub, Int.reduceAdd, reduceIte, reduceCtorEq]
  · rw [if_neg h1]
    have ho : o.length ≤ 17 := by omega
    have hK := K30 o.length (.sl 0 (o.map Pi)) ho
    by_cases h0 : o = []
    · subst h0
      have hv : v28 0 = .nil 0 := rfl
      have hm : m28 0 = [] := rfl
      simp only [List.length_nil, hv, hm] at hK
      have hM : U tbl noY 0 fn30_L2 ⟨⟨76, [(0, .p (.sl 0 [])), (4, Vi 0), (5, .nil 0), (6, Vi 0), (7, Vi 0), (8, Vi 1), (9, Vi 0), (17, Vb false)]⟩, []⟩ () = some (.exit 2, ⟨⟨76, [(0, .p (.sl 0 [])), (4, Vi 0), (5, .nil 0), (7, Vi 0), (8, Vi 1), (9, Vi 0), (26, Vb false)]⟩, []⟩, ()) := by
        rw [fn30_L2, u_loop tbl noY 0 () (st1 := ⟨⟨76, [(0, .p (.sl 0 [])), (4, Vi 0), (5, .nil 0), (7, Vi 0), (8, Vi 1), (9, Vi 0)]⟩, []⟩) (by simp only [gc, gcIdx, range1, range2, range3, range4, range5, List.filter_cons, List.idxOf?_cons, List.idxOf?_nil, List.getD_cons_zero, List.getD_cons_succ, List.getD_nil, List.contains_cons, List.contains_nil, List.elem_nil, Nat.reduceBEq, Bool.or_false, Bool.or_true, Bool.true_or, Bool.false_or, back, rangeIn, go_sem, Nat.reduceBEq, Nat.reduceEqDiff, Nat.reduceLT, Nat.reduceLeDiff, Nat.reduceAdd, Nat.reduceMul, Nat.reduceSub, Nat.reduceDiv, Int.reduceLT, Int.reduceLE, Int.reduceToNat, Int.reduceNeg, Int.reduceSub, Int.reduceAdd, reduceIte, reduceCtorEq])]
        simp only [fn30_B2, fn30_P14, fn30_D14, fn30_P18, fn30_D18, Int.reduceLT, go_sem, Nat.reduceBEq, Nat.reduceEqDiff, Nat.reduceLT, Nat.reduceLeDiff, Nat.reduceAdd, Nat.reduceMul, Nat.reduceSub, Nat.reduceDiv, Int.reduceLT, Int.reduceLE, Int.reduceToNat, Int.reduceNeg, Int.reduceSub, Int.reduceAdd, reduceIte, reduceCtorEq]
      simp only [Int.natCast_zero] at hK
      simp only [rk, acc]
      simp only [fn30, fn30_P14, fn30_D14, fn30_P18, fn30_D18, hK, hM, Int.natCast_zero, Int.reduceLT, gc, gcIdx, range1, range2, range3, range4, range5, List.filter_cons, List.idxOf?_cons, List.idxOf?_nil, List.getD_cons_zero, List.getD_cons_succ, List.getD_nil, List.contains_cons, List.contains_nil, List.elem_nil, Nat.reduceBEq, Bool.or_false, Bool.or_true, Bool.true_or, Bool.false_or, back, rangeIn, go_sem, Nat.reduceBEq, Nat.reduceEqDiff, Nat.reduceLT, Nat.reduceLeDiff, Nat.reduceAdd, Nat.reduceMul, Nat.reduceSub, Nat.reduceDiv, Int.reduceLT, Int.reduceLE, Int.reduceToNat, Int.reduceNeg, Int.reduceSub, Int.reduceAdd, reduceIte, reduceCtorEq]
    · have hn : ¬ o.length = 0 := by simp [h0]
      have hv : v28 o.length = .ref 0 0 0 o.length := by simp [v28, hn]
      have hm : m28 o.length = [.cells (((ints o.length).map Pi).map V.p)] := by simp [m28, hn]
      rw [hv, hm] at hK
      have hM := M30 ho noY () o 0 (ints o.length) 0 1 ⟨⟨76, [(0, Vl o), (4, Vi o.length), (5, .ref 0 0 0 o.length), (6, Vi o.length), (7, Vi 0), (8, Vi 1), (9, Vi (0 : Nat)), (17, Vb false)]⟩, [.cells (((ints o.length).map Pi).map V.p)]⟩ (by simp) (by omega) (by simp [ints]) (by simp only [gc, gcIdx, range1, range2, range3, range4, range5, List.filter_cons, List.idxOf?_cons, List.idxOf?_nil, List.getD_cons_zero, List.getD_cons_succ, List.getD_nil, List.contains_cons, List.contains_nil, List.elem_nil, Nat.reduceBEq, Bool.or_false, Bool.or_true, Bool.true_or, Bool.false_or, back, rangeIn, go_sem, Nat.reduceBEq, Nat.reduceEqDiff, Nat.reduceLT, Nat.reduceLeDiff, Nat.reduceAdd, Nat.reduceMul, Nat.reduceSub, Nat.reduceDiv, Int.reduceLT, Int.reduceLE, Int.reduceToNat, Int.reduceNeg, Int.reduceSub, Int.reduceAdd, reduceIte, reduceCtorEq])
      cases hr : rk o.length (ints o.length) 0 o with
      | none =>
        rw [hr] at hM
        obtain ⟨fr, m, e1, e2, e3⟩ := hM
        simp only [Int.natCast_zero] at e1
        simp only [fn30, fn30_P14, fn30_D14, fn30_P18, fn30_D18, h1, hK, e1, e2, e3, gc, gcIdx, range1, range2, range3, range4, range5, List.filter_cons, List.idxOf?_cons, List.idxOf?_nil, List.getD_cons_zero, List.getD_cons_succ, List.getD_nil, List.contains_cons, List.contains_nil, List.elem_nil, Nat.reduceBEq, Bool.or_false, Bool.or_true, Bool.true_or, Bool.false_or, back, rangeIn, go_sem, Nat.reduceBEq, Nat.reduceEqDiff, Nat.reduceLT, Nat.reduceLeDiff, Nat.reduceAdd, Nat.reduceMul, Nat.reduceSub, Nat.reduceDiv, Int.reduceLT, Int.reduceLE, Int.reduceToNat, Int.reduceNeg, Int.reduceSub, Int.reduceAdd, reduceIte, reduceCtorEq]
      | some ks =>
        rw [hr] at hM
        obtain ⟨x, m, e1⟩ := hM
        simp only [Int.natCast_zero] at e1
        simp only [fn30, fn30_P14, fn30_D14, fn30_P18, fn30_D18, h1, hK, e1, gc, gcIdx, range1, range2, range3, range4, range5, List.filter_cons, List.idxOf?_cons, List.idxOf?_nil, List.getD_cons_zero, List.getD_cons_succ, List.getD_nil, List.contains_cons, List.contains_nil, List.elem_nil, Nat.reduceBEq, Bool.or_false, Bool.or_true, Bool.true_or, Bool.false_or, back, rangeIn, go_sem, Nat.reduceBEq, Nat.reduceEqDiff, Nat.reduceLT, Nat.reduceLeDiff, Nat.reduceAdd, Nat.reduceMul, Nat.reduceSub, Nat.reduceDiv, Int.reduceLT, Int.reduceLE, Int.reduceToNat, Int.reduceNeg, Int.reduceSub, Int.reduceAdd, reduceIte, reduceCtorEq]
end Go.Am
