/- What some functions of this seat answer. No condition. -/
import Derived.Test.YtbepkgilphbhaaaS33j
namespace Go.Am
open Go
set_option linter.unusedSimpArgs false
set_option linter.unusedVariables false
set_option maxRecDepth 100000
open Go.Proofs.Ytbepkgilphbhaaa.Fns

section
variable {R : List Int} {S : List Bool} {a s : Int} {ds : List Int}

theorem L6_1 (hR : R.length ≤ 4) (hsm : pr R ≤ 1296) (h1R : ∀ r ∈ R, 1 ≤ r ∧ r ≤ 6) (hds : ds.length = R.length) {σ : Type} (Y : List P → σ → Option (Bool × σ)) (z : σ) : ∀ (ks rs : List Int) (i : Nat) (at_ : Int) (st : St), i ≤ ds.length → ds.drop i = ks → R.drop i = rs → vd ks rs → 0 ≤ at_ → at_ * pr rs + bg 0 ks rs ≤ 100000 →
    gc 0 (liftAll [] ⟨keepOnly [4, 5, 7, 8, 9, 10, 12, 13] st.fr, st.mem⟩) = some ⟨⟨123, [(4, .sl 0 0 (R.map Pi)), (5, Vi a), (7, .ref 0 1 0 S.length), (8, Vi s), (9, Vl ds), (10, Vi 0), (12, Vi at_), (13, Vi i)]⟩, [.tok 0 R.length, .cells ((S.map Pb).map V.p)]⟩ →
    U tbl Y 0 fn6_L1 st z = some (.exit 4, ⟨⟨123, [(4, .sl 0 0 (R.map Pi)), (5, Vi a), (7, .ref 0 1 0 S.length), (8, Vi s), (9, Vl ds), (10, Vi 0), (12, Vi (bg at_ ks rs)), (13, Vi ds.length), (69, Vb false)]⟩, [.tok 0 R.length, .cells ((S.map Pb).map V.p)]⟩, z)
  | [], [], i, at_, st, hi, hd, hdr, hv, h0, hb, hg => by
    have hle := drop_nil_facts hd
    have e : i = ds.length := by omega
    subst e
    rw [fn6_L1, u_loop tbl Y 0 z hg]
    simp only [fn6_B1, fn6_P20, fn6_D20, fn6_P22, fn6_D22, natnlt (Nat.le_refl ds.length), bg, go_sem, Nat.reduceBEq, Nat.reduceEqDiff, Nat.reduceLT, Nat.reduceLeDiff, Nat.reduceAdd, Nat.reduceMul, Nat.reduceSub, Nat.reduceDiv, Int.reduceLT, Int.reduceLE, Int.reduceToNat, Int.reduceNeg, Int.reduceSub, Int.reduceAdd, reduceIte, reduceCtorEq]
  | k :: ks, r :: rs, i, at_, st, hi, hd, hdr, hv, h0, hb, hg => by
    obtain ⟨g1, g2, g3⟩ := drop_cons_facts hd
    obtain ⟨q1, q2, q3⟩ := drop_cons_facts hdr
    obtain ⟨x0, x1⟩ := hv.1
    have n0 : ¬ k < 0 := by omega
    have n1 : ¬ r ≤ k := by omega
    have hbd := bg_bound ks rs hv.2
    have hr1 := h1R r (List.mem_of_getElem? q1)
    have e1 : bg at_ (k :: ks) (r :: rs) = bg (at_ * r + k) ks rs := rfl
    have e2 : bg 0 (k :: ks) (r :: rs) = k * pr rs + bg 0 ks rs := by
      rw [show bg 0 (k :: ks) (r :: rs) = bg (0 * r + k) ks rs from rfl, bg_lin ks rs _ hv.2]; simp
    have hb' : (at_ * r + k) * pr rs + bg 0 ks rs ≤ 100000 := by
      rw [e2] at hb
      rw [Int.add_mul, Int.mul_assoc]
      simp only [pr] at hb
      omega
    have a0 : 0 ≤ at_ * r := Int.mul_nonneg h0 (by omega)
    have a1 : (at_ * r + k) * 1 ≤ (at_ * r + k) * pr rs := Int.mul_le_mul_of_nonneg_left (by omega) (by omega)
    have hw1 : IntKind.wrap .i64 (at_ * r) = at_ * r := wrap64 (by omega) (by omega)
    have hw2 : IntKind.wrap .i64 (at_ * r + k) = at_ * r + k := wrap64 (by omega) (by omega)
    rw [fn6_L1, u_loop tbl Y 0 z hg]
    simp only [fn6_B1, fn6_P20, fn6_D20, fn6_P22, fn6_D22, natlt g2, g1, q1, n0, n1, hw1, hw2, e1, succ64 (show i < 9223372036854775807 by omega), gc, gcIdx, range1, range2, range3, range4, range5, List.filter_cons, List.idxOf?_cons, List.idxOf?_nil, List.getD_cons_zero, List.getD_cons_succ, List.getD_nil, List.contains_cons, List.contains_nil, List.elem_nil, Nat.reduceBEq, Bool.or_false, Bool.or_true, Bool.true_or, Bool.false_or, back, rangeIn, go_sem, Nat.reduceBEq, Nat.reduceEqDiff, Nat.reduceLT, Nat.reduceLeDiff, Nat.reduceAdd, Nat.reduceMul, Nat.reduceSub, Nat.reduceDiv, Int.reduceLT, Int.reduceLE, Int.reduceToNat, Int.reduceNeg, Int.reduceSub, Int.reduceAdd, reduceIte, reduceCtorEq]
    exact L6_1 hR hsm h1R hds Y z ks rs (i + 1) (at_ * r + k) _ (by omega) g3 q3 hv.2 (by omega) hb' (by simp only [gc, gcIdx, range1, range2, range3, range4, range5, List.filter_cons, List.idxOf?_cons, List.idxOf?_nil, List.getD_cons_zero, List.getD_cons_succ, List.getD_nil, List.contains_cons, List.contains_nil, List.elem_nil, Nat.reduceBEq, Bool.or_false, Bool.or_true, Bool.true_or, Bool.false_or, back, rangeIn, go_sem, Nat.reduceBEq, Nat.reduceEqDiff, Nat.reduceLT, Nat.reduceLeDiff, Nat.reduceAdd, Nat.reduceMul, Nat.reduceSub, Nat.reduceDiv, Int.reduceLT, Int.reduceLE, Int.reduceToNat, Int.reduceNeg, Int.reduceSub, Int.reduceAdd, reduceIte, reduceCtorEq])
  | [], _ :: _, _, _, _, _, _, _, h, _, _, _ => h.elim
  | _ :: _, [], _, _, _, _, _, _, h, _, _, _ => h.elim
end

theorem bad_vd : ∀ {ks rs : List Int}, vd ks rs → bad ks rs = false
  | [], [], _ => rfl
  | k :: ks, r :: rs, h => by
    have h1 : ¬ k < 0 := by have := h.1; omega
    have h2 : ¬ r ≤ k := by have := h.1; omega
    simp [bad, h1, h2, bad_vd h.2]
  | [], _ :: _, h => h.elim
  | _ :: _, [], h => h.elim

theorem rep_b : ∀ n, rep [V.p (P.v (Value.bool false))] n = ((List.replicate n false).map Pb).map V.p
  | 0 => rfl
  | n + 1 => by rw [rep, rep_b n, List.replicate_succ]; rfl

section
variable {R : List Int} {a : Nat}
def cod (R : List Int) (s : Nat) : Nat := (bg 0 (digs s R) R).toNat

def fin (R : List Int) : Nat → Nat → List Bool → List Bool
  | 0, _, S => S
  | j + 1, s, S => fin R j (s + 1) (S.set (cod R s) true)

theorem cod_inj (h1R : ∀ r ∈ R, 1 ≤ r) (ha : pr R = a) {s t : Nat} (hs : s < a) (ht : t < a) (h : cod R s = cod R t) : s = t := by
  have b1 := bg_bound _ _ (digs_vd R s (by omega) h1R)
  have b2 := bg_bound _ _ (digs_vd R t (by omega) h1R)
  unfold cod at h
  have := digs_inj h1R (a := s) (b := t) (by omega) (by omega) (by omega) (by omega) (by omega)
  omega

theorem fx6 (hR : R.length ≤ 4) (h1R : ∀ r ∈ R, 1 ≤ r ∧ r ≤ 6) (ha : pr R = a) (hsm : a ≤ 1296) {s : Nat} (hsa : s < a) :
    ∃ c : Nat, cod R s = c ∧ c < a ∧ bg 0 (digs s R) R = c ∧ vd (digs s R) R ∧ (digs s R).length = R.length ∧
      (EL tbl).call 21 [Vi s, Vl R] [] = some (.p (.tuple [Pl (digs s R), Pi 0, Pi 0]), []) ∧
      (EL tbl).call 24 [Vl (digs s R), Vl R, Vi 0] [] = some (.p (.tuple [Pi s, Pi 0]), []) := by
  have h1R' : ∀ r ∈ R, 1 ≤ r := fun r hr => (h1R r hr).1
  have hchk : chk R = 0 := by
    unfold chk
    rw [if_neg (by omega), if_neg]
    intro h
    obtain ⟨x, hx, hy⟩ := List.any_eq_true.1 h
    have := h1R x hx
    simp at hy
    omega
  have hvd := digs_vd R s (by omega) h1R'
  have hlen : (digs s R).length = R.length := vd_length _ _ hvd
  have hleft := left_zero (l := R) (q := s) (by omega) h1R' (by omega)
  have hval := val_digs R s (by omega) h1R'
  rw [hleft, Int.mul_zero, Int.add_zero] at hval
  have hbg := bg_bound _ _ hvd
  have e21 := s21 s R (chk R) (by omega) (s43 R (by omega)) (fun h => chk_ok h)
  rw [hchk, if_pos rfl, if_neg (by omega), if_neg (by omega), hleft] at e21
  have e24 := s24 (digs s R) R 0 (chk R) (by omega) (by omega) (s43 R (by omega)) (fun h => chk_ok h)
  rw [hchk] at e24
  have hjo : joinOf 0 (digs s R) R 0 = [Pi s, Pi 0] := by
    have e0 : jn (digs s R) R (digs s R).length 0 = (val (digs s R) R, 0) := by
      have := jn_val hvd (by omega) (digs s R).length (by omega)
      rw [List.drop_length] at this
      exact this
    unfold joinOf
    rw [if_pos rfl, if_pos (by omega), bad_vd hvd, if_neg (by simp), if_neg (by omega), if_neg (by omega), e0, hval]
  rw [hjo] at e24
  obtain ⟨c, hc⟩ := Int.eq_ofNat_of_zero_le hbg.1
  exact ⟨c, by unfold cod; rw [hc]; rfl, by omega, hc, hvd, hlen, e21, e24⟩

theorem set6 (h1R : ∀ r ∈ R, 1 ≤ r ∧ r ≤ 6) (ha : pr R = a) {s c : Nat} (hsa : s < a) (hcod : cod R s = c) {S : List Bool} (hf : ∀ t, s ≤ t → t < a → S[cod R t]? = some false) : ∀ t, s + 1 ≤ t → t < a → (S.set c true)[cod R t]? = some false := fun t ht hta => by
  have hne : cod R t ≠ c := fun h => by
    have := cod_inj (fun r hr => (h1R r hr).1) ha (s := t) (t := s) hta hsa (h.trans hcod.symm)
    omega
  rw [List.getElem?_set_ne (by omega)]
  exact hf t (by omega) hta

theorem L6_2 (hR : R.length ≤ 4) (h1R : ∀ r ∈ R, 1 ≤ r ∧ r ≤ 6) (ha : pr R = a) (hsm : a ≤ 1296) {σ : Type} (Y : List P → σ → Option (Bool × σ)) (z : σ) : ∀ (j s : Nat) (S : List Bool) (st : St), s + j = a → S.length = a → (∀ t, s ≤ t → t < a → S[cod R t]? = some false) →
    gc 0 (liftAll [] ⟨keepOnly [4, 5, 7, 8] st.fr, st.mem⟩) = some ⟨⟨123, [(4, .sl 0 0 (R.map Pi)), (5, Vi a), (7, .ref 0 1 0 a), (8, Vi s)]⟩, [.tok 0 R.length, .cells ((S.map Pb).map V.p)]⟩ →
    U tbl Y 0 fn6_L2 st z = some (.exit 2, ⟨⟨123, [(4, .sl 0 0 (R.map Pi)), (5, Vi a), (7, .ref 0 1 0 a), (8, Vi a), (43, Vb false)]⟩, [.tok 0 R.length, .cells (((fin R j s S).map Pb).map V.p)]⟩, z) := by
  intro j
  induction j with
  | zero =>
    intro s S st hs hS hf hg
    have e : s = a := by omega
    subst e
    rw [fn6_L2, u_loop tbl Y 0 z hg]
    simp only [fn6_B2, fn6_P20, fn6_D20, fn6_P22, fn6_D22, natnlt (Nat.le_refl s), go_sem, Nat.reduceBEq, Nat.reduceEqDiff, Nat.reduceLT, Nat.reduceLeDiff, Nat.reduceAdd, Nat.reduceMul, Nat.reduceSub, Nat.reduceDiv, Int.reduceLT, Int.reduceLE, Int.reduceToNat, Int.reduceNeg, Int.reduceSub, Int.reduceAdd, reduceIte, reduceCtorEq]
    rfl
  | succ j ih =>
    intro s S st hs hS hf hg
    have hsa : s < a := by omega
    obtain ⟨c, hcod, hca, hc, hvd, hlen, e21, e24⟩ := fx6 hR h1R ha hsm hsa
    have hL := L6_1 (R := R) (S := S) (a := a) (s := s) (ds := digs s R) hR (by omega) h1R hlen Y z (digs s R) R 0 0 ⟨⟨123, [(4, .sl 0 0 (R.map Pi)), (5, Vi a), (7, .ref 0 1 0 S.length), (8, Vi s), (9, Vl (digs s R)), (10, Vi 0), (12, Vi 0), (13, Vi (0 : Nat)), (43, Vb true), (65, Vb false)]⟩, [.tok 0 R.length, .cells ((S.map Pb).map V.p)]⟩ (by omega) (by simp) (by simp) hvd (by omega) (by rw [Int.zero_mul]; omega) (by simp only [gc, gcIdx, range1, range2, range3, range4, range5, List.filter_cons, List.idxOf?_cons, List.idxOf?_nil, List.getD_cons_zero, List.getD_cons_succ, List.getD_nil, List.contains_cons, List.contains_nil, List.elem_nil, Nat.reduceBEq, Bool.or_false, Bool.or_true, Bool.true_or, Bool.false_or, back, rangeIn, go_sem, Nat.reduceBEq, Nat.reduceEqDiff, Nat.reduceLT, Nat.reduceLeDiff, Nat.reduceAdd, Nat.reduceMul, Nat.reduceSub, Nat.reduceDiv, Int.reduceLT, Int.reduceLE, Int.reduceToNat, Int.reduceNeg, Int.reduceSub, Int.reduceAdd, reduceIte, reduceCtorEq])
    have hget : S[c]? = some false := hcod ▸ hf s (by omega) hsa
    rw [hc, hS] at hL
    have hset : (S.map Pb).set c (Pb true) = (S.set c true).map Pb := by rw [List.map_set]
    simp only [Int.natCast_zero] at hL
    have hlt : (c + 1 ≤ a) = True := by simp; omega
    have hlt2 : (c < a) = True := by simp; omega
    have hf' := set6 h1R ha hsa hcod hf
    rw [show fin R (j + 1) s S = fin R j (s + 1) (S.set c true) by rw [fin, hcod]]
    rw [fn6_L2, u_loop tbl Y 0 z hg]
    simp only [fn6_B2, fn6_P20, fn6_D20, fn6_P22, fn6_D22, natlt hsa, e21, hL, e24, hlen, hget, hlt, hlt2, hS, succ64 (show s < 9223372036854775807 by omega), gc, gcIdx, range1, range2, range3, range4, range5, List.filter_cons, List.idxOf?_cons, List.idxOf?_nil, List.getD_cons_zero, List.getD_cons_succ, List.getD_nil, List.contains_cons, List.contains_nil, List.elem_nil, Nat.reduceBEq, Bool.or_false, Bool.or_true, Bool.true_or, Bool.false_or, back, rangeIn, go_sem, Nat.reduceBEq, Nat.reduceEqDiff, Nat.reduceLT, Nat.reduceLeDiff, Nat.reduceAdd, Nat.reduceMul, Nat.reduceSub, Nat.reduceDiv, Int.reduceLT, Int.reduceLE, Int.reduceToNat, Int.reduceNeg, Int.reduceSub, Int.reduceAdd, reduceIte, reduceCtorEq]
    exact ih (s + 1) (S.set c true) _ (by omega) (by simp [hS]) hf' (by simp only [hset, gc, gcIdx, range1, range2, range3, range4, range5, List.filter_cons, List.idxOf?_cons, List.idxOf?_nil, List.getD_cons_zero, List.getD_cons_succ, List.getD_nil, List.contains_cons, List.contains_nil, List.elem_nil, Nat.reduceBEq, Bool.or_false, Bool.or_true, Bool.true_or, Bool.false_or, back, rangeIn, go_sem, Nat.reduceBEq, Nat.reduceEqDiff, Nat.reduceLT, Nat.reduceLeDiff, Nat.reduceAdd, Nat.reduceMul, Nat.reduceSub, Nat.reduceDiv, Int.reduceLT, Int.reduceLE, Int.reduceToNat, Int.reduceNeg, Int.reduceSub, Int.reduceAdd, reduceIte, reduceCtorEq])

end

set_option maxHeartbeats 4000000 in
theorem s6 (L : List Int) (hL : L.length ≤ 9223372036854775807) : (EL tbl).call 6 [Vl L] [] = some (Vb true, []) := by
  have aw : (EL tbl).call 11 [] [] = some (Vb true, []) := awake33
  have hb := nxv_b L 0 (show (0 : Int) < 4 by decide)
  obtain ⟨m, hm⟩ := Int.eq_ofNat_of_zero_le (show 0 ≤ 1 + nxv L 0 4 by omega)
  have hm4 : m ≤ 4 := by omega
  have e26 := s26 L 0 4 hL (by omega) (by decide) (by decide)
  have hw : IntKind.wrap .i64 (1 + nxv L 0 4) = (m : Int) := by rw [wrap64 (by omega) (by omega)]; omega
  obtain ⟨g1, g2⟩ := gen_ok L m (nxa L 0) [] (by simp)
  obtain ⟨c, h0⟩ := L6_0 hL noY () m (nxa L 0) [] ⟨⟨123, [(3, .ptr 0 0), (4, .nil 0), (5, Vi 1), (6, Vi m)]⟩, [.cells [Vl L, Vi (nxa L 0)]]⟩ (by simp; omega) (nxa_le (by omega)) (by simp only [prod, List.foldl_nil, gc, gcIdx, range1, range2, range3, range4, range5, List.filter_cons, List.idxOf?_cons, List.idxOf?_nil, List.getD_cons_zero, List.getD_cons_succ, List.getD_nil, List.contains_cons, List.contains_nil, List.elem_nil, Nat.reduceBEq, Bool.or_false, Bool.or_true, Bool.true_or, Bool.false_or, back, rangeIn, go_sem, Nat.reduceBEq, Nat.reduceEqDiff, Nat.reduceLT, Nat.reduceLeDiff, Nat.reduceAdd, Nat.reduceMul, Nat.reduceSub, Nat.reduceDiv, Int.reduceLT, Int.reduceLE, Int.reduceToNat, Int.reduceNeg, Int.reduceSub, Int.reduceAdd, reduceIte, reduceCtorEq])
  generalize (gen L m (nxa L 0) []).1 = R at g1 g2 h0
  simp only [List.length_nil, Nat.zero_add] at g2
  have hps := pr_small R (by omega) g1
  have hpp := pr_pos R fun r hr => (g1 r hr).1
  have hp6 : (6 : Int) ^ R.length ≤ 1296 := by
    rw [g2]
    have : ∀ m : Nat, m ≤ 4 → (6 : Int) ^ m ≤ 1296 := by decide
    exact this m hm4
  have hprod := prod_pr R 1 (by omega) (fun r hr => (g1 r hr).1) (by omega)
  rw [Int.one_mul] at hprod
  obtain ⟨a, ha⟩ := Int.eq_ofNat_of_zero_le (show 0 ≤ pr R by omega)
  rw [hprod, ha] at h0
  have hmo : (a ≤ most) = True := by simp [most]; omega
  have h2 := L6_2 (R := R) (a := a) (by omega) g1 ha (by omega) noY () a 0 (List.replicate a false) ⟨⟨123, [(3, .ptr 0 0), (4, .sl 0 1 (R.map Pi)), (5, Vi a), (6, Vi 0), (7, .ref 0 2 0 a), (8, Vi (0 : Nat)), (22, Vb false)]⟩, [.cells [Vl L, Vi c], .tok 0 R.length, .cells (((List.replicate a false).map Pb).map V.p)]⟩ (by omega) (by simp) (fun t ht hta => by
    obtain ⟨d, h1, h2, _⟩ := fx6 (by omega) g1 ha (by omega) hta
    rw [h1]; simp [h2]) (by simp only [gc, gcIdx, range1, range2, range3, range4, range5, List.filter_cons, List.idxOf?_cons, List.idxOf?_nil, List.getD_cons_zero, List.getD_cons_succ, List.getD_nil, List.contains_cons, List.contains_nil, List.elem_nil, Nat.reduceBEq, Bool.or_false, Bool.or_true, Bool.true_or, Bool.false_or, back, rangeIn, go_sem, Nat.reduceBEq, Nat.reduceEqDiff, Nat.reduceLT, Nat.reduceLeDiff, Nat.reduceAdd, Nat.reduceMul, Nat.reduceSub, Nat.reduceDiv, Int.reduceLT, Int.reduceLE, Int.reduceToNat, Int.reduceNeg, Int.reduceSub, Int.reduceAdd, reduceIte, reduceCtorEq])
  simp only [Int.natCast_zero] at e26 h2
  rw [call_fn' tbl (show tbl 6 = some fn6 from rfl) _ _ (Nat.le_of_ble_eq_true rfl)]
  simp only [fn6, fn6_P20, fn6_D20, fn6_P22, fn6_D22, e26, hw, h0, h2, aw, hmo, rep_b, gc, gcIdx, range1, range2, range3, range4, range5, List.filter_cons, List.idxOf?_cons, List.idxOf?_nil, List.getD_cons_zero, List.getD_cons_succ, List.getD_nil, List.contains_cons, List.contains_nil, List.elem_nil, Nat.reduceBEq, Bool.or_false, Bool.or_true, Bool.true_or, Bool.false_or, back, rangeIn, go_sem, Nat.reduceBEq, Nat.reduceEqDiff, Nat.reduceLT, Nat.reduceLeDiff, Nat.reduceAdd, Nat.reduceMul, Nat.reduceSub, Nat.reduceDiv, Int.reduceLT, Int.reduceLE, Int.reduceToNat, Int.reduceNeg, Int.reduceSub, Int.reduceAdd, reduceIte, reduceCtorEq]
end Go.Am
