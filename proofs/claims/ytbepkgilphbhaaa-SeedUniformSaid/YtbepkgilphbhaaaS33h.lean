/- What some functions of this seat answer. No condition. -/
import Derived.Test.YtbepkgilphbhaaaS33g
import Derived.Test.YtbepkgilphbhaaaS33w
namespace Go.Am
open Go
set_option linter.unusedSimpArgs false
set_option linter.unusedVariables false
set_option maxRecDepth 100000
open Go.Proofs.Ytbepkgilphbhaaa.Fns

/-! ### Digits and what they are worth -/

def val : List Int → List Int → Int
  | k :: ks, r :: rs => k + r * val ks rs
  | _, _ => 0
def pr : List Int → Int
  | [] => 1
  | r :: rs => r * pr rs
def vd : List Int → List Int → Prop
  | [], [] => True
  | k :: ks, r :: rs => (0 ≤ k ∧ k < r) ∧ vd ks rs
  | _, _ => False

theorem vd_pos : ∀ (ks rs : List Int), vd ks rs → ∀ r ∈ rs, 1 ≤ r
  | [], [], _, r, h => by simp at h
  | k :: ks, r :: rs, h, x, hx => by
    rcases List.mem_cons.1 hx with rfl | hx
    · have := h.1; omega
    · exact vd_pos ks rs h.2 x hx
  | [], _ :: _, h, _, _ => h.elim
  | _ :: _, [], h, _, _ => h.elim

theorem pr_pos : ∀ (rs : List Int), (∀ r ∈ rs, 1 ≤ r) → 1 ≤ pr rs
  | [], _ => by simp [pr]
  | r :: rs, h => by
    have h1 := pr_pos rs fun x hx => h x (by simp [hx])
    have h2 := h r (by simp)
    simp only [pr]
    have := Int.mul_le_mul h2 h1 (by omega) (by omega)
    omega

theorem val_bound : ∀ (ks rs : List Int), vd ks rs → 0 ≤ val ks rs ∧ val ks rs < pr rs
  | [], [], _ => by simp [val, pr]
  | k :: ks, r :: rs, h => by
    obtain ⟨⟨h1, h2⟩, h3⟩ := h
    obtain ⟨h4, h5⟩ := val_bound ks rs h3
    simp only [val, pr]
    have h6 : 0 ≤ r * val ks rs := Int.mul_nonneg (by omega) h4
    have h7 : r * val ks rs ≤ r * (pr rs - 1) := Int.mul_le_mul_of_nonneg_left (by omega) (by omega)
    rw [Int.mul_sub, Int.mul_one] at h7
    omega
  | [], _ :: _, h => h.elim
  | _ :: _, [], h => h.elim

theorem pr_drop : ∀ (k : Nat) (m : List Int), (∀ r ∈ m, 1 ≤ r) → pr (m.drop k) ≤ pr m
  | 0, m, _ => by simp
  | k + 1, [], _ => by simp
  | k + 1, r :: m, h => by
    simp only [List.drop_succ_cons, pr]
    have h1 := pr_drop k m fun x hx => h x (by simp [hx])
    have h2 := h r (by simp)
    have h3 := pr_pos m fun x hx => h x (by simp [hx])
    have h4 : 1 * pr m ≤ r * pr m := Int.mul_le_mul_of_nonneg_right h2 (by omega)
    omega

theorem vd_drop : ∀ (k : Nat) (l m : List Int), vd l m → vd (l.drop k) (m.drop k)
  | 0, l, m, h => by simpa using h
  | k + 1, [], [], h => by simpa using h
  | k + 1, _ :: l, _ :: m, h => by simpa using vd_drop k l m h.2
  | _ + 1, [], _ :: _, h => h.elim
  | _ + 1, _ :: _, [], h => h.elim

theorem vd_length : ∀ (l m : List Int), vd l m → l.length = m.length
  | [], [], _ => rfl
  | _ :: l, _ :: m, h => by simp [vd_length l m h.2]
  | [], _ :: _, h => h.elim
  | _ :: _, [], h => h.elim

/-- Joining digits that are right says what they are worth. -/
theorem jn_val {l m : List Int} (h : vd l m) (hm : pr m ≤ 999999999999999) : ∀ (k : Nat), k ≤ l.length → jn l m k (val (l.drop k) (m.drop k)) = (val l m, 0)
  | 0, _ => by simp [jn]
  | k + 1, hk => by
    have hlm := vd_length l m h
    have e1 : l.drop k = l.getD k 0 :: l.drop (k + 1) := by
      rw [List.drop_eq_getElem_cons (by omega), List.getD_eq_getElem?_getD, List.getElem?_eq_getElem (by omega)]; rfl
    have e2 : m.drop k = m.getD k 0 :: m.drop (k + 1) := by
      rw [List.drop_eq_getElem_cons (by omega), List.getD_eq_getElem?_getD, List.getElem?_eq_getElem (by omega)]; rfl
    have hv := vd_drop k l m h
    have hb := val_bound _ _ hv
    have hp := pr_drop k m (vd_pos l m h)
    rw [e1, e2] at hv hb
    rw [e2] at hp
    simp only [val] at hb
    obtain ⟨⟨h1, h2⟩, h3⟩ := hv
    have hb3 := val_bound _ _ h3
    have hpp := pr_pos (m.drop (k + 1)) (vd_pos _ _ h3)
    have hrp : m.getD k 0 ≤ pr (m.getD k 0 :: m.drop (k + 1)) := by
      simp only [pr]
      have : m.getD k 0 * 1 ≤ m.getD k 0 * pr (m.drop (k + 1)) := Int.mul_le_mul_of_nonneg_left hpp (by omega)
      omega
    have ih := jn_val h hm k (by omega)
    simp only [jn]
    rw [e1, e2] at ih
    simp only [val] at ih
    generalize l.getD k 0 = d at *
    generalize m.getD k 0 = r at *
    generalize val (l.drop (k + 1)) (m.drop (k + 1)) = v at *
    have w1 : IntKind.wrap .i64 (999999999999999 - d) = 999999999999999 - d := wrap64 (by omega) (by omega)
    have hq : v ≤ (999999999999999 - d).tdiv r := by
      rw [Int.tdiv_eq_ediv_of_nonneg (by omega)]
      rw [Int.le_ediv_iff_mul_le (by omega), Int.mul_comm]
      omega
    have hq2 : (999999999999999 - d).tdiv r ≤ 999999999999999 - d := Int.tdiv_le_self r (by omega)
    have w2 : IntKind.wrap .i64 ((999999999999999 - d).tdiv r) = (999999999999999 - d).tdiv r := wrap64 (by omega) (by omega)
    have hvr : 0 ≤ r * v := Int.mul_nonneg (by omega) (by omega)
    have w3 : IntKind.wrap .i64 (v * r) = v * r := wrap64 (by rw [Int.mul_comm]; omega) (by rw [Int.mul_comm]; omega)
    have w4 : IntKind.wrap .i64 (v * r + d) = d + r * v := by rw [wrap64 (by rw [Int.mul_comm]; omega) (by rw [Int.mul_comm]; omega), Int.mul_comm]; omega
    rw [w1, w2, if_neg (by omega), w3, w4]
    exact ih

theorem acc_val (n : Nat) : ∀ (ks rs : List Int) (i : Nat) (sd pl : Int), (rdx n).drop i = rs → vd ks rs → 0 ≤ sd → sd < pl → pl * pr rs ≤ 999999999999999 → acc n sd pl i ks = sd + pl * val ks rs
  | [], [], i, sd, pl, _, _, _, _, _ => by simp [acc, val]
  | k :: ks, r :: rs, i, sd, pl, hr, h, h1, h2, h3 => by
    obtain ⟨g1, g2, g3⟩ := drop_cons_facts hr
    obtain ⟨hin, hx⟩ := rdx_get g1
    obtain ⟨⟨k1, k2⟩, hv⟩ := h
    have hpp := pr_pos rs (vd_pos _ _ hv)
    simp only [pr] at h3
    have a1 : 0 ≤ pl * k := Int.mul_nonneg (by omega) k1
    have a2 : pl * k ≤ pl * (r - 1) := Int.mul_le_mul_of_nonneg_left (by omega) (by omega)
    rw [Int.mul_sub, Int.mul_one] at a2
    have a3 : pl * r ≤ pl * (r * pr rs) := by
      rw [← Int.mul_assoc]
      have : pl * r * 1 ≤ pl * r * pr rs := Int.mul_le_mul_of_nonneg_left hpp (Int.mul_nonneg (by omega) (by omega))
      omega
    have a4 : 0 ≤ pl * r := Int.mul_nonneg (by omega) (by omega)
    have w1 : IntKind.wrap .i64 (pl * k) = pl * k := wrap64 (by omega) (by omega)
    have w2 : IntKind.wrap .i64 (sd + pl * k) = sd + pl * k := wrap64 (by omega) (by omega)
    have w3 : IntKind.wrap .i64 (pl * ((n : Int) - i)) = pl * r := by rw [← hx, wrap64 (by omega) (by omega)]
    simp only [acc, w1, w2, w3]
    rw [acc_val n ks rs (i + 1) _ _ g3 hv (by omega) (by omega) (by rw [Int.mul_assoc]; exact h3)]
    simp only [val, Int.mul_add, Int.mul_assoc]
    omega
  | [], _ :: _, _, _, _, _, h, _, _, _ => h.elim
  | _ :: _, [], _, _, _, _, h, _, _, _ => h.elim

theorem rk_vd (n : Nat) : ∀ (cs D : List Int) (i : Nat) (ks : List Int), i + cs.length = n → rk n D i cs = some ks → vd ks ((rdx n).drop i)
  | [], D, i, ks, hl, h => by
    simp [rk] at h; subst h
    have : (rdx n).drop i = [] := List.drop_eq_nil_of_le (by simp [rdx] at hl ⊢; omega)
    rw [this]; trivial
  | c :: cs, D, i, ks, hl, h => by
    simp only [rk] at h
    split at h
    · cases h
    · rename_i hp
      simp only [Option.map_eq_some_iff] at h
      obtain ⟨a, h1, rfl⟩ := h
      simp only [List.length_cons] at hl
      have e : (rdx n).drop i = ((n : Int) - i) :: (rdx n).drop (i + 1) := by
        rw [List.drop_eq_getElem_cons (by simp [rdx]; omega)]
        congr 1
        simp [rdx]
      rw [e]
      refine ⟨?_, rk_vd n cs _ (i + 1) a (by omega) h1⟩
      rcases place_bound ((D.drop i).take (n - i)) c with h | ⟨j, h, hlt⟩
      · exact absurd h hp
      · rw [h]; simp at hlt; omega

theorem rk_take (n : Nat) : ∀ (cs D : List Int) (i : Nat), i + cs.length = n → rk n D i cs = rk n (D.take n) i cs
  | [], D, i, _ => rfl
  | c :: cs, D, i, hl => by
    simp only [List.length_cons] at hl
    have e : ((D.take n).drop i).take (n - i) = (D.drop i).take (n - i) := by
      rw [List.drop_take, List.take_take]; congr 1; omega
    simp only [rk, e]
    split
    · rfl
    · rename_i hp
      rcases place_bound ((D.drop i).take (n - i)) c with h | ⟨j, h, hlt⟩
      · exact absurd h hp
      · rw [rk_take n cs _ (i + 1) (by omega), h]
        simp only [Int.toNat_natCast]
        rw [take_swp D n i (i + j) (by omega) (by simp at hlt; omega)]

theorem pr_rdx : ∀ n, n ≤ 17 → pr (rdx n) ≤ 999999999999999 := by decide

theorem rank_same (o : List Int) : rankRef o = rankOf o := by
  unfold rankOf rankRef
  by_cases h1 : (17 : Int) < o.length
  · rw [if_pos h1, if_pos h1]
  · rw [if_neg h1, if_neg h1]
    have ho : o.length ≤ 17 := by omega
    have e : rk o.length (ints 17) 0 o = rk o.length (ints o.length) 0 o := by
      rw [rk_take o.length o (ints 17) 0 (by omega)]
      congr 1
      simp only [ints, ← List.map_take, List.take_range]
      congr 2; omega
    rw [e]
    cases hr : rk o.length (ints o.length) 0 o with
    | none => rfl
    | some ks =>
      have hv := rk_vd _ _ _ _ _ (by omega) hr
      have hp := pr_rdx o.length ho
      have ha := acc_val o.length ks (rdx o.length) 0 0 1 (by simp) (by simpa using hv) (by omega) (by omega) (by omega)
      have hk := rk_length _ _ _ _ _ hr
      have hj := jn_val (l := ks) (m := rdx o.length) (by simpa using hv) hp ks.length (Nat.le_refl _)
      have e0 : val (ks.drop ks.length) ((rdx o.length).drop ks.length) = 0 := by simp [val]
      rw [e0, hk] at hj
      simp only [hj, ha]
      simp

theorem s27n (n s : Int) (h : n < 0 ∨ 17 < n) : (EL tbl).call 27 [Vi n, Vi s] [] = some (.p (.tuple [Pl [], Pi 2]), []) := by
  rw [call_fn' tbl (show tbl 27 = some fn27 from rfl) _ _ (Nat.le_of_ble_eq_true rfl)]
  by_cases h1 : n < 0
  · simp only [fn27, fn27_P15, fn27_D15, h1, gc, gcIdx, range1, range2, range3, range4, range5, List.filter_cons, List.idxOf?_cons, List.idxOf?_nil, List.getD_cons_zero, List.getD_cons_succ, List.getD_nil, List.contains_cons, List.contains_nil, List.elem_nil, Nat.reduceBEq, Bool.or_false, Bool.or_true, Bool.true_or, Bool.false_or, back, rangeIn, go_sem, Nat.reduceBEq, Nat.reduceEqDiff, Nat.reduceLT, Nat.reduceLeDiff, Nat.reduceAdd, Nat.reduceMul, Nat.reduceSub, Nat.reduceDiv, Int.reduceLT, Int.reduceLE, Int.reduceToNat, Int.reduceNeg, Int.reduceSub, Int.reduceAdd, reduceIte, reduceCtorEq]
    rfl
  · have h2 : 17 < n := by omega
    simp only [fn27, fn27_P15, fn27_D15, h1, h2, gc, gcIdx, range1, range2, range3, range4, range5, List.filter_cons, List.idxOf?_cons, List.idxOf?_nil, List.getD_cons_zero, List.getD_cons_succ, List.getD_nil, List.contains_cons, List.contains_nil, List.elem_nil, Nat.reduceBEq, Bool.or_false, Bool.or_true, Bool.true_or, Bool.false_or, back, rangeIn, go_sem, Nat.reduceBEq, Nat.reduceEqDiff, Nat.reduceLT, Nat.reduceLeDiff, Nat.reduceAdd, Nat.reduceMul, Nat.reduceSub, Nat.reduceDiv, Int.reduceLT, Int.reduceLE, Int.reduceToNat, Int.reduceNeg, Int.reduceSub, Int.reduceAdd, reduceIte, reduceCtorEq]
    rfl
theorem s28n (n s : Int) (h : n < 0 ∨ 17 < n) : (EL tbl).call 28 [Vi n, Vi s] [] = some (.p (.tuple [Pl [], Pi 2]), []) := by
  rw [call_fn' tbl (show tbl 28 = some fn28 from rfl) _ _ (Nat.le_of_ble_eq_true rfl)]
  by_cases h1 : n < 0
  · simp only [fn28, fn28_P20, fn28_D20, h1, gc, gcIdx, range1, range2, range3, range4, range5, List.filter_cons, List.idxOf?_cons, List.idxOf?_nil, List.getD_cons_zero, List.getD_cons_succ, List.getD_nil, List.contains_cons, List.contains_nil, List.elem_nil, Nat.reduceBEq, Bool.or_false, Bool.or_true, Bool.true_or, Bool.false_or, back, rangeIn, go_sem, Nat.reduceBEq, Nat.reduceEqDiff, Nat.reduceLT, Nat.reduceLeDiff, Nat.reduceAdd, Nat.reduceMul, Nat.reduceSub, Nat.reduceDiv, Int.reduceLT, Int.reduceLE, Int.reduceToNat, Int.reduceNeg, Int.reduceSub, Int.reduceAdd, reduceIte, reduceCtorEq]
    rfl
  · have h2 : 17 < n := by omega
    simp only [fn28, fn28_P20, fn28_D20, h1, h2, gc, gcIdx, range1, range2, range3, range4, range5, List.filter_cons, List.idxOf?_cons, List.idxOf?_nil, List.getD_cons_zero, List.getD_cons_succ, List.getD_nil, List.contains_cons, List.contains_nil, List.elem_nil, Nat.reduceBEq, Bool.or_false, Bool.or_true, Bool.true_or, Bool.false_or, back, rangeIn, go_sem, Nat.reduceBEq, Nat.reduceEqDiff, Nat.reduceLT, Nat.reduceLeDiff, Nat.reduceAdd, Nat.reduceMul, Nat.reduceSub, Nat.reduceDiv, Int.reduceLT, Int.reduceLE, Int.reduceToNat, Int.reduceNeg, Int.reduceSub, Int.reduceAdd, reduceIte, reduceCtorEq]
    rfl

theorem both (n s : Int) (hs : s ≤ 9223372036854775807) : ∃ (l : List Int) (e : Int), l.length ≤ 17 ∧ (EL tbl).call 27 [Vi n, Vi s] [] = some (.p (.tuple [Pl l, Pi e]), []) ∧ (EL tbl).call 28 [Vi n, Vi s] [] = some (.p (.tuple [Pl l, Pi e]), []) := by
  by_cases h : n < 0 ∨ 17 < n
  · exact ⟨[], 2, by simp, s27n n s h, s28n n s h⟩
  · obtain ⟨m, rfl⟩ := Int.eq_ofNat_of_zero_le (show 0 ≤ n by omega)
    have hm : m ≤ 17 := by omega
    have e27 := s27 m s hm (prod_le m hm)
    have e28 := s28 m s hm hs
    unfold permOf at e27 e28
    by_cases h1 : s < 0
    · rw [if_pos h1] at e27 e28; exact ⟨_, _, by simp, e27, e28⟩
    · rw [if_neg h1] at e27 e28
      by_cases h2 : prod (rdx m) 1 ≤ s
      · rw [if_pos h2] at e27 e28; exact ⟨_, _, by simp, e27, e28⟩
      · rw [if_neg h2] at e27 e28; exact ⟨_, _, by simp; omega, e27, e28⟩

set_option maxHeartbeats 4000000 in
theorem s7 (n s : Int) (o : List Int) (hs : s ≤ 9223372036854775807) : (EL tbl).call 7 [Vi n, Vi s, Vl o] [] = some (Vb true, []) := by
  have aw : (EL tbl).call 11 [] [] = some (Vb true, []) := awake33
  have e29 := s29 o
  have e30 := s30 o
  rw [rank_same] at e30
  have t2 : ∃ x y, rankOf o = [Pi x, Pi y] := by
    unfold rankOf
    repeat' split
    all_goals exact ⟨_, _, rfl⟩
  obtain ⟨x, y, t2⟩ := t2
  rw [t2] at e29 e30
  obtain ⟨l, e, hl, e27, e28⟩ := both n s hs
  have e22 : ∀ x : List Int, x.length ≤ 1000 → (EL tbl).call 22 [Vl x, Vl x] [] = some (Vb true, []) := fun x hx => by rw [s22 x x (by omega)]; simp
  have e22l := e22 l (by omega)
  rw [call_fn' tbl (show tbl 7 = some fn7 from rfl) _ _ (Nat.le_of_ble_eq_true rfl)]
  by_cases h1 : (30 : Int) < o.length
  · simp only [fn7, h1, aw, gc, gcIdx, range1, range2, range3, range4, range5, List.filter_cons, List.idxOf?_cons, List.idxOf?_nil, List.getD_cons_zero, List.getD_cons_succ, List.getD_nil, List.contains_cons, List.contains_nil, List.elem_nil, Nat.reduceBEq, Bool.or_false, Bool.or_true, Bool.true_or, Bool.false_or, back, rangeIn, go_sem, Nat.reduceBEq, Nat.reduceEqDiff, Nat.reduceLT, Nat.reduceLeDiff, Nat.reduceAdd, Nat.reduceMul, Nat.reduceSub, Nat.reduceDiv, Int.reduceLT, Int.reduceLE, Int.reduceToNat, Int.reduceNeg, Int.reduceSub, Int.reduceAdd, reduceIte, reduceCtorEq]
  · have hm : (o.length ≤ most) = True := by simp [most]; omega
    have e22o := e22 o (by omega)
    rcases o with _ | ⟨o0, o⟩ <;> simp only [Vl, Pl, List.length_cons, List.length_nil, List.map_cons, List.map_nil] at h1 hm e29 e30 e22o <;>
      simp only [fn7, h1, hm, e27, e28, e29, e30, e22l, e22o, aw, Nat.add_eq_zero_iff, Nat.succ_ne_zero, gc, gcIdx, range1, range2, range3, range4, range5, List.filter_cons, List.idxOf?_cons, List.idxOf?_nil, List.getD_cons_zero, List.getD_cons_succ, List.getD_nil, List.contains_cons, List.contains_nil, List.elem_nil, Nat.reduceBEq, Bool.or_false, Bool.or_true, Bool.true_or, Bool.false_or, back, rangeIn, go_sem, Nat.reduceBEq, Nat.reduceEqDiff, Nat.reduceLT, Nat.reduceLeDiff, Nat.reduceAdd, Nat.reduceMul, Nat.reduceSub, Nat.reduceDiv, Int.reduceLT, Int.reduceLE, Int.reduceToNat, Int.reduceNeg, Int.reduceSub, Int.reduceAdd, reduceIte, reduceCtorEq]
end Go.Am
