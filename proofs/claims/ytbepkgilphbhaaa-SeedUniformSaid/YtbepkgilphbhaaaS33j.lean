/- What some functions of this seat answer. No condition. -/
import Derived.Test.YtbepkgilphbhaaaS33i
import Derived.Test.YtbepkgilphbhaaaS33d
namespace Go.Am
open Go
set_option linter.unusedSimpArgs false
set_option linter.unusedVariables false
set_option maxRecDepth 100000
open Go.Proofs.Ytbepkgilphbhaaa.Fns

/-! ### Numbers that are handed out -/

/-- The radices that numbers select. -/
def gen (L : List Int) : Nat → Nat → List Int → List Int × Nat
  | 0, k, R => (R, k)
  | m + 1, k, R => gen L m (nxa L k) (R ++ [1 + nxv L k 6])

theorem gen_ok (L : List Int) : ∀ (m k : Nat) (R : List Int), (∀ r ∈ R, 1 ≤ r ∧ r ≤ 6) → (∀ r ∈ (gen L m k R).1, 1 ≤ r ∧ r ≤ 6) ∧ (gen L m k R).1.length = R.length + m
  | 0, k, R, h => ⟨h, rfl⟩
  | m + 1, k, R, h => by
    have := gen_ok L m (nxa L k) (R ++ [1 + nxv L k 6]) (fun r hr => by
      rcases List.mem_append.1 hr with hr | hr
      · exact h r hr
      · simp at hr; subst hr; have := nxv_b L k (show (0 : Int) < 6 by decide); omega)
    refine ⟨this.1, ?_⟩
    rw [show (gen L (m + 1) k R) = gen L m (nxa L k) (R ++ [1 + nxv L k 6]) from rfl, this.2]
    simp; omega

theorem L6_0 {L : List Int} (hL : L.length ≤ 9223372036854775807) {σ : Type} (Y : List P → σ → Option (Bool × σ)) (z : σ) : ∀ (m k : Nat) (R : List Int) (st : St), R.length + m ≤ 4 → k ≤ L.length →
    gc 0 (liftAll [4] ⟨keepOnly [3, 4, 5, 6] st.fr, st.mem⟩) = some ⟨⟨123, [(3, .ptr 0 0), (4, .sl 0 1 (R.map Pi)), (5, Vi (prod R 1)), (6, Vi m)]⟩, [.cells [Vl L, Vi k], .tok 0 R.length]⟩ →
    ∃ c, U tbl Y 0 fn6_L0 st z = some (.exit 0, ⟨⟨123, [(3, .ptr 0 0), (4, .sl 0 1 ((gen L m k R).1.map Pi)), (5, Vi (prod (gen L m k R).1 1)), (6, Vi 0), (22, Vb false)]⟩, [.cells [Vl L, Vi c], .tok 0 (gen L m k R).1.length]⟩, z) := by
  intro m
  induction m with
  | zero =>
    intro k R st hm hk hg
    rw [fn6_L0, u_loop tbl Y 0 z hg]
    simp only [fn6_B0, fn6_P20, fn6_D20, fn6_P22, fn6_D22, Int.natCast_zero, gen, go_sem, Nat.reduceBEq, Nat.reduceEqDiff, Nat.reduceLT, Nat.reduceLeDiff, Nat.reduceAdd, Nat.reduceMul, Nat.reduceSub, Nat.reduceDiv, Int.reduceLT, Int.reduceLE, Int.reduceToNat, Int.reduceNeg, Int.reduceSub, Int.reduceAdd, reduceIte, reduceCtorEq]
    exact ⟨_, rfl⟩
  | succ m ih =>
    intro k R st hm hk hg
    have c1 : (0 : Int) < ((m + 1 : Nat) : Int) := by omega
    have e26 := s26 L k 6 hL hk (by decide) (by decide)
    have hb := nxv_b L k (show (0 : Int) < 6 by decide)
    have hw1 : IntKind.wrap .i64 (1 + nxv L k 6) = 1 + nxv L k 6 := wrap64 (by omega) (by omega)
    have hw2 : IntKind.wrap .i64 (((R.length + 1 : Nat) : Int) - 1) = (R.length : Int) := by rw [wrap64 (by omega) (by omega)]; omega
    have hw3 : IntKind.wrap .i64 (((m + 1 : Nat) : Int) - 1) = (m : Int) := by rw [wrap64 (by omega) (by omega)]; omega
    have hmost : (R.length + 1 ≤ most) = True := by simp [most]; omega
    have hlast : (R.map Pi ++ [Pi (1 + nxv L k 6)])[R.length]? = some (Pi (1 + nxv L k 6)) := by
      simp
    have hp : prod (R ++ [1 + nxv L k 6]) 1 = IntKind.wrap .i64 (prod R 1 * (1 + nxv L k 6)) := by simp [prod]
    rw [fn6_L0, u_loop tbl Y 0 z hg]
    simp only [fn6_B0, fn6_P20, fn6_D20, fn6_P22, fn6_D22, c1, e26, hw1, hw2, hw3, hmost, hlast, gc, gcIdx, range1, range2, range3, range4, range5, List.filter_cons, List.idxOf?_cons, List.idxOf?_nil, List.getD_cons_zero, List.getD_cons_succ, List.getD_nil, List.contains_cons, List.contains_nil, List.elem_nil, Nat.reduceBEq, Bool.or_false, Bool.or_true, Bool.true_or, Bool.false_or, back, rangeIn, go_sem, Nat.reduceBEq, Nat.reduceEqDiff, Nat.reduceLT, Nat.reduceLeDiff, Nat.reduceAdd, Nat.reduceMul, Nat.reduceSub, Nat.reduceDiv, Int.reduceLT, Int.reduceLE, Int.reduceToNat, Int.reduceNeg, Int.reduceSub, Int.reduceAdd, reduceIte, reduceCtorEq]
    rw [show gen L (m + 1) k R = gen L m (nxa L k) (R ++ [1 + nxv L k 6]) from rfl]
    exact ih (nxa L k) (R ++ [1 + nxv L k 6]) _ (by simp; omega) (nxa_le hk) (by simp only [hp, List.map_append, gc, gcIdx, range1, range2, range3, range4, range5, List.filter_cons, List.idxOf?_cons, List.idxOf?_nil, List.getD_cons_zero, List.getD_cons_succ, List.getD_nil, List.contains_cons, List.contains_nil, List.elem_nil, Nat.reduceBEq, Bool.or_false, Bool.or_true, Bool.true_or, Bool.false_or, back, rangeIn, go_sem, Nat.reduceBEq, Nat.reduceEqDiff, Nat.reduceLT, Nat.reduceLeDiff, Nat.reduceAdd, Nat.reduceMul, Nat.reduceSub, Nat.reduceDiv, Int.reduceLT, Int.reduceLE, Int.reduceToNat, Int.reduceNeg, Int.reduceSub, Int.reduceAdd, reduceIte, reduceCtorEq])

/-! ### The number that digits make, the first one the greatest -/

def bg : Int → List Int → List Int → Int
  | a, k :: ks, r :: rs => bg (a * r + k) ks rs
  | a, _, _ => a

theorem bg_lin : ∀ (ks rs : List Int) (a : Int), vd ks rs → bg a ks rs = a * pr rs + bg 0 ks rs
  | [], [], a, _ => by simp [bg, pr]
  | k :: ks, r :: rs, a, h => by
    simp only [bg, pr]
    rw [bg_lin ks rs (a * r + k) h.2, bg_lin ks rs (0 * r + k) h.2]
    rw [Int.add_mul, Int.zero_mul, Int.zero_add, Int.mul_assoc]
    omega
  | [], _ :: _, _, h => h.elim
  | _ :: _, [], _, h => h.elim

theorem bg_bound : ∀ (ks rs : List Int), vd ks rs → 0 ≤ bg 0 ks rs ∧ bg 0 ks rs < pr rs
  | [], [], _ => by simp [bg, pr]
  | k :: ks, r :: rs, h => by
    obtain ⟨⟨h1, h2⟩, h3⟩ := h
    obtain ⟨h4, h5⟩ := bg_bound ks rs h3
    simp only [bg, pr, Int.zero_mul, Int.zero_add]
    rw [bg_lin ks rs k h3]
    have h6 : 0 ≤ k * pr rs := Int.mul_nonneg h1 (by omega)
    have h7 : k * pr rs ≤ (r - 1) * pr rs := Int.mul_le_mul_of_nonneg_right (by omega) (by omega)
    rw [Int.sub_mul, Int.one_mul] at h7
    omega
  | [], _ :: _, h => h.elim
  | _ :: _, [], h => h.elim

theorem bg_inj : ∀ (ks js rs : List Int), vd ks rs → vd js rs → bg 0 ks rs = bg 0 js rs → ks = js
  | [], [], [], _, _, _ => rfl
  | k :: ks, j :: js, r :: rs, h, g, e => by
    obtain ⟨⟨h1, h2⟩, h3⟩ := h
    obtain ⟨⟨g1, g2⟩, g3⟩ := g
    simp only [bg, Int.zero_mul, Int.zero_add] at e
    rw [bg_lin ks rs k h3, bg_lin js rs j g3] at e
    have b1 := bg_bound ks rs h3
    have b2 := bg_bound js rs g3
    have hkj : k = j := by
      rcases Int.lt_trichotomy k j with h | h | h
      · have : (k + 1) * pr rs ≤ j * pr rs := Int.mul_le_mul_of_nonneg_right (by omega) (by omega)
        rw [Int.add_mul, Int.one_mul] at this
        omega
      · exact h
      · have : (j + 1) * pr rs ≤ k * pr rs := Int.mul_le_mul_of_nonneg_right (by omega) (by omega)
        rw [Int.add_mul, Int.one_mul] at this
        omega
    subst hkj
    rw [bg_inj ks js rs h3 g3 (by omega)]
  | [], _ :: _, [], _, h, _ => h.elim
  | _ :: _, [], [], h, _, _ => h.elim
  | [], _, _ :: _, h, _, _ => h.elim
  | _ :: _, [], _ :: _, _, h, _ => h.elim
  | _ :: _, _ :: _, [], h, _, _ => h.elim

theorem digs_vd : ∀ (l : List Int) (q : Int), 0 ≤ q → (∀ r ∈ l, 1 ≤ r) → vd (digs q l) l
  | [], q, _, _ => trivial
  | x :: l, q, hq, hl => by
    have hx := hl x (by simp)
    exact ⟨⟨Int.tmod_nonneg x hq, Int.tmod_lt_of_pos q (by omega)⟩, digs_vd l _ (Int.tdiv_nonneg hq (by omega)) fun r hr => hl r (by simp [hr])⟩

theorem val_digs : ∀ (l : List Int) (q : Int), 0 ≤ q → (∀ r ∈ l, 1 ≤ r) → val (digs q l) l + pr l * left q l = q
  | [], q, _, _ => by simp [val, pr, left, digs]
  | x :: l, q, hq, hl => by
    have hx := hl x (by simp)
    have ih := val_digs l (q.tdiv x) (Int.tdiv_nonneg hq (by omega)) fun r hr => hl r (by simp [hr])
    have e : left q (x :: l) = left (q.tdiv x) l := rfl
    simp only [digs, val, pr, e]
    have h1 := Int.mul_tdiv_add_tmod q x
    have h2 : x * (val (digs (q.tdiv x) l) l + pr l * left (q.tdiv x) l) = x * q.tdiv x := by rw [ih]
    rw [Int.mul_add, ← Int.mul_assoc] at h2
    omega

theorem left_zero {l : List Int} {q : Int} (hq : 0 ≤ q) (hl : ∀ r ∈ l, 1 ≤ r) (h : q < pr l) : left q l = 0 := by
  have h1 := val_digs l q hq hl
  have h2 := val_bound _ _ (digs_vd l q hq hl)
  have h3 : 0 ≤ left q l := by
    have : ∀ (l : List Int) (q : Int), 0 ≤ q → (∀ r ∈ l, 1 ≤ r) → 0 ≤ left q l := by
      intro l
      induction l with
      | nil => intro q hq _; exact hq
      | cons x l ih => intro q hq hl; exact ih _ (Int.tdiv_nonneg hq (by have := hl x (by simp); omega)) fun r hr => hl r (by simp [hr])
    exact this l q hq hl
  rcases Int.lt_or_le 0 (left q l) with h4 | h4
  · have h5 : pr l * 1 ≤ pr l * left q l := Int.mul_le_mul_of_nonneg_left (by omega) (by have := pr_pos l hl; omega)
    omega
  · omega

theorem digs_inj {l : List Int} (hl : ∀ r ∈ l, 1 ≤ r) {a b : Int} (ha : 0 ≤ a) (hb : 0 ≤ b) (ha2 : a < pr l) (hb2 : b < pr l) (h : bg 0 (digs a l) l = bg 0 (digs b l) l) : a = b := by
  have e := bg_inj _ _ _ (digs_vd l a ha hl) (digs_vd l b hb hl) h
  have h1 := val_digs l a ha hl
  have h2 := val_digs l b hb hl
  rw [left_zero ha hl ha2, Int.mul_zero] at h1
  rw [left_zero hb hl hb2, Int.mul_zero] at h2
  rw [e] at h1
  omega

theorem pr_small : ∀ (R : List Int), R.length ≤ 4 → (∀ r ∈ R, 1 ≤ r ∧ r ≤ 6) → pr R ≤ 6 ^ R.length
  | [], _, _ => by simp [pr]
  | r :: R, h, hr => by
    have h1 := pr_small R (by simp at h; omega) fun x hx => hr x (by simp [hx])
    have h2 := hr r (by simp)
    have h3 := pr_pos R fun x hx => (hr x (by simp [hx])).1
    simp only [pr, List.length_cons, Int.pow_succ]
    have : r * pr R ≤ 6 * 6 ^ R.length := Int.mul_le_mul h2.2 h1 (by omega) (by omega)
    omega

theorem prod_pr : ∀ (R : List Int) (a : Int), 1 ≤ a → (∀ r ∈ R, 1 ≤ r) → a * pr R ≤ 1000000 → prod R a = a * pr R
  | [], a, _, _, _ => by simp [prod, pr]
  | r :: R, a, ha, hr, h => by
    have h1 := hr r (by simp)
    have h3 := pr_pos R fun x hx => hr x (by simp [hx])
    simp only [pr] at h ⊢
    have h4 : 1 ≤ a * r := by
      have := Int.mul_le_mul ha h1 (by omega) (by omega); omega
    have h5 : a * r * 1 ≤ a * r * pr R := Int.mul_le_mul_of_nonneg_left h3 (by omega)
    rw [← Int.mul_assoc] at h ⊢
    have hw : IntKind.wrap .i64 (a * r) = a * r := wrap64 (by omega) (by omega)
    have : prod (r :: R) a = prod R (IntKind.wrap .i64 (a * r)) := rfl
    rw [this, hw, prod_pr R (a * r) h4 (fun x hx => hr x (by simp [hx])) (by omega)]
end Go.Am
