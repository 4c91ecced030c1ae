/- What some functions of this seat answer. No condition. -/
import Derived.Test.YtbepkgilphbhaaaS0
namespace Go.Am
open Go
set_option linter.unusedSimpArgs false
set_option linter.unusedVariables false
set_option maxRecDepth 100000
open Go.Proofs.Ytbepkgilphbhaaa.Fns

/-! ### Equal lists -/

theorem L22 {l m : List Int} (hlen : l.length ≤ 1000000000) (he : l.length = m.length) {σ : Type} (Y : List P → σ → Option (Bool × σ)) (s : σ) : ∀ (r t : List Int) (k : Nat) (st : St), l.drop k = r → m.drop k = t → k ≤ l.length →
    gc 0 (liftAll [] ⟨keepOnly [0, 1, 5] st.fr, st.mem⟩) = some ⟨⟨26, [(0, Vl l), (1, Vl m), (5, Vi k)]⟩, []⟩ →
    ∃ fr, if r = t then U tbl Y 0 fn22_L0 st s = some (.exit 0, ⟨⟨26, [(0, Vl l), (1, Vl m), (5, Vi l.length), (14, Vb false)]⟩, []⟩, s) else U tbl Y 0 fn22_L0 st s = some (.ret, ⟨fr, []⟩, s) ∧ getF fr.l 4 = Vb false := by
  intro r
  induction r with
  | nil =>
    intro t k st hd ht hk hg
    have e : k = l.length := by have := drop_nil_facts hd; omega
    subst e
    have : t = [] := by rw [← ht]; exact List.drop_eq_nil_of_le (by omega)
    subst this
    rw [fn22_L0, u_loop tbl Y 0 s hg]
    simp only [fn22_B0, fn22_P6, fn22_D6, natnlt (Nat.le_refl l.length), go_sem, Nat.reduceBEq, Nat.reduceEqDiff, Nat.reduceLT, Nat.reduceLeDiff, Nat.reduceAdd, Nat.reduceMul, Nat.reduceSub, Nat.reduceDiv, Int.reduceLT, Int.reduceLE, Int.reduceToNat, Int.reduceNeg, Int.reduceSub, Int.reduceAdd, reduceIte, reduceCtorEq]
    exact ⟨default, trivial⟩
  | cons x r ih =>
    intro t k st hd ht hk hg
    obtain ⟨h1, h2, h3⟩ := drop_cons_facts hd
    cases t with
    | nil => have := drop_nil_facts ht; omega
    | cons y t =>
      obtain ⟨g1, g2, g3⟩ := drop_cons_facts ht
      rw [fn22_L0, u_loop tbl Y 0 s hg]
      by_cases hxy : x = y
      · subst hxy
        simp only [fn22_B0, fn22_P6, fn22_D6, natlt h2, h1, g1, bne_self_eq_false, succ64 (show k < 9223372036854775807 by omega), List.cons.injEq, go_sem, Nat.reduceBEq, Nat.reduceEqDiff, Nat.reduceLT, Nat.reduceLeDiff, Nat.reduceAdd, Nat.reduceMul, Nat.reduceSub, Nat.reduceDiv, Int.reduceLT, Int.reduceLE, Int.reduceToNat, Int.reduceNeg, Int.reduceSub, Int.reduceAdd, reduceIte, reduceCtorEq]
        exact ih t (k + 1) _ h3 g3 (by omega) (by simp only [go_sem, Nat.reduceBEq, Nat.reduceEqDiff, Nat.reduceLT, Nat.reduceLeDiff, Nat.reduceAdd, Nat.reduceMul, Nat.reduceSub, Nat.reduceDiv, Int.reduceLT, Int.reduceLE, Int.reduceToNat, Int.reduceNeg, Int.reduceSub, Int.reduceAdd, reduceIte, reduceCtorEq])
      · have : (x != y) = true := by simp [hxy]
        simp only [fn22_B0, fn22_P6, fn22_D6, natlt h2, h1, g1, this, hxy, List.cons.injEq, go_sem, Nat.reduceBEq, Nat.reduceEqDiff, Nat.reduceLT, Nat.reduceLeDiff, Nat.reduceAdd, Nat.reduceMul, Nat.reduceSub, Nat.reduceDiv, Int.reduceLT, Int.reduceLE, Int.reduceToNat, Int.reduceNeg, Int.reduceSub, Int.reduceAdd, reduceIte, reduceCtorEq]
        exact ⟨_, rfl, by simp only [go_sem, Nat.reduceBEq, Nat.reduceEqDiff, Nat.reduceLT, Nat.reduceLeDiff, Nat.reduceAdd, Nat.reduceMul, Nat.reduceSub, Nat.reduceDiv, Int.reduceLT, Int.reduceLE, Int.reduceToNat, Int.reduceNeg, Int.reduceSub, Int.reduceAdd, reduceIte, reduceCtorEq]⟩

theorem s22 (l m : List Int) (hlen : l.length ≤ 1000000000) : (EL tbl).call 22 [Vl l, Vl m] [] = some (Vb (decide (l = m)), []) := by
  rw [call_fn' tbl (show tbl 22 = some fn22 from rfl) _ _ (Nat.le_of_ble_eq_true rfl)]
  simp only [fn22, fn22_P6, fn22_D6, go_sem, Nat.reduceBEq, Nat.reduceEqDiff, Nat.reduceLT, Nat.reduceLeDiff, Nat.reduceAdd, Nat.reduceMul, Nat.reduceSub, Nat.reduceDiv, Int.reduceLT, Int.reduceLE, Int.reduceToNat, Int.reduceNeg, Int.reduceSub, Int.reduceAdd, reduceIte, reduceCtorEq]
  by_cases he : l.length = m.length
  · have hb : ((l.length : Int) != (m.length : Int)) = false := by simp [he]
    obtain ⟨fr, h⟩ := L22 hlen he noY () l m 0 ⟨⟨26, [(0, Vl l), (1, Vl m), (5, Vi (0 : Nat)), (10, Vb false)]⟩, []⟩ (by simp) (by simp) (by omega) (by simp only [go_sem, Nat.reduceBEq, Nat.reduceEqDiff, Nat.reduceLT, Nat.reduceLeDiff, Nat.reduceAdd, Nat.reduceMul, Nat.reduceSub, Nat.reduceDiv, Int.reduceLT, Int.reduceLE, Int.reduceToNat, Int.reduceNeg, Int.reduceSub, Int.reduceAdd, reduceIte, reduceCtorEq])
    simp only [Int.natCast_zero] at h
    by_cases hlm : l = m
    · simp only [hlm, if_true] at h
      simp only [hlm, bne_self_eq_false, h, go_sem, Nat.reduceBEq, Nat.reduceEqDiff, Nat.reduceLT, Nat.reduceLeDiff, Nat.reduceAdd, Nat.reduceMul, Nat.reduceSub, Nat.reduceDiv, Int.reduceLT, Int.reduceLE, Int.reduceToNat, Int.reduceNeg, Int.reduceSub, Int.reduceAdd, reduceIte, reduceCtorEq]
    · simp only [hlm, if_false] at h
      simp only [hb, hlm, h.1, h.2, go_sem, Nat.reduceBEq, Nat.reduceEqDiff, Nat.reduceLT, Nat.reduceLeDiff, Nat.reduceAdd, Nat.reduceMul, Nat.reduceSub, Nat.reduceDiv, Int.reduceLT, Int.reduceLE, Int.reduceToNat, Int.reduceNeg, Int.reduceSub, Int.reduceAdd, reduceIte, reduceCtorEq]
  · have hb : ((l.length : Int) != (m.length : Int)) = true := by simp; omega
    have hlm : l ≠ m := fun e => he (by rw [e])
    simp only [hb, hlm, go_sem, Nat.reduceBEq, Nat.reduceEqDiff, Nat.reduceLT, Nat.reduceLeDiff, Nat.reduceAdd, Nat.reduceMul, Nat.reduceSub, Nat.reduceDiv, Int.reduceLT, Int.reduceLE, Int.reduceToNat, Int.reduceNeg, Int.reduceSub, Int.reduceAdd, reduceIte, reduceCtorEq]

/-! ### Lists that hold something -/

theorem L74 {id : Nat} {caps : List P} {l : List Int} (p : Int → Bool) (hlen : l.length ≤ 1000000000) (hp : ∀ x ∈ l, (EL tbl).call id (Vi x :: caps.map V.p) [] = some (Vb (p x), [])) {σ : Type} (Y : List P → σ → Option (Bool × σ)) (s : σ) :
    ∀ (r : List Int) (k : Nat) (st : St), l.drop k = r → k ≤ l.length → gc 0 (liftAll [] ⟨keepOnly [0, 1, 7, 8] st.fr, st.mem⟩) = some ⟨⟨19, [(0, Vl l), (1, .p (.fn id caps)), (7, Vi l.length), (8, Vi k)]⟩, []⟩ →
      match r.findIdx? p with
      | none => U tbl Y 0 fn74_L0 st s = some (.exit 0, ⟨⟨19, [(0, Vl l), (1, .p (.fn id caps)), (7, Vi l.length), (8, Vi l.length), (9, Vb false)]⟩, []⟩, s)
      | some j => ∃ fr, U tbl Y 0 fn74_L0 st s = some (.ret, ⟨fr, []⟩, s) ∧ getF fr.l 4 = Vi (k + j : Nat) := by
  intro r
  induction r with
  | nil =>
    intro k st hd hk hg
    have hle := drop_nil_facts hd
    have e : k = l.length := by omega
    subst e
    simp only [List.findIdx?_nil]
    rw [fn74_L0, u_loop tbl Y 0 s hg]
    simp only [fn74_B0, natnlt (Nat.le_refl l.length), go_sem, Nat.reduceBEq, Nat.reduceEqDiff, Nat.reduceLT, Nat.reduceLeDiff, Nat.reduceAdd, Nat.reduceMul, Nat.reduceSub, Nat.reduceDiv, Int.reduceLT, Int.reduceLE, Int.reduceToNat, Int.reduceNeg, Int.reduceSub, Int.reduceAdd, reduceIte, reduceCtorEq]
  | cons x r ih =>
    intro k st hd hk hg
    obtain ⟨h1, h2, h3⟩ := drop_cons_facts hd
    have hx := hp x (List.mem_of_getElem? h1)
    have hgo : p x = true → ∃ fr, U tbl Y 0 fn74_L0 st s = some (.ret, ⟨fr, []⟩, s) ∧ getF fr.l 4 = Vi (k : Nat) := fun hpx => by
      rw [fn74_L0, u_loop tbl Y 0 s hg]
      simp only [fn74_B0, natlt h2, h1, hx, hpx, go_sem, Nat.reduceBEq, Nat.reduceEqDiff, Nat.reduceLT, Nat.reduceLeDiff, Nat.reduceAdd, Nat.reduceMul, Nat.reduceSub, Nat.reduceDiv, Int.reduceLT, Int.reduceLE, Int.reduceToNat, Int.reduceNeg, Int.reduceSub, Int.reduceAdd, reduceIte, reduceCtorEq]
      exact ⟨_, rfl, by simp only [go_sem, Nat.reduceBEq, Nat.reduceEqDiff, Nat.reduceLT, Nat.reduceLeDiff, Nat.reduceAdd, Nat.reduceMul, Nat.reduceSub, Nat.reduceDiv, Int.reduceLT, Int.reduceLE, Int.reduceToNat, Int.reduceNeg, Int.reduceSub, Int.reduceAdd, reduceIte, reduceCtorEq]⟩
    have hno : p x = false → ∃ st1, U tbl Y 0 fn74_L0 st s = U tbl Y 0 fn74_L0 st1 s ∧ gc 0 (liftAll [] ⟨keepOnly [0, 1, 7, 8] st1.fr, st1.mem⟩) = some ⟨⟨19, [(0, Vl l), (1, .p (.fn id caps)), (7, Vi l.length), (8, Vi (k + 1 : Nat))]⟩, []⟩ := fun hpx => by
      rw [fn74_L0, u_loop tbl Y 0 s hg]
      simp only [fn74_B0, natlt h2, h1, hx, hpx, succ64 (show k < 9223372036854775807 by omega), go_sem, Nat.reduceBEq, Nat.reduceEqDiff, Nat.reduceLT, Nat.reduceLeDiff, Nat.reduceAdd, Nat.reduceMul, Nat.reduceSub, Nat.reduceDiv, Int.reduceLT, Int.reduceLE, Int.reduceToNat, Int.reduceNeg, Int.reduceSub, Int.reduceAdd, reduceIte, reduceCtorEq]
      exact ⟨_, rfl, by simp only [go_sem, Nat.reduceBEq, Nat.reduceEqDiff, Nat.reduceLT, Nat.reduceLeDiff, Nat.reduceAdd, Nat.reduceMul, Nat.reduceSub, Nat.reduceDiv, Int.reduceLT, Int.reduceLE, Int.reduceToNat, Int.reduceNeg, Int.reduceSub, Int.reduceAdd, reduceIte, reduceCtorEq]⟩
    rw [List.findIdx?_cons]
    cases hpx : p x with
    | true => simpa using hgo hpx
    | false =>
      obtain ⟨st1, e1, e2⟩ := hno hpx
      have := ih (k + 1) st1 h3 (by omega) e2
      rw [e1]
      cases hf : r.findIdx? p with
      | none => simpa [hf] using this
      | some j => 
        rw [hf] at this
        obtain ⟨fr, a, b⟩ := this
        simp only [Bool.false_eq_true, if_false, Option.map_some]
        exact ⟨fr, a, by rw [b, show k + 1 + j = k + (j + 1) by omega]⟩

theorem s74 {id : Nat} {caps : List P} {l : List Int} (p : Int → Bool) (hlen : l.length ≤ 1000000000) (hp : ∀ x ∈ l, (EL tbl).call id (Vi x :: caps.map V.p) [] = some (Vb (p x), [])) :
    (EL tbl).call 74 [Vl l, .p (.fn id caps)] [] = some (Vi (match l.findIdx? p with | some j => (j : Int) | none => -1), []) := by
  rw [call_fn' tbl (show tbl 74 = some fn74 from rfl) _ _ (Nat.le_of_ble_eq_true rfl)]
  simp only [fn74, go_sem, Nat.reduceBEq, Nat.reduceEqDiff, Nat.reduceLT, Nat.reduceLeDiff, Nat.reduceAdd, Nat.reduceMul, Nat.reduceSub, Nat.reduceDiv, Int.reduceLT, Int.reduceLE, Int.reduceToNat, Int.reduceNeg, Int.reduceSub, Int.reduceAdd, reduceIte, reduceCtorEq]
  have := L74 p hlen hp noY () l 0 ⟨⟨19, [(0, Vl l), (1, .p (.fn id caps)), (7, Vi l.length), (8, Vi (0 : Nat))]⟩, []⟩ (by simp) (by omega) (by simp only [go_sem, Nat.reduceBEq, Nat.reduceEqDiff, Nat.reduceLT, Nat.reduceLeDiff, Nat.reduceAdd, Nat.reduceMul, Nat.reduceSub, Nat.reduceDiv, Int.reduceLT, Int.reduceLE, Int.reduceToNat, Int.reduceNeg, Int.reduceSub, Int.reduceAdd, reduceIte, reduceCtorEq])
  cases hf : l.findIdx? p with
  | none =>
    rw [hf] at this
    simp only [Int.natCast_zero] at this
    simp only [this, go_sem, Nat.reduceBEq, Nat.reduceEqDiff, Nat.reduceLT, Nat.reduceLeDiff, Nat.reduceAdd, Nat.reduceMul, Nat.reduceSub, Nat.reduceDiv, Int.reduceLT, Int.reduceLE, Int.reduceToNat, Int.reduceNeg, Int.reduceSub, Int.reduceAdd, reduceIte, reduceCtorEq]
  | some j =>
    rw [hf] at this
    obtain ⟨fr, a, b⟩ := this
    simp only [Int.natCast_zero] at a
    simp only [a, b, go_sem, Nat.reduceBEq, Nat.reduceEqDiff, Nat.reduceLT, Nat.reduceLeDiff, Nat.reduceAdd, Nat.reduceMul, Nat.reduceSub, Nat.reduceDiv, Int.reduceLT, Int.reduceLE, Int.reduceToNat, Int.reduceNeg, Int.reduceSub, Int.reduceAdd, reduceIte, reduceCtorEq]
theorem s65 {id : Nat} {caps : List P} {l : List Int} (p : Int → Bool) (hlen : l.length ≤ 1000000000) (hp : ∀ x ∈ l, (EL tbl).call id (Vi x :: caps.map V.p) [] = some (Vb (p x), [])) :
    (EL tbl).call 65 [Vl l, .p (.fn id caps)] [] = some (Vb (l.any p), []) := by
  have h74 := s74 p hlen hp
  rw [call_fn' tbl (show tbl 65 = some fn65 from rfl) _ _ (Nat.le_of_ble_eq_true rfl)]
  simp only [fn65, h74, go_sem, Nat.reduceBEq, Nat.reduceEqDiff, Nat.reduceLT, Nat.reduceLeDiff, Nat.reduceAdd, Nat.reduceMul, Nat.reduceSub, Nat.reduceDiv, Int.reduceLT, Int.reduceLE, Int.reduceToNat, Int.reduceNeg, Int.reduceSub, Int.reduceAdd, reduceIte, reduceCtorEq]
  cases hf : l.findIdx? p with
  | none =>
    have : l.any p = false := by
      rw [List.any_eq_false]; intro x hx; exact (List.findIdx?_eq_none_iff.1 hf) x hx ▸ (by simp)
    simp [this]
  | some j =>
    have : l.any p = true := by
      rw [List.findIdx?_eq_some_iff_getElem] at hf
      obtain ⟨hj, h1, _⟩ := hf
      exact List.any_eq_true.2 ⟨_, List.getElem_mem hj, h1⟩
    simp [this]

/-! ### Remainders, and numbers that are handed out -/

theorem tmod_emod {x n : Int} (hn : 0 < n) : (x.tmod n < 0 → x.tmod n + n = x % n) ∧ (¬ x.tmod n < 0 → x.tmod n = x % n) := by
  have h1 : n * x.tdiv n + x.tmod n = x := Int.mul_tdiv_add_tmod x n
  have h2 : x % n = x.tmod n % n := by
    conv => lhs; rw [← h1]
    rw [Int.add_comm, Int.add_mul_emod_self_left]
  have h3 : x.tmod n < n := Int.tmod_lt_of_pos x hn
  have h4 : -n < x.tmod n := by
    have := Int.lt_tmod_of_pos x hn
    omega
  constructor
  · intro h
    rw [h2, ← Int.add_emod_right, Int.emod_eq_of_lt (by omega) (by omega)]
  · intro h
    rw [h2, Int.emod_eq_of_lt (by omega) (by omega)]

theorem s19 (x n : Int) (hn : 0 < n) (hn2 : n ≤ 4611686018427387904) : (EL tbl).call 19 [Vi x, Vi n] [] = some (Vi (x % n), []) := by
  have h0 : ¬ n = 0 := by omega
  have h3 : x.tmod n < n := Int.tmod_lt_of_pos x hn
  obtain ⟨h1, h2⟩ := tmod_emod (x := x) hn
  rw [call_fn' tbl (show tbl 19 = some fn19 from rfl) _ _ (Nat.le_of_ble_eq_true rfl)]
  by_cases h : x.tmod n < 0
  · have hw : IntKind.wrap .i64 (x.tmod n + n) = x % n := by
      have h5 := Int.emod_nonneg x h0
      have h6 := Int.emod_lt_of_pos x hn
      rw [h1 h, wrap64 (by omega) (by omega)]
    simp only [fn19, h0, h, hw, go_sem, Nat.reduceBEq, Nat.reduceEqDiff, Nat.reduceLT, Nat.reduceLeDiff, Nat.reduceAdd, Nat.reduceMul, Nat.reduceSub, Nat.reduceDiv, Int.reduceLT, Int.reduceLE, Int.reduceToNat, Int.reduceNeg, Int.reduceSub, Int.reduceAdd, reduceIte, reduceCtorEq]
  · have h' : ¬ x % n < 0 := by rw [← h2 h]; exact h
    simp only [fn19, h0, h2 h, h', go_sem, Nat.reduceBEq, Nat.reduceEqDiff, Nat.reduceLT, Nat.reduceLeDiff, Nat.reduceAdd, Nat.reduceMul, Nat.reduceSub, Nat.reduceDiv, Int.reduceLT, Int.reduceLE, Int.reduceToNat, Int.reduceNeg, Int.reduceSub, Int.reduceAdd, reduceIte, reduceCtorEq]

def nxv (L : List Int) (at_ : Nat) (n : Int) : Int := if L.length ≤ at_ then 0 else L.getD at_ 0 % n
def nxa (L : List Int) (at_ : Nat) : Nat := if L.length ≤ at_ then at_ else at_ + 1

theorem s26 (L : List Int) (k : Nat) (n : Int) (hL : L.length ≤ 9223372036854775807) (hk : k ≤ L.length) (hn : 0 < n) (hn2 : n ≤ 1000000) :
    (EL tbl).call 26 [.ptr 0 0, Vi n] [.cells [Vl L, Vi k]] = some (Vi (nxv L k n), [.cells [Vl L, Vi (nxa L k)]]) := by
  rw [call_fn' tbl (show tbl 26 = some fn26 from rfl) _ _ (Nat.le_of_ble_eq_true rfl)]
  unfold nxv nxa
  by_cases h : L.length ≤ k
  · have h1 : ((L.length : Int) ≤ (k : Int)) = True := by simp; exact h
    rw [if_pos h, if_pos h]
    simp only [fn26, fn26_P1, fn26_D1, fn26_P4, fn26_D4, h1, gc, gcIdx, range1, range2, range3, range4, range5, List.filter_cons, List.idxOf?_cons, List.idxOf?_nil, List.getD_cons_zero, List.getD_cons_succ, List.getD_nil, List.contains_cons, List.contains_nil, List.elem_nil, Nat.reduceBEq, Bool.or_false, Bool.or_true, Bool.true_or, Bool.false_or, back, rangeIn, go_sem, Nat.reduceBEq, Nat.reduceEqDiff, Nat.reduceLT, Nat.reduceLeDiff, Nat.reduceAdd, Nat.reduceMul, Nat.reduceSub, Nat.reduceDiv, Int.reduceLT, Int.reduceLE, Int.reduceToNat, Int.reduceNeg, Int.reduceSub, Int.reduceAdd, reduceIte, reduceCtorEq]
  · have h1 : ((L.length : Int) ≤ (k : Int)) = False := by simp; omega
    have h2 : ¬ n < 1 := by omega
    have h3 : L[k]? = some (L.getD k 0) := by rw [List.getD_eq_getElem?_getD, List.getElem?_eq_getElem (by omega)]; rfl
    have hw : IntKind.wrap .i64 (((k + 1 : Nat) : Int) - 1) = (k : Int) := by rw [wrap64 (by omega) (by omega)]; omega
    have e19 := s19 (L.getD k 0) n hn (by omega)
    rw [if_neg h, if_neg h]
    simp only [fn26, fn26_P1, fn26_D1, fn26_P4, fn26_D4, h1, h2, h3, hw, e19, succ64 (show k < 9223372036854775807 by omega), gc, gcIdx, range1, range2, range3, range4, range5, List.filter_cons, List.idxOf?_cons, List.idxOf?_nil, List.getD_cons_zero, List.getD_cons_succ, List.getD_nil, List.contains_cons, List.contains_nil, List.elem_nil, Nat.reduceBEq, Bool.or_false, Bool.or_true, Bool.true_or, Bool.false_or, back, rangeIn, go_sem, Nat.reduceBEq, Nat.reduceEqDiff, Nat.reduceLT, Nat.reduceLeDiff, Nat.reduceAdd, Nat.reduceMul, Nat.reduceSub, Nat.reduceDiv, Int.reduceLT, Int.reduceLE, Int.reduceToNat, Int.reduceNeg, Int.reduceSub, Int.reduceAdd, reduceIte, reduceCtorEq]

theorem nxa_le {L : List Int} {k : Nat} (h : k ≤ L.length) : nxa L k ≤ L.length := by unfold nxa; split <;> omega
theorem nxv_b (L : List Int) (k : Nat) {n : Int} (hn : 0 < n) : 0 ≤ nxv L k n ∧ nxv L k n < n := by
  unfold nxv
  split
  · omega
  · exact ⟨Int.emod_nonneg _ (by omega), Int.emod_lt_of_pos _ hn⟩

end Go.Am
