/- What some functions of this seat answer, part 0. No condition. -/
import Derived.Test.YtdhfhbmfdjnnjaaAmE
import Derived.Test.YtdhfhbmfdjnnjaaDr
namespace Go.Am
open Go
set_option linter.unusedSimpArgs false
set_option linter.unusedVariables false
set_option maxRecDepth 100000
open Go.Proofs.Ytdhfhbmfdjnnjaa.Fns
abbrev tbl := Go.Proofs.Ytdhfhbmfdjnnjaa.Fns.tree.get
end Go.Am

namespace Go.Am
open Go
set_option linter.unusedSimpArgs false
set_option linter.unusedVariables false
set_option maxRecDepth 100000
open Go.Proofs.Ytdhfhbmfdjnnjaa.Fns

/-! ### Equal lists -/

theorem L22 {l m : List Int} (hlen : l.length ≤ 1000000000) (he : l.length = m.length) {σ : Type} (Y : List P → σ → Option (Bool × σ)) (s : σ) : ∀ (r t : List Int) (k : Nat) (st : St), l.drop k = r → m.drop k = t → k ≤ l.length →
    gc 0 (liftAll [] ⟨keepOnly [0, 1, 5] st.fr, st.mem⟩) = some ⟨⟨26, [(0, Vl l), (1, Vl m), (5, Vi k)]⟩, []⟩ →
    ∃ fr, if r = t then U tbl Y 0 fn22_L0 st s = some (.exit 0, ⟨⟨26, [(0, Vl l), (1, Vl m), (5, Vi l.length), (14, Vb false)]⟩, []⟩, s) else U tbl Y 0 fn22_L0 st s = some (.ret, ⟨fr, []⟩, s) ∧ getF fr.l 4 = Vb false := by
  intro r
  induction r with
  | nil =>
    intro t k st hd ht hk hg
    have e : k = l.length := by have := drop_nil_facts hd; omega
    subst e
    have : t = [] := by rw [← ht]; exact List.drop_eq_nil_of_le (by omega)
    subst this
    rw [fn22_L0, u_loop tbl Y 0 s hg]
    simp only [fn22_B0, fn22_P6, fn22_D6, natnlt (Nat.le_refl l.length), go_sem, Nat.reduceBEq, Nat.reduceEqDiff, Nat.reduceLT, Nat.reduceLeDiff, Nat.reduceAdd, Nat.reduceMul, Nat.reduceSub, Nat.reduceDiv, Int.reduceLT, Int.reduceLE, Int.reduceToNat, Int.reduceNeg, Int.reduceSub, Int.reduceAdd, reduceIte, reduceCtorEq]
    exact ⟨default, trivial⟩
  | cons x r ih =>
    intro t k st hd ht hk hg
    obtain ⟨h1, h2, h3⟩ := drop_cons_facts hd
    cases t with
    | nil => have := drop_nil_facts ht; omega
    | cons y t =>
      obtain ⟨g1, g2, g3⟩ := drop_cons_facts ht
      rw [fn22_L0, u_loop tbl Y 0 s hg]
      by_cases hxy : x = y
      · subst hxy
        simp only [fn22_B0, fn22_P6, fn22_D6, natlt h2, h1, g1, bne_self_eq_false, succ64 (show k < 9223372036854775807 by omega), List.cons.injEq, go_sem, Nat.reduceBEq, Nat.reduceEqDiff, Nat.reduceLT, Nat.reduceLeDiff, Nat.reduceAdd, Nat.reduceMul, Nat.reduceSub, Nat.reduceDiv, Int.reduceLT, Int.reduceLE, Int.reduceToNat, Int.reduceNeg, Int.reduceSub, Int.reduceAdd, reduceIte, reduceCtorEq]
        exact ih t (k + 1) _ h3 g3 (by omega) (by simp only [go_sem, Nat.reduceBEq, Nat.reduceEqDiff, Nat.reduceLT, Nat.reduceLeDiff, Nat.reduceAdd, Nat.reduceMul, Nat.reduceSub, Nat.reduceDiv, Int.reduceLT, Int.reduceLE, Int.reduceToNat, Int.reduceNeg, Int.reduceSub, Int.reduceAdd, reduceIte, reduceCtorEq])
      · have : (x != y) = true := by simp [hxy]
        simp only [fn22_B0, fn22_P6, fn22_D6, natlt h2, h1, g1, this, hxy, List.cons.injEq, go_sem, Nat.reduceBEq, Nat.reduceEqDiff, Nat.reduceLT, Nat.reduceLeDiff, Nat.reduceAdd, Nat.reduceMul, Nat.reduceSub, Nat.reduceDiv, Int.reduceLT, Int.reduceLE, Int.reduceToNat, Int.reduceNeg, Int.reduceSub, Int.reduceAdd, reduceIte, reduceCtorEq]
        exact ⟨_, rfl, by simp only [go_sem, Nat.reduceBEq, Nat.reduceEqDiff, Nat.reduceLT, Nat.reduceLeDiff, Nat.reduceAdd, Nat.reduceMul, Nat.reduceSub, Nat.reduceDiv, Int.reduceLT, Int.reduceLE, Int.reduceToNat, Int.reduceNeg, Int.reduceSub, Int.reduceAdd, reduceIte, reduceCtorEq]⟩

theorem s22 (l m : List Int) (hlen : l.length ≤ 1000000000) : (EL tbl).call 22 [Vl l, Vl m] [] = some (Vb (decide (l = m)), []) := by
  rw [call_fn' tbl (show tbl 22 = some fn22 from rfl) _ _ (Nat.le_of_ble_eq_true rfl)]
  simp only [fn22, fn22_P6, fn22_D6, go_sem, Nat.reduceBEq, Nat.reduceEqDiff, Nat.reduceLT, Nat.reduceLeDiff, Nat.reduceAdd, Nat.reduceMul, Nat.reduceSub, Nat.reduceDiv, Int.reduceLT, Int.reduceLE, Int.reduceToNat, Int.reduceNeg, Int.reduceSub, Int.reduceAdd, reduceIte, reduceCtorEq]
  by_cases he : l.length = m.length
  · have hb : ((l.length : Int) != (m.length : Int)) = false := by simp [he]
    obtain ⟨fr, h⟩ := L22 hlen he noY () l m 0 ⟨⟨26, [(0, Vl l), (1, Vl m), (5, Vi (0 : Nat)), (10, Vb false)]⟩, []⟩ (by simp) (by simp) (by omega) (by simp only [go_sem, Nat.reduceBEq, Nat.reduceEqDiff, Nat.reduceLT, Nat.reduceLeDiff, Nat.reduceAdd, Nat.reduceMul, Nat.reduceSub, Nat.reduceDiv, Int.reduceLT, Int.reduceLE, Int.reduceToNat, Int.reduceNeg, Int.reduceSub, Int.reduceAdd, reduceIte, reduceCtorEq])
    simp only [Int.natCast_zero] at h
    by_cases hlm : l = m
    · simp only [hlm, if_true] at h
      simp only [hlm, bne_self_eq_false, h, go_sem, Nat.reduceBEq, Nat.reduceEqDiff, Nat.reduceLT, Nat.reduceLeDiff, Nat.reduceAdd, Nat.reduceMul, Nat.reduceSub, Nat.reduceDiv, Int.reduceLT, Int.reduceLE, Int.reduceToNat, Int.reduceNeg, Int.reduceSub, Int.reduceAdd, reduceIte, reduceCtorEq]
    · simp only [hlm, if_false] at h
      simp only [hb, hlm, h.1, h.2, go_sem, Nat.reduceBEq, Nat.reduceEqDiff, Nat.reduceLT, Nat.reduceLeDiff, Nat.reduceAdd, Nat.reduceMul, Nat.reduceSub, Nat.reduceDiv, Int.reduceLT, Int.reduceLE, Int.reduceToNat, Int.reduceNeg, Int.reduceSub, Int.reduceAdd, reduceIte, reduceCtorEq]
  · have hb : ((l.length : Int) != (m.length : Int)) = true := by simp; omega
    have hlm : l ≠ m := fun e => he (by rw [e])
    simp only [hb, hlm, go_sem, Nat.reduceBEq, Nat.reduceEqDiff, Nat.reduceLT, Nat.reduceLeDiff, Nat.reduceAdd, Nat.reduceMul, Nat.reduceSub, Nat.reduceDiv, Int.reduceLT, Int.reduceLE, Int.reduceToNat, Int.reduceNeg, Int.reduceSub, Int.reduceAdd, reduceIte, reduceCtorEq]

/-! ### Lists that hold something -/

theorem L74 {id : Nat} {caps : List P} {l : List Int} (p : Int → Bool) (hlen : l.length ≤ 1000000000) (hp : ∀ x ∈ l, (EL tbl).call id (Vi x :: caps.map V.p) [] = some (Vb (p x), [])) {σ : Type} (Y : List P → σ → Option (Bool × σ)) (s : σ) :
    ∀ (r : List Int) (k : Nat) (st : St), l.drop k = r → k ≤ l.length → gc 0 (liftAll [] ⟨keepOnly [0, 1, 7, 8] st.fr, st.mem⟩) = some ⟨⟨19, [(0, Vl l), (1, .p (.fn id caps)), (7, Vi l.length), (8, Vi k)]⟩, []⟩ →
      match r.findIdx? p with
      | none => U tbl Y 0 fn74_L0 st s = some (.exit 0, ⟨⟨19, [(0, Vl l), (1, .p (.fn id caps)), (7, Vi l.length), (8, Vi l.length), (9, Vb false)]⟩, []⟩, s)
      | some j => ∃ fr, U tbl Y 0 fn74_L0 st s = some (.ret, ⟨fr, []⟩, s) ∧ getF fr.l 4 = Vi (k + j : Nat) := by
  intro r
  induction r with
  | nil =>
    intro k st hd hk hg
    have hle := drop_nil_facts hd
    have e : k = l.length := by omega
    subst e
    simp only [List.findIdx?_nil]
    rw [fn74_L0, u_loop tbl Y 0 s hg]
    simp only [fn74_B0, natnlt (Nat.le_refl l.length), go_sem, Nat.reduceBEq, Nat.reduceEqDiff, Nat.reduceLT, Nat.reduceLeDiff, Nat.reduceAdd, Nat.reduceMul, Nat.reduceSub, Nat.reduceDiv, Int.reduceLT, Int.reduceLE, Int.reduceToNat, Int.reduceNeg, Int.reduceSub, Int.reduceAdd, reduceIte, reduceCtorEq]
  | cons x r ih =>
    intro k st hd hk hg
    obtain ⟨h1, h2, h3⟩ := drop_cons_facts hd
    have hx := hp x (List.mem_of_getElem? h1)
    have hgo : p x = true → ∃ fr, U tbl Y 0 fn74_L0 st s = some (.ret, ⟨fr, []⟩, s) ∧ getF fr.l 4 = Vi (k : Nat) := fun hpx => by
      rw [fn74_L0, u_loop tbl Y 0 s hg]
      simp only [fn74_B0, natlt h2, h1, hx, hpx, go_sem, Nat.reduceBEq, Nat.reduceEqDiff, Nat.reduceLT, Nat.reduceLeDiff, Nat.reduceAdd, Nat.reduceMul, Nat.reduceSub, Nat.reduceDiv, Int.reduceLT, Int.reduceLE, Int.reduceToNat, Int.reduceNeg, Int.reduceSub, Int.reduceAdd, reduceIte, reduceCtorEq]
      exact ⟨_, rfl, by simp only [go_sem, Nat.reduceBEq, Nat.reduceEqDiff, Nat.reduceLT, Nat.reduceLeDiff, Nat.reduceAdd, Nat.reduceMul, Nat.reduceSub, Nat.reduceDiv, Int.reduceLT, Int.reduceLE, Int.reduceToNat, Int.reduceNeg, Int.reduceSub, Int.reduceAdd, reduceIte, reduceCtorEq]⟩
    have hno : p x = false → ∃ st1, U tbl Y 0 fn74_L0 st s = U tbl Y 0 fn74_L0 st1 s ∧ gc 0 (liftAll [] ⟨keepOnly [0, 1, 7, 8] st1.fr, st1.mem⟩) = some ⟨⟨19, [(0, Vl l), (1, .p (.fn id caps)), (7, Vi l.length), (8, Vi (k + 1 : Nat))]⟩, []⟩ := fun hpx => by
      rw [fn74_L0, u_loop tbl Y 0 s hg]
      simp only [fn74_B0, natlt h2, h1, hx, hpx, succ64 (show k < 9223372036854775807 by omega), go_sem, Nat.reduceBEq, Nat.reduceEqDiff, Nat.reduceLT, Nat.reduceLeDiff, Nat.reduceAdd, Nat.reduceMul, Nat.reduceSub, Nat.reduceDiv, Int.reduceLT, Int.reduceLE, Int.reduceToNat, Int.reduceNeg, Int.reduceSub, Int.reduceAdd, reduceIte, reduceCtorEq]
      exact ⟨_, rfl, by simp only [go_sem, Nat.reduceBEq, Nat.reduceEqDiff, Nat.reduceLT, Nat.reduceLeDiff, Nat.reduceAdd, Nat.reduceMul, Nat.reduceSub, Nat.reduceDiv, Int.reduceLT, Int.reduceLE, Int.reduceToNat, Int.reduceNeg, Int.reduceSub, Int.reduceAdd, reduceIte, reduceCtorEq]⟩
    rw [List.findIdx?_cons]
    cases hpx : p x with
    | true => simpa using hgo hpx
    | false =>
      obtain ⟨st1, e1, e2⟩ := hno hpx
      have := ih (k + 1) st1 h3 (by omega) e2
      rw [e1]
      cases hf : r.findIdx? p with
      | none => simpa [hf] using this
      | some j => 
        rw [hf] at this
        obtain ⟨fr, a, b⟩ := this
        simp only [Bool.false_eq_true, if_false, Option.map_some]
        exact ⟨fr, a, by rw [b, show k + 1 + j = k + (j + 1) by omega]⟩

theorem s74 {id : Nat} {caps : List P} {l : List Int} (p : Int → Bool) (hlen : l.length ≤ 1000000000) (hp : ∀ x ∈ l, (EL tbl).call id (Vi x :: caps.map V.p) [] = some (Vb (p x), [])) :
    (EL tbl).call 74 [Vl l, .p (.fn id caps)] [] = some (Vi (match l.findIdx? p with | some j => (j : Int) | none => -1), []) := by
  rw [call_fn' tbl (show tbl 74 = some fn74 from rfl) _ _ (Nat.le_of_ble_eq_true rfl)]
  simp only [fn74, go_sem, Nat.reduceBEq, Nat.reduceEqDiff, Nat.reduceLT, Nat.reduceLeDiff, Nat.reduceAdd, Nat.reduceMul, Nat.reduceSub, Nat.reduceDiv, Int.reduceLT, Int.reduceLE, Int.reduceToNat, Int.reduceNeg, Int.reduceSub, Int.reduceAdd, reduceIte, reduceCtorEq]
  have := L74 p hlen hp noY () l 0 ⟨⟨19, [(0, Vl l), (1, .p (.fn id caps)), (7, Vi l.length), (8, Vi (0 : Nat))]⟩, []⟩ (by simp) (by omega) (by simp only [go_sem, Nat.reduceBEq, Nat.reduceEqDiff, Nat.reduceLT, Nat.reduceLeDiff, Nat.reduceAdd, Nat.reduceMul, Nat.reduceSub, Nat.reduceDiv, Int.reduceLT, Int.reduceLE, Int.reduceToNat, Int.reduceNeg, Int.reduceSub, Int.reduceAdd, reduceIte, reduceCtorEq])
  cases hf : l.findIdx? p with
  | none =>
    rw [hf] at this
    simp only [Int.natCast_zero] at this
    simp only [this, go_sem, Nat.reduceBEq, Nat.reduceEqDiff, Nat.reduceLT, Nat.reduceLeDiff, Nat.reduceAdd, Nat.reduceMul, Nat.reduceSub, Nat.reduceDiv, Int.reduceLT, Int.reduceLE, Int.reduceToNat, Int.reduceNeg, Int.reduceSub, Int.reduceAdd, reduceIte, reduceCtorEq]
  | some j =>
    rw [hf] at this
    obtain ⟨fr, a, b⟩ := this
    simp only [Int.natCast_zero] at a
    simp only [a, b, go_sem, Nat.reduceBEq, Nat.reduceEqDiff, Nat.reduceLT, Nat.reduceLeDiff, Nat.reduceAdd, Nat.reduceMul, Nat.reduceSub, Nat.reduceDiv, Int.reduceLT, Int.reduceLE, Int.reduceToNat, Int.reduceNeg, Int.reduceSub, Int.reduceAdd, reduceIte, reduceCtorEq]
theorem s65 {id : Nat} {caps : List P} {l : List Int} (p : Int → Bool) (hlen : l.length ≤ 1000000000) (hp : ∀ x ∈ l, (EL tbl).call id (Vi x :: caps.map V.p) [] = some (Vb (p x), [])) :
    (EL tbl).call 65 [Vl l, .p (.fn id caps)] [] = some (Vb (l.any p), []) := by
  have h74 := s74 p hlen hp
  rw [call_fn' tbl (show tbl 65 = some fn65 from rfl) _ _ (Nat.le_of_ble_eq_true rfl)]
  simp only [fn65, h74, go_sem, Nat.reduceBEq, Nat.reduceEqDiff, Nat.reduceLT, Nat.reduceLeDiff, Nat.reduceAdd, Nat.reduceMul, Nat.reduceSub, Nat.reduceDiv, Int.reduceLT, Int.reduceLE, Int.reduceToNat, Int.reduceNeg, Int.reduceSub, Int.reduceAdd, reduceIte, reduceCtorEq]
  cases hf : l.findIdx? p with
  | none =>
    have : l.any p = false := by
      rw [List.any_eq_false]; intro x hx; exact (List.findIdx?_eq_none_iff.1 hf) x hx ▸ (by simp)
    simp [this]
  | some j =>
    have : l.any p = true := by
      rw [List.findIdx?_eq_some_iff_getElem] at hf
      obtain ⟨hj, h1, _⟩ := hf
      exact List.any_eq_true.2 ⟨_, List.getElem_mem hj, h1⟩
    simp [this]

/-! ### Remainders, and numbers that are handed out -/

theorem tmod_emod {x n : Int} (hn : 0 < n) : (x.tmod n < 0 → x.tmod n + n = x % n) ∧ (¬ x.tmod n < 0 → x.tmod n = x % n) := by
  have h1 : n * x.tdiv n + x.tmod n = x := Int.mul_tdiv_add_tmod x n
  have h2 : x % n = x.tmod n % n := by
    conv => lhs; rw [← h1]
    rw [Int.add_comm, Int.add_mul_emod_self_left]
  have h3 : x.tmod n < n := Int.tmod_lt_of_pos x hn
  have h4 : -n < x.tmod n := by
    have := Int.lt_tmod_of_pos x hn
    omega
  constructor
  · intro h
    rw [h2, ← Int.add_emod_right, Int.emod_eq_of_lt (by omega) (by omega)]
  · intro h
    rw [h2, Int.emod_eq_of_lt (by omega) (by omega)]

theorem s19 (x n : Int) (hn : 0 < n) (hn2 : n ≤ 4611686018427387904) : (EL tbl).call 19 [Vi x, Vi n] [] = some (Vi (x % n), []) := by
  have h0 : ¬ n = 0 := by omega
  have h3 : x.tmod n < n := Int.tmod_lt_of_pos x hn
  obtain ⟨h1, h2⟩ := tmod_emod (x := x) hn
  rw [call_fn' tbl (show tbl 19 = some fn19 from rfl) _ _ (Nat.le_of_ble_eq_true rfl)]
  by_cases h : x.tmod n < 0
  · have hw : IntKind.wrap .i64 (x.tmod n + n) = x % n := by
      have h5 := Int.emod_nonneg x h0
      have h6 := Int.emod_lt_of_pos x hn
      rw [h1 h, wrap64 (by omega) (by omega)]
    simp only [fn19, h0, h, hw, go_sem, Nat.reduceBEq, Nat.reduceEqDiff, Nat.reduceLT, Nat.reduceLeDiff, Nat.reduceAdd, Nat.reduceMul, Nat.reduceSub, Nat.reduceDiv, Int.reduceLT, Int.reduceLE, Int.reduceToNat, Int.reduceNeg, Int.reduceSub, Int.reduceAdd, reduceIte, reduceCtorEq]
  · have h' : ¬ x % n < 0 := by rw [← h2 h]; exact h
    simp only [fn19, h0, h2 h, h', go_sem, Nat.reduceBEq, Nat.reduceEqDiff, Nat.reduceLT, Nat.reduceLeDiff, Nat.reduceAdd, Nat.reduceMul, Nat.reduceSub, Nat.reduceDiv, Int.reduceLT, Int.reduceLE, Int.reduceToNat, Int.reduceNeg, Int.reduceSub, Int.reduceAdd, reduceIte, reduceCtorEq]

def nxv (L : List Int) (at_ : Nat) (n : Int) : Int := if L.length ≤ at_ then 0 else L.getD at_ 0 % n
def nxa (L : List Int) (at_ : Nat) : Nat := if L.length ≤ at_ then at_ else at_ + 1

theorem s26 (L : List Int) (k : Nat) (n : Int) (hL : L.length ≤ 9223372036854775807) (hk : k ≤ L.length) (hn : 0 < n) (hn2 : n ≤ 1000000) :
    (EL tbl).call 26 [.ptr 0 0, Vi n] [.cells [Vl L, Vi k]] = some (Vi (nxv L k n), [.cells [Vl L, Vi (nxa L k)]]) := by
  rw [call_fn' tbl (show tbl 26 = some fn26 from rfl) _ _ (Nat.le_of_ble_eq_true rfl)]
  unfold nxv nxa
  by_cases h : L.length ≤ k
  · have h1 : ((L.length : Int) ≤ (k : Int)) = True := by simp; exact h
    rw [if_pos h, if_pos h]
    simp only [fn26, fn26_P1, fn26_D1, fn26_P4, fn26_D4, h1, gc, gcIdx, range1, range2, range3, range4, range5, List.filter_cons, List.idxOf?_cons, List.idxOf?_nil, List.getD_cons_zero, List.getD_cons_succ, List.getD_nil, List.contains_cons, List.contains_nil, List.elem_nil, Nat.reduceBEq, Bool.or_false, Bool.or_true, Bool.true_or, Bool.false_or, back, rangeIn, go_sem, Nat.reduceBEq, Nat.reduceEqDiff, Nat.reduceLT, Nat.reduceLeDiff, Nat.reduceAdd, Nat.reduceMul, Nat.reduceSub, Nat.reduceDiv, Int.reduceLT, Int.reduceLE, Int.reduceToNat, Int.reduceNeg, Int.reduceSub, Int.reduceAdd, reduceIte, reduceCtorEq]
  · have h1 : ((L.length : Int) ≤ (k : Int)) = False := by simp; omega
    have h2 : ¬ n < 1 := by omega
    have h3 : L[k]? = some (L.getD k 0) := by rw [List.getD_eq_getElem?_getD, List.getElem?_eq_getElem (by omega)]; rfl
    have hw : IntKind.wrap .i64 (((k + 1 : Nat) : Int) - 1) = (k : Int) := by rw [wrap64 (by omega) (by omega)]; omega
    have e19 := s19 (L.getD k 0) n hn (by omega)
    rw [if_neg h, if_neg h]
    simp only [fn26, fn26_P1, fn26_D1, fn26_P4, fn26_D4, h1, h2, h3, hw, e19, succ64 (show k < 9223372036854775807 by omega), gc, gcIdx, range1, range2, range3, range4, range5, List.filter_cons, List.idxOf?_cons, List.idxOf?_nil, List.getD_cons_zero, List.getD_cons_succ, List.getD_nil, List.contains_cons, List.contains_nil, List.elem_nil, Nat.reduceBEq, Bool.or_false, Bool.or_true, Bool.true_or, Bool.false_or, back, rangeIn, go_sem, Nat.reduceBEq, Nat.reduceEqDiff, Nat.reduceLT, Nat.reduceLeDiff, Nat.reduceAdd, Nat.reduceMul, Nat.reduceSub, Nat.reduceDiv, Int.reduceLT, Int.reduceLE, Int.reduceToNat, Int.reduceNeg, Int.reduceSub, Int.reduceAdd, reduceIte, reduceCtorEq]

theorem nxa_le {L : List Int} {k : Nat} (h : k ≤ L.length) : nxa L k ≤ L.length := by unfold nxa; split <;> omega
theorem nxv_b (L : List Int) (k : Nat) {n : Int} (hn : 0 < n) : 0 ≤ nxv L k n ∧ nxv L k n < n := by
  unfold nxv
  split
  · omega
  · exact ⟨Int.emod_nonneg _ (by omega), Int.emod_lt_of_pos _ hn⟩

end Go.Am

namespace Go.Am
open Go
set_option linter.unusedSimpArgs false
set_option linter.unusedVariables false
set_option maxRecDepth 100000
open Go.Proofs.Ytdhfhbmfdjnnjaa.Fns

/-! ### Games as data -/

structure Nd where
  kind : Int
  player : Int
  info : Int
  next : List Int
  weights : List Int
  pay : List Int
structure Inf where
  player : Int
  actions : Int
structure Gm where
  players : Int
  nodes : List Nd
  infos : List Inf

abbrev Pn (x : Nd) : P := .agg [Pi x.kind, Pi x.player, Pi x.info, Pl x.next, Pl x.weights, Pl x.pay]
abbrev Pf (x : Inf) : P := .agg [Pi x.player, Pi x.actions]
abbrev Pg (g : Gm) : P := .agg [Pi g.players, .sl 6 (g.nodes.map Pn), .sl 2 (g.infos.map Pf)]
abbrev Vg (g : Gm) : V := .p (Pg g)
abbrev Cg (g : Gm) : Blk := .cells [.p (Pi g.players), .p (.sl 6 (g.nodes.map Pn)), .p (.sl 2 (g.infos.map Pf))]

end Go.Am

namespace Go.Am
open Go
set_option linter.unusedSimpArgs false
set_option linter.unusedVariables false
set_option maxRecDepth 100000
open Go.Proofs.Ytdhfhbmfdjnnjaa.Fns

/-! ### Games that are too large -/

def bigN (x : Nd) : Bool := decide (80 < x.next.length) || decide (80 < x.weights.length) || decide (80 < x.pay.length)

theorem L103 {g : Gm} {σ : Type} (Y : List P → σ → Option (Bool × σ)) (z : σ) : ∀ (r : List Nd) (k : Nat) (st : St), g.nodes.drop k = r → k ≤ g.nodes.length → k ≤ 81 →
    gc 0 (liftAll [] ⟨keepOnly [1, 3] st.fr, st.mem⟩) = some ⟨⟨53, [(1, .ptr 0 0), (3, Vi k)]⟩, [Cg g]⟩ →
    if (r.take (81 - k)).any bigN then ∃ fr, U tbl Y 0 fn103_L0 st z = some (.ret, ⟨fr, [Cg g]⟩, z) ∧ getF fr.l 2 = Vb true
    else U tbl Y 0 fn103_L0 st z = some (.exit 0, ⟨⟨53, [(1, .ptr 0 0), (3, Vi (min g.nodes.length 81 : Nat)), (12, Vb false)]⟩, [Cg g]⟩, z) := by
  intro r
  induction r with
  | nil =>
    intro k st hd hk hk2 hg
    have e : k = g.nodes.length := by have := drop_nil_facts hd; omega
    subst e
    rw [List.take_nil, if_neg (by simp)]
    rw [fn103_L0, u_loop tbl Y 0 z hg]
    simp only [fn103_B0, natnlt (Nat.le_refl g.nodes.length), Nat.min_eq_left hk2, go_sem, Nat.reduceBEq, Nat.reduceEqDiff, Nat.reduceLT, Nat.reduceLeDiff, Nat.reduceAdd, Nat.reduceMul, Nat.reduceSub, Nat.reduceDiv, Int.reduceLT, Int.reduceLE, Int.reduceToNat, Int.reduceNeg, Int.reduceSub, Int.reduceAdd, reduceIte, reduceCtorEq]
  | cons x r ih =>
    intro k st hd hk hk2 hg
    obtain ⟨h1, h2, h3⟩ := drop_cons_facts hd
    by_cases h81 : k = 81
    · have c1 : ((k : Int) ≤ 80) = False := by simp; omega
      have e : min g.nodes.length 81 = k := by omega
      rw [if_neg (by simp [h81]), e]
      rw [fn103_L0, u_loop tbl Y 0 z hg]
      simp only [fn103_B0, natlt h2, c1, go_sem, Nat.reduceBEq, Nat.reduceEqDiff, Nat.reduceLT, Nat.reduceLeDiff, Nat.reduceAdd, Nat.reduceMul, Nat.reduceSub, Nat.reduceDiv, Int.reduceLT, Int.reduceLE, Int.reduceToNat, Int.reduceNeg, Int.reduceSub, Int.reduceAdd, reduceIte, reduceCtorEq]
    · have c1 : ((k : Int) ≤ 80) = True := by simp; omega
      have et : (x :: r).take (81 - k) = x :: r.take (81 - (k + 1)) := by
        rw [show 81 - k = (81 - (k + 1)) + 1 by omega, List.take_succ_cons]
      rw [et, List.any_cons]
      have hbig : bigN x = true → ∃ fr, U tbl Y 0 fn103_L0 st z = some (.ret, ⟨fr, [Cg g]⟩, z) ∧ getF fr.l 2 = Vb true := fun hb => by
        rw [fn103_L0, u_loop tbl Y 0 z hg]
        unfold bigN at hb
        by_cases b1 : (80 : Int) < x.next.length
        · simp only [fn103_B0, natlt h2, h1, c1, b1, gc, gcIdx, range1, range2, range3, range4, range5, List.filter_cons, List.idxOf?_cons, List.idxOf?_nil, List.getD_cons_zero, List.getD_cons_succ, List.getD_nil, List.contains_cons, List.contains_nil, List.elem_nil, Nat.reduceBEq, Bool.or_false, Bool.or_true, Bool.true_or, Bool.false_or, back, rangeIn, go_sem, Nat.reduceBEq, Nat.reduceEqDiff, Nat.reduceLT, Nat.reduceLeDiff, Nat.reduceAdd, Nat.reduceMul, Nat.reduceSub, Nat.reduceDiv, Int.reduceLT, Int.reduceLE, Int.reduceToNat, Int.reduceNeg, Int.reduceSub, Int.reduceAdd, reduceIte, reduceCtorEq]
          exact ⟨_, rfl, by simp only [go_sem, Nat.reduceBEq, Nat.reduceEqDiff, Nat.reduceLT, Nat.reduceLeDiff, Nat.reduceAdd, Nat.reduceMul, Nat.reduceSub, Nat.reduceDiv, Int.reduceLT, Int.reduceLE, Int.reduceToNat, Int.reduceNeg, Int.reduceSub, Int.reduceAdd, reduceIte, reduceCtorEq]⟩
        · by_cases b2 : (80 : Int) < x.weights.length
          · simp only [fn103_B0, natlt h2, h1, c1, b1, b2, gc, gcIdx, range1, range2, range3, range4, range5, List.filter_cons, List.idxOf?_cons, List.idxOf?_nil, List.getD_cons_zero, List.getD_cons_succ, List.getD_nil, List.contains_cons, List.contains_nil, List.elem_nil, Nat.reduceBEq, Bool.or_false, Bool.or_true, Bool.true_or, Bool.false_or, back, rangeIn, go_sem, Nat.reduceBEq, Nat.reduceEqDiff, Nat.reduceLT, Nat.reduceLeDiff, Nat.reduceAdd, Nat.reduceMul, Nat.reduceSub, Nat.reduceDiv, Int.reduceLT, Int.reduceLE, Int.reduceToNat, Int.reduceNeg, Int.reduceSub, Int.reduceAdd, reduceIte, reduceCtorEq]
            exact ⟨_, rfl, by simp only [go_sem, Nat.reduceBEq, Nat.reduceEqDiff, Nat.reduceLT, Nat.reduceLeDiff, Nat.reduceAdd, Nat.reduceMul, Nat.reduceSub, Nat.reduceDiv, Int.reduceLT, Int.reduceLE, Int.reduceToNat, Int.reduceNeg, Int.reduceSub, Int.reduceAdd, reduceIte, reduceCtorEq]⟩
          · have b3 : (80 : Int) < x.pay.length := by simp at hb; omega
            simp only [fn103_B0, natlt h2, h1, c1, b1, b2, b3, gc, gcIdx, range1, range2, range3, range4, range5, List.filter_cons, List.idxOf?_cons, List.idxOf?_nil, List.getD_cons_zero, List.getD_cons_succ, List.getD_nil, List.contains_cons, List.contains_nil, List.elem_nil, Nat.reduceBEq, Bool.or_false, Bool.or_true, Bool.true_or, Bool.false_or, back, rangeIn, go_sem, Nat.reduceBEq, Nat.reduceEqDiff, Nat.reduceLT, Nat.reduceLeDiff, Nat.reduceAdd, Nat.reduceMul, Nat.reduceSub, Nat.reduceDiv, Int.reduceLT, Int.reduceLE, Int.reduceToNat, Int.reduceNeg, Int.reduceSub, Int.reduceAdd, reduceIte, reduceCtorEq]
            exact ⟨_, rfl, by simp only [go_sem, Nat.reduceBEq, Nat.reduceEqDiff, Nat.reduceLT, Nat.reduceLeDiff, Nat.reduceAdd, Nat.reduceMul, Nat.reduceSub, Nat.reduceDiv, Int.reduceLT, Int.reduceLE, Int.reduceToNat, Int.reduceNeg, Int.reduceSub, Int.reduceAdd, reduceIte, reduceCtorEq]⟩
      have hno : bigN x = false → ∃ st1, U tbl Y 0 fn103_L0 st z = U tbl Y 0 fn103_L0 st1 z ∧ gc 0 (liftAll [] ⟨keepOnly [1, 3] st1.fr, st1.mem⟩) = some ⟨⟨53, [(1, .ptr 0 0), (3, Vi (k + 1 : Nat))]⟩, [Cg g]⟩ := fun hb => by
        unfold bigN at hb
        have b1 : ¬ (80 : Int) < x.next.length := by simp at hb; omega
        have b2 : ¬ (80 : Int) < x.weights.length := by simp at hb; omega
        have b3 : ¬ (80 : Int) < x.pay.length := by simp at hb; omega
        rw [fn103_L0, u_loop tbl Y 0 z hg]
        simp only [fn103_B0, natlt h2, h1, c1, b1, b2, b3, succ64 (show k < 9223372036854775807 by omega), gc, gcIdx, range1, range2, range3, range4, range5, List.filter_cons, List.idxOf?_cons, List.idxOf?_nil, List.getD_cons_zero, List.getD_cons_succ, List.getD_nil, List.contains_cons, List.contains_nil, List.elem_nil, Nat.reduceBEq, Bool.or_false, Bool.or_true, Bool.true_or, Bool.false_or, back, rangeIn, go_sem, Nat.reduceBEq, Nat.reduceEqDiff, Nat.reduceLT, Nat.reduceLeDiff, Nat.reduceAdd, Nat.reduceMul, Nat.reduceSub, Nat.reduceDiv, Int.reduceLT, Int.reduceLE, Int.reduceToNat, Int.reduceNeg, Int.reduceSub, Int.reduceAdd, reduceIte, reduceCtorEq]
        exact ⟨_, rfl, by simp only [gc, gcIdx, range1, range2, range3, range4, range5, List.filter_cons, List.idxOf?_cons, List.idxOf?_nil, List.getD_cons_zero, List.getD_cons_succ, List.getD_nil, List.contains_cons, List.contains_nil, List.elem_nil, Nat.reduceBEq, Bool.or_false, Bool.or_true, Bool.true_or, Bool.false_or, back, rangeIn, go_sem, Nat.reduceBEq, Nat.reduceEqDiff, Nat.reduceLT, Nat.reduceLeDiff, Nat.reduceAdd, Nat.reduceMul, Nat.reduceSub, Nat.reduceDiv, Int.reduceLT, Int.reduceLE, Int.reduceToNat, Int.reduceNeg, Int.reduceSub, Int.reduceAdd, reduceIte, reduceCtorEq]⟩
      cases hb : bigN x with
      | true => simpa using hbig hb
      | false =>
        obtain ⟨st1, e1, e2⟩ := hno hb
        rw [e1, Bool.false_or]
        exact ih (k + 1) st1 h3 (by omega) (by omega) e2

def bigG (g : Gm) : Bool := (g.nodes.take 81).any bigN || decide (80 < g.nodes.length) || decide (80 < g.infos.length)

theorem s103 (g : Gm) : (EL tbl).call 103 [Vg g] [] = some (Vb (bigG g), []) := by
  have h := L103 (g := g) noY () g.nodes 0 ⟨⟨53, [(1, .ptr 0 0), (3, Vi (0 : Nat))]⟩, [Cg g]⟩ (by simp) (by omega) (by omega) (by simp only [gc, gcIdx, range1, range2, range3, range4, range5, List.filter_cons, List.idxOf?_cons, List.idxOf?_nil, List.getD_cons_zero, List.getD_cons_succ, List.getD_nil, List.contains_cons, List.contains_nil, List.elem_nil, Nat.reduceBEq, Bool.or_false, Bool.or_true, Bool.true_or, Bool.false_or, back, rangeIn, go_sem, Nat.reduceBEq, Nat.reduceEqDiff, Nat.reduceLT, Nat.reduceLeDiff, Nat.reduceAdd, Nat.reduceMul, Nat.reduceSub, Nat.reduceDiv, Int.reduceLT, Int.reduceLE, Int.reduceToNat, Int.reduceNeg, Int.reduceSub, Int.reduceAdd, reduceIte, reduceCtorEq])
  rw [Nat.sub_zero] at h
  simp only [Int.natCast_zero] at h
  rw [call_fn' tbl (show tbl 103 = some fn103 from rfl) _ _ (Nat.le_of_ble_eq_true rfl)]
  unfold bigG
  cases hb : (g.nodes.take 81).any bigN with
  | true =>
    rw [if_pos hb] at h
    obtain ⟨fr, h1, h2⟩ := h
    simp only [fn103, h1, h2, gc, gcIdx, range1, range2, range3, range4, range5, List.filter_cons, List.idxOf?_cons, List.idxOf?_nil, List.getD_cons_zero, List.getD_cons_succ, List.getD_nil, List.contains_cons, List.contains_nil, List.elem_nil, Nat.reduceBEq, Bool.or_false, Bool.or_true, Bool.true_or, Bool.false_or, back, rangeIn, go_sem, Nat.reduceBEq, Nat.reduceEqDiff, Nat.reduceLT, Nat.reduceLeDiff, Nat.reduceAdd, Nat.reduceMul, Nat.reduceSub, Nat.reduceDiv, Int.reduceLT, Int.reduceLE, Int.reduceToNat, Int.reduceNeg, Int.reduceSub, Int.reduceAdd, reduceIte, reduceCtorEq]
  | false =>
    rw [if_neg (by simp [hb])] at h
    by_cases b1 : (80 : Int) < g.nodes.length
    · have b1' : 80 < g.nodes.length := by omega
      simp only [fn103, h, b1, b1', gc, gcIdx, range1, range2, range3, range4, range5, List.filter_cons, List.idxOf?_cons, List.idxOf?_nil, List.getD_cons_zero, List.getD_cons_succ, List.getD_nil, List.contains_cons, List.contains_nil, List.elem_nil, Nat.reduceBEq, Bool.or_false, Bool.or_true, Bool.true_or, Bool.false_or, back, rangeIn, go_sem, Nat.reduceBEq, Nat.reduceEqDiff, Nat.reduceLT, Nat.reduceLeDiff, Nat.reduceAdd, Nat.reduceMul, Nat.reduceSub, Nat.reduceDiv, Int.reduceLT, Int.reduceLE, Int.reduceToNat, Int.reduceNeg, Int.reduceSub, Int.reduceAdd, reduceIte, reduceCtorEq]
    · have b1' : ¬ 80 < g.nodes.length := by omega
      by_cases b2 : (80 : Int) < g.infos.length
      · have b2' : 80 < g.infos.length := by omega
        simp only [fn103, h, b1, b1', b2, b2', gc, gcIdx, range1, range2, range3, range4, range5, List.filter_cons, List.idxOf?_cons, List.idxOf?_nil, List.getD_cons_zero, List.getD_cons_succ, List.getD_nil, List.contains_cons, List.contains_nil, List.elem_nil, Nat.reduceBEq, Bool.or_false, Bool.or_true, Bool.true_or, Bool.false_or, back, rangeIn, go_sem, Nat.reduceBEq, Nat.reduceEqDiff, Nat.reduceLT, Nat.reduceLeDiff, Nat.reduceAdd, Nat.reduceMul, Nat.reduceSub, Nat.reduceDiv, Int.reduceLT, Int.reduceLE, Int.reduceToNat, Int.reduceNeg, Int.reduceSub, Int.reduceAdd, reduceIte, reduceCtorEq]
      · have b2' : ¬ 80 < g.infos.length := by omega
        simp only [fn103, h, b1, b1', b2, b2', gc, gcIdx, range1, range2, range3, range4, range5, List.filter_cons, List.idxOf?_cons, List.idxOf?_nil, List.getD_cons_zero, List.getD_cons_succ, List.getD_nil, List.contains_cons, List.contains_nil, List.elem_nil, Nat.reduceBEq, Bool.or_false, Bool.or_true, Bool.true_or, Bool.false_or, back, rangeIn, go_sem, Nat.reduceBEq, Nat.reduceEqDiff, Nat.reduceLT, Nat.reduceLeDiff, Nat.reduceAdd, Nat.reduceMul, Nat.reduceSub, Nat.reduceDiv, Int.reduceLT, Int.reduceLE, Int.reduceToNat, Int.reduceNeg, Int.reduceSub, Int.reduceAdd, reduceIte, reduceCtorEq]
end Go.Am

namespace Go.Am
open Go
set_option linter.unusedSimpArgs false
set_option linter.unusedVariables false
set_option maxRecDepth 100000
open Go.Proofs.Ytdhfhbmfdjnnjaa.Fns

/-! ### Nodes by themselves -/

def within (l : List Int) (lo hi : Int) : Bool := !(l.any fun n => decide (n < lo) || decide (hi < n))
def either (form inr : Bool) : Int := if form = false then 3 else if inr = false then 2 else 0

set_option maxHeartbeats 4000000 in
theorem s76 (a b : Bool) : (EL tbl).call 76 [Vb a, Vb b] [] = some (Vi (either a b), []) := by
  rw [call_fn' tbl (show tbl 76 = some fn76 from rfl) _ _ (Nat.le_of_ble_eq_true rfl)]
  unfold either
  cases a <;> cases b <;> simp only [fn76, go_sem, Nat.reduceBEq, Nat.reduceEqDiff, Nat.reduceLT, Nat.reduceLeDiff, Nat.reduceAdd, Nat.reduceMul, Nat.reduceSub, Nat.reduceDiv, Int.reduceLT, Int.reduceLE, Int.reduceToNat, Int.reduceNeg, Int.reduceSub, Int.reduceAdd, reduceIte, reduceCtorEq]

set_option maxHeartbeats 4000000 in
theorem s78 (n lo hi : Int) : (EL tbl).call 78 [Vi n, .p (.ptr [Pi lo]), .p (.ptr [Pi hi])] [] = some (Vb (decide (n < lo) || decide (hi < n)), []) := by
  rw [call_fn' tbl (show tbl 78 = some fn78 from rfl) _ _ (Nat.le_of_ble_eq_true rfl)]
  simp only [fn78, go_sem, Nat.reduceBEq, Nat.reduceEqDiff, Nat.reduceLT, Nat.reduceLeDiff, Nat.reduceAdd, Nat.reduceMul, Nat.reduceSub, Nat.reduceDiv, Int.reduceLT, Int.reduceLE, Int.reduceToNat, Int.reduceNeg, Int.reduceSub, Int.reduceAdd, reduceIte, reduceCtorEq]
  by_cases h1 : n < lo
  · simp only [h1, go_sem, Nat.reduceBEq, Nat.reduceEqDiff, Nat.reduceLT, Nat.reduceLeDiff, Nat.reduceAdd, Nat.reduceMul, Nat.reduceSub, Nat.reduceDiv, Int.reduceLT, Int.reduceLE, Int.reduceToNat, Int.reduceNeg, Int.reduceSub, Int.reduceAdd, reduceIte, reduceCtorEq]
    simp
  · simp only [h1, go_sem, Nat.reduceBEq, Nat.reduceEqDiff, Nat.reduceLT, Nat.reduceLeDiff, Nat.reduceAdd, Nat.reduceMul, Nat.reduceSub, Nat.reduceDiv, Int.reduceLT, Int.reduceLE, Int.reduceToNat, Int.reduceNeg, Int.reduceSub, Int.reduceAdd, reduceIte, reduceCtorEq]

set_option maxHeartbeats 4000000 in
theorem s77 (l : List Int) (lo hi : Int) (hl : l.length ≤ 1000000000) : (EL tbl).call 77 [Vl l, Vi lo, Vi hi] [] = some (Vb (within l lo hi), []) := by
  have h65 := s65 (l := l) (id := 78) (caps := [.ptr [Pi lo], .ptr [Pi hi]]) (fun n => decide (n < lo) || decide (hi < n)) hl (fun x _ => s78 x lo hi)
  rw [call_fn' tbl (show tbl 77 = some fn77 from rfl) _ _ (Nat.le_of_ble_eq_true rfl)]
  simp only [fn77, h65, gc, gcIdx, range1, range2, range3, range4, range5, List.filter_cons, List.idxOf?_cons, List.idxOf?_nil, List.getD_cons_zero, List.getD_cons_succ, List.getD_nil, List.contains_cons, List.contains_nil, List.elem_nil, Nat.reduceBEq, Bool.or_false, Bool.or_true, Bool.true_or, Bool.false_or, back, rangeIn, go_sem, Nat.reduceBEq, Nat.reduceEqDiff, Nat.reduceLT, Nat.reduceLeDiff, Nat.reduceAdd, Nat.reduceMul, Nat.reduceSub, Nat.reduceDiv, Int.reduceLT, Int.reduceLE, Int.reduceToNat, Int.reduceNeg, Int.reduceSub, Int.reduceAdd, reduceIte, reduceCtorEq]
  rfl

theorem s69 (g : Gm) (x : Nd) : (EL tbl).call 69 [Vg g, .p (Pn x)] [] = some (Vi 3, []) := by
  rw [call_fn' tbl (show tbl 69 = some fn69 from rfl) _ _ (Nat.le_of_ble_eq_true rfl)]
  simp only [fn69, gc, gcIdx, range1, range2, range3, range4, range5, List.filter_cons, List.idxOf?_cons, List.idxOf?_nil, List.getD_cons_zero, List.getD_cons_succ, List.getD_nil, List.contains_cons, List.contains_nil, List.elem_nil, Nat.reduceBEq, Bool.or_false, Bool.or_true, Bool.true_or, Bool.false_or, back, rangeIn, go_sem, Nat.reduceBEq, Nat.reduceEqDiff, Nat.reduceLT, Nat.reduceLeDiff, Nat.reduceAdd, Nat.reduceMul, Nat.reduceSub, Nat.reduceDiv, Int.reduceLT, Int.reduceLE, Int.reduceToNat, Int.reduceNeg, Int.reduceSub, Int.reduceAdd, reduceIte, reduceCtorEq]

def chF (x : Nd) : Bool := (x.player == 0) && (x.info == 0) && ((x.pay.length : Int) == 0) && decide ((1 : Int) ≤ x.next.length) && decide ((x.next.length : Int) ≤ 60) && ((x.weights.length : Int) == x.next.length)
def mvF (x : Nd) : Bool := ((x.pay.length : Int) == 0) && ((x.weights.length : Int) == 0) && decide ((1 : Int) ≤ x.next.length) && decide ((x.next.length : Int) ≤ 10)
def mvR (g : Gm) (x : Nd) : Bool := decide (0 ≤ x.player) && decide (x.player < g.players) && decide (0 ≤ x.info) && decide (x.info < (g.infos.length : Int))
def enF (g : Gm) (x : Nd) : Bool := (x.player == 0) && (x.info == 0) && ((x.next.length : Int) == 0) && ((x.weights.length : Int) == 0) && ((x.pay.length : Int) == g.players)

set_option maxHeartbeats 4000000 in
theorem s70 (g : Gm) (x : Nd) (hw : x.weights.length ≤ 2000000) : (EL tbl).call 70 [Vg g, .p (Pn x)] [] = some (Vi (either (chF x) (within x.weights 1 1000)), []) := by
  have e76 := fun a => s76 a (within x.weights 1 1000)
  have e77 := s77 x.weights 1 1000 (by omega)
  rw [call_fn' tbl (show tbl 70 = some fn70 from rfl) _ _ (Nat.le_of_ble_eq_true rfl)]
  simp only [fn70, chF, e77, e76, Bool.false_and, Bool.and_false, gc, gcIdx, range1, range2, range3, range4, range5, List.filter_cons, List.idxOf?_cons, List.idxOf?_nil, List.getD_cons_zero, List.getD_cons_succ, List.getD_nil, List.contains_cons, List.contains_nil, List.elem_nil, Nat.reduceBEq, Bool.or_false, Bool.or_true, Bool.true_or, Bool.false_or, back, rangeIn, go_sem, Nat.reduceBEq, Nat.reduceEqDiff, Nat.reduceLT, Nat.reduceLeDiff, Nat.reduceAdd, Nat.reduceMul, Nat.reduceSub, Nat.reduceDiv, Int.reduceLT, Int.reduceLE, Int.reduceToNat, Int.reduceNeg, Int.reduceSub, Int.reduceAdd, reduceIte, reduceCtorEq]
  all_goals try (rcases Bool.eq_false_or_eq_true (x.player == 0) with hc0 | hc0 <;> simp only [hc0, fn70, chF, e77, e76, Bool.false_and, Bool.and_false, gc, gcIdx, range1, range2, range3, range4, range5, List.filter_cons, List.idxOf?_cons, List.idxOf?_nil, List.getD_cons_zero, List.getD_cons_succ, List.getD_nil, List.contains_cons, List.contains_nil, List.elem_nil, Nat.reduceBEq, Bool.or_false, Bool.or_true, Bool.true_or, Bool.false_or, back, rangeIn, go_sem, Nat.reduceBEq, Nat.reduceEqDiff, Nat.reduceLT, Nat.reduceLeDiff, Nat.reduceAdd, Nat.reduceMul, Nat.reduceSub, Nat.reduceDiv, Int.reduceLT, Int.reduceLE, Int.reduceToNat, Int.reduceNeg, Int.reduceSub, Int.reduceAdd, reduceIte, reduceCtorEq])
  all_goals try (rcases Bool.eq_false_or_eq_true (x.info == 0) with hc1 | hc1 <;> simp only [hc1, fn70, chF, e77, e76, Bool.false_and, Bool.and_false, gc, gcIdx, range1, range2, range3, range4, range5, List.filter_cons, List.idxOf?_cons, List.idxOf?_nil, List.getD_cons_zero, List.getD_cons_succ, List.getD_nil, List.contains_cons, List.contains_nil, List.elem_nil, Nat.reduceBEq, Bool.or_false, Bool.or_true, Bool.true_or, Bool.false_or, back, rangeIn, go_sem, Nat.reduceBEq, Nat.reduceEqDiff, Nat.reduceLT, Nat.reduceLeDiff, Nat.reduceAdd, Nat.reduceMul, Nat.reduceSub, Nat.reduceDiv, Int.reduceLT, Int.reduceLE, Int.reduceToNat, Int.reduceNeg, Int.reduceSub, Int.reduceAdd, reduceIte, reduceCtorEq])
  all_goals try (rcases Bool.eq_false_or_eq_true ((x.pay.length : Int) == 0) with hc2 | hc2 <;> simp only [hc2, fn70, chF, e77, e76, Bool.false_and, Bool.and_false, gc, gcIdx, range1, range2, range3, range4, range5, List.filter_cons, List.idxOf?_cons, List.idxOf?_nil, List.getD_cons_zero, List.getD_cons_succ, List.getD_nil, List.contains_cons, List.contains_nil, List.elem_nil, Nat.reduceBEq, Bool.or_false, Bool.or_true, Bool.true_or, Bool.false_or, back, rangeIn, go_sem, Nat.reduceBEq, Nat.reduceEqDiff, Nat.reduceLT, Nat.reduceLeDiff, Nat.reduceAdd, Nat.reduceMul, Nat.reduceSub, Nat.reduceDiv, Int.reduceLT, Int.reduceLE, Int.reduceToNat, Int.reduceNeg, Int.reduceSub, Int.reduceAdd, reduceIte, reduceCtorEq])
  all_goals try (rcases Bool.eq_false_or_eq_true (decide ((1 : Int) ≤ x.next.length)) with hc3 | hc3 <;> simp only [hc3, fn70, chF, e77, e76, Bool.false_and, Bool.and_false, gc, gcIdx, range1, range2, range3, range4, range5, List.filter_cons, List.idxOf?_cons, List.idxOf?_nil, List.getD_cons_zero, List.getD_cons_succ, List.getD_nil, List.contains_cons, List.contains_nil, List.elem_nil, Nat.reduceBEq, Bool.or_false, Bool.or_true, Bool.true_or, Bool.false_or, back, rangeIn, go_sem, Nat.reduceBEq, Nat.reduceEqDiff, Nat.reduceLT, Nat.reduceLeDiff, Nat.reduceAdd, Nat.reduceMul, Nat.reduceSub, Nat.reduceDiv, Int.reduceLT, Int.reduceLE, Int.reduceToNat, Int.reduceNeg, Int.reduceSub, Int.reduceAdd, reduceIte, reduceCtorEq])
  all_goals try (rcases Bool.eq_false_or_eq_true (decide ((x.next.length : Int) ≤ 60)) with hc4 | hc4 <;> simp only [hc4, fn70, chF, e77, e76, Bool.false_and, Bool.and_false, gc, gcIdx, range1, range2, range3, range4, range5, List.filter_cons, List.idxOf?_cons, List.idxOf?_nil, List.getD_cons_zero, List.getD_cons_succ, List.getD_nil, List.contains_cons, List.contains_nil, List.elem_nil, Nat.reduceBEq, Bool.or_false, Bool.or_true, Bool.true_or, Bool.false_or, back, rangeIn, go_sem, Nat.reduceBEq, Nat.reduceEqDiff, Nat.reduceLT, Nat.reduceLeDiff, Nat.reduceAdd, Nat.reduceMul, Nat.reduceSub, Nat.reduceDiv, Int.reduceLT, Int.reduceLE, Int.reduceToNat, Int.reduceNeg, Int.reduceSub, Int.reduceAdd, reduceIte, reduceCtorEq])
  all_goals try (rcases Bool.eq_false_or_eq_true ((x.weights.length : Int) == x.next.length) with hc5 | hc5 <;> simp only [hc5, fn70, chF, e77, e76, Bool.false_and, Bool.and_false, gc, gcIdx, range1, range2, range3, range4, range5, List.filter_cons, List.idxOf?_cons, List.idxOf?_nil, List.getD_cons_zero, List.getD_cons_succ, List.getD_nil, List.contains_cons, List.contains_nil, List.elem_nil, Nat.reduceBEq, Bool.or_false, Bool.or_true, Bool.true_or, Bool.false_or, back, rangeIn, go_sem, Nat.reduceBEq, Nat.reduceEqDiff, Nat.reduceLT, Nat.reduceLeDiff, Nat.reduceAdd, Nat.reduceMul, Nat.reduceSub, Nat.reduceDiv, Int.reduceLT, Int.reduceLE, Int.reduceToNat, Int.reduceNeg, Int.reduceSub, Int.reduceAdd, reduceIte, reduceCtorEq])

set_option maxHeartbeats 4000000 in
theorem s71 (g : Gm) (x : Nd) : (EL tbl).call 71 [Vg g, .p (Pn x)] [] = some (Vi (either (mvF x) (mvR g x)), []) := by
  have e76 := fun a b => s76 a b
  rw [call_fn' tbl (show tbl 71 = some fn71 from rfl) _ _ (Nat.le_of_ble_eq_true rfl)]
  simp only [fn71, mvF, mvR, e76, Bool.false_and, Bool.and_false, gc, gcIdx, range1, range2, range3, range4, range5, List.filter_cons, List.idxOf?_cons, List.idxOf?_nil, List.getD_cons_zero, List.getD_cons_succ, List.getD_nil, List.contains_cons, List.contains_nil, List.elem_nil, Nat.reduceBEq, Bool.or_false, Bool.or_true, Bool.true_or, Bool.false_or, back, rangeIn, go_sem, Nat.reduceBEq, Nat.reduceEqDiff, Nat.reduceLT, Nat.reduceLeDiff, Nat.reduceAdd, Nat.reduceMul, Nat.reduceSub, Nat.reduceDiv, Int.reduceLT, Int.reduceLE, Int.reduceToNat, Int.reduceNeg, Int.reduceSub, Int.reduceAdd, reduceIte, reduceCtorEq]
  all_goals try (rcases Bool.eq_false_or_eq_true ((x.pay.length : Int) == 0) with hc0 | hc0 <;> simp only [hc0, fn71, mvF, mvR, e76, Bool.false_and, Bool.and_false, gc, gcIdx, range1, range2, range3, range4, range5, List.filter_cons, List.idxOf?_cons, List.idxOf?_nil, List.getD_cons_zero, List.getD_cons_succ, List.getD_nil, List.contains_cons, List.contains_nil, List.elem_nil, Nat.reduceBEq, Bool.or_false, Bool.or_true, Bool.true_or, Bool.false_or, back, rangeIn, go_sem, Nat.reduceBEq, Nat.reduceEqDiff, Nat.reduceLT, Nat.reduceLeDiff, Nat.reduceAdd, Nat.reduceMul, Nat.reduceSub, Nat.reduceDiv, Int.reduceLT, Int.reduceLE, Int.reduceToNat, Int.reduceNeg, Int.reduceSub, Int.reduceAdd, reduceIte, reduceCtorEq])
  all_goals try (rcases Bool.eq_false_or_eq_true ((x.weights.length : Int) == 0) with hc1 | hc1 <;> simp only [hc1, fn71, mvF, mvR, e76, Bool.false_and, Bool.and_false, gc, gcIdx, range1, range2, range3, range4, range5, List.filter_cons, List.idxOf?_cons, List.idxOf?_nil, List.getD_cons_zero, List.getD_cons_succ, List.getD_nil, List.contains_cons, List.contains_nil, List.elem_nil, Nat.reduceBEq, Bool.or_false, Bool.or_true, Bool.true_or, Bool.false_or, back, rangeIn, go_sem, Nat.reduceBEq, Nat.reduceEqDiff, Nat.reduceLT, Nat.reduceLeDiff, Nat.reduceAdd, Nat.reduceMul, Nat.reduceSub, Nat.reduceDiv, Int.reduceLT, Int.reduceLE, Int.reduceToNat, Int.reduceNeg, Int.reduceSub, Int.reduceAdd, reduceIte, reduceCtorEq])
  all_goals try (rcases Bool.eq_false_or_eq_true (decide ((1 : Int) ≤ x.next.length)) with hc2 | hc2 <;> simp only [hc2, fn71, mvF, mvR, e76, Bool.false_and, Bool.and_false, gc, gcIdx, range1, range2, range3, range4, range5, List.filter_cons, List.idxOf?_cons, List.idxOf?_nil, List.getD_cons_zero, List.getD_cons_succ, List.getD_nil, List.contains_cons, List.contains_nil, List.elem_nil, Nat.reduceBEq, Bool.or_false, Bool.or_true, Bool.true_or, Bool.false_or, back, rangeIn, go_sem, Nat.reduceBEq, Nat.reduceEqDiff, Nat.reduceLT, Nat.reduceLeDiff, Nat.reduceAdd, Nat.reduceMul, Nat.reduceSub, Nat.reduceDiv, Int.reduceLT, Int.reduceLE, Int.reduceToNat, Int.reduceNeg, Int.reduceSub, Int.reduceAdd, reduceIte, reduceCtorEq])
  all_goals try (rcases Bool.eq_false_or_eq_true (decide ((x.next.length : Int) ≤ 10)) with hc3 | hc3 <;> simp only [hc3, fn71, mvF, mvR, e76, Bool.false_and, Bool.and_false, gc, gcIdx, range1, range2, range3, range4, range5, List.filter_cons, List.idxOf?_cons, List.idxOf?_nil, List.getD_cons_zero, List.getD_cons_succ, List.getD_nil, List.contains_cons, List.contains_nil, List.elem_nil, Nat.reduceBEq, Bool.or_false, Bool.or_true, Bool.true_or, Bool.false_or, back, rangeIn, go_sem, Nat.reduceBEq, Nat.reduceEqDiff, Nat.reduceLT, Nat.reduceLeDiff, Nat.reduceAdd, Nat.reduceMul, Nat.reduceSub, Nat.reduceDiv, Int.reduceLT, Int.reduceLE, Int.reduceToNat, Int.reduceNeg, Int.reduceSub, Int.reduceAdd, reduceIte, reduceCtorEq])
  all_goals try (rcases Bool.eq_false_or_eq_true (decide (0 ≤ x.player)) with hc4 | hc4 <;> simp only [hc4, fn71, mvF, mvR, e76, Bool.false_and, Bool.and_false, gc, gcIdx, range1, range2, range3, range4, range5, List.filter_cons, List.idxOf?_cons, List.idxOf?_nil, List.getD_cons_zero, List.getD_cons_succ, List.getD_nil, List.contains_cons, List.contains_nil, List.elem_nil, Nat.reduceBEq, Bool.or_false, Bool.or_true, Bool.true_or, Bool.false_or, back, rangeIn, go_sem, Nat.reduceBEq, Nat.reduceEqDiff, Nat.reduceLT, Nat.reduceLeDiff, Nat.reduceAdd, Nat.reduceMul, Nat.reduceSub, Nat.reduceDiv, Int.reduceLT, Int.reduceLE, Int.reduceToNat, Int.reduceNeg, Int.reduceSub, Int.reduceAdd, reduceIte, reduceCtorEq])
  all_goals try (rcases Bool.eq_false_or_eq_true (decide (x.player < g.players)) with hc5 | hc5 <;> simp only [hc5, fn71, mvF, mvR, e76, Bool.false_and, Bool.and_false, gc, gcIdx, range1, range2, range3, range4, range5, List.filter_cons, List.idxOf?_cons, List.idxOf?_nil, List.getD_cons_zero, List.getD_cons_succ, List.getD_nil, List.contains_cons, List.contains_nil, List.elem_nil, Nat.reduceBEq, Bool.or_false, Bool.or_true, Bool.true_or, Bool.false_or, back, rangeIn, go_sem, Nat.reduceBEq, Nat.reduceEqDiff, Nat.reduceLT, Nat.reduceLeDiff, Nat.reduceAdd, Nat.reduceMul, Nat.reduceSub, Nat.reduceDiv, Int.reduceLT, Int.reduceLE, Int.reduceToNat, Int.reduceNeg, Int.reduceSub, Int.reduceAdd, reduceIte, reduceCtorEq])
  all_goals try (rcases Bool.eq_false_or_eq_true (decide (0 ≤ x.info)) with hc6 | hc6 <;> simp only [hc6, fn71, mvF, mvR, e76, Bool.false_and, Bool.and_false, gc, gcIdx, range1, range2, range3, range4, range5, List.filter_cons, List.idxOf?_cons, List.idxOf?_nil, List.getD_cons_zero, List.getD_cons_succ, List.getD_nil, List.contains_cons, List.contains_nil, List.elem_nil, Nat.reduceBEq, Bool.or_false, Bool.or_true, Bool.true_or, Bool.false_or, back, rangeIn, go_sem, Nat.reduceBEq, Nat.reduceEqDiff, Nat.reduceLT, Nat.reduceLeDiff, Nat.reduceAdd, Nat.reduceMul, Nat.reduceSub, Nat.reduceDiv, Int.reduceLT, Int.reduceLE, Int.reduceToNat, Int.reduceNeg, Int.reduceSub, Int.reduceAdd, reduceIte, reduceCtorEq])
  all_goals try (rcases Bool.eq_false_or_eq_true (decide (x.info < (g.infos.length : Int))) with hc7 | hc7 <;> simp only [hc7, fn71, mvF, mvR, e76, Bool.false_and, Bool.and_false, gc, gcIdx, range1, range2, range3, range4, range5, List.filter_cons, List.idxOf?_cons, List.idxOf?_nil, List.getD_cons_zero, List.getD_cons_succ, List.getD_nil, List.contains_cons, List.contains_nil, List.elem_nil, Nat.reduceBEq, Bool.or_false, Bool.or_true, Bool.true_or, Bool.false_or, back, rangeIn, go_sem, Nat.reduceBEq, Nat.reduceEqDiff, Nat.reduceLT, Nat.reduceLeDiff, Nat.reduceAdd, Nat.reduceMul, Nat.reduceSub, Nat.reduceDiv, Int.reduceLT, Int.reduceLE, Int.reduceToNat, Int.reduceNeg, Int.reduceSub, Int.reduceAdd, reduceIte, reduceCtorEq])

set_option maxHeartbeats 4000000 in
theorem s72 (g : Gm) (x : Nd) (hw : x.pay.length ≤ 2000000) : (EL tbl).call 72 [Vg g, .p (Pn x)] [] = some (Vi (either (enF g x) (within x.pay (-1000000) 1000000)), []) := by
  have e76 := fun a => s76 a (within x.pay (-1000000) 1000000)
  have e77 := s77 x.pay (-1000000) 1000000 (by omega)
  rw [call_fn' tbl (show tbl 72 = some fn72 from rfl) _ _ (Nat.le_of_ble_eq_true rfl)]
  simp only [fn72, enF, e77, e76, Bool.false_and, Bool.and_false, gc, gcIdx, range1, range2, range3, range4, range5, List.filter_cons, List.idxOf?_cons, List.idxOf?_nil, List.getD_cons_zero, List.getD_cons_succ, List.getD_nil, List.contains_cons, List.contains_nil, List.elem_nil, Nat.reduceBEq, Bool.or_false, Bool.or_true, Bool.true_or, Bool.false_or, back, rangeIn, go_sem, Nat.reduceBEq, Nat.reduceEqDiff, Nat.reduceLT, Nat.reduceLeDiff, Nat.reduceAdd, Nat.reduceMul, Nat.reduceSub, Nat.reduceDiv, Int.reduceLT, Int.reduceLE, Int.reduceToNat, Int.reduceNeg, Int.reduceSub, Int.reduceAdd, reduceIte, reduceCtorEq]
  all_goals try (rcases Bool.eq_false_or_eq_true (x.player == 0) with hc0 | hc0 <;> simp only [hc0, fn72, enF, e77, e76, Bool.false_and, Bool.and_false, gc, gcIdx, range1, range2, range3, range4, range5, List.filter_cons, List.idxOf?_cons, List.idxOf?_nil, List.getD_cons_zero, List.getD_cons_succ, List.getD_nil, List.contains_cons, List.contains_nil, List.elem_nil, Nat.reduceBEq, Bool.or_false, Bool.or_true, Bool.true_or, Bool.false_or, back, rangeIn, go_sem, Nat.reduceBEq, Nat.reduceEqDiff, Nat.reduceLT, Nat.reduceLeDiff, Nat.reduceAdd, Nat.reduceMul, Nat.reduceSub, Nat.reduceDiv, Int.reduceLT, Int.reduceLE, Int.reduceToNat, Int.reduceNeg, Int.reduceSub, Int.reduceAdd, reduceIte, reduceCtorEq])
  all_goals try (rcases Bool.eq_false_or_eq_true (x.info == 0) with hc1 | hc1 <;> simp only [hc1, fn72, enF, e77, e76, Bool.false_and, Bool.and_false, gc, gcIdx, range1, range2, range3, range4, range5, List.filter_cons, List.idxOf?_cons, List.idxOf?_nil, List.getD_cons_zero, List.getD_cons_succ, List.getD_nil, List.contains_cons, List.contains_nil, List.elem_nil, Nat.reduceBEq, Bool.or_false, Bool.or_true, Bool.true_or, Bool.false_or, back, rangeIn, go_sem, Nat.reduceBEq, Nat.reduceEqDiff, Nat.reduceLT, Nat.reduceLeDiff, Nat.reduceAdd, Nat.reduceMul, Nat.reduceSub, Nat.reduceDiv, Int.reduceLT, Int.reduceLE, Int.reduceToNat, Int.reduceNeg, Int.reduceSub, Int.reduceAdd, reduceIte, reduceCtorEq])
  all_goals try (rcases Bool.eq_false_or_eq_true ((x.next.length : Int) == 0) with hc2 | hc2 <;> simp only [hc2, fn72, enF, e77, e76, Bool.false_and, Bool.and_false, gc, gcIdx, range1, range2, range3, range4, range5, List.filter_cons, List.idxOf?_cons, List.idxOf?_nil, List.getD_cons_zero, List.getD_cons_succ, List.getD_nil, List.contains_cons, List.contains_nil, List.elem_nil, Nat.reduceBEq, Bool.or_false, Bool.or_true, Bool.true_or, Bool.false_or, back, rangeIn, go_sem, Nat.reduceBEq, Nat.reduceEqDiff, Nat.reduceLT, Nat.reduceLeDiff, Nat.reduceAdd, Nat.reduceMul, Nat.reduceSub, Nat.reduceDiv, Int.reduceLT, Int.reduceLE, Int.reduceToNat, Int.reduceNeg, Int.reduceSub, Int.reduceAdd, reduceIte, reduceCtorEq])
  all_goals try (rcases Bool.eq_false_or_eq_true ((x.weights.length : Int) == 0) with hc3 | hc3 <;> simp only [hc3, fn72, enF, e77, e76, Bool.false_and, Bool.and_false, gc, gcIdx, range1, range2, range3, range4, range5, List.filter_cons, List.idxOf?_cons, List.idxOf?_nil, List.getD_cons_zero, List.getD_cons_succ, List.getD_nil, List.contains_cons, List.contains_nil, List.elem_nil, Nat.reduceBEq, Bool.or_false, Bool.or_true, Bool.true_or, Bool.false_or, back, rangeIn, go_sem, Nat.reduceBEq, Nat.reduceEqDiff, Nat.reduceLT, Nat.reduceLeDiff, Nat.reduceAdd, Nat.reduceMul, Nat.reduceSub, Nat.reduceDiv, Int.reduceLT, Int.reduceLE, Int.reduceToNat, Int.reduceNeg, Int.reduceSub, Int.reduceAdd, reduceIte, reduceCtorEq])
  all_goals try (rcases Bool.eq_false_or_eq_true ((x.pay.length : Int) == g.players) with hc4 | hc4 <;> simp only [hc4, fn72, enF, e77, e76, Bool.false_and, Bool.and_false, gc, gcIdx, range1, range2, range3, range4, range5, List.filter_cons, List.idxOf?_cons, List.idxOf?_nil, List.getD_cons_zero, List.getD_cons_succ, List.getD_nil, List.contains_cons, List.contains_nil, List.elem_nil, Nat.reduceBEq, Bool.or_false, Bool.or_true, Bool.true_or, Bool.false_or, back, rangeIn, go_sem, Nat.reduceBEq, Nat.reduceEqDiff, Nat.reduceLT, Nat.reduceLeDiff, Nat.reduceAdd, Nat.reduceMul, Nat.reduceSub, Nat.reduceDiv, Int.reduceLT, Int.reduceLE, Int.reduceToNat, Int.reduceNeg, Int.reduceSub, Int.reduceAdd, reduceIte, reduceCtorEq])
end Go.Am

namespace Go.Am
open Go
set_option linter.unusedSimpArgs false
set_option linter.unusedVariables false
set_option maxRecDepth 100000
open Go.Proofs.Ytdhfhbmfdjnnjaa.Fns

/-- What a node by itself is told. -/
def nodeE (g : Gm) (x : Nd) : Int :=
  if x.kind = 1 then either (chF x) (within x.weights 1 1000) else if x.kind = 2 then either (mvF x) (mvR g x) else if x.kind = 3 then either (enF g x) (within x.pay (-1000000) 1000000) else 3

set_option maxHeartbeats 4000000 in
theorem s50 (g : Gm) (x : Nd) (hw : x.weights.length ≤ 2000000) (hp : x.pay.length ≤ 2000000) : (EL tbl).call 50 [Vg g, .p (Pn x)] [] = some (Vi (nodeE g x), []) := by
  have e69 := s69 g x
  have e70 := s70 g x hw
  have e71 := s71 g x
  have e72 := s72 g x hp
  unfold nodeE
  obtain ⟨k, pl, inf, nx, ws, py⟩ := x
  simp only at e70 e72 e69 e71 hw hp ⊢
  rw [call_fn' tbl (show tbl 50 = some fn50 from rfl) _ _ (Nat.le_of_ble_eq_true rfl)]
  by_cases h1 : k < 0
  · rw [if_neg (by omega), if_neg (by omega), if_neg (by omega)]
    simp only [fn50, fn50_P4, fn50_D4, h1, e69, gc, gcIdx, range1, range2, range3, range4, range5, List.filter_cons, List.idxOf?_cons, List.idxOf?_nil, List.getD_cons_zero, List.getD_cons_succ, List.getD_nil, List.contains_cons, List.contains_nil, List.elem_nil, Nat.reduceBEq, Bool.or_false, Bool.or_true, Bool.true_or, Bool.false_or, back, rangeIn, go_sem, Nat.reduceBEq, Nat.reduceEqDiff, Nat.reduceLT, Nat.reduceLeDiff, Nat.reduceAdd, Nat.reduceMul, Nat.reduceSub, Nat.reduceDiv, Int.reduceLT, Int.reduceLE, Int.reduceToNat, Int.reduceNeg, Int.reduceSub, Int.reduceAdd, reduceIte, reduceCtorEq]
  · by_cases h2 : 4 ≤ k
    · rw [if_neg (by omega), if_neg (by omega), if_neg (by omega)]
      simp only [fn50, fn50_P4, fn50_D4, h1, h2, e69, gc, gcIdx, range1, range2, range3, range4, range5, List.filter_cons, List.idxOf?_cons, List.idxOf?_nil, List.getD_cons_zero, List.getD_cons_succ, List.getD_nil, List.contains_cons, List.contains_nil, List.elem_nil, Nat.reduceBEq, Bool.or_false, Bool.or_true, Bool.true_or, Bool.false_or, back, rangeIn, go_sem, Nat.reduceBEq, Nat.reduceEqDiff, Nat.reduceLT, Nat.reduceLeDiff, Nat.reduceAdd, Nat.reduceMul, Nat.reduceSub, Nat.reduceDiv, Int.reduceLT, Int.reduceLE, Int.reduceToNat, Int.reduceNeg, Int.reduceSub, Int.reduceAdd, reduceIte, reduceCtorEq]
    · obtain rfl | rfl | rfl | rfl : k = 0 ∨ k = 1 ∨ k = 2 ∨ k = 3 := by omega
      · simp only [fn50, fn50_P4, fn50_D4, e69, Int.reduceEq, gc, gcIdx, range1, range2, range3, range4, range5, List.filter_cons, List.idxOf?_cons, List.idxOf?_nil, List.getD_cons_zero, List.getD_cons_succ, List.getD_nil, List.contains_cons, List.contains_nil, List.elem_nil, Nat.reduceBEq, Bool.or_false, Bool.or_true, Bool.true_or, Bool.false_or, back, rangeIn, go_sem, Nat.reduceBEq, Nat.reduceEqDiff, Nat.reduceLT, Nat.reduceLeDiff, Nat.reduceAdd, Nat.reduceMul, Nat.reduceSub, Nat.reduceDiv, Int.reduceLT, Int.reduceLE, Int.reduceToNat, Int.reduceNeg, Int.reduceSub, Int.reduceAdd, reduceIte, reduceCtorEq]
      · simp only [fn50, fn50_P4, fn50_D4, e70, Int.reduceEq, gc, gcIdx, range1, range2, range3, range4, range5, List.filter_cons, List.idxOf?_cons, List.idxOf?_nil, List.getD_cons_zero, List.getD_cons_succ, List.getD_nil, List.contains_cons, List.contains_nil, List.elem_nil, Nat.reduceBEq, Bool.or_false, Bool.or_true, Bool.true_or, Bool.false_or, back, rangeIn, go_sem, Nat.reduceBEq, Nat.reduceEqDiff, Nat.reduceLT, Nat.reduceLeDiff, Nat.reduceAdd, Nat.reduceMul, Nat.reduceSub, Nat.reduceDiv, Int.reduceLT, Int.reduceLE, Int.reduceToNat, Int.reduceNeg, Int.reduceSub, Int.reduceAdd, reduceIte, reduceCtorEq]
      · simp only [fn50, fn50_P4, fn50_D4, e71, Int.reduceEq, gc, gcIdx, range1, range2, range3, range4, range5, List.filter_cons, List.idxOf?_cons, List.idxOf?_nil, List.getD_cons_zero, List.getD_cons_succ, List.getD_nil, List.contains_cons, List.contains_nil, List.elem_nil, Nat.reduceBEq, Bool.or_false, Bool.or_true, Bool.true_or, Bool.false_or, back, rangeIn, go_sem, Nat.reduceBEq, Nat.reduceEqDiff, Nat.reduceLT, Nat.reduceLeDiff, Nat.reduceAdd, Nat.reduceMul, Nat.reduceSub, Nat.reduceDiv, Int.reduceLT, Int.reduceLE, Int.reduceToNat, Int.reduceNeg, Int.reduceSub, Int.reduceAdd, reduceIte, reduceCtorEq]
      · simp only [fn50, fn50_P4, fn50_D4, e72, Int.reduceEq, gc, gcIdx, range1, range2, range3, range4, range5, List.filter_cons, List.idxOf?_cons, List.idxOf?_nil, List.getD_cons_zero, List.getD_cons_succ, List.getD_nil, List.contains_cons, List.contains_nil, List.elem_nil, Nat.reduceBEq, Bool.or_false, Bool.or_true, Bool.true_or, Bool.false_or, back, rangeIn, go_sem, Nat.reduceBEq, Nat.reduceEqDiff, Nat.reduceLT, Nat.reduceLeDiff, Nat.reduceAdd, Nat.reduceMul, Nat.reduceSub, Nat.reduceDiv, Int.reduceLT, Int.reduceLE, Int.reduceToNat, Int.reduceNeg, Int.reduceSub, Int.reduceAdd, reduceIte, reduceCtorEq]
end Go.Am

namespace Go.Am
open Go
set_option linter.unusedSimpArgs false
set_option linter.unusedVariables false
set_option maxRecDepth 100000
open Go.Proofs.Ytdhfhbmfdjnnjaa.Fns

abbrev Cn (x : Nd) : Blk := .cells [.p (Pi x.kind), .p (Pi x.player), .p (Pi x.info), .p (Pl x.next), .p (Pl x.weights), .p (Pl x.pay)]

theorem within_cons (y : Int) (r : List Int) (lo hi : Int) : within (y :: r) lo hi = (!(decide (y < lo) || decide (hi < y)) && within r lo hi) := by
  simp [within, List.any_cons, Bool.not_or]

set_option maxHeartbeats 4000000 in
theorem L58_0 {x : Nd} (hl : x.weights.length ≤ 2000000) {σ : Type} (Y : List P → σ → Option (Bool × σ)) (z : σ) : ∀ (r : List Int) (k : Nat) (st : St), x.weights.drop k = r → k ≤ x.weights.length →
    gc 0 (liftAll [] ⟨keepOnly [3, 5] st.fr, st.mem⟩) = some ⟨⟨165, [(3, .ptr 0 0), (5, Vi k)]⟩, [Cn x]⟩ →
    if within r 1 1000 = true then U tbl Y 0 fn58_L0 st z = some (.exit 1, ⟨⟨165, [(3, .ptr 0 0), (5, Vi x.weights.length), (50, Vb false)]⟩, [Cn x]⟩, z)
    else ∃ fr, U tbl Y 0 fn58_L0 st z = some (.ret, ⟨fr, [Cn x]⟩, z) ∧ getF fr.l 4 = Vi 2 := by
  intro r
  induction r with
  | nil =>
    intro k st hd hk hg
    have e : k = x.weights.length := by have := drop_nil_facts hd; omega
    subst e
    rw [if_pos (show within [] 1 1000 = true from rfl)]
    rw [fn58_L0, u_loop tbl Y 0 z hg]
    simp only [fn58_B0, natnlt (Nat.le_refl x.weights.length), go_sem, Nat.reduceBEq, Nat.reduceEqDiff, Nat.reduceLT, Nat.reduceLeDiff, Nat.reduceAdd, Nat.reduceMul, Nat.reduceSub, Nat.reduceDiv, Int.reduceLT, Int.reduceLE, Int.reduceToNat, Int.reduceNeg, Int.reduceSub, Int.reduceAdd, reduceIte, reduceCtorEq]
  | cons y r ih =>
    intro k st hd hk hg
    obtain ⟨h1, h2, h3⟩ := drop_cons_facts hd
    have hno : (decide (y < 1) || decide (1000 < y)) = true → ∃ fr, U tbl Y 0 fn58_L0 st z = some (.ret, ⟨fr, [Cn x]⟩, z) ∧ getF fr.l 4 = Vi 2 := fun hb => by
      rw [fn58_L0, u_loop tbl Y 0 z hg]
      by_cases b1 : y < 1
      · simp only [fn58_B0, natlt h2, h1, b1, gc, gcIdx, range1, range2, range3, range4, range5, List.filter_cons, List.idxOf?_cons, List.idxOf?_nil, List.getD_cons_zero, List.getD_cons_succ, List.getD_nil, List.contains_cons, List.contains_nil, List.elem_nil, Nat.reduceBEq, Bool.or_false, Bool.or_true, Bool.true_or, Bool.false_or, back, rangeIn, go_sem, Nat.reduceBEq, Nat.reduceEqDiff, Nat.reduceLT, Nat.reduceLeDiff, Nat.reduceAdd, Nat.reduceMul, Nat.reduceSub, Nat.reduceDiv, Int.reduceLT, Int.reduceLE, Int.reduceToNat, Int.reduceNeg, Int.reduceSub, Int.reduceAdd, reduceIte, reduceCtorEq]
        exact ⟨_, rfl, by simp only [go_sem, Nat.reduceBEq, Nat.reduceEqDiff, Nat.reduceLT, Nat.reduceLeDiff, Nat.reduceAdd, Nat.reduceMul, Nat.reduceSub, Nat.reduceDiv, Int.reduceLT, Int.reduceLE, Int.reduceToNat, Int.reduceNeg, Int.reduceSub, Int.reduceAdd, reduceIte, reduceCtorEq]⟩
      · have b2 : 1000 < y := by simp at hb; omega
        simp only [fn58_B0, natlt h2, h1, b1, b2, gc, gcIdx, range1, range2, range3, range4, range5, List.filter_cons, List.idxOf?_cons, List.idxOf?_nil, List.getD_cons_zero, List.getD_cons_succ, List.getD_nil, List.contains_cons, List.contains_nil, List.elem_nil, Nat.reduceBEq, Bool.or_false, Bool.or_true, Bool.true_or, Bool.false_or, back, rangeIn, go_sem, Nat.reduceBEq, Nat.reduceEqDiff, Nat.reduceLT, Nat.reduceLeDiff, Nat.reduceAdd, Nat.reduceMul, Nat.reduceSub, Nat.reduceDiv, Int.reduceLT, Int.reduceLE, Int.reduceToNat, Int.reduceNeg, Int.reduceSub, Int.reduceAdd, reduceIte, reduceCtorEq]
        exact ⟨_, rfl, by simp only [go_sem, Nat.reduceBEq, Nat.reduceEqDiff, Nat.reduceLT, Nat.reduceLeDiff, Nat.reduceAdd, Nat.reduceMul, Nat.reduceSub, Nat.reduceDiv, Int.reduceLT, Int.reduceLE, Int.reduceToNat, Int.reduceNeg, Int.reduceSub, Int.reduceAdd, reduceIte, reduceCtorEq]⟩
    have hyes : (decide (y < 1) || decide (1000 < y)) = false → ∃ st1, U tbl Y 0 fn58_L0 st z = U tbl Y 0 fn58_L0 st1 z ∧ gc 0 (liftAll [] ⟨keepOnly [3, 5] st1.fr, st1.mem⟩) = some ⟨⟨165, [(3, .ptr 0 0), (5, Vi (k + 1 : Nat))]⟩, [Cn x]⟩ := fun hb => by
      have b1 : ¬ y < 1 := by simp at hb; omega
      have b2 : ¬ 1000 < y := by simp at hb; omega
      rw [fn58_L0, u_loop tbl Y 0 z hg]
      simp only [fn58_B0, natlt h2, h1, b1, b2, succ64 (show k < 9223372036854775807 by omega), gc, gcIdx, range1, range2, range3, range4, range5, List.filter_cons, List.idxOf?_cons, List.idxOf?_nil, List.getD_cons_zero, List.getD_cons_succ, List.getD_nil, List.contains_cons, List.contains_nil, List.elem_nil, Nat.reduceBEq, Bool.or_false, Bool.or_true, Bool.true_or, Bool.false_or, back, rangeIn, go_sem, Nat.reduceBEq, Nat.reduceEqDiff, Nat.reduceLT, Nat.reduceLeDiff, Nat.reduceAdd, Nat.reduceMul, Nat.reduceSub, Nat.reduceDiv, Int.reduceLT, Int.reduceLE, Int.reduceToNat, Int.reduceNeg, Int.reduceSub, Int.reduceAdd, reduceIte, reduceCtorEq]
      exact ⟨_, rfl, by simp only [gc, gcIdx, range1, range2, range3, range4, range5, List.filter_cons, List.idxOf?_cons, List.idxOf?_nil, List.getD_cons_zero, List.getD_cons_succ, List.getD_nil, List.contains_cons, List.contains_nil, List.elem_nil, Nat.reduceBEq, Bool.or_false, Bool.or_true, Bool.true_or, Bool.false_or, back, rangeIn, go_sem, Nat.reduceBEq, Nat.reduceEqDiff, Nat.reduceLT, Nat.reduceLeDiff, Nat.reduceAdd, Nat.reduceMul, Nat.reduceSub, Nat.reduceDiv, Int.reduceLT, Int.reduceLE, Int.reduceToNat, Int.reduceNeg, Int.reduceSub, Int.reduceAdd, reduceIte, reduceCtorEq]⟩
    rw [within_cons]
    cases hb : (decide (y < 1) || decide (1000 < y)) with
    | true => rw [if_neg (by simp)]; exact hno hb
    | false =>
      obtain ⟨st1, e1, e2⟩ := hyes hb
      rw [e1, Bool.not_false, Bool.true_and]
      exact ih (k + 1) st1 h3 (by omega) e2

set_option maxHeartbeats 4000000 in
theorem L58_1 {x : Nd} (hl : x.pay.length ≤ 2000000) {σ : Type} (Y : List P → σ → Option (Bool × σ)) (z : σ) : ∀ (r : List Int) (k : Nat) (st : St), x.pay.drop k = r → k ≤ x.pay.length →
    gc 0 (liftAll [] ⟨keepOnly [3, 6] st.fr, st.mem⟩) = some ⟨⟨165, [(3, .ptr 0 0), (6, Vi k)]⟩, [Cn x]⟩ →
    if within r (-1000000) 1000000 = true then U tbl Y 0 fn58_L1 st z = some (.exit 3, ⟨⟨165, [(3, .ptr 0 0), (6, Vi x.pay.length), (148, Vb false)]⟩, [Cn x]⟩, z)
    else ∃ fr, U tbl Y 0 fn58_L1 st z = some (.ret, ⟨fr, [Cn x]⟩, z) ∧ getF fr.l 4 = Vi 2 := by
  intro r
  induction r with
  | nil =>
    intro k st hd hk hg
    have e : k = x.pay.length := by have := drop_nil_facts hd; omega
    subst e
    rw [if_pos (show within [] (-1000000) 1000000 = true from rfl)]
    rw [fn58_L1, u_loop tbl Y 0 z hg]
    simp only [fn58_B1, natnlt (Nat.le_refl x.pay.length), go_sem, Nat.reduceBEq, Nat.reduceEqDiff, Nat.reduceLT, Nat.reduceLeDiff, Nat.reduceAdd, Nat.reduceMul, Nat.reduceSub, Nat.reduceDiv, Int.reduceLT, Int.reduceLE, Int.reduceToNat, Int.reduceNeg, Int.reduceSub, Int.reduceAdd, reduceIte, reduceCtorEq]
  | cons y r ih =>
    intro k st hd hk hg
    obtain ⟨h1, h2, h3⟩ := drop_cons_facts hd
    have hno : (decide (y < -1000000) || decide (1000000 < y)) = true → ∃ fr, U tbl Y 0 fn58_L1 st z = some (.ret, ⟨fr, [Cn x]⟩, z) ∧ getF fr.l 4 = Vi 2 := fun hb => by
      rw [fn58_L1, u_loop tbl Y 0 z hg]
      by_cases b1 : y < -1000000
      · simp only [fn58_B1, natlt h2, h1, b1, gc, gcIdx, range1, range2, range3, range4, range5, List.filter_cons, List.idxOf?_cons, List.idxOf?_nil, List.getD_cons_zero, List.getD_cons_succ, List.getD_nil, List.contains_cons, List.contains_nil, List.elem_nil, Nat.reduceBEq, Bool.or_false, Bool.or_true, Bool.true_or, Bool.false_or, back, rangeIn, go_sem, Nat.reduceBEq, Nat.reduceEqDiff, Nat.reduceLT, Nat.reduceLeDiff, Nat.reduceAdd, Nat.reduceMul, Nat.reduceSub, Nat.reduceDiv, Int.reduceLT, Int.reduceLE, Int.reduceToNat, Int.reduceNeg, Int.reduceSub, Int.reduceAdd, reduceIte, reduceCtorEq]
        exact ⟨_, rfl, by simp only [go_sem, Nat.reduceBEq, Nat.reduceEqDiff, Nat.reduceLT, Nat.reduceLeDiff, Nat.reduceAdd, Nat.reduceMul, Nat.reduceSub, Nat.reduceDiv, Int.reduceLT, Int.reduceLE, Int.reduceToNat, Int.reduceNeg, Int.reduceSub, Int.reduceAdd, reduceIte, reduceCtorEq]⟩
      · have b2 : 1000000 < y := by simp at hb; omega
        simp only [fn58_B1, natlt h2, h1, b1, b2, gc, gcIdx, range1, range2, range3, range4, range5, List.filter_cons, List.idxOf?_cons, List.idxOf?_nil, List.getD_cons_zero, List.getD_cons_succ, List.getD_nil, List.contains_cons, List.contains_nil, List.elem_nil, Nat.reduceBEq, Bool.or_false, Bool.or_true, Bool.true_or, Bool.false_or, back, rangeIn, go_sem, Nat.reduceBEq, Nat.reduceEqDiff, Nat.reduceLT, Nat.reduceLeDiff, Nat.reduceAdd, Nat.reduceMul, Nat.reduceSub, Nat.reduceDiv, Int.reduceLT, Int.reduceLE, Int.reduceToNat, Int.reduceNeg, Int.reduceSub, Int.reduceAdd, reduceIte, reduceCtorEq]
        exact ⟨_, rfl, by simp only [go_sem, Nat.reduceBEq, Nat.reduceEqDiff, Nat.reduceLT, Nat.reduceLeDiff, Nat.reduceAdd, Nat.reduceMul, Nat.reduceSub, Nat.reduceDiv, Int.reduceLT, Int.reduceLE, Int.reduceToNat, Int.reduceNeg, Int.reduceSub, Int.reduceAdd, reduceIte, reduceCtorEq]⟩
    have hyes : (decide (y < -1000000) || decide (1000000 < y)) = false → ∃ st1, U tbl Y 0 fn58_L1 st z = U tbl Y 0 fn58_L1 st1 z ∧ gc 0 (liftAll [] ⟨keepOnly [3, 6] st1.fr, st1.mem⟩) = some ⟨⟨165, [(3, .ptr 0 0), (6, Vi (k + 1 : Nat))]⟩, [Cn x]⟩ := fun hb => by
      have b1 : ¬ y < -1000000 := by simp at hb; omega
      have b2 : ¬ 1000000 < y := by simp at hb; omega
      rw [fn58_L1, u_loop tbl Y 0 z hg]
      simp only [fn58_B1, natlt h2, h1, b1, b2, succ64 (show k < 9223372036854775807 by omega), gc, gcIdx, range1, range2, range3, range4, range5, List.filter_cons, List.idxOf?_cons, List.idxOf?_nil, List.getD_cons_zero, List.getD_cons_succ, List.getD_nil, List.contains_cons, List.contains_nil, List.elem_nil, Nat.reduceBEq, Bool.or_false, Bool.or_true, Bool.true_or, Bool.false_or, back, rangeIn, go_sem, Nat.reduceBEq, Nat.reduceEqDiff, Nat.reduceLT, Nat.reduceLeDiff, Nat.reduceAdd, Nat.reduceMul, Nat.reduceSub, Nat.reduceDiv, Int.reduceLT, Int.reduceLE, Int.reduceToNat, Int.reduceNeg, Int.reduceSub, Int.reduceAdd, reduceIte, reduceCtorEq]
      exact ⟨_, rfl, by simp only [gc, gcIdx, range1, range2, range3, range4, range5, List.filter_cons, List.idxOf?_cons, List.idxOf?_nil, List.getD_cons_zero, List.getD_cons_succ, List.getD_nil, List.contains_cons, List.contains_nil, List.elem_nil, Nat.reduceBEq, Bool.or_false, Bool.or_true, Bool.true_or, Bool.false_or, back, rangeIn, go_sem, Nat.reduceBEq, Nat.reduceEqDiff, Nat.reduceLT, Nat.reduceLeDiff, Nat.reduceAdd, Nat.reduceMul, Nat.reduceSub, Nat.reduceDiv, Int.reduceLT, Int.reduceLE, Int.reduceToNat, Int.reduceNeg, Int.reduceSub, Int.reduceAdd, reduceIte, reduceCtorEq]⟩
    rw [within_cons]
    cases hb : (decide (y < -1000000) || decide (1000000 < y)) with
    | true => rw [if_neg (by simp)]; exact hno hb
    | false =>
      obtain ⟨st1, e1, e2⟩ := hyes hb
      rw [e1, Bool.not_false, Bool.true_and]
      exact ih (k + 1) st1 h3 (by omega) e2

theorem bz (l : List Int) : ((l.length : Int) == 0) = !decide (0 < (l.length : Int)) := by
  cases l with
  | nil => simp
  | cons a r =>
    have : ¬ ((r.length : Int) + 1 = 0) := by omega
    simp [this]
theorem ble (a b : Int) : decide (a ≤ b) = !decide (b < a) := by
  by_cases h : a ≤ b
  · have : ¬ b < a := by omega
    simp [h, this]
  · have : b < a := by omega
    simp [h, this]
theorem blt (a b : Int) : decide (a < b) = !decide (b ≤ a) := by
  by_cases h : a < b
  · have : ¬ b ≤ a := by omega
    simp [h, this]
  · have : b ≤ a := by omega
    simp [h, this]
theorem bl1 (a : Int) : decide (1 ≤ a) = !decide (a < 1) := ble 1 a

set_option maxHeartbeats 4000000 in
theorem s58 (g : Gm) (x : Nd) (hw : x.weights.length ≤ 2000000) (hp : x.pay.length ≤ 2000000) : (EL tbl).call 58 [Vg g, .p (Pn x)] [] = some (Vi (nodeE g x), []) := by
  obtain ⟨k, pl, inf, nx, ws, py⟩ := x
  simp only at hw hp
  unfold nodeE
  by_cases k1 : k = 1
  · subst k1
    rw [if_pos rfl]
    have hL := L58_0 (x := ⟨1, pl, inf, nx, ws, py⟩) hw noY () ws 0 ⟨⟨165, [(2, .ptr 0 0), (3, .ptr 1 0), (5, Vi (0 : Nat)), (8, Vi 1), (9, Vb true), (45, Vb false)]⟩, [Cg g, Cn ⟨1, pl, inf, nx, ws, py⟩]⟩ (by simp) (by simp) (by simp only [gc, gcIdx, range1, range2, range3, range4, range5, List.filter_cons, List.idxOf?_cons, List.idxOf?_nil, List.getD_cons_zero, List.getD_cons_succ, List.getD_nil, List.contains_cons, List.contains_nil, List.elem_nil, Nat.reduceBEq, Bool.or_false, Bool.or_true, Bool.true_or, Bool.false_or, back, rangeIn, go_sem, Nat.reduceBEq, Nat.reduceEqDiff, Nat.reduceLT, Nat.reduceLeDiff, Nat.reduceAdd, Nat.reduceMul, Nat.reduceSub, Nat.reduceDiv, Int.reduceLT, Int.reduceLE, Int.reduceToNat, Int.reduceNeg, Int.reduceSub, Int.reduceAdd, reduceIte, reduceCtorEq])
    simp only [Int.natCast_zero] at hL
    have e2 := bl1 (nx.length : Int)
    have e3 := ble (nx.length : Int) 60
    rw [call_fn' tbl (show tbl 58 = some fn58 from rfl) _ _ (Nat.le_of_ble_eq_true rfl)]
    unfold chF either
    by_cases hwi : within ws 1 1000 = true
    · rw [if_pos hwi] at hL
      simp only [fn58, hL, hwi, bz, e2, e3, bne, Bool.false_and, Bool.and_false, gc, gcIdx, range1, range2, range3, range4, range5, List.filter_cons, List.idxOf?_cons, List.idxOf?_nil, List.getD_cons_zero, List.getD_cons_succ, List.getD_nil, List.contains_cons, List.contains_nil, List.elem_nil, Nat.reduceBEq, Bool.or_false, Bool.or_true, Bool.true_or, Bool.false_or, back, rangeIn, go_sem, Nat.reduceBEq, Nat.reduceEqDiff, Nat.reduceLT, Nat.reduceLeDiff, Nat.reduceAdd, Nat.reduceMul, Nat.reduceSub, Nat.reduceDiv, Int.reduceLT, Int.reduceLE, Int.reduceToNat, Int.reduceNeg, Int.reduceSub, Int.reduceAdd, reduceIte, reduceCtorEq]
      all_goals try (rcases Bool.eq_false_or_eq_true (pl == 0) with hc0 | hc0 <;> simp only [hc0, fn58, hL, hwi, bz, e2, e3, bne, Bool.false_and, Bool.and_false, gc, gcIdx, range1, range2, range3, range4, range5, List.filter_cons, List.idxOf?_cons, List.idxOf?_nil, List.getD_cons_zero, List.getD_cons_succ, List.getD_nil, List.contains_cons, List.contains_nil, List.elem_nil, Nat.reduceBEq, Bool.or_false, Bool.or_true, Bool.true_or, Bool.false_or, back, rangeIn, go_sem, Nat.reduceBEq, Nat.reduceEqDiff, Nat.reduceLT, Nat.reduceLeDiff, Nat.reduceAdd, Nat.reduceMul, Nat.reduceSub, Nat.reduceDiv, Int.reduceLT, Int.reduceLE, Int.reduceToNat, Int.reduceNeg, Int.reduceSub, Int.reduceAdd, reduceIte, reduceCtorEq])
      all_goals try (rcases Bool.eq_false_or_eq_true (inf == 0) with hc1 | hc1 <;> simp only [hc1, fn58, hL, hwi, bz, e2, e3, bne, Bool.false_and, Bool.and_false, gc, gcIdx, range1, range2, range3, range4, range5, List.filter_cons, List.idxOf?_cons, List.idxOf?_nil, List.getD_cons_zero, List.getD_cons_succ, List.getD_nil, List.contains_cons, List.contains_nil, List.elem_nil, Nat.reduceBEq, Bool.or_false, Bool.or_true, Bool.true_or, Bool.false_or, back, rangeIn, go_sem, Nat.reduceBEq, Nat.reduceEqDiff, Nat.reduceLT, Nat.reduceLeDiff, Nat.reduceAdd, Nat.reduceMul, Nat.reduceSub, Nat.reduceDiv, Int.reduceLT, Int.reduceLE, Int.reduceToNat, Int.reduceNeg, Int.reduceSub, Int.reduceAdd, reduceIte, reduceCtorEq])
      all_goals try (rcases Bool.eq_false_or_eq_true (decide (0 < (py.length : Int))) with hc2 | hc2 <;> simp only [hc2, fn58, hL, hwi, bz, e2, e3, bne, Bool.false_and, Bool.and_false, gc, gcIdx, range1, range2, range3, range4, range5, List.filter_cons, List.idxOf?_cons, List.idxOf?_nil, List.getD_cons_zero, List.getD_cons_succ, List.getD_nil, List.contains_cons, List.contains_nil, List.elem_nil, Nat.reduceBEq, Bool.or_false, Bool.or_true, Bool.true_or, Bool.false_or, back, rangeIn, go_sem, Nat.reduceBEq, Nat.reduceEqDiff, Nat.reduceLT, Nat.reduceLeDiff, Nat.reduceAdd, Nat.reduceMul, Nat.reduceSub, Nat.reduceDiv, Int.reduceLT, Int.reduceLE, Int.reduceToNat, Int.reduceNeg, Int.reduceSub, Int.reduceAdd, reduceIte, reduceCtorEq])
      all_goals try (rcases Bool.eq_false_or_eq_true (decide ((nx.length : Int) < 1)) with hc3 | hc3 <;> simp only [hc3, fn58, hL, hwi, bz, e2, e3, bne, Bool.false_and, Bool.and_false, gc, gcIdx, range1, range2, range3, range4, range5, List.filter_cons, List.idxOf?_cons, List.idxOf?_nil, List.getD_cons_zero, List.getD_cons_succ, List.getD_nil, List.contains_cons, List.contains_nil, List.elem_nil, Nat.reduceBEq, Bool.or_false, Bool.or_true, Bool.true_or, Bool.false_or, back, rangeIn, go_sem, Nat.reduceBEq, Nat.reduceEqDiff, Nat.reduceLT, Nat.reduceLeDiff, Nat.reduceAdd, Nat.reduceMul, Nat.reduceSub, Nat.reduceDiv, Int.reduceLT, Int.reduceLE, Int.reduceToNat, Int.reduceNeg, Int.reduceSub, Int.reduceAdd, reduceIte, reduceCtorEq])
      all_goals try (rcases Bool.eq_false_or_eq_true (decide (60 < (nx.length : Int))) with hc4 | hc4 <;> simp only [hc4, fn58, hL, hwi, bz, e2, e3, bne, Bool.false_and, Bool.and_false, gc, gcIdx, range1, range2, range3, range4, range5, List.filter_cons, List.idxOf?_cons, List.idxOf?_nil, List.getD_cons_zero, List.getD_cons_succ, List.getD_nil, List.contains_cons, List.contains_nil, List.elem_nil, Nat.reduceBEq, Bool.or_false, Bool.or_true, Bool.true_or, Bool.false_or, back, rangeIn, go_sem, Nat.reduceBEq, Nat.reduceEqDiff, Nat.reduceLT, Nat.reduceLeDiff, Nat.reduceAdd, Nat.reduceMul, Nat.reduceSub, Nat.reduceDiv, Int.reduceLT, Int.reduceLE, Int.reduceToNat, Int.reduceNeg, Int.reduceSub, Int.reduceAdd, reduceIte, reduceCtorEq])
      all_goals try (rcases Bool.eq_false_or_eq_true ((ws.length : Int) == nx.length) with hc5 | hc5 <;> simp only [hc5, fn58, hL, hwi, bz, e2, e3, bne, Bool.false_and, Bool.and_false, gc, gcIdx, range1, range2, range3, range4, range5, List.filter_cons, List.idxOf?_cons, List.idxOf?_nil, List.getD_cons_zero, List.getD_cons_succ, List.getD_nil, List.contains_cons, List.contains_nil, List.elem_nil, Nat.reduceBEq, Bool.or_false, Bool.or_true, Bool.true_or, Bool.false_or, back, rangeIn, go_sem, Nat.reduceBEq, Nat.reduceEqDiff, Nat.reduceLT, Nat.reduceLeDiff, Nat.reduceAdd, Nat.reduceMul, Nat.reduceSub, Nat.reduceDiv, Int.reduceLT, Int.reduceLE, Int.reduceToNat, Int.reduceNeg, Int.reduceSub, Int.reduceAdd, reduceIte, reduceCtorEq])
    · rw [if_neg hwi] at hL
      obtain ⟨fr, h1, h2⟩ := hL
      have hwi' : within ws 1 1000 = false := by simpa using hwi
      simp only [fn58, h1, h2, hwi', bz, e2, e3, bne, Bool.false_and, Bool.and_false, gc, gcIdx, range1, range2, range3, range4, range5, List.filter_cons, List.idxOf?_cons, List.idxOf?_nil, List.getD_cons_zero, List.getD_cons_succ, List.getD_nil, List.contains_cons, List.contains_nil, List.elem_nil, Nat.reduceBEq, Bool.or_false, Bool.or_true, Bool.true_or, Bool.false_or, back, rangeIn, go_sem, Nat.reduceBEq, Nat.reduceEqDiff, Nat.reduceLT, Nat.reduceLeDiff, Nat.reduceAdd, Nat.reduceMul, Nat.reduceSub, Nat.reduceDiv, Int.reduceLT, Int.reduceLE, Int.reduceToNat, Int.reduceNeg, Int.reduceSub, Int.reduceAdd, reduceIte, reduceCtorEq]
      all_goals try (rcases Bool.eq_false_or_eq_true (pl == 0) with hc0 | hc0 <;> simp only [hc0, fn58, h1, h2, hwi', bz, e2, e3, bne, Bool.false_and, Bool.and_false, gc, gcIdx, range1, range2, range3, range4, range5, List.filter_cons, List.idxOf?_cons, List.idxOf?_nil, List.getD_cons_zero, List.getD_cons_succ, List.getD_nil, List.contains_cons, List.contains_nil, List.elem_nil, Nat.reduceBEq, Bool.or_false, Bool.or_true, Bool.true_or, Bool.false_or, back, rangeIn, go_sem, Nat.reduceBEq, Nat.reduceEqDiff, Nat.reduceLT, Nat.reduceLeDiff, Nat.reduceAdd, Nat.reduceMul, Nat.reduceSub, Nat.reduceDiv, Int.reduceLT, Int.reduceLE, Int.reduceToNat, Int.reduceNeg, Int.reduceSub, Int.reduceAdd, reduceIte, reduceCtorEq])
      all_goals try (rcases Bool.eq_false_or_eq_true (inf == 0) with hc1 | hc1 <;> simp only [hc1, fn58, h1, h2, hwi', bz, e2, e3, bne, Bool.false_and, Bool.and_false, gc, gcIdx, range1, range2, range3, range4, range5, List.filter_cons, List.idxOf?_cons, List.idxOf?_nil, List.getD_cons_zero, List.getD_cons_succ, List.getD_nil, List.contains_cons, List.contains_nil, List.elem_nil, Nat.reduceBEq, Bool.or_false, Bool.or_true, Bool.true_or, Bool.false_or, back, rangeIn, go_sem, Nat.reduceBEq, Nat.reduceEqDiff, Nat.reduceLT, Nat.reduceLeDiff, Nat.reduceAdd, Nat.reduceMul, Nat.reduceSub, Nat.reduceDiv, Int.reduceLT, Int.reduceLE, Int.reduceToNat, Int.reduceNeg, Int.reduceSub, Int.reduceAdd, reduceIte, reduceCtorEq])
      all_goals try (rcases Bool.eq_false_or_eq_true (decide (0 < (py.length : Int))) with hc2 | hc2 <;> simp only [hc2, fn58, h1, h2, hwi', bz, e2, e3, bne, Bool.false_and, Bool.and_false, gc, gcIdx, range1, range2, range3, range4, range5, List.filter_cons, List.idxOf?_cons, List.idxOf?_nil, List.getD_cons_zero, List.getD_cons_succ, List.getD_nil, List.contains_cons, List.contains_nil, List.elem_nil, Nat.reduceBEq, Bool.or_false, Bool.or_true, Bool.true_or, Bool.false_or, back, rangeIn, go_sem, Nat.reduceBEq, Nat.reduceEqDiff, Nat.reduceLT, Nat.reduceLeDiff, Nat.reduceAdd, Nat.reduceMul, Nat.reduceSub, Nat.reduceDiv, Int.reduceLT, Int.reduceLE, Int.reduceToNat, Int.reduceNeg, Int.reduceSub, Int.reduceAdd, reduceIte, reduceCtorEq])
      all_goals try (rcases Bool.eq_false_or_eq_true (decide ((nx.length : Int) < 1)) with hc3 | hc3 <;> simp only [hc3, fn58, h1, h2, hwi', bz, e2, e3, bne, Bool.false_and, Bool.and_false, gc, gcIdx, range1, range2, range3, range4, range5, List.filter_cons, List.idxOf?_cons, List.idxOf?_nil, List.getD_cons_zero, List.getD_cons_succ, List.getD_nil, List.contains_cons, List.contains_nil, List.elem_nil, Nat.reduceBEq, Bool.or_false, Bool.or_true, Bool.true_or, Bool.false_or, back, rangeIn, go_sem, Nat.reduceBEq, Nat.reduceEqDiff, Nat.reduceLT, Nat.reduceLeDiff, Nat.reduceAdd, Nat.reduceMul, Nat.reduceSub, Nat.reduceDiv, Int.reduceLT, Int.reduceLE, Int.reduceToNat, Int.reduceNeg, Int.reduceSub, Int.reduceAdd, reduceIte, reduceCtorEq])
      all_goals try (rcases Bool.eq_false_or_eq_true (decide (60 < (nx.length : Int))) with hc4 | hc4 <;> simp only [hc4, fn58, h1, h2, hwi', bz, e2, e3, bne, Bool.false_and, Bool.and_false, gc, gcIdx, range1, range2, range3, range4, range5, List.filter_cons, List.idxOf?_cons, List.idxOf?_nil, List.getD_cons_zero, List.getD_cons_succ, List.getD_nil, List.contains_cons, List.contains_nil, List.elem_nil, Nat.reduceBEq, Bool.or_false, Bool.or_true, Bool.true_or, Bool.false_or, back, rangeIn, go_sem, Nat.reduceBEq, Nat.reduceEqDiff, Nat.reduceLT, Nat.reduceLeDiff, Nat.reduceAdd, Nat.reduceMul, Nat.reduceSub, Nat.reduceDiv, Int.reduceLT, Int.reduceLE, Int.reduceToNat, Int.reduceNeg, Int.reduceSub, Int.reduceAdd, reduceIte, reduceCtorEq])
      all_goals try (rcases Bool.eq_false_or_eq_true ((ws.length : Int) == nx.length) with hc5 | hc5 <;> simp only [hc5, fn58, h1, h2, hwi', bz, e2, e3, bne, Bool.false_and, Bool.and_false, gc, gcIdx, range1, range2, range3, range4, range5, List.filter_cons, List.idxOf?_cons, List.idxOf?_nil, List.getD_cons_zero, List.getD_cons_succ, List.getD_nil, List.contains_cons, List.contains_nil, List.elem_nil, Nat.reduceBEq, Bool.or_false, Bool.or_true, Bool.true_or, Bool.false_or, back, rangeIn, go_sem, Nat.reduceBEq, Nat.reduceEqDiff, Nat.reduceLT, Nat.reduceLeDiff, Nat.reduceAdd, Nat.reduceMul, Nat.reduceSub, Nat.reduceDiv, Int.reduceLT, Int.reduceLE, Int.reduceToNat, Int.reduceNeg, Int.reduceSub, Int.reduceAdd, reduceIte, reduceCtorEq])
  · have n1 : (k == 1) = false := by simpa using k1
    by_cases k2 : k = 2
    · subst k2
      rw [if_neg (show ¬ (2 : Int) = 1 by decide), if_pos rfl]
      have e2 := bl1 (nx.length : Int)
      have e3 := ble (nx.length : Int) 10
      have e4 := ble 0 pl
      have e5 := blt pl g.players
      have e6 := ble 0 inf
      have e7 := blt inf g.infos.length
      rw [call_fn' tbl (show tbl 58 = some fn58 from rfl) _ _ (Nat.le_of_ble_eq_true rfl)]
      unfold mvF mvR either
      simp only [e2, e3, e4, e5, e6, e7]
      simp only [fn58, bz, Int.reduceBEq, bne, Bool.false_and, Bool.and_false, gc, gcIdx, range1, range2, range3, range4, range5, List.filter_cons, List.idxOf?_cons, List.idxOf?_nil, List.getD_cons_zero, List.getD_cons_succ, List.getD_nil, List.contains_cons, List.contains_nil, List.elem_nil, Nat.reduceBEq, Bool.or_false, Bool.or_true, Bool.true_or, Bool.false_or, back, rangeIn, go_sem, Nat.reduceBEq, Nat.reduceEqDiff, Nat.reduceLT, Nat.reduceLeDiff, Nat.reduceAdd, Nat.reduceMul, Nat.reduceSub, Nat.reduceDiv, Int.reduceLT, Int.reduceLE, Int.reduceToNat, Int.reduceNeg, Int.reduceSub, Int.reduceAdd, reduceIte, reduceCtorEq]
      all_goals try (rcases Bool.eq_false_or_eq_true (decide (0 < (py.length : Int))) with hc0 | hc0 <;> simp only [hc0, fn58, bz, Int.reduceBEq, bne, Bool.false_and, Bool.and_false, gc, gcIdx, range1, range2, range3, range4, range5, List.filter_cons, List.idxOf?_cons, List.idxOf?_nil, List.getD_cons_zero, List.getD_cons_succ, List.getD_nil, List.contains_cons, List.contains_nil, List.elem_nil, Nat.reduceBEq, Bool.or_false, Bool.or_true, Bool.true_or, Bool.false_or, back, rangeIn, go_sem, Nat.reduceBEq, Nat.reduceEqDiff, Nat.reduceLT, Nat.reduceLeDiff, Nat.reduceAdd, Nat.reduceMul, Nat.reduceSub, Nat.reduceDiv, Int.reduceLT, Int.reduceLE, Int.reduceToNat, Int.reduceNeg, Int.reduceSub, Int.reduceAdd, reduceIte, reduceCtorEq])
      all_goals try (rcases Bool.eq_false_or_eq_true (decide (0 < (ws.length : Int))) with hc1 | hc1 <;> simp only [hc1, fn58, bz, Int.reduceBEq, bne, Bool.false_and, Bool.and_false, gc, gcIdx, range1, range2, range3, range4, range5, List.filter_cons, List.idxOf?_cons, List.idxOf?_nil, List.getD_cons_zero, List.getD_cons_succ, List.getD_nil, List.contains_cons, List.contains_nil, List.elem_nil, Nat.reduceBEq, Bool.or_false, Bool.or_true, Bool.true_or, Bool.false_or, back, rangeIn, go_sem, Nat.reduceBEq, Nat.reduceEqDiff, Nat.reduceLT, Nat.reduceLeDiff, Nat.reduceAdd, Nat.reduceMul, Nat.reduceSub, Nat.reduceDiv, Int.reduceLT, Int.reduceLE, Int.reduceToNat, Int.reduceNeg, Int.reduceSub, Int.reduceAdd, reduceIte, reduceCtorEq])
      all_goals try (rcases Bool.eq_false_or_eq_true (decide ((nx.length : Int) < 1)) with hc2 | hc2 <;> simp only [hc2, fn58, bz, Int.reduceBEq, bne, Bool.false_and, Bool.and_false, gc, gcIdx, range1, range2, range3, range4, range5, List.filter_cons, List.idxOf?_cons, List.idxOf?_nil, List.getD_cons_zero, List.getD_cons_succ, List.getD_nil, List.contains_cons, List.contains_nil, List.elem_nil, Nat.reduceBEq, Bool.or_false, Bool.or_true, Bool.true_or, Bool.false_or, back, rangeIn, go_sem, Nat.reduceBEq, Nat.reduceEqDiff, Nat.reduceLT, Nat.reduceLeDiff, Nat.reduceAdd, Nat.reduceMul, Nat.reduceSub, Nat.reduceDiv, Int.reduceLT, Int.reduceLE, Int.reduceToNat, Int.reduceNeg, Int.reduceSub, Int.reduceAdd, reduceIte, reduceCtorEq])
      all_goals try (rcases Bool.eq_false_or_eq_true (decide (10 < (nx.length : Int))) with hc3 | hc3 <;> simp only [hc3, fn58, bz, Int.reduceBEq, bne, Bool.false_and, Bool.and_false, gc, gcIdx, range1, range2, range3, range4, range5, List.filter_cons, List.idxOf?_cons, List.idxOf?_nil, List.getD_cons_zero, List.getD_cons_succ, List.getD_nil, List.contains_cons, List.contains_nil, List.elem_nil, Nat.reduceBEq, Bool.or_false, Bool.or_true, Bool.true_or, Bool.false_or, back, rangeIn, go_sem, Nat.reduceBEq, Nat.reduceEqDiff, Nat.reduceLT, Nat.reduceLeDiff, Nat.reduceAdd, Nat.reduceMul, Nat.reduceSub, Nat.reduceDiv, Int.reduceLT, Int.reduceLE, Int.reduceToNat, Int.reduceNeg, Int.reduceSub, Int.reduceAdd, reduceIte, reduceCtorEq])
      all_goals try (rcases Bool.eq_false_or_eq_true (decide (pl < 0)) with hc4 | hc4 <;> simp only [hc4, fn58, bz, Int.reduceBEq, bne, Bool.false_and, Bool.and_false, gc, gcIdx, range1, range2, range3, range4, range5, List.filter_cons, List.idxOf?_cons, List.idxOf?_nil, List.getD_cons_zero, List.getD_cons_succ, List.getD_nil, List.contains_cons, List.contains_nil, List.elem_nil, Nat.reduceBEq, Bool.or_false, Bool.or_true, Bool.true_or, Bool.false_or, back, rangeIn, go_sem, Nat.reduceBEq, Nat.reduceEqDiff, Nat.reduceLT, Nat.reduceLeDiff, Nat.reduceAdd, Nat.reduceMul, Nat.reduceSub, Nat.reduceDiv, Int.reduceLT, Int.reduceLE, Int.reduceToNat, Int.reduceNeg, Int.reduceSub, Int.reduceAdd, reduceIte, reduceCtorEq])
      all_goals try (rcases Bool.eq_false_or_eq_true (decide (g.players ≤ pl)) with hc5 | hc5 <;> simp only [hc5, fn58, bz, Int.reduceBEq, bne, Bool.false_and, Bool.and_false, gc, gcIdx, range1, range2, range3, range4, range5, List.filter_cons, List.idxOf?_cons, List.idxOf?_nil, List.getD_cons_zero, List.getD_cons_succ, List.getD_nil, List.contains_cons, List.contains_nil, List.elem_nil, Nat.reduceBEq, Bool.or_false, Bool.or_true, Bool.true_or, Bool.false_or, back, rangeIn, go_sem, Nat.reduceBEq, Nat.reduceEqDiff, Nat.reduceLT, Nat.reduceLeDiff, Nat.reduceAdd, Nat.reduceMul, Nat.reduceSub, Nat.reduceDiv, Int.reduceLT, Int.reduceLE, Int.reduceToNat, Int.reduceNeg, Int.reduceSub, Int.reduceAdd, reduceIte, reduceCtorEq])
      all_goals try (rcases Bool.eq_false_or_eq_true (decide (inf < 0)) with hc6 | hc6 <;> simp only [hc6, fn58, bz, Int.reduceBEq, bne, Bool.false_and, Bool.and_false, gc, gcIdx, range1, range2, range3, range4, range5, List.filter_cons, List.idxOf?_cons, List.idxOf?_nil, List.getD_cons_zero, List.getD_cons_succ, List.getD_nil, List.contains_cons, List.contains_nil, List.elem_nil, Nat.reduceBEq, Bool.or_false, Bool.or_true, Bool.true_or, Bool.false_or, back, rangeIn, go_sem, Nat.reduceBEq, Nat.reduceEqDiff, Nat.reduceLT, Nat.reduceLeDiff, Nat.reduceAdd, Nat.reduceMul, Nat.reduceSub, Nat.reduceDiv, Int.reduceLT, Int.reduceLE, Int.reduceToNat, Int.reduceNeg, Int.reduceSub, Int.reduceAdd, reduceIte, reduceCtorEq])
      all_goals try (rcases Bool.eq_false_or_eq_true (decide ((g.infos.length : Int) ≤ inf)) with hc7 | hc7 <;> simp only [hc7, fn58, bz, Int.reduceBEq, bne, Bool.false_and, Bool.and_false, gc, gcIdx, range1, range2, range3, range4, range5, List.filter_cons, List.idxOf?_cons, List.idxOf?_nil, List.getD_cons_zero, List.getD_cons_succ, List.getD_nil, List.contains_cons, List.contains_nil, List.elem_nil, Nat.reduceBEq, Bool.or_false, Bool.or_true, Bool.true_or, Bool.false_or, back, rangeIn, go_sem, Nat.reduceBEq, Nat.reduceEqDiff, Nat.reduceLT, Nat.reduceLeDiff, Nat.reduceAdd, Nat.reduceMul, Nat.reduceSub, Nat.reduceDiv, Int.reduceLT, Int.reduceLE, Int.reduceToNat, Int.reduceNeg, Int.reduceSub, Int.reduceAdd, reduceIte, reduceCtorEq])
    · have n2 : (k == 2) = false := by simpa using k2
      by_cases k3 : k = 3
      · subst k3
        rw [if_neg (show ¬ (3 : Int) = 1 by decide), if_neg (show ¬ (3 : Int) = 2 by decide), if_pos rfl]
        have hL := L58_1 (x := ⟨3, pl, inf, nx, ws, py⟩) hp noY () py 0 ⟨⟨165, [(3, .ptr 1 0), (6, Vi (0 : Nat)), (9, Vb false), (67, Vb false), (114, Vb true), (143, Vb false)]⟩, [Cg g, Cn ⟨3, pl, inf, nx, ws, py⟩]⟩ (by simp) (by simp) (by simp only [gc, gcIdx, range1, range2, range3, range4, range5, List.filter_cons, List.idxOf?_cons, List.idxOf?_nil, List.getD_cons_zero, List.getD_cons_succ, List.getD_nil, List.contains_cons, List.contains_nil, List.elem_nil, Nat.reduceBEq, Bool.or_false, Bool.or_true, Bool.true_or, Bool.false_or, back, rangeIn, go_sem, Nat.reduceBEq, Nat.reduceEqDiff, Nat.reduceLT, Nat.reduceLeDiff, Nat.reduceAdd, Nat.reduceMul, Nat.reduceSub, Nat.reduceDiv, Int.reduceLT, Int.reduceLE, Int.reduceToNat, Int.reduceNeg, Int.reduceSub, Int.reduceAdd, reduceIte, reduceCtorEq])
        simp only [Int.natCast_zero] at hL
        rw [call_fn' tbl (show tbl 58 = some fn58 from rfl) _ _ (Nat.le_of_ble_eq_true rfl)]
        unfold enF either
        by_cases hwi : within py (-1000000) 1000000 = true
        · rw [if_pos hwi] at hL
          simp only [fn58, hL, hwi, bz, Int.reduceBEq, bne, Bool.false_and, Bool.and_false, gc, gcIdx, range1, range2, range3, range4, range5, List.filter_cons, List.idxOf?_cons, List.idxOf?_nil, List.getD_cons_zero, List.getD_cons_succ, List.getD_nil, List.contains_cons, List.contains_nil, List.elem_nil, Nat.reduceBEq, Bool.or_false, Bool.or_true, Bool.true_or, Bool.false_or, back, rangeIn, go_sem, Nat.reduceBEq, Nat.reduceEqDiff, Nat.reduceLT, Nat.reduceLeDiff, Nat.reduceAdd, Nat.reduceMul, Nat.reduceSub, Nat.reduceDiv, Int.reduceLT, Int.reduceLE, Int.reduceToNat, Int.reduceNeg, Int.reduceSub, Int.reduceAdd, reduceIte, reduceCtorEq]
          all_goals try (rcases Bool.eq_false_or_eq_true (pl == 0) with hc0 | hc0 <;> simp only [hc0, fn58, hL, hwi, bz, Int.reduceBEq, bne, Bool.false_and, Bool.and_false, gc, gcIdx, range1, range2, range3, range4, range5, List.filter_cons, List.idxOf?_cons, List.idxOf?_nil, List.getD_cons_zero, List.getD_cons_succ, List.getD_nil, List.contains_cons, List.contains_nil, List.elem_nil, Nat.reduceBEq, Bool.or_false, Bool.or_true, Bool.true_or, Bool.false_or, back, rangeIn, go_sem, Nat.reduceBEq, Nat.reduceEqDiff, Nat.reduceLT, Nat.reduceLeDiff, Nat.reduceAdd, Nat.reduceMul, Nat.reduceSub, Nat.reduceDiv, Int.reduceLT, Int.reduceLE, Int.reduceToNat, Int.reduceNeg, Int.reduceSub, Int.reduceAdd, reduceIte, reduceCtorEq])
          all_goals try (rcases Bool.eq_false_or_eq_true (inf == 0) with hc1 | hc1 <;> simp only [hc1, fn58, hL, hwi, bz, Int.reduceBEq, bne, Bool.false_and, Bool.and_false, gc, gcIdx, range1, range2, range3, range4, range5, List.filter_cons, List.idxOf?_cons, List.idxOf?_nil, List.getD_cons_zero, List.getD_cons_succ, List.getD_nil, List.contains_cons, List.contains_nil, List.elem_nil, Nat.reduceBEq, Bool.or_false, Bool.or_true, Bool.true_or, Bool.false_or, back, rangeIn, go_sem, Nat.reduceBEq, Nat.reduceEqDiff, Nat.reduceLT, Nat.reduceLeDiff, Nat.reduceAdd, Nat.reduceMul, Nat.reduceSub, Nat.reduceDiv, Int.reduceLT, Int.reduceLE, Int.reduceToNat, Int.reduceNeg, Int.reduceSub, Int.reduceAdd, reduceIte, reduceCtorEq])
          all_goals try (rcases Bool.eq_false_or_eq_true (decide (0 < (nx.length : Int))) with hc2 | hc2 <;> simp only [hc2, fn58, hL, hwi, bz, Int.reduceBEq, bne, Bool.false_and, Bool.and_false, gc, gcIdx, range1, range2, range3, range4, range5, List.filter_cons, List.idxOf?_cons, List.idxOf?_nil, List.getD_cons_zero, List.getD_cons_succ, List.getD_nil, List.contains_cons, List.contains_nil, List.elem_nil, Nat.reduceBEq, Bool.or_false, Bool.or_true, Bool.true_or, Bool.false_or, back, rangeIn, go_sem, Nat.reduceBEq, Nat.reduceEqDiff, Nat.reduceLT, Nat.reduceLeDiff, Nat.reduceAdd, Nat.reduceMul, Nat.reduceSub, Nat.reduceDiv, Int.reduceLT, Int.reduceLE, Int.reduceToNat, Int.reduceNeg, Int.reduceSub, Int.reduceAdd, reduceIte, reduceCtorEq])
          all_goals try (rcases Bool.eq_false_or_eq_true (decide (0 < (ws.length : Int))) with hc3 | hc3 <;> simp only [hc3, fn58, hL, hwi, bz, Int.reduceBEq, bne, Bool.false_and, Bool.and_false, gc, gcIdx, range1, range2, range3, range4, range5, List.filter_cons, List.idxOf?_cons, List.idxOf?_nil, List.getD_cons_zero, List.getD_cons_succ, List.getD_nil, List.contains_cons, List.contains_nil, List.elem_nil, Nat.reduceBEq, Bool.or_false, Bool.or_true, Bool.true_or, Bool.false_or, back, rangeIn, go_sem, Nat.reduceBEq, Nat.reduceEqDiff, Nat.reduceLT, Nat.reduceLeDiff, Nat.reduceAdd, Nat.reduceMul, Nat.reduceSub, Nat.reduceDiv, Int.reduceLT, Int.reduceLE, Int.reduceToNat, Int.reduceNeg, Int.reduceSub, Int.reduceAdd, reduceIte, reduceCtorEq])
          all_goals try (rcases Bool.eq_false_or_eq_true ((py.length : Int) == g.players) with hc4 | hc4 <;> simp only [hc4, fn58, hL, hwi, bz, Int.reduceBEq, bne, Bool.false_and, Bool.and_false, gc, gcIdx, range1, range2, range3, range4, range5, List.filter_cons, List.idxOf?_cons, List.idxOf?_nil, List.getD_cons_zero, List.getD_cons_succ, List.getD_nil, List.contains_cons, List.contains_nil, List.elem_nil, Nat.reduceBEq, Bool.or_false, Bool.or_true, Bool.true_or, Bool.false_or, back, rangeIn, go_sem, Nat.reduceBEq, Nat.reduceEqDiff, Nat.reduceLT, Nat.reduceLeDiff, Nat.reduceAdd, Nat.reduceMul, Nat.reduceSub, Nat.reduceDiv, Int.reduceLT, Int.reduceLE, Int.reduceToNat, Int.reduceNeg, Int.reduceSub, Int.reduceAdd, reduceIte, reduceCtorEq])
        · rw [if_neg hwi] at hL
          obtain ⟨fr, h1, h2⟩ := hL
          have hwi' : within py (-1000000) 1000000 = false := by simpa using hwi
          simp only [fn58, h1, h2, hwi', bz, Int.reduceBEq, bne, Bool.false_and, Bool.and_false, gc, gcIdx, range1, range2, range3, range4, range5, List.filter_cons, List.idxOf?_cons, List.idxOf?_nil, List.getD_cons_zero, List.getD_cons_succ, List.getD_nil, List.contains_cons, List.contains_nil, List.elem_nil, Nat.reduceBEq, Bool.or_false, Bool.or_true, Bool.true_or, Bool.false_or, back, rangeIn, go_sem, Nat.reduceBEq, Nat.reduceEqDiff, Nat.reduceLT, Nat.reduceLeDiff, Nat.reduceAdd, Nat.reduceMul, Nat.reduceSub, Nat.reduceDiv, Int.reduceLT, Int.reduceLE, Int.reduceToNat, Int.reduceNeg, Int.reduceSub, Int.reduceAdd, reduceIte, reduceCtorEq]
          all_goals try (rcases Bool.eq_false_or_eq_true (pl == 0) with hc0 | hc0 <;> simp only [hc0, fn58, h1, h2, hwi', bz, Int.reduceBEq, bne, Bool.false_and, Bool.and_false, gc, gcIdx, range1, range2, range3, range4, range5, List.filter_cons, List.idxOf?_cons, List.idxOf?_nil, List.getD_cons_zero, List.getD_cons_succ, List.getD_nil, List.contains_cons, List.contains_nil, List.elem_nil, Nat.reduceBEq, Bool.or_false, Bool.or_true, Bool.true_or, Bool.false_or, back, rangeIn, go_sem, Nat.reduceBEq, Nat.reduceEqDiff, Nat.reduceLT, Nat.reduceLeDiff, Nat.reduceAdd, Nat.reduceMul, Nat.reduceSub, Nat.reduceDiv, Int.reduceLT, Int.reduceLE, Int.reduceToNat, Int.reduceNeg, Int.reduceSub, Int.reduceAdd, reduceIte, reduceCtorEq])
          all_goals try (rcases Bool.eq_false_or_eq_true (inf == 0) with hc1 | hc1 <;> simp only [hc1, fn58, h1, h2, hwi', bz, Int.reduceBEq, bne, Bool.false_and, Bool.and_false, gc, gcIdx, range1, range2, range3, range4, range5, List.filter_cons, List.idxOf?_cons, List.idxOf?_nil, List.getD_cons_zero, List.getD_cons_succ, List.getD_nil, List.contains_cons, List.contains_nil, List.elem_nil, Nat.reduceBEq, Bool.or_false, Bool.or_true, Bool.true_or, Bool.false_or, back, rangeIn, go_sem, Nat.reduceBEq, Nat.reduceEqDiff, Nat.reduceLT, Nat.reduceLeDiff, Nat.reduceAdd, Nat.reduceMul, Nat.reduceSub, Nat.reduceDiv, Int.reduceLT, Int.reduceLE, Int.reduceToNat, Int.reduceNeg, Int.reduceSub, Int.reduceAdd, reduceIte, reduceCtorEq])
          all_goals try (rcases Bool.eq_false_or_eq_true (decide (0 < (nx.length : Int))) with hc2 | hc2 <;> simp only [hc2, fn58, h1, h2, hwi', bz, Int.reduceBEq, bne, Bool.false_and, Bool.and_false, gc, gcIdx, range1, range2, range3, range4, range5, List.filter_cons, List.idxOf?_cons, List.idxOf?_nil, List.getD_cons_zero, List.getD_cons_succ, List.getD_nil, List.contains_cons, List.contains_nil, List.elem_nil, Nat.reduceBEq, Bool.or_false, Bool.or_true, Bool.true_or, Bool.false_or, back, rangeIn, go_sem, Nat.reduceBEq, Nat.reduceEqDiff, Nat.reduceLT, Nat.reduceLeDiff, Nat.reduceAdd, Nat.reduceMul, Nat.reduceSub, Nat.reduceDiv, Int.reduceLT, Int.reduceLE, Int.reduceToNat, Int.reduceNeg, Int.reduceSub, Int.reduceAdd, reduceIte, reduceCtorEq])
          all_goals try (rcases Bool.eq_false_or_eq_true (decide (0 < (ws.length : Int))) with hc3 | hc3 <;> simp only [hc3, fn58, h1, h2, hwi', bz, Int.reduceBEq, bne, Bool.false_and, Bool.and_false, gc, gcIdx, range1, range2, range3, range4, range5, List.filter_cons, List.idxOf?_cons, List.idxOf?_nil, List.getD_cons_zero, List.getD_cons_succ, List.getD_nil, List.contains_cons, List.contains_nil, List.elem_nil, Nat.reduceBEq, Bool.or_false, Bool.or_true, Bool.true_or, Bool.false_or, back, rangeIn, go_sem, Nat.reduceBEq, Nat.reduceEqDiff, Nat.reduceLT, Nat.reduceLeDiff, Nat.reduceAdd, Nat.reduceMul, Nat.reduceSub, Nat.reduceDiv, Int.reduceLT, Int.reduceLE, Int.reduceToNat, Int.reduceNeg, Int.reduceSub, Int.reduceAdd, reduceIte, reduceCtorEq])
          all_goals try (rcases Bool.eq_false_or_eq_true ((py.length : Int) == g.players) with hc4 | hc4 <;> simp only [hc4, fn58, h1, h2, hwi', bz, Int.reduceBEq, bne, Bool.false_and, Bool.and_false, gc, gcIdx, range1, range2, range3, range4, range5, List.filter_cons, List.idxOf?_cons, List.idxOf?_nil, List.getD_cons_zero, List.getD_cons_succ, List.getD_nil, List.contains_cons, List.contains_nil, List.elem_nil, Nat.reduceBEq, Bool.or_false, Bool.or_true, Bool.true_or, Bool.false_or, back, rangeIn, go_sem, Nat.reduceBEq, Nat.reduceEqDiff, Nat.reduceLT, Nat.reduceLeDiff, Nat.reduceAdd, Nat.reduceMul, Nat.reduceSub, Nat.reduceDiv, Int.reduceLT, Int.reduceLE, Int.reduceToNat, Int.reduceNeg, Int.reduceSub, Int.reduceAdd, reduceIte, reduceCtorEq])
      · have n3 : (k == 3) = false := by simpa using k3
        rw [if_neg k1, if_neg k2, if_neg k3]
        rw [call_fn' tbl (show tbl 58 = some fn58 from rfl) _ _ (Nat.le_of_ble_eq_true rfl)]
        simp only [fn58, n1, n2, n3, gc, gcIdx, range1, range2, range3, range4, range5, List.filter_cons, List.idxOf?_cons, List.idxOf?_nil, List.getD_cons_zero, List.getD_cons_succ, List.getD_nil, List.contains_cons, List.contains_nil, List.elem_nil, Nat.reduceBEq, Bool.or_false, Bool.or_true, Bool.true_or, Bool.false_or, back, rangeIn, go_sem, Nat.reduceBEq, Nat.reduceEqDiff, Nat.reduceLT, Nat.reduceLeDiff, Nat.reduceAdd, Nat.reduceMul, Nat.reduceSub, Nat.reduceDiv, Int.reduceLT, Int.reduceLE, Int.reduceToNat, Int.reduceNeg, Int.reduceSub, Int.reduceAdd, reduceIte, reduceCtorEq]
end Go.Am
