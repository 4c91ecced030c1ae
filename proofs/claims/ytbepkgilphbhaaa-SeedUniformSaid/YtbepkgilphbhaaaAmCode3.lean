/- All code. -/
import Derived.Test.YtbepkgilphbhaaaAmCode2
namespace Go.Am
open Go

variable (N : Nm) (pr : Program)

theorem runC_ok (hmix : pr.follows .mixedOrders = true) {E : Env} (hE : SoundEnv N pr E) (k : Nat) : ∀ (ac : AC) (code : Code), mCode N pr ac code = true → CodeOk N pr E k ac code := by
  intro ac
  induction ac with
  | skip =>
    intro code hm
    cases code <;> simp only [mCode, Bool.false_eq_true] at hm
    intro σ y hS Y hY ro O0 c0 e0 kp n0 st s a w ex st' s' Q hn0 hro hr hs hQ
    simp only [runC, Option.some.injEq, Prod.mk.injEq] at hr
    obtain ⟨rfl, rfl, rfl⟩ := hr
    exact wpIn_skip (hQ a w hs)
  | reg r =>
    intro code hm
    cases code <;> simp only [mCode, Bool.false_eq_true] at hm
    intro σ y hS Y hY ro O0 c0 e0 kp n0 st s a w ex st' s' Q hn0 hro hr hs hQ
    simp only [runC] at hr
    split at hr
    · rename_i st1 s1 hreg
      simp only [Option.some.injEq, Prod.mk.injEq] at hr
      obtain ⟨rfl, rfl, rfl⟩ := hr
      exact reg_ok N pr hmix hE hS hY ro hm hreg hs hQ
    · cases hr
  | seq x z ihx ihz =>
    intro code hm
    cases code <;> simp only [mCode, Bool.false_eq_true, Bool.and_eq_true] at hm
    intro σ y hS Y hY ro O0 c0 e0 kp n0 st s a w ex st' s' Q hn0 hro hr hs hQ
    simp only [runC] at hr
    refine wpIn_seq ?_
    cases hx : runC E Y n0 k x st s with
    | none => rw [hx] at hr; cases hr
    | some r =>
      obtain ⟨ex1, st1, s1⟩ := r
      rw [hx] at hr
      cases ex1 with
      | normal => exact ihx _ hm.1 σ y hS Y hY ro O0 c0 e0 kp n0 st s a w _ st1 s1 _ hn0 hro hx hs fun a' w' h' => ihz _ hm.2 σ y hS Y hY ro O0 c0 e0 kp n0 st1 s1 a' w' _ st' s' _ hn0 hro hr h' hQ
      | exit id =>
        simp only [Option.some.injEq, Prod.mk.injEq] at hr
        obtain ⟨rfl, rfl, rfl⟩ := hr
        exact ihx _ hm.1 σ y hS Y hY ro O0 c0 e0 kp n0 st s a w _ st1 s1 _ hn0 hro hx hs hQ
      | ret =>
        simp only [Option.some.injEq, Prod.mk.injEq] at hr
        obtain ⟨rfl, rfl, rfl⟩ := hr
        exact ihx _ hm.1 σ y hS Y hY ro O0 c0 e0 kp n0 st s a w _ st1 s1 _ hn0 hro hx hs hQ
  | cond cd x z ihx ihz =>
    intro code hm
    cases code <;> simp only [mCode, Bool.false_eq_true, Bool.and_eq_true] at hm
    intro σ y hS Y hY ro O0 c0 e0 kp n0 st s a w ex st' s' Q hn0 hro hr hs hQ
    simp only [runC] at hr
    have hf : ∃ c, FRep N y.l c st.fr a.tmps := by obtain ⟨dm, h1, h2, c, D, hx⟩ := hs; exact ⟨c, hx.frep⟩
    obtain ⟨c, hf⟩ := hf
    have hv := opd_rep N y.l hf hm.1
    split at hr
    · rename_i hcd
      rw [hcd] at hv
      simp only [VRep, Rep] at hv
      exact wpIn_cond_true hv (ihx _ hm.2.1 σ y hS Y hY ro O0 c0 e0 kp n0 st s a w ex st' s' Q hn0 hro hr hs hQ)
    · rename_i hcd
      rw [hcd] at hv
      simp only [VRep, Rep] at hv
      exact wpIn_cond_false hv (ihz _ hm.2.2 σ y hS Y hY ro O0 c0 e0 kp n0 st s a w ex st' s' Q hn0 hro hr hs hQ)
    · cases hr
  | block id x ihx =>
    intro code hm
    cases code <;> simp only [mCode, Bool.false_eq_true, Bool.and_eq_true, beq_iff_eq] at hm
    obtain ⟨rfl, hm⟩ := hm
    intro σ y hS Y hY ro O0 c0 e0 kp n0 st s a w ex st' s' Q hn0 hro hr hs hQ
    simp only [runC] at hr
    refine wpIn_block ?_
    cases hx : runC E Y n0 k x st s with
    | none => rw [hx] at hr; cases hr
    | some r =>
      obtain ⟨ex1, st1, s1⟩ := r
      rw [hx] at hr
      cases ex1 with
      | normal =>
        simp only [Option.some.injEq, Prod.mk.injEq] at hr
        obtain ⟨rfl, rfl, rfl⟩ := hr
        exact ihx _ hm σ y hS Y hY ro O0 c0 e0 kp n0 st s a w _ st1 s1 _ hn0 hro hx hs hQ
      | exit id' =>
        refine ihx _ hm σ y hS Y hY ro O0 c0 e0 kp n0 st s a w _ st1 s1 _ hn0 hro hx hs fun a' w' h' => ?_
        simp only [exOf, Exit.inBlock]
        simp only at hr
        split at hr
        · rename_i e
          simp only [Option.some.injEq, Prod.mk.injEq] at hr
          obtain ⟨rfl, rfl, rfl⟩ := hr
          rw [if_pos e]; exact hQ a' w' h'
        · rename_i e
          simp only [Option.some.injEq, Prod.mk.injEq] at hr
          obtain ⟨rfl, rfl, rfl⟩ := hr
          rw [if_neg e]; exact hQ a' w' h'
      | ret =>
        simp only [Option.some.injEq, Prod.mk.injEq] at hr
        obtain ⟨rfl, rfl, rfl⟩ := hr
        exact ihx _ hm σ y hS Y hY ro O0 c0 e0 kp n0 st s a w _ st1 s1 _ hn0 hro hx hs hQ
  | loop keep lift x ihx =>
    intro code hm
    cases code <;> simp only [mCode, Bool.false_eq_true] at hm
    intro σ y hS Y hY ro O0 c0 e0 kp n0 st s a w ex st' s' Q hn0 hro hr hs hQ
    simp only [runC] at hr
    exact wpIn_loop_rounds k (loop_ok N pr (ihx _ hm) hS hY ro hn0 hro keep lift hQ k st s a w hr hs)
  | range f params lift as b iha ihb =>
    intro code hm
    cases code <;> simp only [mCode, Bool.false_eq_true, Bool.and_eq_true, beq_iff_eq] at hm
    exact range_ok N pr hE (iha _ hm.2.1) (ihb _ hm.2.2) hm.1.1 hm.1.2
  | exit id =>
    intro code hm
    cases code <;> simp only [mCode, Bool.false_eq_true, beq_iff_eq] at hm
    subst hm
    intro σ y hS Y hY ro O0 c0 e0 kp n0 st s a w ex st' s' Q hn0 hro hr hs hQ
    simp only [runC, Option.some.injEq, Prod.mk.injEq] at hr
    obtain ⟨rfl, rfl, rfl⟩ := hr
    exact wpIn_exit (hQ a w hs)
  | ret =>
    intro code hm
    cases code <;> simp only [mCode, Bool.false_eq_true] at hm
    intro σ y hS Y hY ro O0 c0 e0 kp n0 st s a w ex st' s' Q hn0 hro hr hs hQ
    simp only [runC, Option.some.injEq, Prod.mk.injEq] at hr
    obtain ⟨rfl, rfl, rfl⟩ := hr
    exact wpIn_ret (hQ a w hs)

end Go.Am
