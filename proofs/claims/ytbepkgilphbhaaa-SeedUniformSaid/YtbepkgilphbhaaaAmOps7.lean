/- The machine's operations are Go's: addresses, slices of slices, parts of structs. -/
import Derived.Test.YtbepkgilphbhaaaAmOps6
namespace Go.Am
open Go

variable (N : Nm) (ly : Option Nat) (pr : Program)

theorem rep_notAgg {c : Cfg} (hg : Good N ly c) {b off : Nat} {ps : List P} (h : RepCs N c.H b ps off) : ∀ p ∈ ps, p.isAgg = false := fun p hp => by
  obtain ⟨j, hj⟩ := List.getElem?_of_mem hp
  obtain ⟨u, k1, k2⟩ := RepCs.get N h j p hj
  have := isCell_of_rep N k2 (hg.hok N ly _ _ _ k1)
  cases p <;> first | rfl | simp [V.isCell] at this

/-! ### Slices of slices -/

def mOpt (x : Option Opd) (o : Option Operand) : Bool :=
  match x, o with
  | none, none => true
  | some x, some o => mOpd N x o
  | _, _ => false

theorem run_bounds (w : World) (isSl : Bool) (len cap l h : Nat) (lo hi : Option Value) (hlo : (lo = none ∧ l = 0) ∨ ∃ k, lo = some (.int k (l : Int))) (hhi : (hi = none ∧ h = len) ∨ ∃ k, hi = some (.int k (h : Int))) (h1 : l ≤ h) (h2 : h ≤ cap) :
    (Instr.sliceBounds isSl len cap lo hi none).run pr w = .ok (l, h, cap) w := by
  rcases hlo with ⟨rfl, rfl⟩ | ⟨k, rfl⟩ <;> rcases hhi with ⟨rfl, rfl⟩ | ⟨k', rfl⟩ <;>
    simp [Instr.sliceBounds, run_sliceBound, h1, h2]

theorem lo_rep {c : Cfg} {fr : Fr} {a : Act} (hf : FRep N ly c fr a.tmps) {x : Option Opd} {o : Option Operand} (hm : mOpt N x o = true) {l d : Nat} (hl : x.elim (some d) (bound · fr) = some l) :
    (o.map a.eval = none ∧ l = d) ∨ ∃ k, o.map a.eval = some (.int k (l : Int)) := by
  unfold mOpt at hm
  split at hm
  · simp at hl; exact .inl ⟨rfl, hl.symm⟩
  · rename_i x o
    simp only [Option.elim] at hl
    obtain ⟨k, hk⟩ := bound_rep N ly hl (opd_rep N ly hf hm)
    exact .inr ⟨k, by simp [hk]⟩
  · cases hm

theorem take_drop_get {α : Type} (es : List α) (l h j : Nat) (x : α) (hx : ((es.take h).drop l)[j]? = some x) : es[l + j]? = some x ∧ l + j < h := by
  rw [List.getElem?_drop, List.getElem?_take] at hx
  split at hx
  · exact ⟨hx, by assumption⟩
  · cases hx

theorem slice_data {c : Cfg} {n : Nat} {es : List P} {a : Option Addr} {len cap l h : Nat} (hv : Rep N c.H (.sl n es) (.slice a len cap)) (h1 : l ≤ h) (h2 : h ≤ es.length) :
    Rep N c.H (.sl n ((es.take h).drop l)) (.slice (if cap = l then a else a.map (·.add (l * sz n))) (h - l) (cap - l)) := by
  simp only [Rep] at hv ⊢
  obtain ⟨a', cap', ⟨he, hcap⟩, hne⟩ := hv
  simp only [Value.slice.injEq] at he
  obtain ⟨rfl, rfl, rfl⟩ := he
  have hlen : ((es.take h).drop l).length = h - l := by simp; omega
  refine ⟨_, cap - l, ⟨by rw [hlen], by omega⟩, fun hx => ?_⟩
  have hlh : l < h := by
    rcases Nat.lt_or_ge l h with h' | h'
    · exact h'
    · exact absurd (List.eq_nil_of_length_eq_zero (by omega)) hx
  have hes : es ≠ [] := fun e => by subst e; simp at h2; omega
  obtain ⟨b, off, rfl, hr⟩ := hne hes
  by_cases hc : cap = l
  · omega
  · rw [if_neg hc]
    refine ⟨b, off + l * sz n, by simp [addr_add], RepEs.of N fun j p hj => ?_⟩
    obtain ⟨hj', _⟩ := take_drop_get es l h j p hj
    have := RepEs.get N hr (l + j) p hj'
    rwa [Nat.add_mul, ← Nat.add_assoc] at this


def mSlice (T n : Nat) (arr : Option Nat) : Bool :=
  match pr.underlying T, arr with
  | some (.slice e), none => kindOk pr e n
  | some (.array k e), some k' => k == k' && kindOk pr e n
  | _, _ => false

theorem slice_ok {c : Cfg} (hg : Good N ly c) {fr : Fr} {a : Act} (hf : FRep N ly c fr a.tmps) {T n base len : Nat} {arr : Option Nat} {x : Opd} {lo hi : Option Opd} {y : Operand} {lo' hi' : Option Operand} (E : Env) {r : Res}
    (hm : mSlice pr T n arr = true) (hx : mOpd N x y = true) (hlo : mOpt N lo lo' = true) (hhi : mOpt N hi hi' = true) (hr : (exec1 E base len fr (.slice n arr x lo hi)).run c.m = some r) :
    OpOk N ly pr c r (do let q ← Instr.sliceAt T (a.eval y) (lo'.map a.eval) (hi'.map a.eval) none; Pure.pure (Next.value q)) := by
  have hv := opd_rep N ly hf hx
  simp only [exec1] at hr
  cases hl : lo.elim (some 0) (bound · fr) with
  | none => rw [hl] at hr; simp [RM.run] at hr
  | some l =>
    rw [hl] at hr
    simp only at hr
    have hL := lo_rep N ly hf hlo hl
    unfold mSlice at hm
    cases hu : pr.underlying T with
    | none => rw [hu] at hm; simp at hm
    | some d =>
      rw [hu] at hm
      cases arr with
      | none =>
        cases d <;> simp only at hm <;> try (cases hm; done)
        rename_i e
        obtain ⟨_, hsz⟩ := kindOk.run pr hm c.w
        have hsl : ∀ (A : Option Addr) (ln cp h : Nat), a.eval y = .slice A ln cp → hi.elim (some ln) (bound · fr) = some h → l ≤ h → h ≤ cp →
            (Instr.sliceAt T (a.eval y) (lo'.map a.eval) (hi'.map a.eval) none).run pr c.w = .ok (.slice (if cp = l then A else A.map (·.add (l * sz n))) (h - l) (cp - l)) c.w := fun A ln cp h hA hh h1 h2 => by
          have hH := lo_rep N ly hf hhi hh
          have hb := run_bounds pr c.w true ln cp l h (lo'.map a.eval) (hi'.map a.eval) hL hH h1 h2
          rw [hA]
          simp only [Instr.sliceAt, Sem.run_bind, run_underlying hu, Result.andThen_ok, Instr.slice, hb, hsz, Sem.run_pure]
        split at hr
        · rename_i n' es _ hx'
          rw [hx'] at hv
          simp only [VRep] at hv
          split at hr
          · rename_i h hh
            split at hr
            · rename_i hc
              obtain ⟨rfl, h1, h2⟩ := hc
              simp only [RM.run, Option.some.injEq] at hr; subst hr
              obtain ⟨A, cp, ⟨hA, hcp⟩, hne⟩ : ∃ A cp, (a.eval y = .slice A es.length cp ∧ es.length ≤ cp) ∧ _ := by simpa only [Rep] using hv
              refine OpOk.pure N ly pr hg (run_v pr (hsl A es.length cp h hA hh h1 (by omega))) ?_
              simp only [VRep]
              rw [hA] at hv
              exact slice_data N hv h1 h2
            · simp [RM.run] at hr
          · simp [RM.run] at hr
        · rename_i n' t es _ hx'
          rw [hx'] at hv
          simp only [VRep] at hv
          have hv := hv.1
          split at hr
          · rename_i h hh
            split at hr
            · rename_i hc
              obtain ⟨rfl, h1, h2⟩ := hc
              simp only [RM.run, Option.some.injEq] at hr; subst hr
              obtain ⟨A, cp, ⟨hA, hcp⟩, hne⟩ : ∃ A cp, (a.eval y = .slice A es.length cp ∧ es.length ≤ cp) ∧ _ := by simpa only [Rep] using hv
              refine OpOk.pure N ly pr hg (run_v pr (hsl A es.length cp h hA hh h1 (by omega))) ?_
              simp only [VRep]
              rw [hA] at hv
              exact slice_data N hv h1 h2
            · simp [RM.run] at hr
          · simp [RM.run] at hr
        · rename_i n' _ hx'
          rw [hx'] at hv
          simp only [VRep] at hv
          obtain ⟨A, hA⟩ := hv
          split at hr
          · rename_i h hh
            split at hr
            · rename_i hc
              obtain ⟨rfl, rfl, rfl⟩ := hc
              simp only [RM.run, Option.some.injEq] at hr; subst hr
              refine OpOk.pure N ly pr hg (run_v pr (hsl A 0 0 0 hA hh (Nat.le_refl _) (Nat.le_refl _))) ?_
              simp only [VRep]; exact ⟨_, rfl⟩
            · simp [RM.run] at hr
          · simp [RM.run] at hr
        · rename_i n' b off ln _ hx'
          rw [hx'] at hv
          simp only [VRep] at hv
          split at hr
          · rename_i h hh
            split at hr
            · rename_i hc
              obtain ⟨rfl, h1, h2⟩ := hc
              simp only [RM.run, Option.some.injEq] at hr; subst hr
              rcases hv with ⟨rfl, A, hA⟩ | ⟨R, s, cp, k1, k2, hA, k3, k4⟩
              · have : h = 0 := by omega
                subst this
                have : l = 0 := by omega
                subst this
                refine OpOk.pure N ly pr hg (run_v pr (hsl A 0 0 0 hA hh (Nat.le_refl _) (Nat.le_refl _))) ?_
                simp only [VRep]; exact .inl ⟨rfl, _, rfl⟩
              · refine OpOk.pure N ly pr hg (run_v pr (hsl _ ln cp h hA hh h1 (by omega))) ?_
                simp only [VRep]
                by_cases hcl : cp = l
                · rw [if_pos hcl]
                  refine .inl ⟨by omega, _, by rw [hcl, Nat.sub_self, show h - l = 0 by omega]⟩
                · rw [if_neg hcl]
                  refine .inr ⟨R, s, cp - l, k1, k2, by simp [addr_add], by omega, ?_⟩
                  have : l * sz n' + (cp - l) * sz n' = cp * sz n' := by rw [← Nat.add_mul]; congr 1; omega
                  omega
            · simp [RM.run] at hr
          · simp [RM.run] at hr
        · rename_i hbad _; cases hbad
        · rename_i hbad _; cases hbad
        · simp [RM.run] at hr
      | some k =>
        cases d <;> simp only at hm <;> try (cases hm; done)
        rename_i k' e
        simp only [Bool.and_eq_true, beq_iff_eq] at hm
        obtain ⟨rfl, hm⟩ := hm
        obtain ⟨_, hsz⟩ := kindOk.run pr hm c.w
        have hsl : ∀ (A : Addr) (h : Nat), a.eval y = .pointer (some A) → hi.elim (some k') (bound · fr) = some h → l ≤ h → h ≤ k' →
            (Instr.sliceAt T (a.eval y) (lo'.map a.eval) (hi'.map a.eval) none).run pr c.w = .ok (.slice (some (if k' = l then A else A.add (l * sz n))) (h - l) (k' - l)) c.w := fun A h hA hh h1 h2 => by
          have hH := lo_rep N ly hf hhi hh
          have hb := run_bounds pr c.w false k' k' l h (lo'.map a.eval) (hi'.map a.eval) hL hH h1 h2
          rw [hA]
          simp only [Instr.sliceAt, Sem.run_bind, run_underlying hu, Result.andThen_ok, Instr.sureAddr, Sem.run_pure, hb, hsz]
        split at hr
        · rename_i hbad _; cases hbad
        · rename_i hbad _; cases hbad
        · rename_i hbad _; cases hbad
        · rename_i hbad _; cases hbad
        · rename_i len' b off heq hx'
          cases heq
          rw [hx'] at hv
          split at hr
          · rename_i h hh
            split at hr
            · rename_i hc
              obtain ⟨h1, h2⟩ := hc
              rw [RM.run_bind] at hr
              cases hcs : (getC b).run c.m with
              | none => rw [hcs] at hr; simp at hr
              | some cs =>
                rw [hcs] at hr
                simp only [Option.bind_some] at hr
                split at hr
                · rename_i hle
                  simp only [RM.run, Option.some.injEq] at hr; subst hr
                  have hb := run_getC_some hcs
                  simp only [VRep] at hv
                  obtain ⟨R, s, k1, k2, hA⟩ := hv
                  obtain ⟨arr, e', q1, q2, q3, _⟩ := cells_read N ly hg hb k2
                  refine OpOk.pure N ly pr hg (run_v pr (hsl _ h hA hh h1 h2)) ?_
                  simp only [VRep]
                  by_cases hcl : k' = l
                  · refine .inl ⟨by omega, _, by rw [hcl, Nat.sub_self, show h - l = 0 by omega]⟩
                  · rw [if_neg hcl]
                    refine .inr ⟨R, s, k' - l, k1, k2, by simp [addr_add], by omega, ?_⟩
                    have : l * sz n + (k' - l) * sz n = k' * sz n := by rw [← Nat.add_mul]; congr 1; omega
                    omega
                · simp [RM.run] at hr
            · simp [RM.run] at hr
          · simp [RM.run] at hr
        · rename_i len' ps heq hx'
          cases heq
          rw [hx'] at hv
          split at hr
          · rename_i h hh
            split at hr
            · rename_i hc
              obtain ⟨h1, h2, h3⟩ := hc
              simp only [RM.run, Option.some.injEq] at hr; subst hr
              simp only [VRep, Rep] at hv
              obtain ⟨b, off, hA, hr⟩ := hv
              refine OpOk.pure N ly pr hg (run_v pr (hsl _ h hA hh h1 h2)) ?_
              simp only [VRep, Rep]
              rw [chunk_length]
              refine ⟨_, k' - l, ⟨rfl, by omega⟩, fun hne => ?_⟩
              by_cases hcl : k' = l
              · exfalso; apply hne
                have : h - l = 0 := by omega
                rw [this]; rfl
              · rw [if_neg hcl]
                refine ⟨b, off + l * sz n, by rw [addr_add], ?_⟩
                refine RepCs.chunk N (RepCs.drop N hr (l * sz n)) ?_ (fun p hp => rep_notAgg N ly hg hr p (List.mem_of_mem_drop hp))
                have : (h - l) * sz n + l * sz n ≤ k' * sz n := by rw [← Nat.add_mul]; exact Nat.mul_le_mul_right _ (by omega)
                simp; omega
            · simp [RM.run] at hr
          · simp [RM.run] at hr
        · simp [RM.run] at hr

end Go.Am
