/- The machine's operations are Go's: the operations one by one, and all of them together (but calls). -/
import Derived.Test.YtbepkgilphbhaaaAmOps9
namespace Go.Am
open Go

variable (N : Nm) (ly : Option Nat) (pr : Program)

theorem agg_rep {c : Cfg} {x : V} {v : Value} {cs : List V} (hx : x.agg? = some cs) (hv : VRep N ly c.H c.φ c.m x v) : ∃ vs : List Value, v = .agg vs.toArray ∧ VReps N ly c.H c.φ c.m cs vs := by
  unfold V.agg? at hx
  split at hx
  · cases hx
    simpa only [VRep] using hv
  · cases hx
    simp only [VRep, Rep] at hv
    obtain ⟨vs, rfl, hr⟩ := hv
    refine ⟨vs, rfl, VReps.of N ly (by simp [Reps.length N hr]) fun j p u hp hu => ?_⟩
    simp only [List.getElem?_map, Option.map_eq_some_iff] at hp
    obtain ⟨q, hq, rfl⟩ := hp
    obtain ⟨u', k1, k2⟩ := Reps.get N hr j q hq
    rw [k1] at hu; cases hu
    simpa only [VRep] using k2
  · cases hx

def mEqs (T : Nat) (ks : List Nat) : Bool :=
  match pr.underlying T with
  | some (.struct fs) => mEqFields pr fs.toList ks 0 && !pr.stoodInHeld T && !pr.eqGuardType pr.depth T
  | some (.array len e) => ks.length == len && ks.all (kindCode pr e) && kindOk pr e 0 && !pr.eqGuardType pr.depth T
  | _ => false

theorem equalIn_run {T : Nat} {ks : List Nat} {xs ys : Array Value} {r : Bool} (hm : mEqs pr T ks = true) (h : eqVals ks xs.toList ys.toList = some r) (w : World) : (Op.equalIn 10000 T (.agg xs) (.agg ys)).run pr w = .ok r w := by
  unfold mEqs at hm
  split at hm
  · rename_i fs hu
    simp only [Bool.and_eq_true, Bool.not_eq_true'] at hm
    have hf : pr.fieldsOf T = fs := by simp [Program.fieldsOf, hu]
    rw [run_equalIn_struct (P := pr) w 9999 T xs ys (by rw [hf]; exact hu) hm.1.2, hf]
    exact eqFields_run pr 9998 w xs ys hm.1.1 (by simpa using h)
  · rename_i len e hu
    simp only [Bool.and_eq_true, beq_iff_eq, Bool.not_eq_true', List.all_eq_true] at hm
    obtain ⟨⟨⟨hl, hk⟩, hs⟩, _⟩ := hm
    have hsz := (kindOk.run pr hs w).2
    have hsz' : ∀ w, (sizeOf e).run pr w = .ok 1 w := fun w => by have := (kindOk.run pr hs w).2; simpa [sz] using this
    have hrun := eqArr_run pr 9998 e w xs ys (j := 0) hk (by simpa using h)
    subst hl
    rw [Op.equalIn]
    simp only [Sem.run_bind, run_underlying hu, Result.andThen_ok, hsz']
    simp only [Std.Legacy.Range.forIn_eq_forIn_range', Std.Legacy.Range.size, Nat.sub_zero, Nat.add_sub_cancel, Nat.div_one] at hrun ⊢
    rw [show (9998 : Nat) + 1 = 9999 from rfl] at hrun
    rw [hrun]
    cases r <;> simp
  · cases hm

theorem mEqs_guard {T : Nat} {ks : List Nat} (hm : mEqs pr T ks = true) : pr.eqGuardType pr.depth T = false := by
  unfold mEqs at hm
  split at hm
  · simp only [Bool.and_eq_true, Bool.not_eq_true'] at hm; exact hm.2
  · simp only [Bool.and_eq_true, Bool.not_eq_true'] at hm; exact hm.2
  · cases hm

theorem eqs_ok {c : Cfg} (hg : Good N ly c) {fr : Fr} {a : Act} (hf : FRep N ly c fr a.tmps) {T base len : Nat} {neg : Bool} {op : BinOp} {ks : List Nat} {x y : Opd} {x' y' : Operand} (E : Env) {r : Res}
    (hop : op = if neg then .neq else .eql) (hm : mEqs pr T ks = true) (hx : mOpd N x x' = true) (hy : mOpd N y y' = true) (hr : (exec1 E base len fr (.eqs neg ks x y)).run c.m = some r) :
    OpOk N ly pr c r (do let q ← (do eqGuard op T x' y' (a.eval x') (a.eval y'); binOp op T (a.eval x') (a.eval y')); Pure.pure (Next.value q)) := by
  have hv := opd_rep N ly hf hx
  have hw := opd_rep N ly hf hy
  simp only [exec1] at hr
  split at hr
  · rename_i u v hu hv'
    obtain ⟨q, hq, rfl⟩ := lift_some hr
    obtain ⟨us, e1, h1⟩ := agg_rep N ly hu hv
    obtain ⟨vs, e2, h2⟩ := agg_rep N ly hv' hw
    have hvals := eqCells_vals N ly hq h1 h2
    have hgd := run_eqGuard_agg (P := pr) c.w op T x' y' us.toArray vs.toArray (mEqs_guard pr hm)
    have heq := equalIn_run pr (xs := us.toArray) (ys := vs.toArray) hm (by simpa using hvals) c.w
    refine OpOk.pure N ly pr hg (run_v pr ?_) (v := .bool (q != neg)) (by simp only [VRep, Rep])
    rw [e1, e2]
    simp only [Sem.run_bind, hgd, Result.andThen_ok]
    subst hop
    cases neg
    · rw [if_neg (by simp), run_eql_struct, heq]; simp
    · rw [if_pos rfl, run_neq_struct, heq]; simp
  · simp [RM.run] at hr

theorem unV_run {op : UnOp} {x r : Value} (h : unV op x = some r) (w : World) : (Op.unary op x).run pr w = .ok r w := by
  unfold unV at h
  split at h
  · split at h
    · simp only [Option.some.injEq] at h; subst h; simp [Op.unary, Op.intArith]
    · simp only [Option.some.injEq] at h; subst h; simp [Op.unary, Op.intBits]
    · cases h
  · split at h
    · simp only [Option.some.injEq] at h; subst h; simp [Op.unary]
    · cases h
  · cases h

theorem mm_run {isMax : Bool} {c : Cfg} : ∀ {xs : List V} {x y : V} {v : Value} {vs : List Value}, mmV isMax x xs = some y → VRep N ly c.H c.φ c.m x v → VReps N ly c.H c.φ c.m xs vs →
    ∃ u, ((vs.foldlM (if isMax then Builtin.max2 else Builtin.min2) v).run pr c.w = .ok u c.w) ∧ VRep N ly c.H c.φ c.m y u
  | [], x, y, v, vs, h, hv, hvs => by
    simp only [VReps] at hvs; subst hvs
    have : y = x := by unfold mmV at h; simpa using h.symm
    subst this
    exact ⟨v, by simp, hv⟩
  | z :: r, x, y, v, vs, h, hv, hvs => by
    unfold mmV at h
    split at h
    · rename_i heq; cases heq
    · rename_i k a k' b r' heq
      cases heq
      split at h
      · rename_i hk
        subst hk
        simp only [VReps, VRep, Rep] at hv hvs
        obtain ⟨_, s, rfl, rfl, hvs⟩ := hvs
        subst hv
        obtain ⟨u, h1, h2⟩ := mm_run (v := .int k (if isMax then (if b > a then b else a) else (if b < a then b else a))) h (by simp only [VRep, Rep]) hvs
        refine ⟨u, ?_, h2⟩
        simp only [List.foldlM_cons, Sem.run_bind]
        cases isMax
        · simpa [Builtin.min2] using h1
        · simpa [Builtin.max2] using h1
      · cases h
    · cases h

end Go.Am
