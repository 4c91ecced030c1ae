/- The machine's operations are Go's: arithmetic, comparisons, what is left. -/
import Derived.Test.YtbepkgilphbhaaaAmOps8
import Derived.Laws.StructEq
namespace Go.Am
open Go

variable (N : Nm) (ly : Option Nat) (pr : Program)

/-! ### Arithmetic -/

theorem binI_run {op : BinOp} {k : IntKind} {x y : Int} {r : Value} (h : binI op k x y = some r) (h1 : op ≠ .shl) (h2 : op ≠ .shr) (T : TypeId) (w : World) : (binOp op T (.int k x) (.int k y)).run pr w = .ok r w := by
  cases op <;> simp only [binI, reduceCtorEq, Option.some.injEq] at h <;> first
    | (exact absurd rfl h1)
    | (exact absurd rfl h2)
    | (split at h
       · cases h
       · rename_i hy
         simp only [Option.some.injEq] at h; subst h
         simp [binOp, Op.intDiv, hy])
    | (subst h; simp [binOp, Op.intArith, Op.intBits, Op.intCmp])

/-- A type of scalars, by its kind. -/
def kindCode (T kd : Nat) : Bool :=
  match pr.underlying T, kd with
  | some (.int _), 0 => true
  | some .bool, 1 => true
  | some .string, 2 => true
  | _, _ => false

theorem kindCode.bool {T : Nat} (h : kindCode pr T 1 = true) : pr.underlying T = some .bool := by
  unfold kindCode at h
  cases hu : pr.underlying T with
  | none => simp [hu] at h
  | some d => cases d <;> simp [hu] at h ⊢

theorem kindCode.int {T : Nat} (h : kindCode pr T 0 = true) : ∃ k, pr.underlying T = some (.int k) := by
  unfold kindCode at h
  cases hu : pr.underlying T with
  | none => simp [hu] at h
  | some d => cases d <;> simp [hu] at h ⊢

theorem kindCode.string {T : Nat} (h : kindCode pr T 2 = true) : pr.underlying T = some .string := by
  unfold kindCode at h
  cases hu : pr.underlying T with
  | none => simp [hu] at h
  | some d => cases d <;> simp [hu] at h ⊢

theorem binV_run {op : BinOp} {kd : Nat} {a b r : Value} (h : binV op kd a b = some r) (T : TypeId) (hT : kindCode pr T kd = true) (w : World) : (binOp op T a b).run pr w = .ok r w := by
  unfold binV at h
  split at h
  · rename_i k x k' y
    split at h
    · split at h
      · cases h
      · rename_i hy
        simp only [Option.some.injEq] at h; subst h
        simp [binOp, Op.shift, hy]
    · split at h
      · cases h
      · rename_i hy
        simp only [Option.some.injEq] at h; subst h
        simp [binOp, Op.shift, hy]
    · rename_i hs1 hs2
      split at h
      · rename_i hk
        subst hk
        exact binI_run pr h (fun e => hs1 e) (fun e => hs2 e) T w
      · cases h
  · rename_i x y
    have hmax : IntKind.i64.max = 9223372036854775807 := by decide
    cases op <;> simp only [binS, reduceCtorEq, Option.some.injEq] at h <;> first
      | (subst h; simp [binOp, Op.stringOp]; done)
      | (split at h
         · rename_i hl
           simp only [Option.some.injEq] at h; subst h
           have h2 : ¬ (9223372036854775807 < ((x.size : Int) + (y.size : Int))) := by omega
           simp [binOp, Op.stringOp, hmax, h2]
         · cases h)
  · rename_i x y
    have hu := kindCode.bool pr hT
    have he : ∀ w, (Op.equal T (.bool x) (.bool y)).run pr w = .ok (x == y) w := fun w => run_equalIn_bool' (P := pr) w 9999 T x y hu
    split at h
    · simp only [Option.some.injEq] at h; subst h
      simp [binOp, Sem.run_bind, he]
    · simp only [Option.some.injEq] at h; subst h
      simp [binOp, Sem.run_bind, he]
    · cases h
  · cases h

theorem guard_scalar (op : BinOp) (T : TypeId) (x y : Operand) (a b : Value) (h : ∀ p q, a = .agg p → b = .agg q → False) (h' : a = .nilIface → b = .nilIface → False) (w : World) : (eqGuard op T x y a b).run pr w = .ok () w := by
  cases op <;> simp [eqGuard] <;> (split <;> first
    | (exact (h' rfl rfl).elim)
    | (exact (h _ _ rfl rfl).elim)
    | simp)

theorem binV_not {op : BinOp} {kd : Nat} {a b r : Value} (h : binV op kd a b = some r) : (∀ p q, a = .agg p → b = .agg q → False) ∧ (a = .nilIface → b = .nilIface → False) := by
  constructor
  · rintro p q rfl rfl; simp [binV] at h
  · rintro rfl rfl; simp [binV] at h

theorem bin_ok {c : Cfg} (hg : Good N ly c) {fr : Fr} {a : Act} (hf : FRep N ly c fr a.tmps) {T base len : Nat} {op : BinOp} {kd : Nat} {x y : Opd} {x' y' : Operand} (E : Env) {r : Res}
    (hm : kindCode pr T kd = true) (hx : mOpd N x x' = true) (hy : mOpd N y y' = true) (hr : (exec1 E base len fr (.bin op kd x y)).run c.m = some r) :
    OpOk N ly pr c r (do let q ← (do eqGuard op T x' y' (a.eval x') (a.eval y'); binOp op T (a.eval x') (a.eval y')); Pure.pure (Next.value q)) := by
  have hv := opd_rep N ly hf hx
  have hw := opd_rep N ly hf hy
  simp only [exec1] at hr
  split at hr
  · rename_i u v hu hv'
    obtain ⟨q, hq, rfl⟩ := lift_some hr
    rw [hu] at hv
    rw [hv'] at hw
    simp only [VRep, Rep] at hv hw
    obtain ⟨n1, n2⟩ := binV_not hq
    have hg1 := guard_scalar pr op T x' y' u v n1 n2 c.w
    refine OpOk.pure N ly pr hg (run_v pr ?_) (v := q) (by simp only [VRep, Rep])
    rw [hv, hw]
    simp only [Sem.run_bind, hg1, Result.andThen_ok]
    exact binV_run pr hq T hm c.w
  · simp [RM.run] at hr

/-! ### Structs and arrays of scalars, compared -/

def eqVals : List Nat → List Value → List Value → Option Bool
  | [], [], [] => some true
  | 0 :: ks, .int k a :: r, .int k' b :: s => if k = k' then (if a = b then eqVals ks r s else (eqVals ks r s).map fun _ => false) else none
  | 1 :: ks, .bool a :: r, .bool b :: s => if a = b then eqVals ks r s else (eqVals ks r s).map fun _ => false
  | 2 :: ks, .string a :: r, .string b :: s => if a.toList == b.toList then eqVals ks r s else (eqVals ks r s).map fun _ => false
  | _, _, _ => none

theorem eqCells_vals {c : Cfg} : ∀ {ks : List Nat} {a b : List V} {us vs : List Value} {r : Bool}, eqCells ks a b = some r → VReps N ly c.H c.φ c.m a us → VReps N ly c.H c.φ c.m b vs → eqVals ks us vs = some r := by
  intro ks
  induction ks with
  | nil =>
    intro a b us vs r h hu hv
    cases a <;> cases b <;> simp only [eqCells, reduceCtorEq] at h
    simp only [VReps] at hu hv; subst hu hv
    exact h
  | cons k ks ih =>
    intro a b us vs r h hu hv
    unfold eqCells at h
    split at h
    · rename_i heq; cases heq
    · rename_i ks' k1 p r1 k2 q r2 heq
      cases heq
      simp only [VReps, VRep, Rep] at hu hv
      obtain ⟨_, s1, rfl, rfl, hu⟩ := hu
      obtain ⟨_, s2, rfl, rfl, hv⟩ := hv
      simp only [eqVals]
      split at h
      · rename_i hk
        rw [if_pos hk]
        split at h
        · rename_i hpq; rw [if_pos hpq]; exact ih h hu hv
        · rename_i hpq; rw [if_neg hpq]
          simp only [Option.map_eq_some_iff] at h ⊢
          obtain ⟨z, hz, h⟩ := h
          exact ⟨z, ih hz hu hv, h⟩
      · cases h
    · rename_i ks' p r1 q r2 heq
      cases heq
      simp only [VReps, VRep, Rep] at hu hv
      obtain ⟨_, s1, rfl, rfl, hu⟩ := hu
      obtain ⟨_, s2, rfl, rfl, hv⟩ := hv
      simp only [eqVals]
      split at h
      · rename_i hpq; rw [if_pos hpq]; exact ih h hu hv
      · rename_i hpq; rw [if_neg hpq]
        simp only [Option.map_eq_some_iff] at h ⊢
        obtain ⟨z, hz, h⟩ := h
        exact ⟨z, ih hz hu hv, h⟩
    · rename_i ks' p r1 q r2 heq
      cases heq
      simp only [VReps, VRep, Rep] at hu hv
      obtain ⟨_, s1, rfl, rfl, hu⟩ := hu
      obtain ⟨_, s2, rfl, rfl, hv⟩ := hv
      simp only [eqVals]
      split at h
      · rename_i hpq; rw [if_pos hpq]; exact ih h hu hv
      · rename_i hpq; rw [if_neg hpq]
        simp only [Option.map_eq_some_iff] at h ⊢
        obtain ⟨z, hz, h⟩ := h
        exact ⟨z, ih hz hu hv, h⟩
    · cases h

/-- One pair of scalars. -/
theorem eqVals_cons {k : Nat} {ks : List Nat} {u v : Value} {us vs : List Value} {r : Bool} (h : eqVals (k :: ks) (u :: us) (v :: vs) = some r) {T : Nat} (hT : kindCode pr T k = true) (d : Nat) (w : World) :
    ∃ b s, (Op.equalIn (d + 1) T u v).run pr w = .ok b w ∧ eqVals ks us vs = some s ∧ r = (b && s) := by
  unfold eqVals at h
  split at h
  · rename_i heq _ _; cases heq
  · rename_i ks' k1 p r1 k2 q r2 heq h1 h2
    cases heq; cases h1; cases h2
    obtain ⟨k', hu⟩ := kindCode.int pr hT
    split at h
    · rename_i hk
      subst hk
      refine ⟨p == q, ?_⟩
      split at h
      · rename_i hpq; exact ⟨r, run_equalIn_int (P := pr) w d T k1 k' p q hu, h, by simp [hpq]⟩
      · rename_i hpq
        simp only [Option.map_eq_some_iff] at h
        obtain ⟨z, hz, rfl⟩ := h
        exact ⟨z, run_equalIn_int (P := pr) w d T k1 k' p q hu, hz, by simp [hpq]⟩
    · cases h
  · rename_i ks' p r1 q r2 heq h1 h2
    cases heq; cases h1; cases h2
    have hu := kindCode.bool pr hT
    refine ⟨p == q, ?_⟩
    split at h
    · rename_i hpq; exact ⟨r, run_equalIn_bool' (P := pr) w d T p q hu, h, by simp [hpq]⟩
    · rename_i hpq
      simp only [Option.map_eq_some_iff] at h
      obtain ⟨z, hz, rfl⟩ := h
      exact ⟨z, run_equalIn_bool' (P := pr) w d T p q hu, hz, by simp [hpq]⟩
  · rename_i ks' p r1 q r2 heq h1 h2
    cases heq; cases h1; cases h2
    have hu := kindCode.string pr hT
    refine ⟨p.toList == q.toList, ?_⟩
    split at h
    · rename_i hpq; exact ⟨r, run_equalIn_string (P := pr) w d T p q hu, h, by simp [hpq]⟩
    · rename_i hpq
      simp only [Option.map_eq_some_iff] at h
      obtain ⟨z, hz, rfl⟩ := h
      exact ⟨z, run_equalIn_string (P := pr) w d T p q hu, hz, by simp [hpq]⟩
  · cases h

theorem eqVals_length : ∀ {ks : List Nat} {us vs : List Value} {r : Bool}, eqVals ks us vs = some r → us.length = ks.length ∧ vs.length = ks.length := by
  intro ks
  induction ks with
  | nil => intro us vs r h; cases us <;> cases vs <;> simp [eqVals] at h; exact ⟨rfl, rfl⟩
  | cons k ks ih =>
    intro us vs r h
    unfold eqVals at h
    split at h
    · rename_i heq; cases heq
    · rename_i heq; cases heq
      split at h
      · split at h
        · have := ih h; simp [this]
        · simp only [Option.map_eq_some_iff] at h
          obtain ⟨z, hz, _⟩ := h
          have := ih hz; simp [this]
      · cases h
    · rename_i heq; cases heq
      split at h
      · have := ih h; simp [this]
      · simp only [Option.map_eq_some_iff] at h
        obtain ⟨z, hz, _⟩ := h
        have := ih hz; simp [this]
    · rename_i heq; cases heq
      split at h
      · have := ih h; simp [this]
      · simp only [Option.map_eq_some_iff] at h
        obtain ⟨z, hz, _⟩ := h
        have := ih hz; simp [this]
    · cases h

theorem kindCode.part {T k : Nat} (hT : kindCode pr T k = true) (xs : Array Value) (off : Nat) (v : Value) (hv : xs[off]? = some v) (w : World) : (part T xs off).run pr w = .ok v w := by
  have : (isAgg T).run pr w = .ok false w := by
    unfold isAgg
    cases hu : pr.underlying T with
    | none => simp [kindCode, hu] at hT
    | some d =>
      rw [Sem.run_bind, run_underlying hu w]
      cases d <;> simp_all [kindCode]
  simp [Go.part, Sem.run_bind, this, hv]

def mEqFields : List Field → List Nat → Nat → Bool
  | [], [], _ => true
  | f :: fs, k :: ks, j => f.name != "_" && f.offset == j && kindCode pr f.type k && mEqFields fs ks (j + 1)
  | _, _, _ => false

theorem eqFields_run (d : Nat) (w : World) (xs ys : Array Value) : ∀ {fs : List Field} {ks : List Nat} {j : Nat} {r : Bool}, mEqFields pr fs ks j = true → eqVals ks (xs.toList.drop j) (ys.toList.drop j) = some r →
    (Op.eqFields (d + 1) xs ys fs).run pr w = .ok r w
  | [], [], j, r, _, h => by
    generalize xs.toList.drop j = p at h
    generalize ys.toList.drop j = q at h
    cases p <;> cases q <;> simp [eqVals] at h
    subst h; simp [Op.eqFields]
  | f :: fs, k :: ks, j, r, hm, h => by
    simp only [mEqFields, Bool.and_eq_true, bne_iff_ne, beq_iff_eq] at hm
    obtain ⟨⟨⟨hn, ho⟩, hk⟩, hm⟩ := hm
    obtain ⟨l1, l2⟩ := eqVals_length h
    simp only [List.length_drop, Array.length_toList, List.length_cons] at l1 l2
    have hx : xs.toList.drop j = xs[j] :: xs.toList.drop (j + 1) := by rw [List.drop_eq_getElem_cons (by simp; omega)]; simp
    have hy : ys.toList.drop j = ys[j] :: ys.toList.drop (j + 1) := by rw [List.drop_eq_getElem_cons (by simp; omega)]; simp
    rw [hx, hy] at h
    obtain ⟨b, s, h1, h2, rfl⟩ := eqVals_cons pr h hk d w
    have hp := kindCode.part pr hk xs f.offset xs[j] (by rw [ho]; exact Array.getElem?_eq_getElem (by omega)) w
    have hq := kindCode.part pr hk ys f.offset ys[j] (by rw [ho]; exact Array.getElem?_eq_getElem (by omega)) w
    have ih := eqFields_run d w xs ys hm h2
    simp only [Op.eqFields, if_pos hn, Sem.run_bind, hp, hq, h1, Result.andThen_ok]
    cases b
    · simp
    · simpa using ih
  | [], _ :: _, _, _, hm, _ => by simp [mEqFields] at hm
  | _ :: _, [], _, _, hm, _ => by simp [mEqFields] at hm

theorem eqArr_run (d e : Nat) (w : World) (xs ys : Array Value) : ∀ {ks : List Nat} {j : Nat} {r : Bool}, (∀ k ∈ ks, kindCode pr e k = true) → eqVals ks (xs.toList.drop j) (ys.toList.drop j) = some r →
    (forIn (List.range' j ks.length) ((none : Option Bool), ()) (fun i _ => do
      let a ← part e xs (i * 1)
      let b ← part e ys (i * 1)
      let r ← Op.equalIn (d + 1) e a b
      if (!r) = true then pure (.done (some false, ())) else pure (.yield (none, ())))).run pr w = .ok (if r then (none, ()) else (some false, ())) w
  | [], j, r, _, h => by
    generalize xs.toList.drop j = p at h
    generalize ys.toList.drop j = q at h
    cases p <;> cases q <;> simp [eqVals] at h
    subst h; simp
  | k :: ks, j, r, hm, h => by
    obtain ⟨l1, l2⟩ := eqVals_length h
    simp only [List.length_drop, Array.length_toList, List.length_cons] at l1 l2
    have hx : xs.toList.drop j = xs[j] :: xs.toList.drop (j + 1) := by rw [List.drop_eq_getElem_cons (by simp; omega)]; simp
    have hy : ys.toList.drop j = ys[j] :: ys.toList.drop (j + 1) := by rw [List.drop_eq_getElem_cons (by simp; omega)]; simp
    rw [hx, hy] at h
    have hk := hm k (by simp)
    obtain ⟨b, s, h1, h2, rfl⟩ := eqVals_cons pr h hk d w
    have hp := kindCode.part pr hk xs (j * 1) xs[j] (by rw [Nat.mul_one]; exact Array.getElem?_eq_getElem (by omega)) w
    have hq := kindCode.part pr hk ys (j * 1) ys[j] (by rw [Nat.mul_one]; exact Array.getElem?_eq_getElem (by omega)) w
    have ih := eqArr_run d e w xs ys (fun k hk => hm k (by simp [hk])) h2
    simp only [List.length_cons, List.range'_succ, List.forIn_cons, Sem.run_bind, hp, hq, h1, Result.andThen_ok]
    cases b
    · simp
    · simpa [Sem.run_bind] using ih

end Go.Am
