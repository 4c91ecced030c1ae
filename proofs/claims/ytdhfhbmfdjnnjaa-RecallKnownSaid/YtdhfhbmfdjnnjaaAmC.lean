/- When an operation of the machine is one of Go's; then it does what Go's does. -/
import Derived.Test.YtdhfhbmfdjnnjaaAmB
import Derived.RangeFuncSeq
import Derived.TacticsIn
namespace Go.Am
open Go

variable (N : Nm) (ly : Option Nat) (pr : Program)

def mPartsS (fs : Array Field) : List (Nat × Nat × Opd) → List (Nat × Operand) → Bool
  | [], [] => true
  | (off, n, x) :: r, (i, y) :: s => (match fs[i]? with
    | some f => f.offset == off && kindOk pr f.type n
    | none => false) && mOpd N x y && mPartsS fs r s
  | _, _ => false

def mPartsA (e : Nat) : List (Nat × Nat × Opd) → List (Nat × Operand) → Bool
  | [], [] => true
  | (off, n, x) :: r, (i, y) :: s => off == i * sz n && kindOk pr e n && mOpd N x y && mPartsA e r s
  | _, _ => false

def mBuild (T : Nat) (ps : List (Nat × Nat × Opd)) (qs : List (Nat × Operand)) : Bool :=
  match pr.underlying T with
  | some (.struct fs) => fs.toList.all (fun f => (pr.info? f.type).isSome) && mPartsS N pr fs ps qs
  | some (.array _ e) => (pr.info? e).isSome && mPartsA N pr e ps qs
  | _ => false

theorem mPartsS_get {fs : Array Field} : ∀ {ps : List (Nat × Nat × Opd)} {qs : List (Nat × Operand)}, mPartsS N pr fs ps qs = true → ps.length = qs.length ∧
    ∀ (j o n : Nat) (x : Opd) (i : Nat) (y : Operand), ps[j]? = some (o, n, x) → qs[j]? = some (i, y) → (∃ f, fs[i]? = some f ∧ f.offset = o ∧ kindOk pr f.type n = true) ∧ mOpd N x y = true
  | [], [], _ => ⟨rfl, fun j o n x i y h => by simp at h⟩
  | (off, n, x) :: r, (i, y) :: s, h => by
    simp only [mPartsS, Bool.and_eq_true] at h
    obtain ⟨⟨h1, h2⟩, h3⟩ := h
    obtain ⟨k1, k2⟩ := mPartsS_get h3
    refine ⟨by simp [k1], fun j o n' x' i' y' hj hj' => ?_⟩
    cases j with
    | zero =>
      simp only [List.getElem?_cons_zero, Option.some.injEq, Prod.mk.injEq] at hj hj'
      obtain ⟨rfl, rfl, rfl⟩ := hj
      obtain ⟨rfl, rfl⟩ := hj'
      refine ⟨?_, h2⟩
      split at h1
      · rename_i f hf
        simp only [Bool.and_eq_true, beq_iff_eq] at h1
        exact ⟨f, hf, h1.1, h1.2⟩
      · cases h1
    | succ j => exact k2 j o n' x' i' y' (by simpa using hj) (by simpa using hj')
  | [], _ :: _, h => by simp [mPartsS] at h
  | _ :: _, [], h => by simp [mPartsS] at h

theorem mPartsA_get {e : Nat} : ∀ {ps : List (Nat × Nat × Opd)} {qs : List (Nat × Operand)}, mPartsA N pr e ps qs = true → ps.length = qs.length ∧
    ∀ (j o n : Nat) (x : Opd) (i : Nat) (y : Operand), ps[j]? = some (o, n, x) → qs[j]? = some (i, y) → o = i * sz n ∧ kindOk pr e n = true ∧ mOpd N x y = true
  | [], [], _ => ⟨rfl, fun j o n x i y h => by simp at h⟩
  | (off, n, x) :: r, (i, y) :: s, h => by
    simp only [mPartsA, Bool.and_eq_true, beq_iff_eq] at h
    obtain ⟨⟨⟨h0, h1⟩, h2⟩, h3⟩ := h
    obtain ⟨k1, k2⟩ := mPartsA_get h3
    refine ⟨by simp [k1], fun j o n' x' i' y' hj hj' => ?_⟩
    cases j with
    | zero =>
      simp only [List.getElem?_cons_zero, Option.some.injEq, Prod.mk.injEq] at hj hj'
      obtain ⟨rfl, rfl, rfl⟩ := hj
      obtain ⟨rfl, rfl⟩ := hj'
      exact ⟨h0, h1, h2⟩
    | succ j => exact k2 j o n' x' i' y' (by simpa using hj) (by simpa using hj')
  | [], _ :: _, h => by simp [mPartsA] at h
  | _ :: _, [], h => by simp [mPartsA] at h

theorem places_some : ∀ {fs : List Field}, fs.all (fun f => (pr.info? f.type).isSome) = true → ∃ places, fs.mapM (fun f => (pr.info? f.type).map fun i => (f.offset, i.size)) = some places ∧
    ∀ (j : Nat) (f : Field) (i : TypeInfo), fs[j]? = some f → pr.info? f.type = some i → places[j]? = some (f.offset, i.size)
  | [], _ => ⟨[], by simp, fun j f i h => by simp at h⟩
  | f :: fs, h => by
    simp only [List.all_cons, Bool.and_eq_true] at h
    obtain ⟨places, h1, h2⟩ := places_some h.2
    obtain ⟨i, hi⟩ := Option.isSome_iff_exists.1 h.1
    refine ⟨(f.offset, i.size) :: places, ?_, fun j g i' hj hi' => ?_⟩
    · simp only [List.mapM_cons, Option.bind_eq_bind, Option.pure_def, hi, Option.map_some, Option.bind_some, h1]
    · cases j with
      | zero => simp at hj; subst hj; rw [hi] at hi'; cases hi'; simp
      | succ j => simpa using h2 j g i' (by simpa using hj) hi'

theorem build_ok {c : Cfg} (hg : Good N ly c) {fr : Fr} {a : Act} (hf : FRep N ly c fr a.tmps) {T base len : Nat} {z : List Zc} {ps : List (Nat × Nat × Opd)} {qs : Array (Nat × Operand)} (E : Env) {r : Res}
    (hz : zeroOk pr T z = true) (hm : mBuild N pr T ps qs.toList = true) (hr : (exec1 E base len fr (.build z ps)).run c.m = some r) :
    OpOk N ly pr c r (do let q ← Instr.build T (qs.map fun (i, x) => (i, a.eval x)); Pure.pure (Next.value q)) := by
  simp only [exec1] at hr
  split at hr
  · rename_i cs hcs
    simp only [RM.run, Option.some.injEq] at hr; subst hr
    obtain ⟨v, _, hze, it, hit, hiz⟩ := zeroOk.run pr hz
    obtain ⟨hzr, hzc⟩ := zsEq.rep N ly (H := c.H) (φ := c.φ) (m := c.m) hze
    have fin : ∀ {cells : Array Value}, pr.built T (qs.map fun (i, x) => (i, a.eval x)).toList = some cells → VReps N ly c.H c.φ c.m cs cells.toList → OpOk N ly pr c { val := .agg cs } (do let q ← Instr.build T (qs.map fun (i, x) => (i, a.eval x)); Pure.pure (Next.value q)) := fun {cells} h1 h2 =>
      OpOk.pure N ly pr hg (run_v pr (run_build (P := pr) c.w T _ cells h1)) (by simp only [VRep]; exact ⟨cells.toList, by simp, h2⟩)
    unfold mBuild at hm
    split at hm
    · rename_i fs hu
      simp only [Bool.and_eq_true] at hm
      obtain ⟨places, hp1, hp2⟩ := places_some pr hm.1
      obtain ⟨hl, hget⟩ := mPartsS_get N pr hm.2
      obtain ⟨cells, k1, k2, _⟩ := fill_rep N ly (place := (places.toArray[·]?)) (qs := (qs.map fun (i, x) => (i, a.eval x)).toList) hcs hzr hzc (by simpa using hl) (fun j o n x i v hj hv => by
        simp only [List.getElem?_map, Option.map_eq_some_iff, Array.toList_map] at hj hv
        obtain ⟨⟨o', n', x'⟩, hj, he⟩ := hj
        simp only [Prod.mk.injEq] at he
        obtain ⟨rfl, rfl, rfl⟩ := he
        obtain ⟨⟨i', y⟩, hq, he⟩ := hv
        simp only [Prod.mk.injEq] at he
        obtain ⟨rfl, rfl⟩ := he
        obtain ⟨⟨f, g1, g2, g3⟩, g4⟩ := hget j o' n' x' i' y hj hq
        obtain ⟨inf, q1, q2⟩ := kindOk.info pr g3
        refine ⟨?_, opd_rep N ly hf g4⟩
        have := hp2 i' f inf (by rw [Array.getElem?_toList]; exact g1) q1
        simpa [g2, q2] using this)
      refine fin (cells := cells) ?_ k2
      simp only [Program.built, hit, hu, hiz, hp1]
      exact k1
    · rename_i k e hu
      simp only [Bool.and_eq_true] at hm
      obtain ⟨ie, hie⟩ := Option.isSome_iff_exists.1 hm.1
      obtain ⟨hl, hget⟩ := mPartsA_get N pr hm.2
      obtain ⟨cells, k1, k2, _⟩ := fill_rep N ly (place := fun i => some (i * ie.size, ie.size)) (qs := (qs.map fun (i, x) => (i, a.eval x)).toList) hcs hzr hzc (by simpa using hl) (fun j o n x i v hj hv => by
        simp only [List.getElem?_map, Option.map_eq_some_iff, Array.toList_map] at hj hv
        obtain ⟨⟨o', n', x'⟩, hj, he⟩ := hj
        simp only [Prod.mk.injEq] at he
        obtain ⟨rfl, rfl, rfl⟩ := he
        obtain ⟨⟨i', y⟩, hq, he⟩ := hv
        simp only [Prod.mk.injEq] at he
        obtain ⟨rfl, rfl⟩ := he
        obtain ⟨rfl, g3, g4⟩ := hget j o' n' x' i' y hj hq
        obtain ⟨inf, q1, q2⟩ := kindOk.info pr g3
        rw [hie] at q1; cases q1
        exact ⟨by rw [q2], opd_rep N ly hf g4⟩)
      refine fin (cells := cells) ?_ k2
      simp only [Program.built, hit, hu, hiz, hie]
      exact k1
    · cases hm
  · simp [RM.run] at hr

def mPairs : List (Nat × Opd) → List (Nat × Operand) → Bool
  | [], [] => true
  | (i, x) :: r, (j, y) :: s => i == j && mOpd N x y && mPairs r s
  | _, _ => false

theorem mPairs_get : ∀ {ps : List (Nat × Opd)} {qs : List (Nat × Operand)}, mPairs N ps qs = true → ps.length = qs.length ∧
    ∀ (j i : Nat) (x : Opd) (i' : Nat) (y : Operand), ps[j]? = some (i, x) → qs[j]? = some (i', y) → i' = i ∧ mOpd N x y = true
  | [], [], _ => ⟨rfl, fun j i x i' y h => by simp at h⟩
  | (i, x) :: r, (k, y) :: s, h => by
    simp only [mPairs, Bool.and_eq_true, beq_iff_eq] at h
    obtain ⟨⟨h0, h1⟩, h3⟩ := h
    obtain ⟨k1, k2⟩ := mPairs_get h3
    refine ⟨by simp [k1], fun j i' x' i'' y' hj hj' => ?_⟩
    cases j with
    | zero =>
      simp only [List.getElem?_cons_zero, Option.some.injEq, Prod.mk.injEq] at hj hj'
      obtain ⟨rfl, rfl⟩ := hj
      obtain ⟨rfl, rfl⟩ := hj'
      exact ⟨h0.symm, h1⟩
    | succ j => exact k2 j i' x' i'' y' (by simpa using hj) (by simpa using hj')
  | [], _ :: _, h => by simp [mPairs] at h
  | _ :: _, [], h => by simp [mPairs] at h

/-- The element type of a slice type, its kind and its zero. -/
def mElem (T n : Nat) (z : List Zc) : Bool :=
  match pr.underlying T with
  | some (.slice e) => kindOk pr e n && zeroOk pr e z && z.length == sz n
  | _ => false

def mAppT (T n : Nat) (sm : Bool) : Bool :=
  match pr.underlying T with
  | some (.slice e) => kindOk pr e n && (match pr.info? e with
    | some i => (match i.zero with
      | some z => z.cells.size == sz n && i.bytes ≤ 65536 && (!sm || i.bytes ≤ 8)
      | none => false)
    | none => false)
  | _ => false

theorem mAppT_ok {T n : Nat} {sm : Bool} (h : mAppT pr T n sm = true) : ∃ e, AppT pr T e n sm := by
  unfold mAppT at h
  split at h
  · rename_i e hu
    simp only [Bool.and_eq_true] at h
    obtain ⟨hk, h⟩ := h
    obtain ⟨i, hi, hs⟩ := kindOk.info pr hk
    rw [hi] at h
    simp only at h
    cases hz : i.zero with
    | none => simp [hz] at h
    | some z =>
      simp only [hz, Bool.and_eq_true, beq_iff_eq, decide_eq_true_eq] at h
      refine ⟨e, hu, i, z, hi, hz, hs, h.1.1, h.1.2, fun hsm => ?_⟩
      have h2 := h.2
      subst hsm
      simpa using h2
  · cases h

def mOp (a : AOp) (o : Op) : Bool :=
  match a, o with
  | .mv x, .move y => mOpd N x y
  | .mv x, .assign y => mOpd N x y
  | .pick c a b, .pick c' a' b' => mOpd N c c' && mOpd N a a' && mOpd N b b'
  | .alloc _ z, .alloc T => zeroOk pr T z
  | .box _ x, .box _ y => mOpd N x y
  | .build z ps, .build T qs => zeroOk pr T z && mBuild N pr T ps qs.toList
  | .lit _ _ n z len ps, .buildSlice T len' qs => mElem pr T n z && len == len' && len * sz n ≤ 16777216 && mPairs N ps qs.toList
  | .load n x, .load T y => kindOk pr T n && mOpd N x y
  | .store n x y, .store T x' y' => kindOk pr T n && mOpd N x x' && mOpd N y y'
  | .nilck x, .nilCheck y => mOpd N x y
  | .bin op kd x y, .binOp op' T x' y' _ => op == op' && kindCode pr T kd && mOpd N x x' && mOpd N y y'
  | .eqs neg ks x y, .binOp op T x' y' _ => op == (if neg then .neq else .eql) && mEqs pr T ks && mOpd N x x' && mOpd N y y'
  | .un op x, .unOp op' _ y => op == op' && mOpd N x y
  | .conv k x, .convert src dst y => (pr.underlying src).isSome && pr.underlying dst matches some (.int _) && (match pr.underlying dst with | some (.int k') => k == k' | _ => false) && mOpd N x y
  | .mkfn f caps, .makeFunc (.func g) first caps' => Nat.blt f 3000000000 && N.num f == g && first.isEmpty && mOpds N caps caps'.toList
  | .mkfn f caps, .makeFunc (.methodOf t nm) first caps' => !Nat.blt f 3000000000 && N.meth f == some (.methodOf t nm) && first.isEmpty && mOpds N caps caps'.toList
  | .mkslice _ _ n z bytes l c, .makeSlice T l' c' => mElem pr T n z && (match pr.underlying T with
    | some (.slice e) => (match pr.info? e with | some i => i.bytes == bytes | none => false)
    | _ => false) && mOpd N l l' && mOpd N c c'
  | .slice n arr x lo hi, .slice T y lo' hi' none => mSlice pr T n arr && mOpd N x y && mOpt N lo lo' && mOpt N hi hi'
  | .faddr off x, .fieldAddr T y f => mFaddr pr T off f && mOpd N x y
  | .field off n x, .field T y f => (match mField pr T off f with | some t => kindOk pr t n | none => false) && mOpd N x y
  | .iaddr n arr x i, .indexAddr T y j => mSlice pr T n arr && mOpd N x y && mOpd N i j
  | .index n len x i, .index T y j => (match pr.underlying T with | some (.array ln e) => ln == len && kindOk pr e n | _ => false) && mOpd N x y && mOpd N i j
  | .strix x i, .index T y j => (pr.underlying T matches some .string) && mOpd N x y && mOpd N i j
  | .ext x i, .extract y j => i == j && mOpd N x y
  | .len x, .call ⟨.builtin .len, args, ts⟩ => (match args.toList, ts.toList with
    | [y], [T] => mOpd N x y && (match pr.underlying T with | some (.slice _) => true | _ => false)
    | _, _ => false)
  | .slen x, .call ⟨.builtin .len, args, ts⟩ => (match args.toList, ts.toList with
    | [y], [T] => mOpd N x y && (match pr.underlying T with | some .string => true | _ => false)
    | _, _ => false)
  | .lenc n, .call ⟨.builtin .len, args, ts⟩ => (match args.toList, ts.toList with
    | [_], [T] => (match pr.underlying T with
      | some (.array k _) => k == n
      | some (.pointer t) => (match pr.underlying t with | some (.array k _) => k == n | _ => false)
      | _ => false)
    | _, _ => false)
  | .app md _ n sm x y, .call ⟨.builtin .append, args, ts⟩ => (md == .grow || md == .own) && (match args.toList, ts.toList with
    | [x', y'], [T, T'] => T == T' && mAppT pr T n sm && mOpd N x x' && mOpd N y y'
    | _, _ => false)
  | .isnil neg x, .binOp op T y z _ => (match op with | .eql => !neg | .neq => neg | _ => false) && mOpd N x y && (match z with | .const (.slice none 0 0) => true | _ => false) && (match pr.underlying T with | some (.slice _) => true | _ => false)
  | .mm isMax xs, .call ⟨.builtin b, args, _⟩ => b == (if isMax then .max else .min) && mOpds N xs args.toList
  | _, _ => false

theorem OpOk.congr {c : Cfg} {r : Res} {s s' : Sem Next} (h : s.run pr c.w = s'.run pr c.w) (k : OpOk N ly pr c r s) : OpOk N ly pr c r s' := by
  obtain ⟨v, c', h1, h2⟩ := k
  exact ⟨v, c', by rw [← h]; exact h1, h2⟩

theorem arr_one {α : Type} {x : Array α} {y : α} (h : x.toList = [y]) : x = #[y] := by rw [← Array.toArray_toList (xs := x), h]
theorem arr_two {α : Type} {x : Array α} {y z : α} (h : x.toList = [y, z]) : x = #[y, z] := by rw [← Array.toArray_toList (xs := x), h]

/-- A slice is compared with nil. -/
theorem isnil_run {T e : Nat} (hu : pr.underlying T = some (.slice e)) (neg : Bool) (a : Option Addr) (l cp : Nat) (x z : Operand) (yT : TypeId) (o : Oper) (ho : o.op = .binOp (if neg then .neq else .eql) T x z yT) (ac : Act) (hx : ac.eval x = .slice a l cp) (hz : ac.eval z = .slice none 0 0) (w : World) :
    (execOp ac.eval o).run pr w = .ok (.value (.bool (a.isNone != neg))) w := by
  have he : (Op.equal T (.slice a l cp) (.slice none 0 0)).run pr w = .ok a.isNone w := by
    unfold Op.equal
    rw [show Op.maxDepth = 9999 + 1 from rfl]
    unfold Op.equalIn
    cases a <;> simp [run_underlying hu]
  cases neg <;> simp [execOp, ho, hx, hz, eqGuard, binOp, he]

theorem exec_ok {c : Cfg} (hg : Good N ly c) {fr : Fr} {a : Act} (hf : FRep N ly c fr a.tmps) (E : Env) (base len : Nat) {x : AOp} {op : Op} {o : Oper} (ho : o.op = op) {r : Res} (hm : mOp N pr x op = true) (hr : (exec1 E base len fr x).run c.m = some r) :
    OpOk N ly pr c r (execOp a.eval o) := by
  have ret : ∀ {y : V}, exec1 E base len fr x = .ret { val := y } → r = { val := y } := fun {y} h => by rw [h] at hr; simpa [RM.run] using hr.symm
  unfold mOp at hm
  split at hm
  · -- mv
    have := ret rfl; subst this
    simp only [execOp, ho]
    exact OpOk.pure N ly pr hg (by simp) (opd_rep N ly hf hm)
  · have := ret rfl; subst this
    simp only [execOp, ho]
    exact OpOk.pure N ly pr hg (by simp) (opd_rep N ly hf hm)
  · -- pick
    simp only [Bool.and_eq_true] at hm
    obtain ⟨⟨h1, h2⟩, h3⟩ := hm
    simp only [exec1] at hr
    split at hr
    · rename_i b hb
      simp only [RM.run, Option.some.injEq] at hr; subst hr
      have hv := opd_rep N ly hf h1
      rw [hb] at hv
      simp only [VRep, Rep] at hv
      simp only [execOp, ho, hv]
      cases b
      · exact OpOk.pure N ly pr hg (by simp [asBool]) (opd_rep N ly hf h3)
      · exact OpOk.pure N ly pr hg (by simp [asBool]) (opd_rep N ly hf h2)
    · simp [RM.run] at hr
  · -- alloc
    simp only [exec1] at hr
    obtain ⟨hh, rfl⟩ := run_atHole hr
    simp only [execOp, ho]
    exact alloc_ok N ly pr hg hh hm
  · -- box
    simp only [exec1] at hr
    split at hr
    · rename_i cs hcs
      obtain ⟨hh, rfl⟩ := run_atHole hr
      simp only [execOp, ho]
      exact box_ok N ly pr hg hh hcs (opd_rep N ly hf hm)
    · simp [RM.run] at hr
  · -- build
    simp only [Bool.and_eq_true] at hm
    simp only [execOp, ho]
    exact build_ok N ly pr hg hf E hm.1 hm.2 hr
  · -- lit
    rename_i md k n z ln ps T len' qs
    simp only [Bool.and_eq_true, beq_iff_eq, decide_eq_true_eq] at hm
    obtain ⟨⟨⟨h1, rfl⟩, h3⟩, h4⟩ := hm
    unfold mElem at h1
    split at h1
    · rename_i e hu
      simp only [Bool.and_eq_true, beq_iff_eq] at h1
      obtain ⟨⟨g1, g2⟩, g3⟩ := h1
      obtain ⟨hl, hget⟩ := mPairs_get N h4
      simp only [exec1] at hr
      split at hr
      · rename_i cs hcs
        simp only [execOp, ho]
        refine lit_ok N ly pr hg (ps := ps.map fun (i, x) => (i, opd fr x)) hu g1 g2 g3 h3 (by simpa [List.map_map, Function.comp_def] using hcs) (by simpa using hl) (fun j i x i' v hj hv => ?_) md (base + k) r hr
        simp only [List.getElem?_map, Option.map_eq_some_iff, Array.getElem?_map] at hj hv
        obtain ⟨⟨i1, x1⟩, hj, he⟩ := hj
        simp only [Prod.mk.injEq] at he
        obtain ⟨rfl, rfl⟩ := he
        obtain ⟨⟨i2, y2⟩, hq, he⟩ := hv
        simp only [Prod.mk.injEq] at he
        obtain ⟨rfl, rfl⟩ := he
        obtain ⟨q1, q2⟩ := hget j i1 x1 i2 y2 hj (by rw [Array.getElem?_toList]; exact hq)
        exact ⟨q1, opd_rep N ly hf q2⟩
      · simp [RM.run] at hr
    · cases h1
  · -- load
    rename_i n x T y
    simp only [Bool.and_eq_true] at hm
    have hv := opd_rep N ly hf hm.2
    simp only [execOp, ho]
    simp only [exec1] at hr
    split at hr
    · rename_i b off hx
      rw [hx] at hv
      rw [RM.run_bind] at hr
      cases hc : (getC b).run c.m with
      | none => rw [hc] at hr; simp at hr
      | some cs =>
        rw [hc] at hr
        simp only [Option.bind_some] at hr
        have hb := run_getC_some hc
        have : ∃ z, (if n = 0 then cs[off]? else if off + n ≤ cs.length then some (.agg ((cs.drop off).take n)) else none) = some z ∧ r = { val := z } := by
          split at hr
          · rename_i hn
            obtain ⟨q, hq, rfl⟩ := lift_some hr
            exact ⟨q, by rw [if_pos hn]; exact hq, rfl⟩
          · rename_i hn
            split at hr
            · rename_i hle
              simp only [RM.run, Option.some.injEq] at hr; subst hr
              exact ⟨_, by rw [if_neg hn, if_pos hle], rfl⟩
            · simp [RM.run] at hr
        obtain ⟨z, hz, rfl⟩ := this
        obtain ⟨u, k1, k2⟩ := load_own N ly pr hg hm.1 hv hb hz
        exact OpOk.pure N ly pr hg (run_v pr k1) k2
    · rename_i ps hx
      rw [hx] at hv
      simp only [VRep] at hv
      have : ∃ z, (if n = 0 then ps.head?.map V.p else if n ≤ ps.length then some (.p (.agg (ps.take n))) else none) = some z ∧ r = { val := z } := by
        split at hr
        · rename_i hn
          obtain ⟨q, hq, rfl⟩ := lift_some hr
          exact ⟨.p q, by rw [if_pos hn, hq]; rfl, rfl⟩
        · rename_i hn
          split at hr
          · rename_i hle
            simp only [RM.run, Option.some.injEq] at hr; subst hr
            exact ⟨_, by rw [if_neg hn, if_pos hle], rfl⟩
          · simp [RM.run] at hr
      obtain ⟨z, hz, rfl⟩ := this
      obtain ⟨u, k1, k2⟩ := load_data N ly pr hg hm.1 hv hz
      exact OpOk.pure N ly pr hg (run_v pr k1) k2
    · simp [RM.run] at hr
  · -- store
    rename_i n x y T x' y'
    simp only [Bool.and_eq_true] at hm
    obtain ⟨⟨h1, h2⟩, h3⟩ := hm
    have hv := opd_rep N ly hf h2
    have hw := opd_rep N ly hf h3
    simp only [execOp, ho]
    simp only [exec1] at hr
    split at hr
    · rename_i b off vs hx hvs
      rw [hx] at hv
      rw [RM.run_bind] at hr
      cases hc : (getC b).run c.m with
      | none => rw [hc] at hr; simp at hr
      | some cs =>
        rw [hc] at hr
        simp only [Option.bind_some] at hr
        split at hr
        · rename_i hle
          simp only [RM.run, Option.some.injEq] at hr; subst hr
          obtain ⟨c', k0, k1, k2, k3, k4⟩ := store_own N ly pr hg h1 hv (run_getC_some hc) hvs hw hle.1 hle.2
          exact ⟨undef, c', .inr ⟨run_u pr k0, rfl⟩, by rw [applyUps_one]; exact k1, k2, k3, k4, by simp only [undefV, undefP, VRep, Rep]; rfl⟩
        · simp [RM.run] at hr
    · simp [RM.run] at hr
  · -- nilck
    rename_i x y
    have hv := opd_rep N ly hf hm
    simp only [exec1] at hr
    have same : ∀ {z : V} {v : Value}, VRep N ly c.H c.φ c.m z v → a.eval y = v → (execOp a.eval o).run pr c.w = .ok (.value v) c.w → OpOk N ly pr c { val := z } (execOp a.eval o) := fun h1 _ h3 => OpOk.pure N ly pr hg h3 h1
    split at hr
    · rename_i b off hx
      simp only [RM.run, Option.some.injEq] at hr; subst hr
      rw [hx] at hv
      have hv' := hv
      simp only [VRep] at hv'
      obtain ⟨R, s, _, _, he⟩ := hv'
      exact same hv rfl (by simp only [execOp, ho, he]; simp)
    · rename_i ps hx
      simp only [RM.run, Option.some.injEq] at hr; subst hr
      rw [hx] at hv
      have hv' := hv
      simp only [VRep, Rep] at hv'
      obtain ⟨b, off, he, _⟩ := hv'
      exact same hv rfl (by simp only [execOp, ho, he]; simp)
    · rename_i f caps hx
      split at hr
      · rename_i hlt
        simp only [RM.run, Option.some.injEq] at hr; subst hr
        rw [hx] at hv
        have hv' := hv
        simp only [VRep, Rep] at hv'
        obtain ⟨cs, he, _⟩ := hv'
        rw [N.fv_lt (by rw [Nat.blt_eq]; exact hlt)] at he
        exact same hv rfl (by simp only [execOp, ho, he]; simp)
      · simp [RM.run] at hr
    · rename_i f caps hx
      split at hr
      · rename_i hlt
        simp only [RM.run, Option.some.injEq] at hr; subst hr
        rw [hx] at hv
        have hv' := hv
        simp only [VRep] at hv'
        obtain ⟨cs, he, _⟩ := hv'
        rw [N.fv_lt (by rw [Nat.blt_eq]; exact hlt)] at he
        exact same hv rfl (by simp only [execOp, ho, he]; simp)
      · simp [RM.run] at hr
    · rename_i hx
      simp only [RM.run, Option.some.injEq] at hr; subst hr
      rw [hx] at hv
      have hv' := hv
      simp only [VRep] at hv'
      obtain ⟨l, _, he⟩ := hv'
      exact same hv rfl (by simp only [execOp, ho, he]; simp)
    · simp [RM.run] at hr
  · -- bin
    rename_i op kd x y op' T x' y' _
    simp only [Bool.and_eq_true, beq_iff_eq] at hm
    obtain ⟨⟨⟨rfl, h2⟩, h3⟩, h4⟩ := hm
    simp only [execOp, ho]
    exact bin_ok N ly pr hg hf E h2 h3 h4 hr
  · -- eqs
    rename_i neg ks x y op T x' y' _
    simp only [Bool.and_eq_true, beq_iff_eq] at hm
    obtain ⟨⟨⟨h1, h2⟩, h3⟩, h4⟩ := hm
    simp only [execOp, ho]
    exact eqs_ok N ly pr hg hf E h1 h2 h3 h4 hr
  · -- un
    rename_i op x op' _ y
    simp only [Bool.and_eq_true, beq_iff_eq] at hm
    obtain ⟨rfl, h2⟩ := hm
    have hv := opd_rep N ly hf h2
    simp only [exec1] at hr
    split at hr
    · rename_i u hu
      obtain ⟨q, hq, rfl⟩ := lift_some hr
      rw [hu] at hv
      simp only [VRep, Rep] at hv
      simp only [execOp, ho, hv]
      exact OpOk.pure N ly pr hg (run_v pr (unV_run pr hq c.w)) (by simp only [VRep, Rep])
    · simp [RM.run] at hr
  · -- conv
    rename_i k x src dst y
    simp only [Bool.and_eq_true] at hm
    obtain ⟨⟨⟨h1, _⟩, h2⟩, h3⟩ := hm
    have hv := opd_rep N ly hf h3
    obtain ⟨d, hd⟩ := Option.isSome_iff_exists.1 h1
    have hk : pr.underlying dst = some (.int k) := by
      split at h2
      · rename_i k' hk'; simp at h2; subst h2; exact hk'
      · cases h2
    simp only [exec1] at hr
    split at hr
    · rename_i k' n hu
      simp only [RM.run, Option.some.injEq] at hr; subst hr
      rw [hu] at hv
      simp only [VRep, Rep] at hv
      simp only [execOp, ho, hv]
      refine OpOk.pure N ly pr hg (run_v pr (v := .int k (k.wrap n)) ?_) (by simp only [VRep, Rep])
      cases d <;> simp [convert, Sem.run_bind, run_underlying hd, run_underlying hk, Conv.intToInt]
    · simp [RM.run] at hr
  · -- mkfn
    rename_i f caps g first caps'
    simp only [Bool.and_eq_true, beq_iff_eq] at hm
    obtain ⟨⟨⟨h0, rfl⟩, h1⟩, h2⟩ := hm
    have := ret rfl; subst this
    have hfirst : first = #[] := by simpa using h1
    subst hfirst
    simp only [execOp, ho]
    have hr := opds_rep N ly hf h2
    refine OpOk.pure N ly pr hg (run_v pr (v := .func (.func (N.num f)) #[] (caps'.map a.eval)) (by simp [Instr.makeFunc])) ?_
    simp only [VRep]
    exact ⟨caps'.toList.map a.eval, by rw [N.fv_lt h0]; congr 1; exact Array.ext' (by simp), hr⟩
  · -- a method expression
    rename_i f caps t nm first caps'
    simp only [Bool.and_eq_true, beq_iff_eq, Bool.not_eq_true'] at hm
    obtain ⟨⟨⟨h0, hmm⟩, h1⟩, h2⟩ := hm
    have := ret rfl; subst this
    have hfirst : first = #[] := by simpa using h1
    subst hfirst
    simp only [execOp, ho]
    have hr := opds_rep N ly hf h2
    refine OpOk.pure N ly pr hg (run_v pr (v := .func (.methodOf t nm) #[] (caps'.map a.eval)) (by simp [Instr.makeFunc])) ?_
    simp only [VRep]
    exact ⟨caps'.toList.map a.eval, by rw [N.fv_ge h0, hmm]; congr 1; exact Array.ext' (by simp), hr⟩
  · -- mkslice
    rename_i md k n z bytes l cp T l' c'
    simp only [Bool.and_eq_true] at hm
    obtain ⟨⟨⟨h1, h2⟩, h3⟩, h4⟩ := hm
    unfold mElem at h1
    split at h1
    · rename_i e hu
      simp only [Bool.and_eq_true, beq_iff_eq] at h1
      obtain ⟨⟨g1, g2⟩, g3⟩ := h1
      rw [hu] at h2
      simp only at h2
      split at h2
      · rename_i info hinfo
        simp only [beq_iff_eq] at h2
        simp only [exec1] at hr
        split at hr
        · rename_i l0 c0 hl hc0
          split at hr
          · rename_i hcond
            obtain ⟨kl, hl'⟩ := bound_rep N ly hl (opd_rep N ly hf h3)
            obtain ⟨kc, hc'⟩ := bound_rep N ly hc0 (opd_rep N ly hf h4)
            simp only [execOp, ho, hl', hc']
            exact make_ok N ly pr hg hu g1 g2 g3 hinfo h2 hcond.1 hcond.2.1 hcond.2.2 md kl kc r hr
          · simp [RM.run] at hr
        · simp [RM.run] at hr
      · cases h2
    · cases h1
  · -- slice
    simp only [Bool.and_eq_true] at hm
    obtain ⟨⟨⟨h1, h2⟩, h3⟩, h4⟩ := hm
    simp only [execOp, ho]
    exact slice_ok N ly pr hg hf E h1 h2 h3 h4 hr
  · -- faddr
    simp only [Bool.and_eq_true] at hm
    simp only [execOp, ho]
    exact faddr_ok N ly pr hg hf E hm.1 hm.2 hr
  · -- field
    simp only [Bool.and_eq_true] at hm
    obtain ⟨h1, h2⟩ := hm
    split at h1
    · rename_i t ht
      simp only [execOp, ho]
      exact field_ok N ly pr hg hf E ht h1 h2 hr
    · cases h1
  · -- iaddr
    simp only [Bool.and_eq_true] at hm
    obtain ⟨⟨h1, h2⟩, h3⟩ := hm
    simp only [execOp, ho]
    exact iaddr_ok N ly pr hg hf E h1 h2 h3 hr
  · -- index
    simp only [Bool.and_eq_true] at hm
    obtain ⟨⟨h1, h2⟩, h3⟩ := hm
    split at h1
    · rename_i ln e hu
      simp only [Bool.and_eq_true, beq_iff_eq] at h1
      obtain ⟨rfl, h1⟩ := h1
      simp only [execOp, ho]
      exact index_ok N ly pr hg hf E hu h1 h2 h3 hr
    · cases h1
  · -- strix
    rename_i x i T y j
    simp only [Bool.and_eq_true] at hm
    obtain ⟨⟨h1, h2⟩, h3⟩ := hm
    have hu : pr.underlying T = some .string := by
      split at h1
      · assumption
      · cases h1
    have hv := opd_rep N ly hf h2
    simp only [exec1] at hr
    split at hr
    · rename_i k s hb hx
      obtain ⟨q, hq, rfl⟩ := lift_some hr
      obtain ⟨kd, hk⟩ := bound_rep N ly hb (opd_rep N ly hf h3)
      rw [hx] at hv
      simp only [VRep, Rep] at hv
      simp only [execOp, ho, hv, hk]
      refine OpOk.pure N ly pr hg (run_v pr (v := .int .u8 q.toNat) ?_) (by simp only [VRep, Rep])
      simp [Instr.index, Sem.run_bind, asIntOf, run_underlying hu, hq]
    · simp [RM.run] at hr
  · -- ext
    rename_i x i y j
    simp only [Bool.and_eq_true, beq_iff_eq] at hm
    obtain ⟨rfl, h2⟩ := hm
    have hv := opd_rep N ly hf h2
    simp only [exec1] at hr
    split at hr
    · rename_i xs hx
      obtain ⟨q, hq, rfl⟩ := lift_some hr
      rw [hx] at hv
      simp only [VRep] at hv
      obtain ⟨vs, he, hvs⟩ := hv
      obtain ⟨u, k1, k2⟩ := VReps.get N ly hvs i q hq
      simp only [execOp, ho, he]
      exact OpOk.pure N ly pr hg (run_v pr (by simp [Instr.extract, k1])) k2
    · rename_i xs hx
      obtain ⟨q, hq, rfl⟩ := lift_some hr
      rw [hx] at hv
      simp only [VRep, Rep] at hv
      obtain ⟨vs, he, hvs⟩ := hv
      obtain ⟨u, k1, k2⟩ := Reps.get N hvs i q hq
      simp only [execOp, ho, he]
      exact OpOk.pure N ly pr hg (run_v pr (v := u) (by simp [Instr.extract, k1])) (by simpa only [VRep] using k2)
    · simp [RM.run] at hr
  · -- len
    rename_i x args ts
    split at hm
    · rename_i y T hargs hts
      simp only [Bool.and_eq_true] at hm
      obtain ⟨h1, h2⟩ := hm
      have hv := opd_rep N ly hf h1
      have ha := arr_one hargs
      have ht := arr_one hts
      subst ha ht
      have hu : ∃ e, pr.underlying T = some (.slice e) := by
        split at h2
        · exact ⟨_, by assumption⟩
        · cases h2
      obtain ⟨e, hu⟩ := hu
      have fin : ∀ (A : Option Addr) (n cp : Nat), a.eval y = .slice A n cp → OpOk N ly pr c { val := i64 n } (execOp a.eval o) := fun A n cp he => by
        refine OpOk.pure N ly pr hg (v := .int .i64 n) ?_ (by simp only [i64, VRep, Rep])
        simp [execOp, ho, resolve, invoke, builtin, he, Builtin.len_, run_underlying hu, goInt]
      simp only [exec1] at hr
      split at hr
      · rename_i n' es hx
        simp only [RM.run, Option.some.injEq] at hr; subst hr
        rw [hx] at hv
        simp only [VRep, Rep] at hv
        obtain ⟨A, cp, ⟨he, _⟩, _⟩ := hv
        exact fin A _ cp he
      · rename_i n' t es hx
        simp only [RM.run, Option.some.injEq] at hr; subst hr
        rw [hx] at hv
        simp only [VRep, Rep] at hv
        obtain ⟨⟨A, cp, ⟨he, _⟩, _⟩, _⟩ := hv
        exact fin A _ cp he
      · rename_i n' hx
        simp only [RM.run, Option.some.injEq] at hr; subst hr
        rw [hx] at hv
        simp only [VRep] at hv
        obtain ⟨A, he⟩ := hv
        exact fin A 0 0 he
      · rename_i n' b off l hx
        simp only [RM.run, Option.some.injEq] at hr; subst hr
        rw [hx] at hv
        simp only [VRep] at hv
        rcases hv with ⟨rfl, A, he⟩ | ⟨R, s, cp, _, _, he, _⟩
        · exact fin A 0 0 he
        · exact fin _ l cp he
      · simp [RM.run] at hr
    · cases hm
  · -- slen
    rename_i x args ts
    split at hm
    · rename_i y T hargs hts
      simp only [Bool.and_eq_true] at hm
      obtain ⟨h1, h2⟩ := hm
      have hv := opd_rep N ly hf h1
      have ha := arr_one hargs
      have ht := arr_one hts
      subst ha ht
      have hu : pr.underlying T = some .string := by
        split at h2
        · assumption
        · cases h2
      simp only [exec1] at hr
      split at hr
      · rename_i s hx
        simp only [RM.run, Option.some.injEq] at hr; subst hr
        rw [hx] at hv
        simp only [VRep, Rep] at hv
        refine OpOk.pure N ly pr hg (v := .int .i64 s.size) ?_ (by simp only [i64, VRep, Rep])
        simp [execOp, ho, resolve, invoke, builtin, hv, Builtin.len_, run_underlying hu, goInt]
      · simp [RM.run] at hr
    · cases hm
  · -- lenc
    rename_i n args ts
    split at hm
    · rename_i y T hargs hts
      have ha := arr_one hargs
      have ht := arr_one hts
      subst ha ht
      have := ret rfl; subst this
      refine OpOk.pure N ly pr hg (v := .int .i64 n) ?_ (by simp only [i64, VRep, Rep])
      split at hm
      · rename_i k e hu
        simp at hm; subst hm
        simp [execOp, ho, resolve, invoke, builtin, Builtin.len_, run_underlying hu, goInt]
      · rename_i t hu
        split at hm
        · rename_i k e hu'
          simp at hm; subst hm
          simp [execOp, ho, resolve, invoke, builtin, Builtin.len_, run_underlying hu, run_underlying hu', goInt]
        · cases hm
      · cases hm
    · cases hm
  · -- app
    rename_i md k n sm x y args ts
    simp only [Bool.and_eq_true, Bool.or_eq_true, beq_iff_eq] at hm
    obtain ⟨hmd, hm⟩ := hm
    split at hm
    · rename_i x' y' T T' hargs hts
      simp only [Bool.and_eq_true, beq_iff_eq] at hm
      obtain ⟨⟨⟨rfl, h2⟩, h3⟩, h4⟩ := hm
      obtain ⟨e, hT⟩ := mAppT_ok pr h2
      have ha := arr_two hargs
      have ht := arr_two hts
      subst ha ht
      rcases hmd with rfl | rfl
      · refine OpOk.congr N ly pr ?_ (app_grow_ok N ly pr hg (i := base + k) (ty := o.type) (r := r) (y := opd fr y) hT ?_ (opd_rep N ly hf h3) (opd_rep N ly hf h4))
        · simp [execOp, ho, resolve, invoke, builtin]
        · simp only [exec1] at hr
          cases hX : opd fr x <;> rw [hX] at hr <;> exact hr
      · refine OpOk.congr N ly pr ?_ (app_own_ok N ly pr hg (i := base + k) (ty := o.type) (r := r) (y := opd fr y) hT ?_ (opd_rep N ly hf h3) (opd_rep N ly hf h4))
        · simp [execOp, ho, resolve, invoke, builtin]
        · simp only [exec1] at hr
          cases hX : opd fr x <;> rw [hX] at hr <;> exact hr
    · cases hm
  · -- is it nil
    rename_i neg x op T y z yT
    simp only [Bool.and_eq_true] at hm
    obtain ⟨⟨⟨h1, h2⟩, h3⟩, h4⟩ := hm
    split at h4
    · rename_i e hu
      have hz : a.eval z = .slice none 0 0 := by
        split at h3
        · rfl
        · cases h3
      have hop : op = if neg then .neq else .eql := by
        cases neg <;> (split at h1 <;> simp_all)
      subst hop
      have hv := opd_rep N ly hf h2
      have fin : ∀ (av : Option Addr) (l cp : Nat), a.eval y = .slice av l cp → r = { val := .p (.v (.bool (av.isNone != neg))) } → OpOk N ly pr c r (execOp a.eval o) := fun av l cp hy hr => by
        subst hr
        exact OpOk.pure N ly pr hg (v := .bool (av.isNone != neg)) (isnil_run pr hu neg av l cp y z yT o ho a hy hz c.w) (by simp only [VRep, Rep])
      simp only [exec1] at hr
      split at hr
      · rename_i n p ps hx
        simp only [RM.run, Option.some.injEq] at hr; subst hr
        rw [hx] at hv
        simp only [VRep, Rep] at hv
        obtain ⟨av, cp, ⟨hv, _⟩, hne⟩ := hv
        obtain ⟨b, off, rfl, _⟩ := hne (by simp)
        exact fin _ _ _ hv (by simp)
      · rename_i n t p ps hx
        simp only [RM.run, Option.some.injEq] at hr; subst hr
        rw [hx] at hv
        simp only [VRep, Rep] at hv
        obtain ⟨⟨av, cp, ⟨hv, _⟩, hne⟩, _⟩ := hv
        obtain ⟨b, off, rfl, _⟩ := hne (by simp)
        exact fin _ _ _ hv (by simp)
      · rename_i n b off l hx
        simp only [RM.run, Option.some.injEq] at hr; subst hr
        rw [hx] at hv
        simp only [VRep, RefOk] at hv
        rcases hv with ⟨h0, _⟩ | ⟨R, s, cp, _, _, hv, _⟩
        · omega
        · exact fin _ _ _ hv (by simp)
      · rename_i av l cp hx
        simp only [RM.run, Option.some.injEq] at hr; subst hr
        rw [hx] at hv
        simp only [VRep, Rep] at hv
        exact fin _ _ _ hv rfl
      · simp [RM.run] at hr
    · cases h4
  · -- max, min
    rename_i isMax xs b args _
    simp only [Bool.and_eq_true, beq_iff_eq] at hm
    obtain ⟨rfl, h2⟩ := hm
    have hvs := opds_rep N ly hf h2
    simp only [exec1] at hr
    split at hr
    · rename_i x r' hx
      obtain ⟨q, hq, rfl⟩ := lift_some hr
      rw [hx] at hvs
      simp only [VReps] at hvs
      obtain ⟨v, s, hl, hv, hs⟩ := hvs
      obtain ⟨u, k1, k2⟩ := mm_run N ly pr hq hv hs
      refine OpOk.pure N ly pr hg (v := u) ?_ k2
      cases isMax
      · simp [execOp, ho, resolve, invoke, builtin, Builtin.min_, hl] at k1 ⊢
        simp [k1]
      · simp [execOp, ho, resolve, invoke, builtin, Builtin.max_, hl] at k1 ⊢
        simp [k1]
    · simp [RM.run] at hr
  · cases hm

end Go.Am

/- Calls: the blocks that are handed on, and what comes back. -/

namespace Go.Am
open Go

variable (N : Nm) (ly : Option Nat) (pr : Program)

/-! ### Values without yield -/

mutual
theorem VRep.anyY {H : HM} {φ : FM} {m : List Blk} {ly' : Option Nat} : ∀ (x : V) (v : Value), x.noY = true → VRep N ly H φ m x v → VRep N ly' H φ m x v
  | .p x, v, _, k => by simpa only [VRep] using k
  | .nil n, v, _, k => by simpa only [VRep] using k
  | .sl n t es, v, _, k => by simpa only [VRep] using k
  | .ref n b off len, v, _, k => by simpa only [VRep] using k
  | .ptr b off, v, _, k => by simpa only [VRep] using k
  | .agg cs, v, h, k => by
    simp only [VRep] at k ⊢; simp only [V.noY] at h
    obtain ⟨vs, e, k⟩ := k
    exact ⟨vs, e, VReps.anyY cs vs h k⟩
  | .fn f cs, v, h, k => by
    simp only [VRep] at k ⊢; simp only [V.noY] at h
    obtain ⟨vs, e, k⟩ := k
    exact ⟨vs, e, VReps.anyY cs vs h k⟩
  | .iface t x, v, h, k => by
    simp only [VRep] at k ⊢; simp only [V.noY] at h
    obtain ⟨y, e, k⟩ := k
    exact ⟨y, e, VRep.anyY x y h k⟩
  | .tuple cs, v, h, k => by
    simp only [VRep] at k ⊢; simp only [V.noY] at h
    obtain ⟨vs, e, k⟩ := k
    exact ⟨vs, e, VReps.anyY cs vs h k⟩
  | .yield, v, h, k => by simp [V.noY] at h
  | .unk, v, _, k => by simp only [VRep]
theorem VReps.anyY {H : HM} {φ : FM} {m : List Blk} {ly' : Option Nat} : ∀ (xs : List V) (vs : List Value), noYs xs = true → VReps N ly H φ m xs vs → VReps N ly' H φ m xs vs
  | [], _, _, k => by simpa only [VReps] using k
  | x :: r, _, h, k => by
    simp only [VReps] at k ⊢; simp only [noYs, Bool.and_eq_true] at h
    obtain ⟨v, s, rfl, k1, k2⟩ := k
    exact ⟨v, s, rfl, VRep.anyY x v h.1 k1, VReps.anyY r s h.2 k2⟩
end

mutual
theorem VRep.fromNone {H : HM} {φ : FM} {m : List Blk} : ∀ (x : V) (v : Value), VRep N none H φ m x v → VRep N ly H φ m x v
  | .p x, v, k => by simpa only [VRep] using k
  | .nil n, v, k => by simpa only [VRep] using k
  | .sl n t es, v, k => by simpa only [VRep] using k
  | .ref n b off len, v, k => by simpa only [VRep] using k
  | .ptr b off, v, k => by simpa only [VRep] using k
  | .agg cs, v, k => by
    simp only [VRep] at k ⊢
    obtain ⟨vs, e, k⟩ := k
    exact ⟨vs, e, VReps.fromNone cs vs k⟩
  | .fn f cs, v, k => by
    simp only [VRep] at k ⊢
    obtain ⟨vs, e, k⟩ := k
    exact ⟨vs, e, VReps.fromNone cs vs k⟩
  | .iface t x, v, k => by
    simp only [VRep] at k ⊢
    obtain ⟨y, e, k⟩ := k
    exact ⟨y, e, VRep.fromNone x y k⟩
  | .tuple cs, v, k => by
    simp only [VRep] at k ⊢
    obtain ⟨vs, e, k⟩ := k
    exact ⟨vs, e, VReps.fromNone cs vs k⟩
  | .yield, v, k => by simp only [VRep] at k; obtain ⟨l, h, _⟩ := k; cases h
  | .unk, v, k => by simp only [VRep]
theorem VReps.fromNone {H : HM} {φ : FM} {m : List Blk} : ∀ (xs : List V) (vs : List Value), VReps N none H φ m xs vs → VReps N ly H φ m xs vs
  | [], _, k => by simpa only [VReps] using k
  | x :: r, _, k => by
    simp only [VReps] at k ⊢
    obtain ⟨v, s, rfl, k1, k2⟩ := k
    exact ⟨v, s, rfl, VRep.fromNone x v k1, VReps.fromNone r s k2⟩
end

mutual
theorem noY_ren {ρ : Nat → Option Nat} : ∀ {x y : V}, x.ren ρ = some y → x.noY = true → y.noY = true
  | .p _, y, h, _ => by simp only [V.ren, Option.some.injEq] at h; subst h; rfl
  | .nil _, y, h, _ => by simp only [V.ren, Option.some.injEq] at h; subst h; rfl
  | .sl _ _ _, y, h, _ => by simp only [V.ren, Option.map_eq_some_iff] at h; obtain ⟨_, _, rfl⟩ := h; rfl
  | .ref _ _ _ _, y, h, _ => by simp only [V.ren, Option.map_eq_some_iff] at h; obtain ⟨_, _, rfl⟩ := h; rfl
  | .ptr _ _, y, h, _ => by simp only [V.ren, Option.map_eq_some_iff] at h; obtain ⟨_, _, rfl⟩ := h; rfl
  | .agg cs, y, h, k => by
    simp only [V.ren, Option.map_eq_some_iff] at h; obtain ⟨z, hz, rfl⟩ := h
    simp only [V.noY] at k ⊢; exact noYs_ren hz k
  | .fn _ cs, y, h, k => by
    simp only [V.ren, Option.map_eq_some_iff] at h; obtain ⟨z, hz, rfl⟩ := h
    simp only [V.noY] at k ⊢; exact noYs_ren hz k
  | .iface _ x, y, h, k => by
    simp only [V.ren, Option.map_eq_some_iff] at h; obtain ⟨z, hz, rfl⟩ := h
    simp only [V.noY] at k ⊢; exact noY_ren hz k
  | .tuple cs, y, h, k => by
    simp only [V.ren, Option.map_eq_some_iff] at h; obtain ⟨z, hz, rfl⟩ := h
    simp only [V.noY] at k ⊢; exact noYs_ren hz k
  | .yield, y, h, k => by simp [V.noY] at k
  | .unk, y, h, _ => by simp only [V.ren, Option.some.injEq] at h; subst h; rfl
theorem noYs_ren {ρ : Nat → Option Nat} : ∀ {xs ys : List V}, rens ρ xs = some ys → noYs xs = true → noYs ys = true
  | [], ys, h, _ => by simp only [rens, Option.some.injEq] at h; subst h; rfl
  | x :: r, ys, h, k => by
    simp only [rens] at h
    simp only [noYs, Bool.and_eq_true] at k
    split at h
    · rename_i a b ha hb
      simp only [Option.some.injEq] at h; subst h
      simp only [noYs, Bool.and_eq_true]
      exact ⟨noY_ren ha k.1, noYs_ren hb k.2⟩
    · simp at h
end

theorem noYs_get : ∀ {xs : List V}, noYs xs = true → ∀ (j : Nat) (x : V), xs[j]? = some x → x.noY = true
  | [], _, j, x, h => by simp at h
  | a :: r, h, j, x, hj => by
    simp only [noYs, Bool.and_eq_true] at h
    cases j with
    | zero => simp at hj; subst hj; exact h.1
    | succ j => exact noYs_get h.2 j x (by simpa using hj)

theorem Good.anyY {c : Cfg} {ly' : Option Nat} (hg : Good N ly c) (h : ∀ (i : Nat) (x : Blk), c.m[i]? = some x → x.noY = true) : Good N ly' c := by
  refine ⟨hg.len, hg.frz, fun i x hx => ?_, hg.inj⟩
  have hb := hg.blk i x hx
  cases x with
  | cells cs =>
    obtain ⟨R, s, arr, e, h1, h2, h3, h4, h5, h6⟩ := hb
    refine ⟨R, s, arr, e, h1, h2, h3, h4, fun j y hj => ?_, h6⟩
    obtain ⟨a, v, b, d⟩ := h5 j y hj
    exact ⟨a, v, b, VRep.anyY N ly y v (noYs_get (h i _ hx) j y hj) d⟩
  | tok n k => exact hb
  | dead => trivial
  | hole => trivial

theorem Good.fromNone {c : Cfg} (hg : Good N none c) : Good N ly c := by
  refine ⟨hg.len, hg.frz, fun i x hx => ?_, hg.inj⟩
  have hb := hg.blk i x hx
  cases x with
  | cells cs =>
    obtain ⟨R, s, arr, e, h1, h2, h3, h4, h5, h6⟩ := hb
    refine ⟨R, s, arr, e, h1, h2, h3, h4, fun j y hj => ?_, h6⟩
    obtain ⟨a, v, b, d⟩ := h5 j y hj
    exact ⟨a, v, b, VRep.fromNone N ly y v d⟩
  | tok n k => exact hb
  | dead => trivial
  | hole => trivial

/-! ### Lists of blocks -/

theorem nd_nodup : ∀ {l : List Nat}, nd l = true → l.Nodup
  | [], _ => List.nodup_nil
  | x :: r, h => by
    simp only [nd, Bool.and_eq_true, Bool.not_eq_true', List.contains_eq_mem, decide_eq_false_iff_not] at h
    exact List.nodup_cons.2 ⟨h.1, nd_nodup h.2⟩

theorem readAll_get {m : List Blk} : ∀ {idx : List Nat} {bs : List Blk}, (readAll idx).run m = some bs → idx.length = bs.length ∧ ∀ (k i : Nat), idx[k]? = some i → ∃ x, bs[k]? = some x ∧ m[i]? = some x
  | [], bs, h => by simp only [readAll, RM.run, Option.some.injEq] at h; subst h; exact ⟨rfl, fun k i hk => by simp at hk⟩
  | b :: r, bs, h => by
    simp only [readAll, RM.run] at h
    cases hb : m[b]? with
    | none => rw [hb] at h; simp [RM.run] at h
    | some x =>
      rw [hb] at h
      simp only [RM.run_bind] at h
      cases hr : (readAll r).run m with
      | none => rw [hr] at h; simp at h
      | some l =>
        rw [hr] at h
        simp only [Option.bind_some, RM.run, Option.some.injEq] at h; subst h
        obtain ⟨k1, k2⟩ := readAll_get hr
        refine ⟨by simp [k1], fun k i hk => ?_⟩
        cases k with
        | zero => simp at hk; subst hk; exact ⟨x, by simp, hb⟩
        | succ k => simpa using k2 k i (by simpa using hk)

theorem renBlks_get {ρ : Nat → Option Nat} : ∀ {bs ms : List Blk}, renBlks ρ bs = some ms → bs.length = ms.length ∧ ∀ (k : Nat) (y : Blk), ms[k]? = some y → ∃ x : Blk, bs[k]? = some x ∧ x.ren ρ = some y
  | [], ms, h => by simp only [renBlks, Option.some.injEq] at h; subst h; exact ⟨rfl, fun k y hk => by simp at hk⟩
  | b :: r, ms, h => by
    simp only [renBlks] at h
    split at h
    · rename_i u v hu hv
      simp only [Option.some.injEq] at h; subst h
      obtain ⟨k1, k2⟩ := renBlks_get hv
      refine ⟨by simp [k1], fun k y hk => ?_⟩
      cases k with
      | zero => simp at hk; subst hk; exact ⟨b, by simp, hu⟩
      | succ k => simpa using k2 k y (by simpa using hk)
    · simp at h

theorem idxOf_get {idx : List Nat} {i k : Nat} (h : idx.idxOf? i = some k) : idx[k]? = some i := by
  have := List.findIdx?_eq_some_iff_getElem.1 (by simpa [List.idxOf?] using h)
  obtain ⟨hk, h1, _⟩ := this
  rw [List.getElem?_eq_getElem hk]
  simpa using h1

theorem get_idxOf {idx : List Nat} (hn : idx.Nodup) {i k : Nat} (h : idx[k]? = some i) : idx.idxOf? i = some k := by
  obtain ⟨hk, hi⟩ := List.getElem?_eq_some_iff.1 h
  cases ho : idx.idxOf? i with
  | none =>
    exfalso
    rw [List.idxOf?_eq_none_iff] at ho
    exact ho (hi ▸ List.getElem_mem hk)
  | some k' =>
    have h' := idxOf_get ho
    obtain ⟨hk', hi'⟩ := List.getElem?_eq_some_iff.1 h'
    have hp := List.pairwise_iff_getElem.1 hn
    rcases Nat.lt_trichotomy k k' with hlt | heq | hgt
    · exact absurd (hi.trans hi'.symm) (hp k k' hk hk' hlt)
    · rw [heq]
    · exact absurd (hi'.trans hi.symm) (hp k' k hk' hk hgt)

theorem ren_blk_kind {ρ : Nat → Option Nat} {x y : Blk} (h : x.ren ρ = some y) : (∃ cs cs', x = .cells cs ∧ y = .cells cs') ∨ (x = y ∧ ∀ cs, x ≠ .cells cs) := by
  cases x with
  | cells cs => simp only [Blk.ren, Option.map_eq_some_iff] at h; obtain ⟨cs', _, rfl⟩ := h; exact .inl ⟨cs, cs', rfl, rfl⟩
  | tok n c => simp only [Blk.ren, Option.some.injEq] at h; subst h; exact .inr ⟨rfl, fun _ h => by cases h⟩
  | dead => simp only [Blk.ren, Option.some.injEq] at h; subst h; exact .inr ⟨rfl, fun _ h => by cases h⟩
  | hole => simp only [Blk.ren, Option.some.injEq] at h; subst h; exact .inr ⟨rfl, fun _ h => by cases h⟩

/-- A block and what it is renamed to read alike. -/
theorem leaf_ren {φ φ' : FM} {m m' : List Blk} {i i' : Nat} {ρ : Nat → Option Nat} {x y : Blk} (hx : m[i]? = some x) (hy : m'[i']? = some y) (hr : x.ren ρ = some y) (hφ : φ'[i']? = φ[i]?) : Leaf φ m φ' m' i i' := by
  rcases ren_blk_kind hr with ⟨cs, cs', rfl, rfl⟩ | ⟨rfl, hn⟩
  · exact Link.leaf (by unfold Link; rw [hx]; exact ⟨.inl ⟨cs', hy⟩, hφ⟩)
  · refine Link.leaf ?_
    unfold Link
    rw [hx]
    cases x with
    | cells cs => exact absurd rfl (hn cs)
    | tok n c => exact .inr ⟨c, hy, Nat.le_refl _, fun _ => hφ⟩
    | dead => exact ⟨hy, hφ⟩
    | hole => trivial

theorem leaf_same {φ φ' : FM} {m m' : List Blk} {i : Nat} (hm : m'[i]? = m[i]?) (hφ : φ'[i]? = φ[i]?) : Leaf φ m φ' m' i i := by
  cases hx : m[i]? with
  | none => exact Link.leaf (by unfold Link; rw [hx]; trivial)
  | some x => exact leaf_ren (ρ := some) hx (hm.trans hx) (Blk.ren_some x) hφ

/-- The blocks that are handed on, as a memory of their own. -/
theorem sub_good {c : Cfg} (hg : Good N ly c) {idx : List Nat} {bs ms : List Blk} (hn : idx.Nodup) (hb : (readAll idx).run c.m = some bs) (hms : renBlks (fun i => idx.idxOf? i) bs = some ms) :
    let φ1 : FM := idx.map fun i => (c.φ[i]?).getD none
    Good N ly ⟨c.H, φ1, ms, c.w⟩ ∧ Trans c ⟨c.H, φ1, ms, c.w⟩ ∧ ∀ i k, idx[k]? = some i → Leaf c.φ c.m φ1 ms i k ∧ φ1[k]? = c.φ[i]? ∧ ∃ x, c.m[i]? = some x := by
  intro φ1
  obtain ⟨l1, g1⟩ := readAll_get hb
  obtain ⟨l2, g2⟩ := renBlks_get hms
  have hφ : ∀ i k, idx[k]? = some i → φ1[k]? = c.φ[i]? := fun i k hk => by
    obtain ⟨x, _, hx⟩ := g1 k i hk
    have hlt : i < c.φ.length := by rw [hg.len]; exact (List.getElem?_eq_some_iff.1 hx).1
    show (idx.map fun i => (c.φ[i]?).getD none)[k]? = c.φ[i]?
    rw [List.getElem?_map, hk]
    simp [List.getElem?_eq_getElem hlt]
  have hleaf : ∀ i k, idx[k]? = some i → Leaf c.φ c.m φ1 ms i k := fun i k hk => by
    obtain ⟨x, hx, hxi⟩ := g1 k i hk
    have hkl : k < ms.length := by rw [← l2]; exact (List.getElem?_eq_some_iff.1 hx).1
    obtain ⟨x', hx', hr⟩ := g2 k ms[k] (List.getElem?_eq_getElem hkl)
    rw [hx] at hx'; cases hx'
    exact leaf_ren hxi (List.getElem?_eq_getElem hkl) hr (hφ i k hk)
  have := renum N ly hg φ1 ms (fun i => idx.idxOf? i) (by simp [φ1, l1, l2]) (fun k y hy => by
    obtain ⟨x, hx, hr⟩ := g2 k y hy
    have hkl : k < idx.length := by rw [l1]; exact (List.getElem?_eq_some_iff.1 hx).1
    have hk : idx[k]? = some idx[k] := List.getElem?_eq_getElem hkl
    obtain ⟨x', hx', hxi⟩ := g1 k _ hk
    rw [hx] at hx'; cases hx'
    exact .inr ⟨idx[k], x, get_idxOf hn hk, hxi, hr, hφ _ k hk⟩)
    (fun i j k h1 h2 => by have e1 := idxOf_get h1; have e2 := idxOf_get h2; rw [e1] at e2; exact Option.some.inj e2)
    (fun i k h => hleaf i k (idxOf_get h))
  exact ⟨this.1, this.2, fun i k hk => ⟨hleaf i k hk, hφ i k hk, let ⟨x, _, hx⟩ := g1 k i hk; ⟨x, hx⟩⟩⟩

theorem applyUps_length : ∀ (l : List (Nat × Blk)) (m : List Blk), (applyUps m l).length = m.length
  | [], m => rfl
  | (i, b) :: r, m => by simp only [applyUps]; rw [applyUps_length r]; simp

theorem applyUps_other : ∀ (l : List (Nat × Blk)) (m : List Blk) (j : Nat), (∀ u ∈ l, u.1 ≠ j) → (applyUps m l)[j]? = m[j]?
  | [], m, j, _ => rfl
  | (i, b) :: r, m, j, h => by
    simp only [applyUps]
    rw [applyUps_other r _ j (fun u hu => h u (by simp [hu])), List.getElem?_set_ne (h (i, b) (by simp))]

theorem applyUps_zip : ∀ (idx : List Nat) (bs : List Blk) (m : List Blk), idx.Nodup → (∀ i ∈ idx, i < m.length) → ∀ (k i : Nat) (b : Blk), idx[k]? = some i → bs[k]? = some b → (applyUps m (idx.zip bs))[i]? = some b
  | [], bs, m, _, _, k, i, b, hk, _ => by simp at hk
  | a :: r, [], m, _, _, k, i, b, _, hb => by simp at hb
  | a :: r, x :: s, m, hn, hl, k, i, b, hk, hb => by
    rw [List.nodup_cons] at hn
    simp only [List.zip_cons_cons, applyUps]
    cases k with
    | zero =>
      simp at hk hb; subst hk hb
      rw [applyUps_other]
      · simp [hl a (by simp)]
      · intro u hu e
        have := (List.of_mem_zip hu).1
        rw [e] at this; exact hn.1 this
    | succ k => exact applyUps_zip r s _ hn.2 (fun i hi => by simpa using hl i (by simp [hi])) k i b (by simpa using hk) (by simpa using hb)

end Go.Am

/- What comes back from a call, laid into the caller's memory. -/

namespace Go.Am
open Go

variable (N : Nm) (ly : Option Nat) (pr : Program)

def mergeφ (idx : List Nat) (φ φ2 : FM) : FM := ((List.range φ.length).map fun i => match idx.idxOf? i with | some k => (φ2[k]?).getD none | none => (φ[i]?).getD none) ++ φ2.drop idx.length

def mergeM (idx : List Nat) (m m2 : List Blk) : List Blk := applyUps m (idx.zip (m2.take idx.length)) ++ m2.drop idx.length

theorem merge_good {c c1 c2 : Cfg} (hg : Good N ly c) {idx : List Nat} {m2' : List Blk} (hn : idx.Nodup) (h1H : c1.H = c.H) (h1w : c1.w = c.w) (h1l : c1.m.length = idx.length)
    (hidx : ∀ i k, idx[k]? = some i → Leaf c.φ c.m c1.φ c1.m i k ∧ c1.φ[k]? = c.φ[i]? ∧ ∃ x, c.m[i]? = some x) (hg1 : Good N ly c1) (hlive1 : ∀ R, Owned c1 R → ∃ i, i ∈ idx ∧ Live c.m i ∧ ∃ s, c.φ[i]? = some (some (R, s)))
    (hg2 : Good N ly c2) (ht : Trans c1 c2) (hE : Ext c1.H c1.φ c1.m c2.H c2.φ c2.m) (hlen : idx.length ≤ c2.m.length) (hren : renBlks (back idx c.m.length) c2.m = some m2') :
    let c3 : Cfg := ⟨c2.H, mergeφ idx c.φ c2.φ, mergeM idx c.m m2', c2.w⟩
    Good N ly c3 ∧ Trans c c3 ∧ Ext c.H c.φ c.m c3.H c3.φ c3.m ∧ ∀ (x x' : V) (v : Value), x.ren (back idx c.m.length) = some x' → VRep N ly c2.H c2.φ c2.m x v → VRep N ly c3.H c3.φ c3.m x' v := by
  intro c3
  obtain ⟨l2, g2⟩ := renBlks_get hren
  have hll : c.φ.length = c.m.length := hg.len
  have hlt : ∀ i ∈ idx, i < c.m.length := fun i hi => by
    obtain ⟨k, hk⟩ := List.getElem?_of_mem hi
    obtain ⟨_, _, x, hx⟩ := hidx i k hk
    exact (List.getElem?_eq_some_iff.1 hx).1
  have htl : (m2'.take idx.length).length = idx.length := by simp; omega
  have hul : (applyUps c.m (idx.zip (m2'.take idx.length))).length = c.m.length := applyUps_length _ _
  have hpl : ((List.range c.φ.length).map fun i => match idx.idxOf? i with | some k => (c2.φ[k]?).getD none | none => (c.φ[i]?).getD none).length = c.m.length := by simp [hll]
  -- the three parts of the new memory
  have F1m : ∀ k i, idx[k]? = some i → c3.m[i]? = m2'[k]? := fun k i hk => by
    have hkl : k < idx.length := (List.getElem?_eq_some_iff.1 hk).1
    have hil := hlt i (List.mem_of_getElem? hk)
    have hkb : (m2'.take idx.length)[k]? = some (m2'[k]'(by omega)) := by rw [List.getElem?_take_of_lt hkl, List.getElem?_eq_getElem (by omega)]
    show (applyUps c.m (idx.zip (m2'.take idx.length)) ++ m2'.drop idx.length)[i]? = _
    rw [List.getElem?_append_left (by omega), applyUps_zip idx _ c.m hn hlt k i _ hk hkb, List.getElem?_eq_getElem (by omega)]
  have F1φ : ∀ k i, idx[k]? = some i → c3.φ[i]? = c2.φ[k]? := fun k i hk => by
    have hkl : k < idx.length := (List.getElem?_eq_some_iff.1 hk).1
    have hil := hlt i (List.mem_of_getElem? hk)
    show (((List.range c.φ.length).map _) ++ c2.φ.drop idx.length)[i]? = _
    rw [List.getElem?_append_left (by omega), List.getElem?_map, List.getElem?_range (by omega)]
    simp only [Option.map_some, get_idxOf hn hk]
    rw [List.getElem?_eq_getElem (by rw [hg2.len]; omega)]; rfl
  have F2m : ∀ i, i < c.m.length → i ∉ idx → c3.m[i]? = c.m[i]? := fun i hi hni => by
    show (applyUps c.m (idx.zip (m2'.take idx.length)) ++ m2'.drop idx.length)[i]? = _
    rw [List.getElem?_append_left (by omega), applyUps_other]
    intro u hu e
    exact hni (e ▸ (List.of_mem_zip hu).1)
  have F2φ : ∀ i, i < c.m.length → i ∉ idx → c3.φ[i]? = c.φ[i]? := fun i hi hni => by
    show (((List.range c.φ.length).map _) ++ c2.φ.drop idx.length)[i]? = _
    rw [List.getElem?_append_left (by omega), List.getElem?_map, List.getElem?_range (by omega)]
    have : idx.idxOf? i = none := List.idxOf?_eq_none_iff.2 hni
    simp only [Option.map_some, this]
    rw [List.getElem?_eq_getElem (by omega)]; rfl
  have F3m : ∀ j, c3.m[c.m.length + j]? = m2'[idx.length + j]? := fun j => by
    show (applyUps c.m (idx.zip (m2'.take idx.length)) ++ m2'.drop idx.length)[c.m.length + j]? = _
    rw [List.getElem?_append_right (by omega), hul, List.getElem?_drop]
    congr 1; omega
  have F3φ : ∀ j, c3.φ[c.m.length + j]? = c2.φ[idx.length + j]? := fun j => by
    show (((List.range c.φ.length).map _) ++ c2.φ.drop idx.length)[c.m.length + j]? = _
    rw [List.getElem?_append_right (by omega), hpl, List.getElem?_drop]
    congr 1; omega
  have FB : ∀ k i', back idx c.m.length k = some i' → c3.m[i']? = m2'[k]? ∧ c3.φ[i']? = c2.φ[k]? := fun k i' hb => by
    unfold back at hb
    split at hb
    · exact ⟨F1m k i' hb, F1φ k i' hb⟩
    · rename_i hk
      cases hb
      have e : idx.length + (k - idx.length) = k := by omega
      exact ⟨by rw [F3m, e], by rw [F3φ, e]⟩
  have hleafB : ∀ k i', back idx c.m.length k = some i' → Leaf c2.φ c2.m c3.φ c3.m k i' := fun k i' hb => by
    obtain ⟨e1, e2⟩ := FB k i' hb
    cases hx : c2.m[k]? with
    | none => exact Link.leaf (by unfold Link; rw [hx]; trivial)
    | some x =>
      have hkl : k < m2'.length := by rw [← l2]; exact (List.getElem?_eq_some_iff.1 hx).1
      have hy : m2'[k]? = some m2'[k] := List.getElem?_eq_getElem hkl
      obtain ⟨x', hx', hr⟩ := g2 k _ hy
      rw [hx] at hx'; cases hx'
      exact leaf_ren hx (e1.trans hy) hr e2
  have hback : ∀ (x x' : V) (v : Value), x.ren (back idx c.m.length) = some x' → VRep N ly c2.H c2.φ c2.m x v → VRep N ly c3.H c3.φ c3.m x' v := fun x x' v h k => VRep.ren N ly (HM.le_refl _) hleafB x x' v h k
  have hle : c.H.le c2.H := fun b o v h => ht.hle b o v (h1H ▸ h)
  have hleaf : ∀ i, Leaf c.φ c.m c3.φ c3.m i i := fun i => by
    by_cases hi : i ∈ idx
    · obtain ⟨k, hk⟩ := List.getElem?_of_mem hi
      have hkl : k < idx.length := (List.getElem?_eq_some_iff.1 hk).1
      exact ((hidx i k hk).1.trans (hE.leaf k)).trans (hleafB k i (by unfold back; rw [if_pos hkl]; exact hk))
    · by_cases hl : i < c.m.length
      · exact leaf_same (F2m i hl hi) (F2φ i hl hi)
      · exact Link.leaf (by unfold Link; rw [List.getElem?_eq_none (by omega)]; trivial)
  have hE3 : Ext c.H c.φ c.m c3.H c3.φ c3.m := ⟨hle, hleaf⟩
  -- where a block of the new memory comes from
  have hfrom : ∀ i x, c3.m[i]? = some x → (i < c.m.length ∧ i ∉ idx ∧ c.m[i]? = some x ∧ c3.φ[i]? = c.φ[i]?) ∨ ∃ k y, back idx c.m.length k = some i ∧ c2.m[k]? = some y ∧ y.ren (back idx c.m.length) = some x ∧ c3.φ[i]? = c2.φ[k]? := fun i x hx => by
    have inB : ∀ k, back idx c.m.length k = some i → ∃ k y, back idx c.m.length k = some i ∧ c2.m[k]? = some y ∧ y.ren (back idx c.m.length) = some x ∧ c3.φ[i]? = c2.φ[k]? := fun k hb => by
      obtain ⟨e1, e2⟩ := FB k i hb
      obtain ⟨y, hy, hr⟩ := g2 k x (e1 ▸ hx)
      exact ⟨k, y, hb, hy, hr, e2⟩
    by_cases hl : i < c.m.length
    · by_cases hi : i ∈ idx
      · obtain ⟨k, hk⟩ := List.getElem?_of_mem hi
        exact .inr (inB k (by unfold back; rw [if_pos (List.getElem?_eq_some_iff.1 hk).1]; exact hk))
      · exact .inl ⟨hl, hi, by rw [← F2m i hl hi]; exact hx, F2φ i hl hi⟩
    · exact .inr (inB (idx.length + (i - c.m.length)) (by
        unfold back
        rw [if_neg (by omega)]
        congr 1; omega))
  have hlive2 : ∀ i R s, Live c3.m i → c3.φ[i]? = some (some (R, s)) → (i ∉ idx ∧ Live c.m i ∧ c.φ[i]? = some (some (R, s))) ∨ ∃ k, back idx c.m.length k = some i ∧ Live c2.m k ∧ c2.φ[k]? = some (some (R, s)) := fun i R s hl hp => by
    obtain ⟨x, hx, hx'⟩ : ∃ x, c3.m[i]? = some x ∧ ((∃ cs, x = .cells cs) ∨ ∃ n k, x = .tok n k) := by
      rcases hl with ⟨cs, h⟩ | ⟨n, k, h⟩
      · exact ⟨_, h, .inl ⟨cs, rfl⟩⟩
      · exact ⟨_, h, .inr ⟨n, k, rfl⟩⟩
    rcases hfrom i x hx with ⟨_, h2, h3, h4⟩ | ⟨k, y, h1, h2, h3, h4⟩
    · refine .inl ⟨h2, ?_, h4 ▸ hp⟩
      rcases hx' with ⟨cs, rfl⟩ | ⟨n, q, rfl⟩
      · exact .inl ⟨cs, h3⟩
      · exact .inr ⟨n, q, h3⟩
    · refine .inr ⟨k, h1, ?_, h4 ▸ hp⟩
      rcases ren_blk_kind h3 with ⟨cs, cs', rfl, rfl⟩ | ⟨rfl, hnc⟩
      · exact .inl ⟨cs, h2⟩
      · rcases hx' with ⟨cs, rfl⟩ | ⟨n, q, rfl⟩
        · exact absurd rfl (hnc cs)
        · exact .inr ⟨n, q, h2⟩
  -- who owned a row of the callee's
  have hown2 : ∀ R, Owned c2 R → (∃ i ∈ idx, Live c.m i ∧ ∃ s, c.φ[i]? = some (some (R, s))) ∨ c.w.heap.size ≤ R := fun R h => by
    rcases ht.own R h with h | h
    · obtain ⟨i, a, b, d⟩ := hlive1 R h
      exact .inl ⟨i, a, b, d⟩
    · exact .inr (h1w ▸ h)
  have hapart : ∀ i R s, i ∉ idx → Live c.m i → c.φ[i]? = some (some (R, s)) → ¬ Owned c1 R := fun i R s hi hl hp ho => by
    obtain ⟨j, hj, hlj, s', hpj⟩ := hlive1 R ho
    exact hi ((hg.inj i j R s s' hl hlj hp hpj) ▸ hj)
  have hbinj : ∀ k k' i, back idx c.m.length k = some i → back idx c.m.length k' = some i → k = k' := fun k k' i h h' => by
    unfold back at h h'
    split at h <;> split at h'
    · have e1 := get_idxOf hn h
      have e2 := get_idxOf hn h'
      rw [e1] at e2; exact Option.some.inj e2
    · have := hlt i (List.mem_of_getElem? h)
      cases h'; omega
    · have := hlt i (List.mem_of_getElem? h')
      cases h; omega
    · cases h
      simp only [Option.some.injEq] at h'; omega
  refine ⟨⟨?_, hg2.frz, ?_, ?_⟩, ⟨fun a => (ht.fz a).trans (by rw [h1w]), ht.os.trans (by rw [h1w]), ht.tape.trans (by rw [h1w]), ht.output.trans (by rw [h1w]), by have := ht.size; rwa [h1w] at this, hle, ?_, ?_, ?_⟩, hE3, hback⟩
  · show (((List.range c.φ.length).map _) ++ c2.φ.drop idx.length).length = (applyUps c.m (idx.zip (m2'.take idx.length)) ++ m2'.drop idx.length).length
    rw [List.length_append, List.length_append, hpl, hul, List.length_drop, List.length_drop, hg2.len, l2]
  · intro i x hx
    rcases hfrom i x hx with ⟨hl, hi, h3, h4⟩ | ⟨k, y, h1, h2, h3, h4⟩
    · by_cases hlv : Live c.m i
      · refine (hg.blk i x h3).keep N ly hE3 h4 fun R s hR => ?_
        have hno := hapart i R s hi hlv hR
        have hRl : R < c.w.heap.size := hg.owned_lt N ly ⟨i, s, hlv, hR⟩
        refine ⟨by have := ht.frame R (by rw [h1w]; exact hRl) hno; rw [h1w] at this; exact this, fun o ho => ?_⟩
        cases hv : c2.H R o with
        | none => rfl
        | some v =>
          rcases ht.hnew R o v hv with h | h | h
          · rw [h1H, ho] at h; cases h
          · exact absurd h hno
          · rw [h1w] at h; omega
      · cases x with
        | cells cs => exact absurd (.inl ⟨cs, h3⟩) hlv
        | tok n q => exact absurd (.inr ⟨n, q, h3⟩) hlv
        | dead => trivial
        | hole => trivial
    · have hb := hg2.blk k y h2
      rcases ren_blk_kind h3 with ⟨cs, cs', rfl, rfl⟩ | ⟨rfl, hnc⟩
      · obtain ⟨R, s, arr, e, k1, k2, k3, k4, k5, k6⟩ := hb
        simp only [Blk.ren, Option.map_eq_some_iff, Blk.cells.injEq] at h3
        obtain ⟨z, h3, rfl⟩ := h3
        have hget : ∀ {xs ys : List V}, rens (back idx c.m.length) xs = some ys → xs.length = ys.length ∧ ∀ (j : Nat) (y : V), ys[j]? = some y → ∃ x : V, xs[j]? = some x ∧ x.ren (back idx c.m.length) = some y := by
          intro xs
          induction xs with
          | nil => intro ys h; simp only [rens, Option.some.injEq] at h; subst h; exact ⟨rfl, fun j y hj => by simp at hj⟩
          | cons a r ih =>
            intro ys h
            simp only [rens] at h
            split at h
            · rename_i u v hu hv
              simp only [Option.some.injEq] at h; subst h
              obtain ⟨q1, q2⟩ := ih hv
              refine ⟨by simp [q1], fun j y hj => ?_⟩
              cases j with
              | zero => simp at hj; subst hj; exact ⟨a, by simp, hu⟩
              | succ j => simpa using q2 j y (by simpa using hj)
            · simp at h
        obtain ⟨q1, q2⟩ := hget h3
        refine ⟨R, s, arr, e, h4.trans k1, k2, k3, q1 ▸ k4, fun j y hj => ?_, k6⟩
        obtain ⟨x, hxj, hr⟩ := q2 j y hj
        obtain ⟨a, v, b, d⟩ := k5 j x hxj
        have hcell : x.isCell = y.isCell := by
          cases x <;> simp only [V.ren, Option.some.injEq, Option.map_eq_some_iff] at hr <;> first
            | (subst hr; rfl)
            | (obtain ⟨_, _, rfl⟩ := hr; rfl)
        exact ⟨hcell ▸ a, v, b, hback x y v hr d⟩
      · cases y with
        | cells cs => exact absurd rfl (hnc cs)
        | tok n q =>
          rcases hb with ⟨q1, q2⟩ | ⟨R, s, arr, e, q1, q2⟩
          · exact .inl ⟨q1, h4.trans q2⟩
          · exact .inr ⟨R, s, arr, e, h4.trans q1, q2⟩
        | dead => trivial
        | hole => trivial
  · intro i j R s s' hi hj h1 h2
    rcases hlive2 i R s hi h1 with ⟨ai, al, ap⟩ | ⟨k, bk, bl, bp⟩
    · rcases hlive2 j R s' hj h2 with ⟨di, dl, dp⟩ | ⟨k', ek, el, ep⟩
      · exact hg.inj i j R s s' al dl ap dp
      · exfalso
        rcases hown2 R ⟨k', s', el, ep⟩ with ⟨q, hq, ql, s2, qp⟩ | h
        · exact ai ((hg.inj i q R s s2 al ql ap qp) ▸ hq)
        · have := hg.owned_lt N ly ⟨i, s, al, ap⟩; omega
    · rcases hlive2 j R s' hj h2 with ⟨di, dl, dp⟩ | ⟨k', ek, el, ep⟩
      · exfalso
        rcases hown2 R ⟨k, s, bl, bp⟩ with ⟨q, hq, ql, s2, qp⟩ | h
        · exact di ((hg.inj j q R s' s2 dl ql dp qp) ▸ hq)
        · have := hg.owned_lt N ly ⟨j, s', dl, dp⟩; omega
      · have := hg2.inj k k' R s s' bl el bp ep
        subst this
        rw [bk] at ek; exact Option.some.inj ek
  · intro b hb hno
    have hno1 : ¬ Owned c1 b := fun h => by
      obtain ⟨i, _, hl, s, hp⟩ := hlive1 b h
      exact hno ⟨i, s, hl, hp⟩
    have := ht.frame b (by rw [h1w]; exact hb) hno1
    rw [h1w] at this; exact this
  · rintro b ⟨i, s, hl, hp⟩
    rcases hlive2 i b s hl hp with ⟨_, al, ap⟩ | ⟨k, _, bl, bp⟩
    · exact .inl ⟨i, s, al, ap⟩
    · rcases hown2 b ⟨k, s, bl, bp⟩ with ⟨q, _, ql, s2, qp⟩ | h
      · exact .inl ⟨q, s2, ql, qp⟩
      · exact .inr h
  · intro b o v hv
    rcases ht.hnew b o v hv with h | h | h
    · exact .inl (h1H ▸ h)
    · obtain ⟨i, _, hl, s, hp⟩ := hlive1 b h
      exact .inr (.inl ⟨i, s, hl, hp⟩)
    · exact .inr (.inr (h1w ▸ h))

end Go.Am

/- One operation, calls and yields with the rest. -/



namespace Go.Am
open Go

/-- The fence that keeps nothing out. -/
def fc (ro : Option Nat) : Fence := { Fence.wide with round := ro }

theorem fc_room (ro : Option Nat) (n : Nat) : (fc ro).room n := fun d h => by simp [fc, Fence.wide] at h
theorem fc_fn (ro : Option Nat) (f : FuncId) : (fc ro).fn f := trivial
theorem fc_depth (ro : Option Nat) (n : Nat) : (fc ro).depth.isSome = true → 1 ≤ n := fun h => by simp [fc, Fence.wide] at h

def FrzOk (H : HM) (w : World) : Prop := ∀ b o v, H b o = some v → w.cell? ⟨b, o, none⟩ = some v ∧ v.oneCell' = true

structure Tr (O : Nat → Prop) (H : HM) (w : World) (O' : Nat → Prop) (H' : HM) (w' : World) : Prop where
  fz : ∀ a, w'.frozen? a = w.frozen? a
  os : w'.os = w.os
  tape : w'.tape = w.tape
  output : w'.output = w.output
  size : w.heap.size ≤ w'.heap.size
  hle : H.le H'
  frame : ∀ b, b < w.heap.size → ¬ O b → w'.heap[b]? = w.heap[b]?
  own : ∀ b, O' b → O b ∨ w.heap.size ≤ b
  hnew : ∀ b o v, H' b o = some v → H b o = some v ∨ O b ∨ w.heap.size ≤ b

theorem Tr.refl (O : Nat → Prop) (H : HM) (w : World) : Tr O H w O H w := ⟨fun _ => rfl, rfl, rfl, rfl, Nat.le_refl _, HM.le_refl _, fun _ _ _ => rfl, fun _ h => .inl h, fun _ _ _ h => .inl h⟩

theorem Tr.trans {O O' O'' : Nat → Prop} {H H' H'' : HM} {w w' w'' : World} (h : Tr O H w O' H' w') (k : Tr O' H' w' O'' H'' w'') : Tr O H w O'' H'' w'' where
  fz x := (k.fz x).trans (h.fz x)
  os := k.os.trans h.os
  tape := k.tape.trans h.tape
  output := k.output.trans h.output
  size := Nat.le_trans h.size k.size
  hle := HM.le_trans h.hle k.hle
  frame x hx hn := by
    refine (k.frame x (Nat.lt_of_lt_of_le hx h.size) fun ho => ?_).trans (h.frame x hx hn)
    rcases h.own x ho with ho | ho
    · exact hn ho
    · omega
  own x ho := by
    rcases k.own x ho with ho | ho
    · exact h.own x ho
    · exact .inr (Nat.le_trans h.size ho)
  hnew x o v hv := by
    rcases k.hnew x o v hv with hv | ho | ho
    · exact h.hnew x o v hv
    · rcases h.own x ho with ho | ho
      · exact .inr (.inl ho)
      · exact .inr (.inr ho)
    · exact .inr (.inr (Nat.le_trans h.size ho))

theorem Tr.mono {O P O' : Nat → Prop} {H H' : HM} {w w' : World} (h : Tr O H w O' H' w') (hp : ∀ b, O b → P b) : Tr P H w O' H' w' :=
  ⟨h.fz, h.os, h.tape, h.output, h.size, h.hle, fun b hb hn => h.frame b hb fun ho => hn (hp b ho), fun b hb => (h.own b hb).imp (hp b) id, fun b o v hv => (h.hnew b o v hv).imp id (Or.imp (hp b) id)⟩

theorem Tr.less {O O' P' : Nat → Prop} {H H' : HM} {w w' : World} (h : Tr O H w O' H' w') (hp : ∀ b, P' b → O' b) : Tr O H w P' H' w' :=
  ⟨h.fz, h.os, h.tape, h.output, h.size, h.hle, h.frame, fun b hb => h.own b (hp b hb), h.hnew⟩

theorem Trans.tr {c c' : Cfg} (h : Trans c c') : Tr (Owned c) c.H c.w (Owned c') c'.H c'.w := ⟨h.fz, h.os, h.tape, h.output, h.size, h.hle, h.frame, h.own, h.hnew⟩

/-- A step of one side, beside blocks of another. -/
theorem Trans.beside {c c' : Cfg} (h : Trans c c') (D : Nat → Prop) : Tr (fun b => Owned c b ∨ D b) c.H c.w (fun b => Owned c' b ∨ D b) c'.H c'.w :=
  ⟨h.fz, h.os, h.tape, h.output, h.size, h.hle, fun b hb hn => h.frame b hb fun ho => hn (.inl ho), fun b hb => by
    rcases hb with hb | hb
    · exact (h.own b hb).imp .inl id
    · exact .inl (.inr hb), fun b o v hv => (h.hnew b o v hv).imp id (Or.imp .inl id)⟩

variable (N : Nm) (pr : Program)

/-- The side that yields are handed to; and what the activation has deferred ahead, with slots that are not written again. -/
structure Yl (σ : Type) where
  l : Option Nat
  rel : σ → (Nat → Prop) → HM → World → Prop
  base : List Deferred := []
  pins : List (Nat × Value) := []

/-- The value of a panic. -/
def panVal (t : Nat) (xs : List Int) : Value := .iface (N.tnum t) (.agg (xs.map fun n => Value.int .i64 n).toArray)
def chainOf (t : Nat) (xs : List Int) : List PanicEntry := [{ v := panVal N t xs, recovered := false }]

/-- How a call ends whose answer is `r`. -/
def Ends (r : V) (v : Value) (e : Ending) : Prop := match r.pan? with
  | none => e = .returned v
  | some (t, xs) => e = .panicked (chainOf N t xs)

variable {σ : Type}

/-- The same side, seen by an activation of its own. -/
def Yl.bare (y : Yl σ) : Yl σ := { y with base := [], pins := [] }

def Yl.Stable (y : Yl σ) : Prop := ∀ s D H w H' w', y.rel s D H w → FrzOk H' w' → w.heap.size ≤ w'.heap.size → H.le H' →
  (∀ b, D b → w'.heap[b]? = w.heap[b]? ∧ ∀ o, H b o = none → H' b o = none) → y.rel s D H' w'

def Yl.Ok (y : Yl σ) (Y : List P → σ → Option (Bool × σ)) : Prop := ∀ ps s b s', Y ps s = some (b, s') → ∀ l, y.l = some l → ∀ D H w (vals : List Value), y.rel s D H w → FrzOk H w → (∀ b, D b → b < w.heap.size) → Reps N H ps vals →
  YieldAt (fc none) 0 pr l vals.toArray w fun e w' => e = .returned (.bool b) ∧ ∃ D' H', y.rel s' D' H' w' ∧ FrzOk H' w' ∧ (∀ b, D' b → b < w'.heap.size) ∧ Tr D H w D' H' w'

/-- A function's number is called: what stands for it comes to a function that is entered. -/
def CallsV (id : Nat) (vals : List Value) (w : World) (K : Ending → World → Prop) : Prop :=
  ∃ g vals', (∀ w', (invoke (.fn (N.fv id) #[]) vals.toArray).run pr w' = .ok (.enter g vals') w') ∧ (id < 3000000000 → g = N.num id ∧ vals' = vals.toArray) ∧ Calls pr g vals' w K

/-- A function that may be entered. -/
def Enters (id : Nat) : Prop := ∃ fn, pr.funcs[N.num id]? = some fn ∧ (fn.name == "runtime.NumGoroutine") = false ∧ fn.body.isNone = false

structure SoundEnv (E : Env) : Prop where
  call : ∀ id args mem r mem', E.call id args mem = some (r, mem') → ∀ (c : Cfg) (vals : List Value), Good N none c → c.m = mem → VReps N none c.H c.φ c.m args vals →
    CallsV N pr id vals c.w fun e w' => ∃ (c' : Cfg) (v : Value), Ends N r v e ∧ c'.w = w' ∧ c'.m = mem' ∧ Good N none c' ∧ Trans c c' ∧ Ext c.H c.φ c.m c'.H c'.φ c'.m ∧ (r.pan? = none → VRep N none c'.H c'.φ c'.m r v)
  iter : ∀ (σ : Type) (Y : List P → σ → Option (Bool × σ)) id args mem s s', E.iter σ Y id args mem s = some s' → Enters N pr id ∧ ∀ (y : Yl σ), y.Stable → y.Ok N pr Y → ∀ (c : Cfg) (D : Nat → Prop) (vals : List Value),
    Good N y.l c → c.m = mem → VReps N y.l c.H c.φ c.m args vals → y.rel s D c.H c.w → (∀ b, D b → b < c.w.heap.size ∧ ¬ Owned c b) →
    Calls pr (N.num id) vals.toArray c.w fun e w' => (∃ v, e = .returned v) ∧ ∃ D' H', y.rel s' D' H' w' ∧ FrzOk H' w' ∧ (∀ b, D' b → b < w'.heap.size) ∧ Tr (fun b => Owned c b ∨ D b) c.H c.w D' H' w'

theorem sub_owned {c : Cfg} {idx : List Nat} {ms : List Blk} {w : World} {bs : List Blk} (hb : (readAll idx).run c.m = some bs) (hms : renBlks (fun i => idx.idxOf? i) bs = some ms) {φ1 : FM}
    (h : ∀ i k, idx[k]? = some i → Leaf c.φ c.m φ1 ms i k ∧ φ1[k]? = c.φ[i]? ∧ ∃ x, c.m[i]? = some x) {R : Nat} (ho : Owned ⟨c.H, φ1, ms, w⟩ R) : ∃ i, i ∈ idx ∧ Live c.m i ∧ ∃ s, c.φ[i]? = some (some (R, s)) := by
  obtain ⟨k, s, hl, hp⟩ := ho
  obtain ⟨l1, g1⟩ := readAll_get hb
  obtain ⟨l2, g2⟩ := renBlks_get hms
  have hkl : k < ms.length := by rcases hl with ⟨_, h⟩ | ⟨_, _, h⟩ <;> exact (List.getElem?_eq_some_iff.1 h).1
  have hki : idx[k]? = some (idx[k]'(by omega)) := List.getElem?_eq_getElem (by omega)
  obtain ⟨_, e2, _⟩ := h _ k hki
  obtain ⟨x, hx, hxi⟩ := g1 k _ hki
  refine ⟨_, List.mem_of_getElem? hki, ?_, s, e2 ▸ hp⟩
  obtain ⟨x', hx', hr⟩ := g2 k _ (List.getElem?_eq_getElem hkl)
  rw [hx] at hx'; cases hx'
  rcases hl with ⟨cs, hm⟩ | ⟨n, q, hm⟩
  · rw [List.getElem?_eq_getElem hkl] at hm
    rcases ren_blk_kind hr with ⟨a, b, rfl, _⟩ | ⟨rfl, hnc⟩
    · exact .inl ⟨a, hxi⟩
    · simp only [Option.some.injEq] at hm
      exact absurd hm (hnc cs)
  · rw [List.getElem?_eq_getElem hkl] at hm
    simp only [Option.some.injEq] at hm
    rcases ren_blk_kind hr with ⟨a, b, rfl, hb⟩ | ⟨rfl, _⟩
    · rw [hm] at hb; cases hb
    · exact .inr ⟨n, q, by rw [hxi, hm]⟩

theorem ren_pan {ρ : Nat → Option Nat} {x y : V} (h : x.ren ρ = some y) : y.pan? = x.pan? := by
  have hr : ∀ (xs ys : List V), rens ρ xs = some ys → (V.tuple ys).pan? = (V.tuple xs).pan? := by
    intro xs ys hxy
    rcases xs with _ | ⟨a, _ | ⟨b, r⟩⟩
    · simp only [rens, Option.some.injEq] at hxy; subst hxy; rfl
    · simp only [rens] at hxy
      split at hxy
      · rename_i a' r' ha hr
        simp only [Option.some.injEq] at hxy hr; subst hxy hr
        cases a <;> simp only [V.ren, Option.some.injEq, Option.map_eq_some_iff] at ha <;> first | (subst ha; rfl) | (obtain ⟨_, _, rfl⟩ := ha; rfl)
      · cases hxy
    · simp only [rens] at hxy
      split at hxy
      · rename_i a' r' ha hr
        split at hr
        · rename_i b' s' hb hs
          simp only [Option.some.injEq] at hxy hr; subst hxy hr
          cases a <;> simp only [V.ren, Option.some.injEq, Option.map_eq_some_iff] at ha <;> first | (obtain ⟨_, _, rfl⟩ := ha; rfl) | subst ha <;> try rfl
          cases b <;> simp only [V.ren, Option.some.injEq, Option.map_eq_some_iff] at hb <;> first | (obtain ⟨_, _, rfl⟩ := hb; rfl) | (subst hb; first | rfl | (rename_i q; cases q <;> first | rfl | (rename_i q2; cases q2 <;> rfl)))
        · cases hr
      · cases hxy
  cases x <;> simp only [V.ren, Option.some.injEq, Option.map_eq_some_iff] at h <;> first | (obtain ⟨z, hz, rfl⟩ := h; first | exact hr _ _ hz | rfl) | (subst h; rfl)

/-- A call of a function of ours. -/
theorem callF_ok {E : Env} (hE : SoundEnv N pr E) {ly : Option Nat} {c : Cfg} (hg : Good N ly c) {id : Nat} {vs : List V} {vals : List Value} {r : Res} (h : (callF E c.m.length id vs).run c.m = some r) (hv : VReps N ly c.H c.φ c.m vs vals) :
    CallsV N pr id vals c.w fun e w' => ∃ (c' : Cfg) (v : Value), Ends N r.val v e ∧ c'.w = w' ∧ c'.m = applyUps c.m r.ups ++ r.extra ∧ Good N ly c' ∧ Trans c c' ∧ Ext c.H c.φ c.m c'.H c'.φ c'.m ∧ (r.val.pan? = none → VRep N ly c'.H c'.φ c'.m r.val v) := by
  unfold callF at h
  rw [RM.run_bind] at h
  cases hi : (reach 1000 (idss vs) []).run c.m with
  | none => rw [hi] at h; simp at h
  | some idx =>
    rw [hi] at h
    simp only [Option.bind_some, RM.run_bind] at h
    cases hb : (readAll idx).run c.m with
    | none => rw [hb] at h; simp at h
    | some bs =>
      rw [hb] at h
      simp only [Option.bind_some] at h
      split at h
      · rename_i hcond
        simp only [Bool.and_eq_true] at hcond
        obtain ⟨⟨hnd, hny⟩, hby⟩ := hcond
        have hn := nd_nodup hnd
        split at h
        · rename_i as ms has hms
          split at h
          · rename_i r0 m2 hcall
            split at h
            · rename_i hlen
              split at h
              · rename_i r' m2' hr' hm2'
                simp only [RM.run, Option.some.injEq] at h; subst h
                obtain ⟨g1, t1, hidx⟩ := sub_good N ly hg hn hb hms
                have hcalls := hE.call id as ms r0 m2 hcall
                obtain ⟨l1, gr1⟩ := readAll_get hb
                obtain ⟨l2, gr2⟩ := renBlks_get hms
                have hnoY : ∀ (i : Nat) (x : Blk), ms[i]? = some x → x.noY = true := fun i x hx => by
                  obtain ⟨z, hz, hzr⟩ := gr2 i x hx
                  have hzY := (List.all_eq_true.1 hby) z (List.mem_of_getElem? hz)
                  rcases ren_blk_kind hzr with ⟨cs, cs', rfl, rfl⟩ | ⟨rfl, hnc⟩
                  · simp only [Blk.noY] at hzY ⊢
                    simp only [Blk.ren, Option.map_eq_some_iff, Blk.cells.injEq] at hzr
                    obtain ⟨q, hq, rfl⟩ := hzr
                    exact noYs_ren hq hzY
                  · exact hzY
                have g1n : Good N none ⟨c.H, idx.map fun i => (c.φ[i]?).getD none, ms, c.w⟩ := Good.anyY N ly g1 hnoY
                have hargs : VReps N none c.H (idx.map fun i => (c.φ[i]?).getD none) ms as vals :=
                  VReps.ren N none (HM.le_refl _) (fun i k hik => (hidx i k (idxOf_get hik)).1) vs as vals has (VReps.anyY N ly vs vals hny hv)
                obtain ⟨g, vals', hinv, hgv, hcalls⟩ := hcalls ⟨c.H, idx.map fun i => (c.φ[i]?).getD none, ms, c.w⟩ vals g1n rfl hargs
                refine ⟨g, vals', hinv, hgv, hcalls.mono ?_⟩
                rintro e w' ⟨c2, v, ke, rfl, rfl, k1, k2, k3, k4⟩
                have hpan := ren_pan hr'
                have hm := merge_good N ly hg hn (c1 := ⟨c.H, idx.map fun i => (c.φ[i]?).getD none, ms, c.w⟩) rfl rfl (by rw [← l2, ← l1]) hidx g1 (fun R hR => sub_owned hb hms hidx hR) (Good.fromNone N ly k1) k2 k3 hlen hm2'
                exact ⟨⟨c2.H, mergeφ idx c.φ c2.φ, mergeM idx c.m m2', c2.w⟩, v, by unfold Ends at ke ⊢; rw [hpan]; exact ke, rfl, rfl, hm.1, hm.2.1, hm.2.2.1, fun hp => hm.2.2.2 r0 r' v hr' (VRep.fromNone N ly r0 v (k4 (hpan ▸ hp)))⟩
              · simp [RM.run] at h
            · simp [RM.run] at h
          · simp [RM.run] at h
        · simp [RM.run] at h
      · simp [RM.run] at h

/-! ### The state of an activation -/

structure SimX (y : Yl σ) (O0 : Nat → Prop) (c0 e0 : Cfg) (kp : List (Nat × Obj)) (st : St) (s : σ) (a : Act) (w : World) (c : Cfg) (D : Nat → Prop) : Prop where
  hw : c.w = w
  hm : c.m = st.mem
  good : Good N y.l c
  frep : FRep N y.l c st.fr a.tmps
  rel : y.rel s D c.H w
  dis : ∀ b, D b → b < w.heap.size ∧ ¬ Owned c b
  marks : ∀ p ∈ kp, w.heap[p.1]? = some p.2 ∧ ¬ Owned c p.1 ∧ ¬ D p.1
  tr : Tr O0 c0.H c0.w (fun b => Owned c b ∨ D b) c.H w
  ext : Ext e0.H e0.φ e0.m c.H c.φ c.m

def dmOf (r : Nat) : Nat × Obj := (r, .deferred (some []))

def Sim (y : Yl σ) (O0 : Nat → Prop) (c0 e0 : Cfg) (kp0 : List (Nat × Obj)) (st : St) (s : σ) (a : Act) (w : World) : Prop :=
  (∀ p ∈ y.pins, a.tmps.getD p.1 undef = p.2) ∧ ∃ dm : List Nat, a.defers = (dm.map fun r => { target := .collected r, args := #[] }) ++ y.base ∧ (dm.Nodup ∧ ∀ r ∈ dm, c0.w.heap.size ≤ r) ∧ ∃ c D, SimX N y O0 c0 e0 (kp0 ++ dm.map dmOf) st s a w c D

theorem SimX.marks_of {y : Yl σ} {O0 : Nat → Prop} {c0 e0 : Cfg} {kp : List (Nat × Obj)} {st : St} {s : σ} {a : Act} {w : World} {c : Cfg} {D : Nat → Prop} (h : SimX N y O0 c0 e0 kp st s a w c D) {c' : Cfg} {D' : Nat → Prop} {w' : World}
    (ht : Tr (fun b => Owned c b ∨ D b) c.H w (fun b => Owned c' b ∨ D' b) c'.H w') : ∀ p ∈ kp, w'.heap[p.1]? = some p.2 ∧ ¬ Owned c' p.1 ∧ ¬ D' p.1 := fun p hp => by
  obtain ⟨h1, h2, h3⟩ := h.marks p hp
  have hlt : p.1 < w.heap.size := (Array.getElem?_eq_some_iff.1 h1).1
  have hno : ¬ (Owned c p.1 ∨ D p.1) := fun h => h.elim h2 h3
  refine ⟨(ht.frame p.1 hlt hno).trans h1, fun ho => ?_, fun hd => ?_⟩
  · rcases ht.own p.1 (.inl ho) with h | h
    · exact hno h
    · omega
  · rcases ht.own p.1 (.inr hd) with h | h
    · exact hno h
    · omega

/-- A step on the activation's own side. -/
theorem SimX.step {y : Yl σ} (hS : y.Stable) {O0 : Nat → Prop} {c0 e0 : Cfg} {kp : List (Nat × Obj)} {st st' : St} {s : σ} {a a' : Act} {w : World} {c : Cfg} {D : Nat → Prop} (h : SimX N y O0 c0 e0 kp st s a w c D) {c' : Cfg}
    (hm : c'.m = st'.mem) (hg : Good N y.l c') (hf : FRep N y.l c' st'.fr a'.tmps) (ht : Trans c c') (hE : Ext e0.H e0.φ e0.m c'.H c'.φ c'.m) : SimX N y O0 c0 e0 kp st' s a' c'.w c' D := by
  have hw := h.hw; subst hw
  have hb := ht.beside D
  have hD : ∀ b, D b → c'.w.heap[b]? = c.w.heap[b]? ∧ ∀ o, c.H b o = none → c'.H b o = none := fun b hb' => by
    obtain ⟨h1, h2⟩ := h.dis b hb'
    refine ⟨ht.frame b h1 h2, fun o ho => ?_⟩
    cases hv : c'.H b o with
    | none => rfl
    | some v =>
      rcases ht.hnew b o v hv with k | k | k
      · rw [ho] at k; cases k
      · exact absurd k h2
      · omega
  refine ⟨rfl, hm, hg, hf, hS s D c.H c.w c'.H c'.w h.rel hg.frz ht.size ht.hle hD, fun b hb' => ?_, h.marks_of N hb, h.tr.trans hb, hE⟩
  obtain ⟨h1, h2⟩ := h.dis b hb'
  have hs := ht.size
  refine ⟨by omega, fun ho => ?_⟩
  rcases ht.own b ho with k | k
  · exact h2 k
  · omega

theorem SimX.own {y : Yl σ} (hS : y.Stable) {O0 : Nat → Prop} {c0 e0 : Cfg} {kp : List (Nat × Obj)} {st st' : St} {s : σ} {a a' : Act} {w : World} {c : Cfg} {D : Nat → Prop} (h : SimX N y O0 c0 e0 kp st s a w c D) {c' : Cfg}
    (hm : c'.m = st'.mem) (hg : Good N y.l c') (hf : FRep N y.l c' st'.fr a'.tmps) (ht : Trans c c') (hE : Ext c.H c.φ c.m c'.H c'.φ c'.m) : SimX N y O0 c0 e0 kp st' s a' c'.w c' D :=
  h.step N hS hm hg hf ht (h.ext.trans hE)

theorem put_pins {pins : List (Nat × Value)} {a : Act} {d : Option Tmp} {v : Value} (h : ∀ p ∈ pins, a.tmps.getD p.1 undef = p.2) (hd : ∀ p ∈ pins, d ≠ some p.1) : ∀ p ∈ pins, (a.put d v).tmps.getD p.1 undef = p.2 := fun p hp => by
  cases d with
  | none => exact h p hp
  | some d =>
    have hne : d ≠ p.1 := fun e => hd p hp (by rw [e])
    rw [← h p hp]
    simp only [Act.put, Array.getD_eq_getD_getElem?]
    rw [Array.getElem?_setIfInBounds, if_neg hne]

theorem Act.put_defers' (a : Act) (d : Option Tmp) (v : Value) : (a.put d v).defers = a.defers := by cases d <;> rfl

/-- What `about` asks at this fence. -/
theorem about_any (ro : Option Nat) (o : Oper) (w : World) (ρ : Operand → Value) : ∀ f, o.about pr w ρ = some f → (fc ro).fn f := fun _ _ => trivial

def mCall (f : Opd) (args : List Opd) (o : Op) : Bool :=
  match o with
  | .call ⟨.value f', args', _⟩ => mOpd N f f' && mOpds N args args'.toList
  | .call ⟨.invoke rv nm, args', _⟩ => (match f with | .f id => N.fv id == .method nm | _ => false) && (match args with | x :: r => mOpd N x rv && mOpds N r args'.toList | [] => false)
  | _ => false

def mAnyOp (x : AOp) (o : Op) : Bool :=
  match x with
  | .call f args => mCall N f args o
  | x => mOp N pr x o

theorem mOp_notDefer {x : AOp} {o : Op} (h : mAnyOp N pr x o = true) : ∀ c, o ≠ .defer c := by
  rintro c rfl
  unfold mAnyOp at h
  split at h
  · simp [mCall] at h
  · cases x <;> simp [mOp] at h

theorem strip_rep {H : HM} {φ : FM} {m : List Blk} {ly : Option Nat} {x : V} {v : Value} (h : VRep N ly H φ m x v) : VRep N ly H φ m x.strip v := by
  unfold V.strip
  split
  · rename_i q hq
    simp only [VRep]; exact VRep.toP N ly x q v hq h
  · exact h

theorem strips_rep {H : HM} {φ : FM} {m : List Blk} {ly : Option Nat} : ∀ {xs : List V} {vs : List Value}, VReps N ly H φ m xs vs → VReps N ly H φ m (xs.map V.strip) vs
  | [], _, h => by simp only [VReps] at h; subst h; simp [VReps]
  | x :: r, _, h => by
    simp only [VReps, List.map_cons] at h ⊢
    obtain ⟨v, s, rfl, h1, h2⟩ := h
    exact ⟨v, s, rfl, strip_rep N h1, strips_rep h2⟩

theorem VReps.app {H : HM} {φ : FM} {m : List Blk} {ly : Option Nat} : ∀ {xs ys : List V} {us vs : List Value}, VReps N ly H φ m xs us → VReps N ly H φ m ys vs → VReps N ly H φ m (xs ++ ys) (us ++ vs)
  | [], _, _, _, h, k => by simp only [VReps] at h; subst h; simpa using k
  | x :: r, _, _, _, h, k => by
    simp only [VReps, List.cons_append] at h ⊢
    obtain ⟨v, s, rfl, h1, h2⟩ := h
    exact ⟨v, s ++ _, rfl, h1, VReps.app h2 k⟩

theorem callee_rep {H : HM} {φ : FM} {m : List Blk} {ly : Option Nat} {x : V} {v : Value} {id : Nat} {caps : List V} (h : callee x = some (id, caps)) (hv : VRep N ly H φ m x v) :
    ∃ cs : List Value, v = .func (N.fv id) #[] cs.toArray ∧ VReps N ly H φ m caps cs := by
  unfold callee at h
  split at h
  · simp only [Option.some.injEq, Prod.mk.injEq] at h
    obtain ⟨rfl, rfl⟩ := h
    simp only [VRep, Rep] at hv
    obtain ⟨cs, rfl, hr⟩ := hv
    refine ⟨cs, rfl, VReps.of N ly (by simp [Reps.length N hr]) fun j p u hp hu => ?_⟩
    simp only [List.getElem?_map, Option.map_eq_some_iff] at hp
    obtain ⟨q, hq, rfl⟩ := hp
    obtain ⟨u', k1, k2⟩ := Reps.get N hr j q hq
    rw [k1] at hu; cases hu
    simpa only [VRep] using k2
  · simp only [Option.some.injEq, Prod.mk.injEq] at h
    obtain ⟨rfl, rfl⟩ := h
    simpa only [VRep] using hv
  · cases h

theorem inv_fv {id : Nat} {cs : List Value} {args : Array Value} (h : 3000000000 ≤ id → cs = []) : invoke (.fn (N.fv id) cs.toArray) args = invoke (.fn (N.fv id) #[]) (args ++ cs.toArray) := by
  by_cases hlt : id < 3000000000
  · rw [N.fv_lt (by rw [Nat.blt_eq]; exact hlt)]
    simp [invoke]
  · have hcs := h (by omega)
    subst hcs
    simp

/-- The run of a call's operation. -/
theorem call_run {id : Nat} {o : Oper} {f' : Operand} {args' : Array Operand} {ts : Array TypeId} (ho : o.op = .call ⟨.value f', args', ts⟩)
    {a : Act} {cs : List Value} (hv : a.eval f' = .func (N.fv id) #[] cs.toArray) (hc : 3000000000 ≤ id → cs = []) {g : FuncId} {vals' : Array Value} {w : World} (hi : (invoke (.fn (N.fv id) #[]) (args'.map a.eval ++ cs.toArray)).run pr w = .ok (.enter g vals') w) :
    (execOp a.eval o).run pr w = .ok (.enter g vals') w := by
  rw [← inv_fv N hc] at hi
  simp [execOp, ho, resolve, hv, Deferred.ofValue, hi]

/-- A method of an interface value. -/
theorem invoke_run {id : Nat} {o : Oper} {rv : Operand} {nm : String} {args' : Array Operand} {ts : Array TypeId} (ho : o.op = .call ⟨.invoke rv nm, args', ts⟩)
    {a : Act} (hf : N.fv id = .method nm) {g : FuncId} {vals' : Array Value} {w : World} (hi : (invoke (.fn (N.fv id) #[]) (#[a.eval rv] ++ args'.map a.eval)).run pr w = .ok (.enter g vals') w) :
    (execOp a.eval o).run pr w = .ok (.enter g vals') w := by
  rw [hf] at hi
  simp [execOp, ho, resolve, hi]

theorem yield_run {l : Nat} {o : Oper} {f' : Operand} {args' : Array Operand} {ts : Array TypeId} (ho : o.op = .call ⟨.value f', args', ts⟩) {a : Act} (hv : a.eval f' = .func (.yield l) #[] #[]) (w : World) :
    (execOp a.eval o).run pr w = (Instr.yield l (args'.map a.eval)).run pr w := by
  simp [execOp, ho, resolve, hv, Deferred.ofValue, invoke]

theorem run_calm {x : RM Res} {m : List Blk} {r : Res} (h : (x.bind calm).run m = some r) : x.run m = some r ∧ r.val.pan? = none := by
  rw [RM.run_bind] at h
  cases hx : x.run m with
  | none => rw [hx] at h; simp at h
  | some q =>
    rw [hx] at h
    simp only [Option.bind_some, calm] at h
    split at h
    · rename_i hp
      simp only [RM.run, Option.some.injEq] at h; subst h
      exact ⟨rfl, hp⟩
    · simp [RM.run] at h

/-- The operation of a call, which may panic. -/
theorem callp_wp {E : Env} (hE : SoundEnv N pr E) {y : Yl σ} (hS : y.Stable) (ro : Option Nat) {O0 : Nat → Prop} {c0 e0 : Cfg} {kp : List (Nat × Obj)} {st : St} {s : σ} {a : Act} {w : World} {o : Oper} {f : Opd} {args : List Opd}
    (hm : mCall N f args o.op = true) (hpin : ∀ p ∈ y.pins, o.dst ≠ some p.1) {id : Nat} {caps : List V} (hcl : callee (opd st.fr f) = some (id, caps)) (hcap : ¬ (3000000000 ≤ id ∧ caps ≠ [])) {r : Res}
    (hr : (callF E st.mem.length id ((args.map fun x => (opd st.fr x).strip) ++ caps.map V.strip)).run st.mem = some r) (h : Sim N y O0 c0 e0 kp st s a w) {K : Act → World → Prop} {Q : Exit → Act → World → Prop}
    (hK : r.val.pan? = none → ∀ v w', Sim N y O0 c0 e0 kp ⟨putD st.fr o.dst r.val, applyUps st.mem r.ups ++ r.extra⟩ s (a.put o.dst v) w' → K (a.put o.dst v) w')
    (hP : ∀ t xs, r.val.pan? = some (t, xs) → ∀ w', Sim N y O0 c0 e0 kp ⟨st.fr, applyUps st.mem r.ups ++ r.extra⟩ s a w' → Q (.panic (chainOf N t xs)) a w') : o.wpIn (fc ro) 0 pr a w K Q := by
  obtain ⟨hpn, dm, hdf, hnd, c, D, hx⟩ := h
  have hpn' := fun v => put_pins (v := v) hpn hpin
  have hcw := hx.hw; subst hcw
  have hcm := hx.hm
  refine ⟨about_any pr ro o _ _, ?_⟩
  have hnd' : ∀ c, o.op ≠ .defer c := fun c hc => by rw [hc] at hm; simp [mCall] at hm
  rw [Oper.semAt_eq (fc ro).round a.eval o hnd']
  rw [← hcm] at hr
  -- what the call comes to
  have go : ∀ vals : List Value, VReps N y.l c.H c.φ c.m ((args.map fun z => (opd st.fr z).strip) ++ caps.map V.strip) vals →
      (∀ g vals', (invoke (.fn (N.fv id) #[]) vals.toArray).run pr c.w = .ok (.enter g vals') c.w → (execOp a.eval o).run pr c.w = .ok (.enter g vals') c.w) → o.uponIn (fc ro) 0 pr a K Q ((execOp a.eval o).run pr c.w) := fun vals hargs hrun => by
    obtain ⟨g, vals', hinv, _, hcalls⟩ := callF_ok N pr hE hx.good hr hargs
    rw [hrun g vals' (hinv c.w), Oper.uponIn_enter]
    refine ⟨fc_depth ro 0, ?_⟩
    refine CallsIn.mono (F := fc ro) (n := 0 - 1) (show CallsIn (fc ro) (0 - 1) pr g _ c.w _ from (callsIn_wide (n := 0 - 1)).2 hcalls) ?_
    rintro e w' ⟨c', v, ke, rfl, k1, k2, k3, k4, k5⟩
    unfold Ends at ke
    cases hp : r.val.pan? with
    | none =>
      rw [hp] at ke; simp only at ke; subst ke
      exact hK hp v _ ⟨hpn' _, dm, (Act.put_defers' _ _ _).trans hdf, hnd, c', D, hx.own N hS (by rw [k1, hcm]) k2 (FRep.put N y.l (hx.frep.ext N y.l k4) o.dst (k5 hp)) k3 k4⟩
    | some q =>
      obtain ⟨t, xs⟩ := q
      rw [hp] at ke; simp only at ke; subst ke
      exact hP t xs hp _ ⟨hpn, dm, hdf, hnd, c', D, hx.own N hS (by rw [k1, hcm]) k2 (hx.frep.ext N y.l k4) k3 k4⟩
  unfold mCall at hm
  split at hm
  · rename_i f' args' ts ho
    simp only [Bool.and_eq_true] at hm
    have hvf := opd_rep N y.l hx.frep hm.1
    have hva := opds_rep N y.l hx.frep hm.2
    obtain ⟨cs, hvf', hcs⟩ := callee_rep N hcl hvf
    refine go (args'.toList.map a.eval ++ cs) ?_ fun g vals' hi => ?_
    · have := strips_rep N hva
      rw [List.map_map] at this
      exact VReps.app N this (strips_rep N hcs)
    · refine call_run N pr ho hvf' (fun hge => ?_) (g := g) (vals' := vals') ?_
      · have hc0 : caps = [] := Classical.byContradiction fun hne => hcap ⟨hge, hne⟩
        subst hc0
        simpa only [VReps] using hcs
      · have e0 : (args'.toList.map a.eval ++ cs).toArray = args'.map a.eval ++ cs.toArray := Array.ext' (by simp)
        rwa [e0] at hi
  · rename_i rv nm args' ts ho
    simp only [Bool.and_eq_true] at hm
    obtain ⟨hm1, hm2⟩ := hm
    split at hm1
    · rename_i id'
      simp only [opd, callee, Option.some.injEq, Prod.mk.injEq, List.map_nil] at hcl
      obtain ⟨rfl, rfl⟩ := hcl
      split at hm2
      · rename_i x r'
        simp only [Bool.and_eq_true] at hm2
        have hvx := opd_rep N y.l hx.frep hm2.1
        have hva := opds_rep N y.l hx.frep hm2.2
        refine go (a.eval rv :: args'.toList.map a.eval) ?_ fun g vals' hi => ?_
        · have := strips_rep N (xs := opd st.fr x :: r'.map (opd st.fr)) (vs := a.eval rv :: args'.toList.map a.eval) (by simp only [VReps]; exact ⟨_, _, rfl, hvx, hva⟩)
          simpa [List.map_map, Function.comp_def] using this
        · refine invoke_run N pr ho (by simpa using hm1) (g := g) (vals' := vals') ?_
          have e0 : (a.eval rv :: args'.toList.map a.eval).toArray = #[a.eval rv] ++ args'.map a.eval := Array.ext' (by simp)
          rwa [e0] at hi
      · cases hm2
    · cases hm1
  · cases hm

/-- One operation that is let run: the walk goes on in the state that the machine says. -/
theorem op_wp {E : Env} (hE : SoundEnv N pr E) {y : Yl σ} (hS : y.Stable) {Y : List P → σ → Option (Bool × σ)} (hY : y.Ok N pr Y) (ro : Option Nat) {O0 : Nat → Prop} {c0 e0 : Cfg} {kp : List (Nat × Obj)} {st st' : St} {s s' : σ} {a : Act} {w : World} {x : AO} {o : Oper} {base : Nat}
    (hm : mAnyOp N pr x.op o.op = true) (hd : x.dst = o.dst) (hpin : ∀ p ∈ y.pins, x.dst ≠ some p.1) (hw : wants st.fr x.guard = some true) (hs : step1 E Y base x st s = some (st', s')) (h : Sim N y O0 c0 e0 kp st s a w) {K : Act → World → Prop} {Q : Exit → Act → World → Prop}
    (hK : ∀ a' w', Sim N y O0 c0 e0 kp st' s' a' w' → K a' w') : o.wpIn (fc ro) 0 pr a w K Q := by
  obtain ⟨hpn, dm, hdf, hnd, c, D, hx⟩ := h
  have hpn' := fun v => put_pins (v := v) hpn (hd ▸ hpin)
  have hcw := hx.hw; subst hcw
  have hcm := hx.hm
  refine ⟨about_any pr ro o _ _, ?_⟩
  rw [Oper.semAt_eq (fc ro).round a.eval o (mOp_notDefer N pr hm)]
  simp only [step1, hw] at hs
  have plain : ∀ {r : Res}, OpOk N y.l pr c r (execOp a.eval o) → (⟨putD st.fr x.dst r.val, applyUps st.mem r.ups ++ r.extra⟩ : St) = st' → s = s' → o.uponIn (fc ro) 0 pr a K Q ((execOp a.eval o).run pr c.w) := fun {r} hok e1 e2 => by
    subst e1 e2
    obtain ⟨v, c', hrun, k1, k2, k3, k4, k5⟩ := hok
    have hsim : Sim N y O0 c0 e0 kp ⟨putD st.fr x.dst r.val, applyUps st.mem r.ups ++ r.extra⟩ s (a.put o.dst v) c'.w :=
      ⟨hpn' v, dm, (Act.put_defers' _ _ _).trans hdf, hnd, c', D, hx.own N hS (by rw [k1, hcm]) k2 (hd ▸ FRep.put N y.l (hx.frep.ext N y.l k4) x.dst k5) k3 k4⟩
    rcases hrun with hrun | ⟨hrun, rfl⟩
    · rw [hrun, Oper.uponIn_value]; exact hK _ _ hsim
    · rw [hrun, Oper.uponIn_skip]; exact hK _ _ hsim
  -- a call
  by_cases hcall : ∃ f args, x.op = .call f args
  · obtain ⟨f, args, hop⟩ := hcall
    rw [hop] at hm hs
    simp only [mAnyOp] at hm
    have hmc := hm
    · simp only at hs
      split at hs
      · -- yield
        rename_i hyl
        unfold mCall at hm
        split at hm
        rotate_left
        · rename_i rv nm args' ts ho
          simp only [Bool.and_eq_true] at hm
          have hm1 := hm.1
          split at hm1
          · simp [opd] at hyl
          · cases hm1
        · cases hm
        rename_i f' args' ts ho
        simp only [Bool.and_eq_true] at hm
        obtain ⟨hmf, hma⟩ := hm
        have hvf := opd_rep N y.l hx.frep hmf
        have hva := opds_rep N y.l hx.frep hma
        rw [hyl] at hvf
        simp only [VRep] at hvf
        obtain ⟨l, hl, hvl⟩ := hvf
        split at hs
        · rename_i ps hps
          split at hs
          · rename_i b s1 hYs
            simp only [Option.some.injEq, Prod.mk.injEq] at hs
            obtain ⟨rfl, rfl⟩ := hs
            have hreps := VReps.toPs N y.l _ ps _ hps hva
            obtain ⟨fn, tmps, assign, body, hyr, hround⟩ := hY ps s b s1 hYs l hl D c.H c.w (args'.toList.map a.eval) hx.rel hx.good.frz (fun b hb => (hx.dis b hb).1) hreps
            have e0 : (args'.toList.map a.eval).toArray = args'.map a.eval := Array.ext' (by simp)
            rw [e0] at hyr
            rw [yield_run pr ho hvl, hyr, Oper.uponIn_round]
            refine ⟨fc_depth ro 0, ?_⟩
            refine RoundIn.mono (F := fc ro) (n := 0 - 1) (show RoundIn (fc ro) (0 - 1) pr l fn tmps assign body c.w _ from hround) ?_
            rintro e w' ⟨rfl, D', H', k1, k2, k3, k4⟩
            -- the state behind the round
            have hno : ∀ R, Owned c R → ¬ D R := fun R ho hD => (hx.dis R hD).2 ho
            have hH : ∀ R, Owned c R → ∀ o, c.H R o = none → H' R o = none := fun R ho o hn => by
              cases hv : H' R o with
              | none => rfl
              | some v =>
                rcases k4.hnew R o v hv with h | h | h
                · rw [hn] at h; cases h
                · exact absurd h (hno R ho)
                · have := hx.good.owned_lt N y.l ho; omega
            have hEx : Ext c.H c.φ c.m H' c.φ c.m := ⟨k4.hle, fun i => ⟨fun h => ⟨h, rfl⟩, fun _ _ _ h => h⟩⟩
            have hgood : Good N y.l ⟨H', c.φ, c.m, w'⟩ := by
              refine ⟨hx.good.len, k2, fun i z hz => ?_, hx.good.inj⟩
              have hb := hx.good.blk i z hz
              by_cases hlv : Live c.m i
              · exact hb.keep N y.l (c' := ⟨H', c.φ, c.m, w'⟩) hEx rfl fun R s hR => ⟨k4.frame R (hx.good.owned_lt N y.l ⟨i, s, hlv, hR⟩) (hno R ⟨i, s, hlv, hR⟩), hH R ⟨i, s, hlv, hR⟩⟩
              · cases z with
                | cells cs => exact absurd (.inl ⟨cs, hz⟩) hlv
                | tok n q => exact absurd (.inr ⟨n, q, hz⟩) hlv
                | dead => trivial
                | hole => trivial
            have htr : Tr (fun b => Owned c b ∨ D b) c.H c.w (fun b => Owned ⟨H', c.φ, c.m, w'⟩ b ∨ D' b) H' w' :=
              ⟨k4.fz, k4.os, k4.tape, k4.output, k4.size, k4.hle, fun b hb hn => k4.frame b hb fun hD => hn (.inr hD), fun b hb => by
                rcases hb with hb | hb
                · exact .inl (.inl hb)
                · rcases k4.own b hb with h | h
                  · exact .inl (.inr h)
                  · exact .inr h, fun b o v hv => (k4.hnew b o v hv).imp id (Or.imp .inr id)⟩
            refine hK _ _ ⟨hpn' _, dm, (Act.put_defers' _ _ _).trans hdf, hnd, ⟨H', c.φ, c.m, w'⟩, D', ⟨rfl, hcm, hgood, ?_, k1, fun b hb => ⟨k3 b hb, fun ho => ?_⟩, hx.marks_of N htr, hx.tr.trans htr, hx.ext.trans hEx⟩⟩
            · exact hd ▸ FRep.put N y.l (FRep.ext N y.l (c' := ⟨H', c.φ, c.m, w'⟩) hx.frep hEx) x.dst (by simp only [VRep, Rep])
            · rcases k4.own b hb with h | h
              · exact (hx.dis b h).2 ho
              · have hlt : b < c.w.heap.size := hx.good.owned_lt N y.l (show Owned c b from ho)
                omega
          · cases hs
        · cases hs
      · -- a function
        rename_i hny
        split at hs
        · rename_i r hr
          simp only [Option.some.injEq, Prod.mk.injEq] at hs
          obtain ⟨rfl, rfl⟩ := hs
          simp only [exec1] at hr
          split at hr
          · rename_i id caps hcl
            split at hr
            · simp [RM.run] at hr
            rename_i hcap
            obtain ⟨hr, hnp⟩ := run_calm hr
            have := callp_wp N pr hE hS ro (o := o) hmc (hd ▸ hpin) hcl hcap hr ⟨hpn, dm, hdf, hnd, c, D, hx⟩ (K := K) (Q := Q) (fun _ v w' h' => hK _ _ (hd ▸ h')) (fun t xs hp => by rw [hnp] at hp; cases hp)
            have h2 := this.2
            rw [Oper.semAt_eq (fc ro).round a.eval o (fun c hc => by rw [hc] at hmc; simp [mCall] at hmc)] at h2
            exact h2
          · simp [RM.run] at hr
        · cases hs
  · have hm' : mOp N pr x.op o.op = true := by
      unfold mAnyOp at hm
      split at hm
      · rename_i f args hop; exact absurd ⟨f, args, hop⟩ hcall
      · exact hm
    split at hs
    · rename_i f args hop; exact absurd ⟨f, args, hop⟩ hcall
    · split at hs
      · rename_i r hr
        simp only [Option.some.injEq, Prod.mk.injEq] at hs
        rw [← hcm] at hr
        exact plain (exec_ok N y.l pr hx.good hx.frep E base c.m.length rfl hm' hr) hs.1 hs.2
      · cases hs

end Go.Am

/- A region whose order is open: two operations that do not clash may change places. -/

namespace Go.Am
open Go

def Agree (l : List Nat) (fr fr' : Fr) : Prop := ∀ i ∈ l, fr.get i = fr'.get i

theorem Agree.left {a b : List Nat} {fr fr' : Fr} (h : Agree (a ++ b) fr fr') : Agree a fr fr' := fun i hi => h i (List.mem_append_left _ hi)
theorem Agree.right {a b : List Nat} {fr fr' : Fr} (h : Agree (a ++ b) fr fr') : Agree b fr fr' := fun i hi => h i (List.mem_append_right _ hi)

theorem opd_congr {fr fr' : Fr} (x : Opd) (h : Agree x.slots fr fr') : opd fr x = opd fr' x := by
  cases x <;> first | rfl | exact h _ (by simp [Opd.slots])

theorem opds_congr {fr fr' : Fr} : ∀ (xs : List Opd), Agree (xs.flatMap Opd.slots) fr fr' → xs.map (opd fr) = xs.map (opd fr')
  | [], _ => rfl
  | x :: r, h => by
    simp only [List.flatMap_cons] at h
    rw [List.map_cons, List.map_cons, opd_congr x h.left, opds_congr r h.right]

theorem bound_congr {fr fr' : Fr} (x : Opd) (h : Agree x.slots fr fr') : bound x fr = bound x fr' := by
  unfold bound; rw [opd_congr x h]

theorem elim_congr {fr fr' : Fr} {d : Option Nat} (x : Option Opd) (h : Agree (x.elim [] Opd.slots) fr fr') : x.elim d (bound · fr) = x.elim d (bound · fr') := by
  cases x with
  | none => rfl
  | some x => exact bound_congr x h

theorem exec1_congr (E : Env) (base len : Nat) {fr fr' : Fr} (op : AOp) (h : Agree op.slots fr fr') : exec1 E base len fr op = exec1 E base len fr' op := by
  cases op with
  | mv x => simp only [exec1, opd_congr x h]
  | box k x => simp only [exec1, opd_congr x h]
  | load n x => simp only [exec1, opd_congr x h]
  | nilck x => simp only [exec1, opd_congr x h]
  | un op x => simp only [exec1, opd_congr x h]
  | conv k x => simp only [exec1, opd_congr x h]
  | faddr off x => simp only [exec1, opd_congr x h]
  | field off n x => simp only [exec1, opd_congr x h]
  | ext x i => simp only [exec1, opd_congr x h]
  | len x => simp only [exec1, opd_congr x h]
  | slen x => simp only [exec1, opd_congr x h]
  | mkiface t x => simp only [exec1, opd_congr x h]
  | alloc k z => rfl
  | lenc n => rfl
  | pick c x y => simp only [exec1, opd_congr c (Agree.left (Agree.left h)), opd_congr x (Agree.right (Agree.left h)), opd_congr y (Agree.right h)]
  | build z ps =>
    have : ps.map (fun (o, n, x) => (o, n, opd fr x)) = ps.map (fun (o, n, x) => (o, n, opd fr' x)) := by
      refine List.map_congr_left fun p hp => ?_
      obtain ⟨q, n, x⟩ := p
      exact congrArg (fun z => (q, n, z)) (opd_congr x fun i hi => h i (List.mem_flatMap.2 ⟨(q, n, x), hp, hi⟩))
    simp only [exec1, this]
  | lit md k n z len ps =>
    have : ps.map (fun (i, x) => (i * sz n, n, opd fr x)) = ps.map (fun (i, x) => (i * sz n, n, opd fr' x)) := by
      refine List.map_congr_left fun p hp => ?_
      obtain ⟨q, x⟩ := p
      exact congrArg (fun z => (q * sz n, n, z)) (opd_congr x fun i hi => h i (List.mem_flatMap.2 ⟨(q, x), hp, hi⟩))
    simp only [exec1, this]
  | store n x y => simp only [exec1, opd_congr x (Agree.left h), opd_congr y (Agree.right h)]
  | bin op kd x y => simp only [exec1, opd_congr x (Agree.left h), opd_congr y (Agree.right h)]
  | eqs neg ks x y => simp only [exec1, opd_congr x (Agree.left h), opd_congr y (Agree.right h)]
  | iaddr n arr x y => simp only [exec1, opd_congr x (Agree.left h), bound_congr y (Agree.right h)]
  | index n len x y => simp only [exec1, opd_congr x (Agree.left h), bound_congr y (Agree.right h)]
  | strix x y => simp only [exec1, opd_congr x (Agree.left h), bound_congr y (Agree.right h)]
  | app md k n sm x y => simp only [exec1, opd_congr x (Agree.left h), opd_congr y (Agree.right h)]
  | isnil neg x => simp only [exec1, opd_congr x h]
  | mkslice md k n z bytes x y => simp only [exec1, bound_congr x (Agree.left h), bound_congr y (Agree.right h)]
  | mkfn f xs => simp only [exec1, opds_congr xs h]
  | mm m xs => simp only [exec1, opds_congr xs h]
  | slice n arr x lo hi =>
    have e1 := opd_congr x (Agree.left (Agree.left h))
    have e2 : ∀ d, lo.elim d (bound · fr) = lo.elim d (bound · fr') := fun d => elim_congr lo (Agree.right (Agree.left h))
    have e3 : ∀ d, hi.elim d (bound · fr) = hi.elim d (bound · fr') := fun d => elim_congr hi (Agree.right h)
    simp only [exec1, e1, e2, e3]
  | call f xs =>
    have e1 := opd_congr f (Agree.left h)
    have e2 : xs.map (fun x => (opd fr x).strip) = xs.map (fun x => (opd fr' x).strip) := by
      have := opds_congr xs (Agree.right h)
      have h2 := congrArg (List.map V.strip) this
      simpa [List.map_map] using h2
    simp only [exec1, e1, e2]

theorem RM.run_congr {α : Type} {m m' : List Blk} : ∀ (x : RM α), (∀ b ∈ x.reads m, m'[b]? = m[b]?) → x.run m' = x.run m ∧ x.reads m' = x.reads m
  | .ret a, _ => ⟨rfl, rfl⟩
  | .fail, _ => ⟨rfl, rfl⟩
  | .rd b k, h => by
    simp only [RM.reads, RM.run] at h ⊢
    have hb := h b (by simp)
    rw [hb]
    obtain ⟨h1, h2⟩ := RM.run_congr (k m[b]?) fun c hc => h c (by simp [hc])
    exact ⟨h1, by rw [h2]⟩

theorem applyUps_set_comm : ∀ (u : List (Nat × Blk)) (m : List Blk) (i : Nat) (b : Blk), (∀ x ∈ u, x.1 ≠ i) → applyUps (m.set i b) u = (applyUps m u).set i b
  | [], _, _, _, _ => rfl
  | (j, c) :: r, m, i, b, h => by
    simp only [applyUps]
    have hji : j ≠ i := h (j, c) (by simp)
    rw [List.set_comm b c (Ne.symm hji), applyUps_set_comm r _ i b fun x hx => h x (by simp [hx])]

theorem applyUps_comm : ∀ (u v : List (Nat × Blk)) (m : List Blk), (∀ x ∈ u, ∀ y ∈ v, x.1 ≠ y.1) → applyUps (applyUps m u) v = applyUps (applyUps m v) u
  | [], _, _, _ => rfl
  | (i, b) :: r, v, m, h => by
    simp only [applyUps]
    rw [applyUps_comm r v _ fun x hx y hy => h x (by simp [hx]) y hy, applyUps_set_comm v m i b fun y hy => Ne.symm (h (i, b) (by simp) y hy)]

theorem meets_false {a b : List Nat} (h : meets a b = false) : ∀ x ∈ a, x ∉ b := fun x hx hb => by
  unfold meets at h
  rw [List.any_eq_false] at h
  exact h x hx (by simpa using hb)

structure Calm (f g : Foot) : Prop where
  ww : ∀ x ∈ f.ws, x ∉ g.ws
  wr : ∀ x ∈ f.ws, x ∉ g.rs
  rw : ∀ x ∈ f.rs, x ∉ g.ws
  bb : ∀ x ∈ f.wb, x ∉ g.wb
  br : ∀ x ∈ f.wb, x ∉ g.rb
  rb : ∀ x ∈ f.rb, x ∉ g.wb

theorem Foot.calm {f g : Foot} (h : f.clash g = false) : Calm f g := by
  simp only [Foot.clash, Bool.or_eq_false_iff] at h
  obtain ⟨⟨⟨⟨⟨h1, h2⟩, h3⟩, h4⟩, h5⟩, h6⟩ := h
  exact ⟨meets_false h1, meets_false h2, meets_false h3, meets_false h4, meets_false h5, meets_false h6⟩

/-- What a step does, told apart from where it does it. -/
structure StepIs (E : Env) (base : Nat) (o : AO) (st : St) (st' : St) (f : Foot) : Prop where
  ex : ∃ (x : V) (ups : List (Nat × Blk)), st' = ⟨putD st.fr o.dst x, applyUps st.mem ups⟩ ∧ f.ws = o.dst.elim [] (fun d => [d]) ∧ f.wb = ups.map (·.1) ∧
    ∀ st2 : St, st2.mem.length = st.mem.length → Agree f.rs st2.fr st.fr → (∀ b ∈ f.rb, st2.mem[b]? = st.mem[b]?) → stepD E base o st2 = some (⟨putD st2.fr o.dst x, applyUps st2.mem ups⟩, f)

theorem wants_congr {fr fr' : Fr} (g : Option (Nat × Bool)) (h : Agree (g.elim [] fun g => [g.1]) fr fr') : wants fr g = wants fr' g := by
  cases g with
  | none => rfl
  | some g => obtain ⟨d, w⟩ := g; simp only [wants]; rw [h d (by simp)]

theorem stepD_is {E : Env} {base : Nat} {o : AO} {st st' : St} {f : Foot} (h : stepD E base o st = some (st', f)) : StepIs E base o st st' f := by
  unfold stepD at h
  simp only at h
  split at h
  · rename_i hw
    split at h
    · rename_i r hr
      split at h
      · rename_i hc
        simp only [Option.some.injEq, Prod.mk.injEq] at h
        obtain ⟨rfl, rfl⟩ := h
        refine ⟨r.val, r.ups, rfl, rfl, rfl, fun st2 hl ha hb => ?_⟩
        have e1 : exec1 E base st.mem.length st2.fr o.op = exec1 E base st.mem.length st.fr o.op := exec1_congr E base _ o.op (Agree.right ha)
        obtain ⟨e2, e3⟩ := RM.run_congr (m := st.mem) (m' := st2.mem) (exec1 E base st.mem.length st.fr o.op) hb
        unfold stepD
        simp only [wants_congr o.guard (Agree.left ha), hw, hl, e1, e2, e3, hr, hc, if_true]
      · cases h
    · cases h
  · rename_i hw
    simp only [Option.some.injEq, Prod.mk.injEq] at h
    obtain ⟨rfl, rfl⟩ := h
    refine ⟨undefV, [], rfl, rfl, rfl, fun st2 hl ha hb => ?_⟩
    unfold stepD
    simp only [wants_congr o.guard ha, hw, applyUps]
  · cases h

theorem putD_other {fr : Fr} {d : Option Nat} {x : V} {i : Nat} (h : i ∉ (d.elim [] fun d => [d] : List Nat)) : (putD fr d x).get i = fr.get i := by
  cases d with
  | none => rfl
  | some d =>
    have : d ≠ i := fun e => h (by simp [e])
    simp [putD, Fr.get_put, this]

theorem putF_comm : ∀ (l : List (Nat × V)) (d e : Nat) (x y : V), d < e → putF (putF l d x) e y = putF (putF l e y) d x
  | [], d, e, x, y, h => by
    have h1 : ¬ e < d := by omega
    have h2 : ¬ e = d := by omega
    simp [putF, bif_blt, bif_beq, h, h1, h2]
  | (k, z) :: r, d, e, x, y, h => by
    have ih := putF_comm r d e x y h
    have h1 : ¬ e < d := by omega
    have h2 : ¬ e = d := by omega
    rcases Nat.lt_trichotomy d k with hd | hd | hd
    · rcases Nat.lt_trichotomy e k with he | he | he
      · simp [putF, bif_blt, bif_beq, h, h1, h2, hd, he]
      · subst he
        simp [putF, bif_blt, bif_beq, h, h1, h2]
      · have a1 : ¬ e < k := by omega
        have a2 : ¬ e = k := by omega
        simp [putF, bif_blt, bif_beq, h1, h2, hd, a1, a2]
    · subst hd
      simp [putF, bif_blt, bif_beq, h1, h2]
    · have a1 : ¬ e < k := by omega
      have a2 : ¬ e = k := by omega
      have a3 : ¬ d < k := by omega
      have a4 : ¬ d = k := by omega
      simp [putF, bif_blt, bif_beq, a1, a2, a3, a4, ih]

theorem put_comm' (fr : Fr) {d e : Nat} (x y : V) (h : d ≠ e) : (fr.put d x).put e y = (fr.put e y).put d x := by
  have key : ∀ {d e : Nat} {x y : V}, d < e → (fr.put d x).put e y = (fr.put e y).put d x := fun {d e x y} h => by
    unfold Fr.put
    simp only [bif_blt]
    by_cases h1 : d < fr.n <;> by_cases h2 : e < fr.n <;> simp [h1, h2, putF_comm _ _ _ _ _ h]
  rcases Nat.lt_or_gt_of_ne h with h | h
  · exact key h
  · exact (key h).symm

theorem putD_comm {fr : Fr} {d e : Option Nat} {x y : V} (h : ∀ i ∈ (d.elim [] fun d => [d] : List Nat), i ∉ (e.elim [] fun d => [d] : List Nat)) : putD (putD fr d x) e y = putD (putD fr e y) d x := by
  cases d with
  | none => rfl
  | some d =>
    cases e with
    | none => rfl
    | some e =>
      have : d ≠ e := fun he => h d (by simp) (by simp [he])
      simp only [putD]
      exact put_comm' fr _ _ this

theorem swap {E : Env} {base : Nat} {o1 o2 : AO} {st st1 st2 : St} {f1 f2 : Foot} (h1 : stepD E base o1 st = some (st1, f1)) (h2 : stepD E base o2 st1 = some (st2, f2)) (hc : f1.clash f2 = false) :
    ∃ st1', stepD E base o2 st = some (st1', f2) ∧ stepD E base o1 st1' = some (st2, f1) := by
  have c := Foot.calm hc
  obtain ⟨x1, u1, e1, w1, b1, k1⟩ := (stepD_is h1).ex
  obtain ⟨x2, u2, e2, w2, b2, k2⟩ := (stepD_is h2).ex
  subst e1 e2
  have hu : ∀ x ∈ u1, ∀ y ∈ u2, x.1 ≠ y.1 := fun x hx y hy e => c.bb x.1 (by rw [b1]; exact List.mem_map_of_mem hx) (by rw [b2, e]; exact List.mem_map_of_mem hy)
  refine ⟨⟨putD st.fr o2.dst x2, applyUps st.mem u2⟩, ?_, ?_⟩
  · refine k2 st (by simp [applyUps_length]) (fun i hi => (putD_other fun hd => ?_).symm) fun b hb => (applyUps_other u1 st.mem b fun u hu' e => ?_).symm
    · exact c.wr i (w1 ▸ hd) hi
    · exact c.br b (by rw [b1, ← e]; exact List.mem_map_of_mem hu') hb
  · rw [k1 _ (by simp [applyUps_length]) (fun i hi => putD_other fun hd => c.rw i hi (w2 ▸ hd)) (fun b hb => applyUps_other u2 st.mem b fun u hu' e => c.rb b hb (by rw [b2, ← e]; exact List.mem_map_of_mem hu'))]
    rw [applyUps_comm u1 u2 _ hu, putD_comm (d := o1.dst) (e := o2.dst) (fun i hi hi' => c.ww i (w1 ▸ hi) (w2 ▸ hi'))]

/-- A run of such operations, each with its place and what it reads and writes. -/
inductive RunT (E : Env) (base : Nat) : St → List (Nat × AO × Foot) → St → Prop
  | nil (st : St) : RunT E base st [] st
  | cons {st st1 st' : St} {i : Nat} {o : AO} {f : Foot} {T : List (Nat × AO × Foot)} (h : stepD E base o st = some (st1, f)) (k : RunT E base st1 T st') : RunT E base st ((i, o, f) :: T) st'

theorem RunT.front {E : Env} {base : Nat} {i : Nat} {o : AO} {f : Foot} {T2 : List (Nat × AO × Foot)} : ∀ {T1 : List (Nat × AO × Foot)} {st st' : St}, RunT E base st (T1 ++ (i, o, f) :: T2) st' → (∀ x ∈ T1, x.2.2.clash f = false) →
    ∃ st1, stepD E base o st = some (st1, f) ∧ RunT E base st1 (T1 ++ T2) st'
  | [], st, st', h, _ => by
    cases h with
    | cons h k => exact ⟨_, h, k⟩
  | (j, o1, f1) :: T1, st, st', h, hc => by
    cases h with
    | cons h k =>
      obtain ⟨st2, g1, g2⟩ := RunT.front k fun x hx => hc x (by simp [hx])
      obtain ⟨st1', q1, q2⟩ := swap h g1 (hc (j, o1, f1) (by simp))
      exact ⟨st1', q1, .cons q2 g2⟩

end Go.Am
