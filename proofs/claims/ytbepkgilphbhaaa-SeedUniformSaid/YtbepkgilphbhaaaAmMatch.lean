/- When an operation of the machine is one of Go's; then it does what Go's does. -/
import Derived.Test.YtbepkgilphbhaaaAmOps10
import Derived.Test.YtbepkgilphbhaaaAmOps11
namespace Go.Am
open Go

variable (N : Nm) (ly : Option Nat) (pr : Program)

def mPartsS (fs : Array Field) : List (Nat × Nat × Opd) → List (Nat × Operand) → Bool
  | [], [] => true
  | (off, n, x) :: r, (i, y) :: s => (match fs[i]? with
    | some f => f.offset == off && kindOk pr f.type n
    | none => false) && mOpd N x y && mPartsS fs r s
  | _, _ => false

def mPartsA (e : Nat) : List (Nat × Nat × Opd) → List (Nat × Operand) → Bool
  | [], [] => true
  | (off, n, x) :: r, (i, y) :: s => off == i * sz n && kindOk pr e n && mOpd N x y && mPartsA e r s
  | _, _ => false

def mBuild (T : Nat) (ps : List (Nat × Nat × Opd)) (qs : List (Nat × Operand)) : Bool :=
  match pr.underlying T with
  | some (.struct fs) => fs.toList.all (fun f => (pr.info? f.type).isSome) && mPartsS N pr fs ps qs
  | some (.array _ e) => (pr.info? e).isSome && mPartsA N pr e ps qs
  | _ => false

theorem mPartsS_get {fs : Array Field} : ∀ {ps : List (Nat × Nat × Opd)} {qs : List (Nat × Operand)}, mPartsS N pr fs ps qs = true → ps.length = qs.length ∧
    ∀ (j o n : Nat) (x : Opd) (i : Nat) (y : Operand), ps[j]? = some (o, n, x) → qs[j]? = some (i, y) → (∃ f, fs[i]? = some f ∧ f.offset = o ∧ kindOk pr f.type n = true) ∧ mOpd N x y = true
  | [], [], _ => ⟨rfl, fun j o n x i y h => by simp at h⟩
  | (off, n, x) :: r, (i, y) :: s, h => by
    simp only [mPartsS, Bool.and_eq_true] at h
    obtain ⟨⟨h1, h2⟩, h3⟩ := h
    obtain ⟨k1, k2⟩ := mPartsS_get h3
    refine ⟨by simp [k1], fun j o n' x' i' y' hj hj' => ?_⟩
    cases j with
    | zero =>
      simp only [List.getElem?_cons_zero, Option.some.injEq, Prod.mk.injEq] at hj hj'
      obtain ⟨rfl, rfl, rfl⟩ := hj
      obtain ⟨rfl, rfl⟩ := hj'
      refine ⟨?_, h2⟩
      split at h1
      · rename_i f hf
        simp only [Bool.and_eq_true, beq_iff_eq] at h1
        exact ⟨f, hf, h1.1, h1.2⟩
      · cases h1
    | succ j => exact k2 j o n' x' i' y' (by simpa using hj) (by simpa using hj')
  | [], _ :: _, h => by simp [mPartsS] at h
  | _ :: _, [], h => by simp [mPartsS] at h

theorem mPartsA_get {e : Nat} : ∀ {ps : List (Nat × Nat × Opd)} {qs : List (Nat × Operand)}, mPartsA N pr e ps qs = true → ps.length = qs.length ∧
    ∀ (j o n : Nat) (x : Opd) (i : Nat) (y : Operand), ps[j]? = some (o, n, x) → qs[j]? = some (i, y) → o = i * sz n ∧ kindOk pr e n = true ∧ mOpd N x y = true
  | [], [], _ => ⟨rfl, fun j o n x i y h => by simp at h⟩
  | (off, n, x) :: r, (i, y) :: s, h => by
    simp only [mPartsA, Bool.and_eq_true, beq_iff_eq] at h
    obtain ⟨⟨⟨h0, h1⟩, h2⟩, h3⟩ := h
    obtain ⟨k1, k2⟩ := mPartsA_get h3
    refine ⟨by simp [k1], fun j o n' x' i' y' hj hj' => ?_⟩
    cases j with
    | zero =>
      simp only [List.getElem?_cons_zero, Option.some.injEq, Prod.mk.injEq] at hj hj'
      obtain ⟨rfl, rfl, rfl⟩ := hj
      obtain ⟨rfl, rfl⟩ := hj'
      exact ⟨h0, h1, h2⟩
    | succ j => exact k2 j o n' x' i' y' (by simpa using hj) (by simpa using hj')
  | [], _ :: _, h => by simp [mPartsA] at h
  | _ :: _, [], h => by simp [mPartsA] at h

theorem places_some : ∀ {fs : List Field}, fs.all (fun f => (pr.info? f.type).isSome) = true → ∃ places, fs.mapM (fun f => (pr.info? f.type).map fun i => (f.offset, i.size)) = some places ∧
    ∀ (j : Nat) (f : Field) (i : TypeInfo), fs[j]? = some f → pr.info? f.type = some i → places[j]? = some (f.offset, i.size)
  | [], _ => ⟨[], by simp, fun j f i h => by simp at h⟩
  | f :: fs, h => by
    simp only [List.all_cons, Bool.and_eq_true] at h
    obtain ⟨places, h1, h2⟩ := places_some h.2
    obtain ⟨i, hi⟩ := Option.isSome_iff_exists.1 h.1
    refine ⟨(f.offset, i.size) :: places, ?_, fun j g i' hj hi' => ?_⟩
    · simp only [List.mapM_cons, Option.bind_eq_bind, Option.pure_def, hi, Option.map_some, Option.bind_some, h1]
    · cases j with
      | zero => simp at hj; subst hj; rw [hi] at hi'; cases hi'; simp
      | succ j => simpa using h2 j g i' (by simpa using hj) hi'

theorem build_ok {c : Cfg} (hg : Good N ly c) {fr : Fr} {a : Act} (hf : FRep N ly c fr a.tmps) {T base len : Nat} {z : List Zc} {ps : List (Nat × Nat × Opd)} {qs : Array (Nat × Operand)} (E : Env) {r : Res}
    (hz : zeroOk pr T z = true) (hm : mBuild N pr T ps qs.toList = true) (hr : (exec1 E base len fr (.build z ps)).run c.m = some r) :
    OpOk N ly pr c r (do let q ← Instr.build T (qs.map fun (i, x) => (i, a.eval x)); Pure.pure (Next.value q)) := by
  simp only [exec1] at hr
  split at hr
  · rename_i cs hcs
    simp only [RM.run, Option.some.injEq] at hr; subst hr
    obtain ⟨v, _, hze, it, hit, hiz⟩ := zeroOk.run pr hz
    obtain ⟨hzr, hzc⟩ := zsEq.rep N ly (H := c.H) (φ := c.φ) (m := c.m) hze
    have fin : ∀ {cells : Array Value}, pr.built T (qs.map fun (i, x) => (i, a.eval x)).toList = some cells → VReps N ly c.H c.φ c.m cs cells.toList → OpOk N ly pr c { val := .agg cs } (do let q ← Instr.build T (qs.map fun (i, x) => (i, a.eval x)); Pure.pure (Next.value q)) := fun {cells} h1 h2 =>
      OpOk.pure N ly pr hg (run_v pr (run_build (P := pr) c.w T _ cells h1)) (by simp only [VRep]; exact ⟨cells.toList, by simp, h2⟩)
    unfold mBuild at hm
    split at hm
    · rename_i fs hu
      simp only [Bool.and_eq_true] at hm
      obtain ⟨places, hp1, hp2⟩ := places_some pr hm.1
      obtain ⟨hl, hget⟩ := mPartsS_get N pr hm.2
      obtain ⟨cells, k1, k2, _⟩ := fill_rep N ly (place := (places.toArray[·]?)) (qs := (qs.map fun (i, x) => (i, a.eval x)).toList) hcs hzr hzc (by simpa using hl) (fun j o n x i v hj hv => by
        simp only [List.getElem?_map, Option.map_eq_some_iff, Array.toList_map] at hj hv
        obtain ⟨⟨o', n', x'⟩, hj, he⟩ := hj
        simp only [Prod.mk.injEq] at he
        obtain ⟨rfl, rfl, rfl⟩ := he
        obtain ⟨⟨i', y⟩, hq, he⟩ := hv
        simp only [Prod.mk.injEq] at he
        obtain ⟨rfl, rfl⟩ := he
        obtain ⟨⟨f, g1, g2, g3⟩, g4⟩ := hget j o' n' x' i' y hj hq
        obtain ⟨inf, q1, q2⟩ := kindOk.info pr g3
        refine ⟨?_, opd_rep N ly hf g4⟩
        have := hp2 i' f inf (by rw [Array.getElem?_toList]; exact g1) q1
        simpa [g2, q2] using this)
      refine fin (cells := cells) ?_ k2
      simp only [Program.built, hit, hu, hiz, hp1]
      exact k1
    · rename_i k e hu
      simp only [Bool.and_eq_true] at hm
      obtain ⟨ie, hie⟩ := Option.isSome_iff_exists.1 hm.1
      obtain ⟨hl, hget⟩ := mPartsA_get N pr hm.2
      obtain ⟨cells, k1, k2, _⟩ := fill_rep N ly (place := fun i => some (i * ie.size, ie.size)) (qs := (qs.map fun (i, x) => (i, a.eval x)).toList) hcs hzr hzc (by simpa using hl) (fun j o n x i v hj hv => by
        simp only [List.getElem?_map, Option.map_eq_some_iff, Array.toList_map] at hj hv
        obtain ⟨⟨o', n', x'⟩, hj, he⟩ := hj
        simp only [Prod.mk.injEq] at he
        obtain ⟨rfl, rfl, rfl⟩ := he
        obtain ⟨⟨i', y⟩, hq, he⟩ := hv
        simp only [Prod.mk.injEq] at he
        obtain ⟨rfl, rfl⟩ := he
        obtain ⟨rfl, g3, g4⟩ := hget j o' n' x' i' y hj hq
        obtain ⟨inf, q1, q2⟩ := kindOk.info pr g3
        rw [hie] at q1; cases q1
        exact ⟨by rw [q2], opd_rep N ly hf g4⟩)
      refine fin (cells := cells) ?_ k2
      simp only [Program.built, hit, hu, hiz, hie]
      exact k1
    · cases hm
  · simp [RM.run] at hr

def mPairs : List (Nat × Opd) → List (Nat × Operand) → Bool
  | [], [] => true
  | (i, x) :: r, (j, y) :: s => i == j && mOpd N x y && mPairs r s
  | _, _ => false

theorem mPairs_get : ∀ {ps : List (Nat × Opd)} {qs : List (Nat × Operand)}, mPairs N ps qs = true → ps.length = qs.length ∧
    ∀ (j i : Nat) (x : Opd) (i' : Nat) (y : Operand), ps[j]? = some (i, x) → qs[j]? = some (i', y) → i' = i ∧ mOpd N x y = true
  | [], [], _ => ⟨rfl, fun j i x i' y h => by simp at h⟩
  | (i, x) :: r, (k, y) :: s, h => by
    simp only [mPairs, Bool.and_eq_true, beq_iff_eq] at h
    obtain ⟨⟨h0, h1⟩, h3⟩ := h
    obtain ⟨k1, k2⟩ := mPairs_get h3
    refine ⟨by simp [k1], fun j i' x' i'' y' hj hj' => ?_⟩
    cases j with
    | zero =>
      simp only [List.getElem?_cons_zero, Option.some.injEq, Prod.mk.injEq] at hj hj'
      obtain ⟨rfl, rfl⟩ := hj
      obtain ⟨rfl, rfl⟩ := hj'
      exact ⟨h0.symm, h1⟩
    | succ j => exact k2 j i' x' i'' y' (by simpa using hj) (by simpa using hj')
  | [], _ :: _, h => by simp [mPairs] at h
  | _ :: _, [], h => by simp [mPairs] at h

/-- The element type of a slice type, its kind and its zero. -/
def mElem (T n : Nat) (z : List Zc) : Bool :=
  match pr.underlying T with
  | some (.slice e) => kindOk pr e n && zeroOk pr e z && z.length == sz n
  | _ => false

def mAppT (T n : Nat) : Bool :=
  match pr.underlying T with
  | some (.slice e) => kindOk pr e n && (match pr.info? e with
    | some i => (match i.zero with
      | some z => z.cells.size == sz n && i.bytes ≤ 65536
      | none => false)
    | none => false)
  | _ => false

theorem mAppT_ok {T n : Nat} (h : mAppT pr T n = true) : ∃ e, AppT pr T e n := by
  unfold mAppT at h
  split at h
  · rename_i e hu
    simp only [Bool.and_eq_true] at h
    obtain ⟨hk, h⟩ := h
    obtain ⟨i, hi, hs⟩ := kindOk.info pr hk
    rw [hi] at h
    simp only at h
    cases hz : i.zero with
    | none => simp [hz] at h
    | some z =>
      simp only [hz, Bool.and_eq_true, beq_iff_eq, decide_eq_true_eq] at h
      exact ⟨e, hu, i, z, hi, hz, hs, h.1, h.2⟩
  · cases h

def mOp (a : AOp) (o : Op) : Bool :=
  match a, o with
  | .mv x, .move y => mOpd N x y
  | .mv x, .assign y => mOpd N x y
  | .pick c a b, .pick c' a' b' => mOpd N c c' && mOpd N a a' && mOpd N b b'
  | .alloc _ z, .alloc T => zeroOk pr T z
  | .box _ x, .box _ y => mOpd N x y
  | .build z ps, .build T qs => zeroOk pr T z && mBuild N pr T ps qs.toList
  | .lit _ _ n z len ps, .buildSlice T len' qs => mElem pr T n z && len == len' && len * sz n ≤ 16777216 && mPairs N ps qs.toList
  | .load n x, .load T y => kindOk pr T n && mOpd N x y
  | .store n x y, .store T x' y' => kindOk pr T n && mOpd N x x' && mOpd N y y'
  | .nilck x, .nilCheck y => mOpd N x y
  | .bin op kd x y, .binOp op' T x' y' _ => op == op' && kindCode pr T kd && mOpd N x x' && mOpd N y y'
  | .eqs neg ks x y, .binOp op T x' y' _ => op == (if neg then .neq else .eql) && mEqs pr T ks && mOpd N x x' && mOpd N y y'
  | .un op x, .unOp op' _ y => op == op' && mOpd N x y
  | .conv k x, .convert src dst y => (pr.underlying src).isSome && pr.underlying dst matches some (.int _) && (match pr.underlying dst with | some (.int k') => k == k' | _ => false) && mOpd N x y
  | .mkfn f caps, .makeFunc (.func g) first caps' => N.num f == g && first.isEmpty && mOpds N caps caps'.toList
  | .mkslice _ _ n z bytes l c, .makeSlice T l' c' => mElem pr T n z && (match pr.underlying T with
    | some (.slice e) => (match pr.info? e with | some i => i.bytes == bytes | none => false)
    | _ => false) && mOpd N l l' && mOpd N c c'
  | .slice n arr x lo hi, .slice T y lo' hi' none => mSlice pr T n arr && mOpd N x y && mOpt N lo lo' && mOpt N hi hi'
  | .faddr off x, .fieldAddr T y f => mFaddr pr T off f && mOpd N x y
  | .field off n x, .field T y f => (match mField pr T off f with | some t => kindOk pr t n | none => false) && mOpd N x y
  | .iaddr n arr x i, .indexAddr T y j => mSlice pr T n arr && mOpd N x y && mOpd N i j
  | .index n len x i, .index T y j => (match pr.underlying T with | some (.array ln e) => ln == len && kindOk pr e n | _ => false) && mOpd N x y && mOpd N i j
  | .strix x i, .index T y j => (pr.underlying T matches some .string) && mOpd N x y && mOpd N i j
  | .ext x i, .extract y j => i == j && mOpd N x y
  | .len x, .call ⟨.builtin .len, args, ts⟩ => (match args.toList, ts.toList with
    | [y], [T] => mOpd N x y && (match pr.underlying T with | some (.slice _) => true | _ => false)
    | _, _ => false)
  | .slen x, .call ⟨.builtin .len, args, ts⟩ => (match args.toList, ts.toList with
    | [y], [T] => mOpd N x y && (match pr.underlying T with | some .string => true | _ => false)
    | _, _ => false)
  | .lenc n, .call ⟨.builtin .len, args, ts⟩ => (match args.toList, ts.toList with
    | [_], [T] => (match pr.underlying T with
      | some (.array k _) => k == n
      | some (.pointer t) => (match pr.underlying t with | some (.array k _) => k == n | _ => false)
      | _ => false)
    | _, _ => false)
  | .app md _ n x y, .call ⟨.builtin .append, args, ts⟩ => (md == .grow || md == .own) && (match args.toList, ts.toList with
    | [x', y'], [T, T'] => T == T' && mAppT pr T n && mOpd N x x' && mOpd N y y'
    | _, _ => false)
  | .mm isMax xs, .call ⟨.builtin b, args, _⟩ => b == (if isMax then .max else .min) && mOpds N xs args.toList
  | _, _ => false

theorem OpOk.congr {c : Cfg} {r : Res} {s s' : Sem Next} (h : s.run pr c.w = s'.run pr c.w) (k : OpOk N ly pr c r s) : OpOk N ly pr c r s' := by
  obtain ⟨v, c', h1, h2⟩ := k
  exact ⟨v, c', by rw [← h]; exact h1, h2⟩

theorem arr_one {α : Type} {x : Array α} {y : α} (h : x.toList = [y]) : x = #[y] := by rw [← Array.toArray_toList (xs := x), h]
theorem arr_two {α : Type} {x : Array α} {y z : α} (h : x.toList = [y, z]) : x = #[y, z] := by rw [← Array.toArray_toList (xs := x), h]

theorem exec_ok {c : Cfg} (hg : Good N ly c) {fr : Fr} {a : Act} (hf : FRep N ly c fr a.tmps) (E : Env) (base len : Nat) {x : AOp} {op : Op} {o : Oper} (ho : o.op = op) {r : Res} (hm : mOp N pr x op = true) (hr : (exec1 E base len fr x).run c.m = some r) :
    OpOk N ly pr c r (execOp a.eval o) := by
  have ret : ∀ {y : V}, exec1 E base len fr x = .ret { val := y } → r = { val := y } := fun {y} h => by rw [h] at hr; simpa [RM.run] using hr.symm
  unfold mOp at hm
  split at hm
  · -- mv
    have := ret rfl; subst this
    simp only [execOp, ho]
    exact OpOk.pure N ly pr hg (by simp) (opd_rep N ly hf hm)
  · have := ret rfl; subst this
    simp only [execOp, ho]
    exact OpOk.pure N ly pr hg (by simp) (opd_rep N ly hf hm)
  · -- pick
    simp only [Bool.and_eq_true] at hm
    obtain ⟨⟨h1, h2⟩, h3⟩ := hm
    simp only [exec1] at hr
    split at hr
    · rename_i b hb
      simp only [RM.run, Option.some.injEq] at hr; subst hr
      have hv := opd_rep N ly hf h1
      rw [hb] at hv
      simp only [VRep, Rep] at hv
      simp only [execOp, ho, hv]
      cases b
      · exact OpOk.pure N ly pr hg (by simp [asBool]) (opd_rep N ly hf h3)
      · exact OpOk.pure N ly pr hg (by simp [asBool]) (opd_rep N ly hf h2)
    · simp [RM.run] at hr
  · -- alloc
    simp only [exec1] at hr
    obtain ⟨hh, rfl⟩ := run_atHole hr
    simp only [execOp, ho]
    exact alloc_ok N ly pr hg hh hm
  · -- box
    simp only [exec1] at hr
    split at hr
    · rename_i cs hcs
      obtain ⟨hh, rfl⟩ := run_atHole hr
      simp only [execOp, ho]
      exact box_ok N ly pr hg hh hcs (opd_rep N ly hf hm)
    · simp [RM.run] at hr
  · -- build
    simp only [Bool.and_eq_true] at hm
    simp only [execOp, ho]
    exact build_ok N ly pr hg hf E hm.1 hm.2 hr
  · -- lit
    rename_i md k n z ln ps T len' qs
    simp only [Bool.and_eq_true, beq_iff_eq, decide_eq_true_eq] at hm
    obtain ⟨⟨⟨h1, rfl⟩, h3⟩, h4⟩ := hm
    unfold mElem at h1
    split at h1
    · rename_i e hu
      simp only [Bool.and_eq_true, beq_iff_eq] at h1
      obtain ⟨⟨g1, g2⟩, g3⟩ := h1
      obtain ⟨hl, hget⟩ := mPairs_get N h4
      simp only [exec1] at hr
      split at hr
      · rename_i cs hcs
        simp only [execOp, ho]
        refine lit_ok N ly pr hg (ps := ps.map fun (i, x) => (i, opd fr x)) hu g1 g2 g3 h3 (by simpa [List.map_map, Function.comp_def] using hcs) (by simpa using hl) (fun j i x i' v hj hv => ?_) md (base + k) r hr
        simp only [List.getElem?_map, Option.map_eq_some_iff, Array.getElem?_map] at hj hv
        obtain ⟨⟨i1, x1⟩, hj, he⟩ := hj
        simp only [Prod.mk.injEq] at he
        obtain ⟨rfl, rfl⟩ := he
        obtain ⟨⟨i2, y2⟩, hq, he⟩ := hv
        simp only [Prod.mk.injEq] at he
        obtain ⟨rfl, rfl⟩ := he
        obtain ⟨q1, q2⟩ := hget j i1 x1 i2 y2 hj (by rw [Array.getElem?_toList]; exact hq)
        exact ⟨q1, opd_rep N ly hf q2⟩
      · simp [RM.run] at hr
    · cases h1
  · -- load
    rename_i n x T y
    simp only [Bool.and_eq_true] at hm
    have hv := opd_rep N ly hf hm.2
    simp only [execOp, ho]
    simp only [exec1] at hr
    split at hr
    · rename_i b off hx
      rw [hx] at hv
      rw [RM.run_bind] at hr
      cases hc : (getC b).run c.m with
      | none => rw [hc] at hr; simp at hr
      | some cs =>
        rw [hc] at hr
        simp only [Option.bind_some] at hr
        have hb := run_getC_some hc
        have : ∃ z, (if n = 0 then cs[off]? else if off + n ≤ cs.length then some (.agg ((cs.drop off).take n)) else none) = some z ∧ r = { val := z } := by
          split at hr
          · rename_i hn
            obtain ⟨q, hq, rfl⟩ := lift_some hr
            exact ⟨q, by rw [if_pos hn]; exact hq, rfl⟩
          · rename_i hn
            split at hr
            · rename_i hle
              simp only [RM.run, Option.some.injEq] at hr; subst hr
              exact ⟨_, by rw [if_neg hn, if_pos hle], rfl⟩
            · simp [RM.run] at hr
        obtain ⟨z, hz, rfl⟩ := this
        obtain ⟨u, k1, k2⟩ := load_own N ly pr hg hm.1 hv hb hz
        exact OpOk.pure N ly pr hg (run_v pr k1) k2
    · rename_i ps hx
      rw [hx] at hv
      simp only [VRep] at hv
      have : ∃ z, (if n = 0 then ps.head?.map V.p else if n ≤ ps.length then some (.p (.agg (ps.take n))) else none) = some z ∧ r = { val := z } := by
        split at hr
        · rename_i hn
          obtain ⟨q, hq, rfl⟩ := lift_some hr
          exact ⟨.p q, by rw [if_pos hn, hq]; rfl, rfl⟩
        · rename_i hn
          split at hr
          · rename_i hle
            simp only [RM.run, Option.some.injEq] at hr; subst hr
            exact ⟨_, by rw [if_neg hn, if_pos hle], rfl⟩
          · simp [RM.run] at hr
      obtain ⟨z, hz, rfl⟩ := this
      obtain ⟨u, k1, k2⟩ := load_data N ly pr hg hm.1 hv hz
      exact OpOk.pure N ly pr hg (run_v pr k1) k2
    · simp [RM.run] at hr
  · -- store
    rename_i n x y T x' y'
    simp only [Bool.and_eq_true] at hm
    obtain ⟨⟨h1, h2⟩, h3⟩ := hm
    have hv := opd_rep N ly hf h2
    have hw := opd_rep N ly hf h3
    simp only [execOp, ho]
    simp only [exec1] at hr
    split at hr
    · rename_i b off vs hx hvs
      rw [hx] at hv
      rw [RM.run_bind] at hr
      cases hc : (getC b).run c.m with
      | none => rw [hc] at hr; simp at hr
      | some cs =>
        rw [hc] at hr
        simp only [Option.bind_some] at hr
        split at hr
        · rename_i hle
          simp only [RM.run, Option.some.injEq] at hr; subst hr
          obtain ⟨c', k0, k1, k2, k3, k4⟩ := store_own N ly pr hg h1 hv (run_getC_some hc) hvs hw hle.1 hle.2
          exact ⟨undef, c', .inr ⟨run_u pr k0, rfl⟩, by rw [applyUps_one]; exact k1, k2, k3, k4, by simp only [undefV, undefP, VRep, Rep]; rfl⟩
        · simp [RM.run] at hr
    · simp [RM.run] at hr
  · -- nilck
    rename_i x y
    have hv := opd_rep N ly hf hm
    simp only [exec1] at hr
    have same : ∀ {z : V} {v : Value}, VRep N ly c.H c.φ c.m z v → a.eval y = v → (execOp a.eval o).run pr c.w = .ok (.value v) c.w → OpOk N ly pr c { val := z } (execOp a.eval o) := fun h1 _ h3 => OpOk.pure N ly pr hg h3 h1
    split at hr
    · rename_i b off hx
      simp only [RM.run, Option.some.injEq] at hr; subst hr
      rw [hx] at hv
      have hv' := hv
      simp only [VRep] at hv'
      obtain ⟨R, s, _, _, he⟩ := hv'
      exact same hv rfl (by simp only [execOp, ho, he]; simp)
    · rename_i ps hx
      simp only [RM.run, Option.some.injEq] at hr; subst hr
      rw [hx] at hv
      have hv' := hv
      simp only [VRep, Rep] at hv'
      obtain ⟨b, off, he, _⟩ := hv'
      exact same hv rfl (by simp only [execOp, ho, he]; simp)
    · rename_i f caps hx
      simp only [RM.run, Option.some.injEq] at hr; subst hr
      rw [hx] at hv
      have hv' := hv
      simp only [VRep, Rep] at hv'
      obtain ⟨cs, he, _⟩ := hv'
      exact same hv rfl (by simp only [execOp, ho, he]; simp)
    · rename_i f caps hx
      simp only [RM.run, Option.some.injEq] at hr; subst hr
      rw [hx] at hv
      have hv' := hv
      simp only [VRep] at hv'
      obtain ⟨cs, he, _⟩ := hv'
      exact same hv rfl (by simp only [execOp, ho, he]; simp)
    · rename_i hx
      simp only [RM.run, Option.some.injEq] at hr; subst hr
      rw [hx] at hv
      have hv' := hv
      simp only [VRep] at hv'
      obtain ⟨l, _, he⟩ := hv'
      exact same hv rfl (by simp only [execOp, ho, he]; simp)
    · simp [RM.run] at hr
  · -- bin
    rename_i op kd x y op' T x' y' _
    simp only [Bool.and_eq_true, beq_iff_eq] at hm
    obtain ⟨⟨⟨rfl, h2⟩, h3⟩, h4⟩ := hm
    simp only [execOp, ho]
    exact bin_ok N ly pr hg hf E h2 h3 h4 hr
  · -- eqs
    rename_i neg ks x y op T x' y' _
    simp only [Bool.and_eq_true, beq_iff_eq] at hm
    obtain ⟨⟨⟨h1, h2⟩, h3⟩, h4⟩ := hm
    simp only [execOp, ho]
    exact eqs_ok N ly pr hg hf E h1 h2 h3 h4 hr
  · -- un
    rename_i op x op' _ y
    simp only [Bool.and_eq_true, beq_iff_eq] at hm
    obtain ⟨rfl, h2⟩ := hm
    have hv := opd_rep N ly hf h2
    simp only [exec1] at hr
    split at hr
    · rename_i u hu
      obtain ⟨q, hq, rfl⟩ := lift_some hr
      rw [hu] at hv
      simp only [VRep, Rep] at hv
      simp only [execOp, ho, hv]
      exact OpOk.pure N ly pr hg (run_v pr (unV_run pr hq c.w)) (by simp only [VRep, Rep])
    · simp [RM.run] at hr
  · -- conv
    rename_i k x src dst y
    simp only [Bool.and_eq_true] at hm
    obtain ⟨⟨⟨h1, _⟩, h2⟩, h3⟩ := hm
    have hv := opd_rep N ly hf h3
    obtain ⟨d, hd⟩ := Option.isSome_iff_exists.1 h1
    have hk : pr.underlying dst = some (.int k) := by
      split at h2
      · rename_i k' hk'; simp at h2; subst h2; exact hk'
      · cases h2
    simp only [exec1] at hr
    split at hr
    · rename_i k' n hu
      simp only [RM.run, Option.some.injEq] at hr; subst hr
      rw [hu] at hv
      simp only [VRep, Rep] at hv
      simp only [execOp, ho, hv]
      refine OpOk.pure N ly pr hg (run_v pr (v := .int k (k.wrap n)) ?_) (by simp only [VRep, Rep])
      cases d <;> simp [convert, Sem.run_bind, run_underlying hd, run_underlying hk, Conv.intToInt]
    · simp [RM.run] at hr
  · -- mkfn
    rename_i f caps g first caps'
    simp only [Bool.and_eq_true, beq_iff_eq] at hm
    obtain ⟨⟨rfl, h1⟩, h2⟩ := hm
    have := ret rfl; subst this
    have hfirst : first = #[] := by simpa using h1
    subst hfirst
    simp only [execOp, ho]
    have hr := opds_rep N ly hf h2
    refine OpOk.pure N ly pr hg (run_v pr (v := .func (.func (N.num f)) #[] (caps'.map a.eval)) (by simp [Instr.makeFunc])) ?_
    simp only [VRep]
    exact ⟨caps'.toList.map a.eval, by congr 1; exact Array.ext' (by simp), hr⟩
  · -- mkslice
    rename_i md k n z bytes l cp T l' c'
    simp only [Bool.and_eq_true] at hm
    obtain ⟨⟨⟨h1, h2⟩, h3⟩, h4⟩ := hm
    unfold mElem at h1
    split at h1
    · rename_i e hu
      simp only [Bool.and_eq_true, beq_iff_eq] at h1
      obtain ⟨⟨g1, g2⟩, g3⟩ := h1
      rw [hu] at h2
      simp only at h2
      split at h2
      · rename_i info hinfo
        simp only [beq_iff_eq] at h2
        simp only [exec1] at hr
        split at hr
        · rename_i l0 c0 hl hc0
          split at hr
          · rename_i hcond
            obtain ⟨kl, hl'⟩ := bound_rep N ly hl (opd_rep N ly hf h3)
            obtain ⟨kc, hc'⟩ := bound_rep N ly hc0 (opd_rep N ly hf h4)
            simp only [execOp, ho, hl', hc']
            exact make_ok N ly pr hg hu g1 g2 g3 hinfo h2 hcond.1 hcond.2.1 hcond.2.2 md kl kc r hr
          · simp [RM.run] at hr
        · simp [RM.run] at hr
      · cases h2
    · cases h1
  · -- slice
    simp only [Bool.and_eq_true] at hm
    obtain ⟨⟨⟨h1, h2⟩, h3⟩, h4⟩ := hm
    simp only [execOp, ho]
    exact slice_ok N ly pr hg hf E h1 h2 h3 h4 hr
  · -- faddr
    simp only [Bool.and_eq_true] at hm
    simp only [execOp, ho]
    exact faddr_ok N ly pr hg hf E hm.1 hm.2 hr
  · -- field
    simp only [Bool.and_eq_true] at hm
    obtain ⟨h1, h2⟩ := hm
    split at h1
    · rename_i t ht
      simp only [execOp, ho]
      exact field_ok N ly pr hg hf E ht h1 h2 hr
    · cases h1
  · -- iaddr
    simp only [Bool.and_eq_true] at hm
    obtain ⟨⟨h1, h2⟩, h3⟩ := hm
    simp only [execOp, ho]
    exact iaddr_ok N ly pr hg hf E h1 h2 h3 hr
  · -- index
    simp only [Bool.and_eq_true] at hm
    obtain ⟨⟨h1, h2⟩, h3⟩ := hm
    split at h1
    · rename_i ln e hu
      simp only [Bool.and_eq_true, beq_iff_eq] at h1
      obtain ⟨rfl, h1⟩ := h1
      simp only [execOp, ho]
      exact index_ok N ly pr hg hf E hu h1 h2 h3 hr
    · cases h1
  · -- strix
    rename_i x i T y j
    simp only [Bool.and_eq_true] at hm
    obtain ⟨⟨h1, h2⟩, h3⟩ := hm
    have hu : pr.underlying T = some .string := by
      split at h1
      · assumption
      · cases h1
    have hv := opd_rep N ly hf h2
    simp only [exec1] at hr
    split at hr
    · rename_i k s hb hx
      obtain ⟨q, hq, rfl⟩ := lift_some hr
      obtain ⟨kd, hk⟩ := bound_rep N ly hb (opd_rep N ly hf h3)
      rw [hx] at hv
      simp only [VRep, Rep] at hv
      simp only [execOp, ho, hv, hk]
      refine OpOk.pure N ly pr hg (run_v pr (v := .int .u8 q.toNat) ?_) (by simp only [VRep, Rep])
      simp [Instr.index, Sem.run_bind, asIntOf, run_underlying hu, hq]
    · simp [RM.run] at hr
  · -- ext
    rename_i x i y j
    simp only [Bool.and_eq_true, beq_iff_eq] at hm
    obtain ⟨rfl, h2⟩ := hm
    have hv := opd_rep N ly hf h2
    simp only [exec1] at hr
    split at hr
    · rename_i xs hx
      obtain ⟨q, hq, rfl⟩ := lift_some hr
      rw [hx] at hv
      simp only [VRep] at hv
      obtain ⟨vs, he, hvs⟩ := hv
      obtain ⟨u, k1, k2⟩ := VReps.get N ly hvs i q hq
      simp only [execOp, ho, he]
      exact OpOk.pure N ly pr hg (run_v pr (by simp [Instr.extract, k1])) k2
    · rename_i xs hx
      obtain ⟨q, hq, rfl⟩ := lift_some hr
      rw [hx] at hv
      simp only [VRep, Rep] at hv
      obtain ⟨vs, he, hvs⟩ := hv
      obtain ⟨u, k1, k2⟩ := Reps.get N hvs i q hq
      simp only [execOp, ho, he]
      exact OpOk.pure N ly pr hg (run_v pr (v := u) (by simp [Instr.extract, k1])) (by simpa only [VRep] using k2)
    · simp [RM.run] at hr
  · -- len
    rename_i x args ts
    split at hm
    · rename_i y T hargs hts
      simp only [Bool.and_eq_true] at hm
      obtain ⟨h1, h2⟩ := hm
      have hv := opd_rep N ly hf h1
      have ha := arr_one hargs
      have ht := arr_one hts
      subst ha ht
      have hu : ∃ e, pr.underlying T = some (.slice e) := by
        split at h2
        · exact ⟨_, by assumption⟩
        · cases h2
      obtain ⟨e, hu⟩ := hu
      have fin : ∀ (A : Option Addr) (n cp : Nat), a.eval y = .slice A n cp → OpOk N ly pr c { val := i64 n } (execOp a.eval o) := fun A n cp he => by
        refine OpOk.pure N ly pr hg (v := .int .i64 n) ?_ (by simp only [i64, VRep, Rep])
        simp [execOp, ho, resolve, invoke, builtin, he, Builtin.len_, run_underlying hu, goInt]
      simp only [exec1] at hr
      split at hr
      · rename_i n' es hx
        simp only [RM.run, Option.some.injEq] at hr; subst hr
        rw [hx] at hv
        simp only [VRep, Rep] at hv
        obtain ⟨A, cp, ⟨he, _⟩, _⟩ := hv
        exact fin A _ cp he
      · rename_i n' t es hx
        simp only [RM.run, Option.some.injEq] at hr; subst hr
        rw [hx] at hv
        simp only [VRep, Rep] at hv
        obtain ⟨⟨A, cp, ⟨he, _⟩, _⟩, _⟩ := hv
        exact fin A _ cp he
      · rename_i n' hx
        simp only [RM.run, Option.some.injEq] at hr; subst hr
        rw [hx] at hv
        simp only [VRep] at hv
        obtain ⟨A, he⟩ := hv
        exact fin A 0 0 he
      · rename_i n' b off l hx
        simp only [RM.run, Option.some.injEq] at hr; subst hr
        rw [hx] at hv
        simp only [VRep] at hv
        rcases hv with ⟨rfl, A, he⟩ | ⟨R, s, cp, _, _, he, _⟩
        · exact fin A 0 0 he
        · exact fin _ l cp he
      · simp [RM.run] at hr
    · cases hm
  · -- slen
    rename_i x args ts
    split at hm
    · rename_i y T hargs hts
      simp only [Bool.and_eq_true] at hm
      obtain ⟨h1, h2⟩ := hm
      have hv := opd_rep N ly hf h1
      have ha := arr_one hargs
      have ht := arr_one hts
      subst ha ht
      have hu : pr.underlying T = some .string := by
        split at h2
        · assumption
        · cases h2
      simp only [exec1] at hr
      split at hr
      · rename_i s hx
        simp only [RM.run, Option.some.injEq] at hr; subst hr
        rw [hx] at hv
        simp only [VRep, Rep] at hv
        refine OpOk.pure N ly pr hg (v := .int .i64 s.size) ?_ (by simp only [i64, VRep, Rep])
        simp [execOp, ho, resolve, invoke, builtin, hv, Builtin.len_, run_underlying hu, goInt]
      · simp [RM.run] at hr
    · cases hm
  · -- lenc
    rename_i n args ts
    split at hm
    · rename_i y T hargs hts
      have ha := arr_one hargs
      have ht := arr_one hts
      subst ha ht
      have := ret rfl; subst this
      refine OpOk.pure N ly pr hg (v := .int .i64 n) ?_ (by simp only [i64, VRep, Rep])
      split at hm
      · rename_i k e hu
        simp at hm; subst hm
        simp [execOp, ho, resolve, invoke, builtin, Builtin.len_, run_underlying hu, goInt]
      · rename_i t hu
        split at hm
        · rename_i k e hu'
          simp at hm; subst hm
          simp [execOp, ho, resolve, invoke, builtin, Builtin.len_, run_underlying hu, run_underlying hu', goInt]
        · cases hm
      · cases hm
    · cases hm
  · -- app
    rename_i md k n x y args ts
    simp only [Bool.and_eq_true, Bool.or_eq_true, beq_iff_eq] at hm
    obtain ⟨hmd, hm⟩ := hm
    split at hm
    · rename_i x' y' T T' hargs hts
      simp only [Bool.and_eq_true, beq_iff_eq] at hm
      obtain ⟨⟨⟨rfl, h2⟩, h3⟩, h4⟩ := hm
      obtain ⟨e, hT⟩ := mAppT_ok pr h2
      have ha := arr_two hargs
      have ht := arr_two hts
      subst ha ht
      rcases hmd with rfl | rfl
      · refine OpOk.congr N ly pr ?_ (app_grow_ok N ly pr hg (i := base + k) (ty := o.type) (r := r) (y := opd fr y) hT ?_ (opd_rep N ly hf h3) (opd_rep N ly hf h4))
        · simp [execOp, ho, resolve, invoke, builtin]
        · simp only [exec1] at hr
          cases hX : opd fr x <;> rw [hX] at hr <;> exact hr
      · refine OpOk.congr N ly pr ?_ (app_own_ok N ly pr hg (i := base + k) (ty := o.type) (r := r) (y := opd fr y) hT ?_ (opd_rep N ly hf h3) (opd_rep N ly hf h4))
        · simp [execOp, ho, resolve, invoke, builtin]
        · simp only [exec1] at hr
          cases hX : opd fr x <;> rw [hX] at hr <;> exact hr
    · cases hm
  · -- max, min
    rename_i isMax xs b args _
    simp only [Bool.and_eq_true, beq_iff_eq] at hm
    obtain ⟨rfl, h2⟩ := hm
    have hvs := opds_rep N ly hf h2
    simp only [exec1] at hr
    split at hr
    · rename_i x r' hx
      obtain ⟨q, hq, rfl⟩ := lift_some hr
      rw [hx] at hvs
      simp only [VReps] at hvs
      obtain ⟨v, s, hl, hv, hs⟩ := hvs
      obtain ⟨u, k1, k2⟩ := mm_run N ly pr hq hv hs
      refine OpOk.pure N ly pr hg (v := u) ?_ k2
      cases isMax
      · simp [execOp, ho, resolve, invoke, builtin, Builtin.min_, hl] at k1 ⊢
        simp [k1]
      · simp [execOp, ho, resolve, invoke, builtin, Builtin.max_, hl] at k1 ⊢
        simp [k1]
    · simp [RM.run] at hr
  · cases hm

end Go.Am
