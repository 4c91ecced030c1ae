/- Functions, and the whole evaluator. -/
import Derived.Test.YtbepkgilphbhaaaAmCode3
namespace Go.Am
open Go

variable (N : Nm) (pr : Program)

def mRes : ARes → ResultVar → Bool
  | .tmp i, .tmp t => i == t
  | .cell i n, .cell a t => i == a && kindOk pr t n
  | _, _ => false

def mRess : List ARes → List ResultVar → Bool
  | [], [] => true
  | x :: r, y :: l => mRes pr x y && mRess r l
  | _, _ => false

def mFn (af : AFn) (fn : Func) : Bool :=
  af.nt == fn.ntmps && mRess pr af.res fn.results.toList && !(fn.name == "runtime.NumGoroutine") && (match fn.body with | some c => mCode N pr af.code c | none => false)

def resG (tmps : Array Value) : ResultVar → Sem Value
  | .tmp t => Pure.pure (tmps.getD t undef)
  | .cell a t => do loadVar t (← asAddr (tmps.getD a undef))

theorem loadAt_var {T : Nat} {v : Value} {w : World} {u : Value} (h : (Instr.loadAt T v).run pr w = .ok u w) : (do loadVar T (← asAddr v) : Sem Value).run pr w = .ok u w := by
  cases v with
  | pointer a =>
    cases a with
    | none => simp [Instr.loadAt, Instr.sureAddr, Sem.run_bind] at h
    | some a =>
      simp only [Instr.loadAt, Instr.sureAddr, asAddr, pure_bind] at h ⊢
      exact h
  | _ => simp [Instr.loadAt, Instr.sureAddr, Sem.run_bind] at h

theorem res_ok {ly : Option Nat} {c : Cfg} (hg : Good N ly c) {st : St} (hm : c.m = st.mem) {t : Array Value} (hf : FRep N ly c st.fr t) {x : ARes} {q : ResultVar} (hx : mRes pr x q = true) {r : V} (hr : resV st x = some r) :
    ∃ u, (resG t q).run pr c.w = .ok u c.w ∧ VRep N ly c.H c.φ c.m r u := by
  cases x with
  | tmp i =>
    cases q <;> simp only [mRes, Bool.false_eq_true, beq_iff_eq] at hx
    subst hx
    simp only [resV, Option.some.injEq] at hr; subst hr
    exact ⟨_, by simp [resG], hf.2 i⟩
  | cell i n =>
    cases q <;> simp only [mRes, Bool.false_eq_true, beq_iff_eq, Bool.and_eq_true] at hx
    obtain ⟨rfl, hk⟩ := hx
    have hv := hf.2 i
    simp only [resV] at hr
    split at hr
    · rename_i b off hb
      rw [hb] at hv
      split at hr
      · rename_i cs hcs
        rw [← hm] at hcs
        obtain ⟨u, h1, h2⟩ := load_own N ly pr hg hk hv hcs (x := r) hr
        exact ⟨u, loadAt_var pr h1, h2⟩
      · cases hr
    · rename_i ps hb
      rw [hb] at hv
      simp only [VRep] at hv
      obtain ⟨u, h1, h2⟩ := load_data N ly pr hg hk hv (x := r) hr
      exact ⟨u, loadAt_var pr h1, h2⟩
    · cases hr

theorem ress_ok {ly : Option Nat} {c : Cfg} (hg : Good N ly c) {st : St} (hm : c.m = st.mem) {t : Array Value} (hf : FRep N ly c st.fr t) : ∀ {xs : List ARes} {qs : List ResultVar} {rs : List V}, mRess pr xs qs = true → resVs st xs = some rs →
    ∃ us : List Value, (qs.mapM (resG t)).run pr c.w = .ok us c.w ∧ VReps N ly c.H c.φ c.m rs us
  | [], [], rs, _, hr => by
    simp only [resVs, Option.some.injEq] at hr; subst hr
    exact ⟨[], by simp, by simp [VReps]⟩
  | [], _ :: _, _, h, _ => by simp [mRess] at h
  | _ :: _, [], _, h, _ => by simp [mRess] at h
  | x :: xs, q :: qs, rs, h, hr => by
    simp only [mRess, Bool.and_eq_true] at h
    simp only [resVs] at hr
    split at hr
    · rename_i a b ha hb
      simp only [Option.some.injEq] at hr; subst hr
      obtain ⟨u, h1, h2⟩ := res_ok N pr hg hm hf h.1 ha
      obtain ⟨us, k1, k2⟩ := ress_ok hg hm hf h.2 hb
      exact ⟨u :: us, by simp [List.mapM_cons, Sem.run_bind, h1, k1, Result.andThen], by simp only [VReps]; exact ⟨u, us, rfl, h2, k2⟩⟩
    · cases hr

theorem results_eq (fn : Func) (tmps : Array Value) : results fn tmps = (fn.results.mapM (resG tmps) >>= fun vs => Pure.pure (if h : vs.size = 1 then vs[0] else .tuple vs)) := by
  unfold results
  have : (fun x => match x with | ResultVar.tmp t => (Pure.pure (tmps.getD t undef) : Sem Value) | .cell a t => do loadVar t (← asAddr (tmps.getD a undef))) = resG tmps := by
    funext x; cases x <;> rfl
  rw [← this]
  rfl

theorem results_ok {ly : Option Nat} {c : Cfg} (hg : Good N ly c) {st : St} (hm : c.m = st.mem) {t : Array Value} (hf : FRep N ly c st.fr t) {fn : Func} {xs : List ARes} {rs : List V} (hx : mRess pr xs fn.results.toList = true) (hr : resVs st xs = some rs) :
    ∃ u, (results fn t).run pr c.w = .ok u c.w ∧ VRep N ly c.H c.φ c.m (oneOrTuple rs) u := by
  obtain ⟨us, h1, h2⟩ := ress_ok N pr hg hm hf hx hr
  rw [results_eq]
  have hmap : (fn.results.mapM (resG t)).run pr c.w = .ok us.toArray c.w := by
    rw [Array.mapM_eq_mapM_toList, ← bind_pure_comp]
    simp only [Sem.run_bind, h1, Result.andThen, Sem.run_pure]
  simp only [Sem.run_bind, hmap, Result.andThen, Sem.run_pure]
  refine ⟨_, rfl, ?_⟩
  cases rs with
  | nil =>
    simp only [VReps] at h2; subst h2
    simp only [oneOrTuple, VRep]
    exact ⟨[], rfl, by simp [VReps]⟩
  | cons x r =>
    simp only [VReps] at h2
    obtain ⟨v, s, rfl, h2, h3⟩ := h2
    cases r with
    | nil =>
      simp only [VReps] at h3; subst h3
      simpa [oneOrTuple] using h2
    | cons y r =>
      have hs : ¬ (v :: s).toArray.size = 1 := by
        have := VReps.length N ly h3
        simp at this ⊢; intro h; simp [h] at this
      simp only [oneOrTuple, VRep, dif_neg hs]
      exact ⟨v :: s, rfl, by simp only [VReps]; exact ⟨v, s, rfl, h2, h3⟩⟩

theorem leaves_ok {σ : Type} {y : Yl σ} (hS : y.Stable) {O0 : Nat → Prop} {c0 e0 : Cfg} {st : St} {s : σ} {a : Act} {fn : Func} {R : Ending → World → Prop} {D : Nat → Prop}
    (hQ : ∀ w' c', SimX N y O0 c0 e0 [] st s a w' c' D → ∃ v, (results fn a.tmps).run pr w' = .ok v w' ∧ R (.returned v) w') : ∀ (dm : List Nat) (w : World) (c : Cfg), dm.Nodup → (∀ r ∈ dm, c0.w.heap.size ≤ r) → SimX N y O0 c0 e0 (dm.map dmOf) st s a w c D →
      LeavesInM Fence.wide 0 pr fn a.tmps R (dm.map fun r => { target := .collected r, args := #[] }) .returning w
  | [], w, c, _, _, hx => hQ w c hx
  | r :: dm, w, c, hn, hl, hx => by
    obtain ⟨h1, h2, h3⟩ := hx.marks (dmOf r) (by simp)
    refine ⟨by simp, .inl ⟨r, _, rfl, run_takeDeferred h1, ?_⟩⟩
    obtain ⟨hr, hn'⟩ := List.nodup_cons.1 hn
    exact leaves_ok hS hQ dm _ _ hn' (fun x hx => hl x (by simp [hx])) (hx.put N hS (a' := a) rfl h1 rfl rfl h2 h3 (.inr (hl r (by simp))) fun p hp => .inl ⟨by simp only [List.map_cons, List.mem_cons]; exact .inr hp, fun e => by
      obtain ⟨q, hq, rfl⟩ := List.mem_map.1 hp
      simp only [dmOf] at e; subst e; exact hr hq⟩)

theorem finish_ok {σ : Type} {y : Yl σ} (hS : y.Stable) {O0 : Nat → Prop} {c0 e0 : Cfg} {st : St} {s : σ} {a : Act} {fn : Func} {af : AFn} (hfn : mRess pr af.res fn.results.toList = true) {n0 : Nat} (hn0 : e0.m.length ≤ n0) {r : V} {m : List Blk} (hf : finish af n0 st = some (r, m)) {w : World} {c : Cfg} {D : Nat → Prop}
    (hx : SimX N y O0 c0 e0 [] st s a w c D) : ∃ v, (results fn a.tmps).run pr w = .ok v w ∧ ∃ c', ∃ fr' : Fr, fr'.get 0 = r ∧ SimX N y O0 c0 e0 [] ⟨fr', m⟩ s ⟨#[v], []⟩ w c' D := by
  have hw := hx.hw; subst hw
  unfold finish at hf
  split at hf
  · cases hf
  · rename_i vs hvs
    obtain ⟨v, h1, h2⟩ := results_ok N pr hx.good hx.hm hx.frep hfn hvs
    refine ⟨v, h1, ?_⟩
    simp only at hf
    have hF : FRep N y.l c (Fr.of 1 [oneOrTuple vs]) #[v] := by
      have := FRep.of N y.l (c := c) (xs := [oneOrTuple vs]) (vs := [v]) (by simp only [VReps]; exact ⟨v, [], rfl, h2, rfl⟩) 1 (by simp)
      simpa using this
    split at hf
    · cases hf
    · rename_i st1 hst1
      have hk : Kept N y.l #[v] c st1.fr st1.mem := by
        split at hst1
        · simp only [Option.some.injEq] at hst1; subst hst1
          exact hx.hm ▸ Kept.refl N y.l hx.good hF
        · exact freezeAll_ok N y.l _ hx.good hx.hm (st := ⟨Fr.of 1 [oneOrTuple vs], st.mem⟩) hF hst1
      obtain ⟨c1, q1, q2, q3, q4, q5, q6⟩ := hk
      split at hf
      · rename_i fr2 hfr2
        have hF2 : FRep N y.l c1 fr2 #[v] := FRep.map N y.l (f := fun x => some x.strip) q4 rfl hfr2 fun x y v hxy hv => by
          simp only [Option.some.injEq] at hxy; subst hxy; exact strip_rep N hv
        have hx1 : SimX N y O0 c0 e0 [] ⟨fr2, st1.mem⟩ s ⟨#[v], []⟩ c.w c1 D := by
          have := hx.own N hS (a' := ⟨#[v], []⟩) (st' := ⟨fr2, st1.mem⟩) q2 q3 hF2 q5 q6
          rwa [q1] at this
        split at hf
        · rename_i st2 hgc
          simp only [Option.some.injEq, Prod.mk.injEq] at hf
          obtain ⟨rfl, rfl⟩ := hf
          obtain ⟨c2, g1, g2, g3, g4, g5, g6⟩ := gc_ok N y.l hx1.good hx1.hm hx1.frep hgc
          have hx2 := hx1.step N hS (a' := ⟨#[v], []⟩) g2 g3 g4 g5 (g6 e0 hn0 hx1.ext)
          rw [g1, q1] at hx2
          exact ⟨c2, st2.fr, rfl, hx2⟩
        · cases hf
      · cases hf

theorem fn_ok (hmix : pr.follows .mixedOrders = true) {E : Env} (hE : SoundEnv N pr E) {k : Nat} {af : AFn} {f : Nat} {fn : Func} (hf : pr.funcs[f]? = some fn) (hm : mFn N pr af fn = true) {σ : Type} {y : Yl σ} (hS : y.Stable) {Y : List P → σ → Option (Bool × σ)} (hY : y.Ok N pr Y)
    {args : List V} {mem : List Blk} {s s' : σ} {r : V} {m' : List Blk} (hr : runFn E Y k af args mem s = some (r, m', s')) {c : Cfg} {D : Nat → Prop} {vals : List Value} (hg : Good N y.l c) (hcm : c.m = mem) (hv : VReps N y.l c.H c.φ c.m args vals) (hrel : y.rel s D c.H c.w) (hdis : ∀ b, D b → b < c.w.heap.size ∧ ¬ Owned c b) :
    Calls pr f vals.toArray c.w fun e w' => ∃ (c' : Cfg) (D' : Nat → Prop) (v : Value) (fr' : Fr), e = .returned v ∧ fr'.get 0 = r ∧ SimX N y (fun b => Owned c b ∨ D b) c c [] ⟨fr', m'⟩ s' ⟨#[v], []⟩ w' c' D' := by
  subst hcm
  simp only [mFn, Bool.and_eq_true, beq_iff_eq] at hm
  obtain ⟨⟨⟨hnt, hres⟩, hnm⟩, hbd⟩ := hm
  split at hbd
  · rename_i code hcode
    refine (callsIn_wide (n := 0)).1 ?_
    refine callsIn_of_wp_marks hf hcode trivial ?_ rfl
    have hlen : args.length = vals.length := VReps.length N y.l hv
    unfold runFn at hr
    split at hr
    · cases hr
    rename_i hnlt
    have hf0 : FRep N y.l c (Fr.of af.nt args) (vals.toArray ++ Array.replicate (fn.ntmps - vals.toArray.size) undef) := by
      have := FRep.of N y.l hv af.nt (by omega)
      rw [hnt] at this ⊢
      simpa using this
    have hs0 : Sim N y (fun b => Owned c b ∨ D b) c c [] ⟨Fr.of af.nt args, c.m⟩ s { tmps := vals.toArray ++ Array.replicate (fn.ntmps - vals.toArray.size) undef, defers := [] } c.w :=
      ⟨[], rfl, ⟨.nil, by simp⟩, c, D, ⟨rfl, rfl, hg, hf0, hrel, hdis, by simp, Tr.refl _ _ _, Ext.refl⟩⟩
    have hend : ∀ (st1 : St) (s1 : σ), finish af c.m.length st1 = some (r, m') → s1 = s' → ∀ (a' : Act) (w' : World), Sim N y (fun b => Owned c b ∨ D b) c c [] st1 s1 a' w' →
        LeavesInM Fence.wide 0 pr fn a'.tmps (fun e w' => ∃ (c' : Cfg) (D' : Nat → Prop) (v : Value) (fr' : Fr), e = .returned v ∧ fr'.get 0 = r ∧ SimX N y (fun b => Owned c b ∨ D b) c c [] ⟨fr', m'⟩ s' ⟨#[v], []⟩ w' c' D') a'.defers .returning w' := by
      rintro st1 s1 hfin rfl a' w' ⟨dm, hdf, hnd, c1, D1, hx⟩
      rw [hdf]
      refine leaves_ok N pr hS (fun w2 c2 hx2 => ?_) dm w' c1 hnd.1 hnd.2 hx
      obtain ⟨v, h1, c3, fr3, h2, h3⟩ := finish_ok N pr hS hres (Nat.le_refl _) hfin hx2
      exact ⟨v, h1, c3, D1, v, fr3, rfl, h2, h3⟩
    have hgo := fun ex st1 s1 hrun hQ => runC_ok N pr hmix hE k af.code code hbd σ y hS Y hY none (fun b => Owned c b ∨ D b) c c [] c.m.length _ s _ c.w ex st1 s1
      (bodyPostM Fence.wide 0 pr fn (fun e w' => ∃ (c' : Cfg) (D' : Nat → Prop) (v : Value) (fr' : Fr), e = .returned v ∧ fr'.get 0 = r ∧ SimX N y (fun b => Owned c b ∨ D b) c c [] ⟨fr', m'⟩ s' ⟨#[v], []⟩ w' c' D')) (Nat.le_refl _) (fun l h => by cases h) hrun hs0 hQ
    split at hr
    · rename_i st1 s1 hrun
      split at hr
      · rename_i v m hfin
        simp only [Option.some.injEq, Prod.mk.injEq] at hr
        obtain ⟨rfl, rfl, rfl⟩ := hr
        exact hgo _ _ _ hrun fun a' w' h' => hend st1 s1 hfin rfl a' w' h'
      · cases hr
    · rename_i st1 s1 hrun
      split at hr
      · rename_i v m hfin
        simp only [Option.some.injEq, Prod.mk.injEq] at hr
        obtain ⟨rfl, rfl, rfl⟩ := hr
        exact hgo _ _ _ hrun fun a' w' h' => hend st1 s1 hfin rfl a' w' h'
      · cases hr
    · cases hr
  · cases hbd

/-- The table tells of the program. -/
def TblOk (tbl : Nat → Option AFn) : Prop := ∀ id af, tbl id = some af → ∃ fn, pr.funcs[N.num id]? = some fn ∧ mFn N pr af fn = true

theorem mFn_enters {id : Nat} {af : AFn} {fn : Func} (hf : pr.funcs[N.num id]? = some fn) (hm : mFn N pr af fn = true) : Enters N pr id := by
  simp only [mFn, Bool.and_eq_true] at hm
  obtain ⟨⟨_, h1⟩, h2⟩ := hm
  refine ⟨fn, hf, by simpa using h1, ?_⟩
  cases hb : fn.body with
  | none => rw [hb] at h2; cases h2
  | some c => rfl

theorem stepE_ok (hmix : pr.follows .mixedOrders = true) {tbl : Nat → Option AFn} (ht : TblOk N pr tbl) {E : Env} (hE : SoundEnv N pr E) (k : Nat) : SoundEnv N pr (stepE tbl k E) where
  call id args mem r mem' h := by
    simp only [stepE] at h
    split at h
    · rename_i af haf
      obtain ⟨fn, hf, hm⟩ := ht id af haf
      simp only [Option.map_eq_some_iff] at h
      obtain ⟨⟨r1, m1, s1⟩, hr, e⟩ := h
      simp only [Prod.mk.injEq] at e
      obtain ⟨rfl, rfl⟩ := e
      refine ⟨mFn_enters N pr hf hm, fun c vals hg hcm hv => ?_⟩
      let y : Yl Unit := ⟨none, fun _ _ _ _ => True⟩
      have := fn_ok N pr hmix hE hf hm (y := y) (fun _ _ _ _ _ _ _ _ _ _ _ => trivial) (Y := noY) (fun ps s b s' h => by simp [noY] at h) hr (c := c) (D := fun _ => False) hg hcm hv trivial (fun b h => h.elim)
      refine this.mono ?_
      rintro e w' ⟨c', D', v, fr', rfl, hr0, hx⟩
      have hcw := hx.hw; subst hcw
      refine ⟨c', v, rfl, rfl, hx.hm, hx.good, ⟨hx.tr.fz, hx.tr.os, hx.tr.tape, hx.tr.output, hx.tr.size, hx.tr.hle, fun b hb hn => hx.tr.frame b hb (by simpa using hn), fun b hb => ?_, fun b o v hv => ?_⟩, hx.ext, ?_⟩
      · rcases hx.tr.own b (.inl hb) with (h | h) | h
        · exact .inl h
        · exact h.elim
        · exact .inr h
      · rcases hx.tr.hnew b o v hv with h | (h | h) | h
        · exact .inl h
        · exact .inr (.inl h)
        · exact h.elim
        · exact .inr (.inr h)
      · have := hx.frep.2 0
        rw [hr0] at this; exact this
    · cases h
  iter σ Y id args mem s s' h := by
    simp only [stepE] at h
    split at h
    · rename_i af haf
      obtain ⟨fn, hf, hm⟩ := ht id af haf
      simp only [Option.map_eq_some_iff] at h
      obtain ⟨⟨r1, m1, s1⟩, hr, e⟩ := h
      simp only at e
      subst e
      refine ⟨mFn_enters N pr hf hm, fun y hS hY c D vals hg hcm hv hrel hdis => ?_⟩
      have := fn_ok N pr hmix hE hf hm (y := y) hS hY hr (c := c) (D := D) hg hcm hv hrel hdis
      refine this.mono ?_
      rintro e w' ⟨c', D', v, fr', rfl, hr0, hx⟩
      have hcw := hx.hw; subst hcw
      exact ⟨⟨v, rfl⟩, D', c'.H, hx.rel, hx.good.frz, fun b hb => (hx.dis b hb).1, hx.tr.less fun b hb => .inr hb⟩
    · cases h

theorem evalN_ok (hmix : pr.follows .mixedOrders = true) {tbl : Nat → Option AFn} (ht : TblOk N pr tbl) : ∀ n, SoundEnv N pr (evalN tbl n)
  | 0 => ⟨fun _ _ _ _ _ h => by simp [evalN, Env.bot] at h, fun _ _ _ _ _ _ _ h => by simp [evalN, Env.bot] at h⟩
  | n + 1 => stepE_ok N pr hmix ht (evalN_ok hmix ht n) n

end Go.Am
