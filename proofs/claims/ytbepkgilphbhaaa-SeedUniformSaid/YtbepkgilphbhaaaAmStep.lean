/- One operation, calls and yields with the rest. -/
import Derived.Test.YtbepkgilphbhaaaAmMerge
import Derived.RangeFuncSeq
import Derived.TacticsIn
namespace Go.Am
open Go

/-- The fence that keeps nothing out. -/
def fc (ro : Option Nat) : Fence := { Fence.wide with round := ro }

theorem fc_room (ro : Option Nat) (n : Nat) : (fc ro).room n := fun d h => by simp [fc, Fence.wide] at h
theorem fc_fn (ro : Option Nat) (f : FuncId) : (fc ro).fn f := trivial
theorem fc_depth (ro : Option Nat) (n : Nat) : (fc ro).depth.isSome = true → 1 ≤ n := fun h => by simp [fc, Fence.wide] at h

def FrzOk (H : HM) (w : World) : Prop := ∀ b o v, H b o = some v → w.cell? ⟨b, o, none⟩ = some v ∧ v.oneCell' = true

structure Tr (O : Nat → Prop) (H : HM) (w : World) (O' : Nat → Prop) (H' : HM) (w' : World) : Prop where
  fz : ∀ a, w'.frozen? a = w.frozen? a
  os : w'.os = w.os
  tape : w'.tape = w.tape
  output : w'.output = w.output
  size : w.heap.size ≤ w'.heap.size
  hle : H.le H'
  frame : ∀ b, b < w.heap.size → ¬ O b → w'.heap[b]? = w.heap[b]?
  own : ∀ b, O' b → O b ∨ w.heap.size ≤ b
  hnew : ∀ b o v, H' b o = some v → H b o = some v ∨ O b ∨ w.heap.size ≤ b

theorem Tr.refl (O : Nat → Prop) (H : HM) (w : World) : Tr O H w O H w := ⟨fun _ => rfl, rfl, rfl, rfl, Nat.le_refl _, HM.le_refl _, fun _ _ _ => rfl, fun _ h => .inl h, fun _ _ _ h => .inl h⟩

theorem Tr.trans {O O' O'' : Nat → Prop} {H H' H'' : HM} {w w' w'' : World} (h : Tr O H w O' H' w') (k : Tr O' H' w' O'' H'' w'') : Tr O H w O'' H'' w'' where
  fz x := (k.fz x).trans (h.fz x)
  os := k.os.trans h.os
  tape := k.tape.trans h.tape
  output := k.output.trans h.output
  size := Nat.le_trans h.size k.size
  hle := HM.le_trans h.hle k.hle
  frame x hx hn := by
    refine (k.frame x (Nat.lt_of_lt_of_le hx h.size) fun ho => ?_).trans (h.frame x hx hn)
    rcases h.own x ho with ho | ho
    · exact hn ho
    · omega
  own x ho := by
    rcases k.own x ho with ho | ho
    · exact h.own x ho
    · exact .inr (Nat.le_trans h.size ho)
  hnew x o v hv := by
    rcases k.hnew x o v hv with hv | ho | ho
    · exact h.hnew x o v hv
    · rcases h.own x ho with ho | ho
      · exact .inr (.inl ho)
      · exact .inr (.inr ho)
    · exact .inr (.inr (Nat.le_trans h.size ho))

theorem Tr.mono {O P O' : Nat → Prop} {H H' : HM} {w w' : World} (h : Tr O H w O' H' w') (hp : ∀ b, O b → P b) : Tr P H w O' H' w' :=
  ⟨h.fz, h.os, h.tape, h.output, h.size, h.hle, fun b hb hn => h.frame b hb fun ho => hn (hp b ho), fun b hb => (h.own b hb).imp (hp b) id, fun b o v hv => (h.hnew b o v hv).imp id (Or.imp (hp b) id)⟩

theorem Tr.less {O O' P' : Nat → Prop} {H H' : HM} {w w' : World} (h : Tr O H w O' H' w') (hp : ∀ b, P' b → O' b) : Tr O H w P' H' w' :=
  ⟨h.fz, h.os, h.tape, h.output, h.size, h.hle, h.frame, fun b hb => h.own b (hp b hb), h.hnew⟩

theorem Trans.tr {c c' : Cfg} (h : Trans c c') : Tr (Owned c) c.H c.w (Owned c') c'.H c'.w := ⟨h.fz, h.os, h.tape, h.output, h.size, h.hle, h.frame, h.own, h.hnew⟩

/-- A step of one side, beside blocks of another. -/
theorem Trans.beside {c c' : Cfg} (h : Trans c c') (D : Nat → Prop) : Tr (fun b => Owned c b ∨ D b) c.H c.w (fun b => Owned c' b ∨ D b) c'.H c'.w :=
  ⟨h.fz, h.os, h.tape, h.output, h.size, h.hle, fun b hb hn => h.frame b hb fun ho => hn (.inl ho), fun b hb => by
    rcases hb with hb | hb
    · exact (h.own b hb).imp .inl id
    · exact .inl (.inr hb), fun b o v hv => (h.hnew b o v hv).imp id (Or.imp .inl id)⟩

variable (N : Nm) (pr : Program)

/-- The side that yields are handed to. -/
structure Yl (σ : Type) where
  l : Option Nat
  rel : σ → (Nat → Prop) → HM → World → Prop

variable {σ : Type}

def Yl.Stable (y : Yl σ) : Prop := ∀ s D H w H' w', y.rel s D H w → FrzOk H' w' → w.heap.size ≤ w'.heap.size → H.le H' →
  (∀ b, D b → w'.heap[b]? = w.heap[b]? ∧ ∀ o, H b o = none → H' b o = none) → y.rel s D H' w'

def Yl.Ok (y : Yl σ) (Y : List P → σ → Option (Bool × σ)) : Prop := ∀ ps s b s', Y ps s = some (b, s') → ∀ l, y.l = some l → ∀ D H w (vals : List Value), y.rel s D H w → FrzOk H w → (∀ b, D b → b < w.heap.size) → Reps N H ps vals →
  YieldAt (fc none) 0 pr l vals.toArray w fun e w' => e = .returned (.bool b) ∧ ∃ D' H', y.rel s' D' H' w' ∧ FrzOk H' w' ∧ (∀ b, D' b → b < w'.heap.size) ∧ Tr D H w D' H' w'

/-- A function that may be entered. -/
def Enters (id : Nat) : Prop := ∃ fn, pr.funcs[N.num id]? = some fn ∧ (fn.name == "runtime.NumGoroutine") = false ∧ fn.body.isNone = false

structure SoundEnv (E : Env) : Prop where
  call : ∀ id args mem r mem', E.call id args mem = some (r, mem') → Enters N pr id ∧ ∀ (c : Cfg) (vals : List Value), Good N none c → c.m = mem → VReps N none c.H c.φ c.m args vals →
    Calls pr (N.num id) vals.toArray c.w fun e w' => ∃ (c' : Cfg) (v : Value), e = .returned v ∧ c'.w = w' ∧ c'.m = mem' ∧ Good N none c' ∧ Trans c c' ∧ Ext c.H c.φ c.m c'.H c'.φ c'.m ∧ VRep N none c'.H c'.φ c'.m r v
  iter : ∀ (σ : Type) (Y : List P → σ → Option (Bool × σ)) id args mem s s', E.iter σ Y id args mem s = some s' → Enters N pr id ∧ ∀ (y : Yl σ), y.Stable → y.Ok N pr Y → ∀ (c : Cfg) (D : Nat → Prop) (vals : List Value),
    Good N y.l c → c.m = mem → VReps N y.l c.H c.φ c.m args vals → y.rel s D c.H c.w → (∀ b, D b → b < c.w.heap.size ∧ ¬ Owned c b) →
    Calls pr (N.num id) vals.toArray c.w fun e w' => (∃ v, e = .returned v) ∧ ∃ D' H', y.rel s' D' H' w' ∧ FrzOk H' w' ∧ (∀ b, D' b → b < w'.heap.size) ∧ Tr (fun b => Owned c b ∨ D b) c.H c.w D' H' w'

theorem sub_owned {c : Cfg} {idx : List Nat} {ms : List Blk} {w : World} {bs : List Blk} (hb : (readAll idx).run c.m = some bs) (hms : renBlks (fun i => idx.idxOf? i) bs = some ms) {φ1 : FM}
    (h : ∀ i k, idx[k]? = some i → Leaf c.φ c.m φ1 ms i k ∧ φ1[k]? = c.φ[i]? ∧ ∃ x, c.m[i]? = some x) {R : Nat} (ho : Owned ⟨c.H, φ1, ms, w⟩ R) : ∃ i, i ∈ idx ∧ Live c.m i ∧ ∃ s, c.φ[i]? = some (some (R, s)) := by
  obtain ⟨k, s, hl, hp⟩ := ho
  obtain ⟨l1, g1⟩ := readAll_get hb
  obtain ⟨l2, g2⟩ := renBlks_get hms
  have hkl : k < ms.length := by rcases hl with ⟨_, h⟩ | ⟨_, _, h⟩ <;> exact (List.getElem?_eq_some_iff.1 h).1
  have hki : idx[k]? = some (idx[k]'(by omega)) := List.getElem?_eq_getElem (by omega)
  obtain ⟨_, e2, _⟩ := h _ k hki
  obtain ⟨x, hx, hxi⟩ := g1 k _ hki
  refine ⟨_, List.mem_of_getElem? hki, ?_, s, e2 ▸ hp⟩
  obtain ⟨x', hx', hr⟩ := g2 k _ (List.getElem?_eq_getElem hkl)
  rw [hx] at hx'; cases hx'
  rcases hl with ⟨cs, hm⟩ | ⟨n, q, hm⟩
  · rw [List.getElem?_eq_getElem hkl] at hm
    rcases ren_blk_kind hr with ⟨a, b, rfl, _⟩ | ⟨rfl, hnc⟩
    · exact .inl ⟨a, hxi⟩
    · simp only [Option.some.injEq] at hm
      exact absurd hm (hnc cs)
  · rw [List.getElem?_eq_getElem hkl] at hm
    simp only [Option.some.injEq] at hm
    rcases ren_blk_kind hr with ⟨a, b, rfl, hb⟩ | ⟨rfl, _⟩
    · rw [hm] at hb; cases hb
    · exact .inr ⟨n, q, by rw [hxi, hm]⟩

/-- A call of a function of ours. -/
theorem callF_ok {E : Env} (hE : SoundEnv N pr E) {ly : Option Nat} {c : Cfg} (hg : Good N ly c) {id : Nat} {vs : List V} {vals : List Value} {r : Res} (h : (callF E c.m.length id vs).run c.m = some r) (hv : VReps N ly c.H c.φ c.m vs vals) :
    Enters N pr id ∧ Calls pr (N.num id) vals.toArray c.w fun e w' => ∃ (c' : Cfg) (v : Value), e = .returned v ∧ c'.w = w' ∧ c'.m = applyUps c.m r.ups ++ r.extra ∧ Good N ly c' ∧ Trans c c' ∧ Ext c.H c.φ c.m c'.H c'.φ c'.m ∧ VRep N ly c'.H c'.φ c'.m r.val v := by
  unfold callF at h
  rw [RM.run_bind] at h
  cases hi : (reach 1000 (idss vs) []).run c.m with
  | none => rw [hi] at h; simp at h
  | some idx =>
    rw [hi] at h
    simp only [Option.bind_some, RM.run_bind] at h
    cases hb : (readAll idx).run c.m with
    | none => rw [hb] at h; simp at h
    | some bs =>
      rw [hb] at h
      simp only [Option.bind_some] at h
      split at h
      · rename_i hcond
        simp only [Bool.and_eq_true] at hcond
        obtain ⟨⟨hnd, hny⟩, hby⟩ := hcond
        have hn := nd_nodup hnd
        split at h
        · rename_i as ms has hms
          split at h
          · rename_i r0 m2 hcall
            split at h
            · rename_i hlen
              split at h
              · rename_i r' m2' hr' hm2'
                simp only [RM.run, Option.some.injEq] at h; subst h
                obtain ⟨g1, t1, hidx⟩ := sub_good N ly hg hn hb hms
                obtain ⟨hent, hcalls⟩ := hE.call id as ms r0 m2 hcall
                refine ⟨hent, ?_⟩
                obtain ⟨l1, gr1⟩ := readAll_get hb
                obtain ⟨l2, gr2⟩ := renBlks_get hms
                have hnoY : ∀ (i : Nat) (x : Blk), ms[i]? = some x → x.noY = true := fun i x hx => by
                  obtain ⟨z, hz, hzr⟩ := gr2 i x hx
                  have hzY := (List.all_eq_true.1 hby) z (List.mem_of_getElem? hz)
                  rcases ren_blk_kind hzr with ⟨cs, cs', rfl, rfl⟩ | ⟨rfl, hnc⟩
                  · simp only [Blk.noY] at hzY ⊢
                    simp only [Blk.ren, Option.map_eq_some_iff, Blk.cells.injEq] at hzr
                    obtain ⟨q, hq, rfl⟩ := hzr
                    exact noYs_ren hq hzY
                  · exact hzY
                have g1n : Good N none ⟨c.H, idx.map fun i => (c.φ[i]?).getD none, ms, c.w⟩ := Good.anyY N ly g1 hnoY
                have hargs : VReps N none c.H (idx.map fun i => (c.φ[i]?).getD none) ms as vals :=
                  VReps.ren N none (HM.le_refl _) (fun i k hik => (hidx i k (idxOf_get hik)).1) vs as vals has (VReps.anyY N ly vs vals hny hv)
                refine (hcalls ⟨c.H, idx.map fun i => (c.φ[i]?).getD none, ms, c.w⟩ vals g1n rfl hargs).mono ?_
                rintro e w' ⟨c2, v, rfl, rfl, rfl, k1, k2, k3, k4⟩
                have hm := merge_good N ly hg hn (c1 := ⟨c.H, idx.map fun i => (c.φ[i]?).getD none, ms, c.w⟩) rfl rfl (by rw [← l2, ← l1]) hidx g1 (fun R hR => sub_owned hb hms hidx hR) (Good.fromNone N ly k1) k2 k3 hlen hm2'
                exact ⟨⟨c2.H, mergeφ idx c.φ c2.φ, mergeM idx c.m m2', c2.w⟩, v, rfl, rfl, rfl, hm.1, hm.2.1, hm.2.2.1, hm.2.2.2 r0 r' v hr' (VRep.fromNone N ly r0 v k4)⟩
              · simp [RM.run] at h
            · simp [RM.run] at h
          · simp [RM.run] at h
        · simp [RM.run] at h
      · simp [RM.run] at h

/-! ### The state of an activation -/

structure SimX (y : Yl σ) (O0 : Nat → Prop) (c0 e0 : Cfg) (kp : List (Nat × Obj)) (st : St) (s : σ) (a : Act) (w : World) (c : Cfg) (D : Nat → Prop) : Prop where
  hw : c.w = w
  hm : c.m = st.mem
  good : Good N y.l c
  frep : FRep N y.l c st.fr a.tmps
  rel : y.rel s D c.H w
  dis : ∀ b, D b → b < w.heap.size ∧ ¬ Owned c b
  marks : ∀ p ∈ kp, w.heap[p.1]? = some p.2 ∧ ¬ Owned c p.1 ∧ ¬ D p.1
  tr : Tr O0 c0.H c0.w (fun b => Owned c b ∨ D b) c.H w
  ext : Ext e0.H e0.φ e0.m c.H c.φ c.m

def dmOf (r : Nat) : Nat × Obj := (r, .deferred (some []))

def Sim (y : Yl σ) (O0 : Nat → Prop) (c0 e0 : Cfg) (kp0 : List (Nat × Obj)) (st : St) (s : σ) (a : Act) (w : World) : Prop :=
  ∃ dm : List Nat, a.defers = (dm.map fun r => { target := .collected r, args := #[] }) ∧ (dm.Nodup ∧ ∀ r ∈ dm, c0.w.heap.size ≤ r) ∧ ∃ c D, SimX N y O0 c0 e0 (kp0 ++ dm.map dmOf) st s a w c D

theorem SimX.marks_of {y : Yl σ} {O0 : Nat → Prop} {c0 e0 : Cfg} {kp : List (Nat × Obj)} {st : St} {s : σ} {a : Act} {w : World} {c : Cfg} {D : Nat → Prop} (h : SimX N y O0 c0 e0 kp st s a w c D) {c' : Cfg} {D' : Nat → Prop} {w' : World}
    (ht : Tr (fun b => Owned c b ∨ D b) c.H w (fun b => Owned c' b ∨ D' b) c'.H w') : ∀ p ∈ kp, w'.heap[p.1]? = some p.2 ∧ ¬ Owned c' p.1 ∧ ¬ D' p.1 := fun p hp => by
  obtain ⟨h1, h2, h3⟩ := h.marks p hp
  have hlt : p.1 < w.heap.size := (Array.getElem?_eq_some_iff.1 h1).1
  have hno : ¬ (Owned c p.1 ∨ D p.1) := fun h => h.elim h2 h3
  refine ⟨(ht.frame p.1 hlt hno).trans h1, fun ho => ?_, fun hd => ?_⟩
  · rcases ht.own p.1 (.inl ho) with h | h
    · exact hno h
    · omega
  · rcases ht.own p.1 (.inr hd) with h | h
    · exact hno h
    · omega

/-- A step on the activation's own side. -/
theorem SimX.step {y : Yl σ} (hS : y.Stable) {O0 : Nat → Prop} {c0 e0 : Cfg} {kp : List (Nat × Obj)} {st st' : St} {s : σ} {a a' : Act} {w : World} {c : Cfg} {D : Nat → Prop} (h : SimX N y O0 c0 e0 kp st s a w c D) {c' : Cfg}
    (hm : c'.m = st'.mem) (hg : Good N y.l c') (hf : FRep N y.l c' st'.fr a'.tmps) (ht : Trans c c') (hE : Ext e0.H e0.φ e0.m c'.H c'.φ c'.m) : SimX N y O0 c0 e0 kp st' s a' c'.w c' D := by
  have hw := h.hw; subst hw
  have hb := ht.beside D
  have hD : ∀ b, D b → c'.w.heap[b]? = c.w.heap[b]? ∧ ∀ o, c.H b o = none → c'.H b o = none := fun b hb' => by
    obtain ⟨h1, h2⟩ := h.dis b hb'
    refine ⟨ht.frame b h1 h2, fun o ho => ?_⟩
    cases hv : c'.H b o with
    | none => rfl
    | some v =>
      rcases ht.hnew b o v hv with k | k | k
      · rw [ho] at k; cases k
      · exact absurd k h2
      · omega
  refine ⟨rfl, hm, hg, hf, hS s D c.H c.w c'.H c'.w h.rel hg.frz ht.size ht.hle hD, fun b hb' => ?_, h.marks_of N hb, h.tr.trans hb, hE⟩
  obtain ⟨h1, h2⟩ := h.dis b hb'
  have hs := ht.size
  refine ⟨by omega, fun ho => ?_⟩
  rcases ht.own b ho with k | k
  · exact h2 k
  · omega

theorem SimX.own {y : Yl σ} (hS : y.Stable) {O0 : Nat → Prop} {c0 e0 : Cfg} {kp : List (Nat × Obj)} {st st' : St} {s : σ} {a a' : Act} {w : World} {c : Cfg} {D : Nat → Prop} (h : SimX N y O0 c0 e0 kp st s a w c D) {c' : Cfg}
    (hm : c'.m = st'.mem) (hg : Good N y.l c') (hf : FRep N y.l c' st'.fr a'.tmps) (ht : Trans c c') (hE : Ext c.H c.φ c.m c'.H c'.φ c'.m) : SimX N y O0 c0 e0 kp st' s a' c'.w c' D :=
  h.step N hS hm hg hf ht (h.ext.trans hE)

theorem Act.put_defers' (a : Act) (d : Option Tmp) (v : Value) : (a.put d v).defers = a.defers := by cases d <;> rfl

/-- What `about` asks at this fence. -/
theorem about_any (ro : Option Nat) (o : Oper) (w : World) (ρ : Operand → Value) : ∀ f, o.about pr w ρ = some f → (fc ro).fn f := fun _ _ => trivial

def mCall (f : Opd) (args : List Opd) (o : Op) : Bool :=
  match o with
  | .call ⟨.value f', args', _⟩ => mOpd N f f' && mOpds N args args'.toList
  | _ => false

def mAnyOp (x : AOp) (o : Op) : Bool :=
  match x with
  | .call f args => mCall N f args o
  | x => mOp N pr x o

theorem mOp_notDefer {x : AOp} {o : Op} (h : mAnyOp N pr x o = true) : ∀ c, o ≠ .defer c := by
  rintro c rfl
  unfold mAnyOp at h
  split at h
  · simp [mCall] at h
  · cases x <;> simp [mOp] at h

theorem strip_rep {H : HM} {φ : FM} {m : List Blk} {ly : Option Nat} {x : V} {v : Value} (h : VRep N ly H φ m x v) : VRep N ly H φ m x.strip v := by
  unfold V.strip
  split
  · rename_i q hq
    simp only [VRep]; exact VRep.toP N ly x q v hq h
  · exact h

theorem strips_rep {H : HM} {φ : FM} {m : List Blk} {ly : Option Nat} : ∀ {xs : List V} {vs : List Value}, VReps N ly H φ m xs vs → VReps N ly H φ m (xs.map V.strip) vs
  | [], _, h => by simp only [VReps] at h; subst h; simp [VReps]
  | x :: r, _, h => by
    simp only [VReps, List.map_cons] at h ⊢
    obtain ⟨v, s, rfl, h1, h2⟩ := h
    exact ⟨v, s, rfl, strip_rep N h1, strips_rep h2⟩

theorem VReps.app {H : HM} {φ : FM} {m : List Blk} {ly : Option Nat} : ∀ {xs ys : List V} {us vs : List Value}, VReps N ly H φ m xs us → VReps N ly H φ m ys vs → VReps N ly H φ m (xs ++ ys) (us ++ vs)
  | [], _, _, _, h, k => by simp only [VReps] at h; subst h; simpa using k
  | x :: r, _, _, _, h, k => by
    simp only [VReps, List.cons_append] at h ⊢
    obtain ⟨v, s, rfl, h1, h2⟩ := h
    exact ⟨v, s ++ _, rfl, h1, VReps.app h2 k⟩

theorem callee_rep {H : HM} {φ : FM} {m : List Blk} {ly : Option Nat} {x : V} {v : Value} {id : Nat} {caps : List V} (h : callee x = some (id, caps)) (hv : VRep N ly H φ m x v) :
    ∃ cs : List Value, v = .func (.func (N.num id)) #[] cs.toArray ∧ VReps N ly H φ m caps cs := by
  unfold callee at h
  split at h
  · simp only [Option.some.injEq, Prod.mk.injEq] at h
    obtain ⟨rfl, rfl⟩ := h
    simp only [VRep, Rep] at hv
    obtain ⟨cs, rfl, hr⟩ := hv
    refine ⟨cs, rfl, VReps.of N ly (by simp [Reps.length N hr]) fun j p u hp hu => ?_⟩
    simp only [List.getElem?_map, Option.map_eq_some_iff] at hp
    obtain ⟨q, hq, rfl⟩ := hp
    obtain ⟨u', k1, k2⟩ := Reps.get N hr j q hq
    rw [k1] at hu; cases hu
    simpa only [VRep] using k2
  · simp only [Option.some.injEq, Prod.mk.injEq] at h
    obtain ⟨rfl, rfl⟩ := h
    simpa only [VRep] using hv
  · cases h

/-- The run of a call's operation. -/
theorem call_run {f : FuncId} {fn : Func} (hf : pr.funcs[f]? = some fn) (hn : (fn.name == "runtime.NumGoroutine") = false) (hb : fn.body.isNone = false) {o : Oper} {f' : Operand} {args' : Array Operand} {ts : Array TypeId} (ho : o.op = .call ⟨.value f', args', ts⟩)
    {a : Act} {cs : List Value} (hv : a.eval f' = .func (.func f) #[] cs.toArray) (w : World) : (execOp a.eval o).run pr w = .ok (.enter f (args'.map a.eval ++ cs.toArray)) w := by
  have hn' : ¬ fn.name = "runtime.NumGoroutine" := by simpa using hn
  have hb' : ¬ fn.body = none := fun h => by simp [h] at hb
  simp [execOp, ho, resolve, hv, Deferred.ofValue, invoke, callFunc, hf, hn', hb']

theorem yield_run {l : Nat} {o : Oper} {f' : Operand} {args' : Array Operand} {ts : Array TypeId} (ho : o.op = .call ⟨.value f', args', ts⟩) {a : Act} (hv : a.eval f' = .func (.yield l) #[] #[]) (w : World) :
    (execOp a.eval o).run pr w = (Instr.yield l (args'.map a.eval)).run pr w := by
  simp [execOp, ho, resolve, hv, Deferred.ofValue, invoke]

/-- One operation that is let run: the walk goes on in the state that the machine says. -/
theorem op_wp {E : Env} (hE : SoundEnv N pr E) {y : Yl σ} (hS : y.Stable) {Y : List P → σ → Option (Bool × σ)} (hY : y.Ok N pr Y) (ro : Option Nat) {O0 : Nat → Prop} {c0 e0 : Cfg} {kp : List (Nat × Obj)} {st st' : St} {s s' : σ} {a : Act} {w : World} {x : AO} {o : Oper} {base : Nat}
    (hm : mAnyOp N pr x.op o.op = true) (hd : x.dst = o.dst) (hw : wants st.fr x.guard = some true) (hs : step1 E Y base x st s = some (st', s')) (h : Sim N y O0 c0 e0 kp st s a w) {K : Act → World → Prop} {Q : Exit → Act → World → Prop}
    (hK : ∀ a' w', Sim N y O0 c0 e0 kp st' s' a' w' → K a' w') : o.wpIn (fc ro) 0 pr a w K Q := by
  obtain ⟨dm, hdf, hnd, c, D, hx⟩ := h
  have hcw := hx.hw; subst hcw
  have hcm := hx.hm
  refine ⟨about_any pr ro o _ _, ?_⟩
  rw [Oper.semAt_eq (fc ro).round a.eval o (mOp_notDefer N pr hm)]
  simp only [step1, hw] at hs
  have plain : ∀ {r : Res}, OpOk N y.l pr c r (execOp a.eval o) → (⟨putD st.fr x.dst r.val, applyUps st.mem r.ups ++ r.extra⟩ : St) = st' → s = s' → o.uponIn (fc ro) 0 pr a K Q ((execOp a.eval o).run pr c.w) := fun {r} hok e1 e2 => by
    subst e1 e2
    obtain ⟨v, c', hrun, k1, k2, k3, k4, k5⟩ := hok
    have hsim : Sim N y O0 c0 e0 kp ⟨putD st.fr x.dst r.val, applyUps st.mem r.ups ++ r.extra⟩ s (a.put o.dst v) c'.w :=
      ⟨dm, (Act.put_defers' _ _ _).trans hdf, hnd, c', D, hx.own N hS (by rw [k1, hcm]) k2 (hd ▸ FRep.put N y.l (hx.frep.ext N y.l k4) x.dst k5) k3 k4⟩
    rcases hrun with hrun | ⟨hrun, rfl⟩
    · rw [hrun, Oper.uponIn_value]; exact hK _ _ hsim
    · rw [hrun, Oper.uponIn_skip]; exact hK _ _ hsim
  -- a call
  by_cases hcall : ∃ f args, x.op = .call f args
  · obtain ⟨f, args, hop⟩ := hcall
    rw [hop] at hm hs
    simp only [mAnyOp] at hm
    unfold mCall at hm
    split at hm
    · rename_i f' args' ts ho
      simp only [Bool.and_eq_true] at hm
      obtain ⟨hmf, hma⟩ := hm
      have hvf := opd_rep N y.l hx.frep hmf
      have hva := opds_rep N y.l hx.frep hma
      simp only at hs
      split at hs
      · -- yield
        rename_i hyl
        rw [hyl] at hvf
        simp only [VRep] at hvf
        obtain ⟨l, hl, hvl⟩ := hvf
        split at hs
        · rename_i ps hps
          split at hs
          · rename_i b s1 hYs
            simp only [Option.some.injEq, Prod.mk.injEq] at hs
            obtain ⟨rfl, rfl⟩ := hs
            have hreps := VReps.toPs N y.l _ ps _ hps hva
            obtain ⟨fn, tmps, assign, body, hyr, hround⟩ := hY ps s b s1 hYs l hl D c.H c.w (args'.toList.map a.eval) hx.rel hx.good.frz (fun b hb => (hx.dis b hb).1) hreps
            have e0 : (args'.toList.map a.eval).toArray = args'.map a.eval := Array.ext' (by simp)
            rw [e0] at hyr
            rw [yield_run pr ho hvl, hyr, Oper.uponIn_round]
            refine ⟨fc_depth ro 0, ?_⟩
            refine RoundIn.mono (F := fc ro) (n := 0 - 1) (show RoundIn (fc ro) (0 - 1) pr l fn tmps assign body c.w _ from hround) ?_
            rintro e w' ⟨rfl, D', H', k1, k2, k3, k4⟩
            -- the state behind the round
            have hno : ∀ R, Owned c R → ¬ D R := fun R ho hD => (hx.dis R hD).2 ho
            have hH : ∀ R, Owned c R → ∀ o, c.H R o = none → H' R o = none := fun R ho o hn => by
              cases hv : H' R o with
              | none => rfl
              | some v =>
                rcases k4.hnew R o v hv with h | h | h
                · rw [hn] at h; cases h
                · exact absurd h (hno R ho)
                · have := hx.good.owned_lt N y.l ho; omega
            have hEx : Ext c.H c.φ c.m H' c.φ c.m := ⟨k4.hle, fun i => ⟨fun h => ⟨h, rfl⟩, fun _ _ _ h => h⟩⟩
            have hgood : Good N y.l ⟨H', c.φ, c.m, w'⟩ := by
              refine ⟨hx.good.len, k2, fun i z hz => ?_, hx.good.inj⟩
              have hb := hx.good.blk i z hz
              by_cases hlv : Live c.m i
              · exact hb.keep N y.l (c' := ⟨H', c.φ, c.m, w'⟩) hEx rfl fun R s hR => ⟨k4.frame R (hx.good.owned_lt N y.l ⟨i, s, hlv, hR⟩) (hno R ⟨i, s, hlv, hR⟩), hH R ⟨i, s, hlv, hR⟩⟩
              · cases z with
                | cells cs => exact absurd (.inl ⟨cs, hz⟩) hlv
                | tok n q => exact absurd (.inr ⟨n, q, hz⟩) hlv
                | dead => trivial
                | hole => trivial
            have htr : Tr (fun b => Owned c b ∨ D b) c.H c.w (fun b => Owned ⟨H', c.φ, c.m, w'⟩ b ∨ D' b) H' w' :=
              ⟨k4.fz, k4.os, k4.tape, k4.output, k4.size, k4.hle, fun b hb hn => k4.frame b hb fun hD => hn (.inr hD), fun b hb => by
                rcases hb with hb | hb
                · exact .inl (.inl hb)
                · rcases k4.own b hb with h | h
                  · exact .inl (.inr h)
                  · exact .inr h, fun b o v hv => (k4.hnew b o v hv).imp id (Or.imp .inr id)⟩
            refine hK _ _ ⟨dm, (Act.put_defers' _ _ _).trans hdf, hnd, ⟨H', c.φ, c.m, w'⟩, D', ⟨rfl, hcm, hgood, ?_, k1, fun b hb => ⟨k3 b hb, fun ho => ?_⟩, hx.marks_of N htr, hx.tr.trans htr, hx.ext.trans hEx⟩⟩
            · exact hd ▸ FRep.put N y.l (FRep.ext N y.l (c' := ⟨H', c.φ, c.m, w'⟩) hx.frep hEx) x.dst (by simp only [VRep, Rep])
            · rcases k4.own b hb with h | h
              · exact (hx.dis b h).2 ho
              · have hlt : b < c.w.heap.size := hx.good.owned_lt N y.l (show Owned c b from ho)
                omega
          · cases hs
        · cases hs
      · -- a function
        rename_i hny
        split at hs
        · rename_i r hr
          simp only [Option.some.injEq, Prod.mk.injEq] at hs
          obtain ⟨rfl, rfl⟩ := hs
          simp only [exec1] at hr
          split at hr
          · rename_i id caps hcl
            obtain ⟨cs, hvf', hcs⟩ := callee_rep N hcl hvf
            rw [← hcm] at hr
            have hargs : VReps N y.l c.H c.φ c.m ((args.map fun z => (opd st.fr z).strip) ++ caps.map V.strip) (args'.toList.map a.eval ++ cs) := by
              have := strips_rep N hva
              rw [List.map_map] at this
              exact VReps.app N this (strips_rep N hcs)
            obtain ⟨⟨fn, hf1, hf2, hf3⟩, hcalls⟩ := callF_ok N pr hE hx.good hr hargs
            rw [call_run pr hf1 hf2 hf3 ho hvf', Oper.uponIn_enter]
            refine ⟨fc_depth ro 0, ?_⟩
            have e0 : (args'.toList.map a.eval ++ cs).toArray = args'.map a.eval ++ cs.toArray := Array.ext' (by simp)
            rw [e0] at hcalls
            refine CallsIn.mono (F := fc ro) (n := 0 - 1) (show CallsIn (fc ro) (0 - 1) pr (N.num id) _ c.w _ from (callsIn_wide (n := 0 - 1)).2 hcalls) ?_
            rintro e w' ⟨c', v, rfl, rfl, k1, k2, k3, k4, k5⟩
            exact hK _ _ ⟨dm, (Act.put_defers' _ _ _).trans hdf, hnd, c', D, hx.own N hS (by rw [k1, hcm]) k2 (hd ▸ FRep.put N y.l (hx.frep.ext N y.l k4) x.dst k5) k3 k4⟩
          · simp [RM.run] at hr
        · cases hs
    · cases hm
  · have hm' : mOp N pr x.op o.op = true := by
      unfold mAnyOp at hm
      split at hm
      · rename_i f args hop; exact absurd ⟨f, args, hop⟩ hcall
      · exact hm
    split at hs
    · rename_i f args hop; exact absurd ⟨f, args, hop⟩ hcall
    · split at hs
      · rename_i r hr
        simp only [Option.some.injEq, Prod.mk.injEq] at hs
        rw [← hcm] at hr
        exact plain (exec_ok N y.l pr hx.good hx.frep E base c.m.length rfl hm' hr) hs.1 hs.2
      · cases hs

end Go.Am
