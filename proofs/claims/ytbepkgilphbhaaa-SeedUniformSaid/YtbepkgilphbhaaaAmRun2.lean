/- Running the machine by rewriting: what is to come is kept as data, so that nothing is unfolded ahead of its time. -/
import Derived.Test.YtbepkgilphbhaaaAmRun
namespace Go.Am
open Go

section
variable (tbl : Nat → Option AFn) {σ : Type} (Y : List P → σ → Option (Bool × σ)) (n0 : Nat)

noncomputable def thenC (b : AC) (o : Option (Ex × St × σ)) : Option (Ex × St × σ) := match o with | some (.normal, st', s') => U tbl Y n0 b st' s' | r => r
theorem thenC_normal (b : AC) (st : St) (s : σ) : thenC tbl Y n0 b (some (.normal, st, s)) = U tbl Y n0 b st s := rfl
theorem thenC_exit (b : AC) (i : Nat) (st : St) (s : σ) : thenC tbl Y n0 b (some (.exit i, st, s)) = some (.exit i, st, s) := rfl
theorem thenC_ret (b : AC) (st : St) (s : σ) : thenC tbl Y n0 b (some (.ret, st, s)) = some (.ret, st, s) := rfl
theorem thenC_none (b : AC) : thenC tbl Y n0 b none = none := rfl
theorem thenC_ite (b : AC) (p : Prop) [Decidable p] (x y : Option (Ex × St × σ)) : thenC tbl Y n0 b (if p then x else y) = if p then thenC tbl Y n0 b x else thenC tbl Y n0 b y := by split <;> rfl
theorem u_seq (a b : AC) (st : St) (s : σ) : U tbl Y n0 (.seq a b) st s = thenC tbl Y n0 b (U tbl Y n0 a st s) := U_seq tbl Y n0 a b st s

noncomputable def condC (x : V) (a b : AC) (st : St) (s : σ) : Option (Ex × St × σ) := match x with | .p (.v (.bool true)) => U tbl Y n0 a st s | .p (.v (.bool false)) => U tbl Y n0 b st s | _ => none
theorem condC_b (c : Bool) (a b : AC) (st : St) (s : σ) : condC tbl Y n0 (.p (.v (.bool c))) a b st s = if c = true then U tbl Y n0 a st s else U tbl Y n0 b st s := by cases c <;> rfl
theorem condC_true (a b : AC) (st : St) (s : σ) : condC tbl Y n0 (.p (.v (.bool true))) a b st s = U tbl Y n0 a st s := rfl
theorem condC_false (a b : AC) (st : St) (s : σ) : condC tbl Y n0 (.p (.v (.bool false))) a b st s = U tbl Y n0 b st s := rfl
theorem u_cond (c : Opd) (a b : AC) (st : St) (s : σ) : U tbl Y n0 (.cond c a b) st s = condC tbl Y n0 (opd st.fr c) a b st s := U_cond tbl Y n0 c a b st s

def blockC (id : Nat) (o : Option (Ex × St × σ)) : Option (Ex × St × σ) := match o with | some (.exit id', st', s') => if id' = id then some (.normal, st', s') else some (.exit id', st', s') | r => r
theorem blockC_normal (id : Nat) (st : St) (s : σ) : blockC id (some (.normal, st, s)) = some (.normal, st, s) := rfl
theorem blockC_ret (id : Nat) (st : St) (s : σ) : blockC id (some (.ret, st, s)) = some (.ret, st, s) := rfl
theorem blockC_none (id : Nat) : blockC (σ := σ) id none = none := rfl
theorem blockC_exit (id id' : Nat) (st : St) (s : σ) : blockC id (some (.exit id', st, s)) = if id' = id then some (.normal, st, s) else some (.exit id', st, s) := rfl
theorem blockC_ite (id : Nat) (p : Prop) [Decidable p] (x y : Option (Ex × St × σ)) : blockC id (if p then x else y) = if p then blockC id x else blockC id y := by split <;> rfl
theorem u_block (id : Nat) (a : AC) (st : St) (s : σ) : U tbl Y n0 (.block id a) st s = blockC id (U tbl Y n0 a st s) := by
  rw [U_block]
  unfold blockC
  cases U tbl Y n0 a st s with
  | none => rfl
  | some p => obtain ⟨ex, st', s'⟩ := p; cases ex <;> rfl

def regC (o : Option (St × σ)) : Option (Ex × St × σ) := match o with | some (st, s) => some (.normal, st, s) | none => none
theorem regC_some (st : St) (s : σ) : regC (some (st, s)) = some (.normal, st, s) := rfl
theorem regC_none : regC (σ := σ) none = none := rfl
theorem regC_ite (p : Prop) [Decidable p] (x y : Option (St × σ)) : regC (if p then x else y) = if p then regC x else regC y := by split <;> rfl
theorem u_reg (g : Reg) (st : St) (s : σ) : U tbl Y n0 (.reg g) st s = regC (runReg (EL tbl) Y g st s) := U_reg tbl Y n0 g st s

/-- The rest of a loop behind its head. -/
noncomputable def loopC (keep lift : List Nat) (a : AC) (o : Option (Ex × St × σ)) : Option (Ex × St × σ) := match o with | some (.normal, st', s') => U tbl Y n0 (.loop keep lift a) st' s' | r => r
theorem loopC_normal (keep lift : List Nat) (a : AC) (st : St) (s : σ) : loopC tbl Y n0 keep lift a (some (.normal, st, s)) = U tbl Y n0 (.loop keep lift a) st s := rfl
theorem loopC_exit (keep lift : List Nat) (a : AC) (i : Nat) (st : St) (s : σ) : loopC tbl Y n0 keep lift a (some (.exit i, st, s)) = some (.exit i, st, s) := rfl
theorem loopC_ret (keep lift : List Nat) (a : AC) (st : St) (s : σ) : loopC tbl Y n0 keep lift a (some (.ret, st, s)) = some (.ret, st, s) := rfl
theorem loopC_none (keep lift : List Nat) (a : AC) : loopC tbl Y n0 keep lift a none = none := rfl
theorem loopC_ite (keep lift : List Nat) (a : AC) (p : Prop) [Decidable p] (x y : Option (Ex × St × σ)) : loopC tbl Y n0 keep lift a (if p then x else y) = if p then loopC tbl Y n0 keep lift a x else loopC tbl Y n0 keep lift a y := by split <;> rfl
/-- One round of a loop, at a state that the loop's head makes of what is there. -/
theorem u_loop {keep lift : List Nat} {a : AC} {st st1 : St} (s : σ) (h : gc n0 (liftAll lift ⟨keepOnly keep st.fr, st.mem⟩) = some st1) : U tbl Y n0 (.loop keep lift a) st s = loopC tbl Y n0 keep lift a (U tbl Y n0 a st1 s) := by
  rw [U_loop, h]; rfl

end

section
variable (E : Env) {σ : Type} (Y : List P → σ → Option (Bool × σ)) (base : Nat)

def thenO (r : List AO) (o : Option (St × σ)) : Option (St × σ) := match o with | some (st, s) => runOps E Y base r st s | none => none
theorem thenO_some (r : List AO) (st : St) (s : σ) : thenO E Y base r (some (st, s)) = runOps E Y base r st s := rfl
theorem thenO_none (r : List AO) : thenO E Y base r none = none := rfl
theorem thenO_ite (r : List AO) (p : Prop) [Decidable p] (x y : Option (St × σ)) : thenO E Y base r (if p then x else y) = if p then thenO E Y base r x else thenO E Y base r y := by split <;> rfl

def putR (d : Option Nat) (st : St) (s : σ) (o : Option Res) : Option (St × σ) := match o with | some r => some (⟨putD st.fr d r.val, applyUps st.mem r.ups ++ r.extra⟩, s) | none => none
theorem putR_some (d : Option Nat) (st : St) (s : σ) (v : V) (ups : List (Nat × Blk)) (ex : List Blk) : putR d st s (some ⟨v, ups, ex⟩) = some (⟨putD st.fr d v, applyUps st.mem ups ++ ex⟩, s) := rfl
theorem putR_none (d : Option Nat) (st : St) (s : σ) : putR d st s none = none := rfl
theorem putR_ite (d : Option Nat) (st : St) (s : σ) (p : Prop) [Decidable p] (x y : Option Res) : putR d st s (if p then x else y) = if p then putR d st s x else putR d st s y := by split <;> rfl

def yieldR (d : Option Nat) (st : St) (o : Option (Bool × σ)) : Option (St × σ) := match o with | some (b, s') => some (⟨putD st.fr d (.p (.v (.bool b))), st.mem⟩, s') | none => none
theorem yieldR_some (d : Option Nat) (st : St) (b : Bool) (s : σ) : yieldR d st (some (b, s)) = some (⟨putD st.fr d (.p (.v (.bool b))), st.mem⟩, s) := rfl
theorem yieldR_none (d : Option Nat) (st : St) : yieldR (σ := σ) d st none = none := rfl
theorem yieldR_ite (d : Option Nat) (st : St) (p : Prop) [Decidable p] (x y : Option (Bool × σ)) : yieldR d st (if p then x else y) = if p then yieldR d st x else yieldR d st y := by split <;> rfl

/-- An operation that may run. -/
def goO (d : Option Nat) (op : AOp) (st : St) (s : σ) : Option (St × σ) := match op with
  | .call f args => match opd st.fr f with
    | .yield => match toPs (args.map (opd st.fr)) with
      | some ps => yieldR d st (Y ps s)
      | none => none
    | _ => putR d st s ((exec1 E base st.mem.length st.fr op).run st.mem)
  | _ => putR d st s ((exec1 E base st.mem.length st.fr op).run st.mem)

/-- An operation behind a guard. -/
def guardO (x : V) (w : Bool) (d : Option Nat) (op : AOp) (st : St) (s : σ) : Option (St × σ) := match x with
  | .p (.v (.bool b)) => if b = w then goO E Y base d op st s else some (⟨putD st.fr d undefV, st.mem⟩, s)
  | .p (.v _) => some (⟨putD st.fr d undefV, st.mem⟩, s)
  | _ => none
theorem guardO_b (b w : Bool) (d : Option Nat) (op : AOp) (st : St) (s : σ) : guardO E Y base (.p (.v (.bool b))) w d op st s = if b = w then goO E Y base d op st s else some (⟨putD st.fr d undefV, st.mem⟩, s) := rfl

theorem guardO_tt (d : Option Nat) (op : AOp) (st : St) (s : σ) : guardO E Y base (.p (.v (.bool true))) true d op st s = goO E Y base d op st s := rfl
theorem guardO_ff (d : Option Nat) (op : AOp) (st : St) (s : σ) : guardO E Y base (.p (.v (.bool false))) false d op st s = goO E Y base d op st s := rfl
theorem guardO_tf (d : Option Nat) (op : AOp) (st : St) (s : σ) : guardO E Y base (.p (.v (.bool true))) false d op st s = some (⟨putD st.fr d undefV, st.mem⟩, s) := rfl
theorem guardO_ft (d : Option Nat) (op : AOp) (st : St) (s : σ) : guardO E Y base (.p (.v (.bool false))) true d op st s = some (⟨putD st.fr d undefV, st.mem⟩, s) := rfl

theorem step1_none (d : Option Nat) (op : AOp) (af : List Nat) (st : St) (s : σ) : step1 E Y base ⟨d, op, none, af⟩ st s = goO E Y base d op st s := by
  unfold step1 goO
  simp only [wants]
  cases op with
  | call f args =>
    simp only
    cases opd st.fr f with
    | yield =>
      simp only
      cases toPs (args.map (opd st.fr)) with
      | none => rfl
      | some ps => simp only; cases Y ps s with
        | none => rfl
        | some b => rfl
    | _ => rfl
  | _ => rfl

theorem step1_guard (d : Option Nat) (op : AOp) (g : Nat) (w : Bool) (af : List Nat) (st : St) (s : σ) : step1 E Y base ⟨d, op, some (g, w), af⟩ st s = guardO E Y base (st.fr.get g) w d op st s := by
  have key : ∀ x : V, st.fr.get g = x → step1 E Y base ⟨d, op, some (g, w), af⟩ st s = guardO E Y base x w d op st s := by
    intro x hx
    have h0 := step1_none E Y base d op af st s
    unfold step1 at h0 ⊢
    simp only [wants, hx] at h0 ⊢
    unfold guardO
    cases x with
    | p q =>
      cases q with
      | v u =>
        cases u with
        | bool b =>
          simp only
          by_cases hb : b = w
          · subst hb; simp only [beq_self_eq_true, if_true]; exact h0
          · have : (b == w) = false := by simpa using hb
            simp only [this, if_neg hb]
        | _ => rfl
      | _ => rfl
    | _ => rfl
  exact key _ rfl

theorem runOps_nil (st : St) (s : σ) : runOps E Y base [] st s = some (st, s) := rfl
theorem runOps_cons (d : Option Nat) (op : AOp) (g : Option (Nat × Bool)) (af : List Nat) (r : List AO) (st : St) (s : σ) : runOps E Y base (⟨d, op, g, af⟩ :: r) st s = thenO E Y base r (step1 E Y base ⟨d, op, g, af⟩ st s) := by
  simp only [runOps, thenO]
  cases step1 E Y base ⟨d, op, g, af⟩ st s <;> rfl

def killO (k : List Nat) (o : Option (St × σ)) : Option (St × σ) := match o with | some (st, s) => some (⟨st.fr.drop k, st.mem⟩, s) | none => none
theorem killO_some (k : List Nat) (fr : Fr) (m : List Blk) (s : σ) : killO k (some (⟨fr, m⟩, s)) = some (⟨fr.drop k, m⟩, s) := rfl
theorem killO_none (k : List Nat) : killO (σ := σ) k none = none := rfl
theorem killO_ite (k : List Nat) (p : Prop) [Decidable p] (x y : Option (St × σ)) : killO k (if p then x else y) = if p then killO k x else killO k y := by split <;> rfl

/-! ### A region whose order is open, in the order in which it stands -/

def stepS (o : AO) (st : St) : Option St := (stepD E base o st).map (·.1)
def runS : List AO → St → Option St
  | [], st => some st
  | o :: r, st => match stepS E base o st with
    | some st => runS r st
    | none => none

end

/-- What an operation may do to blocks: nothing, read, write. -/
def AOp.blk : AOp → Nat
  | .alloc _ _ | .box _ _ | .lit .grow _ _ _ _ _ | .lit .own _ _ _ _ _ | .store _ _ _ | .mkslice _ _ _ _ _ _ _ | .app _ _ _ _ _ | .call _ _ => 2
  | .load _ _ | .slice _ _ _ _ _ => 1
  | _ => 0

def AO.rs (o : AO) : List Nat := (o.guard.elim [] fun g => [g.1]) ++ o.op.slots
def AO.ws (o : AO) : List Nat := o.dst.elim [] fun d => [d]

/-- Two operations of which neither order matters, whatever the blocks are. -/
def calm2 (a b : AO) : Bool := !(meets a.ws b.ws || meets a.ws b.rs || meets a.rs b.ws) && (a.op.blk == 0 || b.op.blk == 0 || (a.op.blk == 1 && b.op.blk == 1))

def calmAll : List AO → List AO → List (List Nat) → Bool
  | [], _, _ => true
  | o :: r, done, ups =>
    let up := o.after ++ o.after.flatMap fun j => ups.getD j []
    ((done.zipIdx).all fun (d, j) => up.contains j || calm2 d o) && calmAll r (done ++ [o]) (ups ++ [up])

structure FootOk (f : Foot) (o : AO) : Prop where
  rs : ∀ x ∈ f.rs, x ∈ o.rs
  ws : ∀ x ∈ f.ws, x ∈ o.ws
  b0 : o.op.blk = 0 → f.rb = [] ∧ f.wb = []
  b1 : o.op.blk = 1 → f.wb = []

def NoBlk (m : List Blk) (x : RM Res) : Prop := x.reads m = [] ∧ ∀ r, x.run m = some r → r.ups = []
theorem NoBlk.fail (m : List Blk) : NoBlk m .fail := ⟨rfl, fun r h => by simp [RM.run] at h⟩
theorem NoBlk.ret (m : List Blk) (v : V) : NoBlk m (.ret { val := v }) := ⟨rfl, fun r h => by simp only [RM.run, Option.some.injEq] at h; subst h; rfl⟩
theorem NoBlk.lift {α : Type} (m : List Blk) (o : Option α) (f : α → V) : NoBlk m (RM.lift (o.map fun x => { val := f x })) := by
  cases o with
  | none => exact NoBlk.fail m
  | some x => exact NoBlk.ret m (f x)

theorem noBlk_of (E : Env) (base len : Nat) (fr : Fr) (op : AOp) (m : List Blk) (h : op.blk = 0) : NoBlk m (exec1 E base len fr op) := by
  cases op with
  | alloc | box | store | mkslice | app | call | load | slice => simp [AOp.blk] at h
  | lit md k n z len ps =>
    cases md with
    | pure =>
      simp only [exec1]
      repeat' (first | exact NoBlk.fail m | exact NoBlk.ret m _ | exact NoBlk.lift m _ _ | split)
    | grow => simp [AOp.blk] at h
    | own => simp [AOp.blk] at h
  | _ =>
    simp only [exec1]
    repeat' (first | exact NoBlk.fail m | exact NoBlk.ret m _ | exact NoBlk.lift m _ _ | split)

def NoUps (m : List Blk) (x : RM Res) : Prop := ∀ r, x.run m = some r → r.ups = []
theorem NoUps.fail (m : List Blk) : NoUps m .fail := fun r h => by simp [RM.run] at h
theorem NoUps.ret (m : List Blk) (v : V) : NoUps m (.ret { val := v }) := fun r h => by simp only [RM.run, Option.some.injEq] at h; subst h; rfl
theorem NoUps.lift {α : Type} (m : List Blk) (o : Option α) (f : α → V) : NoUps m (RM.lift (o.map fun x => { val := f x })) := (NoBlk.lift m o f).2
theorem NoUps.bind {α : Type} (m : List Blk) (x : RM α) (f : α → RM Res) (h : ∀ a, NoUps m (f a)) : NoUps m (x.bind f) := fun r hr => by
  rw [RM.run_bind] at hr
  cases hx : x.run m with
  | none => rw [hx] at hr; simp at hr
  | some a => rw [hx] at hr; exact h a r hr

theorem noUps_of (E : Env) (base len : Nat) (fr : Fr) (op : AOp) (m : List Blk) (h : op.blk = 1) : NoUps m (exec1 E base len fr op) := by
  cases op with
  | load n a =>
    simp only [exec1]
    repeat' (first | exact NoUps.fail m | exact NoUps.ret m _ | exact NoUps.lift m _ _ | (refine NoUps.bind m _ _ fun a => ?_) | split)
  | slice n arr x lo hi =>
    simp only [exec1]
    repeat' (first | exact NoUps.fail m | exact NoUps.ret m _ | exact NoUps.lift m _ _ | (refine NoUps.bind m _ _ fun a => ?_) | split)
  | lit md k n z len ps => cases md <;> simp [AOp.blk] at h
  | _ => simp [AOp.blk] at h

theorem stepD_foot {E : Env} {base : Nat} {o : AO} {st : St} {st' : St} {f : Foot} (h : stepD E base o st = some (st', f)) : FootOk f o := by
  unfold stepD at h
  cases hw : wants st.fr o.guard with
  | none => simp only [hw] at h; cases h
  | some b =>
    simp only [hw] at h
    cases b with
    | false =>
      simp only [Option.some.injEq, Prod.mk.injEq] at h
      obtain ⟨_, rfl⟩ := h
      refine ⟨fun x hx => ?_, fun x hx => hx, fun _ => ⟨rfl, rfl⟩, fun _ => rfl⟩
      simp only [AO.rs, List.mem_append]; exact .inl hx
    | true =>
      simp only at h
      cases hr : (exec1 E base st.mem.length st.fr o.op).run st.mem with
      | none => simp only [hr] at h; cases h
      | some r =>
        simp only [hr] at h
        split at h
        · simp only [Option.some.injEq, Prod.mk.injEq] at h
          obtain ⟨_, rfl⟩ := h
          refine ⟨fun x hx => hx, fun x hx => hx, fun hb => ?_, fun hb => ?_⟩
          · have := noBlk_of E base st.mem.length st.fr o.op st.mem hb
            exact ⟨this.1, by simp only [this.2 r hr, List.map_nil]⟩
          · have := noUps_of E base st.mem.length st.fr o.op st.mem hb
            simp only [this r hr, List.map_nil]
        · cases h

theorem meets_no {a b : List Nat} (h : ∀ x ∈ a, x ∉ b) : meets a b = false := by
  unfold meets
  rw [List.any_eq_false]
  intro x hx
  simpa using h x hx

theorem no_meets {a b : List Nat} (h : meets a b = false) : ∀ x ∈ a, x ∉ b := meets_false h

theorem calm_foot {f g : Foot} {a b : AO} (hf : FootOk f a) (hg : FootOk g b) (h : calm2 a b = true) : f.clash g = false := by
  simp only [calm2, Bool.and_eq_true, Bool.not_eq_true', Bool.or_eq_false_iff, Bool.or_eq_true, beq_iff_eq] at h
  obtain ⟨⟨⟨h1, h2⟩, h3⟩, h4⟩ := h
  simp only [Foot.clash, Bool.or_eq_false_iff]
  refine ⟨⟨⟨⟨⟨?_, ?_⟩, ?_⟩, ?_⟩, ?_⟩, ?_⟩
  · exact meets_no fun x hx hy => no_meets h1 x (hf.ws x hx) (hg.ws x hy)
  · exact meets_no fun x hx hy => no_meets h2 x (hf.ws x hx) (hg.rs x hy)
  · exact meets_no fun x hx hy => no_meets h3 x (hf.rs x hx) (hg.ws x hy)
  · rcases h4 with (h | h) | h
    · rw [(hf.b0 h).2]; rfl
    · exact meets_no fun x _ hy => by rw [(hg.b0 h).2] at hy; cases hy
    · rw [hf.b1 h.1]; rfl
  · rcases h4 with (h | h) | h
    · rw [(hf.b0 h).2]; rfl
    · exact meets_no fun x _ hy => by rw [(hg.b0 h).1] at hy; cases hy
    · rw [hf.b1 h.1]; rfl
  · rcases h4 with (h | h) | h
    · rw [(hf.b0 h).1]; rfl
    · exact meets_no fun x _ hy => by rw [(hg.b0 h).2] at hy; cases hy
    · exact meets_no fun x _ hy => by rw [hg.b1 h.2] at hy; cases hy

theorem runD_calm (E : Env) (base : Nat) : ∀ (r done : List AO) (fs : List (Nat × Foot)) (ups : List (List Nat)) (st : St), calmAll r done ups = true → (∀ j g, (j, g) ∈ fs → ∃ o, done[j]? = some o ∧ FootOk g o) →
    runD E base done.length r st fs ups = runS E base r st
  | [], _, _, _, _, _, _ => rfl
  | o :: r, done, fs, ups, st, hc, hf => by
    simp only [calmAll, Bool.and_eq_true] at hc
    simp only [runD, runS, stepS]
    cases hs : stepD E base o st with
    | none => rfl
    | some p =>
      obtain ⟨st', f⟩ := p
      simp only [Option.map_some]
      have hok := stepD_foot hs
      rw [if_pos]
      · have := runD_calm E base r (done ++ [o]) ((done.length, f) :: fs) (ups ++ [o.after ++ o.after.flatMap fun j => ups.getD j []]) st' hc.2 (by
          intro j g hjg
          rcases List.mem_cons.1 hjg with h | h
          · simp only [Prod.mk.injEq] at h
            obtain ⟨rfl, rfl⟩ := h
            exact ⟨o, by simp, hok⟩
          · obtain ⟨q, h1, h2⟩ := hf j g h
            have hlt := (List.getElem?_eq_some_iff.1 h1).1
            exact ⟨q, by rw [List.getElem?_append_left hlt]; exact h1, h2⟩)
        simpa using this
      · rw [List.all_eq_true]
        rintro ⟨j, g⟩ hjg
        obtain ⟨q, h1, h2⟩ := hf j g hjg
        have hz : (q, j) ∈ done.zipIdx := by
          rw [List.mem_zipIdx_iff_getElem?]; exact h1
        have := (List.all_eq_true.1 hc.1) (q, j) hz
        simp only [Bool.or_eq_true] at this ⊢
        rcases this with h | h
        · exact .inl h
        · exact .inr (by rw [calm_foot h2 hok h]; rfl)

/-- A region, whatever its kind, its operations in the order in which they stand. -/
theorem runReg_seq (E : Env) {σ : Type} (Y : List P → σ → Option (Bool × σ)) (id : Nat) (ops : List AO) (na : Nat) (kill : List Nat) (st : St) (s : σ) :
    runReg E Y ⟨id, ops, false, na, [], kill⟩ st s = killO kill (runOps E Y st.mem.length ops ⟨st.fr, st.mem ++ List.replicate na .hole⟩ s) := by
  simp only [runReg, freezeSlots, killO]
  cases runOps E Y st.mem.length ops ⟨st.fr, st.mem ++ List.replicate na .hole⟩ s <;> rfl

def withS {σ : Type} (s : σ) (o : Option St) : Option (St × σ) := match o with | some st => some (st, s) | none => none
theorem withS_some {σ : Type} (s : σ) (st : St) : withS s (some st) = some (st, s) := rfl
theorem withS_none {σ : Type} (s : σ) : withS s none = none := rfl
theorem withS_ite {σ : Type} (s : σ) (p : Prop) [Decidable p] (x y : Option St) : withS s (if p then x else y) = if p then withS s x else withS s y := by split <;> rfl

theorem runReg_draw (E : Env) {σ : Type} (Y : List P → σ → Option (Bool × σ)) (id : Nat) (ops : List AO) (na : Nat) (kill : List Nat) (st : St) (s : σ) (h : calmAll ops [] [] = true) :
    runReg E Y ⟨id, ops, true, na, [], kill⟩ st s = killO kill (withS s (runS E st.mem.length ops ⟨st.fr, st.mem ++ List.replicate na .hole⟩)) := by
  simp only [runReg, freezeSlots, if_true]
  have := runD_calm E st.mem.length ops [] [] [] ⟨st.fr, st.mem ++ List.replicate na .hole⟩ h (fun j g h => by cases h)
  simp only [List.length_nil] at this
  rw [this]
  cases runS E st.mem.length ops ⟨st.fr, st.mem ++ List.replicate na .hole⟩ <;> rfl

def preC (E : Env) {σ : Type} (Y : List P → σ → Option (Bool × σ)) (g : Reg) (s : σ) (o : Option St) : Option (St × σ) := match o with | some st => runReg E Y g st s | none => none
theorem preC_some (E : Env) {σ : Type} (Y : List P → σ → Option (Bool × σ)) (g : Reg) (s : σ) (st : St) : preC E Y g s (some st) = runReg E Y g st s := rfl
theorem runReg_pre (E : Env) {σ : Type} (Y : List P → σ → Option (Bool × σ)) (id : Nat) (ops : List AO) (dr : Bool) (na a : Nat) (pre kill : List Nat) (st : St) (s : σ) :
    runReg E Y ⟨id, ops, dr, na, a :: pre, kill⟩ st s = preC E Y ⟨id, ops, dr, na, [], kill⟩ s (freezeSlots (a :: pre) st) := by
  unfold runReg preC
  simp only
  cases freezeSlots (a :: pre) st with
  | none => rfl
  | some st => rfl

/-! ### A region of which some operations are held against one another while they run -/

/-- An operation, the earlier ones that its blocks are held against, and whether its own blocks are kept in mind. -/
abbrev BO := AO × List Nat × Bool

def metB (f : Foot) (g : List Nat × List Nat) : Bool := meets g.2 f.wb || meets g.2 f.rb || meets g.1 f.wb
def look (j : Nat) : List (Nat × List Nat × List Nat) → Option (List Nat × List Nat)
  | [] => none
  | (k, g) :: r => if k = j then some g else look j r
def okB (f : Foot) (done : List (Nat × List Nat × List Nat)) (J : List Nat) : Bool := J.all fun j => match look j done with | some g => !(metB f g) | none => false

def runB (E : Env) (base : Nat) : Nat → List BO → St → List (Nat × List Nat × List Nat) → Option St
  | _, [], st, _ => some st
  | i, (o, J, rc) :: r, st, done => match stepD E base o st with
    | some (st', f) => if okB f done J then runB E base (i + 1) r st' (if rc then (i, f.rb, f.wb) :: done else done) else none
    | none => none

def slotCalm (a b : AO) : Bool := !(meets a.ws b.ws || meets a.ws b.rs || meets a.rs b.ws)

/-- `done`: the operations so far. -/
def calmB : List BO → List BO → List (List Nat) → Bool
  | [], _, _ => true
  | (o, J, rc) :: r, done, ups =>
    let up := o.after ++ o.after.flatMap fun j => ups.getD j []
    ((done.zipIdx).all fun (d, j) => if J.contains j then !(up.contains j) && slotCalm d.1 o && d.2.2 else up.contains j || calm2 d.1 o) && J.all (fun j => decide (j < done.length)) && calmB r (done ++ [(o, J, rc)]) (ups ++ [up])

structure FsOk (fs : List (Nat × Foot)) (done : List BO) (dn : List (Nat × List Nat × List Nat)) : Prop where
  a : ∀ j f, (j, f) ∈ fs → ∃ o J rc, done[j]? = some (o, J, rc) ∧ FootOk f o ∧ (rc = true → look j dn = some (f.rb, f.wb))
  b : ∀ j, j < done.length → ∃ f, (j, f) ∈ fs
  c : ∀ j g, look j dn = some g → j < done.length

theorem slotCalm_clash {f g : Foot} {a b : AO} (hf : FootOk f a) (hg : FootOk g b) (h : slotCalm a b = true) : f.clash g = metB g (f.rb, f.wb) := by
  simp only [slotCalm, Bool.not_eq_true', Bool.or_eq_false_iff] at h
  obtain ⟨⟨h1, h2⟩, h3⟩ := h
  simp only [Foot.clash, metB]
  rw [meets_no fun x hx hy => no_meets h1 x (hf.ws x hx) (hg.ws x hy), meets_no fun x hx hy => no_meets h2 x (hf.ws x hx) (hg.rs x hy), meets_no fun x hx hy => no_meets h3 x (hf.rs x hx) (hg.ws x hy)]
  simp only [Bool.false_or]

theorem look_lt {n : Nat} {dn : List (Nat × List Nat × List Nat)} (h : ∀ j g, look j dn = some g → j < n) : look n dn = none := by
  cases hl : look n dn with
  | none => rfl
  | some g => exact absurd (h n g hl) (Nat.lt_irrefl n)

theorem runD_runB (E : Env) (base : Nat) : ∀ (r done : List BO) (fs : List (Nat × Foot)) (dn : List (Nat × List Nat × List Nat)) (ups : List (List Nat)) (st : St), calmB r done ups = true → FsOk fs done dn →
    runD E base done.length (r.map (·.1)) st fs ups = runB E base done.length r st dn
  | [], _, _, _, _, _, _, _ => rfl
  | (o, J, rc) :: r, done, fs, dn, ups, st, hc, hf => by
    simp only [calmB, Bool.and_eq_true] at hc
    obtain ⟨⟨hc1, hc2⟩, hc3⟩ := hc
    simp only [List.map_cons, runD, runB]
    cases hs : stepD E base o st with
    | none => rfl
    | some p =>
      obtain ⟨st', f⟩ := p
      simp only
      have hok := stepD_foot hs
      have hall : (fs.all fun (j, g) => (o.after ++ o.after.flatMap fun j => ups.getD j []).contains j || !(g.clash f)) = okB f dn J := by
        rw [Bool.eq_iff_iff]
        simp only [okB, List.all_eq_true]
        constructor
        · intro h j hj
          have hjl : j < done.length := by simpa using (List.all_eq_true.1 hc2) j hj
          obtain ⟨g, hg⟩ := hf.b j hjl
          obtain ⟨q, Jq, rq, h1, h2, h3⟩ := hf.a j g hg
          have hz : ((q, Jq, rq), j) ∈ done.zipIdx := by rw [List.mem_zipIdx_iff_getElem?]; exact h1
          have h4 := (List.all_eq_true.1 hc1) _ hz
          simp only [List.contains_eq_mem, hj, decide_true, if_true, Bool.and_eq_true] at h4
          have h5 := h (j, g) hg
          simp only [Bool.or_eq_true] at h5
          obtain ⟨⟨h6, h7⟩, h8⟩ := h4
          rw [h3 h8]
          simp only
          rcases h5 with h5 | h5
          · rw [List.contains_eq_mem] at h5; rw [Bool.not_eq_true'] at h6; rw [h6] at h5; cases h5
          · rw [slotCalm_clash h2 hok h7] at h5; exact h5
        · rintro h ⟨j, g⟩ hg
          obtain ⟨q, Jq, rq, h1, h2, h3⟩ := hf.a j g hg
          have hz : ((q, Jq, rq), j) ∈ done.zipIdx := by rw [List.mem_zipIdx_iff_getElem?]; exact h1
          have h4 := (List.all_eq_true.1 hc1) _ hz
          simp only [Bool.or_eq_true]
          by_cases hj : j ∈ J
          · simp only [List.contains_eq_mem, hj, decide_true, if_true, Bool.and_eq_true] at h4
            obtain ⟨⟨h6, h7⟩, h8⟩ := h4
            have h5 := h j hj
            rw [h3 h8] at h5
            right
            rw [slotCalm_clash h2 hok h7]; exact h5
          · simp only [List.contains_eq_mem, hj, decide_false, Bool.false_eq_true, if_false, Bool.or_eq_true] at h4
            rcases h4 with h4 | h4
            · left; simpa using h4
            · right; rw [calm_foot h2 hok h4]; rfl
      rw [hall]
      by_cases hb : okB f dn J = true
      · rw [if_pos hb, if_pos hb]
        have := runD_runB E base r (done ++ [(o, J, rc)]) ((done.length, f) :: fs) (if rc then (done.length, f.rb, f.wb) :: dn else dn) (ups ++ [o.after ++ o.after.flatMap fun j => ups.getD j []]) st' hc3 (by
          refine ⟨fun j g hjg => ?_, fun j hj => ?_, fun j g hl => ?_⟩
          · rcases List.mem_cons.1 hjg with h | h
            · simp only [Prod.mk.injEq] at h
              obtain ⟨rfl, rfl⟩ := h
              refine ⟨o, J, rc, by simp, hok, fun hr => ?_⟩
              rw [if_pos hr]; simp [look]
            · obtain ⟨q, Jq, rq, h1, h2, h3⟩ := hf.a j g h
              have hlt := (List.getElem?_eq_some_iff.1 h1).1
              refine ⟨q, Jq, rq, by rw [List.getElem?_append_left hlt]; exact h1, h2, fun hr => ?_⟩
              split
              · simp only [look]
                rw [if_neg (by omega)]; exact h3 hr
              · exact h3 hr
          · simp only [List.length_append, List.length_cons, List.length_nil] at hj
            by_cases hj' : j < done.length
            · obtain ⟨g, hg⟩ := hf.b j hj'; exact ⟨g, by simp [hg]⟩
            · exact ⟨f, by simp; left; omega⟩
          · simp only [List.length_append, List.length_cons, List.length_nil]
            split at hl
            · simp only [look] at hl
              split at hl
              · omega
              · have := hf.c j g hl; omega
            · have := hf.c j g hl; omega)
        simpa using this
      · rw [if_neg hb, if_neg hb]

theorem runReg_drawB (E : Env) {σ : Type} (Y : List P → σ → Option (Bool × σ)) (id : Nat) (ops : List AO) (bs : List BO) (na : Nat) (kill : List Nat) (st : St) (s : σ) (he : ops = bs.map (·.1)) (h : calmB bs [] [] = true) :
    runReg E Y ⟨id, ops, true, na, [], kill⟩ st s = killO kill (withS s (runB E st.mem.length 0 bs ⟨st.fr, st.mem ++ List.replicate na .hole⟩ [])) := by
  simp only [runReg, freezeSlots, if_true]
  subst he
  have := runD_runB E st.mem.length bs [] [] [] [] ⟨st.fr, st.mem ++ List.replicate na .hole⟩ h ⟨fun j f h => by simp at h, fun j h => by simp at h, fun j g h => by simp [look] at h⟩
  simp only [List.length_nil] at this
  rw [this]
  cases runB E st.mem.length 0 bs ⟨st.fr, st.mem ++ List.replicate na .hole⟩ [] <;> rfl

/-- What such an operation does, with the blocks that it reads and writes. -/
def putB (d : Option Nat) (st : St) (rs : List Nat) (o : Option Res) : Option (St × List Nat × List Nat) := match o with
  | some r => if r.extra.isEmpty && r.ups.all (fun u => u.1 < st.mem.length) then some (⟨putD st.fr d r.val, applyUps st.mem r.ups⟩, rs, r.ups.map (·.1)) else none
  | none => none
theorem putB_some (d : Option Nat) (st : St) (rs : List Nat) (v : V) (ups : List (Nat × Blk)) : putB d st rs (some ⟨v, ups, []⟩) = if ups.all (fun u => u.1 < st.mem.length) = true then some (⟨putD st.fr d v, applyUps st.mem ups⟩, rs, ups.map (·.1)) else none := by
  simp only [putB, List.isEmpty_nil, Bool.true_and]

def guardB (E : Env) (base : Nat) (x : V) (w : Bool) (d : Option Nat) (op : AOp) (st : St) : Option (St × List Nat × List Nat) := match x with
  | .p (.v (.bool b)) => if b = w then putB d st ((exec1 E base st.mem.length st.fr op).reads st.mem) ((exec1 E base st.mem.length st.fr op).run st.mem) else some (⟨putD st.fr d undefV, st.mem⟩, [], [])
  | .p (.v _) => some (⟨putD st.fr d undefV, st.mem⟩, [], [])
  | _ => none

def stepBB (E : Env) (base : Nat) (o : AO) (st : St) : Option (St × List Nat × List Nat) := match o.guard with
  | none => putB o.dst st ((exec1 E base st.mem.length st.fr o.op).reads st.mem) ((exec1 E base st.mem.length st.fr o.op).run st.mem)
  | some (g, w) => guardB E base (st.fr.get g) w o.dst o.op st

theorem stepBB_none (E : Env) (base : Nat) (d : Option Nat) (op : AOp) (af : List Nat) (st : St) : stepBB E base ⟨d, op, none, af⟩ st = putB d st ((exec1 E base st.mem.length st.fr op).reads st.mem) ((exec1 E base st.mem.length st.fr op).run st.mem) := rfl
theorem stepBB_guard (E : Env) (base : Nat) (d : Option Nat) (op : AOp) (g : Nat) (w : Bool) (af : List Nat) (st : St) : stepBB E base ⟨d, op, some (g, w), af⟩ st = guardB E base (st.fr.get g) w d op st := rfl
theorem guardB_b (E : Env) (base : Nat) (b w : Bool) (d : Option Nat) (op : AOp) (st : St) : guardB E base (.p (.v (.bool b))) w d op st = if b = w then putB d st ((exec1 E base st.mem.length st.fr op).reads st.mem) ((exec1 E base st.mem.length st.fr op).run st.mem) else some (⟨putD st.fr d undefV, st.mem⟩, [], []) := rfl
theorem guardB_tt (E : Env) (base : Nat) (d : Option Nat) (op : AOp) (st : St) : guardB E base (.p (.v (.bool true))) true d op st = putB d st ((exec1 E base st.mem.length st.fr op).reads st.mem) ((exec1 E base st.mem.length st.fr op).run st.mem) := rfl
theorem guardB_ff (E : Env) (base : Nat) (d : Option Nat) (op : AOp) (st : St) : guardB E base (.p (.v (.bool false))) false d op st = putB d st ((exec1 E base st.mem.length st.fr op).reads st.mem) ((exec1 E base st.mem.length st.fr op).run st.mem) := rfl
theorem guardB_tf (E : Env) (base : Nat) (d : Option Nat) (op : AOp) (st : St) : guardB E base (.p (.v (.bool true))) false d op st = some (⟨putD st.fr d undefV, st.mem⟩, [], []) := rfl
theorem guardB_ft (E : Env) (base : Nat) (d : Option Nat) (op : AOp) (st : St) : guardB E base (.p (.v (.bool false))) true d op st = some (⟨putD st.fr d undefV, st.mem⟩, [], []) := rfl

def okBB (rb wb : List Nat) (done : List (Nat × List Nat × List Nat)) (J : List Nat) : Bool := J.all fun j => match look j done with | some g => !(meets g.2 wb || meets g.2 rb || meets g.1 wb) | none => false

def thenB (E : Env) (base i : Nat) (r : List BO) (J : List Nat) (rc : Bool) (done : List (Nat × List Nat × List Nat)) (o : Option (St × List Nat × List Nat)) : Option St := match o with
  | some (st, rb, wb) => if okBB rb wb done J then runB E base (i + 1) r st (if rc then (i, rb, wb) :: done else done) else none
  | none => none
theorem thenB_some (E : Env) (base i : Nat) (r : List BO) (J : List Nat) (rc : Bool) (done : List (Nat × List Nat × List Nat)) (st : St) (rb wb : List Nat) :
    thenB E base i r J rc done (some (st, rb, wb)) = if okBB rb wb done J = true then runB E base (i + 1) r st (if rc then (i, rb, wb) :: done else done) else none := rfl

theorem stepD_BB (E : Env) (base : Nat) (o : AO) (st : St) : (stepD E base o st).map (fun p => (p.1, p.2.rb, p.2.wb)) = stepBB E base o st := by
  unfold stepD stepBB
  obtain ⟨d, op, g, af⟩ := o
  cases g with
  | none =>
    simp only [wants, putB]
    cases (exec1 E base st.mem.length st.fr op).run st.mem with
    | none => rfl
    | some r => simp only; split <;> rfl
  | some g =>
    obtain ⟨g, w⟩ := g
    simp only [wants]
    generalize st.fr.get g = x
    unfold guardB
    cases x with
    | p q =>
      cases q with
      | v u =>
        cases u with
        | bool b =>
          simp only
          by_cases hb : b = w
          · subst hb
            simp only [beq_self_eq_true, if_true, putB]
            cases (exec1 E base st.mem.length st.fr op).run st.mem with
            | none => rfl
            | some r => simp only; split <;> rfl
          · have : (b == w) = false := by simpa using hb
            simp only [this, if_neg hb, Option.map_some]
        | _ => rfl
      | _ => rfl
    | _ => rfl

theorem runB_nil (E : Env) (base i : Nat) (st : St) (done : List (Nat × List Nat × List Nat)) : runB E base i [] st done = some st := rfl
theorem runB_cons (E : Env) (base i : Nat) (o : AO) (J : List Nat) (rc : Bool) (r : List BO) (st : St) (done : List (Nat × List Nat × List Nat)) : runB E base i ((o, J, rc) :: r) st done = thenB E base i r J rc done (stepBB E base o st) := by
  rw [← stepD_BB]
  simp only [runB]
  cases stepD E base o st with
  | none => rfl
  | some p => obtain ⟨st', f⟩ := p; rfl

/-! ### One operation of such a region -/

section
variable (E : Env) (base : Nat)

def putS (d : Option Nat) (st : St) (o : Option Res) : Option St := match o with | some r => if r.extra.isEmpty && r.ups.all (fun u => u.1 < st.mem.length) then some ⟨putD st.fr d r.val, applyUps st.mem r.ups⟩ else none | none => none
theorem putS_some (d : Option Nat) (st : St) (v : V) (ups : List (Nat × Blk)) : putS d st (some ⟨v, ups, []⟩) = if ups.all (fun u => u.1 < st.mem.length) = true then some ⟨putD st.fr d v, applyUps st.mem ups⟩ else none := by
  simp only [putS, List.isEmpty_nil, Bool.true_and]
theorem putS_none (d : Option Nat) (st : St) : putS d st none = none := rfl
theorem putS_ite (d : Option Nat) (st : St) (p : Prop) [Decidable p] (x y : Option Res) : putS d st (if p then x else y) = if p then putS d st x else putS d st y := by split <;> rfl

def guardS (x : V) (w : Bool) (d : Option Nat) (op : AOp) (st : St) : Option St := match x with
  | .p (.v (.bool b)) => if b = w then putS d st ((exec1 E base st.mem.length st.fr op).run st.mem) else some ⟨putD st.fr d undefV, st.mem⟩
  | .p (.v _) => some ⟨putD st.fr d undefV, st.mem⟩
  | _ => none
theorem guardS_b (b w : Bool) (d : Option Nat) (op : AOp) (st : St) : guardS E base (.p (.v (.bool b))) w d op st = if b = w then putS d st ((exec1 E base st.mem.length st.fr op).run st.mem) else some ⟨putD st.fr d undefV, st.mem⟩ := rfl

theorem guardS_tt (d : Option Nat) (op : AOp) (st : St) : guardS E base (.p (.v (.bool true))) true d op st = putS d st ((exec1 E base st.mem.length st.fr op).run st.mem) := rfl
theorem guardS_ff (d : Option Nat) (op : AOp) (st : St) : guardS E base (.p (.v (.bool false))) false d op st = putS d st ((exec1 E base st.mem.length st.fr op).run st.mem) := rfl
theorem guardS_tf (d : Option Nat) (op : AOp) (st : St) : guardS E base (.p (.v (.bool true))) false d op st = some ⟨putD st.fr d undefV, st.mem⟩ := rfl
theorem guardS_ft (d : Option Nat) (op : AOp) (st : St) : guardS E base (.p (.v (.bool false))) true d op st = some ⟨putD st.fr d undefV, st.mem⟩ := rfl

theorem stepS_none (d : Option Nat) (op : AOp) (af : List Nat) (st : St) : stepS E base ⟨d, op, none, af⟩ st = putS d st ((exec1 E base st.mem.length st.fr op).run st.mem) := by
  unfold stepS stepD putS
  simp only [wants]
  cases (exec1 E base st.mem.length st.fr op).run st.mem with
  | none => rfl
  | some r => simp only; split <;> rfl

theorem stepS_guard (d : Option Nat) (op : AOp) (g : Nat) (w : Bool) (af : List Nat) (st : St) : stepS E base ⟨d, op, some (g, w), af⟩ st = guardS E base (st.fr.get g) w d op st := by
  have key : ∀ x : V, st.fr.get g = x → stepS E base ⟨d, op, some (g, w), af⟩ st = guardS E base x w d op st := by
    intro x hx
    have h0 := stepS_none E base d op af st
    unfold stepS stepD at h0 ⊢
    simp only [wants, hx] at h0 ⊢
    unfold guardS
    cases x with
    | p q =>
      cases q with
      | v u =>
        cases u with
        | bool b =>
          simp only
          by_cases hb : b = w
          · subst hb
            simp only [beq_self_eq_true, if_true]
            rw [← h0]
            cases (exec1 E base st.mem.length st.fr op).run st.mem with
            | none => rfl
            | some r => simp only; split <;> rfl
          · have : (b == w) = false := by simpa using hb
            simp only [this, if_neg hb, Option.map_some]
        | _ => rfl
      | _ => rfl
    | _ => rfl
  exact key _ rfl

def thenS (r : List AO) (o : Option St) : Option St := match o with | some st => runS E base r st | none => none
theorem thenS_some (r : List AO) (st : St) : thenS E base r (some st) = runS E base r st := rfl
theorem thenS_none (r : List AO) : thenS E base r none = none := rfl
theorem thenS_ite (r : List AO) (p : Prop) [Decidable p] (x y : Option St) : thenS E base r (if p then x else y) = if p then thenS E base r x else thenS E base r y := by split <;> rfl
theorem runS_nil (st : St) : runS E base [] st = some st := rfl
theorem runS_cons (o : AO) (r : List AO) (st : St) : runS E base (o :: r) st = thenS E base r (stepS E base o st) := by
  simp only [runS, thenS]
end

theorem run_ite {α : Type} (m : List Blk) (p : Prop) [Decidable p] (x y : RM α) : (if p then x else y).run m = if p then x.run m else y.run m := by split <;> rfl

/-! ### Functions -/

section
variable (tbl : Nat → Option AFn)

/-- What a function hands back: its results, and whether they are kept as they are. -/
def finO {σ : Type} (res : List ARes) (kp : Bool) (n0 : Nat) (o : Option (Ex × St × σ)) : Option (V × List Blk × σ) := match o with
  | some (.normal, st, s') => match finish ⟨0, res, .skip, kp⟩ n0 st with
    | some (v, m) => some (v, m, s')
    | none => none
  | some (.ret, st, s') => match finish ⟨0, res, .skip, kp⟩ n0 st with
    | some (v, m) => some (v, m, s')
    | none => none
  | _ => none

def finV {σ : Type} (s : σ) (o : Option (V × List Blk)) : Option (V × List Blk × σ) := match o with | some (v, m) => some (v, m, s) | none => none
theorem finV_some {σ : Type} (s : σ) (v : V) (m : List Blk) : finV s (some (v, m)) = some (v, m, s) := rfl
theorem finO_normal {σ : Type} (res : List ARes) (kp : Bool) (n0 : Nat) (st : St) (s : σ) : finO res kp n0 (some (.normal, st, s)) = finV s (finish ⟨0, res, .skip, kp⟩ n0 st) := rfl
theorem finO_ret {σ : Type} (res : List ARes) (kp : Bool) (n0 : Nat) (st : St) (s : σ) : finO res kp n0 (some (.ret, st, s)) = finV s (finish ⟨0, res, .skip, kp⟩ n0 st) := rfl

def callO (o : Option (V × List Blk × Unit)) : Option (V × List Blk) := match o with | some (v, m, _) => some (v, m) | none => none
theorem callO_some (v : V) (m : List Blk) (s : Unit) : callO (some (v, m, s)) = some (v, m) := rfl
def iterO {σ : Type} (o : Option (V × List Blk × σ)) : Option σ := match o with | some (_, _, s) => some s | none => none
theorem iterO_some {σ : Type} (v : V) (m : List Blk) (s : σ) : iterO (some (v, m, s)) = some s := rfl

theorem finish_af (nt : Nat) (res : List ARes) (c : AC) (kp : Bool) (n0 : Nat) (st : St) : finish ⟨nt, res, c, kp⟩ n0 st = finish ⟨0, res, .skip, kp⟩ n0 st := rfl

theorem call_fn' {id : Nat} {nt : Nat} {res : List ARes} {c : AC} {kp : Bool} (h : tbl id = some ⟨nt, res, c, kp⟩) (args : List V) (mem : List Blk) (hn : args.length ≤ nt) :
    (EL tbl).call id args mem = callO (finO res kp mem.length (U tbl noY mem.length c ⟨Fr.of nt args, mem⟩ ())) := by
  rw [call_eq, h]
  simp only [UFn, if_neg (show ¬ nt < args.length by omega)]
  unfold finO
  cases U tbl noY mem.length c ⟨Fr.of nt args, mem⟩ () with
  | none => rfl
  | some p =>
    obtain ⟨ex, st, s⟩ := p
    cases ex with
    | normal => simp only [finish_af nt]; cases finish ⟨0, res, .skip, kp⟩ mem.length st <;> rfl
    | ret => simp only [finish_af nt]; cases finish ⟨0, res, .skip, kp⟩ mem.length st <;> rfl
    | exit i => rfl

theorem iter_fn' {σ : Type} (Y : List P → σ → Option (Bool × σ)) {id : Nat} {nt : Nat} {res : List ARes} {c : AC} {kp : Bool} (h : tbl id = some ⟨nt, res, c, kp⟩) (args : List V) (mem : List Blk) (s : σ) (hn : args.length ≤ nt) :
    (EL tbl).iter σ Y id args mem s = iterO (finO res kp mem.length (U tbl Y mem.length c ⟨Fr.of nt args, mem⟩ s)) := by
  rw [iter_eq, h]
  simp only [UFn, if_neg (show ¬ nt < args.length by omega)]
  unfold finO
  cases U tbl Y mem.length c ⟨Fr.of nt args, mem⟩ s with
  | none => rfl
  | some p =>
    obtain ⟨ex, st, s⟩ := p
    cases ex with
    | normal => simp only [finish_af nt]; cases finish ⟨0, res, .skip, kp⟩ mem.length st <;> rfl
    | ret => simp only [finish_af nt]; cases finish ⟨0, res, .skip, kp⟩ mem.length st <;> rfl
    | exit i => rfl

/-- What a bounded run says holds of the run without a bound. -/
theorem U_of_run {σ : Type} {Y : List P → σ → Option (Bool × σ)} {n0 n k : Nat} {a : AC} {st : St} {s : σ} {r : Ex × St × σ} (h : runC (evalN tbl n) Y n0 k a st s = some r) : U tbl Y n0 a st s = some r :=
  (U_some tbl Y).2 ⟨k, runC_mono (EL_above tbl n) a (YLe.refl Y) n0 k k (Nat.le_refl k) st s r h⟩

theorem call_of_run {n id : Nat} {args : List V} {m : List Blk} {r : V × List Blk} (h : (evalN tbl n).call id args m = some r) : (EL tbl).call id args m = some r := (EL_call tbl).2 ⟨n, h⟩
end

theorem range1 : List.range 1 = [0] := rfl
theorem range2 : List.range 2 = [0, 1] := rfl
theorem range3 : List.range 3 = [0, 1, 2] := rfl
theorem range4 : List.range 4 = [0, 1, 2, 3] := rfl
theorem range5 : List.range 5 = [0, 1, 2, 3, 4] := rfl

/-- A function that yields the elements of a list, as long as it is asked to. -/
def feed {σ : Type} (Y : List P → σ → Option (Bool × σ)) : List (List P) → σ → Option σ
  | [], s => some s
  | x :: r, s => match Y x s with
    | some (true, s') => feed Y r s'
    | some (false, s') => some s'
    | none => none

section
variable (tbl : Nat → Option AFn) {σ : Type} (Y : List P → σ → Option (Bool × σ)) (n0 : Nat)

def outR (fr : Fr) (o : Option (Rg σ)) : Option (Ex × St × σ) := match o with | some g => some (g.out, ⟨fr, g.mem⟩, g.s) | none => none
theorem outR_some (fr : Fr) (m : List Blk) (ex : Ex) (s : σ) : outR fr (some ⟨m, ex, s⟩) = some (ex, ⟨fr, m⟩, s) := rfl

noncomputable def rangeC (fr : Fr) (params : List Nat) (assign body : AC) (s : σ) (o : Option (Nat × List V × List Blk × List Blk)) : Option (Ex × St × σ) := match o with
  | some (id, as, ms, m0) => outR fr ((EL tbl).iter (Rg σ) (UY tbl Y m0.length fr params assign body) id (.yield :: as) ms ⟨m0, .normal, s⟩)
  | none => none
theorem rangeC_some (fr : Fr) (params : List Nat) (assign body : AC) (s : σ) (id : Nat) (as : List V) (ms m0 : List Blk) : rangeC tbl Y fr params assign body s (some (id, as, ms, m0)) = outR fr ((EL tbl).iter (Rg σ) (UY tbl Y m0.length fr params assign body) id (.yield :: as) ms ⟨m0, .normal, s⟩) := rfl

theorem u_range (f : Opd) (params lift : List Nat) (assign body : AC) (st0 : St) (s : σ) :
    U tbl Y n0 (.range f params lift assign body) st0 s = rangeC tbl Y (liftAll lift st0).fr params assign body s (rangeIn f (liftAll lift st0)) := by
  rw [U_range]
  unfold rangeC outR
  cases rangeIn f (liftAll lift st0) with
  | none => rfl
  | some p => rfl

/-- A round, in the same way. -/
noncomputable def roundC (n0 : Nat) (body : AC) (o : Option (Ex × St × σ)) : Option (Bool × Rg σ) := match o with
  | some (.normal, st1, s1) => match U tbl Y n0 body st1 s1 with
    | some (ex, st2, s2) => match gc n0 ⟨⟨0, []⟩, st2.mem⟩ with
      | some st3 => some (ex == .normal, ⟨st3.mem, ex, s2⟩)
      | none => none
    | none => none
  | _ => none
noncomputable def roundE (n0 : Nat) (o : Option (Ex × St × σ)) : Option (Bool × Rg σ) := match o with
    | some (ex, st2, s2) => match gc n0 ⟨⟨0, []⟩, st2.mem⟩ with
      | some st3 => some (ex == .normal, ⟨st3.mem, ex, s2⟩)
      | none => none
    | none => none
def roundG (ex : Ex) (s : σ) (o : Option St) : Option (Bool × Rg σ) := match o with | some st3 => some (ex == .normal, ⟨st3.mem, ex, s⟩) | none => none
theorem roundC_normal (body : AC) (st : St) (s : σ) : roundC tbl Y n0 body (some (.normal, st, s)) = roundE n0 (U tbl Y n0 body st s) := rfl
theorem roundE_some (ex : Ex) (st : St) (s : σ) : roundE n0 (some (ex, st, s)) = roundG ex s (gc n0 ⟨⟨0, []⟩, st.mem⟩) := rfl
theorem roundG_normal (s : σ) (st : St) : roundG .normal s (some st) = some (true, ⟨st.mem, .normal, s⟩) := rfl
theorem roundG_exit (i : Nat) (s : σ) (st : St) : roundG (.exit i) s (some st) = some (false, ⟨st.mem, .exit i, s⟩) := rfl
theorem roundG_ret (s : σ) (st : St) : roundG .ret s (some st) = some (false, ⟨st.mem, .ret, s⟩) := rfl
theorem uy_eq (fr : Fr) (params : List Nat) (assign body : AC) (ps : List P) (m : List Blk) (s : σ) (h : ps.length = params.length) :
    UY tbl Y n0 fr params assign body ps ⟨m, .normal, s⟩ = roundC tbl Y n0 body (U tbl Y n0 assign ⟨setMany fr params (ps.map V.p), m⟩ s) := by
  unfold UY roundC
  simp only [h, and_self, if_true]
  rfl
end

/-! ### Facts about lists that rounds use -/

theorem drop_cons_facts {α : Type} {l : List α} {k : Nat} {x : α} {r : List α} (h : l.drop k = x :: r) : l[k]? = some x ∧ k < l.length ∧ l.drop (k + 1) = r := by
  have hk : k < l.length := by
    apply Nat.lt_of_not_le
    intro hle
    rw [List.drop_eq_nil_of_le hle] at h; cases h
  rw [List.drop_eq_getElem_cons hk] at h
  simp only [List.cons.injEq] at h
  exact ⟨by rw [List.getElem?_eq_getElem hk, h.1], hk, h.2⟩

theorem drop_nil_facts {α : Type} {l : List α} {k : Nat} (h : l.drop k = []) : l.length ≤ k := by
  simpa using h

theorem strips_p : ∀ (l : List P), (l.map V.p).map V.strip = l.map V.p
  | [] => rfl
  | x :: r => by simp only [List.map_cons, strips_p r, V.strip, V.toP]

theorem natlt {k n : Nat} (h : k < n) : ((k : Int) < (n : Int)) = True := by simp; exact h
theorem natnlt {k n : Nat} (h : n ≤ k) : ((k : Int) < (n : Int)) = False := by simp; exact h
theorem nat0 (k : Nat) : (0 ≤ (k : Int)) = True := by simp
theorem succ64 {k : Nat} (h : k < 9223372036854775807) : IntKind.wrap .i64 ((k : Int) + 1) = ((k + 1 : Nat) : Int) := by
  rw [wrap64 (by omega) (by omega)]; omega

theorem allCell_pi : ∀ (d : List Int), ((d.map Pi).map V.p).all V.isCell = true
  | [] => rfl
  | x :: r => by simp only [List.map_cons, List.all_cons, allCell_pi r, V.isCell, scalarCell, Bool.and_self]
theorem setRange_nil (cs : List V) : setRange cs 0 [] = cs := by simp [setRange]
theorem setRange_zero (c : V) (cs : List V) (v : V) (vs : List V) : setRange (c :: cs) 0 (v :: vs) = v :: setRange cs 0 vs := by simp [setRange]
theorem setRange_succ (c : V) (cs : List V) (k : Nat) (vs : List V) : setRange (c :: cs) (k + 1) vs = c :: setRange cs k vs := by
  simp only [setRange, List.take_succ_cons, List.cons_append]
  rw [show k + 1 + vs.length = (k + vs.length) + 1 by omega, List.drop_succ_cons]
theorem setRange_full {cs vs : List V} (h : cs.length = vs.length) : setRange cs 0 vs = vs := by simp [setRange, h]
theorem opens_p (i : Nat) (ps : List P) : ∀ (l : List P), opens i ps (l.map V.p) = some (l.map V.p)
  | [] => rfl
  | x :: r => by simp only [List.map_cons, opens, V.open_, opens_p i ps r]
/-- A store into a row of cells that are data. -/
theorem setRange_p {l : List P} {i : Nat} {x : P} (h : i < l.length) : setRange (l.map V.p) i [.p x] = (l.set i x).map V.p := by
  unfold setRange
  rw [List.map_set]
  simp only [List.length_cons, List.length_nil, Nat.zero_add]
  rw [List.set_eq_take_append_cons_drop, if_pos (by simpa using h)]
  simp
theorem chunk0 : ∀ (n : Nat) (l : List P), l.length = n → chunk 0 n l = l
  | 0, l, h => by simp [chunk, List.eq_nil_of_length_eq_zero h]
  | n + 1, [], h => by simp at h
  | n + 1, x :: r, h => by
    simp only [chunk, sz, if_true, List.headD_cons, List.drop_succ_cons, List.drop_zero]
    rw [chunk0 n r (by simpa using h)]
theorem chunk0_take : ∀ (n : Nat) (l : List P), n ≤ l.length → chunk 0 n l = l.take n
  | 0, l, h => by simp [chunk]
  | n + 1, [], h => by simp at h
  | n + 1, x :: r, h => by
    simp only [chunk, sz, if_true, List.headD_cons, List.drop_succ_cons, List.drop_zero, List.take_succ_cons]
    rw [chunk0_take n r (by simpa using h)]

attribute [go_sem] allCell_pi u_seq u_cond u_block u_reg U_skip U_exit U_ret thenC_normal thenC_exit thenC_ret thenC_none condC_true condC_false blockC_normal blockC_ret blockC_none blockC_exit regC_some regC_none loopC_normal loopC_exit loopC_ret loopC_none u_range rangeC_some outR_some roundC_normal roundE_some roundG_normal roundG_exit roundG_ret thenO_some thenO_none putR_some putR_none yieldR_some yieldR_none guardO_tt guardO_tf guardO_ft guardO_ff step1_none step1_guard runOps_nil runOps_cons killO_some killO_none goO runReg_seq runReg_pre preC_some withS_some withS_none putS_some putS_none guardS_tt guardS_tf guardS_ft guardS_ff stepS_none stepS_guard thenS_some thenS_none runS_nil runS_cons run_ite runB_nil runB_cons thenB_some stepBB_none stepBB_guard putB_some guardB_tt guardB_tf guardB_ft guardB_ff okBB look meets RM.reads List.any_nil List.any_cons List.contains_cons Bool.or_false Bool.false_or Bool.or_self bne_self_eq_false finV_some finO_normal finO_ret callO_some iterO_some Fr.of numF Fr.get getF_nil getF_cons putF_nil putF_cons put_mk drop_nil drop_cons dropF_nil dropF_cons inL_nil inL_cons keepOnly Fr.keep keepF_nil keepF_cons setMany putD freezeSlots freezeAll exec1 opd i64 bound RM.run RM.lift RM.bind atHole getC applyUps setRange_nil setRange_zero setRange_succ setRange_p freeze1 V.open_ opens openBlks opens_p setRange_full fillV rep chunk toPs V.toP V.cells? V.agg? V.isCell scalarCell P.cells sz binV binI unV mmV eqCells oneOrTuple resVs resV finish V.strip srcOf srcCells callee callF reach readAll nd noYs V.noY Blk.noY rens V.ren renBlks Blk.ren V.ids idss Fr.vals Fr.map? mapF liftAll lift1 inner Zc.toV undefV undefP gc_clean idss_p noYs_p rens_p toPs_p strips_p nat0 Int.toNat_natCast if_false if_true Nat.lt_irrefl Nat.zero_add Nat.add_zero Nat.zero_mul Nat.mul_zero Nat.one_mul Nat.mul_one Nat.le_refl Nat.zero_le Option.map_some Option.map_none Option.bind_some Option.bind_none Option.elim Option.some.injEq Bool.false_eq_true Bool.true_eq_false Bool.true_and Bool.and_true Bool.and_self Bool.not_true Bool.not_false beq_self_eq_true decide_true decide_false decide_eq_true_eq gt_iff_lt ge_iff_le decide_eq_false_iff_not ite_true ite_false ite_not not_true_eq_false not_false_eq_true and_self and_true true_and and_false false_and List.length_cons List.length_nil List.length_map List.length_append List.length_replicate List.map_cons List.map_nil List.append_nil List.nil_append List.cons_append List.all_nil List.all_cons List.zip_nil_left List.zip_nil_right List.zip_cons_cons List.take_nil List.drop_nil List.take_zero List.drop_zero List.take_succ_cons List.drop_succ_cons List.reverse_nil List.reverse_cons List.replicate_zero List.replicate_succ List.getElem?_cons_zero List.getElem?_cons_succ List.getElem?_nil List.getElem?_map List.set_cons_zero List.set_cons_succ List.head?_cons List.headD_cons List.contains_nil List.filter_nil List.range_zero List.isEmpty_nil List.flatMap_nil List.flatMap_cons

end Go.Am
