/- The evaluator without a bound: what the bounded ones say together. -/
import Derived.Test.YtdhfhbmfdjnnjaaAmC
import Derived.Test.YtdhfhbmfdjnnjaaAmD
import Derived.Carry
import Derived.ChangeSame
import Derived.RowKit
namespace Go.Am
open Go

def OLe {α : Type} (a b : Option α) : Prop := ∀ x, a = some x → b = some x
theorem OLe.refl {α : Type} (a : Option α) : OLe a a := fun _ h => h
theorem OLe.trans {α : Type} {a b c : Option α} (h : OLe a b) (k : OLe b c) : OLe a c := fun x hx => k x (h x hx)

open Classical in
/-- What some stage says. -/
noncomputable def olim {α : Type} (f : Nat → Option α) : Option α := if h : ∃ x n, f n = some x then some h.choose else none

def Chain {α : Type} (f : Nat → Option α) : Prop := ∀ i j, i ≤ j → OLe (f i) (f j)

theorem olim_some {α : Type} {f : Nat → Option α} (hm : Chain f) {x : α} : olim f = some x ↔ ∃ n, f n = some x := by
  unfold olim
  constructor
  · intro h
    split at h
    · rename_i hx
      simp only [Option.some.injEq] at h
      rw [← h]; exact hx.choose_spec
    · cases h
  · rintro ⟨n, hn⟩
    have hx : ∃ x n, f n = some x := ⟨x, n, hn⟩
    rw [dif_pos hx]
    obtain ⟨m, hm'⟩ := hx.choose_spec
    have h1 := hm n (max n m) (by omega) _ hn
    have h2 := hm m (max n m) (by omega) _ hm'
    rw [h1] at h2
    rw [h2]

theorem olim_none {α : Type} {f : Nat → Option α} (hm : Chain f) : olim f = none ↔ ∀ n, f n = none := by
  constructor
  · intro h n
    cases hn : f n with
    | none => rfl
    | some x => rw [(olim_some hm).2 ⟨n, hn⟩] at h; cases h
  · intro h
    cases ho : olim f with
    | none => rfl
    | some x => obtain ⟨n, hn⟩ := (olim_some hm).1 ho; rw [h n] at hn; cases hn

theorem olim_ext {α : Type} {f : Nat → Option α} (hm : Chain f) {o : Option α} (h1 : ∀ n, OLe (f n) o) (h2 : ∀ x, o = some x → ∃ n, f n = some x) : olim f = o := by
  cases ho : olim f with
  | none =>
    cases o with
    | none => rfl
    | some x => obtain ⟨n, hn⟩ := h2 x rfl; rw [(olim_none hm).1 ho n] at hn; cases hn
  | some x =>
    obtain ⟨n, hn⟩ := (olim_some hm).1 ho
    exact (h1 n x hn).symm

/-! ### Orders -/

def YLe {σ : Type} (Y Y' : List P → σ → Option (Bool × σ)) : Prop := ∀ ps s, OLe (Y ps s) (Y' ps s)
theorem YLe.refl {σ : Type} (Y : List P → σ → Option (Bool × σ)) : YLe Y Y := fun _ _ => OLe.refl _

structure ELe (E E' : Env) : Prop where
  call : ∀ f args m, OLe (E.call f args m) (E'.call f args m)
  iter : ∀ (σ : Type) (Y Y' : List P → σ → Option (Bool × σ)) id args m s, YLe Y Y' → OLe (E.iter σ Y id args m s) (E'.iter σ Y' id args m s)

structure YAppr {σ : Type} (Yn : Nat → List P → σ → Option (Bool × σ)) (Y : List P → σ → Option (Bool × σ)) : Prop where
  mono : ∀ i j, i ≤ j → YLe (Yn i) (Yn j)
  lim : ∀ ps s r, Y ps s = some r → ∃ n, Yn n ps s = some r

structure Appr (En : Nat → Env) (E : Env) : Prop where
  mono : ∀ i j, i ≤ j → ELe (En i) (En j)
  call : ∀ f args m r, E.call f args m = some r → ∃ n, (En n).call f args m = some r
  iter : ∀ (σ : Type) (Yn : Nat → List P → σ → Option (Bool × σ)) Y, YAppr Yn Y → ∀ id args m s g, E.iter σ Y id args m s = some g → ∃ n, (En n).iter σ (Yn n) id args m s = some g

/-! ### One operation -/

theorem callF_dep {E : Env} {len f : Nat} {args : List V} {m : List Blk} {x : Res} (h : (callF E len f args).run m = some x) :
    ∃ as ms y, E.call f as ms = some y ∧ ∀ E' : Env, E'.call f as ms = some y → (callF E' len f args).run m = some x := by
  unfold callF at h
  rw [RM.run_bind] at h
  cases h1 : (reach 1000 (idss args) []).run m with
  | none => rw [h1] at h; simp at h
  | some idx =>
    rw [h1, Option.bind_some, RM.run_bind] at h
    cases h2 : (readAll idx).run m with
    | none => rw [h2] at h; simp at h
    | some bs =>
      rw [h2, Option.bind_some] at h
      split at h
      · rename_i hc
        split at h
        · rename_i as ms ha hm
          split at h
          · rename_i r m2 hcall
            refine ⟨as, ms, _, hcall, fun E' h' => ?_⟩
            unfold callF
            rw [RM.run_bind, h1, Option.bind_some, RM.run_bind, h2, Option.bind_some, if_pos hc]
            simp only [ha, hm, h']
            exact h
          · simp [RM.run] at h
        · simp [RM.run] at h
      · simp [RM.run] at h

theorem reads_bind {α β : Type} (m : List Blk) : ∀ (x : RM α) (f : α → RM β), (x.bind f).reads m = x.reads m ++ (match x.run m with | some a => (f a).reads m | none => [])
  | .ret a, f => by simp [RM.bind, RM.run, RM.reads]
  | .rd b k, f => by simp only [RM.bind, RM.run, RM.reads, List.cons_append]; rw [reads_bind m (k m[b]?) f]
  | .fail, f => by simp [RM.bind, RM.run, RM.reads]

theorem callF_reads (E E' : Env) (len f : Nat) (args : List V) (m : List Blk) : (callF E len f args).reads m = (callF E' len f args).reads m := by
  unfold callF
  rw [reads_bind, reads_bind]
  congr 1
  cases (reach 1000 (idss args) []).run m with
  | none => rfl
  | some idx =>
    simp only
    rw [reads_bind, reads_bind]
    congr 1
    cases (readAll idx).run m with
    | none => rfl
    | some bs =>
      simp only
      repeat' (first | rfl | split)

theorem calm_run {x : RM Res} {m : List Blk} {r : Res} (h : x.run m = some r) (hp : r.val.pan? = none) : (x.bind calm).run m = some r := by
  rw [RM.run_bind, h]
  simp only [Option.bind_some, calm, hp, RM.run]

theorem calm_reads (r : Res) (m : List Blk) : (calm r).reads m = [] := by
  unfold calm
  split <;> rfl

theorem exec1_dep {E : Env} {base len : Nat} {fr : Fr} {op : AOp} {m : List Blk} {x : Res} (h : (exec1 E base len fr op).run m = some x) :
    (∀ E' : Env, (exec1 E' base len fr op).run m = some x) ∨ ∃ f as ms y, E.call f as ms = some y ∧ ∀ E' : Env, E'.call f as ms = some y → (exec1 E' base len fr op).run m = some x := by
  cases op with
  | call f args =>
    right
    simp only [exec1] at h ⊢
    cases hc : callee (opd fr f) with
    | none => rw [hc] at h; simp [RM.run] at h
    | some p =>
      obtain ⟨id, caps⟩ := p
      rw [hc] at h
      simp only at h
      split at h
      · simp [RM.run] at h
      rename_i hcap
      obtain ⟨h, hp⟩ := run_calm h
      obtain ⟨as, ms, y, h1, h2⟩ := callF_dep h
      exact ⟨id, as, ms, y, h1, fun E' h' => by simp only [if_neg hcap]; exact calm_run (h2 E' h') hp⟩
  | _ => exact .inl fun E' => h

theorem exec1_reads (E E' : Env) (base len : Nat) (fr : Fr) (op : AOp) (m : List Blk) : (exec1 E base len fr op).reads m = (exec1 E' base len fr op).reads m := by
  cases op with
  | call f args =>
    simp only [exec1]
    split
    · split
      · rfl
      rw [reads_bind, reads_bind, callF_reads E E']
      congr 1
      split <;> split <;> first | rfl | simp only [calm_reads]
    · rfl
  | _ => rfl

theorem step1_dep {E : Env} {σ : Type} {Y : List P → σ → Option (Bool × σ)} {base : Nat} {o : AO} {st : St} {s : σ} {r : St × σ} (h : step1 E Y base o st s = some r) :
    (∀ E' Y', step1 E' Y' base o st s = some r) ∨ (∃ f as ms y, E.call f as ms = some y ∧ ∀ (E' : Env) Y', E'.call f as ms = some y → step1 E' Y' base o st s = some r) ∨
      ∃ ps s1 b, Y ps s1 = some b ∧ ∀ (E' : Env) (Y' : List P → σ → Option (Bool × σ)), Y' ps s1 = some b → step1 E' Y' base o st s = some r := by
  have key : ∀ (q : Option Res → Option (St × σ)), q none = none → q ((exec1 E base st.mem.length st.fr o.op).run st.mem) = some r →
      (∀ E' : Env, q ((exec1 E' base st.mem.length st.fr o.op).run st.mem) = some r) ∨ ∃ f as ms y, E.call f as ms = some y ∧ ∀ E' : Env, E'.call f as ms = some y → q ((exec1 E' base st.mem.length st.fr o.op).run st.mem) = some r := by
    intro q hq hr
    cases hx : (exec1 E base st.mem.length st.fr o.op).run st.mem with
    | none => rw [hx, hq] at hr; cases hr
    | some x =>
      rw [hx] at hr
      rcases exec1_dep hx with hd | ⟨f, as, ms, y, h1, h2⟩
      · exact .inl fun E' => by rw [hd E']; exact hr
      · exact .inr ⟨f, as, ms, y, h1, fun E' h' => by rw [h2 E' h']; exact hr⟩
  unfold step1 at h ⊢
  cases hw : wants st.fr o.guard with
  | none => rw [hw] at h; cases h
  | some b =>
    rw [hw] at h
    cases b with
    | false => exact .inl fun _ _ => h
    | true =>
      simp only at h ⊢
      cases hop : o.op with
      | call f args =>
        simp only [hop] at h ⊢ key
        cases ho : opd st.fr f with
        | yield =>
          simp only [ho] at h ⊢
          cases hps : toPs (args.map (opd st.fr)) with
          | none => simp only [hps] at h; cases h
          | some ps =>
            simp only [hps] at h ⊢
            cases hY : Y ps s with
            | none => simp only [hY] at h; cases h
            | some b => exact .inr (.inr ⟨ps, s, b, hY, fun E' Y' h' => by simp only [h']; rw [hY] at h; exact h⟩)
        | _ =>
          simp only [ho] at h ⊢
          rcases key (fun x => match x with | some r => some (⟨putD st.fr o.dst r.val, applyUps st.mem r.ups ++ r.extra⟩, s) | none => none) rfl h with hd | ⟨f, as, ms, y, h1, h2⟩
          · exact .inl fun E' _ => hd E'
          · exact .inr (.inl ⟨f, as, ms, y, h1, fun E' _ h' => h2 E' h'⟩)
      | _ =>
        simp only [hop] at h ⊢ key
        rcases key (fun x => match x with | some r => some (⟨putD st.fr o.dst r.val, applyUps st.mem r.ups ++ r.extra⟩, s) | none => none) rfl h with hd | ⟨f, as, ms, y, h1, h2⟩
        · exact .inl fun E' _ => hd E'
        · exact .inr (.inl ⟨f, as, ms, y, h1, fun E' _ h' => h2 E' h'⟩)

theorem stepD_dep {E : Env} {base : Nat} {o : AO} {st : St} {r : St × Foot} (h : stepD E base o st = some r) :
    (∀ E', stepD E' base o st = some r) ∨ ∃ f as ms y, E.call f as ms = some y ∧ ∀ E' : Env, E'.call f as ms = some y → stepD E' base o st = some r := by
  unfold stepD at h ⊢
  cases hw : wants st.fr o.guard with
  | none => simp only [hw] at h; cases h
  | some b =>
    simp only [hw] at h ⊢
    cases b with
    | false => exact .inl fun _ => h
    | true =>
      simp only at h ⊢
      cases hx : (exec1 E base st.mem.length st.fr o.op).run st.mem with
      | none => simp only [hx] at h; cases h
      | some x =>
        simp only [hx] at h
        rcases exec1_dep hx with hd | ⟨f, as, ms, y, h1, h2⟩
        · exact .inl fun E' => by simp only [hd E']; rw [exec1_reads E' E]; exact h
        · exact .inr ⟨f, as, ms, y, h1, fun E' h' => by simp only [h2 E' h']; rw [exec1_reads E' E]; exact h⟩

/-! ### Growing -/

section mono
variable {E E' : Env} (hE : ELe E E') {σ : Type} {Y Y' : List P → σ → Option (Bool × σ)} (hY : YLe Y Y')
include hE

include hY in
theorem step1_mono (base : Nat) (o : AO) (st : St) (s : σ) : OLe (step1 E Y base o st s) (step1 E' Y' base o st s) := fun r h => by
  rcases step1_dep h with h | ⟨f, as, ms, y, h1, h2⟩ | ⟨ps, s1, b, h1, h2⟩
  · exact h E' Y'
  · exact h2 E' Y' (hE.call _ _ _ _ h1)
  · exact h2 E' Y' (hY _ _ _ h1)

include hY in
theorem runOps_mono (base : Nat) : ∀ (l : List AO) (st : St) (s : σ), OLe (runOps E Y base l st s) (runOps E' Y' base l st s)
  | [], _, _ => OLe.refl _
  | o :: l, st, s => fun r h => by
    simp only [runOps] at h ⊢
    cases hs : step1 E Y base o st s with
    | none => simp only [hs] at h; cases h
    | some p =>
      simp only [hs] at h
      simp only [step1_mono hE hY base o st s p hs]
      exact runOps_mono base l _ _ r h

theorem stepD_mono (base : Nat) (o : AO) (st : St) : OLe (stepD E base o st) (stepD E' base o st) := fun r h => by
  rcases stepD_dep h with h | ⟨f, as, ms, y, h1, h2⟩
  · exact h E'
  · exact h2 E' (hE.call _ _ _ _ h1)

theorem runD_mono (base : Nat) : ∀ (l : List AO) (i : Nat) (st : St) (d : List (Nat × Foot)) (ups : List (List Nat)), OLe (runD E base i l st d ups) (runD E' base i l st d ups)
  | [], _, _, _, _ => OLe.refl _
  | o :: l, i, st, d, ups => fun r h => by
    simp only [runD] at h ⊢
    cases hs : stepD E base o st with
    | none => simp only [hs] at h; cases h
    | some p =>
      simp only [hs] at h
      simp only [stepD_mono hE base o st p hs]
      split at h
      · rename_i hc
        rw [if_pos hc]
        exact runD_mono base l _ _ _ _ r h
      · cases h

include hY in
theorem runReg_mono (g : Reg) (st : St) (s : σ) : OLe (runReg E Y g st s) (runReg E' Y' g st s) := fun r h => by
  unfold runReg at h ⊢
  cases hf : freezeSlots g.pre st with
  | none => simp only [hf] at h; cases h
  | some st =>
    simp only [hf] at h ⊢
    cases hd : g.draw with
    | true =>
      simp only [hd, if_true] at h ⊢
      cases hr : runD E st.mem.length 0 g.ops ⟨st.fr, st.mem ++ List.replicate g.na .hole⟩ [] [] with
      | none => simp only [hr] at h; cases h
      | some st2 => simp only [hr] at h; simp only [runD_mono hE _ _ _ _ _ _ _ hr]; exact h
    | false =>
      simp only [hd, Bool.false_eq_true, if_false] at h ⊢
      cases hr : runOps E Y st.mem.length g.ops ⟨st.fr, st.mem ++ List.replicate g.na .hole⟩ s with
      | none => simp only [hr] at h; cases h
      | some st2 => simp only [hr] at h; simp only [runOps_mono hE hY _ _ _ _ _ hr]; exact h

omit hE in
theorem loopN_mono {head : St → Option St} {b b' : St → σ → Option (Ex × St × σ)} (hb : ∀ st s, OLe (b st s) (b' st s)) : ∀ (k k' : Nat), k ≤ k' → ∀ st s, OLe (loopN head b k st s) (loopN head b' k' st s)
  | 0, _, _, _, _ => fun r h => by simp [loopN] at h
  | k + 1, 0, hk, _, _ => absurd hk (by omega)
  | k + 1, k' + 1, hk, st, s => fun r h => by
    simp only [loopN] at h ⊢
    cases hh : head st with
    | none => simp only [hh] at h; cases h
    | some st1 =>
      simp only [hh] at h ⊢
      cases hx : b st1 s with
      | none => simp only [hx] at h; cases h
      | some p =>
        simp only [hx] at h
        simp only [hb _ _ _ hx]
        split at h
        · exact loopN_mono hb k k' (by omega) _ _ r h
        · rename_i hne
          first | exact h | (split; · (rename_i st' s' e; exact absurd e (hne st' s')); · exact h)
end mono

/-- The rounds of a range over a function. -/
def rangeY (E : Env) {σ : Type} (Y : List P → σ → Option (Bool × σ)) (n0 k : Nat) (fr : Fr) (params : List Nat) (assign body : AC) : List P → Rg σ → Option (Bool × Rg σ) := fun ps g =>
  if g.out = .normal ∧ ps.length = params.length then
    match runC E Y n0 k assign ⟨setMany fr params (ps.map V.p), g.mem⟩ g.s with
    | some (.normal, st1, s1) => match runC E Y n0 k body st1 s1 with
      | some (ex, st2, s2) => if ex.isPan then none else match gc n0 ⟨⟨0, []⟩, st2.mem⟩ with
        | some st3 => some (ex == .normal, ⟨st3.mem, ex, s2⟩)
        | none => none
      | none => none
    | _ => none
  else none

/-- What a range over a function calls: the function, its captures and the blocks that they come to, and what is left. -/
def rangeIn (f : Opd) (st : St) : Option (Nat × List V × List Blk × List Blk) :=
  match callee (opd st.fr f) with
  | none => none
  | some (id, caps) =>
    if 3000000000 ≤ id then none else
    match ((reach 1000 (idss caps) []).bind fun idx => (readAll idx).bind fun bs => .ret (idx, bs)).run st.mem with
    | none => none
    | some (idx, bs) =>
      match rens (fun i => idx.idxOf? i) caps, renBlks (fun i => idx.idxOf? i) bs with
      | some as, some ms => if nd idx && noYs caps && bs.all Blk.noY then some (id, as, ms, applyUps st.mem (idx.map fun i => (i, Blk.dead))) else none
      | _, _ => none

theorem runC_range (E : Env) {σ : Type} (Y : List P → σ → Option (Bool × σ)) (n0 k : Nat) (f : Opd) (params lift : List Nat) (assign body : AC) (st0 : St) (s : σ) :
    runC E Y n0 k (.range f params lift assign body) st0 s =
      match rangeIn f (liftAll lift st0) with
      | some (id, as, ms, m0) => match E.iter (Rg σ) (rangeY E Y m0.length k (liftAll lift st0).fr params assign body) id (.yield :: as) ms ⟨m0, .normal, s⟩ with
        | some g => if g.out.isPan then none else some (g.out, ⟨(liftAll lift st0).fr, g.mem⟩, g.s)
        | none => none
      | none => none := by
  simp only [runC, rangeIn]
  cases hc : callee (opd (liftAll lift st0).fr f) with
  | none => simp only [hc]
  | some p =>
    obtain ⟨id, caps⟩ := p
    simp only [hc]
    by_cases hid : 3000000000 ≤ id
    · simp only [if_pos hid]
    simp only [if_neg hid]
    cases hr : ((reach 1000 (idss caps) []).bind fun idx => (readAll idx).bind fun bs => RM.ret (idx, bs)).run (liftAll lift st0).mem with
    | none => simp only [hr]
    | some q =>
      obtain ⟨idx, bs⟩ := q
      simp only [hr]
      cases h1 : rens (fun i => idx.idxOf? i) caps with
      | none => simp only [h1]
      | some as =>
        cases h2 : renBlks (fun i => idx.idxOf? i) bs with
        | none => simp only [h1, h2]
        | some ms =>
          simp only [h1, h2]
          by_cases h3 : (nd idx && noYs caps && bs.all Blk.noY) = true
          · simp only [if_pos h3]; rfl
          · simp only [if_neg h3]

theorem methR_dep {E : Env} {af : AFn} {args : List V} {mem : List Blk} {r : V × List Blk} (h : methR E af args mem = some r) : ∃ f as, E.call f as mem = some r ∧ ∀ E' : Env, E'.call f as mem = some r → methR E' af args mem = some r := by
  unfold methR at h
  split at h
  · rename_i heq
    split at h
    · rename_i y hy
      refine ⟨_, _, h, fun E' h' => ?_⟩
      unfold methR
      simp only [heq, hy]; exact h'
    · cases h
  · rename_i heq
    split at h
    · rename_i id hid
      refine ⟨_, _, h, fun E' h' => ?_⟩
      unfold methR
      simp only [heq, hid]; exact h'
    · cases h
  · cases h

theorem tryO_dep {E : Env} {σ : Type} {f : Opd} {args : List Opd} {d : Option Nat} {st : St} {s : σ} {r : Ex × St × σ} (h : tryO E f args d st s = some r) :
    ∃ id as ms y, E.call id as ms = some y ∧ ∀ E' : Env, E'.call id as ms = some y → tryO E' f args d st s = some r := by
  unfold tryO at h
  split at h
  · rename_i id caps hc
    split at h
    · cases h
    rename_i hcap
    split at h
    · rename_i r1 hr
      obtain ⟨as, ms, y, h1, h2⟩ := callF_dep hr
      refine ⟨id, as, ms, y, h1, fun E' h' => ?_⟩
      unfold tryO
      simp only [hc, if_neg hcap, h2 E' h']
      exact h
    · cases h
  · cases h

section mono
variable {E E' : Env} (hE : ELe E E')
include hE

theorem trySegs_mono {σ : Type} {Y Y' : List P → σ → Option (Bool × σ)} (hY : YLe Y Y') (last : Reg) : ∀ (segs : List Seg) (st : St) (s : σ), OLe (trySegs E Y last segs st s) (trySegs E' Y' last segs st s)
  | [], st, s => fun r h => by
    simp only [trySegs] at h ⊢
    cases hg : runReg E Y last st s with
    | none => simp only [hg] at h; cases h
    | some p => simp only [hg] at h; simp only [runReg_mono hE hY last st s p hg]; exact h
  | g :: l, st, s => fun r h => by
    simp only [trySegs] at h ⊢
    cases hg : runReg E Y g.r st s with
    | none => simp only [hg] at h; cases h
    | some p =>
      simp only [hg] at h
      simp only [runReg_mono hE hY g.r st s p hg]
      cases ht : tryO E g.f g.args g.d p.1 p.2 with
      | none => rw [ht] at h; cases h
      | some q =>
        obtain ⟨id, as, ms, y, h1, h2⟩ := tryO_dep ht
        rw [h2 E' (hE.call _ _ _ _ h1)]
        rw [ht] at h
        obtain ⟨ex, st2, s2⟩ := q
        cases ex with
        | normal => exact trySegs_mono hY last l st2 s2 r h
        | _ => exact h

theorem runC_mono : ∀ (a : AC) {σ : Type} {Y Y' : List P → σ → Option (Bool × σ)} (_ : YLe Y Y') (n0 k k' : Nat) (_ : k ≤ k') (st : St) (s : σ), OLe (runC E Y n0 k a st s) (runC E' Y' n0 k' a st s) := by
  intro a
  induction a with
  | skip => intros; exact OLe.refl _
  | exit => intros; exact OLe.refl _
  | ret => intros; exact OLe.refl _
  | reg g =>
    intro σ Y Y' hY n0 k k' hk st s r h
    simp only [runC] at h ⊢
    cases hg : runReg E Y g st s with
    | none => simp only [hg] at h; cases h
    | some p => simp only [hg] at h; simp only [runReg_mono hE hY g st s p hg]; exact h
  | seq a b iha ihb =>
    intro σ Y Y' hY n0 k k' hk st s r h
    simp only [runC] at h ⊢
    cases ha : runC E Y n0 k a st s with
    | none => simp only [ha] at h; cases h
    | some p =>
      simp only [ha] at h
      simp only [iha hY n0 k k' hk st s p ha]
      split at h
      · exact ihb hY n0 k k' hk _ _ r h
      · rename_i hne
        first | exact h | (split; · (rename_i st' s' e; exact absurd e (hne st' s')); · exact h)
  | cond c a b iha ihb =>
    intro σ Y Y' hY n0 k k' hk st s r h
    simp only [runC] at h ⊢
    split at h
    · exact iha hY n0 k k' hk st s r h
    · exact ihb hY n0 k k' hk st s r h
    · cases h
  | block id a iha =>
    intro σ Y Y' hY n0 k k' hk st s r h
    simp only [runC] at h ⊢
    cases ha : runC E Y n0 k a st s with
    | none => simp only [ha] at h; cases h
    | some p =>
      simp only [ha] at h
      simp only [iha hY n0 k k' hk st s p ha]
      exact h
  | loop keep lift a iha =>
    intro σ Y Y' hY n0 k k' hk st s
    simp only [runC]
    exact loopN_mono (fun st s => iha hY n0 k k' hk st s) k k' hk st s
  | range f params lift assign body iha ihb =>
    intro σ Y Y' hY n0 k k' hk st s r h
    rw [runC_range] at h ⊢
    cases hi : rangeIn f (liftAll lift st) with
    | none => simp only [hi] at h; cases h
    | some p =>
      obtain ⟨id, as, ms, m0⟩ := p
      simp only [hi] at h ⊢
      have hle : YLe (rangeY E Y m0.length k (liftAll lift st).fr params assign body) (rangeY E' Y' m0.length k' (liftAll lift st).fr params assign body) := by
        intro ps g r h
        unfold rangeY at h ⊢
        split at h
        · rename_i hc
          rw [if_pos hc]
          cases h1 : runC E Y m0.length k assign ⟨setMany (liftAll lift st).fr params (ps.map V.p), g.mem⟩ g.s with
          | none => simp only [h1] at h; cases h
          | some p =>
            obtain ⟨ex, st1, s1⟩ := p
            simp only [h1] at h
            simp only [iha hY _ k k' hk _ _ _ h1]
            cases ex with
            | normal =>
              simp only at h ⊢
              cases h2 : runC E Y m0.length k body st1 s1 with
              | none => simp only [h2] at h; cases h
              | some q => simp only [h2] at h; simp only [ihb hY _ k k' hk _ _ _ h2]; exact h
            | _ => cases h
        · cases h
      cases hx : E.iter (Rg σ) (rangeY E Y m0.length k (liftAll lift st).fr params assign body) id (.yield :: as) ms ⟨m0, .normal, s⟩ with
      | none => simp only [hx] at h; cases h
      | some g => simp only [hx] at h; simp only [hE.iter _ _ _ _ _ _ _ hle _ hx]; exact h
  | tryc segs last =>
    intro σ Y Y' hY n0 k k' hk st s r h
    simp only [runC] at h ⊢
    exact trySegs_mono hE hY last segs st s r h
  | pani g x =>
    intro σ Y Y' hY n0 k k' hk st s r h
    simp only [runC] at h ⊢
    cases hg : runReg E Y g st s with
    | none => simp only [hg] at h; cases h
    | some p => simp only [hg] at h; simp only [runReg_mono hE hY g st s p hg]; exact h
  | dfr g f x t n body ih =>
    intro σ Y Y' hY n0 k k' hk st s r h
    simp only [runC] at h ⊢
    cases hg : runReg E Y g st s with
    | none => simp only [hg] at h; cases h
    | some p =>
      simp only [hg] at h; simp only [runReg_mono hE hY g st s p hg]
      split at h
      · cases hb : runC E Y n0 k body p.1 p.2 with
        | none => rw [hb] at h; simp [dfrO] at h
        | some q => rw [hb] at h; rw [ih hY n0 k k' hk _ _ _ hb]; exact h
      · cases h

theorem runFn_mono {σ : Type} {Y Y' : List P → σ → Option (Bool × σ)} (hY : YLe Y Y') {k k' : Nat} (hk : k ≤ k') (af : AFn) (args : List V) (m : List Blk) (s : σ) : OLe (runFn E Y k af args m s) (runFn E' Y' k' af args m s) := fun r h => by
  unfold runFn at h ⊢
  split at h
  · cases h
  · rename_i hc
    rw [if_neg hc]
    cases hr : runC E Y m.length k af.code ⟨Fr.of af.nt args, m⟩ s with
    | none => simp only [hr] at h; cases h
    | some p => simp only [hr] at h; simp only [runC_mono hE af.code hY _ k k' hk _ _ _ hr]; exact h

theorem stepE_mono (tbl : Nat → Option AFn) {k k' : Nat} (hk : k ≤ k') : ELe (stepE tbl k E) (stepE tbl k' E') where
  call f args m r h := by
    simp only [stepE] at h ⊢
    cases ht : tbl f with
    | none => simp only [ht] at h; cases h
    | some af =>
      simp only [ht] at h ⊢
      split at h
      · rename_i hge
        rw [if_pos hge]
        obtain ⟨g, as, h1, h2⟩ := methR_dep h
        exact h2 E' (hE.call _ _ _ _ h1)
      · rename_i hge
        rw [if_neg hge]
        split at h
        · exact h
        · simp only [Option.map_eq_some_iff] at h ⊢
          obtain ⟨a, h1, h2⟩ := h
          exact ⟨a, runFn_mono hE (YLe.refl _) hk af args m () a h1, h2⟩
  iter σ Y Y' id args m s hY r h := by
    simp only [stepE] at h ⊢
    cases ht : tbl id with
    | none => simp only [ht] at h; cases h
    | some af =>
      simp only [ht] at h ⊢
      split at h
      · cases h
      rename_i hge
      simp only [if_neg hge, Option.bind_eq_some_iff] at h ⊢
      obtain ⟨a, h1, h2⟩ := h
      exact ⟨a, runFn_mono hE hY hk af args m s a h1, h2⟩
end mono

theorem evalN_step (tbl : Nat → Option AFn) : ∀ n, ELe (evalN tbl n) (evalN tbl (n + 1))
  | 0 => ⟨fun _ _ _ _ h => by simp [evalN, Env.bot] at h, fun _ _ _ _ _ _ _ _ _ h => by simp [evalN, Env.bot] at h⟩
  | n + 1 => stepE_mono (evalN_step tbl n) tbl (by omega)

theorem evalN_self (tbl : Nat → Option AFn) : ∀ n, ELe (evalN tbl n) (evalN tbl n)
  | 0 => ⟨fun _ _ _ _ h => h, fun _ _ _ _ _ _ _ _ _ h => by simp [evalN, Env.bot] at h⟩
  | n + 1 => stepE_mono (evalN_self tbl n) tbl (by omega)

theorem ELe.trans {A B C : Env} (h : ELe A B) (k : ELe B C) : ELe A C :=
  ⟨fun f a m => (h.call f a m).trans (k.call f a m), fun σ Y Y' id a m s hY => (h.iter σ Y Y' id a m s hY).trans (k.iter σ Y' Y' id a m s (YLe.refl _))⟩

theorem evalN_mono (tbl : Nat → Option AFn) (i j : Nat) (h : i ≤ j) : ELe (evalN tbl i) (evalN tbl j) := by
  induction h with
  | refl => exact evalN_self tbl i
  | step _ ih => exact ih.trans (evalN_step tbl _)

/-! ### Going to the limit -/

section cont
variable {En : Nat → Env} {E : Env} (hE : Appr En E)
include hE

theorem step1_cont {σ : Type} {Yn : Nat → List P → σ → Option (Bool × σ)} {Y : List P → σ → Option (Bool × σ)} (hY : YAppr Yn Y) {base : Nat} {o : AO} {st : St} {s : σ} {r : St × σ} (h : step1 E Y base o st s = some r) :
    ∃ n, step1 (En n) (Yn n) base o st s = some r := by
  rcases step1_dep h with h | ⟨f, as, ms, y, h1, h2⟩ | ⟨ps, s1, b, h1, h2⟩
  · exact ⟨0, h _ _⟩
  · obtain ⟨n, hn⟩ := hE.call _ _ _ _ h1; exact ⟨n, h2 _ _ hn⟩
  · obtain ⟨n, hn⟩ := hY.lim _ _ _ h1; exact ⟨n, h2 _ _ hn⟩

theorem runOps_cont {σ : Type} {Yn : Nat → List P → σ → Option (Bool × σ)} {Y : List P → σ → Option (Bool × σ)} (hY : YAppr Yn Y) {base : Nat} : ∀ (l : List AO) {st : St} {s : σ} {r : St × σ}, runOps E Y base l st s = some r →
    ∃ n, runOps (En n) (Yn n) base l st s = some r
  | [], _, _, _, h => ⟨0, h⟩
  | o :: l, st, s, r, h => by
    simp only [runOps] at h ⊢
    cases hs : step1 E Y base o st s with
    | none => simp only [hs] at h; cases h
    | some p =>
      simp only [hs] at h
      obtain ⟨n1, h1⟩ := step1_cont hE hY hs
      obtain ⟨n2, h2⟩ := runOps_cont hY l h
      refine ⟨max n1 n2, ?_⟩
      have k1 := step1_mono (hE.mono n1 (max n1 n2) (by omega)) (hY.mono n1 (max n1 n2) (by omega)) base o st s _ h1
      have k2 := runOps_mono (hE.mono n2 (max n1 n2) (by omega)) (hY.mono n2 (max n1 n2) (by omega)) base l _ _ _ h2
      simp only [k1]; exact k2

theorem runD_cont {base : Nat} : ∀ (l : List AO) {i : Nat} {st : St} {d : List (Nat × Foot)} {ups : List (List Nat)} {r : St}, runD E base i l st d ups = some r → ∃ n, runD (En n) base i l st d ups = some r
  | [], _, _, _, _, _, h => ⟨0, h⟩
  | o :: l, i, st, d, ups, r, h => by
    simp only [runD] at h ⊢
    cases hs : stepD E base o st with
    | none => simp only [hs] at h; cases h
    | some p =>
      simp only [hs] at h
      have h1 : ∃ n, stepD (En n) base o st = some p := by
        rcases stepD_dep hs with h | ⟨f, as, ms, y, h1, h2⟩
        · exact ⟨0, h _⟩
        · obtain ⟨n, hn⟩ := hE.call _ _ _ _ h1; exact ⟨n, h2 _ hn⟩
      obtain ⟨n1, h1⟩ := h1
      split at h
      · rename_i hc
        obtain ⟨n2, h2⟩ := runD_cont l h
        refine ⟨max n1 n2, ?_⟩
        have k1 := stepD_mono (hE.mono n1 (max n1 n2) (by omega)) base o st _ h1
        have k2 := runD_mono (hE.mono n2 (max n1 n2) (by omega)) base l _ _ _ _ _ h2
        simp only [k1]
        rw [if_pos hc]; exact k2
      · cases h

theorem runReg_cont {σ : Type} {Yn : Nat → List P → σ → Option (Bool × σ)} {Y : List P → σ → Option (Bool × σ)} (hY : YAppr Yn Y) {g : Reg} {st : St} {s : σ} {r : St × σ} (h : runReg E Y g st s = some r) :
    ∃ n, runReg (En n) (Yn n) g st s = some r := by
  unfold runReg at h ⊢
  cases hf : freezeSlots g.pre st with
  | none => simp only [hf] at h; cases h
  | some st =>
    simp only [hf] at h ⊢
    cases hd : g.draw with
    | true =>
      simp only [hd, if_true] at h ⊢
      cases hr : runD E st.mem.length 0 g.ops ⟨st.fr, st.mem ++ List.replicate g.na .hole⟩ [] [] with
      | none => simp only [hr] at h; cases h
      | some st2 => simp only [hr] at h; obtain ⟨n, hn⟩ := runD_cont hE _ hr; exact ⟨n, by simp only [hn]; exact h⟩
    | false =>
      simp only [hd, Bool.false_eq_true, if_false] at h ⊢
      cases hr : runOps E Y st.mem.length g.ops ⟨st.fr, st.mem ++ List.replicate g.na .hole⟩ s with
      | none => simp only [hr] at h; cases h
      | some st2 => simp only [hr] at h; obtain ⟨n, hn⟩ := runOps_cont hE hY _ hr; exact ⟨n, by simp only [hn]; exact h⟩

omit hE in
theorem loopN_cont {σ : Type} {head : St → Option St} {b : St → σ → Option (Ex × St × σ)} {bn : Nat → St → σ → Option (Ex × St × σ)} (hm : ∀ i j, i ≤ j → ∀ st s, OLe (bn i st s) (bn j st s))
    (hb : ∀ st s r, b st s = some r → ∃ n, bn n st s = some r) : ∀ (k : Nat) (st : St) (s : σ) (r : Ex × St × σ), loopN head b k st s = some r → ∃ n, loopN head (bn n) k st s = some r
  | 0, _, _, _, h => by simp [loopN] at h
  | k + 1, st, s, r, h => by
    simp only [loopN] at h ⊢
    cases hh : head st with
    | none => simp only [hh] at h; cases h
    | some st1 =>
      simp only [hh] at h ⊢
      cases hx : b st1 s with
      | none => simp only [hx] at h; cases h
      | some p =>
        obtain ⟨ex, st', s'⟩ := p
        simp only [hx] at h
        obtain ⟨n1, h1⟩ := hb _ _ _ hx
        cases ex with
        | normal =>
          obtain ⟨n2, h2⟩ := loopN_cont hm hb k _ _ r h
          refine ⟨max n1 n2, ?_⟩
          simp only [hm n1 (max n1 n2) (by omega) _ _ _ h1]
          exact loopN_mono (hm n2 (max n1 n2) (by omega)) k k (by omega) _ _ _ h2
        | exit id => exact ⟨n1, by simp only [h1]; exact h⟩
        | ret => exact ⟨n1, by simp only [h1]; exact h⟩
        | pan t xs => exact ⟨n1, by simp only [h1]; exact h⟩

theorem trySegs_cont {σ : Type} {Yn : Nat → List P → σ → Option (Bool × σ)} {Y : List P → σ → Option (Bool × σ)} (hY : YAppr Yn Y) (last : Reg) : ∀ (segs : List Seg) (st : St) (s : σ) (r : Ex × St × σ), trySegs E Y last segs st s = some r → ∃ n, trySegs (En n) (Yn n) last segs st s = some r
  | [], st, s, r, h => by
    simp only [trySegs] at h ⊢
    cases hg : runReg E Y last st s with
    | none => simp only [hg] at h; cases h
    | some p => simp only [hg] at h; obtain ⟨n, hn⟩ := runReg_cont hE hY hg; exact ⟨n, by simp only [hn]; exact h⟩
  | g :: l, st, s, r, h => by
    simp only [trySegs] at h ⊢
    cases hg : runReg E Y g.r st s with
    | none => simp only [hg] at h; cases h
    | some p =>
      simp only [hg] at h
      obtain ⟨n1, h1⟩ := runReg_cont hE hY hg
      cases ht : tryO E g.f g.args g.d p.1 p.2 with
      | none => rw [ht] at h; cases h
      | some q =>
        obtain ⟨id, as, ms, y, c1, c2⟩ := tryO_dep ht
        obtain ⟨n2, h2⟩ := hE.call _ _ _ _ c1
        rw [ht] at h
        obtain ⟨ex, st2, s2⟩ := q
        have base : ∀ n, n1 ≤ n → n2 ≤ n → (runReg (En n) (Yn n) g.r st s = some p ∧ tryO (En n) g.f g.args g.d p.1 p.2 = some (ex, st2, s2)) := fun n q1 q2 =>
          ⟨runReg_mono (hE.mono n1 n q1) (hY.mono n1 n q1) g.r st s p h1, c2 _ ((hE.mono n2 n q2).call _ _ _ _ h2)⟩
        cases ex with
        | normal =>
          obtain ⟨n3, h3⟩ := trySegs_cont hY last l st2 s2 r h
          refine ⟨max n3 (max n1 n2), ?_⟩
          obtain ⟨b1, b2⟩ := base (max n3 (max n1 n2)) (by omega) (by omega)
          simp only [b1, b2]
          exact trySegs_mono (hE.mono n3 _ (by omega)) (hY.mono n3 _ (by omega)) last l st2 s2 r h3
        | _ =>
          refine ⟨max n1 n2, ?_⟩
          obtain ⟨b1, b2⟩ := base (max n1 n2) (by omega) (by omega)
          simp only [b1, b2]
          exact h

theorem runC_cont : ∀ (a : AC) {σ : Type} {Yn : Nat → List P → σ → Option (Bool × σ)} {Y : List P → σ → Option (Bool × σ)} (_ : YAppr Yn Y) (n0 k : Nat) (st : St) (s : σ) (r : Ex × St × σ), runC E Y n0 k a st s = some r →
    ∃ n, runC (En n) (Yn n) n0 k a st s = some r := by
  intro a
  induction a with
  | skip => intro σ Yn Y _ n0 k st s r h; exact ⟨0, h⟩
  | exit => intro σ Yn Y _ n0 k st s r h; exact ⟨0, h⟩
  | ret => intro σ Yn Y _ n0 k st s r h; exact ⟨0, h⟩
  | reg g =>
    intro σ Yn Y hY n0 k st s r h
    simp only [runC] at h ⊢
    cases hg : runReg E Y g st s with
    | none => simp only [hg] at h; cases h
    | some p => simp only [hg] at h; obtain ⟨n, hn⟩ := runReg_cont hE hY hg; exact ⟨n, by simp only [hn]; exact h⟩
  | seq a b iha ihb =>
    intro σ Yn Y hY n0 k st s r h
    simp only [runC] at h ⊢
    cases ha : runC E Y n0 k a st s with
    | none => simp only [ha] at h; cases h
    | some p =>
      obtain ⟨ex, st', s'⟩ := p
      simp only [ha] at h
      obtain ⟨n1, h1⟩ := iha hY n0 k st s _ ha
      cases ex with
      | normal =>
        obtain ⟨n2, h2⟩ := ihb hY n0 k _ _ r h
        refine ⟨max n1 n2, ?_⟩
        simp only [runC_mono (hE.mono n1 (max n1 n2) (by omega)) a (hY.mono n1 (max n1 n2) (by omega)) n0 k k (by omega) _ _ _ h1]
        exact runC_mono (hE.mono n2 (max n1 n2) (by omega)) b (hY.mono n2 (max n1 n2) (by omega)) n0 k k (by omega) _ _ _ h2
      | exit id => exact ⟨n1, by simp only [h1]; exact h⟩
      | ret => exact ⟨n1, by simp only [h1]; exact h⟩
      | pan t xs => exact ⟨n1, by simp only [h1]; exact h⟩
  | cond c a b iha ihb =>
    intro σ Yn Y hY n0 k st s r h
    simp only [runC] at h ⊢
    split at h
    · obtain ⟨n, hn⟩ := iha hY n0 k st s r h; exact ⟨n, hn⟩
    · obtain ⟨n, hn⟩ := ihb hY n0 k st s r h; exact ⟨n, hn⟩
    · cases h
  | block id a iha =>
    intro σ Yn Y hY n0 k st s r h
    simp only [runC] at h ⊢
    cases ha : runC E Y n0 k a st s with
    | none => simp only [ha] at h; cases h
    | some p => simp only [ha] at h; obtain ⟨n, hn⟩ := iha hY n0 k st s p ha; exact ⟨n, by simp only [hn]; exact h⟩
  | loop keep lift a iha =>
    intro σ Yn Y hY n0 k st s r h
    simp only [runC] at h ⊢
    exact loopN_cont (bn := fun n st s => runC (En n) (Yn n) n0 k a st s) (fun i j hij st s => runC_mono (hE.mono i j hij) a (hY.mono i j hij) n0 k k (by omega) st s) (fun st s r h => iha hY n0 k st s r h) k st s r h
  | range f params lift assign body iha ihb =>
    intro σ Yn Y hY n0 k st s r h
    rw [runC_range] at h
    cases hi : rangeIn f (liftAll lift st) with
    | none => simp only [hi] at h; cases h
    | some p =>
      obtain ⟨id, as, ms, m0⟩ := p
      simp only [hi] at h
      have hap : YAppr (fun n => rangeY (En n) (Yn n) m0.length k (liftAll lift st).fr params assign body) (rangeY E Y m0.length k (liftAll lift st).fr params assign body) := by
        refine ⟨fun i j hij ps g r h => ?_, fun ps g r h => ?_⟩
        · unfold rangeY at h ⊢
          split at h
          · rename_i hc
            rw [if_pos hc]
            cases h1 : runC (En i) (Yn i) m0.length k assign ⟨setMany (liftAll lift st).fr params (ps.map V.p), g.mem⟩ g.s with
            | none => simp only [h1] at h; cases h
            | some p =>
              obtain ⟨ex, st1, s1⟩ := p
              simp only [h1] at h
              simp only [runC_mono (hE.mono i j hij) assign (hY.mono i j hij) _ k k (by omega) _ _ _ h1]
              cases ex with
              | normal =>
                simp only at h ⊢
                cases h2 : runC (En i) (Yn i) m0.length k body st1 s1 with
                | none => simp only [h2] at h; cases h
                | some q => simp only [h2] at h; simp only [runC_mono (hE.mono i j hij) body (hY.mono i j hij) _ k k (by omega) _ _ _ h2]; exact h
              | _ => cases h
          · cases h
        · unfold rangeY at h ⊢
          split at h
          · rename_i hc
            simp only [if_pos hc]
            cases h1 : runC E Y m0.length k assign ⟨setMany (liftAll lift st).fr params (ps.map V.p), g.mem⟩ g.s with
            | none => simp only [h1] at h; cases h
            | some p =>
              obtain ⟨ex, st1, s1⟩ := p
              simp only [h1] at h
              obtain ⟨n1, g1⟩ := iha hY m0.length k _ _ _ h1
              cases ex with
              | normal =>
                simp only at h
                cases h2 : runC E Y m0.length k body st1 s1 with
                | none => simp only [h2] at h; cases h
                | some q =>
                  simp only [h2] at h
                  obtain ⟨n2, g2⟩ := ihb hY m0.length k _ _ _ h2
                  refine ⟨max n1 n2, ?_⟩
                  simp only [runC_mono (hE.mono n1 (max n1 n2) (by omega)) assign (hY.mono n1 (max n1 n2) (by omega)) _ k k (by omega) _ _ _ g1,
                    runC_mono (hE.mono n2 (max n1 n2) (by omega)) body (hY.mono n2 (max n1 n2) (by omega)) _ k k (by omega) _ _ _ g2]
                  exact h
              | _ => cases h
          · cases h
      cases hx : E.iter (Rg σ) (rangeY E Y m0.length k (liftAll lift st).fr params assign body) id (.yield :: as) ms ⟨m0, .normal, s⟩ with
      | none => simp only [hx] at h; cases h
      | some g =>
        simp only [hx] at h
        obtain ⟨n, hn⟩ := hE.iter _ _ _ hap _ _ _ _ _ hx
        refine ⟨n, ?_⟩
        rw [runC_range]
        simp only [hi, hn]; exact h
  | tryc segs last =>
    intro σ Yn Y hY n0 k st s r h
    simp only [runC] at h ⊢
    exact trySegs_cont hE hY last segs st s r h
  | pani g x =>
    intro σ Yn Y hY n0 k st s r h
    simp only [runC] at h ⊢
    cases hg : runReg E Y g st s with
    | none => simp only [hg] at h; cases h
    | some p => simp only [hg] at h; obtain ⟨n, hn⟩ := runReg_cont hE hY hg; exact ⟨n, by simp only [hn]; exact h⟩
  | dfr g f x t n body ih =>
    intro σ Yn Y hY n0 k st s r h
    simp only [runC] at h ⊢
    cases hg : runReg E Y g st s with
    | none => simp only [hg] at h; cases h
    | some p =>
      simp only [hg] at h
      obtain ⟨n1, h1⟩ := runReg_cont hE hY hg
      split at h
      · rename_i hx
        cases hb : runC E Y n0 k body p.1 p.2 with
        | none => rw [hb] at h; simp [dfrO] at h
        | some q =>
          rw [hb] at h
          obtain ⟨n2, h2⟩ := ih hY n0 k _ _ _ hb
          refine ⟨max n1 n2, ?_⟩
          simp only [runReg_mono (hE.mono n1 (max n1 n2) (by omega)) (hY.mono n1 (max n1 n2) (by omega)) g st s p h1, hx, runC_mono (hE.mono n2 (max n1 n2) (by omega)) body (hY.mono n2 (max n1 n2) (by omega)) n0 k k (by omega) _ _ _ h2]
          exact h
      · cases h

theorem runFn_cont {σ : Type} {Yn : Nat → List P → σ → Option (Bool × σ)} {Y : List P → σ → Option (Bool × σ)} (hY : YAppr Yn Y) {k : Nat} {af : AFn} {args : List V} {m : List Blk} {s : σ} {r : V × List Blk × σ} (h : runFn E Y k af args m s = some r) :
    ∃ n, runFn (En n) (Yn n) k af args m s = some r := by
  unfold runFn at h ⊢
  split at h
  · cases h
  · rename_i hc
    simp only [if_neg hc]
    cases hr : runC E Y m.length k af.code ⟨Fr.of af.nt args, m⟩ s with
    | none => simp only [hr] at h; cases h
    | some p => simp only [hr] at h; obtain ⟨n, hn⟩ := runC_cont hE af.code hY _ k _ _ _ hr; exact ⟨n, by simp only [hn]; exact h⟩
end cont

/-- A bounded evaluator goes along with what it yields to. -/
theorem evalN_const (tbl : Nat → Option AFn) : ∀ n, Appr (fun _ => evalN tbl n) (evalN tbl n)
  | 0 => ⟨fun _ _ _ => evalN_self tbl 0, fun _ _ _ _ h => ⟨0, h⟩, fun _ _ _ _ _ _ _ _ _ h => by simp [evalN, Env.bot] at h⟩
  | n + 1 => ⟨fun _ _ _ => evalN_self tbl (n + 1), fun _ _ _ _ h => ⟨0, h⟩, fun σ Yn Y hY id args m s g h => by
    simp only [evalN, stepE] at h ⊢
    cases ht : tbl id with
    | none => simp only [ht] at h; cases h
    | some af =>
      simp only [ht] at h ⊢
      split at h
      · cases h
      rename_i hge
      simp only [if_neg hge, Option.bind_eq_some_iff] at h ⊢
      obtain ⟨a, h1, h2⟩ := h
      obtain ⟨k, hk⟩ := runFn_cont (evalN_const tbl n) hY h1
      exact ⟨k, a, hk, h2⟩⟩

/-- The evaluator without a bound. -/
noncomputable def EL (tbl : Nat → Option AFn) : Env where
  call f args m := olim fun n => (evalN tbl n).call f args m
  iter σ Y id args m s := olim fun n => (evalN tbl n).iter σ Y id args m s

section limit
variable (tbl : Nat → Option AFn)

theorem chain_call (f : Nat) (args : List V) (m : List Blk) : Chain fun n => (evalN tbl n).call f args m := fun i j h => (evalN_mono tbl i j h).call f args m
theorem chain_iter {σ : Type} (Y : List P → σ → Option (Bool × σ)) (id : Nat) (args : List V) (m : List Blk) (s : σ) : Chain fun n => (evalN tbl n).iter σ Y id args m s := fun i j h => (evalN_mono tbl i j h).iter σ Y Y id args m s (YLe.refl _)

theorem EL_call {f : Nat} {args : List V} {m : List Blk} {r : V × List Blk} : (EL tbl).call f args m = some r ↔ ∃ n, (evalN tbl n).call f args m = some r := olim_some (chain_call tbl f args m)
theorem EL_iter {σ : Type} {Y : List P → σ → Option (Bool × σ)} {id : Nat} {args : List V} {m : List Blk} {s g : σ} : (EL tbl).iter σ Y id args m s = some g ↔ ∃ n, (evalN tbl n).iter σ Y id args m s = some g := olim_some (chain_iter tbl Y id args m s)

theorem EL_appr : Appr (evalN tbl) (EL tbl) where
  mono := evalN_mono tbl
  call f args m r h := (EL_call tbl).1 h
  iter σ Yn Y hY id args m s g h := by
    obtain ⟨n, hn⟩ := (EL_iter tbl).1 h
    obtain ⟨k, hk⟩ := (evalN_const tbl n).iter σ Yn Y hY id args m s g hn
    exact ⟨max n k, (evalN_mono tbl n (max n k) (by omega)).iter σ _ _ _ _ _ _ (hY.mono k (max n k) (by omega)) _ hk⟩

theorem EL_self : ELe (EL tbl) (EL tbl) where
  call _ _ _ := OLe.refl _
  iter σ Y Y' id args m s hY r h := by
    obtain ⟨n, hn⟩ := (EL_iter tbl).1 h
    exact (EL_iter tbl).2 ⟨n, (evalN_self tbl n).iter σ Y Y' id args m s hY r hn⟩

theorem EL_above (n : Nat) : ELe (evalN tbl n) (EL tbl) where
  call f args m r h := (EL_call tbl).2 ⟨n, h⟩
  iter σ Y Y' id args m s hY r h := (EL_iter tbl).2 ⟨n, (evalN_self tbl n).iter σ Y Y' id args m s hY r h⟩

theorem EL_const : Appr (fun _ => EL tbl) (EL tbl) where
  mono _ _ _ := EL_self tbl
  call f args m r h := ⟨0, h⟩
  iter σ Yn Y hY id args m s g h := by
    obtain ⟨n, hn⟩ := (EL_iter tbl).1 h
    obtain ⟨k, hk⟩ := (evalN_const tbl n).iter σ Yn Y hY id args m s g hn
    exact ⟨k, (EL_iter tbl).2 ⟨n, hk⟩⟩

variable {σ : Type} (Y : List P → σ → Option (Bool × σ))

/-- Code without a bound. -/
noncomputable def U (n0 : Nat) (a : AC) (st : St) (s : σ) : Option (Ex × St × σ) := olim fun k => runC (EL tbl) Y n0 k a st s

theorem chain_U (n0 : Nat) (a : AC) (st : St) (s : σ) : Chain fun k => runC (EL tbl) Y n0 k a st s := fun i j h => runC_mono (EL_self tbl) a (YLe.refl Y) n0 i j h st s

theorem U_some {n0 : Nat} {a : AC} {st : St} {s : σ} {r : Ex × St × σ} : U tbl Y n0 a st s = some r ↔ ∃ k, runC (EL tbl) Y n0 k a st s = some r := olim_some (chain_U tbl Y n0 a st s)

theorem runC_up {n0 k k' : Nat} (h : k ≤ k') {a : AC} {st : St} {s : σ} {r : Ex × St × σ} (hr : runC (EL tbl) Y n0 k a st s = some r) : runC (EL tbl) Y n0 k' a st s = some r := runC_mono (EL_self tbl) a (YLe.refl Y) n0 k k' h st s r hr

theorem U_skip (n0 : Nat) (st : St) (s : σ) : U tbl Y n0 .skip st s = some (.normal, st, s) := (U_some tbl Y).2 ⟨0, rfl⟩
theorem U_exit (n0 id : Nat) (st : St) (s : σ) : U tbl Y n0 (.exit id) st s = some (.exit id, st, s) := (U_some tbl Y).2 ⟨0, rfl⟩
theorem U_ret (n0 : Nat) (st : St) (s : σ) : U tbl Y n0 .ret st s = some (.ret, st, s) := (U_some tbl Y).2 ⟨0, rfl⟩

theorem U_reg (n0 : Nat) (g : Reg) (st : St) (s : σ) : U tbl Y n0 (.reg g) st s = (match runReg (EL tbl) Y g st s with | some (st, s) => some (.normal, st, s) | none => none) :=
  olim_ext (chain_U tbl Y n0 _ st s) (fun _ x h => h) (fun x h => ⟨0, h⟩)

theorem U_seq (n0 : Nat) (a b : AC) (st : St) (s : σ) : U tbl Y n0 (.seq a b) st s = (match U tbl Y n0 a st s with | some (.normal, st', s') => U tbl Y n0 b st' s' | r => r) := by
  refine olim_ext (chain_U tbl Y n0 _ st s) (fun k r h => ?_) (fun r h => ?_)
  · simp only [runC] at h
    cases ha : runC (EL tbl) Y n0 k a st s with
    | none => simp only [ha] at h; cases h
    | some p =>
      obtain ⟨ex, st', s'⟩ := p
      simp only [ha] at h
      rw [(U_some tbl Y).2 ⟨k, ha⟩]
      cases ex with
      | normal => exact (U_some tbl Y).2 ⟨k, h⟩
      | exit id => exact h
      | ret => exact h
      | pan t xs => exact h
  · cases ha : U tbl Y n0 a st s with
    | none => rw [ha] at h; cases h
    | some p =>
      obtain ⟨ex, st', s'⟩ := p
      obtain ⟨k1, h1⟩ := (U_some tbl Y).1 ha
      rw [ha] at h
      simp only [runC]
      cases ex with
      | normal =>
        obtain ⟨k2, h2⟩ := (U_some tbl Y).1 h
        refine ⟨max k1 k2, ?_⟩
        simp only [runC_up tbl Y (show k1 ≤ max k1 k2 by omega) h1]
        exact runC_up tbl Y (by omega) h2
      | exit id => exact ⟨k1, by simp only [h1]; exact h⟩
      | ret => exact ⟨k1, by simp only [h1]; exact h⟩
      | pan t xs => exact ⟨k1, by simp only [h1]; exact h⟩

theorem U_tryc (n0 : Nat) (segs : List Seg) (last : Reg) (st : St) (s : σ) : U tbl Y n0 (.tryc segs last) st s = trySegs (EL tbl) Y last segs st s :=
  olim_ext (chain_U tbl Y n0 _ st s) (fun _ x h => h) (fun x h => ⟨0, h⟩)
theorem U_pani (n0 : Nat) (g : Reg) (x : Opd) (st : St) (s : σ) : U tbl Y n0 (.pani g x) st s = (match runReg (EL tbl) Y g st s with | some (st1, s1) => paniO x st1 s1 | none => none) :=
  olim_ext (chain_U tbl Y n0 _ st s) (fun _ x h => h) (fun x h => ⟨0, h⟩)
theorem U_dfr (n0 : Nat) (g : Reg) (f x t n : Nat) (body : AC) (st : St) (s : σ) : U tbl Y n0 (.dfr g f x t n body) st s = (match runReg (EL tbl) Y g st s with
    | some (st1, s1) => match st1.fr.get x with
      | .ptr _ _ => dfrO x t n (U tbl Y n0 body st1 s1)
      | _ => none
    | none => none) := by
  refine olim_ext (chain_U tbl Y n0 _ st s) (fun k r h => ?_) (fun r h => ?_)
  · simp only [runC] at h
    cases hg : runReg (EL tbl) Y g st s with
    | none => simp only [hg] at h; cases h
    | some p =>
      simp only [hg] at h ⊢
      split at h
      · rename_i hx
        simp only [hx]
        cases hb : runC (EL tbl) Y n0 k body p.1 p.2 with
        | none => rw [hb] at h; simp [dfrO] at h
        | some q => rw [hb] at h; rw [(U_some tbl Y).2 ⟨k, hb⟩]; exact h
      · cases h
  · cases hg : runReg (EL tbl) Y g st s with
    | none => rw [hg] at h; cases h
    | some p =>
      obtain ⟨st1, s1⟩ := p
      rw [hg] at h
      simp only at h
      split at h
      · rename_i hx
        cases hb : U tbl Y n0 body st1 s1 with
        | none => rw [hb] at h; simp [dfrO] at h
        | some q =>
          rw [hb] at h
          obtain ⟨k, hk⟩ := (U_some tbl Y).1 hb
          exact ⟨k, by simp only [runC, hg, hx, hk]; exact h⟩
      · cases h

theorem U_cond (n0 : Nat) (c : Opd) (a b : AC) (st : St) (s : σ) : U tbl Y n0 (.cond c a b) st s = (match opd st.fr c with | .p (.v (.bool true)) => U tbl Y n0 a st s | .p (.v (.bool false)) => U tbl Y n0 b st s | _ => none) := by
  refine olim_ext (chain_U tbl Y n0 _ st s) (fun k r h => ?_) (fun r h => ?_)
  · simp only [runC] at h
    split at h
    · rename_i hc; simp only [hc]; exact (U_some tbl Y).2 ⟨k, h⟩
    · rename_i hc; simp only [hc]; exact (U_some tbl Y).2 ⟨k, h⟩
    · cases h
  · simp only [runC]
    split at h
    · rename_i hc; simp only [hc]; exact (U_some tbl Y).1 h
    · rename_i hc; simp only [hc]; exact (U_some tbl Y).1 h
    · cases h

theorem U_block (n0 id : Nat) (a : AC) (st : St) (s : σ) : U tbl Y n0 (.block id a) st s = (match U tbl Y n0 a st s with | some (.exit id', st', s') => if id' = id then some (.normal, st', s') else some (.exit id', st', s') | r => r) := by
  refine olim_ext (chain_U tbl Y n0 _ st s) (fun k r h => ?_) (fun r h => ?_)
  · simp only [runC] at h
    cases ha : runC (EL tbl) Y n0 k a st s with
    | none => simp only [ha] at h; cases h
    | some p => rw [ha] at h; rw [(U_some tbl Y).2 ⟨k, ha⟩]; exact h
  · cases ha : U tbl Y n0 a st s with
    | none => rw [ha] at h; cases h
    | some p => obtain ⟨k, hk⟩ := (U_some tbl Y).1 ha; rw [ha] at h; exact ⟨k, by simp only [runC, hk]; exact h⟩

theorem U_loop (n0 : Nat) (keep lift : List Nat) (a : AC) (st : St) (s : σ) : U tbl Y n0 (.loop keep lift a) st s =
    (match gc n0 (liftAll lift ⟨keepOnly keep st.fr, st.mem⟩) with
    | some st1 => match U tbl Y n0 a st1 s with
      | some (.normal, st', s') => U tbl Y n0 (.loop keep lift a) st' s'
      | r => r
    | none => none) := by
  refine olim_ext (chain_U tbl Y n0 _ st s) (fun k r h => ?_) (fun r h => ?_)
  · cases k with
    | zero => simp [runC, loopN] at h
    | succ k =>
      simp only [runC, loopN] at h
      cases hh : gc n0 (liftAll lift ⟨keepOnly keep st.fr, st.mem⟩) with
      | none => simp only [hh] at h; cases h
      | some st1 =>
        simp only [hh] at h ⊢
        cases ha : runC (EL tbl) Y n0 (k + 1) a st1 s with
        | none => simp only [ha] at h; cases h
        | some p =>
          obtain ⟨ex, st', s'⟩ := p
          simp only [ha] at h
          rw [(U_some tbl Y).2 ⟨k + 1, ha⟩]
          cases ex with
          | normal =>
            refine (U_some tbl Y).2 ⟨k + 1, ?_⟩
            simp only [runC]
            exact loopN_mono (fun st s => OLe.refl _) k (k + 1) (by omega) _ _ _ h
          | exit id => exact h
          | ret => exact h
          | pan t xs => exact h
  · cases hh : gc n0 (liftAll lift ⟨keepOnly keep st.fr, st.mem⟩) with
    | none => rw [hh] at h; cases h
    | some st1 =>
      simp only [hh] at h
      cases ha : U tbl Y n0 a st1 s with
      | none => rw [ha] at h; cases h
      | some p =>
        obtain ⟨ex, st', s'⟩ := p
        obtain ⟨k1, h1⟩ := (U_some tbl Y).1 ha
        rw [ha] at h
        cases ex with
        | normal =>
          obtain ⟨k2, h2⟩ := (U_some tbl Y).1 h
          refine ⟨max k1 k2 + 1, ?_⟩
          simp only [runC, loopN, hh]
          simp only [runC_up tbl Y (show k1 ≤ max k1 k2 + 1 by omega) h1]
          simp only [runC] at h2
          exact loopN_mono (fun st s => runC_mono (EL_self tbl) a (YLe.refl Y) n0 _ _ (by omega) st s) k2 (max k1 k2) (by omega) _ _ _ h2
        | exit id =>
          refine ⟨k1 + 1, ?_⟩
          simp only [runC, loopN, hh]
          simp only [runC_up tbl Y (show k1 ≤ k1 + 1 by omega) h1]
          exact h
        | ret =>
          refine ⟨k1 + 1, ?_⟩
          simp only [runC, loopN, hh]
          simp only [runC_up tbl Y (show k1 ≤ k1 + 1 by omega) h1]
          exact h
        | pan t xs =>
          refine ⟨k1 + 1, ?_⟩
          simp only [runC, loopN, hh]
          simp only [runC_up tbl Y (show k1 ≤ k1 + 1 by omega) h1]
          exact h

/-- The rounds of a range over a function, without a bound. -/
noncomputable def UY (n0 : Nat) (fr : Fr) (params : List Nat) (assign body : AC) : List P → Rg σ → Option (Bool × Rg σ) := fun ps g =>
  if g.out = .normal ∧ ps.length = params.length then
    match U tbl Y n0 assign ⟨setMany fr params (ps.map V.p), g.mem⟩ g.s with
    | some (.normal, st1, s1) => match U tbl Y n0 body st1 s1 with
      | some (ex, st2, s2) => if ex.isPan then none else match gc n0 ⟨⟨0, []⟩, st2.mem⟩ with
        | some st3 => some (ex == .normal, ⟨st3.mem, ex, s2⟩)
        | none => none
      | none => none
    | _ => none
  else none

theorem rangeY_le (n0 k : Nat) (fr : Fr) (params : List Nat) (assign body : AC) : YLe (rangeY (EL tbl) Y n0 k fr params assign body) (UY tbl Y n0 fr params assign body) := by
  intro ps g r h
  unfold rangeY at h
  unfold UY
  split at h
  · rename_i hc
    rw [if_pos hc]
    cases h1 : runC (EL tbl) Y n0 k assign ⟨setMany fr params (ps.map V.p), g.mem⟩ g.s with
    | none => simp only [h1] at h; cases h
    | some p =>
      obtain ⟨ex, st1, s1⟩ := p
      simp only [h1] at h
      rw [(U_some tbl Y).2 ⟨k, h1⟩]
      cases ex with
      | normal =>
        simp only at h ⊢
        cases h2 : runC (EL tbl) Y n0 k body st1 s1 with
        | none => simp only [h2] at h; cases h
        | some q => simp only [h2] at h; rw [(U_some tbl Y).2 ⟨k, h2⟩]; exact h
      | _ => cases h
  · cases h

theorem rangeY_appr (n0 : Nat) (fr : Fr) (params : List Nat) (assign body : AC) : YAppr (fun k => rangeY (EL tbl) Y n0 k fr params assign body) (UY tbl Y n0 fr params assign body) := by
  refine ⟨fun i j hij ps g r h => ?_, fun ps g r h => ?_⟩
  · unfold rangeY at h ⊢
    split at h
    · rename_i hc
      rw [if_pos hc]
      cases h1 : runC (EL tbl) Y n0 i assign ⟨setMany fr params (ps.map V.p), g.mem⟩ g.s with
      | none => simp only [h1] at h; cases h
      | some p =>
        obtain ⟨ex, st1, s1⟩ := p
        simp only [h1] at h
        simp only [runC_up tbl Y hij h1]
        cases ex with
        | normal =>
          simp only at h ⊢
          cases h2 : runC (EL tbl) Y n0 i body st1 s1 with
          | none => simp only [h2] at h; cases h
          | some q => simp only [h2] at h; simp only [runC_up tbl Y hij h2]; exact h
        | _ => cases h
    · cases h
  · unfold UY at h
    unfold rangeY
    split at h
    · rename_i hc
      simp only [if_pos hc]
      cases h1 : U tbl Y n0 assign ⟨setMany fr params (ps.map V.p), g.mem⟩ g.s with
      | none => rw [h1] at h; cases h
      | some p =>
        obtain ⟨ex, st1, s1⟩ := p
        rw [h1] at h
        obtain ⟨n1, g1⟩ := (U_some tbl Y).1 h1
        cases ex with
        | normal =>
          simp only at h
          cases h2 : U tbl Y n0 body st1 s1 with
          | none => rw [h2] at h; cases h
          | some q =>
            rw [h2] at h
            obtain ⟨n2, g2⟩ := (U_some tbl Y).1 h2
            refine ⟨max n1 n2, ?_⟩
            simp only [runC_up tbl Y (show n1 ≤ max n1 n2 by omega) g1, runC_up tbl Y (show n2 ≤ max n1 n2 by omega) g2]
            exact h
        | _ => cases h
    · cases h

theorem U_range (n0 : Nat) (f : Opd) (params lift : List Nat) (assign body : AC) (st0 : St) (s : σ) :
    U tbl Y n0 (.range f params lift assign body) st0 s =
      (match rangeIn f (liftAll lift st0) with
      | some (id, as, ms, m0) => match (EL tbl).iter (Rg σ) (UY tbl Y m0.length (liftAll lift st0).fr params assign body) id (.yield :: as) ms ⟨m0, .normal, s⟩ with
        | some g => if g.out.isPan then none else some (g.out, ⟨(liftAll lift st0).fr, g.mem⟩, g.s)
        | none => none
      | none => none) := by
  refine olim_ext (chain_U tbl Y n0 _ st0 s) (fun k r h => ?_) (fun r h => ?_)
  · rw [runC_range] at h
    cases hi : rangeIn f (liftAll lift st0) with
    | none => simp only [hi] at h; cases h
    | some p =>
      obtain ⟨id, as, ms, m0⟩ := p
      simp only [hi] at h ⊢
      cases hx : (EL tbl).iter (Rg σ) (rangeY (EL tbl) Y m0.length k (liftAll lift st0).fr params assign body) id (.yield :: as) ms ⟨m0, .normal, s⟩ with
      | none => simp only [hx] at h; cases h
      | some g =>
        simp only [hx] at h
        rw [(EL_self tbl).iter _ _ _ _ _ _ _ (rangeY_le tbl Y _ k _ _ _ _) _ hx]
        exact h
  · cases hi : rangeIn f (liftAll lift st0) with
    | none => rw [hi] at h; cases h
    | some p =>
      obtain ⟨id, as, ms, m0⟩ := p
      simp only [hi] at h
      cases hx : (EL tbl).iter (Rg σ) (UY tbl Y m0.length (liftAll lift st0).fr params assign body) id (.yield :: as) ms ⟨m0, .normal, s⟩ with
      | none => rw [hx] at h; cases h
      | some g =>
        rw [hx] at h
        obtain ⟨k, hk⟩ := (EL_const tbl).iter _ _ _ (rangeY_appr tbl Y m0.length (liftAll lift st0).fr params assign body) _ _ _ _ _ hx
        refine ⟨k, ?_⟩
        rw [runC_range]
        simp only [hi, hk]; exact h

/-- A function without a bound. -/
noncomputable def UFn (af : AFn) (args : List V) (mem : List Blk) (s : σ) : Option (V × List Blk × σ) :=
  if af.nt < args.length then none else
  match U tbl Y mem.length af.code ⟨Fr.of af.nt args, mem⟩ s with
  | some (.normal, st, s') => match finish af mem.length st with
    | some (v, m) => some (v, m, s')
    | none => none
  | some (.ret, st, s') => match finish af mem.length st with
    | some (v, m) => some (v, m, s')
    | none => none
  | some (.pan t xs, st, s') => match gc mem.length ⟨⟨0, []⟩, st.mem⟩ with
    | some st2 => some (panV t xs, st2.mem, s')
    | none => none
  | _ => none

theorem UFn_some {af : AFn} {args : List V} {mem : List Blk} {s : σ} {r : V × List Blk × σ} : UFn tbl Y af args mem s = some r ↔ ∃ k, runFn (EL tbl) Y k af args mem s = some r := by
  constructor
  · intro h
    unfold UFn at h
    split at h
    · cases h
    · rename_i hc
      cases hu : U tbl Y mem.length af.code ⟨Fr.of af.nt args, mem⟩ s with
      | none => rw [hu] at h; cases h
      | some p => obtain ⟨k, hk⟩ := (U_some tbl Y).1 hu; rw [hu] at h; exact ⟨k, by simp only [runFn, if_neg hc, hk]; exact h⟩
  · rintro ⟨k, h⟩
    unfold runFn at h
    unfold UFn
    split at h
    · cases h
    · rename_i hc
      rw [if_neg hc]
      cases hu : runC (EL tbl) Y mem.length k af.code ⟨Fr.of af.nt args, mem⟩ s with
      | none => simp only [hu] at h; cases h
      | some p => simp only [hu] at h; rw [(U_some tbl Y).2 ⟨k, hu⟩]; exact h

theorem call_eq (id : Nat) (args : List V) (mem : List Blk) : (EL tbl).call id args mem = (match tbl id with
    | some af => if 3000000000 ≤ id then methR (EL tbl) af args mem else match splitR id args mem with
      | some r => some r
      | none => (UFn tbl noY af args mem ()).map fun (v, m, _) => (v, m)
    | none => none) := by
  refine olim_ext (chain_call tbl id args mem) (fun n r h => ?_) (fun r h => ?_)
  · cases n with
    | zero => simp [evalN, Env.bot] at h
    | succ n =>
      simp only [evalN, stepE] at h
      cases ht : tbl id with
      | none => simp only [ht] at h; cases h
      | some af =>
        simp only [ht] at h ⊢
        split at h
        · rename_i hge
          rw [if_pos hge]
          obtain ⟨g, as, h1, h2⟩ := methR_dep h
          exact h2 _ ((EL_above tbl n).call _ _ _ _ h1)
        · rename_i hge
          rw [if_neg hge]
          cases hs : splitR id args mem with
          | some r0 => rw [hs] at h; exact h
          | none =>
            rw [hs] at h
            simp only [Option.map_eq_some_iff] at h ⊢
            obtain ⟨a, h1, h2⟩ := h
            exact ⟨a, (UFn_some tbl noY).2 ⟨n, runFn_mono (EL_above tbl n) (YLe.refl _) (Nat.le_refl n) af args mem () a h1⟩, h2⟩
  · cases ht : tbl id with
    | none => rw [ht] at h; cases h
    | some af =>
      simp only [ht] at h
      split at h
      · rename_i hge
        obtain ⟨g, as, h1, h2⟩ := methR_dep h
        obtain ⟨n, hn⟩ := (EL_call tbl).1 h1
        refine ⟨n + 1, ?_⟩
        simp only [evalN, stepE, ht, if_pos hge]
        exact h2 _ hn
      · rename_i hge
        split at h
        · rename_i r0 hs
          exact ⟨1, by simp only [evalN, stepE, ht, if_neg hge, hs]; exact h⟩
        · rename_i hs
          simp only [Option.map_eq_some_iff] at h
          obtain ⟨a, h1, h2⟩ := h
          obtain ⟨k, hk⟩ := (UFn_some tbl noY).1 h1
          obtain ⟨n, hn⟩ := runFn_cont (EL_appr tbl) (Yn := fun _ => noY) (Y := noY) ⟨fun _ _ _ => YLe.refl _, fun _ _ _ h => ⟨0, h⟩⟩ hk
          refine ⟨max n k + 1, ?_⟩
          simp only [evalN, stepE, ht, if_neg hge, hs, Option.map_eq_some_iff]
          exact ⟨a, runFn_mono (evalN_mono tbl n (max n k) (by omega)) (YLe.refl _) (show k ≤ max n k by omega) af args mem () a hn, h2⟩

theorem iter_eq (id : Nat) (args : List V) (mem : List Blk) (s : σ) : (EL tbl).iter σ Y id args mem s = (match tbl id with | some af => if 3000000000 ≤ id then none else (UFn tbl Y af args mem s).bind itO | none => none) := by
  refine olim_ext (chain_iter tbl Y id args mem s) (fun n r h => ?_) (fun r h => ?_)
  · cases n with
    | zero => simp [evalN, Env.bot] at h
    | succ n =>
      simp only [evalN, stepE] at h
      cases ht : tbl id with
      | none => simp only [ht] at h; cases h
      | some af =>
        simp only [ht] at h ⊢
        split at h
        · cases h
        rename_i hge
        simp only [if_neg hge, Option.bind_eq_some_iff] at h ⊢
        obtain ⟨a, h1, h2⟩ := h
        exact ⟨a, (UFn_some tbl Y).2 ⟨n, runFn_mono (EL_above tbl n) (YLe.refl _) (Nat.le_refl n) af args mem s a h1⟩, h2⟩
  · cases ht : tbl id with
    | none => rw [ht] at h; cases h
    | some af =>
      simp only [ht] at h
      split at h
      · cases h
      rename_i hge
      simp only [Option.bind_eq_some_iff] at h
      obtain ⟨a, h1, h2⟩ := h
      obtain ⟨k, hk⟩ := (UFn_some tbl Y).1 h1
      obtain ⟨n, hn⟩ := runFn_cont (EL_appr tbl) (Yn := fun _ => Y) (Y := Y) ⟨fun _ _ _ => YLe.refl _, fun _ _ _ h => ⟨0, h⟩⟩ hk
      refine ⟨max n k + 1, ?_⟩
      simp only [evalN, stepE, ht, if_neg hge, Option.bind_eq_some_iff]
      exact ⟨a, runFn_mono (evalN_mono tbl n (max n k) (by omega)) (YLe.refl _) (show k ≤ max n k by omega) af args mem s a hn, h2⟩
end limit

end Go.Am

/- Running the machine by rewriting. -/

namespace Go.Am
open Go

theorem getF_nil (i : Nat) : getF [] i = .unk := rfl
theorem getF_cons (j : Nat) (x : V) (r : List (Nat × V)) (i : Nat) : getF ((j, x) :: r) i = if j = i then x else getF r i := by
  simp only [getF, bif_beq]
theorem putF_nil (i : Nat) (x : V) : putF [] i x = [(i, x)] := rfl
theorem putF_cons (j : Nat) (y : V) (r : List (Nat × V)) (i : Nat) (x : V) : putF ((j, y) :: r) i x = if i < j then (i, x) :: (j, y) :: r else if i = j then (i, x) :: r else (j, y) :: putF r i x := by
  simp only [putF, bif_beq, bif_blt]
theorem inL_nil (i : Nat) : inL i [] = false := rfl
theorem inL_cons (i j : Nat) (r : List Nat) : inL i (j :: r) = if j = i then true else inL i r := by
  simp only [inL, bif_beq]
theorem keepF_nil (k : List Nat) : keepF k [] = [] := rfl
theorem keepF_cons (k : List Nat) (j : Nat) (x : V) (r : List (Nat × V)) : keepF k ((j, x) :: r) = if inL j k = true then (j, x) :: keepF k r else keepF k r := by
  simp only [keepF]; cases inL j k <;> simp
theorem dropF_nil (k : List Nat) : dropF k [] = [] := rfl
theorem dropF_cons (k : List Nat) (j : Nat) (x : V) (r : List (Nat × V)) : dropF k ((j, x) :: r) = if inL j k = true then dropF k r else (j, x) :: dropF k r := by
  simp only [dropF]; cases inL j k <;> simp
theorem put_mk (n : Nat) (l : List (Nat × V)) (i : Nat) (x : V) : Fr.put ⟨n, l⟩ i x = if i < n then ⟨n, putF l i x⟩ else ⟨n, l⟩ := by
  simp only [Fr.put, bif_blt]
theorem drop_nil (fr : Fr) : fr.drop [] = fr := rfl
theorem drop_cons (fr : Fr) (k : Nat) (r : List Nat) : fr.drop (k :: r) = ⟨fr.n, dropF (k :: r) fr.l⟩ := rfl

theorem wrap64 {n : Int} (h1 : -9223372036854775808 ≤ n) (h2 : n ≤ 9223372036854775807) : IntKind.wrap .i64 n = n := by
  simp only [IntKind.wrap, IntKind.bits, IntKind.signed]
  have : (n + 9223372036854775808) % 18446744073709551616 = n + 9223372036854775808 := Int.emod_eq_of_lt (by omega) (by omega)
  simp
  omega


mutual
theorem ren_noids {ρ : Nat → Option Nat} : ∀ (x : V), x.ids = [] → x.ren ρ = some x
  | .p _, _ => rfl
  | .nil _, _ => rfl
  | .sl _ _ _, h => by simp [V.ids] at h
  | .ref _ _ _ _, h => by simp [V.ids] at h
  | .ptr _ _, h => by simp [V.ids] at h
  | .agg cs, h => by simp only [V.ids] at h; simp only [V.ren, rens_noids cs h, Option.map_some]
  | .fn _ cs, h => by simp only [V.ids] at h; simp only [V.ren, rens_noids cs h, Option.map_some]
  | .iface _ x, h => by simp only [V.ids] at h; simp only [V.ren, ren_noids x h, Option.map_some]
  | .tuple cs, h => by simp only [V.ids] at h; simp only [V.ren, rens_noids cs h, Option.map_some]
  | .yield, _ => rfl
  | .unk, _ => rfl
theorem rens_noids {ρ : Nat → Option Nat} : ∀ (xs : List V), idss xs = [] → rens ρ xs = some xs
  | [], _ => rfl
  | x :: r, h => by
    simp only [idss, List.append_eq_nil_iff] at h
    simp only [rens, ren_noids x h.1, rens_noids r h.2]
end

theorem mapF_some : ∀ (l : List (Nat × V)) (f : V → Option V), (∀ x ∈ l.map (·.2), f x = some x) → mapF f l = some l
  | [], _, _ => rfl
  | (j, x) :: r, f, h => by
    simp only [List.map_cons, List.mem_cons, forall_eq_or_imp] at h
    simp only [mapF, h.1, mapF_some r f h.2]

theorem idss_mem : ∀ {xs : List V}, idss xs = [] → ∀ x ∈ xs, x.ids = []
  | y :: r, h, x, hx => by
    simp only [idss, List.append_eq_nil_iff] at h
    rcases List.mem_cons.1 hx with rfl | hx
    · exact h.1
    · exact idss_mem h.2 x hx

/-- Values that name no block: all memory goes. -/
theorem gc_clean (n : Nat) (l : List (Nat × V)) (mem : List Blk) (h : idss (l.map (·.2)) = []) : gc 0 ⟨⟨n, l⟩, mem⟩ = some ⟨⟨n, l⟩, []⟩ := by
  have h1 : gcIdx 0 (Fr.vals ⟨n, l⟩) mem = some [] := by
    simp only [gcIdx, Fr.vals, h, List.range_zero, List.filter_nil, List.append_nil, reach, RM.run, Option.map_some, List.reverse_nil]
  simp only [gc, h1, Fr.map?]
  rw [mapF_some l _ fun x hx => ren_noids x (idss_mem h x hx)]
  simp [renBlks, nd]

theorem idss_p : ∀ (l : List P), idss (l.map V.p) = []
  | [] => rfl
  | x :: r => by simp only [List.map_cons, idss, V.ids, List.nil_append, idss_p r]
theorem noYs_p : ∀ (l : List P), noYs (l.map V.p) = true
  | [] => rfl
  | x :: r => by simp only [List.map_cons, noYs, V.noY, Bool.true_and, noYs_p r]
theorem toPs_p : ∀ (l : List P), toPs (l.map V.p) = some l
  | [] => rfl
  | x :: r => by simp only [List.map_cons, toPs, V.toP, toPs_p r]
theorem rens_p (ρ : Nat → Option Nat) (l : List P) : rens ρ (l.map V.p) = some (l.map V.p) := rens_noids _ (idss_p l)

theorem toPs_noids : ∀ {xs : List V} {ps : List P}, toPs xs = some ps → True := fun _ => trivial

/-- Whole numbers. -/
abbrev Pi (n : Int) : P := .v (.int .i64 n)
abbrev Vi (n : Int) : V := .p (.v (.int .i64 n))
abbrev Pb (b : Bool) : P := .v (.bool b)
abbrev Vb (b : Bool) : V := .p (.v (.bool b))
/-- A slice of whole numbers, as data. -/
abbrev Pl (l : List Int) : P := .sl 0 (l.map Pi)
abbrev Vl (l : List Int) : V := .p (.sl 0 (l.map Pi))

/-- A function that says something at arguments that are data, and leaves nothing behind. -/
def Says (T : Nat → Option AFn) (id : Nat) (args : List V) (r : P) : Prop := (EL T).call id args [] = some (.p r, [])

end Go.Am

/- Running the machine by rewriting: what is to come is kept as data, so that nothing is unfolded ahead of its time. -/

namespace Go.Am
open Go

section
variable (tbl : Nat → Option AFn) {σ : Type} (Y : List P → σ → Option (Bool × σ)) (n0 : Nat)

noncomputable def thenC (b : AC) (o : Option (Ex × St × σ)) : Option (Ex × St × σ) := match o with | some (.normal, st', s') => U tbl Y n0 b st' s' | r => r
theorem thenC_normal (b : AC) (st : St) (s : σ) : thenC tbl Y n0 b (some (.normal, st, s)) = U tbl Y n0 b st s := rfl
theorem thenC_exit (b : AC) (i : Nat) (st : St) (s : σ) : thenC tbl Y n0 b (some (.exit i, st, s)) = some (.exit i, st, s) := rfl
theorem thenC_ret (b : AC) (st : St) (s : σ) : thenC tbl Y n0 b (some (.ret, st, s)) = some (.ret, st, s) := rfl
theorem thenC_pan (b : AC) (t : Nat) (xs : List Int) (st : St) (s : σ) : thenC tbl Y n0 b (some (.pan t xs, st, s)) = some (.pan t xs, st, s) := rfl
theorem thenC_none (b : AC) : thenC tbl Y n0 b none = none := rfl
theorem thenC_ite (b : AC) (p : Prop) [Decidable p] (x y : Option (Ex × St × σ)) : thenC tbl Y n0 b (if p then x else y) = if p then thenC tbl Y n0 b x else thenC tbl Y n0 b y := by split <;> rfl
theorem u_seq (a b : AC) (st : St) (s : σ) : U tbl Y n0 (.seq a b) st s = thenC tbl Y n0 b (U tbl Y n0 a st s) := U_seq tbl Y n0 a b st s

noncomputable def condC (x : V) (a b : AC) (st : St) (s : σ) : Option (Ex × St × σ) := match x with | .p (.v (.bool true)) => U tbl Y n0 a st s | .p (.v (.bool false)) => U tbl Y n0 b st s | _ => none
theorem condC_b (c : Bool) (a b : AC) (st : St) (s : σ) : condC tbl Y n0 (.p (.v (.bool c))) a b st s = if c = true then U tbl Y n0 a st s else U tbl Y n0 b st s := by cases c <;> rfl
theorem condC_true (a b : AC) (st : St) (s : σ) : condC tbl Y n0 (.p (.v (.bool true))) a b st s = U tbl Y n0 a st s := rfl
theorem condC_false (a b : AC) (st : St) (s : σ) : condC tbl Y n0 (.p (.v (.bool false))) a b st s = U tbl Y n0 b st s := rfl
theorem u_cond (c : Opd) (a b : AC) (st : St) (s : σ) : U tbl Y n0 (.cond c a b) st s = condC tbl Y n0 (opd st.fr c) a b st s := U_cond tbl Y n0 c a b st s

def blockC (id : Nat) (o : Option (Ex × St × σ)) : Option (Ex × St × σ) := match o with | some (.exit id', st', s') => if id' = id then some (.normal, st', s') else some (.exit id', st', s') | r => r
theorem blockC_normal (id : Nat) (st : St) (s : σ) : blockC id (some (.normal, st, s)) = some (.normal, st, s) := rfl
theorem blockC_ret (id : Nat) (st : St) (s : σ) : blockC id (some (.ret, st, s)) = some (.ret, st, s) := rfl
theorem blockC_pan (id : Nat) (t : Nat) (xs : List Int) (st : St) (s : σ) : blockC id (some (.pan t xs, st, s)) = some (.pan t xs, st, s) := rfl
theorem blockC_none (id : Nat) : blockC (σ := σ) id none = none := rfl
theorem blockC_exit (id id' : Nat) (st : St) (s : σ) : blockC id (some (.exit id', st, s)) = if id' = id then some (.normal, st, s) else some (.exit id', st, s) := rfl
theorem blockC_ite (id : Nat) (p : Prop) [Decidable p] (x y : Option (Ex × St × σ)) : blockC id (if p then x else y) = if p then blockC id x else blockC id y := by split <;> rfl
theorem u_block (id : Nat) (a : AC) (st : St) (s : σ) : U tbl Y n0 (.block id a) st s = blockC id (U tbl Y n0 a st s) := by
  rw [U_block]
  unfold blockC
  cases U tbl Y n0 a st s with
  | none => rfl
  | some p => obtain ⟨ex, st', s'⟩ := p; cases ex <;> rfl

def regC (o : Option (St × σ)) : Option (Ex × St × σ) := match o with | some (st, s) => some (.normal, st, s) | none => none
theorem regC_some (st : St) (s : σ) : regC (some (st, s)) = some (.normal, st, s) := rfl
theorem regC_none : regC (σ := σ) none = none := rfl
theorem regC_ite (p : Prop) [Decidable p] (x y : Option (St × σ)) : regC (if p then x else y) = if p then regC x else regC y := by split <;> rfl
theorem u_reg (g : Reg) (st : St) (s : σ) : U tbl Y n0 (.reg g) st s = regC (runReg (EL tbl) Y g st s) := U_reg tbl Y n0 g st s

/-- The rest of a loop behind its head. -/
noncomputable def loopC (keep lift : List Nat) (a : AC) (o : Option (Ex × St × σ)) : Option (Ex × St × σ) := match o with | some (.normal, st', s') => U tbl Y n0 (.loop keep lift a) st' s' | r => r
theorem loopC_normal (keep lift : List Nat) (a : AC) (st : St) (s : σ) : loopC tbl Y n0 keep lift a (some (.normal, st, s)) = U tbl Y n0 (.loop keep lift a) st s := rfl
theorem loopC_exit (keep lift : List Nat) (a : AC) (i : Nat) (st : St) (s : σ) : loopC tbl Y n0 keep lift a (some (.exit i, st, s)) = some (.exit i, st, s) := rfl
theorem loopC_ret (keep lift : List Nat) (a : AC) (st : St) (s : σ) : loopC tbl Y n0 keep lift a (some (.ret, st, s)) = some (.ret, st, s) := rfl
theorem loopC_pan (keep lift : List Nat) (a : AC) (t : Nat) (xs : List Int) (st : St) (s : σ) : loopC tbl Y n0 keep lift a (some (.pan t xs, st, s)) = some (.pan t xs, st, s) := rfl
theorem loopC_none (keep lift : List Nat) (a : AC) : loopC tbl Y n0 keep lift a none = none := rfl
theorem loopC_ite (keep lift : List Nat) (a : AC) (p : Prop) [Decidable p] (x y : Option (Ex × St × σ)) : loopC tbl Y n0 keep lift a (if p then x else y) = if p then loopC tbl Y n0 keep lift a x else loopC tbl Y n0 keep lift a y := by split <;> rfl
/-- One round of a loop, at a state that the loop's head makes of what is there. -/
theorem u_loop {keep lift : List Nat} {a : AC} {st st1 : St} (s : σ) (h : gc n0 (liftAll lift ⟨keepOnly keep st.fr, st.mem⟩) = some st1) : U tbl Y n0 (.loop keep lift a) st s = loopC tbl Y n0 keep lift a (U tbl Y n0 a st1 s) := by
  rw [U_loop, h]; rfl

end

section
variable (E : Env) {σ : Type} (Y : List P → σ → Option (Bool × σ)) (base : Nat)

def thenO (r : List AO) (o : Option (St × σ)) : Option (St × σ) := match o with | some (st, s) => runOps E Y base r st s | none => none
theorem thenO_some (r : List AO) (st : St) (s : σ) : thenO E Y base r (some (st, s)) = runOps E Y base r st s := rfl
theorem thenO_none (r : List AO) : thenO E Y base r none = none := rfl
theorem thenO_ite (r : List AO) (p : Prop) [Decidable p] (x y : Option (St × σ)) : thenO E Y base r (if p then x else y) = if p then thenO E Y base r x else thenO E Y base r y := by split <;> rfl

def putR (d : Option Nat) (st : St) (s : σ) (o : Option Res) : Option (St × σ) := match o with | some r => some (⟨putD st.fr d r.val, applyUps st.mem r.ups ++ r.extra⟩, s) | none => none
theorem putR_some (d : Option Nat) (st : St) (s : σ) (v : V) (ups : List (Nat × Blk)) (ex : List Blk) : putR d st s (some ⟨v, ups, ex⟩) = some (⟨putD st.fr d v, applyUps st.mem ups ++ ex⟩, s) := rfl
theorem putR_none (d : Option Nat) (st : St) (s : σ) : putR d st s none = none := rfl
theorem putR_ite (d : Option Nat) (st : St) (s : σ) (p : Prop) [Decidable p] (x y : Option Res) : putR d st s (if p then x else y) = if p then putR d st s x else putR d st s y := by split <;> rfl

def yieldR (d : Option Nat) (st : St) (o : Option (Bool × σ)) : Option (St × σ) := match o with | some (b, s') => some (⟨putD st.fr d (.p (.v (.bool b))), st.mem⟩, s') | none => none
theorem yieldR_some (d : Option Nat) (st : St) (b : Bool) (s : σ) : yieldR d st (some (b, s)) = some (⟨putD st.fr d (.p (.v (.bool b))), st.mem⟩, s) := rfl
theorem yieldR_none (d : Option Nat) (st : St) : yieldR (σ := σ) d st none = none := rfl
theorem yieldR_ite (d : Option Nat) (st : St) (p : Prop) [Decidable p] (x y : Option (Bool × σ)) : yieldR d st (if p then x else y) = if p then yieldR d st x else yieldR d st y := by split <;> rfl

/-- An operation that may run. -/
def goO (d : Option Nat) (op : AOp) (st : St) (s : σ) : Option (St × σ) := match op with
  | .call f args => match opd st.fr f with
    | .yield => match toPs (args.map (opd st.fr)) with
      | some ps => yieldR d st (Y ps s)
      | none => none
    | _ => putR d st s ((exec1 E base st.mem.length st.fr op).run st.mem)
  | _ => putR d st s ((exec1 E base st.mem.length st.fr op).run st.mem)

/-- An operation behind a guard. -/
def guardO (x : V) (w : Bool) (d : Option Nat) (op : AOp) (st : St) (s : σ) : Option (St × σ) := match x with
  | .p (.v (.bool b)) => if b = w then goO E Y base d op st s else some (⟨putD st.fr d undefV, st.mem⟩, s)
  | .p (.v _) => some (⟨putD st.fr d undefV, st.mem⟩, s)
  | _ => none
theorem guardO_b (b w : Bool) (d : Option Nat) (op : AOp) (st : St) (s : σ) : guardO E Y base (.p (.v (.bool b))) w d op st s = if b = w then goO E Y base d op st s else some (⟨putD st.fr d undefV, st.mem⟩, s) := rfl

theorem guardO_tt (d : Option Nat) (op : AOp) (st : St) (s : σ) : guardO E Y base (.p (.v (.bool true))) true d op st s = goO E Y base d op st s := rfl
theorem guardO_ff (d : Option Nat) (op : AOp) (st : St) (s : σ) : guardO E Y base (.p (.v (.bool false))) false d op st s = goO E Y base d op st s := rfl
theorem guardO_tf (d : Option Nat) (op : AOp) (st : St) (s : σ) : guardO E Y base (.p (.v (.bool true))) false d op st s = some (⟨putD st.fr d undefV, st.mem⟩, s) := rfl
theorem guardO_ft (d : Option Nat) (op : AOp) (st : St) (s : σ) : guardO E Y base (.p (.v (.bool false))) true d op st s = some (⟨putD st.fr d undefV, st.mem⟩, s) := rfl

theorem step1_none (d : Option Nat) (op : AOp) (af : List Nat) (st : St) (s : σ) : step1 E Y base ⟨d, op, none, af⟩ st s = goO E Y base d op st s := by
  unfold step1 goO
  simp only [wants]
  cases op with
  | call f args =>
    simp only
    cases opd st.fr f with
    | yield =>
      simp only
      cases toPs (args.map (opd st.fr)) with
      | none => rfl
      | some ps => simp only; cases Y ps s with
        | none => rfl
        | some b => rfl
    | _ => rfl
  | _ => rfl

theorem step1_guard (d : Option Nat) (op : AOp) (g : Nat) (w : Bool) (af : List Nat) (st : St) (s : σ) : step1 E Y base ⟨d, op, some (g, w), af⟩ st s = guardO E Y base (st.fr.get g) w d op st s := by
  have key : ∀ x : V, st.fr.get g = x → step1 E Y base ⟨d, op, some (g, w), af⟩ st s = guardO E Y base x w d op st s := by
    intro x hx
    have h0 := step1_none E Y base d op af st s
    unfold step1 at h0 ⊢
    simp only [wants, hx] at h0 ⊢
    unfold guardO
    cases x with
    | p q =>
      cases q with
      | v u =>
        cases u with
        | bool b =>
          simp only
          by_cases hb : b = w
          · subst hb; simp only [beq_self_eq_true, if_true]; exact h0
          · have : (b == w) = false := by simpa using hb
            simp only [this, if_neg hb]
        | _ => rfl
      | _ => rfl
    | _ => rfl
  exact key _ rfl

theorem runOps_nil (st : St) (s : σ) : runOps E Y base [] st s = some (st, s) := rfl
theorem runOps_cons (d : Option Nat) (op : AOp) (g : Option (Nat × Bool)) (af : List Nat) (r : List AO) (st : St) (s : σ) : runOps E Y base (⟨d, op, g, af⟩ :: r) st s = thenO E Y base r (step1 E Y base ⟨d, op, g, af⟩ st s) := by
  simp only [runOps, thenO]
  cases step1 E Y base ⟨d, op, g, af⟩ st s <;> rfl

def killO (k : List Nat) (o : Option (St × σ)) : Option (St × σ) := match o with | some (st, s) => some (⟨st.fr.drop k, st.mem⟩, s) | none => none
theorem killO_some (k : List Nat) (fr : Fr) (m : List Blk) (s : σ) : killO k (some (⟨fr, m⟩, s)) = some (⟨fr.drop k, m⟩, s) := rfl
theorem killO_none (k : List Nat) : killO (σ := σ) k none = none := rfl
theorem killO_ite (k : List Nat) (p : Prop) [Decidable p] (x y : Option (St × σ)) : killO k (if p then x else y) = if p then killO k x else killO k y := by split <;> rfl

/-! ### A region whose order is open, in the order in which it stands -/

def stepS (o : AO) (st : St) : Option St := (stepD E base o st).map (·.1)
def runS : List AO → St → Option St
  | [], st => some st
  | o :: r, st => match stepS E base o st with
    | some st => runS r st
    | none => none

end

/-- What an operation may do to blocks: nothing, read, write. -/
def AOp.blk : AOp → Nat
  | .alloc _ _ | .box _ _ | .lit .grow _ _ _ _ _ | .lit .own _ _ _ _ _ | .store _ _ _ | .mkslice _ _ _ _ _ _ _ | .app _ _ _ _ _ _ | .call _ _ => 2
  | .load _ _ | .slice _ _ _ _ _ => 1
  | _ => 0

def AO.rs (o : AO) : List Nat := (o.guard.elim [] fun g => [g.1]) ++ o.op.slots
def AO.ws (o : AO) : List Nat := o.dst.elim [] fun d => [d]

/-- Two operations of which neither order matters, whatever the blocks are. -/
def calm2 (a b : AO) : Bool := !(meets a.ws b.ws || meets a.ws b.rs || meets a.rs b.ws) && (a.op.blk == 0 || b.op.blk == 0 || (a.op.blk == 1 && b.op.blk == 1))

def calmAll : List AO → List AO → List (List Nat) → Bool
  | [], _, _ => true
  | o :: r, done, ups =>
    let up := o.after ++ o.after.flatMap fun j => ups.getD j []
    ((done.zipIdx).all fun (d, j) => up.contains j || calm2 d o) && calmAll r (done ++ [o]) (ups ++ [up])

structure FootOk (f : Foot) (o : AO) : Prop where
  rs : ∀ x ∈ f.rs, x ∈ o.rs
  ws : ∀ x ∈ f.ws, x ∈ o.ws
  b0 : o.op.blk = 0 → f.rb = [] ∧ f.wb = []
  b1 : o.op.blk = 1 → f.wb = []

def NoBlk (m : List Blk) (x : RM Res) : Prop := x.reads m = [] ∧ ∀ r, x.run m = some r → r.ups = []
theorem NoBlk.fail (m : List Blk) : NoBlk m .fail := ⟨rfl, fun r h => by simp [RM.run] at h⟩
theorem NoBlk.ret (m : List Blk) (v : V) : NoBlk m (.ret { val := v }) := ⟨rfl, fun r h => by simp only [RM.run, Option.some.injEq] at h; subst h; rfl⟩
theorem NoBlk.lift {α : Type} (m : List Blk) (o : Option α) (f : α → V) : NoBlk m (RM.lift (o.map fun x => { val := f x })) := by
  cases o with
  | none => exact NoBlk.fail m
  | some x => exact NoBlk.ret m (f x)

theorem noBlk_of (E : Env) (base len : Nat) (fr : Fr) (op : AOp) (m : List Blk) (h : op.blk = 0) : NoBlk m (exec1 E base len fr op) := by
  cases op with
  | alloc | box | store | mkslice | app | call | load | slice => simp [AOp.blk] at h
  | lit md k n z len ps =>
    cases md with
    | pure =>
      simp only [exec1]
      repeat' (first | exact NoBlk.fail m | exact NoBlk.ret m _ | exact NoBlk.lift m _ _ | split)
    | grow => simp [AOp.blk] at h
    | own => simp [AOp.blk] at h
  | _ =>
    simp only [exec1]
    repeat' (first | exact NoBlk.fail m | exact NoBlk.ret m _ | exact NoBlk.lift m _ _ | split)

def NoUps (m : List Blk) (x : RM Res) : Prop := ∀ r, x.run m = some r → r.ups = []
theorem NoUps.fail (m : List Blk) : NoUps m .fail := fun r h => by simp [RM.run] at h
theorem NoUps.ret (m : List Blk) (v : V) : NoUps m (.ret { val := v }) := fun r h => by simp only [RM.run, Option.some.injEq] at h; subst h; rfl
theorem NoUps.lift {α : Type} (m : List Blk) (o : Option α) (f : α → V) : NoUps m (RM.lift (o.map fun x => { val := f x })) := (NoBlk.lift m o f).2
theorem NoUps.bind {α : Type} (m : List Blk) (x : RM α) (f : α → RM Res) (h : ∀ a, NoUps m (f a)) : NoUps m (x.bind f) := fun r hr => by
  rw [RM.run_bind] at hr
  cases hx : x.run m with
  | none => rw [hx] at hr; simp at hr
  | some a => rw [hx] at hr; exact h a r hr

theorem noUps_of (E : Env) (base len : Nat) (fr : Fr) (op : AOp) (m : List Blk) (h : op.blk = 1) : NoUps m (exec1 E base len fr op) := by
  cases op with
  | load n a =>
    simp only [exec1]
    repeat' (first | exact NoUps.fail m | exact NoUps.ret m _ | exact NoUps.lift m _ _ | (refine NoUps.bind m _ _ fun a => ?_) | split)
  | slice n arr x lo hi =>
    simp only [exec1]
    repeat' (first | exact NoUps.fail m | exact NoUps.ret m _ | exact NoUps.lift m _ _ | (refine NoUps.bind m _ _ fun a => ?_) | split)
  | lit md k n z len ps => cases md <;> simp [AOp.blk] at h
  | _ => simp [AOp.blk] at h

theorem stepD_foot {E : Env} {base : Nat} {o : AO} {st : St} {st' : St} {f : Foot} (h : stepD E base o st = some (st', f)) : FootOk f o := by
  unfold stepD at h
  cases hw : wants st.fr o.guard with
  | none => simp only [hw] at h; cases h
  | some b =>
    simp only [hw] at h
    cases b with
    | false =>
      simp only [Option.some.injEq, Prod.mk.injEq] at h
      obtain ⟨_, rfl⟩ := h
      refine ⟨fun x hx => ?_, fun x hx => hx, fun _ => ⟨rfl, rfl⟩, fun _ => rfl⟩
      simp only [AO.rs, List.mem_append]; exact .inl hx
    | true =>
      simp only at h
      cases hr : (exec1 E base st.mem.length st.fr o.op).run st.mem with
      | none => simp only [hr] at h; cases h
      | some r =>
        simp only [hr] at h
        split at h
        · simp only [Option.some.injEq, Prod.mk.injEq] at h
          obtain ⟨_, rfl⟩ := h
          refine ⟨fun x hx => hx, fun x hx => hx, fun hb => ?_, fun hb => ?_⟩
          · have := noBlk_of E base st.mem.length st.fr o.op st.mem hb
            exact ⟨this.1, by simp only [this.2 r hr, List.map_nil]⟩
          · have := noUps_of E base st.mem.length st.fr o.op st.mem hb
            simp only [this r hr, List.map_nil]
        · cases h

theorem meets_no {a b : List Nat} (h : ∀ x ∈ a, x ∉ b) : meets a b = false := by
  unfold meets
  rw [List.any_eq_false]
  intro x hx
  simpa using h x hx

theorem no_meets {a b : List Nat} (h : meets a b = false) : ∀ x ∈ a, x ∉ b := meets_false h

theorem calm_foot {f g : Foot} {a b : AO} (hf : FootOk f a) (hg : FootOk g b) (h : calm2 a b = true) : f.clash g = false := by
  simp only [calm2, Bool.and_eq_true, Bool.not_eq_true', Bool.or_eq_false_iff, Bool.or_eq_true, beq_iff_eq] at h
  obtain ⟨⟨⟨h1, h2⟩, h3⟩, h4⟩ := h
  simp only [Foot.clash, Bool.or_eq_false_iff]
  refine ⟨⟨⟨⟨⟨?_, ?_⟩, ?_⟩, ?_⟩, ?_⟩, ?_⟩
  · exact meets_no fun x hx hy => no_meets h1 x (hf.ws x hx) (hg.ws x hy)
  · exact meets_no fun x hx hy => no_meets h2 x (hf.ws x hx) (hg.rs x hy)
  · exact meets_no fun x hx hy => no_meets h3 x (hf.rs x hx) (hg.ws x hy)
  · rcases h4 with (h | h) | h
    · rw [(hf.b0 h).2]; rfl
    · exact meets_no fun x _ hy => by rw [(hg.b0 h).2] at hy; cases hy
    · rw [hf.b1 h.1]; rfl
  · rcases h4 with (h | h) | h
    · rw [(hf.b0 h).2]; rfl
    · exact meets_no fun x _ hy => by rw [(hg.b0 h).1] at hy; cases hy
    · rw [hf.b1 h.1]; rfl
  · rcases h4 with (h | h) | h
    · rw [(hf.b0 h).1]; rfl
    · exact meets_no fun x _ hy => by rw [(hg.b0 h).2] at hy; cases hy
    · exact meets_no fun x _ hy => by rw [hg.b1 h.2] at hy; cases hy

theorem runD_calm (E : Env) (base : Nat) : ∀ (r done : List AO) (fs : List (Nat × Foot)) (ups : List (List Nat)) (st : St), calmAll r done ups = true → (∀ j g, (j, g) ∈ fs → ∃ o, done[j]? = some o ∧ FootOk g o) →
    runD E base done.length r st fs ups = runS E base r st
  | [], _, _, _, _, _, _ => rfl
  | o :: r, done, fs, ups, st, hc, hf => by
    simp only [calmAll, Bool.and_eq_true] at hc
    simp only [runD, runS, stepS]
    cases hs : stepD E base o st with
    | none => rfl
    | some p =>
      obtain ⟨st', f⟩ := p
      simp only [Option.map_some]
      have hok := stepD_foot hs
      rw [if_pos]
      · have := runD_calm E base r (done ++ [o]) ((done.length, f) :: fs) (ups ++ [o.after ++ o.after.flatMap fun j => ups.getD j []]) st' hc.2 (by
          intro j g hjg
          rcases List.mem_cons.1 hjg with h | h
          · simp only [Prod.mk.injEq] at h
            obtain ⟨rfl, rfl⟩ := h
            exact ⟨o, by simp, hok⟩
          · obtain ⟨q, h1, h2⟩ := hf j g h
            have hlt := (List.getElem?_eq_some_iff.1 h1).1
            exact ⟨q, by rw [List.getElem?_append_left hlt]; exact h1, h2⟩)
        simpa using this
      · rw [List.all_eq_true]
        rintro ⟨j, g⟩ hjg
        obtain ⟨q, h1, h2⟩ := hf j g hjg
        have hz : (q, j) ∈ done.zipIdx := by
          rw [List.mem_zipIdx_iff_getElem?]; exact h1
        have := (List.all_eq_true.1 hc.1) (q, j) hz
        simp only [Bool.or_eq_true] at this ⊢
        rcases this with h | h
        · exact .inl h
        · exact .inr (by rw [calm_foot h2 hok h]; rfl)

/-- A region, whatever its kind, its operations in the order in which they stand. -/
theorem runReg_seq (E : Env) {σ : Type} (Y : List P → σ → Option (Bool × σ)) (id : Nat) (ops : List AO) (na : Nat) (kill : List Nat) (st : St) (s : σ) :
    runReg E Y ⟨id, ops, false, na, [], kill⟩ st s = killO kill (runOps E Y st.mem.length ops ⟨st.fr, st.mem ++ List.replicate na .hole⟩ s) := by
  simp only [runReg, freezeSlots, killO]
  cases runOps E Y st.mem.length ops ⟨st.fr, st.mem ++ List.replicate na .hole⟩ s <;> rfl

def withS {σ : Type} (s : σ) (o : Option St) : Option (St × σ) := match o with | some st => some (st, s) | none => none
theorem withS_some {σ : Type} (s : σ) (st : St) : withS s (some st) = some (st, s) := rfl
theorem withS_none {σ : Type} (s : σ) : withS s none = none := rfl
theorem withS_ite {σ : Type} (s : σ) (p : Prop) [Decidable p] (x y : Option St) : withS s (if p then x else y) = if p then withS s x else withS s y := by split <;> rfl

theorem runReg_draw (E : Env) {σ : Type} (Y : List P → σ → Option (Bool × σ)) (id : Nat) (ops : List AO) (na : Nat) (kill : List Nat) (st : St) (s : σ) (h : calmAll ops [] [] = true) :
    runReg E Y ⟨id, ops, true, na, [], kill⟩ st s = killO kill (withS s (runS E st.mem.length ops ⟨st.fr, st.mem ++ List.replicate na .hole⟩)) := by
  simp only [runReg, freezeSlots, if_true]
  have := runD_calm E st.mem.length ops [] [] [] ⟨st.fr, st.mem ++ List.replicate na .hole⟩ h (fun j g h => by cases h)
  simp only [List.length_nil] at this
  rw [this]
  cases runS E st.mem.length ops ⟨st.fr, st.mem ++ List.replicate na .hole⟩ <;> rfl

def preC (E : Env) {σ : Type} (Y : List P → σ → Option (Bool × σ)) (g : Reg) (s : σ) (o : Option St) : Option (St × σ) := match o with | some st => runReg E Y g st s | none => none
theorem preC_some (E : Env) {σ : Type} (Y : List P → σ → Option (Bool × σ)) (g : Reg) (s : σ) (st : St) : preC E Y g s (some st) = runReg E Y g st s := rfl
theorem runReg_pre (E : Env) {σ : Type} (Y : List P → σ → Option (Bool × σ)) (id : Nat) (ops : List AO) (dr : Bool) (na a : Nat) (pre kill : List Nat) (st : St) (s : σ) :
    runReg E Y ⟨id, ops, dr, na, a :: pre, kill⟩ st s = preC E Y ⟨id, ops, dr, na, [], kill⟩ s (freezeSlots (a :: pre) st) := by
  unfold runReg preC
  simp only
  cases freezeSlots (a :: pre) st with
  | none => rfl
  | some st => rfl

/-! ### A region of which some operations are held against one another while they run -/

/-- An operation, the earlier ones that its blocks are held against, and whether its own blocks are kept in mind. -/
abbrev BO := AO × List Nat × Bool

def metB (f : Foot) (g : List Nat × List Nat) : Bool := meets g.2 f.wb || meets g.2 f.rb || meets g.1 f.wb
def look (j : Nat) : List (Nat × List Nat × List Nat) → Option (List Nat × List Nat)
  | [] => none
  | (k, g) :: r => if k = j then some g else look j r
def okB (f : Foot) (done : List (Nat × List Nat × List Nat)) (J : List Nat) : Bool := J.all fun j => match look j done with | some g => !(metB f g) | none => false

def runB (E : Env) (base : Nat) : Nat → List BO → St → List (Nat × List Nat × List Nat) → Option St
  | _, [], st, _ => some st
  | i, (o, J, rc) :: r, st, done => match stepD E base o st with
    | some (st', f) => if okB f done J then runB E base (i + 1) r st' (if rc then (i, f.rb, f.wb) :: done else done) else none
    | none => none

def slotCalm (a b : AO) : Bool := !(meets a.ws b.ws || meets a.ws b.rs || meets a.rs b.ws)

/-- `done`: the operations so far. -/
def calmB : List BO → List BO → List (List Nat) → Bool
  | [], _, _ => true
  | (o, J, rc) :: r, done, ups =>
    let up := o.after ++ o.after.flatMap fun j => ups.getD j []
    ((done.zipIdx).all fun (d, j) => if J.contains j then !(up.contains j) && slotCalm d.1 o && d.2.2 else up.contains j || calm2 d.1 o) && J.all (fun j => decide (j < done.length)) && calmB r (done ++ [(o, J, rc)]) (ups ++ [up])

structure FsOk (fs : List (Nat × Foot)) (done : List BO) (dn : List (Nat × List Nat × List Nat)) : Prop where
  a : ∀ j f, (j, f) ∈ fs → ∃ o J rc, done[j]? = some (o, J, rc) ∧ FootOk f o ∧ (rc = true → look j dn = some (f.rb, f.wb))
  b : ∀ j, j < done.length → ∃ f, (j, f) ∈ fs
  c : ∀ j g, look j dn = some g → j < done.length

theorem slotCalm_clash {f g : Foot} {a b : AO} (hf : FootOk f a) (hg : FootOk g b) (h : slotCalm a b = true) : f.clash g = metB g (f.rb, f.wb) := by
  simp only [slotCalm, Bool.not_eq_true', Bool.or_eq_false_iff] at h
  obtain ⟨⟨h1, h2⟩, h3⟩ := h
  simp only [Foot.clash, metB]
  rw [meets_no fun x hx hy => no_meets h1 x (hf.ws x hx) (hg.ws x hy), meets_no fun x hx hy => no_meets h2 x (hf.ws x hx) (hg.rs x hy), meets_no fun x hx hy => no_meets h3 x (hf.rs x hx) (hg.ws x hy)]
  simp only [Bool.false_or]

theorem look_lt {n : Nat} {dn : List (Nat × List Nat × List Nat)} (h : ∀ j g, look j dn = some g → j < n) : look n dn = none := by
  cases hl : look n dn with
  | none => rfl
  | some g => exact absurd (h n g hl) (Nat.lt_irrefl n)

theorem runD_runB (E : Env) (base : Nat) : ∀ (r done : List BO) (fs : List (Nat × Foot)) (dn : List (Nat × List Nat × List Nat)) (ups : List (List Nat)) (st : St), calmB r done ups = true → FsOk fs done dn →
    runD E base done.length (r.map (·.1)) st fs ups = runB E base done.length r st dn
  | [], _, _, _, _, _, _, _ => rfl
  | (o, J, rc) :: r, done, fs, dn, ups, st, hc, hf => by
    simp only [calmB, Bool.and_eq_true] at hc
    obtain ⟨⟨hc1, hc2⟩, hc3⟩ := hc
    simp only [List.map_cons, runD, runB]
    cases hs : stepD E base o st with
    | none => rfl
    | some p =>
      obtain ⟨st', f⟩ := p
      simp only
      have hok := stepD_foot hs
      have hall : (fs.all fun (j, g) => (o.after ++ o.after.flatMap fun j => ups.getD j []).contains j || !(g.clash f)) = okB f dn J := by
        rw [Bool.eq_iff_iff]
        simp only [okB, List.all_eq_true]
        constructor
        · intro h j hj
          have hjl : j < done.length := by simpa using (List.all_eq_true.1 hc2) j hj
          obtain ⟨g, hg⟩ := hf.b j hjl
          obtain ⟨q, Jq, rq, h1, h2, h3⟩ := hf.a j g hg
          have hz : ((q, Jq, rq), j) ∈ done.zipIdx := by rw [List.mem_zipIdx_iff_getElem?]; exact h1
          have h4 := (List.all_eq_true.1 hc1) _ hz
          simp only [List.contains_eq_mem, hj, decide_true, if_true, Bool.and_eq_true] at h4
          have h5 := h (j, g) hg
          simp only [Bool.or_eq_true] at h5
          obtain ⟨⟨h6, h7⟩, h8⟩ := h4
          rw [h3 h8]
          simp only
          rcases h5 with h5 | h5
          · rw [List.contains_eq_mem] at h5; rw [Bool.not_eq_true'] at h6; rw [h6] at h5; cases h5
          · rw [slotCalm_clash h2 hok h7] at h5; exact h5
        · rintro h ⟨j, g⟩ hg
          obtain ⟨q, Jq, rq, h1, h2, h3⟩ := hf.a j g hg
          have hz : ((q, Jq, rq), j) ∈ done.zipIdx := by rw [List.mem_zipIdx_iff_getElem?]; exact h1
          have h4 := (List.all_eq_true.1 hc1) _ hz
          simp only [Bool.or_eq_true]
          by_cases hj : j ∈ J
          · simp only [List.contains_eq_mem, hj, decide_true, if_true, Bool.and_eq_true] at h4
            obtain ⟨⟨h6, h7⟩, h8⟩ := h4
            have h5 := h j hj
            rw [h3 h8] at h5
            right
            rw [slotCalm_clash h2 hok h7]; exact h5
          · simp only [List.contains_eq_mem, hj, decide_false, Bool.false_eq_true, if_false, Bool.or_eq_true] at h4
            rcases h4 with h4 | h4
            · left; simpa using h4
            · right; rw [calm_foot h2 hok h4]; rfl
      rw [hall]
      by_cases hb : okB f dn J = true
      · rw [if_pos hb, if_pos hb]
        have := runD_runB E base r (done ++ [(o, J, rc)]) ((done.length, f) :: fs) (if rc then (done.length, f.rb, f.wb) :: dn else dn) (ups ++ [o.after ++ o.after.flatMap fun j => ups.getD j []]) st' hc3 (by
          refine ⟨fun j g hjg => ?_, fun j hj => ?_, fun j g hl => ?_⟩
          · rcases List.mem_cons.1 hjg with h | h
            · simp only [Prod.mk.injEq] at h
              obtain ⟨rfl, rfl⟩ := h
              refine ⟨o, J, rc, by simp, hok, fun hr => ?_⟩
              rw [if_pos hr]; simp [look]
            · obtain ⟨q, Jq, rq, h1, h2, h3⟩ := hf.a j g h
              have hlt := (List.getElem?_eq_some_iff.1 h1).1
              refine ⟨q, Jq, rq, by rw [List.getElem?_append_left hlt]; exact h1, h2, fun hr => ?_⟩
              split
              · simp only [look]
                rw [if_neg (by omega)]; exact h3 hr
              · exact h3 hr
          · simp only [List.length_append, List.length_cons, List.length_nil] at hj
            by_cases hj' : j < done.length
            · obtain ⟨g, hg⟩ := hf.b j hj'; exact ⟨g, by simp [hg]⟩
            · exact ⟨f, by simp; left; omega⟩
          · simp only [List.length_append, List.length_cons, List.length_nil]
            split at hl
            · simp only [look] at hl
              split at hl
              · omega
              · have := hf.c j g hl; omega
            · have := hf.c j g hl; omega)
        simpa using this
      · rw [if_neg hb, if_neg hb]

theorem runReg_drawB (E : Env) {σ : Type} (Y : List P → σ → Option (Bool × σ)) (id : Nat) (ops : List AO) (bs : List BO) (na : Nat) (kill : List Nat) (st : St) (s : σ) (he : ops = bs.map (·.1)) (h : calmB bs [] [] = true) :
    runReg E Y ⟨id, ops, true, na, [], kill⟩ st s = killO kill (withS s (runB E st.mem.length 0 bs ⟨st.fr, st.mem ++ List.replicate na .hole⟩ [])) := by
  simp only [runReg, freezeSlots, if_true]
  subst he
  have := runD_runB E st.mem.length bs [] [] [] [] ⟨st.fr, st.mem ++ List.replicate na .hole⟩ h ⟨fun j f h => by simp at h, fun j h => by simp at h, fun j g h => by simp [look] at h⟩
  simp only [List.length_nil] at this
  rw [this]
  cases runB E st.mem.length 0 bs ⟨st.fr, st.mem ++ List.replicate na .hole⟩ [] <;> rfl

/-- What such an operation does, with the blocks that it reads and writes. -/
def putB (d : Option Nat) (st : St) (rs : List Nat) (o : Option Res) : Option (St × List Nat × List Nat) := match o with
  | some r => if r.extra.isEmpty && r.ups.all (fun u => u.1 < st.mem.length) then some (⟨putD st.fr d r.val, applyUps st.mem r.ups⟩, rs, r.ups.map (·.1)) else none
  | none => none
theorem putB_some (d : Option Nat) (st : St) (rs : List Nat) (v : V) (ups : List (Nat × Blk)) : putB d st rs (some ⟨v, ups, []⟩) = if ups.all (fun u => u.1 < st.mem.length) = true then some (⟨putD st.fr d v, applyUps st.mem ups⟩, rs, ups.map (·.1)) else none := by
  simp only [putB, List.isEmpty_nil, Bool.true_and]

def guardB (E : Env) (base : Nat) (x : V) (w : Bool) (d : Option Nat) (op : AOp) (st : St) : Option (St × List Nat × List Nat) := match x with
  | .p (.v (.bool b)) => if b = w then putB d st ((exec1 E base st.mem.length st.fr op).reads st.mem) ((exec1 E base st.mem.length st.fr op).run st.mem) else some (⟨putD st.fr d undefV, st.mem⟩, [], [])
  | .p (.v _) => some (⟨putD st.fr d undefV, st.mem⟩, [], [])
  | _ => none

def stepBB (E : Env) (base : Nat) (o : AO) (st : St) : Option (St × List Nat × List Nat) := match o.guard with
  | none => putB o.dst st ((exec1 E base st.mem.length st.fr o.op).reads st.mem) ((exec1 E base st.mem.length st.fr o.op).run st.mem)
  | some (g, w) => guardB E base (st.fr.get g) w o.dst o.op st

theorem stepBB_none (E : Env) (base : Nat) (d : Option Nat) (op : AOp) (af : List Nat) (st : St) : stepBB E base ⟨d, op, none, af⟩ st = putB d st ((exec1 E base st.mem.length st.fr op).reads st.mem) ((exec1 E base st.mem.length st.fr op).run st.mem) := rfl
theorem stepBB_guard (E : Env) (base : Nat) (d : Option Nat) (op : AOp) (g : Nat) (w : Bool) (af : List Nat) (st : St) : stepBB E base ⟨d, op, some (g, w), af⟩ st = guardB E base (st.fr.get g) w d op st := rfl
theorem guardB_b (E : Env) (base : Nat) (b w : Bool) (d : Option Nat) (op : AOp) (st : St) : guardB E base (.p (.v (.bool b))) w d op st = if b = w then putB d st ((exec1 E base st.mem.length st.fr op).reads st.mem) ((exec1 E base st.mem.length st.fr op).run st.mem) else some (⟨putD st.fr d undefV, st.mem⟩, [], []) := rfl
theorem guardB_tt (E : Env) (base : Nat) (d : Option Nat) (op : AOp) (st : St) : guardB E base (.p (.v (.bool true))) true d op st = putB d st ((exec1 E base st.mem.length st.fr op).reads st.mem) ((exec1 E base st.mem.length st.fr op).run st.mem) := rfl
theorem guardB_ff (E : Env) (base : Nat) (d : Option Nat) (op : AOp) (st : St) : guardB E base (.p (.v (.bool false))) false d op st = putB d st ((exec1 E base st.mem.length st.fr op).reads st.mem) ((exec1 E base st.mem.length st.fr op).run st.mem) := rfl
theorem guardB_tf (E : Env) (base : Nat) (d : Option Nat) (op : AOp) (st : St) : guardB E base (.p (.v (.bool true))) false d op st = some (⟨putD st.fr d undefV, st.mem⟩, [], []) := rfl
theorem guardB_ft (E : Env) (base : Nat) (d : Option Nat) (op : AOp) (st : St) : guardB E base (.p (.v (.bool false))) true d op st = some (⟨putD st.fr d undefV, st.mem⟩, [], []) := rfl

def okBB (rb wb : List Nat) (done : List (Nat × List Nat × List Nat)) (J : List Nat) : Bool := J.all fun j => match look j done with | some g => !(meets g.2 wb || meets g.2 rb || meets g.1 wb) | none => false

def thenB (E : Env) (base i : Nat) (r : List BO) (J : List Nat) (rc : Bool) (done : List (Nat × List Nat × List Nat)) (o : Option (St × List Nat × List Nat)) : Option St := match o with
  | some (st, rb, wb) => if okBB rb wb done J then runB E base (i + 1) r st (if rc then (i, rb, wb) :: done else done) else none
  | none => none
theorem thenB_some (E : Env) (base i : Nat) (r : List BO) (J : List Nat) (rc : Bool) (done : List (Nat × List Nat × List Nat)) (st : St) (rb wb : List Nat) :
    thenB E base i r J rc done (some (st, rb, wb)) = if okBB rb wb done J = true then runB E base (i + 1) r st (if rc then (i, rb, wb) :: done else done) else none := rfl

theorem stepD_BB (E : Env) (base : Nat) (o : AO) (st : St) : (stepD E base o st).map (fun p => (p.1, p.2.rb, p.2.wb)) = stepBB E base o st := by
  unfold stepD stepBB
  obtain ⟨d, op, g, af⟩ := o
  cases g with
  | none =>
    simp only [wants, putB]
    cases (exec1 E base st.mem.length st.fr op).run st.mem with
    | none => rfl
    | some r => simp only; split <;> rfl
  | some g =>
    obtain ⟨g, w⟩ := g
    simp only [wants]
    generalize st.fr.get g = x
    unfold guardB
    cases x with
    | p q =>
      cases q with
      | v u =>
        cases u with
        | bool b =>
          simp only
          by_cases hb : b = w
          · subst hb
            simp only [beq_self_eq_true, if_true, putB]
            cases (exec1 E base st.mem.length st.fr op).run st.mem with
            | none => rfl
            | some r => simp only; split <;> rfl
          · have : (b == w) = false := by simpa using hb
            simp only [this, if_neg hb, Option.map_some]
        | _ => rfl
      | _ => rfl
    | _ => rfl

theorem runB_nil (E : Env) (base i : Nat) (st : St) (done : List (Nat × List Nat × List Nat)) : runB E base i [] st done = some st := rfl
theorem runB_cons (E : Env) (base i : Nat) (o : AO) (J : List Nat) (rc : Bool) (r : List BO) (st : St) (done : List (Nat × List Nat × List Nat)) : runB E base i ((o, J, rc) :: r) st done = thenB E base i r J rc done (stepBB E base o st) := by
  rw [← stepD_BB]
  simp only [runB]
  cases stepD E base o st with
  | none => rfl
  | some p => obtain ⟨st', f⟩ := p; rfl

/-! ### One operation of such a region -/

section
variable (E : Env) (base : Nat)

def putS (d : Option Nat) (st : St) (o : Option Res) : Option St := match o with | some r => if r.extra.isEmpty && r.ups.all (fun u => u.1 < st.mem.length) then some ⟨putD st.fr d r.val, applyUps st.mem r.ups⟩ else none | none => none
theorem putS_some (d : Option Nat) (st : St) (v : V) (ups : List (Nat × Blk)) : putS d st (some ⟨v, ups, []⟩) = if ups.all (fun u => u.1 < st.mem.length) = true then some ⟨putD st.fr d v, applyUps st.mem ups⟩ else none := by
  simp only [putS, List.isEmpty_nil, Bool.true_and]
theorem putS_none (d : Option Nat) (st : St) : putS d st none = none := rfl
theorem putS_ite (d : Option Nat) (st : St) (p : Prop) [Decidable p] (x y : Option Res) : putS d st (if p then x else y) = if p then putS d st x else putS d st y := by split <;> rfl

def guardS (x : V) (w : Bool) (d : Option Nat) (op : AOp) (st : St) : Option St := match x with
  | .p (.v (.bool b)) => if b = w then putS d st ((exec1 E base st.mem.length st.fr op).run st.mem) else some ⟨putD st.fr d undefV, st.mem⟩
  | .p (.v _) => some ⟨putD st.fr d undefV, st.mem⟩
  | _ => none
theorem guardS_b (b w : Bool) (d : Option Nat) (op : AOp) (st : St) : guardS E base (.p (.v (.bool b))) w d op st = if b = w then putS d st ((exec1 E base st.mem.length st.fr op).run st.mem) else some ⟨putD st.fr d undefV, st.mem⟩ := rfl

theorem guardS_tt (d : Option Nat) (op : AOp) (st : St) : guardS E base (.p (.v (.bool true))) true d op st = putS d st ((exec1 E base st.mem.length st.fr op).run st.mem) := rfl
theorem guardS_ff (d : Option Nat) (op : AOp) (st : St) : guardS E base (.p (.v (.bool false))) false d op st = putS d st ((exec1 E base st.mem.length st.fr op).run st.mem) := rfl
theorem guardS_tf (d : Option Nat) (op : AOp) (st : St) : guardS E base (.p (.v (.bool true))) false d op st = some ⟨putD st.fr d undefV, st.mem⟩ := rfl
theorem guardS_ft (d : Option Nat) (op : AOp) (st : St) : guardS E base (.p (.v (.bool false))) true d op st = some ⟨putD st.fr d undefV, st.mem⟩ := rfl

theorem stepS_none (d : Option Nat) (op : AOp) (af : List Nat) (st : St) : stepS E base ⟨d, op, none, af⟩ st = putS d st ((exec1 E base st.mem.length st.fr op).run st.mem) := by
  unfold stepS stepD putS
  simp only [wants]
  cases (exec1 E base st.mem.length st.fr op).run st.mem with
  | none => rfl
  | some r => simp only; split <;> rfl

theorem stepS_guard (d : Option Nat) (op : AOp) (g : Nat) (w : Bool) (af : List Nat) (st : St) : stepS E base ⟨d, op, some (g, w), af⟩ st = guardS E base (st.fr.get g) w d op st := by
  have key : ∀ x : V, st.fr.get g = x → stepS E base ⟨d, op, some (g, w), af⟩ st = guardS E base x w d op st := by
    intro x hx
    have h0 := stepS_none E base d op af st
    unfold stepS stepD at h0 ⊢
    simp only [wants, hx] at h0 ⊢
    unfold guardS
    cases x with
    | p q =>
      cases q with
      | v u =>
        cases u with
        | bool b =>
          simp only
          by_cases hb : b = w
          · subst hb
            simp only [beq_self_eq_true, if_true]
            rw [← h0]
            cases (exec1 E base st.mem.length st.fr op).run st.mem with
            | none => rfl
            | some r => simp only; split <;> rfl
          · have : (b == w) = false := by simpa using hb
            simp only [this, if_neg hb, Option.map_some]
        | _ => rfl
      | _ => rfl
    | _ => rfl
  exact key _ rfl

def thenS (r : List AO) (o : Option St) : Option St := match o with | some st => runS E base r st | none => none
theorem thenS_some (r : List AO) (st : St) : thenS E base r (some st) = runS E base r st := rfl
theorem thenS_none (r : List AO) : thenS E base r none = none := rfl
theorem thenS_ite (r : List AO) (p : Prop) [Decidable p] (x y : Option St) : thenS E base r (if p then x else y) = if p then thenS E base r x else thenS E base r y := by split <;> rfl
theorem runS_nil (st : St) : runS E base [] st = some st := rfl
theorem runS_cons (o : AO) (r : List AO) (st : St) : runS E base (o :: r) st = thenS E base r (stepS E base o st) := by
  simp only [runS, thenS]
end

theorem run_ite {α : Type} (m : List Blk) (p : Prop) [Decidable p] (x y : RM α) : (if p then x else y).run m = if p then x.run m else y.run m := by split <;> rfl

/-! ### Functions -/

section
variable (tbl : Nat → Option AFn)

/-- What a function hands back: its results, and whether they are kept as they are. -/
def finO {σ : Type} (res : List ARes) (kp : Bool) (n0 : Nat) (o : Option (Ex × St × σ)) : Option (V × List Blk × σ) := match o with
  | some (.normal, st, s') => match finish ⟨0, res, .skip, kp⟩ n0 st with
    | some (v, m) => some (v, m, s')
    | none => none
  | some (.ret, st, s') => match finish ⟨0, res, .skip, kp⟩ n0 st with
    | some (v, m) => some (v, m, s')
    | none => none
  | some (.pan t xs, st, s') => match gc n0 ⟨⟨0, []⟩, st.mem⟩ with
    | some st2 => some (panV t xs, st2.mem, s')
    | none => none
  | _ => none

def finV {σ : Type} (s : σ) (o : Option (V × List Blk)) : Option (V × List Blk × σ) := match o with | some (v, m) => some (v, m, s) | none => none
theorem finV_some {σ : Type} (s : σ) (v : V) (m : List Blk) : finV s (some (v, m)) = some (v, m, s) := rfl
theorem finO_normal {σ : Type} (res : List ARes) (kp : Bool) (n0 : Nat) (st : St) (s : σ) : finO res kp n0 (some (.normal, st, s)) = finV s (finish ⟨0, res, .skip, kp⟩ n0 st) := rfl
theorem finO_ret {σ : Type} (res : List ARes) (kp : Bool) (n0 : Nat) (st : St) (s : σ) : finO res kp n0 (some (.ret, st, s)) = finV s (finish ⟨0, res, .skip, kp⟩ n0 st) := rfl

def panR {σ : Type} (t : Nat) (xs : List Int) (s : σ) (o : Option St) : Option (V × List Blk × σ) := match o with | some st2 => some (panV t xs, st2.mem, s) | none => none
theorem panR_some {σ : Type} (t : Nat) (xs : List Int) (s : σ) (st : St) : panR t xs s (some st) = some (panV t xs, st.mem, s) := rfl
theorem finO_pan {σ : Type} (res : List ARes) (kp : Bool) (n0 : Nat) (t : Nat) (xs : List Int) (st : St) (s : σ) : finO res kp n0 (some (.pan t xs, st, s)) = panR t xs s (gc n0 ⟨⟨0, []⟩, st.mem⟩) := rfl

theorem pan_p (x : P) : (V.p x).pan? = none := rfl
theorem pan_nil (n : Nat) : (V.nil n).pan? = none := rfl
theorem pan_sl (n t : Nat) (es : List P) : (V.sl n t es).pan? = none := rfl
theorem pan_ref (n b o l : Nat) : (V.ref n b o l).pan? = none := rfl
theorem pan_ptr (b o : Nat) : (V.ptr b o).pan? = none := rfl
theorem pan_agg (cs : List V) : (V.agg cs).pan? = none := rfl
theorem pan_fn (f : Nat) (cs : List V) : (V.fn f cs).pan? = none := rfl
theorem pan_iface (t : Nat) (x : V) : (V.iface t x).pan? = none := rfl
theorem pan_t0 : (V.tuple []).pan? = none := rfl
theorem pan_t_p (x : P) (r : List V) : (V.tuple (.p x :: r)).pan? = none := rfl
theorem pan_t_nil (n : Nat) (r : List V) : (V.tuple (.nil n :: r)).pan? = none := rfl
theorem pan_t_sl (n t : Nat) (es : List P) (r : List V) : (V.tuple (.sl n t es :: r)).pan? = none := rfl
theorem pan_t_ref (n b o l : Nat) (r : List V) : (V.tuple (.ref n b o l :: r)).pan? = none := rfl
theorem pan_t_ptr (b o : Nat) (r : List V) : (V.tuple (.ptr b o :: r)).pan? = none := rfl
theorem pan_t_agg (cs : List V) (r : List V) : (V.tuple (.agg cs :: r)).pan? = none := rfl
theorem pan_t_fn (f : Nat) (cs : List V) (r : List V) : (V.tuple (.fn f cs :: r)).pan? = none := rfl
theorem pan_t_iface (t : Nat) (x : V) (r : List V) : (V.tuple (.iface t x :: r)).pan? = none := rfl

def tryR {σ : Type} (d : Option Nat) (st : St) (s : σ) (o : Option Res) : Option (Ex × St × σ) := match o with
  | some r => match r.val.pan? with
    | some (t, xs) => some (.pan t xs, ⟨st.fr, applyUps st.mem r.ups ++ r.extra⟩, s)
    | none => some (.normal, ⟨putD st.fr d r.val, applyUps st.mem r.ups ++ r.extra⟩, s)
  | none => none
theorem tryR_some {σ : Type} (d : Option Nat) (st : St) (s : σ) (v : V) (ups : List (Nat × Blk)) (ex : List Blk) : tryR d st s (some ⟨v, ups, ex⟩) = (match v.pan? with
    | some (t, xs) => some (.pan t xs, ⟨st.fr, applyUps st.mem ups ++ ex⟩, s)
    | none => some (.normal, ⟨putD st.fr d v, applyUps st.mem ups ++ ex⟩, s)) := rfl
theorem tryR_none {σ : Type} (d : Option Nat) (st : St) (s : σ) : tryR d st s none = none := rfl
noncomputable def tryC {σ : Type} (f : Opd) (args : List Opd) (d : Option Nat) (o : Option (St × σ)) : Option (Ex × St × σ) := match o with | some (st, s) => tryO (EL tbl) f args d st s | none => none
theorem tryC_some {σ : Type} (f : Opd) (args : List Opd) (d : Option Nat) (st : St) (s : σ) : tryC tbl f args d (some (st, s)) = (match callee (opd st.fr f) with
    | some (id, caps) => if 3000000000 ≤ id ∧ caps ≠ [] then none else tryR d st s ((callF (EL tbl) st.mem.length id ((args.map fun x => (opd st.fr x).strip) ++ caps.map V.strip)).run st.mem)
    | none => none) := by
  simp only [tryC, tryO]
  cases callee (opd st.fr f) with
  | none => rfl
  | some p =>
    simp only [tryR]
    split
    · rfl
    cases (callF (EL tbl) st.mem.length p.1 ((args.map fun x => (opd st.fr x).strip) ++ p.2.map V.strip)).run st.mem <;> rfl
/-- The parts that are left of a region. -/
noncomputable def segC {σ : Type} (Y : List P → σ → Option (Bool × σ)) (last : Reg) (l : List Seg) (o : Option (Ex × St × σ)) : Option (Ex × St × σ) := match o with
  | some (.normal, st2, s2) => trySegs (EL tbl) Y last l st2 s2
  | r => r
theorem segC_normal {σ : Type} (Y : List P → σ → Option (Bool × σ)) (last : Reg) (l : List Seg) (st : St) (s : σ) : segC tbl Y last l (some (.normal, st, s)) = trySegs (EL tbl) Y last l st s := rfl
theorem segC_pan {σ : Type} (Y : List P → σ → Option (Bool × σ)) (last : Reg) (l : List Seg) (t : Nat) (xs : List Int) (st : St) (s : σ) : segC tbl Y last l (some (.pan t xs, st, s)) = some (.pan t xs, st, s) := rfl
theorem segs_nil {σ : Type} (Y : List P → σ → Option (Bool × σ)) (last : Reg) (st : St) (s : σ) : trySegs (EL tbl) Y last [] st s = regC (runReg (EL tbl) Y last st s) := by
  simp only [trySegs, regC]
  try rfl
theorem segs_cons {σ : Type} (Y : List P → σ → Option (Bool × σ)) (last : Reg) (r : Reg) (f : Opd) (args : List Opd) (d : Option Nat) (l : List Seg) (st : St) (s : σ) : trySegs (EL tbl) Y last (⟨r, f, args, d⟩ :: l) st s = segC tbl Y last l (tryC tbl f args d (runReg (EL tbl) Y r st s)) := by
  simp only [trySegs, segC, tryC]
  cases runReg (EL tbl) Y r st s with
  | none => rfl
  | some p => rfl
theorem u_tryc {σ : Type} (Y : List P → σ → Option (Bool × σ)) (n0 : Nat) (segs : List Seg) (last : Reg) (st : St) (s : σ) : U tbl Y n0 (.tryc segs last) st s = trySegs (EL tbl) Y last segs st s := U_tryc tbl Y n0 segs last st s
def paniC {σ : Type} (x : Opd) (o : Option (St × σ)) : Option (Ex × St × σ) := match o with | some (st, s) => paniO x st s | none => none
theorem paniC_some {σ : Type} (x : Opd) (st : St) (s : σ) : paniC x (some (st, s)) = paniO x st s := rfl
theorem u_pani {σ : Type} (Y : List P → σ → Option (Bool × σ)) (n0 : Nat) (g : Reg) (x : Opd) (st : St) (s : σ) : U tbl Y n0 (.pani g x) st s = paniC x (runReg (EL tbl) Y g st s) := by
  rw [U_pani]; rfl
noncomputable def dfrC {σ : Type} (Y : List P → σ → Option (Bool × σ)) (n0 : Nat) (x t n : Nat) (body : AC) (o : Option (St × σ)) : Option (Ex × St × σ) := match o with
  | some (st, s) => match st.fr.get x with
    | .ptr _ _ => dfrO x t n (U tbl Y n0 body st s)
    | _ => none
  | none => none
theorem dfrC_some {σ : Type} (Y : List P → σ → Option (Bool × σ)) (n0 : Nat) (x t n : Nat) (body : AC) (st : St) (s : σ) : dfrC tbl Y n0 x t n body (some (st, s)) = (match st.fr.get x with
    | .ptr _ _ => dfrO x t n (U tbl Y n0 body st s)
    | _ => none) := rfl
theorem u_dfr {σ : Type} (Y : List P → σ → Option (Bool × σ)) (n0 : Nat) (g : Reg) (f x t n : Nat) (body : AC) (st : St) (s : σ) : U tbl Y n0 (.dfr g f x t n body) st s = dfrC tbl Y n0 x t n body (runReg (EL tbl) Y g st s) := by
  rw [U_dfr]; rfl

def callO (o : Option (V × List Blk × Unit)) : Option (V × List Blk) := match o with | some (v, m, _) => some (v, m) | none => none
theorem callO_some (v : V) (m : List Blk) (s : Unit) : callO (some (v, m, s)) = some (v, m) := rfl
def iterO {σ : Type} (o : Option (V × List Blk × σ)) : Option σ := o.bind itO
theorem iterO_some {σ : Type} (v : V) (m : List Blk) (s : σ) : iterO (some (v, m, s)) = if v.pan?.isSome = true then none else some s := rfl

theorem finish_af (nt : Nat) (res : List ARes) (c : AC) (kp : Bool) (n0 : Nat) (st : St) : finish ⟨nt, res, c, kp⟩ n0 st = finish ⟨0, res, .skip, kp⟩ n0 st := rfl

theorem call_fn' {id : Nat} {nt : Nat} {res : List ARes} {c : AC} {kp : Bool} (h : tbl id = some ⟨nt, res, c, kp⟩) (args : List V) (mem : List Blk) (hn : args.length ≤ nt) (hlt : Nat.blt id 6000000 = true) :
    (EL tbl).call id args mem = callO (finO res kp mem.length (U tbl noY mem.length c ⟨Fr.of nt args, mem⟩ ())) := by
  rw [call_eq, h]
  have hlt' : id < 6000000 := by rwa [Nat.blt_eq] at hlt
  have hs : splitR id args mem = none := by
    unfold splitR
    rw [show Nat.ble 6000000 id = false from by rw [Bool.eq_false_iff]; intro h; rw [Nat.ble_eq] at h; omega]
    rfl
  simp only [if_neg (show ¬ 3000000000 ≤ id by omega), hs]
  simp only [UFn, if_neg (show ¬ nt < args.length by omega)]
  unfold finO
  cases U tbl noY mem.length c ⟨Fr.of nt args, mem⟩ () with
  | none => rfl
  | some p =>
    obtain ⟨ex, st, s⟩ := p
    cases ex with
    | normal => simp only [finish_af nt]; cases finish ⟨0, res, .skip, kp⟩ mem.length st <;> rfl
    | ret => simp only [finish_af nt]; cases finish ⟨0, res, .skip, kp⟩ mem.length st <;> rfl
    | exit i => rfl
    | pan t xs => simp only; cases gc mem.length ⟨⟨0, []⟩, st.mem⟩ <;> rfl

theorem iter_fn' {σ : Type} (Y : List P → σ → Option (Bool × σ)) {id : Nat} {nt : Nat} {res : List ARes} {c : AC} {kp : Bool} (h : tbl id = some ⟨nt, res, c, kp⟩) (args : List V) (mem : List Blk) (s : σ) (hn : args.length ≤ nt) (hlt : Nat.blt id 6000000 = true) :
    (EL tbl).iter σ Y id args mem s = iterO (finO res kp mem.length (U tbl Y mem.length c ⟨Fr.of nt args, mem⟩ s)) := by
  rw [iter_eq, h]
  have hlt' : id < 6000000 := by rwa [Nat.blt_eq] at hlt
  simp only [if_neg (show ¬ 3000000000 ≤ id by omega)]
  simp only [UFn, if_neg (show ¬ nt < args.length by omega)]
  unfold finO
  cases U tbl Y mem.length c ⟨Fr.of nt args, mem⟩ s with
  | none => rfl
  | some p =>
    obtain ⟨ex, st, s⟩ := p
    cases ex with
    | normal => simp only [finish_af nt]; cases finish ⟨0, res, .skip, kp⟩ mem.length st <;> rfl
    | ret => simp only [finish_af nt]; cases finish ⟨0, res, .skip, kp⟩ mem.length st <;> rfl
    | exit i => rfl
    | pan t xs => simp only; cases gc mem.length ⟨⟨0, []⟩, st.mem⟩ <;> rfl

/-- What a bounded run says holds of the run without a bound. -/
theorem U_of_run {σ : Type} {Y : List P → σ → Option (Bool × σ)} {n0 n k : Nat} {a : AC} {st : St} {s : σ} {r : Ex × St × σ} (h : runC (evalN tbl n) Y n0 k a st s = some r) : U tbl Y n0 a st s = some r :=
  (U_some tbl Y).2 ⟨k, runC_mono (EL_above tbl n) a (YLe.refl Y) n0 k k (Nat.le_refl k) st s r h⟩

theorem call_of_run {n id : Nat} {args : List V} {m : List Blk} {r : V × List Blk} (h : (evalN tbl n).call id args m = some r) : (EL tbl).call id args m = some r := (EL_call tbl).2 ⟨n, h⟩
end

theorem range1 : List.range 1 = [0] := rfl
theorem range2 : List.range 2 = [0, 1] := rfl
theorem range3 : List.range 3 = [0, 1, 2] := rfl
theorem range4 : List.range 4 = [0, 1, 2, 3] := rfl
theorem range5 : List.range 5 = [0, 1, 2, 3, 4] := rfl

/-- A function that yields the elements of a list, as long as it is asked to. -/
def feed {σ : Type} (Y : List P → σ → Option (Bool × σ)) : List (List P) → σ → Option σ
  | [], s => some s
  | x :: r, s => match Y x s with
    | some (true, s') => feed Y r s'
    | some (false, s') => some s'
    | none => none

section
variable (tbl : Nat → Option AFn) {σ : Type} (Y : List P → σ → Option (Bool × σ)) (n0 : Nat)

def outR (fr : Fr) (o : Option (Rg σ)) : Option (Ex × St × σ) := match o with | some g => if g.out.isPan then none else some (g.out, ⟨fr, g.mem⟩, g.s) | none => none
theorem outR_some (fr : Fr) (m : List Blk) (ex : Ex) (s : σ) : outR fr (some ⟨m, ex, s⟩) = if ex.isPan = true then none else some (ex, ⟨fr, m⟩, s) := rfl
theorem isPan_normal : Ex.isPan .normal = false := rfl
theorem isPan_exit (i : Nat) : Ex.isPan (.exit i) = false := rfl
theorem isPan_ret : Ex.isPan .ret = false := rfl

noncomputable def rangeC (fr : Fr) (params : List Nat) (assign body : AC) (s : σ) (o : Option (Nat × List V × List Blk × List Blk)) : Option (Ex × St × σ) := match o with
  | some (id, as, ms, m0) => outR fr ((EL tbl).iter (Rg σ) (UY tbl Y m0.length fr params assign body) id (.yield :: as) ms ⟨m0, .normal, s⟩)
  | none => none
theorem rangeC_some (fr : Fr) (params : List Nat) (assign body : AC) (s : σ) (id : Nat) (as : List V) (ms m0 : List Blk) : rangeC tbl Y fr params assign body s (some (id, as, ms, m0)) = outR fr ((EL tbl).iter (Rg σ) (UY tbl Y m0.length fr params assign body) id (.yield :: as) ms ⟨m0, .normal, s⟩) := rfl

theorem u_range (f : Opd) (params lift : List Nat) (assign body : AC) (st0 : St) (s : σ) :
    U tbl Y n0 (.range f params lift assign body) st0 s = rangeC tbl Y (liftAll lift st0).fr params assign body s (rangeIn f (liftAll lift st0)) := by
  rw [U_range]
  unfold rangeC outR
  cases rangeIn f (liftAll lift st0) with
  | none => rfl
  | some p => rfl

/-- A round, in the same way. -/
noncomputable def roundC (n0 : Nat) (body : AC) (o : Option (Ex × St × σ)) : Option (Bool × Rg σ) := match o with
  | some (.normal, st1, s1) => match U tbl Y n0 body st1 s1 with
    | some (ex, st2, s2) => if ex.isPan then none else match gc n0 ⟨⟨0, []⟩, st2.mem⟩ with
      | some st3 => some (ex == .normal, ⟨st3.mem, ex, s2⟩)
      | none => none
    | none => none
  | _ => none
noncomputable def roundE (n0 : Nat) (o : Option (Ex × St × σ)) : Option (Bool × Rg σ) := match o with
    | some (ex, st2, s2) => if ex.isPan then none else match gc n0 ⟨⟨0, []⟩, st2.mem⟩ with
      | some st3 => some (ex == .normal, ⟨st3.mem, ex, s2⟩)
      | none => none
    | none => none
def roundG (ex : Ex) (s : σ) (o : Option St) : Option (Bool × Rg σ) := match o with | some st3 => some (ex == .normal, ⟨st3.mem, ex, s⟩) | none => none
theorem roundC_normal (body : AC) (st : St) (s : σ) : roundC tbl Y n0 body (some (.normal, st, s)) = roundE n0 (U tbl Y n0 body st s) := rfl
theorem roundE_some (ex : Ex) (st : St) (s : σ) : roundE n0 (some (ex, st, s)) = if ex.isPan = true then none else roundG ex s (gc n0 ⟨⟨0, []⟩, st.mem⟩) := rfl
theorem roundG_normal (s : σ) (st : St) : roundG .normal s (some st) = some (true, ⟨st.mem, .normal, s⟩) := rfl
theorem roundG_exit (i : Nat) (s : σ) (st : St) : roundG (.exit i) s (some st) = some (false, ⟨st.mem, .exit i, s⟩) := rfl
theorem roundG_ret (s : σ) (st : St) : roundG .ret s (some st) = some (false, ⟨st.mem, .ret, s⟩) := rfl
theorem uy_eq (fr : Fr) (params : List Nat) (assign body : AC) (ps : List P) (m : List Blk) (s : σ) (h : ps.length = params.length) :
    UY tbl Y n0 fr params assign body ps ⟨m, .normal, s⟩ = roundC tbl Y n0 body (U tbl Y n0 assign ⟨setMany fr params (ps.map V.p), m⟩ s) := by
  unfold UY roundC
  simp only [h, and_self, if_true]
  try rfl
end

/-! ### Facts about lists that rounds use -/

theorem drop_cons_facts {α : Type} {l : List α} {k : Nat} {x : α} {r : List α} (h : l.drop k = x :: r) : l[k]? = some x ∧ k < l.length ∧ l.drop (k + 1) = r := by
  have hk : k < l.length := by
    apply Nat.lt_of_not_le
    intro hle
    rw [List.drop_eq_nil_of_le hle] at h; cases h
  rw [List.drop_eq_getElem_cons hk] at h
  simp only [List.cons.injEq] at h
  exact ⟨by rw [List.getElem?_eq_getElem hk, h.1], hk, h.2⟩

theorem drop_nil_facts {α : Type} {l : List α} {k : Nat} (h : l.drop k = []) : l.length ≤ k := by
  simpa using h

theorem strips_p : ∀ (l : List P), (l.map V.p).map V.strip = l.map V.p
  | [] => rfl
  | x :: r => by simp only [List.map_cons, strips_p r, V.strip, V.toP]

theorem natlt {k n : Nat} (h : k < n) : ((k : Int) < (n : Int)) = True := by simp; exact h
theorem natnlt {k n : Nat} (h : n ≤ k) : ((k : Int) < (n : Int)) = False := by simp; exact h
theorem nat0 (k : Nat) : (0 ≤ (k : Int)) = True := by simp
theorem succ64 {k : Nat} (h : k < 9223372036854775807) : IntKind.wrap .i64 ((k : Int) + 1) = ((k + 1 : Nat) : Int) := by
  rw [wrap64 (by omega) (by omega)]; omega

theorem allCell_pi : ∀ (d : List Int), ((d.map Pi).map V.p).all V.isCell = true
  | [] => rfl
  | x :: r => by simp only [List.map_cons, List.all_cons, allCell_pi r, V.isCell, scalarCell, Bool.and_self]
theorem setRange_nil (cs : List V) : setRange cs 0 [] = cs := by simp [setRange]
theorem setRange_zero (c : V) (cs : List V) (v : V) (vs : List V) : setRange (c :: cs) 0 (v :: vs) = v :: setRange cs 0 vs := by simp [setRange]
theorem setRange_succ (c : V) (cs : List V) (k : Nat) (vs : List V) : setRange (c :: cs) (k + 1) vs = c :: setRange cs k vs := by
  simp only [setRange, List.take_succ_cons, List.cons_append]
  rw [show k + 1 + vs.length = (k + vs.length) + 1 by omega, List.drop_succ_cons]
theorem setRange_full {cs vs : List V} (h : cs.length = vs.length) : setRange cs 0 vs = vs := by simp [setRange, h]
theorem opens_p (i : Nat) (ps : List P) : ∀ (l : List P), opens i ps (l.map V.p) = some (l.map V.p)
  | [] => rfl
  | x :: r => by simp only [List.map_cons, opens, V.open_, opens_p i ps r]
/-- A store into a row of cells that are data. -/
theorem setRange_p {l : List P} {i : Nat} {x : P} (h : i < l.length) : setRange (l.map V.p) i [.p x] = (l.set i x).map V.p := by
  unfold setRange
  rw [List.map_set]
  simp only [List.length_cons, List.length_nil, Nat.zero_add]
  rw [List.set_eq_take_append_cons_drop, if_pos (by simpa using h)]
  simp
theorem chunk0 : ∀ (n : Nat) (l : List P), l.length = n → chunk 0 n l = l
  | 0, l, h => by simp [chunk, List.eq_nil_of_length_eq_zero h]
  | n + 1, [], h => by simp at h
  | n + 1, x :: r, h => by
    simp only [chunk, sz, if_true, List.headD_cons, List.drop_succ_cons, List.drop_zero]
    rw [chunk0 n r (by simpa using h)]
theorem chunk0_take : ∀ (n : Nat) (l : List P), n ≤ l.length → chunk 0 n l = l.take n
  | 0, l, h => by simp [chunk]
  | n + 1, [], h => by simp at h
  | n + 1, x :: r, h => by
    simp only [chunk, sz, if_true, List.headD_cons, List.drop_succ_cons, List.drop_zero, List.take_succ_cons]
    rw [chunk0_take n r (by simpa using h)]

theorem mostOf_le {k : Nat} {sm : Bool} (h : k ≤ most) : (k ≤ mostOf sm) = True := by
  cases sm with
  | true => simp only [mostOf, cond_true, eq_iff_iff, iff_true]; simp only [most] at h; omega
  | false => simp only [mostOf, cond_false, eq_iff_iff, iff_true]; exact h

attribute [go_sem] isPan_normal isPan_exit isPan_ret thenC_pan blockC_pan loopC_pan finO_pan panR_some pan_p pan_nil pan_sl pan_ref pan_ptr pan_agg pan_fn pan_iface pan_t0 pan_t_p pan_t_nil pan_t_sl pan_t_ref pan_t_ptr pan_t_agg pan_t_fn pan_t_iface pan_panV tryR_some tryR_none tryC_some segC_normal segC_pan segs_nil segs_cons u_tryc paniC_some paniO u_pani dfrC_some dfrO u_dfr calm mostOf_le Option.isSome_none cond_true cond_false intsOf
attribute [go_sem] allCell_pi u_seq u_cond u_block u_reg U_skip U_exit U_ret thenC_normal thenC_exit thenC_ret thenC_none condC_true condC_false blockC_normal blockC_ret blockC_none blockC_exit regC_some regC_none loopC_normal loopC_exit loopC_ret loopC_none u_range rangeC_some outR_some roundC_normal roundE_some roundG_normal roundG_exit roundG_ret thenO_some thenO_none putR_some putR_none yieldR_some yieldR_none guardO_tt guardO_tf guardO_ft guardO_ff step1_none step1_guard runOps_nil runOps_cons killO_some killO_none goO runReg_seq runReg_pre preC_some withS_some withS_none putS_some putS_none guardS_tt guardS_tf guardS_ft guardS_ff stepS_none stepS_guard thenS_some thenS_none runS_nil runS_cons run_ite runB_nil runB_cons thenB_some stepBB_none stepBB_guard putB_some guardB_tt guardB_tf guardB_ft guardB_ff okBB look meets RM.reads List.any_nil List.any_cons List.contains_cons Bool.or_false Bool.false_or Bool.or_self bne_self_eq_false finV_some finO_normal finO_ret callO_some iterO_some Fr.of numF Fr.get getF_nil getF_cons putF_nil putF_cons put_mk drop_nil drop_cons dropF_nil dropF_cons inL_nil inL_cons keepOnly Fr.keep keepF_nil keepF_cons setMany putD freezeSlots freezeAll exec1 opd i64 bound RM.run RM.lift RM.bind atHole getC applyUps setRange_nil setRange_zero setRange_succ setRange_p freeze1 V.open_ opens openBlks opens_p setRange_full fillV rep chunk toPs V.toP V.cells? V.agg? V.isCell scalarCell P.cells sz binV binI unV mmV eqCells oneOrTuple resVs resV finish V.strip srcOf srcCells callee callF reach readAll nd noYs V.noY Blk.noY rens V.ren renBlks Blk.ren V.ids idss Fr.vals Fr.map? mapF liftAll lift1 inner Zc.toV undefV undefP gc_clean idss_p noYs_p rens_p toPs_p strips_p nat0 Int.toNat_natCast if_false if_true Nat.lt_irrefl Nat.zero_add Nat.add_zero Nat.zero_mul Nat.mul_zero Nat.one_mul Nat.mul_one Nat.le_refl Nat.zero_le Option.map_some Option.map_none Option.bind_some Option.bind_none Option.elim Option.some.injEq Bool.false_eq_true Bool.true_eq_false Bool.true_and Bool.and_true Bool.and_self Bool.not_true Bool.not_false beq_self_eq_true decide_true decide_false decide_eq_true_eq gt_iff_lt ge_iff_le decide_eq_false_iff_not ite_true ite_false ite_not not_true_eq_false not_false_eq_true and_self and_true true_and and_false false_and List.length_cons List.length_nil List.length_map List.length_append List.length_replicate List.map_cons List.map_nil List.append_nil List.nil_append List.cons_append List.all_nil List.all_cons List.zip_nil_left List.zip_nil_right List.zip_cons_cons List.take_nil List.drop_nil List.take_zero List.drop_zero List.take_succ_cons List.drop_succ_cons List.reverse_nil List.reverse_cons List.replicate_zero List.replicate_succ List.getElem?_cons_zero List.getElem?_cons_succ List.getElem?_nil List.getElem?_map List.set_cons_zero List.set_cons_succ List.head?_cons List.headD_cons List.contains_nil List.filter_nil List.range_zero List.isEmpty_nil List.flatMap_nil List.flatMap_cons

end Go.Am

/- A law's row out of what the evaluator says at every input. -/





namespace Go.Am
open Go Go.RowKit Go.ChangeShapes

variable (N : Nm) (pr : Program)

def Typed (k : Nat) (ts : List Nat) (qs : List P) : Prop := qs.length = ts.length ∧ ∀ (j t : Nat) (q : P), ts[j]? = some t → qs[j]? = some q → tyP pr k t q.cells ∧ (q.isAgg = true ↔ nOf pr t ≠ 0)

theorem args_read {H : Type} {enc : TypeId × Value → H} {W : World} {spare : Nat → Bool} {held : Bool} {k : Nat} : ∀ {ts : List Nat} {vs : List Value} {ds : List (DataW H)} {ps : List MemPlace},
    DataW.TrodAll enc pr W 0 spare held ts vs ds ps → (∀ t ∈ ts, okTy pr k t = true ∧ pr.cellsOf t = sz (nOf pr t)) → (∀ (j t : Nat) (v : Value), ts[j]? = some t → vs[j]? = some v → ∃ r b2, Value.okWide pr W r b2 t v) → (∀ x ∈ DataW.weightsEach pr ts ds, x ≤ reachBytes) →
    ∃ qs : List P, Reps N (allH W) qs vs ∧ Typed pr k ts qs
  | [], [], [], _, _, _, _, _ => ⟨[], by simp [Reps], rfl, fun j t q h => by simp at h⟩
  | t :: ts, v :: vs, d :: ds, _, h, ho, hv, hw => by
    obtain ⟨p, q, h1, h2, rfl⟩ := h
    obtain ⟨r, b2, hok⟩ := hv 0 t v rfl rfl
    obtain ⟨x, hx⟩ := arg_reads N pr (k := k) (ho t (by simp)).1 (ho t (by simp)).2 hok h1 (fun x hx => hw x (by simp only [DataW.weightsEach, List.mem_append]; exact .inl hx))
    obtain ⟨qs, g1, g2, g3⟩ := args_read h2 (fun t ht => ho t (by simp [ht])) (fun j t v hj hj' => hv (j + 1) t v (by simpa using hj) (by simpa using hj')) (fun x hx => hw x (by simp only [DataW.weightsEach, List.mem_append]; exact .inr hx))
    refine ⟨x :: qs, by simp only [Reps]; exact ⟨v, vs, rfl, hx.rep, g1⟩, by simp [g2], fun j t' q' hj hj' => ?_⟩
    cases j with
    | zero => simp at hj hj'; subst hj hj'; exact ⟨hx.ty, hx.agg⟩
    | succ j => exact g3 j t' q' (by simpa using hj) (by simpa using hj')
  | [], [], _ :: _, _, h, _, _, _ => h.elim
  | [], _ :: _, _, _, h, _, _, _ => by cases h
  | _ :: _, [], _, _, h, _, _, _ => by cases h
  | _ :: _, _ :: _, [], _, h, _, _, _ => by cases h

theorem weightsEach_left {H : Type} : ∀ {ts : List TypeId} {ds : List (DataW H)} (ts' : List TypeId) (ds' : List (DataW H)) {x : Nat}, x ∈ DataW.weightsEach pr ts ds → x ∈ DataW.weightsEach pr (ts ++ ts') (ds ++ ds')
  | t :: ts, d :: ds, ts', ds', x, h => by
    simp only [List.cons_append, DataW.weightsEach, List.mem_append] at h ⊢
    exact h.imp id (weightsEach_left ts' ds')
  | [], _, _, _, _, h => by simp [DataW.weightsEach] at h
  | _ :: _, [], _, _, _, h => by simp [DataW.weightsEach] at h

theorem args_same {H : Type} {enc : TypeId × Value → H} (hl : laidOutB pr = true) {W W' : World} {sp : Nat → Bool} (hb : Below W.heap.size W W') : ∀ {ts : List Nat} {vs : List Value} {ds : List (DataW H)} {ps : List MemPlace},
    DataW.TrodAll enc pr W 0 (fun _ => true) true ts vs ds ps → (∀ t ∈ ts, pr.readableRec t = true ∧ t < pr.types.size) → (∀ p ∈ ps, p.block < W.heap.size) → (∀ p ∈ ps, sp p.block = true) → DataW.TrodAll enc pr W' 0 sp true ts vs ds ps
  | [], [], [], _, h, _, _, _ => h
  | t :: ts, v :: vs, d :: ds, _, h, ho, hlt, hsp => by
    obtain ⟨p, q, h1, h2, rfl⟩ := h
    exact ⟨p, q, WideElems.Trod_stays hl (ho t (by simp)).1 (ho t (by simp)).2 h1 (fun x hx => hb.same (hlt x (by simp [hx]))) (fun x hx => hsp x (by simp [hx])),
      args_same hl hb h2 (fun t ht => ho t (by simp [ht])) (fun x hx => hlt x (by simp [hx])) (fun x hx => hsp x (by simp [hx])), rfl⟩
  | [], [], _ :: _, _, h, _, _, _ => h.elim
  | [], _ :: _, _, _, h, _, _, _ => by cases h
  | _ :: _, [], _, _, h, _, _, _ => by cases h
  | _ :: _, _ :: _, [], _, h, _, _, _ => by cases h

/-- What is asked of the types of a law's arguments. -/
def tysOk (k : Nat) (ts : List Nat) : Bool := ts.all fun t => okTy pr k t && pr.cellsOf t == sz (nOf pr t) && pr.readableRec t && decide (t < pr.types.size)

/-- A law's contract. -/
theorem row_contract {H : Type} {enc : TypeId × Value → H} (hmix : pr.follows .mixedOrders = true) {tbl : Nat → Option AFn} (ht : TblOk N pr tbl) {id f : Nat} (hid : N.num id = f) {fn : Func} {s : ChangeSpec} {apart fresh handsOn again : Bool}
    {tb k : Nat} (hres : fn.resultTypes = #[tb]) (hb : pr.underlying tb = some .bool) (hty : tysOk pr k fn.params.toList = true) (hl : laidOutB pr = true) (hv0 : s.vars = [])
    (hsp : ∀ ds : List (DataW H), ds.length = fn.params.size → (s.fn H ds).results = [.lit (.bool true)] ∧ (s.fn H ds).args = ds ∧ (s.fn H ds).vars = [])
    (law : ∀ qs : List P, Typed pr k fn.params.toList qs → ∃ m, (EL tbl).call id (qs.map V.p) [] = some (.p (.v (.bool true)), m))
    (W : World) (base : Nat) (args : Array Value) (ds gs : List (DataW H)) (before : List MemPlace)
    (hval : ∀ (j : Nat) t v, fn.params[j]? = some t → args[j]? = some v → Value.okWide pr W .any base t v) (hW : DataW.Whole enc pr fn.params.toList s.vars apart W args.toList ds gs before) (hreach : (DataW.weightsEach pr (fn.params.toList ++ s.plain.varTypes pr) (ds ++ gs)).all (· ≤ reachBytes) = true) (hlt : id < 3000000000 := by decide) :
    Calls pr f args W fun e W' => ∃ v, e = .returned v ∧ s.post enc pr fn apart fresh handsOn again W args v W' := by
  have hW' := hW
  obtain ⟨p, q, hA, hV, rfl, hfz, hnd⟩ := hW
  rw [hv0] at hV
  obtain ⟨rfl, rfl⟩ := trodVars_none hV
  have hall : ∀ t ∈ fn.params.toList, (okTy pr k t = true ∧ pr.cellsOf t = sz (nOf pr t)) ∧ pr.readableRec t = true ∧ t < pr.types.size := fun t ht => by
    have := List.all_eq_true.1 hty t ht
    simp only [Bool.and_eq_true, beq_iff_eq, decide_eq_true_eq] at this
    exact ⟨this.1.1, this.1.2, this.2⟩
  obtain ⟨qs, hr, htyped⟩ := args_read N pr hA (fun t ht => (hall t ht).1) (fun j t v hj hv => ⟨.any, base, hval j t v (by simpa using hj) (by simpa using hv)⟩) (fun x hx => by
    have := List.all_eq_true.1 hreach x (weightsEach_left pr _ _ hx)
    simpa using this)
  obtain ⟨m, hm⟩ := law qs htyped
  obtain ⟨n, hn⟩ := (EL_call tbl).1 hm
  have hc := open_law N pr hmix ht hid hr ⟨n, by rw [hn]; rfl⟩ hlt
  simp only [Array.toArray_toList] at hc
  refine hc.mono fun e W' ⟨he, hg, htp, hblk⟩ => ?_
  subst he
  have hbel : Below W.heap.size W W' := ⟨hg.1.1, htp, hg.1.2.1, hg.2.2, hblk⟩
  have hlen : ds.length = fn.params.size := by
    have : ∀ {ts : List Nat} {vs : List Value} {ds : List (DataW H)} {ps : List MemPlace}, DataW.TrodAll enc pr W 0 (fun _ => true) true ts vs ds ps → ds.length = ts.length := by
      intro ts
      induction ts with
      | nil => intro vs ds ps h; cases vs <;> cases ds <;> first | rfl | exact h.elim | cases h
      | cons t ts ih =>
        intro vs ds ps h
        cases vs <;> cases ds <;> first | (obtain ⟨p, q, h1, h2, rfl⟩ := h; simp [ih h2]) | exact h.elim | cases h
    simpa using this hA
  obtain ⟨s1, s2, s3⟩ := hsp (ds ++ []) (by simpa using hlen)
  refine ⟨_, rfl, post_of_same (pa := p) (pv := []) hW' (fun _ _ _ => ?_) (fun sp hs => ?_) (fun sp _ => ?_) (by simp) (World.keptBut_mono (fun p hp => hp.elim) hg.1) hg.2.1 (ok_one hres rfl (okWide_bool_mk hb _))⟩
  · rw [s1, hres]
    exact trodAll_mk1 (shut_bool hb true)
  · rw [s2]
    simp only [List.append_nil]
    exact args_same pr hl hbel hA (fun t ht => (hall t ht).2) (fun x hx => by
      have := hW'.lt x (by simpa using hx)
      exact this) (fun x hx => hs x (by simpa using hx))
  · rw [s3, hv0]; rfl

/-! ### Arguments of the kinds that laws have -/

theorem wf64 {n : Int} (h : (Lit.int .i64 n).wf = true) : -9223372036854775808 ≤ n ∧ n ≤ 9223372036854775807 := by
  simp only [Lit.wf, IntKind.min, IntKind.max, IntKind.signed, IntKind.bits, Bool.and_eq_true, decide_eq_true_eq] at h
  simp at h
  omega

theorem arg_int {k t : Nat} {kd : IntKind} (hu : pr.underlying t = some (.int kd)) {q : P} (h : tyP pr (k + 1) t q.cells) (ha : q.isAgg = true ↔ nOf pr t ≠ 0) : ∃ n, q = .v (.int kd n) ∧ (Lit.int kd n).wf = true := by
  have hn : nOf pr t = 0 := by simp only [nOf, hu]
  have hna : q.isAgg = false := by
    cases hq : q.isAgg with
    | false => rfl
    | true => exact absurd hn (ha.1 hq)
  simp only [tyP, hu] at h
  obtain ⟨n, h1, h2⟩ := h
  refine ⟨n, ?_, h2⟩
  cases q <;> simp only [P.cells, List.cons.injEq, and_true] at h1 <;> first | exact h1 | (simp [P.isAgg] at hna)

theorem arg_slice {α : Type} {e t k : Nat} {enc : α → P} {Q : α → Prop} (hu : pr.underlying t = some (.slice e)) (hel : ∀ x : P, tyP pr k e x.cells → (x.isAgg = true ↔ nOf pr e ≠ 0) → ∃ a, x = enc a ∧ Q a)
    {q : P} (h : tyP pr (k + 1) t q.cells) (ha : q.isAgg = true ↔ nOf pr t ≠ 0) : ∃ l : List α, q = .sl (nOf pr e) (l.map enc) ∧ (l.length ≤ maxLen ∧ l.length * pr.bytesOf e ≤ reachBytes) ∧ ∀ a ∈ l, Q a := by
  have hn : nOf pr t = 0 := by simp only [nOf, hu]
  have hna : q.isAgg = false := by
    cases hq : q.isAgg with
    | false => rfl
    | true => exact absurd hn (ha.1 hq)
  simp only [tyP, hu] at h
  obtain ⟨es, h1, h2, h3⟩ := h
  have hl : ∀ es : List P, (∀ x ∈ es, tyP pr k e x.cells ∧ (x.isAgg = true ↔ nOf pr e ≠ 0)) → ∃ l : List α, es = l.map enc ∧ ∀ a ∈ l, Q a := by
    intro es
    induction es with
    | nil => intro _; exact ⟨[], rfl, by simp⟩
    | cons x r ih =>
      intro hx
      obtain ⟨a, ha1, ha2⟩ := hel x (hx x (by simp)).1 (hx x (by simp)).2
      obtain ⟨l, hl1, hl2⟩ := ih fun y hy => hx y (by simp [hy])
      refine ⟨a :: l, by rw [ha1, hl1]; rfl, fun b hb => ?_⟩
      rcases List.mem_cons.1 hb with rfl | hb
      · exact ha2
      · exact hl2 b hb
  obtain ⟨l, e1, e2⟩ := hl es h3
  refine ⟨l, ?_, by rw [e1] at h2; simpa using h2, e2⟩
  have hq : q = .sl (nOf pr e) es := by cases q <;> simp only [P.cells, List.cons.injEq, and_true] at h1 <;> first | exact h1 | (simp [P.isAgg] at hna)
  rw [hq, e1]

/-- A slice of whole numbers. -/
theorem arg_ints {e t k : Nat} {kd : IntKind} (hu : pr.underlying t = some (.slice e)) (he : pr.underlying e = some (.int kd)) {q : P} (h : tyP pr (k + 2) t q.cells) (ha : q.isAgg = true ↔ nOf pr t ≠ 0) :
    ∃ l : List Int, q = .sl 0 (l.map fun n => .v (.int kd n)) ∧ (l.length ≤ maxLen ∧ l.length * pr.bytesOf e ≤ reachBytes) ∧ ∀ n ∈ l, (Lit.int kd n).wf = true := by
  have hn : nOf pr e = 0 := by simp only [nOf, he]
  have := arg_slice pr (enc := fun n => P.v (.int kd n)) (Q := fun n => (Lit.int kd n).wf = true) hu (fun x h1 h2 => arg_int pr he h1 h2) h ha
  rwa [hn] at this

theorem arg_bool {k t : Nat} (hu : pr.underlying t = some .bool) {q : P} (h : tyP pr (k + 1) t q.cells) (ha : q.isAgg = true ↔ nOf pr t ≠ 0) : ∃ b, q = .v (.bool b) := by
  have hn : nOf pr t = 0 := by simp only [nOf, hu]
  have hna : q.isAgg = false := by
    cases hq : q.isAgg with
    | false => rfl
    | true => exact absurd hn (ha.1 hq)
  simp only [tyP, hu] at h
  obtain ⟨n, h1⟩ := h
  refine ⟨n, ?_⟩
  cases q <;> simp only [P.cells, List.cons.injEq, and_true] at h1 <;> first | exact h1 | (simp [P.isAgg] at hna)

theorem Typed.get {k : Nat} {ts : List Nat} {qs : List P} (h : Typed pr k ts qs) {t : Nat} {r : List Nat} (e : ts = t :: r) : ∃ q qr, qs = q :: qr ∧ (tyP pr k t q.cells ∧ (q.isAgg = true ↔ nOf pr t ≠ 0)) ∧ Typed pr k r qr := by
  subst e
  obtain ⟨h1, h2⟩ := h
  cases qs with
  | nil => simp at h1
  | cons q qr => exact ⟨q, qr, rfl, h2 0 t q rfl rfl, by simpa using h1, fun j t' q' hj hj' => h2 (j + 1) t' q' (by simpa using hj) (by simpa using hj')⟩
theorem Typed.nil {k : Nat} {qs : List P} (h : Typed pr k [] qs) : qs = [] := List.eq_nil_of_length_eq_zero h.1

end Go.Am

/- Arguments that are structs: a game. No condition. -/

namespace Go.Am
open Go
variable (pr : Program)

/-- A struct's fields: their types and places. -/
def isStruct (t : Nat) (l : List (Nat × Nat)) : Bool := match pr.underlying t with
  | some (.struct fs) => fs.toList.map (fun f => (f.type, f.offset)) == l
  | _ => false

theorem arg_agg {k t : Nat} {l : List (Nat × Nat)} (hs : isStruct pr t l = true) {q : P} (h : tyP pr (k + 1) t q.cells) (ha : q.isAgg = true ↔ nOf pr t ≠ 0) (hn : nOf pr t ≠ 0) :
    ∃ ps, q = .agg ps ∧ ps.length = pr.cellsOf t ∧ ∀ p ∈ l, tyP pr k p.1 ((ps.drop p.2).take (pr.cellsOf p.1)) := by
  unfold isStruct at hs
  split at hs
  · rename_i fs hu
    have hq := ha.2 hn
    cases q <;> simp [P.isAgg] at hq
    rename_i ps
    refine ⟨ps, rfl, ?_⟩
    simp only [tyP, hu, P.cells] at h
    refine ⟨h.1, fun p hp => ?_⟩
    rw [← (beq_iff_eq.1 hs)] at hp
    obtain ⟨f, hf, rfl⟩ := List.mem_map.1 hp
    exact h.2 f hf
  · cases hs

theorem cell_int {k t : Nat} {kd : IntKind} (hu : pr.underlying t = some (.int kd)) {x : P} (h : tyP pr (k + 1) t [x]) : ∃ n, x = .v (.int kd n) ∧ (Lit.int kd n).wf = true := by
  simp only [tyP, hu] at h
  obtain ⟨n, h1, h2⟩ := h
  simp only [List.cons.injEq, and_true] at h1
  exact ⟨n, h1, h2⟩

theorem cell_slice {α : Type} {e t k : Nat} {enc : α → P} {Q : α → Prop} (hu : pr.underlying t = some (.slice e)) (hel : ∀ x : P, tyP pr k e x.cells → (x.isAgg = true ↔ nOf pr e ≠ 0) → ∃ a, x = enc a ∧ Q a)
    {x : P} (h : tyP pr (k + 1) t [x]) : ∃ l : List α, x = .sl (nOf pr e) (l.map enc) ∧ (l.length ≤ maxLen ∧ l.length * pr.bytesOf e ≤ reachBytes) ∧ ∀ a ∈ l, Q a := by
  have hx : ∃ n es, x = .sl n es := by
    simp only [tyP, hu] at h
    obtain ⟨es, h1, _⟩ := h
    simp only [List.cons.injEq, and_true] at h1
    exact ⟨_, _, h1⟩
  obtain ⟨n, es, rfl⟩ := hx
  exact arg_slice pr hu hel (q := .sl n es) h (by simp [P.isAgg, nOf, hu])

theorem cell_ints {e t k : Nat} {kd : IntKind} (hu : pr.underlying t = some (.slice e)) (he : pr.underlying e = some (.int kd)) {x : P} (h : tyP pr (k + 2) t [x]) :
    ∃ l : List Int, x = .sl 0 (l.map fun n => .v (.int kd n)) ∧ (l.length ≤ maxLen ∧ l.length * pr.bytesOf e ≤ reachBytes) ∧ ∀ n ∈ l, (Lit.int kd n).wf = true := by
  have hn : nOf pr e = 0 := by simp only [nOf, he]
  have := cell_slice pr (enc := fun n => P.v (.int kd n)) (Q := fun n => (Lit.int kd n).wf = true) hu (fun x h1 h2 => arg_int pr he h1 h2) h
  rwa [hn] at this

theorem len2 {α : Type} {l : List α} (h : l.length = 2) : ∃ a b, l = [a, b] := by
  rcases l with _ | ⟨a, _ | ⟨b, _ | ⟨c, l⟩⟩⟩ <;> simp at h
  exact ⟨a, b, rfl⟩
theorem len3 {α : Type} {l : List α} (h : l.length = 3) : ∃ a b c, l = [a, b, c] := by
  rcases l with _ | ⟨a, _ | ⟨b, _ | ⟨c, _ | ⟨d, l⟩⟩⟩⟩ <;> simp at h
  exact ⟨a, b, c, rfl⟩
theorem len6 {α : Type} {l : List α} (h : l.length = 6) : ∃ a b c d e f, l = [a, b, c, d, e, f] := by
  rcases l with _ | ⟨a, _ | ⟨b, _ | ⟨c, _ | ⟨d, _ | ⟨e, _ | ⟨f, _ | ⟨g, l⟩⟩⟩⟩⟩⟩⟩ <;> simp at h
  exact ⟨a, b, c, d, e, f, rfl⟩
end Go.Am
