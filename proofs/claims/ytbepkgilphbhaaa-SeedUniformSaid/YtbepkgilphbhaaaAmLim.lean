/- The evaluator without a bound: what the bounded ones say together. -/
import Derived.Test.YtbepkgilphbhaaaAmSwap
namespace Go.Am
open Go

def OLe {α : Type} (a b : Option α) : Prop := ∀ x, a = some x → b = some x
theorem OLe.refl {α : Type} (a : Option α) : OLe a a := fun _ h => h
theorem OLe.trans {α : Type} {a b c : Option α} (h : OLe a b) (k : OLe b c) : OLe a c := fun x hx => k x (h x hx)

open Classical in
/-- What some stage says. -/
noncomputable def olim {α : Type} (f : Nat → Option α) : Option α := if h : ∃ x n, f n = some x then some h.choose else none

def Chain {α : Type} (f : Nat → Option α) : Prop := ∀ i j, i ≤ j → OLe (f i) (f j)

theorem olim_some {α : Type} {f : Nat → Option α} (hm : Chain f) {x : α} : olim f = some x ↔ ∃ n, f n = some x := by
  unfold olim
  constructor
  · intro h
    split at h
    · rename_i hx
      simp only [Option.some.injEq] at h
      rw [← h]; exact hx.choose_spec
    · cases h
  · rintro ⟨n, hn⟩
    have hx : ∃ x n, f n = some x := ⟨x, n, hn⟩
    rw [dif_pos hx]
    obtain ⟨m, hm'⟩ := hx.choose_spec
    have h1 := hm n (max n m) (by omega) _ hn
    have h2 := hm m (max n m) (by omega) _ hm'
    rw [h1] at h2
    rw [h2]

theorem olim_none {α : Type} {f : Nat → Option α} (hm : Chain f) : olim f = none ↔ ∀ n, f n = none := by
  constructor
  · intro h n
    cases hn : f n with
    | none => rfl
    | some x => rw [(olim_some hm).2 ⟨n, hn⟩] at h; cases h
  · intro h
    cases ho : olim f with
    | none => rfl
    | some x => obtain ⟨n, hn⟩ := (olim_some hm).1 ho; rw [h n] at hn; cases hn

theorem olim_ext {α : Type} {f : Nat → Option α} (hm : Chain f) {o : Option α} (h1 : ∀ n, OLe (f n) o) (h2 : ∀ x, o = some x → ∃ n, f n = some x) : olim f = o := by
  cases ho : olim f with
  | none =>
    cases o with
    | none => rfl
    | some x => obtain ⟨n, hn⟩ := h2 x rfl; rw [(olim_none hm).1 ho n] at hn; cases hn
  | some x =>
    obtain ⟨n, hn⟩ := (olim_some hm).1 ho
    exact (h1 n x hn).symm

/-! ### Orders -/

def YLe {σ : Type} (Y Y' : List P → σ → Option (Bool × σ)) : Prop := ∀ ps s, OLe (Y ps s) (Y' ps s)
theorem YLe.refl {σ : Type} (Y : List P → σ → Option (Bool × σ)) : YLe Y Y := fun _ _ => OLe.refl _

structure ELe (E E' : Env) : Prop where
  call : ∀ f args m, OLe (E.call f args m) (E'.call f args m)
  iter : ∀ (σ : Type) (Y Y' : List P → σ → Option (Bool × σ)) id args m s, YLe Y Y' → OLe (E.iter σ Y id args m s) (E'.iter σ Y' id args m s)

structure YAppr {σ : Type} (Yn : Nat → List P → σ → Option (Bool × σ)) (Y : List P → σ → Option (Bool × σ)) : Prop where
  mono : ∀ i j, i ≤ j → YLe (Yn i) (Yn j)
  lim : ∀ ps s r, Y ps s = some r → ∃ n, Yn n ps s = some r

structure Appr (En : Nat → Env) (E : Env) : Prop where
  mono : ∀ i j, i ≤ j → ELe (En i) (En j)
  call : ∀ f args m r, E.call f args m = some r → ∃ n, (En n).call f args m = some r
  iter : ∀ (σ : Type) (Yn : Nat → List P → σ → Option (Bool × σ)) Y, YAppr Yn Y → ∀ id args m s g, E.iter σ Y id args m s = some g → ∃ n, (En n).iter σ (Yn n) id args m s = some g

/-! ### One operation -/

theorem callF_dep {E : Env} {len f : Nat} {args : List V} {m : List Blk} {x : Res} (h : (callF E len f args).run m = some x) :
    ∃ as ms y, E.call f as ms = some y ∧ ∀ E' : Env, E'.call f as ms = some y → (callF E' len f args).run m = some x := by
  unfold callF at h
  rw [RM.run_bind] at h
  cases h1 : (reach 1000 (idss args) []).run m with
  | none => rw [h1] at h; simp at h
  | some idx =>
    rw [h1, Option.bind_some, RM.run_bind] at h
    cases h2 : (readAll idx).run m with
    | none => rw [h2] at h; simp at h
    | some bs =>
      rw [h2, Option.bind_some] at h
      split at h
      · rename_i hc
        split at h
        · rename_i as ms ha hm
          split at h
          · rename_i r m2 hcall
            refine ⟨as, ms, _, hcall, fun E' h' => ?_⟩
            unfold callF
            rw [RM.run_bind, h1, Option.bind_some, RM.run_bind, h2, Option.bind_some, if_pos hc]
            simp only [ha, hm, h']
            exact h
          · simp [RM.run] at h
        · simp [RM.run] at h
      · simp [RM.run] at h

theorem reads_bind {α β : Type} (m : List Blk) : ∀ (x : RM α) (f : α → RM β), (x.bind f).reads m = x.reads m ++ (match x.run m with | some a => (f a).reads m | none => [])
  | .ret a, f => by simp [RM.bind, RM.run, RM.reads]
  | .rd b k, f => by simp only [RM.bind, RM.run, RM.reads, List.cons_append]; rw [reads_bind m (k m[b]?) f]
  | .fail, f => by simp [RM.bind, RM.run, RM.reads]

theorem callF_reads (E E' : Env) (len f : Nat) (args : List V) (m : List Blk) : (callF E len f args).reads m = (callF E' len f args).reads m := by
  unfold callF
  rw [reads_bind, reads_bind]
  congr 1
  cases (reach 1000 (idss args) []).run m with
  | none => rfl
  | some idx =>
    simp only
    rw [reads_bind, reads_bind]
    congr 1
    cases (readAll idx).run m with
    | none => rfl
    | some bs =>
      simp only
      repeat' (first | rfl | split)

theorem exec1_dep {E : Env} {base len : Nat} {fr : Fr} {op : AOp} {m : List Blk} {x : Res} (h : (exec1 E base len fr op).run m = some x) :
    (∀ E' : Env, (exec1 E' base len fr op).run m = some x) ∨ ∃ f as ms y, E.call f as ms = some y ∧ ∀ E' : Env, E'.call f as ms = some y → (exec1 E' base len fr op).run m = some x := by
  cases op with
  | call f args =>
    right
    simp only [exec1] at h ⊢
    cases hc : callee (opd fr f) with
    | none => rw [hc] at h; simp [RM.run] at h
    | some p =>
      obtain ⟨id, caps⟩ := p
      rw [hc] at h
      obtain ⟨as, ms, y, h1, h2⟩ := callF_dep h
      exact ⟨id, as, ms, y, h1, h2⟩
  | _ => exact .inl fun E' => h

theorem exec1_reads (E E' : Env) (base len : Nat) (fr : Fr) (op : AOp) (m : List Blk) : (exec1 E base len fr op).reads m = (exec1 E' base len fr op).reads m := by
  cases op with
  | call f args =>
    simp only [exec1]
    split
    · exact callF_reads E E' _ _ _ _
    · rfl
  | _ => rfl

theorem step1_dep {E : Env} {σ : Type} {Y : List P → σ → Option (Bool × σ)} {base : Nat} {o : AO} {st : St} {s : σ} {r : St × σ} (h : step1 E Y base o st s = some r) :
    (∀ E' Y', step1 E' Y' base o st s = some r) ∨ (∃ f as ms y, E.call f as ms = some y ∧ ∀ (E' : Env) Y', E'.call f as ms = some y → step1 E' Y' base o st s = some r) ∨
      ∃ ps s1 b, Y ps s1 = some b ∧ ∀ (E' : Env) (Y' : List P → σ → Option (Bool × σ)), Y' ps s1 = some b → step1 E' Y' base o st s = some r := by
  have key : ∀ (q : Option Res → Option (St × σ)), q none = none → q ((exec1 E base st.mem.length st.fr o.op).run st.mem) = some r →
      (∀ E' : Env, q ((exec1 E' base st.mem.length st.fr o.op).run st.mem) = some r) ∨ ∃ f as ms y, E.call f as ms = some y ∧ ∀ E' : Env, E'.call f as ms = some y → q ((exec1 E' base st.mem.length st.fr o.op).run st.mem) = some r := by
    intro q hq hr
    cases hx : (exec1 E base st.mem.length st.fr o.op).run st.mem with
    | none => rw [hx, hq] at hr; cases hr
    | some x =>
      rw [hx] at hr
      rcases exec1_dep hx with hd | ⟨f, as, ms, y, h1, h2⟩
      · exact .inl fun E' => by rw [hd E']; exact hr
      · exact .inr ⟨f, as, ms, y, h1, fun E' h' => by rw [h2 E' h']; exact hr⟩
  unfold step1 at h ⊢
  cases hw : wants st.fr o.guard with
  | none => rw [hw] at h; cases h
  | some b =>
    rw [hw] at h
    cases b with
    | false => exact .inl fun _ _ => h
    | true =>
      simp only at h ⊢
      cases hop : o.op with
      | call f args =>
        simp only [hop] at h ⊢ key
        cases ho : opd st.fr f with
        | yield =>
          simp only [ho] at h ⊢
          cases hps : toPs (args.map (opd st.fr)) with
          | none => simp only [hps] at h; cases h
          | some ps =>
            simp only [hps] at h ⊢
            cases hY : Y ps s with
            | none => simp only [hY] at h; cases h
            | some b => exact .inr (.inr ⟨ps, s, b, hY, fun E' Y' h' => by simp only [h']; rw [hY] at h; exact h⟩)
        | _ =>
          simp only [ho] at h ⊢
          rcases key (fun x => match x with | some r => some (⟨putD st.fr o.dst r.val, applyUps st.mem r.ups ++ r.extra⟩, s) | none => none) rfl h with hd | ⟨f, as, ms, y, h1, h2⟩
          · exact .inl fun E' _ => hd E'
          · exact .inr (.inl ⟨f, as, ms, y, h1, fun E' _ h' => h2 E' h'⟩)
      | _ =>
        simp only [hop] at h ⊢ key
        rcases key (fun x => match x with | some r => some (⟨putD st.fr o.dst r.val, applyUps st.mem r.ups ++ r.extra⟩, s) | none => none) rfl h with hd | ⟨f, as, ms, y, h1, h2⟩
        · exact .inl fun E' _ => hd E'
        · exact .inr (.inl ⟨f, as, ms, y, h1, fun E' _ h' => h2 E' h'⟩)

theorem stepD_dep {E : Env} {base : Nat} {o : AO} {st : St} {r : St × Foot} (h : stepD E base o st = some r) :
    (∀ E', stepD E' base o st = some r) ∨ ∃ f as ms y, E.call f as ms = some y ∧ ∀ E' : Env, E'.call f as ms = some y → stepD E' base o st = some r := by
  unfold stepD at h ⊢
  cases hw : wants st.fr o.guard with
  | none => simp only [hw] at h; cases h
  | some b =>
    simp only [hw] at h ⊢
    cases b with
    | false => exact .inl fun _ => h
    | true =>
      simp only at h ⊢
      cases hx : (exec1 E base st.mem.length st.fr o.op).run st.mem with
      | none => simp only [hx] at h; cases h
      | some x =>
        simp only [hx] at h
        rcases exec1_dep hx with hd | ⟨f, as, ms, y, h1, h2⟩
        · exact .inl fun E' => by simp only [hd E']; rw [exec1_reads E' E]; exact h
        · exact .inr ⟨f, as, ms, y, h1, fun E' h' => by simp only [h2 E' h']; rw [exec1_reads E' E]; exact h⟩

/-! ### Growing -/

section mono
variable {E E' : Env} (hE : ELe E E') {σ : Type} {Y Y' : List P → σ → Option (Bool × σ)} (hY : YLe Y Y')
include hE

include hY in
theorem step1_mono (base : Nat) (o : AO) (st : St) (s : σ) : OLe (step1 E Y base o st s) (step1 E' Y' base o st s) := fun r h => by
  rcases step1_dep h with h | ⟨f, as, ms, y, h1, h2⟩ | ⟨ps, s1, b, h1, h2⟩
  · exact h E' Y'
  · exact h2 E' Y' (hE.call _ _ _ _ h1)
  · exact h2 E' Y' (hY _ _ _ h1)

include hY in
theorem runOps_mono (base : Nat) : ∀ (l : List AO) (st : St) (s : σ), OLe (runOps E Y base l st s) (runOps E' Y' base l st s)
  | [], _, _ => OLe.refl _
  | o :: l, st, s => fun r h => by
    simp only [runOps] at h ⊢
    cases hs : step1 E Y base o st s with
    | none => simp only [hs] at h; cases h
    | some p =>
      simp only [hs] at h
      simp only [step1_mono hE hY base o st s p hs]
      exact runOps_mono base l _ _ r h

theorem stepD_mono (base : Nat) (o : AO) (st : St) : OLe (stepD E base o st) (stepD E' base o st) := fun r h => by
  rcases stepD_dep h with h | ⟨f, as, ms, y, h1, h2⟩
  · exact h E'
  · exact h2 E' (hE.call _ _ _ _ h1)

theorem runD_mono (base : Nat) : ∀ (l : List AO) (i : Nat) (st : St) (d : List (Nat × Foot)) (ups : List (List Nat)), OLe (runD E base i l st d ups) (runD E' base i l st d ups)
  | [], _, _, _, _ => OLe.refl _
  | o :: l, i, st, d, ups => fun r h => by
    simp only [runD] at h ⊢
    cases hs : stepD E base o st with
    | none => simp only [hs] at h; cases h
    | some p =>
      simp only [hs] at h
      simp only [stepD_mono hE base o st p hs]
      split at h
      · rename_i hc
        rw [if_pos hc]
        exact runD_mono base l _ _ _ _ r h
      · cases h

include hY in
theorem runReg_mono (g : Reg) (st : St) (s : σ) : OLe (runReg E Y g st s) (runReg E' Y' g st s) := fun r h => by
  unfold runReg at h ⊢
  cases hf : freezeSlots g.pre st with
  | none => simp only [hf] at h; cases h
  | some st =>
    simp only [hf] at h ⊢
    cases hd : g.draw with
    | true =>
      simp only [hd, if_true] at h ⊢
      cases hr : runD E st.mem.length 0 g.ops ⟨st.fr, st.mem ++ List.replicate g.na .hole⟩ [] [] with
      | none => simp only [hr] at h; cases h
      | some st2 => simp only [hr] at h; simp only [runD_mono hE _ _ _ _ _ _ _ hr]; exact h
    | false =>
      simp only [hd, Bool.false_eq_true, if_false] at h ⊢
      cases hr : runOps E Y st.mem.length g.ops ⟨st.fr, st.mem ++ List.replicate g.na .hole⟩ s with
      | none => simp only [hr] at h; cases h
      | some st2 => simp only [hr] at h; simp only [runOps_mono hE hY _ _ _ _ _ hr]; exact h

omit hE in
theorem loopN_mono {head : St → Option St} {b b' : St → σ → Option (Ex × St × σ)} (hb : ∀ st s, OLe (b st s) (b' st s)) : ∀ (k k' : Nat), k ≤ k' → ∀ st s, OLe (loopN head b k st s) (loopN head b' k' st s)
  | 0, _, _, _, _ => fun r h => by simp [loopN] at h
  | k + 1, 0, hk, _, _ => absurd hk (by omega)
  | k + 1, k' + 1, hk, st, s => fun r h => by
    simp only [loopN] at h ⊢
    cases hh : head st with
    | none => simp only [hh] at h; cases h
    | some st1 =>
      simp only [hh] at h ⊢
      cases hx : b st1 s with
      | none => simp only [hx] at h; cases h
      | some p =>
        simp only [hx] at h
        simp only [hb _ _ _ hx]
        split at h
        · exact loopN_mono hb k k' (by omega) _ _ r h
        · rename_i hne
          first | exact h | (split; · (rename_i st' s' e; exact absurd e (hne st' s')); · exact h)
end mono

/-- The rounds of a range over a function. -/
def rangeY (E : Env) {σ : Type} (Y : List P → σ → Option (Bool × σ)) (n0 k : Nat) (fr : Fr) (params : List Nat) (assign body : AC) : List P → Rg σ → Option (Bool × Rg σ) := fun ps g =>
  if g.out = .normal ∧ ps.length = params.length then
    match runC E Y n0 k assign ⟨setMany fr params (ps.map V.p), g.mem⟩ g.s with
    | some (.normal, st1, s1) => match runC E Y n0 k body st1 s1 with
      | some (ex, st2, s2) => match gc n0 ⟨⟨0, []⟩, st2.mem⟩ with
        | some st3 => some (ex == .normal, ⟨st3.mem, ex, s2⟩)
        | none => none
      | none => none
    | _ => none
  else none

/-- What a range over a function calls: the function, its captures and the blocks that they come to, and what is left. -/
def rangeIn (f : Opd) (st : St) : Option (Nat × List V × List Blk × List Blk) :=
  match callee (opd st.fr f) with
  | none => none
  | some (id, caps) =>
    match ((reach 1000 (idss caps) []).bind fun idx => (readAll idx).bind fun bs => .ret (idx, bs)).run st.mem with
    | none => none
    | some (idx, bs) =>
      match rens (fun i => idx.idxOf? i) caps, renBlks (fun i => idx.idxOf? i) bs with
      | some as, some ms => if nd idx && noYs caps && bs.all Blk.noY then some (id, as, ms, applyUps st.mem (idx.map fun i => (i, Blk.dead))) else none
      | _, _ => none

theorem runC_range (E : Env) {σ : Type} (Y : List P → σ → Option (Bool × σ)) (n0 k : Nat) (f : Opd) (params lift : List Nat) (assign body : AC) (st0 : St) (s : σ) :
    runC E Y n0 k (.range f params lift assign body) st0 s =
      match rangeIn f (liftAll lift st0) with
      | some (id, as, ms, m0) => match E.iter (Rg σ) (rangeY E Y m0.length k (liftAll lift st0).fr params assign body) id (.yield :: as) ms ⟨m0, .normal, s⟩ with
        | some g => some (g.out, ⟨(liftAll lift st0).fr, g.mem⟩, g.s)
        | none => none
      | none => none := by
  simp only [runC, rangeIn]
  cases hc : callee (opd (liftAll lift st0).fr f) with
  | none => simp only [hc]
  | some p =>
    obtain ⟨id, caps⟩ := p
    simp only [hc]
    cases hr : ((reach 1000 (idss caps) []).bind fun idx => (readAll idx).bind fun bs => RM.ret (idx, bs)).run (liftAll lift st0).mem with
    | none => simp only [hr]
    | some q =>
      obtain ⟨idx, bs⟩ := q
      simp only [hr]
      cases h1 : rens (fun i => idx.idxOf? i) caps with
      | none => simp only [h1]
      | some as =>
        cases h2 : renBlks (fun i => idx.idxOf? i) bs with
        | none => simp only [h1, h2]
        | some ms =>
          simp only [h1, h2]
          by_cases h3 : (nd idx && noYs caps && bs.all Blk.noY) = true
          · simp only [if_pos h3]; rfl
          · simp only [if_neg h3]

section mono
variable {E E' : Env} (hE : ELe E E')
include hE

theorem runC_mono : ∀ (a : AC) {σ : Type} {Y Y' : List P → σ → Option (Bool × σ)} (_ : YLe Y Y') (n0 k k' : Nat) (_ : k ≤ k') (st : St) (s : σ), OLe (runC E Y n0 k a st s) (runC E' Y' n0 k' a st s) := by
  intro a
  induction a with
  | skip => intros; exact OLe.refl _
  | exit => intros; exact OLe.refl _
  | ret => intros; exact OLe.refl _
  | reg g =>
    intro σ Y Y' hY n0 k k' hk st s r h
    simp only [runC] at h ⊢
    cases hg : runReg E Y g st s with
    | none => simp only [hg] at h; cases h
    | some p => simp only [hg] at h; simp only [runReg_mono hE hY g st s p hg]; exact h
  | seq a b iha ihb =>
    intro σ Y Y' hY n0 k k' hk st s r h
    simp only [runC] at h ⊢
    cases ha : runC E Y n0 k a st s with
    | none => simp only [ha] at h; cases h
    | some p =>
      simp only [ha] at h
      simp only [iha hY n0 k k' hk st s p ha]
      split at h
      · exact ihb hY n0 k k' hk _ _ r h
      · rename_i hne
        first | exact h | (split; · (rename_i st' s' e; exact absurd e (hne st' s')); · exact h)
  | cond c a b iha ihb =>
    intro σ Y Y' hY n0 k k' hk st s r h
    simp only [runC] at h ⊢
    split at h
    · exact iha hY n0 k k' hk st s r h
    · exact ihb hY n0 k k' hk st s r h
    · cases h
  | block id a iha =>
    intro σ Y Y' hY n0 k k' hk st s r h
    simp only [runC] at h ⊢
    cases ha : runC E Y n0 k a st s with
    | none => simp only [ha] at h; cases h
    | some p =>
      simp only [ha] at h
      simp only [iha hY n0 k k' hk st s p ha]
      exact h
  | loop keep lift a iha =>
    intro σ Y Y' hY n0 k k' hk st s
    simp only [runC]
    exact loopN_mono (fun st s => iha hY n0 k k' hk st s) k k' hk st s
  | range f params lift assign body iha ihb =>
    intro σ Y Y' hY n0 k k' hk st s r h
    rw [runC_range] at h ⊢
    cases hi : rangeIn f (liftAll lift st) with
    | none => simp only [hi] at h; cases h
    | some p =>
      obtain ⟨id, as, ms, m0⟩ := p
      simp only [hi] at h ⊢
      have hle : YLe (rangeY E Y m0.length k (liftAll lift st).fr params assign body) (rangeY E' Y' m0.length k' (liftAll lift st).fr params assign body) := by
        intro ps g r h
        unfold rangeY at h ⊢
        split at h
        · rename_i hc
          rw [if_pos hc]
          cases h1 : runC E Y m0.length k assign ⟨setMany (liftAll lift st).fr params (ps.map V.p), g.mem⟩ g.s with
          | none => simp only [h1] at h; cases h
          | some p =>
            obtain ⟨ex, st1, s1⟩ := p
            simp only [h1] at h
            simp only [iha hY _ k k' hk _ _ _ h1]
            cases ex with
            | normal =>
              simp only at h ⊢
              cases h2 : runC E Y m0.length k body st1 s1 with
              | none => simp only [h2] at h; cases h
              | some q => simp only [h2] at h; simp only [ihb hY _ k k' hk _ _ _ h2]; exact h
            | _ => cases h
        · cases h
      cases hx : E.iter (Rg σ) (rangeY E Y m0.length k (liftAll lift st).fr params assign body) id (.yield :: as) ms ⟨m0, .normal, s⟩ with
      | none => simp only [hx] at h; cases h
      | some g => simp only [hx] at h; simp only [hE.iter _ _ _ _ _ _ _ hle _ hx]; exact h

theorem runFn_mono {σ : Type} {Y Y' : List P → σ → Option (Bool × σ)} (hY : YLe Y Y') {k k' : Nat} (hk : k ≤ k') (af : AFn) (args : List V) (m : List Blk) (s : σ) : OLe (runFn E Y k af args m s) (runFn E' Y' k' af args m s) := fun r h => by
  unfold runFn at h ⊢
  split at h
  · cases h
  · rename_i hc
    rw [if_neg hc]
    cases hr : runC E Y m.length k af.code ⟨Fr.of af.nt args, m⟩ s with
    | none => simp only [hr] at h; cases h
    | some p => simp only [hr] at h; simp only [runC_mono hE af.code hY _ k k' hk _ _ _ hr]; exact h

theorem stepE_mono (tbl : Nat → Option AFn) {k k' : Nat} (hk : k ≤ k') : ELe (stepE tbl k E) (stepE tbl k' E') where
  call f args m r h := by
    simp only [stepE] at h ⊢
    cases ht : tbl f with
    | none => simp only [ht] at h; cases h
    | some af =>
      simp only [ht, Option.map_eq_some_iff] at h ⊢
      obtain ⟨a, h1, h2⟩ := h
      exact ⟨a, runFn_mono hE (YLe.refl _) hk af args m () a h1, h2⟩
  iter σ Y Y' id args m s hY r h := by
    simp only [stepE] at h ⊢
    cases ht : tbl id with
    | none => simp only [ht] at h; cases h
    | some af =>
      simp only [ht, Option.map_eq_some_iff] at h ⊢
      obtain ⟨a, h1, h2⟩ := h
      exact ⟨a, runFn_mono hE hY hk af args m s a h1, h2⟩
end mono

theorem evalN_step (tbl : Nat → Option AFn) : ∀ n, ELe (evalN tbl n) (evalN tbl (n + 1))
  | 0 => ⟨fun _ _ _ _ h => by simp [evalN, Env.bot] at h, fun _ _ _ _ _ _ _ _ _ h => by simp [evalN, Env.bot] at h⟩
  | n + 1 => stepE_mono (evalN_step tbl n) tbl (by omega)

theorem evalN_self (tbl : Nat → Option AFn) : ∀ n, ELe (evalN tbl n) (evalN tbl n)
  | 0 => ⟨fun _ _ _ _ h => h, fun _ _ _ _ _ _ _ _ _ h => by simp [evalN, Env.bot] at h⟩
  | n + 1 => stepE_mono (evalN_self tbl n) tbl (by omega)

theorem ELe.trans {A B C : Env} (h : ELe A B) (k : ELe B C) : ELe A C :=
  ⟨fun f a m => (h.call f a m).trans (k.call f a m), fun σ Y Y' id a m s hY => (h.iter σ Y Y' id a m s hY).trans (k.iter σ Y' Y' id a m s (YLe.refl _))⟩

theorem evalN_mono (tbl : Nat → Option AFn) (i j : Nat) (h : i ≤ j) : ELe (evalN tbl i) (evalN tbl j) := by
  induction h with
  | refl => exact evalN_self tbl i
  | step _ ih => exact ih.trans (evalN_step tbl _)

/-! ### Going to the limit -/

section cont
variable {En : Nat → Env} {E : Env} (hE : Appr En E)
include hE

theorem step1_cont {σ : Type} {Yn : Nat → List P → σ → Option (Bool × σ)} {Y : List P → σ → Option (Bool × σ)} (hY : YAppr Yn Y) {base : Nat} {o : AO} {st : St} {s : σ} {r : St × σ} (h : step1 E Y base o st s = some r) :
    ∃ n, step1 (En n) (Yn n) base o st s = some r := by
  rcases step1_dep h with h | ⟨f, as, ms, y, h1, h2⟩ | ⟨ps, s1, b, h1, h2⟩
  · exact ⟨0, h _ _⟩
  · obtain ⟨n, hn⟩ := hE.call _ _ _ _ h1; exact ⟨n, h2 _ _ hn⟩
  · obtain ⟨n, hn⟩ := hY.lim _ _ _ h1; exact ⟨n, h2 _ _ hn⟩

theorem runOps_cont {σ : Type} {Yn : Nat → List P → σ → Option (Bool × σ)} {Y : List P → σ → Option (Bool × σ)} (hY : YAppr Yn Y) {base : Nat} : ∀ (l : List AO) {st : St} {s : σ} {r : St × σ}, runOps E Y base l st s = some r →
    ∃ n, runOps (En n) (Yn n) base l st s = some r
  | [], _, _, _, h => ⟨0, h⟩
  | o :: l, st, s, r, h => by
    simp only [runOps] at h ⊢
    cases hs : step1 E Y base o st s with
    | none => simp only [hs] at h; cases h
    | some p =>
      simp only [hs] at h
      obtain ⟨n1, h1⟩ := step1_cont hE hY hs
      obtain ⟨n2, h2⟩ := runOps_cont hY l h
      refine ⟨max n1 n2, ?_⟩
      have k1 := step1_mono (hE.mono n1 (max n1 n2) (by omega)) (hY.mono n1 (max n1 n2) (by omega)) base o st s _ h1
      have k2 := runOps_mono (hE.mono n2 (max n1 n2) (by omega)) (hY.mono n2 (max n1 n2) (by omega)) base l _ _ _ h2
      simp only [k1]; exact k2

theorem runD_cont {base : Nat} : ∀ (l : List AO) {i : Nat} {st : St} {d : List (Nat × Foot)} {ups : List (List Nat)} {r : St}, runD E base i l st d ups = some r → ∃ n, runD (En n) base i l st d ups = some r
  | [], _, _, _, _, _, h => ⟨0, h⟩
  | o :: l, i, st, d, ups, r, h => by
    simp only [runD] at h ⊢
    cases hs : stepD E base o st with
    | none => simp only [hs] at h; cases h
    | some p =>
      simp only [hs] at h
      have h1 : ∃ n, stepD (En n) base o st = some p := by
        rcases stepD_dep hs with h | ⟨f, as, ms, y, h1, h2⟩
        · exact ⟨0, h _⟩
        · obtain ⟨n, hn⟩ := hE.call _ _ _ _ h1; exact ⟨n, h2 _ hn⟩
      obtain ⟨n1, h1⟩ := h1
      split at h
      · rename_i hc
        obtain ⟨n2, h2⟩ := runD_cont l h
        refine ⟨max n1 n2, ?_⟩
        have k1 := stepD_mono (hE.mono n1 (max n1 n2) (by omega)) base o st _ h1
        have k2 := runD_mono (hE.mono n2 (max n1 n2) (by omega)) base l _ _ _ _ _ h2
        simp only [k1]
        rw [if_pos hc]; exact k2
      · cases h

theorem runReg_cont {σ : Type} {Yn : Nat → List P → σ → Option (Bool × σ)} {Y : List P → σ → Option (Bool × σ)} (hY : YAppr Yn Y) {g : Reg} {st : St} {s : σ} {r : St × σ} (h : runReg E Y g st s = some r) :
    ∃ n, runReg (En n) (Yn n) g st s = some r := by
  unfold runReg at h ⊢
  cases hf : freezeSlots g.pre st with
  | none => simp only [hf] at h; cases h
  | some st =>
    simp only [hf] at h ⊢
    cases hd : g.draw with
    | true =>
      simp only [hd, if_true] at h ⊢
      cases hr : runD E st.mem.length 0 g.ops ⟨st.fr, st.mem ++ List.replicate g.na .hole⟩ [] [] with
      | none => simp only [hr] at h; cases h
      | some st2 => simp only [hr] at h; obtain ⟨n, hn⟩ := runD_cont hE _ hr; exact ⟨n, by simp only [hn]; exact h⟩
    | false =>
      simp only [hd, Bool.false_eq_true, if_false] at h ⊢
      cases hr : runOps E Y st.mem.length g.ops ⟨st.fr, st.mem ++ List.replicate g.na .hole⟩ s with
      | none => simp only [hr] at h; cases h
      | some st2 => simp only [hr] at h; obtain ⟨n, hn⟩ := runOps_cont hE hY _ hr; exact ⟨n, by simp only [hn]; exact h⟩

omit hE in
theorem loopN_cont {σ : Type} {head : St → Option St} {b : St → σ → Option (Ex × St × σ)} {bn : Nat → St → σ → Option (Ex × St × σ)} (hm : ∀ i j, i ≤ j → ∀ st s, OLe (bn i st s) (bn j st s))
    (hb : ∀ st s r, b st s = some r → ∃ n, bn n st s = some r) : ∀ (k : Nat) (st : St) (s : σ) (r : Ex × St × σ), loopN head b k st s = some r → ∃ n, loopN head (bn n) k st s = some r
  | 0, _, _, _, h => by simp [loopN] at h
  | k + 1, st, s, r, h => by
    simp only [loopN] at h ⊢
    cases hh : head st with
    | none => simp only [hh] at h; cases h
    | some st1 =>
      simp only [hh] at h ⊢
      cases hx : b st1 s with
      | none => simp only [hx] at h; cases h
      | some p =>
        obtain ⟨ex, st', s'⟩ := p
        simp only [hx] at h
        obtain ⟨n1, h1⟩ := hb _ _ _ hx
        cases ex with
        | normal =>
          obtain ⟨n2, h2⟩ := loopN_cont hm hb k _ _ r h
          refine ⟨max n1 n2, ?_⟩
          simp only [hm n1 (max n1 n2) (by omega) _ _ _ h1]
          exact loopN_mono (hm n2 (max n1 n2) (by omega)) k k (by omega) _ _ _ h2
        | exit id => exact ⟨n1, by simp only [h1]; exact h⟩
        | ret => exact ⟨n1, by simp only [h1]; exact h⟩

theorem runC_cont : ∀ (a : AC) {σ : Type} {Yn : Nat → List P → σ → Option (Bool × σ)} {Y : List P → σ → Option (Bool × σ)} (_ : YAppr Yn Y) (n0 k : Nat) (st : St) (s : σ) (r : Ex × St × σ), runC E Y n0 k a st s = some r →
    ∃ n, runC (En n) (Yn n) n0 k a st s = some r := by
  intro a
  induction a with
  | skip => intro σ Yn Y _ n0 k st s r h; exact ⟨0, h⟩
  | exit => intro σ Yn Y _ n0 k st s r h; exact ⟨0, h⟩
  | ret => intro σ Yn Y _ n0 k st s r h; exact ⟨0, h⟩
  | reg g =>
    intro σ Yn Y hY n0 k st s r h
    simp only [runC] at h ⊢
    cases hg : runReg E Y g st s with
    | none => simp only [hg] at h; cases h
    | some p => simp only [hg] at h; obtain ⟨n, hn⟩ := runReg_cont hE hY hg; exact ⟨n, by simp only [hn]; exact h⟩
  | seq a b iha ihb =>
    intro σ Yn Y hY n0 k st s r h
    simp only [runC] at h ⊢
    cases ha : runC E Y n0 k a st s with
    | none => simp only [ha] at h; cases h
    | some p =>
      obtain ⟨ex, st', s'⟩ := p
      simp only [ha] at h
      obtain ⟨n1, h1⟩ := iha hY n0 k st s _ ha
      cases ex with
      | normal =>
        obtain ⟨n2, h2⟩ := ihb hY n0 k _ _ r h
        refine ⟨max n1 n2, ?_⟩
        simp only [runC_mono (hE.mono n1 (max n1 n2) (by omega)) a (hY.mono n1 (max n1 n2) (by omega)) n0 k k (by omega) _ _ _ h1]
        exact runC_mono (hE.mono n2 (max n1 n2) (by omega)) b (hY.mono n2 (max n1 n2) (by omega)) n0 k k (by omega) _ _ _ h2
      | exit id => exact ⟨n1, by simp only [h1]; exact h⟩
      | ret => exact ⟨n1, by simp only [h1]; exact h⟩
  | cond c a b iha ihb =>
    intro σ Yn Y hY n0 k st s r h
    simp only [runC] at h ⊢
    split at h
    · obtain ⟨n, hn⟩ := iha hY n0 k st s r h; exact ⟨n, hn⟩
    · obtain ⟨n, hn⟩ := ihb hY n0 k st s r h; exact ⟨n, hn⟩
    · cases h
  | block id a iha =>
    intro σ Yn Y hY n0 k st s r h
    simp only [runC] at h ⊢
    cases ha : runC E Y n0 k a st s with
    | none => simp only [ha] at h; cases h
    | some p => simp only [ha] at h; obtain ⟨n, hn⟩ := iha hY n0 k st s p ha; exact ⟨n, by simp only [hn]; exact h⟩
  | loop keep lift a iha =>
    intro σ Yn Y hY n0 k st s r h
    simp only [runC] at h ⊢
    exact loopN_cont (bn := fun n st s => runC (En n) (Yn n) n0 k a st s) (fun i j hij st s => runC_mono (hE.mono i j hij) a (hY.mono i j hij) n0 k k (by omega) st s) (fun st s r h => iha hY n0 k st s r h) k st s r h
  | range f params lift assign body iha ihb =>
    intro σ Yn Y hY n0 k st s r h
    rw [runC_range] at h
    cases hi : rangeIn f (liftAll lift st) with
    | none => simp only [hi] at h; cases h
    | some p =>
      obtain ⟨id, as, ms, m0⟩ := p
      simp only [hi] at h
      have hap : YAppr (fun n => rangeY (En n) (Yn n) m0.length k (liftAll lift st).fr params assign body) (rangeY E Y m0.length k (liftAll lift st).fr params assign body) := by
        refine ⟨fun i j hij ps g r h => ?_, fun ps g r h => ?_⟩
        · unfold rangeY at h ⊢
          split at h
          · rename_i hc
            rw [if_pos hc]
            cases h1 : runC (En i) (Yn i) m0.length k assign ⟨setMany (liftAll lift st).fr params (ps.map V.p), g.mem⟩ g.s with
            | none => simp only [h1] at h; cases h
            | some p =>
              obtain ⟨ex, st1, s1⟩ := p
              simp only [h1] at h
              simp only [runC_mono (hE.mono i j hij) assign (hY.mono i j hij) _ k k (by omega) _ _ _ h1]
              cases ex with
              | normal =>
                simp only at h ⊢
                cases h2 : runC (En i) (Yn i) m0.length k body st1 s1 with
                | none => simp only [h2] at h; cases h
                | some q => simp only [h2] at h; simp only [runC_mono (hE.mono i j hij) body (hY.mono i j hij) _ k k (by omega) _ _ _ h2]; exact h
              | _ => cases h
          · cases h
        · unfold rangeY at h ⊢
          split at h
          · rename_i hc
            simp only [if_pos hc]
            cases h1 : runC E Y m0.length k assign ⟨setMany (liftAll lift st).fr params (ps.map V.p), g.mem⟩ g.s with
            | none => simp only [h1] at h; cases h
            | some p =>
              obtain ⟨ex, st1, s1⟩ := p
              simp only [h1] at h
              obtain ⟨n1, g1⟩ := iha hY m0.length k _ _ _ h1
              cases ex with
              | normal =>
                simp only at h
                cases h2 : runC E Y m0.length k body st1 s1 with
                | none => simp only [h2] at h; cases h
                | some q =>
                  simp only [h2] at h
                  obtain ⟨n2, g2⟩ := ihb hY m0.length k _ _ _ h2
                  refine ⟨max n1 n2, ?_⟩
                  simp only [runC_mono (hE.mono n1 (max n1 n2) (by omega)) assign (hY.mono n1 (max n1 n2) (by omega)) _ k k (by omega) _ _ _ g1,
                    runC_mono (hE.mono n2 (max n1 n2) (by omega)) body (hY.mono n2 (max n1 n2) (by omega)) _ k k (by omega) _ _ _ g2]
                  exact h
              | _ => cases h
          · cases h
      cases hx : E.iter (Rg σ) (rangeY E Y m0.length k (liftAll lift st).fr params assign body) id (.yield :: as) ms ⟨m0, .normal, s⟩ with
      | none => simp only [hx] at h; cases h
      | some g =>
        simp only [hx] at h
        obtain ⟨n, hn⟩ := hE.iter _ _ _ hap _ _ _ _ _ hx
        refine ⟨n, ?_⟩
        rw [runC_range]
        simp only [hi, hn]; exact h

theorem runFn_cont {σ : Type} {Yn : Nat → List P → σ → Option (Bool × σ)} {Y : List P → σ → Option (Bool × σ)} (hY : YAppr Yn Y) {k : Nat} {af : AFn} {args : List V} {m : List Blk} {s : σ} {r : V × List Blk × σ} (h : runFn E Y k af args m s = some r) :
    ∃ n, runFn (En n) (Yn n) k af args m s = some r := by
  unfold runFn at h ⊢
  split at h
  · cases h
  · rename_i hc
    simp only [if_neg hc]
    cases hr : runC E Y m.length k af.code ⟨Fr.of af.nt args, m⟩ s with
    | none => simp only [hr] at h; cases h
    | some p => simp only [hr] at h; obtain ⟨n, hn⟩ := runC_cont hE af.code hY _ k _ _ _ hr; exact ⟨n, by simp only [hn]; exact h⟩
end cont

/-- A bounded evaluator goes along with what it yields to. -/
theorem evalN_const (tbl : Nat → Option AFn) : ∀ n, Appr (fun _ => evalN tbl n) (evalN tbl n)
  | 0 => ⟨fun _ _ _ => evalN_self tbl 0, fun _ _ _ _ h => ⟨0, h⟩, fun _ _ _ _ _ _ _ _ _ h => by simp [evalN, Env.bot] at h⟩
  | n + 1 => ⟨fun _ _ _ => evalN_self tbl (n + 1), fun _ _ _ _ h => ⟨0, h⟩, fun σ Yn Y hY id args m s g h => by
    simp only [evalN, stepE] at h ⊢
    cases ht : tbl id with
    | none => simp only [ht] at h; cases h
    | some af =>
      simp only [ht, Option.map_eq_some_iff] at h ⊢
      obtain ⟨a, h1, h2⟩ := h
      obtain ⟨k, hk⟩ := runFn_cont (evalN_const tbl n) hY h1
      exact ⟨k, a, hk, h2⟩⟩

/-- The evaluator without a bound. -/
noncomputable def EL (tbl : Nat → Option AFn) : Env where
  call f args m := olim fun n => (evalN tbl n).call f args m
  iter σ Y id args m s := olim fun n => (evalN tbl n).iter σ Y id args m s

section limit
variable (tbl : Nat → Option AFn)

theorem chain_call (f : Nat) (args : List V) (m : List Blk) : Chain fun n => (evalN tbl n).call f args m := fun i j h => (evalN_mono tbl i j h).call f args m
theorem chain_iter {σ : Type} (Y : List P → σ → Option (Bool × σ)) (id : Nat) (args : List V) (m : List Blk) (s : σ) : Chain fun n => (evalN tbl n).iter σ Y id args m s := fun i j h => (evalN_mono tbl i j h).iter σ Y Y id args m s (YLe.refl _)

theorem EL_call {f : Nat} {args : List V} {m : List Blk} {r : V × List Blk} : (EL tbl).call f args m = some r ↔ ∃ n, (evalN tbl n).call f args m = some r := olim_some (chain_call tbl f args m)
theorem EL_iter {σ : Type} {Y : List P → σ → Option (Bool × σ)} {id : Nat} {args : List V} {m : List Blk} {s g : σ} : (EL tbl).iter σ Y id args m s = some g ↔ ∃ n, (evalN tbl n).iter σ Y id args m s = some g := olim_some (chain_iter tbl Y id args m s)

theorem EL_appr : Appr (evalN tbl) (EL tbl) where
  mono := evalN_mono tbl
  call f args m r h := (EL_call tbl).1 h
  iter σ Yn Y hY id args m s g h := by
    obtain ⟨n, hn⟩ := (EL_iter tbl).1 h
    obtain ⟨k, hk⟩ := (evalN_const tbl n).iter σ Yn Y hY id args m s g hn
    exact ⟨max n k, (evalN_mono tbl n (max n k) (by omega)).iter σ _ _ _ _ _ _ (hY.mono k (max n k) (by omega)) _ hk⟩

theorem EL_self : ELe (EL tbl) (EL tbl) where
  call _ _ _ := OLe.refl _
  iter σ Y Y' id args m s hY r h := by
    obtain ⟨n, hn⟩ := (EL_iter tbl).1 h
    exact (EL_iter tbl).2 ⟨n, (evalN_self tbl n).iter σ Y Y' id args m s hY r hn⟩

theorem EL_above (n : Nat) : ELe (evalN tbl n) (EL tbl) where
  call f args m r h := (EL_call tbl).2 ⟨n, h⟩
  iter σ Y Y' id args m s hY r h := (EL_iter tbl).2 ⟨n, (evalN_self tbl n).iter σ Y Y' id args m s hY r h⟩

theorem EL_const : Appr (fun _ => EL tbl) (EL tbl) where
  mono _ _ _ := EL_self tbl
  call f args m r h := ⟨0, h⟩
  iter σ Yn Y hY id args m s g h := by
    obtain ⟨n, hn⟩ := (EL_iter tbl).1 h
    obtain ⟨k, hk⟩ := (evalN_const tbl n).iter σ Yn Y hY id args m s g hn
    exact ⟨k, (EL_iter tbl).2 ⟨n, hk⟩⟩

variable {σ : Type} (Y : List P → σ → Option (Bool × σ))

/-- Code without a bound. -/
noncomputable def U (n0 : Nat) (a : AC) (st : St) (s : σ) : Option (Ex × St × σ) := olim fun k => runC (EL tbl) Y n0 k a st s

theorem chain_U (n0 : Nat) (a : AC) (st : St) (s : σ) : Chain fun k => runC (EL tbl) Y n0 k a st s := fun i j h => runC_mono (EL_self tbl) a (YLe.refl Y) n0 i j h st s

theorem U_some {n0 : Nat} {a : AC} {st : St} {s : σ} {r : Ex × St × σ} : U tbl Y n0 a st s = some r ↔ ∃ k, runC (EL tbl) Y n0 k a st s = some r := olim_some (chain_U tbl Y n0 a st s)

theorem runC_up {n0 k k' : Nat} (h : k ≤ k') {a : AC} {st : St} {s : σ} {r : Ex × St × σ} (hr : runC (EL tbl) Y n0 k a st s = some r) : runC (EL tbl) Y n0 k' a st s = some r := runC_mono (EL_self tbl) a (YLe.refl Y) n0 k k' h st s r hr

theorem U_skip (n0 : Nat) (st : St) (s : σ) : U tbl Y n0 .skip st s = some (.normal, st, s) := (U_some tbl Y).2 ⟨0, rfl⟩
theorem U_exit (n0 id : Nat) (st : St) (s : σ) : U tbl Y n0 (.exit id) st s = some (.exit id, st, s) := (U_some tbl Y).2 ⟨0, rfl⟩
theorem U_ret (n0 : Nat) (st : St) (s : σ) : U tbl Y n0 .ret st s = some (.ret, st, s) := (U_some tbl Y).2 ⟨0, rfl⟩

theorem U_reg (n0 : Nat) (g : Reg) (st : St) (s : σ) : U tbl Y n0 (.reg g) st s = (match runReg (EL tbl) Y g st s with | some (st, s) => some (.normal, st, s) | none => none) :=
  olim_ext (chain_U tbl Y n0 _ st s) (fun _ x h => h) (fun x h => ⟨0, h⟩)

theorem U_seq (n0 : Nat) (a b : AC) (st : St) (s : σ) : U tbl Y n0 (.seq a b) st s = (match U tbl Y n0 a st s with | some (.normal, st', s') => U tbl Y n0 b st' s' | r => r) := by
  refine olim_ext (chain_U tbl Y n0 _ st s) (fun k r h => ?_) (fun r h => ?_)
  · simp only [runC] at h
    cases ha : runC (EL tbl) Y n0 k a st s with
    | none => simp only [ha] at h; cases h
    | some p =>
      obtain ⟨ex, st', s'⟩ := p
      simp only [ha] at h
      rw [(U_some tbl Y).2 ⟨k, ha⟩]
      cases ex with
      | normal => exact (U_some tbl Y).2 ⟨k, h⟩
      | exit id => exact h
      | ret => exact h
  · cases ha : U tbl Y n0 a st s with
    | none => rw [ha] at h; cases h
    | some p =>
      obtain ⟨ex, st', s'⟩ := p
      obtain ⟨k1, h1⟩ := (U_some tbl Y).1 ha
      rw [ha] at h
      simp only [runC]
      cases ex with
      | normal =>
        obtain ⟨k2, h2⟩ := (U_some tbl Y).1 h
        refine ⟨max k1 k2, ?_⟩
        simp only [runC_up tbl Y (show k1 ≤ max k1 k2 by omega) h1]
        exact runC_up tbl Y (by omega) h2
      | exit id => exact ⟨k1, by simp only [h1]; exact h⟩
      | ret => exact ⟨k1, by simp only [h1]; exact h⟩

theorem U_cond (n0 : Nat) (c : Opd) (a b : AC) (st : St) (s : σ) : U tbl Y n0 (.cond c a b) st s = (match opd st.fr c with | .p (.v (.bool true)) => U tbl Y n0 a st s | .p (.v (.bool false)) => U tbl Y n0 b st s | _ => none) := by
  refine olim_ext (chain_U tbl Y n0 _ st s) (fun k r h => ?_) (fun r h => ?_)
  · simp only [runC] at h
    split at h
    · rename_i hc; simp only [hc]; exact (U_some tbl Y).2 ⟨k, h⟩
    · rename_i hc; simp only [hc]; exact (U_some tbl Y).2 ⟨k, h⟩
    · cases h
  · simp only [runC]
    split at h
    · rename_i hc; simp only [hc]; exact (U_some tbl Y).1 h
    · rename_i hc; simp only [hc]; exact (U_some tbl Y).1 h
    · cases h

theorem U_block (n0 id : Nat) (a : AC) (st : St) (s : σ) : U tbl Y n0 (.block id a) st s = (match U tbl Y n0 a st s with | some (.exit id', st', s') => if id' = id then some (.normal, st', s') else some (.exit id', st', s') | r => r) := by
  refine olim_ext (chain_U tbl Y n0 _ st s) (fun k r h => ?_) (fun r h => ?_)
  · simp only [runC] at h
    cases ha : runC (EL tbl) Y n0 k a st s with
    | none => simp only [ha] at h; cases h
    | some p => rw [ha] at h; rw [(U_some tbl Y).2 ⟨k, ha⟩]; exact h
  · cases ha : U tbl Y n0 a st s with
    | none => rw [ha] at h; cases h
    | some p => obtain ⟨k, hk⟩ := (U_some tbl Y).1 ha; rw [ha] at h; exact ⟨k, by simp only [runC, hk]; exact h⟩

theorem U_loop (n0 : Nat) (keep lift : List Nat) (a : AC) (st : St) (s : σ) : U tbl Y n0 (.loop keep lift a) st s =
    (match gc n0 (liftAll lift ⟨keepOnly keep st.fr, st.mem⟩) with
    | some st1 => match U tbl Y n0 a st1 s with
      | some (.normal, st', s') => U tbl Y n0 (.loop keep lift a) st' s'
      | r => r
    | none => none) := by
  refine olim_ext (chain_U tbl Y n0 _ st s) (fun k r h => ?_) (fun r h => ?_)
  · cases k with
    | zero => simp [runC, loopN] at h
    | succ k =>
      simp only [runC, loopN] at h
      cases hh : gc n0 (liftAll lift ⟨keepOnly keep st.fr, st.mem⟩) with
      | none => simp only [hh] at h; cases h
      | some st1 =>
        simp only [hh] at h ⊢
        cases ha : runC (EL tbl) Y n0 (k + 1) a st1 s with
        | none => simp only [ha] at h; cases h
        | some p =>
          obtain ⟨ex, st', s'⟩ := p
          simp only [ha] at h
          rw [(U_some tbl Y).2 ⟨k + 1, ha⟩]
          cases ex with
          | normal =>
            refine (U_some tbl Y).2 ⟨k + 1, ?_⟩
            simp only [runC]
            exact loopN_mono (fun st s => OLe.refl _) k (k + 1) (by omega) _ _ _ h
          | exit id => exact h
          | ret => exact h
  · cases hh : gc n0 (liftAll lift ⟨keepOnly keep st.fr, st.mem⟩) with
    | none => rw [hh] at h; cases h
    | some st1 =>
      simp only [hh] at h
      cases ha : U tbl Y n0 a st1 s with
      | none => rw [ha] at h; cases h
      | some p =>
        obtain ⟨ex, st', s'⟩ := p
        obtain ⟨k1, h1⟩ := (U_some tbl Y).1 ha
        rw [ha] at h
        cases ex with
        | normal =>
          obtain ⟨k2, h2⟩ := (U_some tbl Y).1 h
          refine ⟨max k1 k2 + 1, ?_⟩
          simp only [runC, loopN, hh]
          simp only [runC_up tbl Y (show k1 ≤ max k1 k2 + 1 by omega) h1]
          simp only [runC] at h2
          exact loopN_mono (fun st s => runC_mono (EL_self tbl) a (YLe.refl Y) n0 _ _ (by omega) st s) k2 (max k1 k2) (by omega) _ _ _ h2
        | exit id =>
          refine ⟨k1 + 1, ?_⟩
          simp only [runC, loopN, hh]
          simp only [runC_up tbl Y (show k1 ≤ k1 + 1 by omega) h1]
          exact h
        | ret =>
          refine ⟨k1 + 1, ?_⟩
          simp only [runC, loopN, hh]
          simp only [runC_up tbl Y (show k1 ≤ k1 + 1 by omega) h1]
          exact h

/-- The rounds of a range over a function, without a bound. -/
noncomputable def UY (n0 : Nat) (fr : Fr) (params : List Nat) (assign body : AC) : List P → Rg σ → Option (Bool × Rg σ) := fun ps g =>
  if g.out = .normal ∧ ps.length = params.length then
    match U tbl Y n0 assign ⟨setMany fr params (ps.map V.p), g.mem⟩ g.s with
    | some (.normal, st1, s1) => match U tbl Y n0 body st1 s1 with
      | some (ex, st2, s2) => match gc n0 ⟨⟨0, []⟩, st2.mem⟩ with
        | some st3 => some (ex == .normal, ⟨st3.mem, ex, s2⟩)
        | none => none
      | none => none
    | _ => none
  else none

theorem rangeY_le (n0 k : Nat) (fr : Fr) (params : List Nat) (assign body : AC) : YLe (rangeY (EL tbl) Y n0 k fr params assign body) (UY tbl Y n0 fr params assign body) := by
  intro ps g r h
  unfold rangeY at h
  unfold UY
  split at h
  · rename_i hc
    rw [if_pos hc]
    cases h1 : runC (EL tbl) Y n0 k assign ⟨setMany fr params (ps.map V.p), g.mem⟩ g.s with
    | none => simp only [h1] at h; cases h
    | some p =>
      obtain ⟨ex, st1, s1⟩ := p
      simp only [h1] at h
      rw [(U_some tbl Y).2 ⟨k, h1⟩]
      cases ex with
      | normal =>
        simp only at h ⊢
        cases h2 : runC (EL tbl) Y n0 k body st1 s1 with
        | none => simp only [h2] at h; cases h
        | some q => simp only [h2] at h; rw [(U_some tbl Y).2 ⟨k, h2⟩]; exact h
      | _ => cases h
  · cases h

theorem rangeY_appr (n0 : Nat) (fr : Fr) (params : List Nat) (assign body : AC) : YAppr (fun k => rangeY (EL tbl) Y n0 k fr params assign body) (UY tbl Y n0 fr params assign body) := by
  refine ⟨fun i j hij ps g r h => ?_, fun ps g r h => ?_⟩
  · unfold rangeY at h ⊢
    split at h
    · rename_i hc
      rw [if_pos hc]
      cases h1 : runC (EL tbl) Y n0 i assign ⟨setMany fr params (ps.map V.p), g.mem⟩ g.s with
      | none => simp only [h1] at h; cases h
      | some p =>
        obtain ⟨ex, st1, s1⟩ := p
        simp only [h1] at h
        simp only [runC_up tbl Y hij h1]
        cases ex with
        | normal =>
          simp only at h ⊢
          cases h2 : runC (EL tbl) Y n0 i body st1 s1 with
          | none => simp only [h2] at h; cases h
          | some q => simp only [h2] at h; simp only [runC_up tbl Y hij h2]; exact h
        | _ => cases h
    · cases h
  · unfold UY at h
    unfold rangeY
    split at h
    · rename_i hc
      simp only [if_pos hc]
      cases h1 : U tbl Y n0 assign ⟨setMany fr params (ps.map V.p), g.mem⟩ g.s with
      | none => rw [h1] at h; cases h
      | some p =>
        obtain ⟨ex, st1, s1⟩ := p
        rw [h1] at h
        obtain ⟨n1, g1⟩ := (U_some tbl Y).1 h1
        cases ex with
        | normal =>
          simp only at h
          cases h2 : U tbl Y n0 body st1 s1 with
          | none => rw [h2] at h; cases h
          | some q =>
            rw [h2] at h
            obtain ⟨n2, g2⟩ := (U_some tbl Y).1 h2
            refine ⟨max n1 n2, ?_⟩
            simp only [runC_up tbl Y (show n1 ≤ max n1 n2 by omega) g1, runC_up tbl Y (show n2 ≤ max n1 n2 by omega) g2]
            exact h
        | _ => cases h
    · cases h

theorem U_range (n0 : Nat) (f : Opd) (params lift : List Nat) (assign body : AC) (st0 : St) (s : σ) :
    U tbl Y n0 (.range f params lift assign body) st0 s =
      (match rangeIn f (liftAll lift st0) with
      | some (id, as, ms, m0) => match (EL tbl).iter (Rg σ) (UY tbl Y m0.length (liftAll lift st0).fr params assign body) id (.yield :: as) ms ⟨m0, .normal, s⟩ with
        | some g => some (g.out, ⟨(liftAll lift st0).fr, g.mem⟩, g.s)
        | none => none
      | none => none) := by
  refine olim_ext (chain_U tbl Y n0 _ st0 s) (fun k r h => ?_) (fun r h => ?_)
  · rw [runC_range] at h
    cases hi : rangeIn f (liftAll lift st0) with
    | none => simp only [hi] at h; cases h
    | some p =>
      obtain ⟨id, as, ms, m0⟩ := p
      simp only [hi] at h ⊢
      cases hx : (EL tbl).iter (Rg σ) (rangeY (EL tbl) Y m0.length k (liftAll lift st0).fr params assign body) id (.yield :: as) ms ⟨m0, .normal, s⟩ with
      | none => simp only [hx] at h; cases h
      | some g =>
        simp only [hx] at h
        rw [(EL_self tbl).iter _ _ _ _ _ _ _ (rangeY_le tbl Y _ k _ _ _ _) _ hx]
        exact h
  · cases hi : rangeIn f (liftAll lift st0) with
    | none => rw [hi] at h; cases h
    | some p =>
      obtain ⟨id, as, ms, m0⟩ := p
      simp only [hi] at h
      cases hx : (EL tbl).iter (Rg σ) (UY tbl Y m0.length (liftAll lift st0).fr params assign body) id (.yield :: as) ms ⟨m0, .normal, s⟩ with
      | none => rw [hx] at h; cases h
      | some g =>
        rw [hx] at h
        obtain ⟨k, hk⟩ := (EL_const tbl).iter _ _ _ (rangeY_appr tbl Y m0.length (liftAll lift st0).fr params assign body) _ _ _ _ _ hx
        refine ⟨k, ?_⟩
        rw [runC_range]
        simp only [hi, hk]; exact h

/-- A function without a bound. -/
noncomputable def UFn (af : AFn) (args : List V) (mem : List Blk) (s : σ) : Option (V × List Blk × σ) :=
  if af.nt < args.length then none else
  match U tbl Y mem.length af.code ⟨Fr.of af.nt args, mem⟩ s with
  | some (.normal, st, s') => match finish af mem.length st with
    | some (v, m) => some (v, m, s')
    | none => none
  | some (.ret, st, s') => match finish af mem.length st with
    | some (v, m) => some (v, m, s')
    | none => none
  | _ => none

theorem UFn_some {af : AFn} {args : List V} {mem : List Blk} {s : σ} {r : V × List Blk × σ} : UFn tbl Y af args mem s = some r ↔ ∃ k, runFn (EL tbl) Y k af args mem s = some r := by
  constructor
  · intro h
    unfold UFn at h
    split at h
    · cases h
    · rename_i hc
      cases hu : U tbl Y mem.length af.code ⟨Fr.of af.nt args, mem⟩ s with
      | none => rw [hu] at h; cases h
      | some p => obtain ⟨k, hk⟩ := (U_some tbl Y).1 hu; rw [hu] at h; exact ⟨k, by simp only [runFn, if_neg hc, hk]; exact h⟩
  · rintro ⟨k, h⟩
    unfold runFn at h
    unfold UFn
    split at h
    · cases h
    · rename_i hc
      rw [if_neg hc]
      cases hu : runC (EL tbl) Y mem.length k af.code ⟨Fr.of af.nt args, mem⟩ s with
      | none => simp only [hu] at h; cases h
      | some p => simp only [hu] at h; rw [(U_some tbl Y).2 ⟨k, hu⟩]; exact h

theorem call_eq (id : Nat) (args : List V) (mem : List Blk) : (EL tbl).call id args mem = (match tbl id with | some af => (UFn tbl noY af args mem ()).map fun (v, m, _) => (v, m) | none => none) := by
  refine olim_ext (chain_call tbl id args mem) (fun n r h => ?_) (fun r h => ?_)
  · cases n with
    | zero => simp [evalN, Env.bot] at h
    | succ n =>
      simp only [evalN, stepE] at h
      cases ht : tbl id with
      | none => simp only [ht] at h; cases h
      | some af =>
        simp only [ht, Option.map_eq_some_iff] at h ⊢
        obtain ⟨a, h1, h2⟩ := h
        exact ⟨a, (UFn_some tbl noY).2 ⟨n, runFn_mono (EL_above tbl n) (YLe.refl _) (Nat.le_refl n) af args mem () a h1⟩, h2⟩
  · cases ht : tbl id with
    | none => rw [ht] at h; cases h
    | some af =>
      simp only [ht, Option.map_eq_some_iff] at h
      obtain ⟨a, h1, h2⟩ := h
      obtain ⟨k, hk⟩ := (UFn_some tbl noY).1 h1
      obtain ⟨n, hn⟩ := runFn_cont (EL_appr tbl) (Yn := fun _ => noY) (Y := noY) ⟨fun _ _ _ => YLe.refl _, fun _ _ _ h => ⟨0, h⟩⟩ hk
      refine ⟨max n k + 1, ?_⟩
      simp only [evalN, stepE, ht, Option.map_eq_some_iff]
      exact ⟨a, runFn_mono (evalN_mono tbl n (max n k) (by omega)) (YLe.refl _) (show k ≤ max n k by omega) af args mem () a hn, h2⟩

theorem iter_eq (id : Nat) (args : List V) (mem : List Blk) (s : σ) : (EL tbl).iter σ Y id args mem s = (match tbl id with | some af => (UFn tbl Y af args mem s).map fun (_, _, s') => s' | none => none) := by
  refine olim_ext (chain_iter tbl Y id args mem s) (fun n r h => ?_) (fun r h => ?_)
  · cases n with
    | zero => simp [evalN, Env.bot] at h
    | succ n =>
      simp only [evalN, stepE] at h
      cases ht : tbl id with
      | none => simp only [ht] at h; cases h
      | some af =>
        simp only [ht, Option.map_eq_some_iff] at h ⊢
        obtain ⟨a, h1, h2⟩ := h
        exact ⟨a, (UFn_some tbl Y).2 ⟨n, runFn_mono (EL_above tbl n) (YLe.refl _) (Nat.le_refl n) af args mem s a h1⟩, h2⟩
  · cases ht : tbl id with
    | none => rw [ht] at h; cases h
    | some af =>
      simp only [ht, Option.map_eq_some_iff] at h
      obtain ⟨a, h1, h2⟩ := h
      obtain ⟨k, hk⟩ := (UFn_some tbl Y).1 h1
      obtain ⟨n, hn⟩ := runFn_cont (EL_appr tbl) (Yn := fun _ => Y) (Y := Y) ⟨fun _ _ _ => YLe.refl _, fun _ _ _ h => ⟨0, h⟩⟩ hk
      refine ⟨max n k + 1, ?_⟩
      simp only [evalN, stepE, ht, Option.map_eq_some_iff]
      exact ⟨a, runFn_mono (evalN_mono tbl n (max n k) (by omega)) (YLe.refl _) (show k ≤ max n k by omega) af args mem s a hn, h2⟩

end limit
end Go.Am
