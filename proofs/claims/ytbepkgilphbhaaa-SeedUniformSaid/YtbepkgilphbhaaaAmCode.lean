/- Code. -/
import Derived.Test.YtbepkgilphbhaaaAmRange
namespace Go.Am
open Go

variable (N : Nm) (pr : Program)

def mCode : AC → Code → Bool
  | .skip, .skip => true
  | .reg r, .region _ ops draw => mReg N pr r ops draw
  | .seq a b, .seq x y => mCode a x && mCode b y
  | .cond c a b, .cond o x y => mOpd N c o && (mCode a x && mCode b y)
  | .block i a, .block j x => i == j && mCode a x
  | .loop _ _ a, .loop x => mCode a x
  | .range f ps _ a b, .rangeFunc g ps' x y => mOpd N f g && ps == ps'.toList && (mCode a x && mCode b y)
  | .exit i, .exit j => i == j
  | .ret, .ret => true
  | _, _ => false

def exOf : Ex → Exit
  | .normal => .normal
  | .exit id => .exit id
  | .ret => .ret

theorem live_killed {m : List Blk} : ∀ (idx : List Nat) {j : Nat}, Live (applyUps m (idx.map fun i => (i, Blk.dead))) j → Live m j ∧ j ∉ idx
  | [], _, h => ⟨h, by simp⟩
  | i :: r, j, h => by
    simp only [List.map_cons, applyUps] at h
    obtain ⟨h1, h2⟩ := live_killed r h
    by_cases hj : j = i
    · subst hj
      exfalso
      rcases h1 with ⟨cs, h1⟩ | ⟨n, q, h1⟩ <;> rw [List.getElem?_set] at h1 <;> simp at h1
    · exact ⟨live_set h1 hj, by simp [hj, h2]⟩

theorem VReps.ofReps {ly : Option Nat} {H : HM} {φ : FM} {m : List Blk} {ps : List P} {vs : List Value} (h : Reps N H ps vs) : VReps N ly H φ m (ps.map V.p) vs :=
  VReps.of N ly (by simp [Reps.length N h]) fun j p u hp hu => by
    simp only [List.getElem?_map, Option.map_eq_some_iff] at hp
    obtain ⟨q, hq, rfl⟩ := hp
    obtain ⟨u', k1, k2⟩ := Reps.get N h j q hq
    rw [k1] at hu; cases hu
    simpa only [VRep] using k2

theorem setMany_rep {ly : Option Nat} {c : Cfg} : ∀ (is : List Nat) (xs : List V) (vs : List Value) (fr : Fr) (t : Array Value), FRep N ly c fr t → VReps N ly c.H c.φ c.m xs vs →
    FRep N ly c (setMany fr is xs) ((is.zip vs).foldl (fun tm (p : Nat × Value) => tm.setIfInBounds p.1 p.2) t)
  | [], xs, vs, fr, t, hf, _ => by simpa [setMany] using hf
  | i :: r, [], vs, fr, t, hf, h => by
    simp only [VReps] at h; subst h
    simpa [setMany] using hf
  | i :: r, x :: s, vs, fr, t, hf, h => by
    simp only [VReps] at h
    obtain ⟨v, q, rfl, h1, h2⟩ := h
    simp only [setMany, List.zip_cons_cons, List.foldl_cons]
    exact setMany_rep r s q _ _ (FRep.put N ly (a := ⟨t, []⟩) hf (some i) h1) h2

theorem Tr.also {O O' : Nat → Prop} {H H' : HM} {w w' : World} (h : Tr O H w O' H' w') {l : Nat} (hl : O l ∨ w.heap.size ≤ l) : Tr O H w (fun b => O' b ∨ b = l) H' w' :=
  ⟨h.fz, h.os, h.tape, h.output, h.size, h.hle, h.frame, fun b hb => by
    rcases hb with hb | rfl
    · exact h.own b hb
    · exact hl, h.hnew⟩

theorem call_fn {f : FuncId} {fn : Func} (hf : pr.funcs[f]? = some fn) (hn : (fn.name == "runtime.NumGoroutine") = false) (hb : fn.body.isNone = false) (args : Array Value) (w : World) : (callFunc f args).run pr w = .ok (.enter f args) w := by
  have hn' : ¬ fn.name = "runtime.NumGoroutine" := by simpa using hn
  have hb' : ¬ fn.body = none := fun h => by simp [h] at hb
  simp [callFunc, hf, hn', hb']

/-- What is shown of a piece of code. -/
def CodeOk (E : Env) (k : Nat) (ac : AC) (code : Code) : Prop :=
  ∀ (σ : Type) (y : Yl σ), y.Stable → ∀ (Y : List P → σ → Option (Bool × σ)), y.Ok N pr Y → ∀ (ro : Option Nat) (O0 : Nat → Prop) (c0 e0 : Cfg) (kp : List (Nat × Obj)) (n0 : Nat) (st : St) (s : σ) (a : Act) (w : World) (ex : Ex) (st' : St) (s' : σ) (Q : Exit → Act → World → Prop),
    e0.m.length ≤ n0 → (∀ l, ro = some l → ∃ rec, (l, Obj.loop rec) ∈ kp) → runC E Y n0 k ac st s = some (ex, st', s') → Sim N y O0 c0 e0 kp st s a w →
    (∀ a' w', Sim N y O0 c0 e0 kp st' s' a' w' → Q (exOf ex) a' w') → code.wpIn (fc ro) 0 pr Q a w

theorem loop_ok {E : Env} {k : Nat} {ac : AC} {code : Code} (ih : CodeOk N pr E k ac code) {σ : Type} {y : Yl σ} (hS : y.Stable) {Y : List P → σ → Option (Bool × σ)} (hY : y.Ok N pr Y) (ro : Option Nat) {O0 : Nat → Prop} {c0 e0 : Cfg} {kp : List (Nat × Obj)} {n0 : Nat} (hn : e0.m.length ≤ n0) (hro : ∀ l, ro = some l → ∃ rec, (l, Obj.loop rec) ∈ kp)
    (keep lift : List Nat) {ex : Ex} {st' : St} {s' : σ} {Q : Exit → Act → World → Prop} (hQ : ∀ a' w', Sim N y O0 c0 e0 kp st' s' a' w' → Q (exOf ex) a' w') :
    ∀ (j : Nat) (st : St) (s : σ) (a : Act) (w : World), loopN (fun st => gc n0 (liftAll lift ⟨keepOnly keep st.fr, st.mem⟩)) (fun st s => runC E Y n0 k ac st s) j st s = some (ex, st', s') → Sim N y O0 c0 e0 kp st s a w → Code.roundsIn (fc ro) 0 pr code Q j a w
  | 0, st, s, a, w, h, _ => by simp [loopN] at h
  | j + 1, st, s, a, w, h, hs => by
    simp only [loopN] at h
    split at h
    · rename_i st1 hgc
      have h1 : Sim N y O0 c0 e0 kp st1 s a w := by
        have ha : Sim N y O0 c0 e0 kp ⟨keepOnly keep st.fr, st.mem⟩ s a w := hs.kept N hS fun c hg hm hf => hm ▸ Kept.refl N y.l hg (keepOnly_ok N y.l hf keep)
        have hb := ha.kept N hS (st' := liftAll lift ⟨keepOnly keep st.fr, st.mem⟩) fun c hg hm hf => liftAll_ok N y.l lift hg hm hf
        obtain ⟨dm, p1, p2, c, D, hx⟩ := hb
        obtain ⟨c', e1, e2, e3, e4, e5, e6⟩ := gc_ok N y.l hx.good hx.hm hx.frep hgc
        have := hx.step N hS (a' := a) e2 e3 e4 e5 (e6 e0 hn hx.ext)
        rw [e1, hx.hw] at this
        exact ⟨dm, p1, p2, c', D, this⟩
      rw [roundsIn_succ]
      cases hb : runC E Y n0 k ac st1 s with
      | none => rw [hb] at h; simp at h
      | some r =>
        obtain ⟨ex1, st2, s2⟩ := r
        rw [hb] at h
        cases ex1 with
        | normal => exact ih σ y hS Y hY ro O0 c0 e0 kp n0 st1 s a w .normal st2 s2 _ hn hro hb h1 fun a' w' h' => loop_ok ih hS hY ro hn hro keep lift hQ j st2 s2 a' w' h h'
        | exit id =>
          simp only [Option.some.injEq, Prod.mk.injEq] at h
          obtain ⟨rfl, rfl, rfl⟩ := h
          exact ih σ y hS Y hY ro O0 c0 e0 kp n0 st1 s a w (.exit id) st2 s2 _ hn hro hb h1 hQ
        | ret =>
          simp only [Option.some.injEq, Prod.mk.injEq] at h
          obtain ⟨rfl, rfl, rfl⟩ := h
          exact ih σ y hS Y hY ro O0 c0 e0 kp n0 st1 s a w .ret st2 s2 _ hn hro hb h1 hQ
    · cases h

end Go.Am
