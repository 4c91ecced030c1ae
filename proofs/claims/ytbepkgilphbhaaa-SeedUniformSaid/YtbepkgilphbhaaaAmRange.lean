/- A range over a function: its record, and what lies beside. -/
import Derived.Test.YtbepkgilphbhaaaAmReg
import Derived.LoopNIn
import Derived.RangeFuncOwn
namespace Go.Am
open Go

variable (N : Nm) (pr : Program)
variable {σ : Type}

theorem good_world {ly : Option Nat} {c : Cfg} (hg : Good N ly c) {H' : HM} {w' : World} (hle : c.H.le H') (hF : FrzOk H' w') (hO : ∀ R, Owned c R → w'.heap[R]? = c.w.heap[R]? ∧ ∀ o, c.H R o = none → H' R o = none) :
    Good N ly ⟨H', c.φ, c.m, w'⟩ := by
  have hEx : Ext c.H c.φ c.m H' c.φ c.m := ⟨hle, fun i => ⟨fun h => ⟨h, rfl⟩, fun _ _ _ h => h⟩⟩
  refine ⟨hg.len, hF, fun i z hz => ?_, hg.inj⟩
  have hb := hg.blk i z hz
  by_cases hlv : Live c.m i
  · exact hb.keep N ly (c' := ⟨H', c.φ, c.m, w'⟩) hEx rfl fun R s hR => hO R ⟨i, s, hlv, hR⟩
  · cases z with
    | cells cs => exact absurd (.inl ⟨cs, hz⟩) hlv
    | tok n q => exact absurd (.inr ⟨n, q, hz⟩) hlv
    | dead => trivial
    | hole => trivial

theorem frz_same {H : HM} {w w' : World} (h : FrzOk H w) (hs : ∀ (b : Nat) (o : Obj), w.heap[b]? = some o → o.isCells = true → w'.heap[b]? = some o) : FrzOk H w' := fun b o v hv => by
  obtain ⟨h1, h2⟩ := h b o v hv
  obtain ⟨q, hq, hc⟩ := cells_of_cell h1
  exact ⟨(World.cell?_of_block ((hs b q hq hc : w'.heap[b]? = some q).trans (hq : w.heap[b]? = some q).symm)).trans h1, h2⟩

theorem frz_put {H : HM} {w : World} (h : FrzOk H w) {l : Nat} {o o' : Obj} (hl : w.heap[l]? = some o) (ho : o.isCells = false) : FrzOk H (w.putObj l o') :=
  frz_same h fun b q hq hc => by
    have hne : b ≠ l := fun e => by subst e; rw [hl] at hq; cases hq; rw [ho] at hc; cases hc
    rw [World.putObj_heap_other hne]; exact hq

theorem frozen_not {w : World} {a : Addr} {o : Obj} (hw : w.heap[a.block]? = some o) (h : o.isCells = false) : w.frozen? a = false := by
  unfold World.frozen?; rw [hw]
  cases o <;> first | rfl | (simp [Obj.isCells] at h)

theorem frozen_put {w : World} {l : Nat} {o q : Obj} (hl : w.heap[l]? = some q) (ho : o.isCells = false) (hq : q.isCells = false) (a : Addr) : (w.putObj l o).frozen? a = w.frozen? a := by
  by_cases hb : a.block = l
  · subst hb
    rw [frozen_not hl hq, frozen_not (World.putObj_heap_same (Array.getElem?_eq_some_iff.1 hl).1) ho]
  · exact World.frozen?_of_block (World.putObj_heap_other hb)

theorem frozen_alloc {w : World} {o : Obj} (ho : o.isCells = false) (a : Addr) : (w.alloc o).frozen? a = w.frozen? a := by
  by_cases hb : a.block = w.heap.size
  · have h1 : (w.alloc o).heap[a.block]? = some o := by rw [hb]; exact World.alloc_heap_new w o
    rw [frozen_not h1 ho]
    unfold World.frozen?; rw [hb, Array.getElem?_eq_none (Nat.le_refl _)]
  · refine World.frozen?_of_block ?_
    show (w.heap.push o)[a.block]? = _
    rw [Array.getElem?_push, if_neg hb]

theorem Tr.put {O O' : Nat → Prop} {H H' : HM} {w w' : World} (h : Tr O H w O' H' w') {l : Nat} (hl : O l ∨ w.heap.size ≤ l) {q o : Obj} (hw : w'.heap[l]? = some q) (hq : q.isCells = false) (ho : o.isCells = false) : Tr O H w O' H' (w'.putObj l o) :=
  ⟨fun a => (frozen_put hw ho hq a).trans (h.fz a), h.os, h.tape, h.output, by simpa using h.size, h.hle, fun b hb hn => by
    have hne : b ≠ l := fun e => by
      subst e
      rcases hl with hl | hl
      · exact hn hl
      · omega
    rw [World.putObj_heap_other hne]; exact h.frame b hb hn, h.own, h.hnew⟩

theorem owned_same {c : Cfg} {H' : HM} {w' : World} {R : Nat} : Owned ⟨H', c.φ, c.m, w'⟩ R ↔ Owned c R := Iff.rfl

/-- The loop's record is turned. -/
theorem SimX.put {y : Yl σ} (hS : y.Stable) {O0 : Nat → Prop} {c0 e0 : Cfg} {kp kp' : List (Nat × Obj)} {st : St} {s : σ} {a a' : Act} {w : World} {c : Cfg} {D : Nat → Prop} (h : SimX N y O0 c0 e0 kp st s a w c D) (ha : a'.tmps = a.tmps) {l : Nat} {o o' : Obj}
    (hl : w.heap[l]? = some o) (ho : o.isCells = false) (ho' : o'.isCells = false) (h1 : ¬ Owned c l) (h2 : ¬ D l) (hO : O0 l ∨ c0.w.heap.size ≤ l) (hk : ∀ p ∈ kp', (p ∈ kp ∧ p.1 ≠ l) ∨ p = (l, o')) :
    SimX N y O0 c0 e0 kp' st s a' (w.putObj l o') ⟨c.H, c.φ, c.m, w.putObj l o'⟩ D := by
  have hw := h.hw; subst hw
  have hlt : l < c.w.heap.size := (Array.getElem?_eq_some_iff.1 hl).1
  have hF : FrzOk c.H (c.w.putObj l o') := frz_put h.good.frz hl ho
  have hne : ∀ b, (Owned c b ∨ D b) → b ≠ l := fun b hb e => by subst e; exact hb.elim h1 h2
  refine ⟨rfl, h.hm, good_world N h.good (HM.le_refl _) hF fun R hR => ⟨World.putObj_heap_other (hne R (.inl hR)), fun _ h => h⟩, ?_, ?_, fun b hb => ⟨by simpa using (h.dis b hb).1, (h.dis b hb).2⟩, fun p hp => ?_, h.tr.put hO hl ho ho', h.ext⟩
  · rw [ha]; exact h.frep
  · exact hS s D c.H c.w c.H _ h.rel hF (by simp) (HM.le_refl _) fun b hb => ⟨World.putObj_heap_other (hne b (.inr hb)), fun _ h => h⟩
  · rcases hk p hp with ⟨hp, hpl⟩ | rfl
    · obtain ⟨q1, q2, q3⟩ := h.marks p hp
      exact ⟨(World.putObj_heap_other hpl).trans q1, q2, q3⟩
    · exact ⟨World.putObj_heap_same hlt, h1, h2⟩

theorem SimX.alloc {y : Yl σ} (hS : y.Stable) {O0 : Nat → Prop} {c0 e0 : Cfg} {kp : List (Nat × Obj)} {st : St} {s : σ} {a a' : Act} {w : World} {c : Cfg} {D : Nat → Prop} (h : SimX N y O0 c0 e0 kp st s a w c D) (ha : a'.tmps = a.tmps) {o : Obj} (ho : o.isCells = false) :
    SimX N y O0 c0 e0 ((w.heap.size, o) :: kp) st s a' (w.alloc o) ⟨c.H, c.φ, c.m, w.alloc o⟩ D := by
  have hw := h.hw; subst hw
  have hlow : ∀ b, b < c.w.heap.size → (c.w.alloc o).heap[b]? = c.w.heap[b]? := fun b hb => by show (c.w.heap.push o)[b]? = _; rw [Array.getElem?_push, if_neg (by omega)]
  have hF : FrzOk c.H (c.w.alloc o) := frz_same h.good.frz fun b q hq _ => (hlow b (Array.getElem?_eq_some_iff.1 hq).1).trans hq
  have hG : Good N y.l ⟨c.H, c.φ, c.m, c.w.alloc o⟩ := good_world N h.good (HM.le_refl _) hF fun R hR => ⟨hlow R (h.good.owned_lt N y.l hR), fun _ h => h⟩
  have hT : Trans c ⟨c.H, c.φ, c.m, c.w.alloc o⟩ := ⟨frozen_alloc ho, rfl, rfl, rfl, (by show _ ≤ (c.w.heap.push o).size; rw [Array.size_push]; omega), HM.le_refl _, fun b hb _ => hlow b hb, fun b hb => .inl hb, fun _ _ _ h => .inl h⟩
  have := h.own N hS (a' := a') (c' := ⟨c.H, c.φ, c.m, c.w.alloc o⟩) h.hm hG (ha ▸ h.frep) hT Ext.refl
  refine { this with marks := fun p hp => ?_ }
  rcases List.mem_cons.1 hp with rfl | hp
  · refine ⟨World.alloc_heap_new c.w o, fun ho => ?_, fun hd => ?_⟩
    · have := h.good.owned_lt N y.l (show Owned c c.w.heap.size from ho); omega
    · have := (h.dis _ hd).1; omega
  · exact this.marks p hp

theorem SimX.fewer {y : Yl σ} {O0 : Nat → Prop} {c0 e0 : Cfg} {kp kp' : List (Nat × Obj)} {st : St} {s : σ} {a : Act} {w : World} {c : Cfg} {D : Nat → Prop} (h : SimX N y O0 c0 e0 kp st s a w c D) (hk : ∀ p ∈ kp', p ∈ kp) : SimX N y O0 c0 e0 kp' st s a w c D :=
  { h with marks := fun p hp => h.marks p (hk p hp) }

theorem run_enterLoop_inner (fn : FuncId) (tmps : Array Value) (ps : Array Tmp) (assign body : Code) {w : World} {l0 : Nat} {r0 : Loop} (h : w.heap[l0]? = some (.loop r0)) :
    (Instr.enterLoop fn tmps ps assign body (some l0)).run pr w =
      .ok (w.heap.size, []) (w.alloc (.loop { state := .ready, pending := none, fn, tmps, params := ps, assign, body, defers := r0.defers })) := by
  unfold Instr.enterLoop
  simp only [Sem.run_bind, run_getLoop h, run_newObj_alloc, Result.andThen, Sem.run_pure]

/-! ### The side that the rounds work on -/

def codeOf : Ex → Option Code
  | .normal => none
  | .ret => some .ret
  | .exit id => some (.exit id)

def recOf (fn : FuncId) (tmps : Array Value) (ps : Array Tmp) (assign body : Code) (dfr : Nat) (ex : Ex) : Loop :=
  { state := if ex = .normal then .ready else .done, pending := codeOf ex, fn, tmps, params := ps, assign, body, defers := dfr }

def rangeRel (y : Yl σ) (l : Nat) (rec : Ex → Loop) (e1 : Cfg) (g : Rg σ) (D' : Nat → Prop) (H : HM) (w : World) : Prop :=
  ∃ (c : Cfg) (D : Nat → Prop), (∀ b, D' b ↔ (Owned c b ∨ D b ∨ b = l)) ∧ c.H = H ∧ c.w = w ∧ c.m = g.mem ∧ Good N y.l c ∧ y.rel g.s D H w ∧ (∀ b, D b → b < w.heap.size ∧ ¬ Owned c b) ∧
    w.heap[l]? = some (.loop (rec g.out)) ∧ ¬ Owned c l ∧ ¬ D l ∧ Ext e1.H e1.φ e1.m H c.φ c.m

def rangeYl (y : Yl σ) (l : Nat) (rec : Ex → Loop) (e1 : Cfg) : Yl (Rg σ) := ⟨some l, rangeRel N y l rec e1⟩

theorem rangeYl_stable {y : Yl σ} (hS : y.Stable) (l : Nat) (rec : Ex → Loop) (e1 : Cfg) : (rangeYl N y l rec e1).Stable := by
  rintro g D' H w H' w' ⟨c, D, h1, rfl, rfl, h4, h5, h6, h7, h8, h9, h10, h11⟩ hF hsz hle hk
  refine ⟨⟨H', c.φ, c.m, w'⟩, D, h1, rfl, rfl, h4, good_world N h5 hle hF fun R hR => hk R ((h1 R).2 (.inl hR)), ?_, fun b hb => ⟨by have := (h7 b hb).1; omega, (h7 b hb).2⟩, ?_, h9, h10, ⟨HM.le_trans h11.hle hle, h11.leaf⟩⟩
  · exact hS g.s D c.H c.w H' w' h6 hF hsz hle fun b hb => hk b ((h1 b).2 (.inr (.inl hb)))
  · rw [(hk l ((h1 l).2 (.inr (.inr rfl)))).1]; exact h8

end Go.Am
