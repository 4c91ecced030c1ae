/- Worlds in which a memory of the machine lies; the moves that memory makes (a new block, a block written, a slice that grows, a block laid open, blocks numbered anew). -/
import Derived.Test.YtbepkgilphbhaaaAmRep
namespace Go.Am
open Go

variable (N : Nm) (ly : Option Nat)

/-! ### Rows of elements as cells -/

def Flat (H : HM) (n : Nat) : List P → List Value → Prop
  | [], vs => vs = []
  | e :: r, vs => ∃ v rest, vs = v.cells.toList ++ rest ∧ v.cells.size = sz n ∧ (n ≠ 0 ↔ ∃ cs, v = .agg cs) ∧ Rep N H e v ∧ (e.isAgg = true ↔ n ≠ 0) ∧ Flat H n r rest

theorem Flat.length {H : HM} {n : Nat} : ∀ {es : List P} {vs : List Value}, Flat N H n es vs → vs.length = es.length * sz n
  | [], _, h => by simp only [Flat] at h; subst h; simp
  | e :: r, _, h => by
    simp only [Flat] at h
    obtain ⟨v, rest, rfl, hs, _, _, _, hr⟩ := h
    rw [List.length_append, Array.length_toList, hs, Flat.length hr, List.length_cons, Nat.add_mul]
    omega

theorem Flat.append {H : HM} {n : Nat} : ∀ {es fs : List P} {vs us : List Value}, Flat N H n es vs → Flat N H n fs us → Flat N H n (es ++ fs) (vs ++ us)
  | [], fs, _, us, h, k => by simp only [Flat] at h; subst h; simpa using k
  | e :: r, fs, _, us, h, k => by
    simp only [Flat] at h
    obtain ⟨v, rest, rfl, hs, ha, hp, hg, hr⟩ := h
    simp only [List.cons_append, Flat, List.append_assoc]
    exact ⟨v, rest ++ us, rfl, hs, ha, hp, hg, Flat.append hr k⟩

theorem Flat.mono {H H' : HM} (hH : H.le H') {n : Nat} : ∀ {es : List P} {vs : List Value}, Flat N H n es vs → Flat N H' n es vs
  | [], _, h => by simpa only [Flat] using h
  | e :: r, _, h => by
    simp only [Flat] at h ⊢
    obtain ⟨v, rest, rfl, hs, ha, hp, hg, hr⟩ := h
    exact ⟨v, rest, rfl, hs, ha, Rep.mono N hH e v hp, hg, Flat.mono hH hr⟩

theorem cells_agg (cs : Array Value) : (Value.agg cs).cells = cs := rfl

theorem cells_one {v : Value} (h : ¬ ∃ cs, v = .agg cs) : v.cells = #[v] := by
  cases v <;> first | rfl | (exact absurd ⟨_, rfl⟩ h)

theorem RepEs.of_flat {H : HM} {n b : Nat} : ∀ {es : List P} {vs : List Value} {off : Nat}, Flat N H n es vs → (∀ j u, vs[j]? = some u → H b (off + j) = some u) → RepEs N H n b es off
  | [], _, _, _, _ => by simp only [RepEs]
  | e :: r, _, off, h, hc => by
    simp only [Flat] at h
    obtain ⟨v, rest, rfl, hs, ha, hp, hg, hr⟩ := h
    simp only [RepEs]
    have hlen : v.cells.toList.length = sz n := by simpa using hs
    refine ⟨⟨v, ?_, hp, hg⟩, RepEs.of_flat hr fun j u hu => ?_⟩
    · by_cases hn : n = 0
      · have hna : ¬ ∃ cs, v = .agg cs := fun h => (ha.2 h) hn
        refine .inl ⟨hn, ?_⟩
        have := hc 0 v (by rw [cells_one hna]; simp)
        simpa using this
      · obtain ⟨cs, rfl⟩ := ha.1 hn
        refine .inr ⟨hn, cs.toList, ?_, by simp, fun j c hj => ?_⟩
        · have : sz n = n := by simp [sz, hn]
          rw [cells_agg] at hlen; omega
        · refine hc j c ?_
          rw [cells_agg, List.getElem?_append_left (List.getElem?_eq_some_iff.1 hj).1]
          exact hj
    · have := hc (sz n + j) u (by rw [List.getElem?_append_right (by omega), hlen]; simpa using hu)
      rwa [← Nat.add_assoc] at this

/-- Cells hold no aggregates. -/
def HOk (H : HM) : Prop := ∀ b o v, H b o = some v → v.oneCell' = true

theorem oneCell_not_agg {v : Value} (h : v.oneCell' = true) : ¬ ∃ cs, v = .agg cs := by
  rintro ⟨cs, rfl⟩; simp [Value.oneCell'] at h

theorem RepEs.flat {H : HM} (hO : HOk H) {n b : Nat} : ∀ {es : List P} {off : Nat}, RepEs N H n b es off → ∃ vs, Flat N H n es vs ∧ ∀ j u, vs[j]? = some u → H b (off + j) = some u
  | [], _, _ => ⟨[], by simp only [Flat], fun j u h => by simp at h⟩
  | e :: r, off, h => by
    simp only [RepEs] at h
    obtain ⟨⟨v, hl, hp, hg⟩, hr⟩ := h
    obtain ⟨rest, hf, hc⟩ := RepEs.flat hO hr
    rcases hl with ⟨hn, h0⟩ | ⟨hn, cs, h1, rfl, h2⟩
    · have hna : ¬ ∃ cs, v = .agg cs := oneCell_not_agg (hO _ _ _ h0)
      exact ⟨v.cells.toList ++ rest, by
        simp only [Flat]
        refine ⟨v, rest, rfl, ?_, ⟨fun h => absurd hn h, fun h => absurd h hna⟩, hp, hg, hf⟩
        rw [cells_one hna]; simp [sz, hn], fun j u hu => by
        rw [cells_one hna] at hu
        have hsz : sz n = 1 := by simp [sz, hn]
        cases j with
        | zero => simp at hu; subst hu; simpa using h0
        | succ j =>
          have := hc j u (by simpa using hu)
          rw [hsz] at this
          rwa [show off + 1 + j = off + (j + 1) by omega] at this⟩
    · have hsz : sz n = n := by simp [sz, hn]
      refine ⟨cs ++ rest, ?_, fun j u hu => ?_⟩
      · simp only [Flat]
        exact ⟨.agg cs.toArray, rest, by simp [cells_agg], by simp [cells_agg, h1, hsz], ⟨fun _ => ⟨_, rfl⟩, fun _ => hn⟩, hp, hg, hf⟩
      · by_cases hj : j < cs.length
        · rw [List.getElem?_append_left hj] at hu
          exact h2 j u hu
        · rw [List.getElem?_append_right (by omega)] at hu
          have := hc (j - cs.length) u hu
          rwa [hsz, show off + n + (j - cs.length) = off + j by omega] at this


/-! ### Worlds -/

structure Cfg where
  H : HM
  φ : FM
  m : List Blk
  w : World

abbrev Cfg.R (c : Cfg) (x : V) (v : Value) : Prop := VRep N ly c.H c.φ c.m x v

def BlkOk (c : Cfg) (i : Nat) : Blk → Prop
  | .cells cs => ∃ R s arr e, c.φ[i]? = some (some (R, s)) ∧ c.w.heap[R]? = some (.cells arr e (0, 0)) ∧ arr.size = s ∧ cs.length ≤ s ∧
      (∀ (j : Nat) (x : V), cs[j]? = some x → x.isCell = true ∧ ∃ v, arr[j]? = some v ∧ VRep N ly c.H c.φ c.m x v) ∧ ∀ o, c.H R o = none
  | .tok n k => (k = 0 ∧ c.φ[i]? = some none) ∨ ∃ R s arr e, c.φ[i]? = some (some (R, s)) ∧ c.w.heap[R]? = some (.cells arr e (0, 0)) ∧ arr.size = s ∧ ∀ o, k * sz n ≤ o → c.H R o = none
  | _ => True

def Live (m : List Blk) (i : Nat) : Prop := (∃ cs, m[i]? = some (.cells cs)) ∨ ∃ n k, m[i]? = some (.tok n k)

structure Good (c : Cfg) : Prop where
  len : c.φ.length = c.m.length
  frz : ∀ b o v, c.H b o = some v → c.w.cell? ⟨b, o, none⟩ = some v ∧ v.oneCell' = true
  blk : ∀ i x, c.m[i]? = some x → BlkOk N ly c i x
  inj : ∀ i j R s s', Live c.m i → Live c.m j → c.φ[i]? = some (some (R, s)) → c.φ[j]? = some (some (R, s')) → i = j

def Owned (c : Cfg) (R : Nat) : Prop := ∃ i s, Live c.m i ∧ c.φ[i]? = some (some (R, s))

theorem Good.hok {c : Cfg} (h : Good N ly c) : HOk c.H := fun b o v hv => (h.frz b o v hv).2

theorem Good.hlt {c : Cfg} (h : Good N ly c) {b o : Nat} {v : Value} (hv : c.H b o = some v) : b < c.w.heap.size :=
  World.block_lt_of_cell? c.w ⟨b, o, none⟩ (h.frz b o v hv).1

theorem Good.owned_lt {c : Cfg} (h : Good N ly c) {R : Nat} (k : Owned c R) : R < c.w.heap.size := by
  obtain ⟨i, s, hl, hφ⟩ := k
  rcases hl with ⟨cs, hm⟩ | ⟨n, k, hm⟩
  · obtain ⟨R', s', arr, e, h1, h2, _⟩ := h.blk i _ hm
    rw [hφ] at h1; cases h1
    exact (Array.getElem?_eq_some_iff.1 h2).1
  · rcases h.blk i _ hm with ⟨_, h1⟩ | ⟨R', s', arr, e, h1, h2, _⟩
    · rw [hφ] at h1; cases h1
    · rw [hφ] at h1; cases h1
      exact (Array.getElem?_eq_some_iff.1 h2).1

theorem frozen_heap {w w' : World} (h : w'.heap = w.heap) (a : Addr) : w'.frozen? a = w.frozen? a := by unfold World.frozen?; rw [h]

theorem frozen_push {w w' : World} {arr : Array Value} {e : TypeId} (h : w'.heap = w.heap.push (.cells arr e (0, 0))) (a : Addr) : w'.frozen? a = w.frozen? a := by
  unfold World.frozen?
  rw [h, Array.getElem?_push]
  by_cases hb : a.block = w.heap.size
  · rw [if_pos hb, hb, Array.getElem?_eq_none (Nat.le_refl _)]; simp
  · rw [if_neg hb]

theorem frozen_row {w w' : World} {R : Nat} {arr arr' : Array Value} {e : TypeId} (h : w.heap[R]? = some (.cells arr e (0, 0))) (h' : w'.heap[R]? = some (.cells arr' e (0, 0))) (hold : ∀ k, k ≠ R → w'.heap[k]? = w.heap[k]?) (a : Addr) : w'.frozen? a = w.frozen? a := by
  by_cases hb : a.block = R
  · unfold World.frozen?; rw [hb, h, h']
  · exact World.frozen?_of_block (hold _ hb)

/-- From one world to a later one: what is neither owned nor new lies as it lay. -/
structure Trans (c c' : Cfg) : Prop where
  fz : ∀ a, c'.w.frozen? a = c.w.frozen? a
  os : c'.w.os = c.w.os
  tape : c'.w.tape = c.w.tape
  output : c'.w.output = c.w.output
  size : c.w.heap.size ≤ c'.w.heap.size
  hle : c.H.le c'.H
  frame : ∀ b, b < c.w.heap.size → ¬ Owned c b → c'.w.heap[b]? = c.w.heap[b]?
  own : ∀ b, Owned c' b → Owned c b ∨ c.w.heap.size ≤ b
  hnew : ∀ b o v, c'.H b o = some v → c.H b o = some v ∨ Owned c b ∨ c.w.heap.size ≤ b

theorem Trans.refl (c : Cfg) : Trans c c := ⟨fun _ => rfl, rfl, rfl, rfl, Nat.le_refl _, HM.le_refl _, fun _ _ _ => rfl, fun _ h => .inl h, fun _ _ _ h => .inl h⟩

theorem Trans.trans {a b c : Cfg} (h : Trans a b) (k : Trans b c) : Trans a c where
  fz x := (k.fz x).trans (h.fz x)
  os := k.os.trans h.os
  tape := k.tape.trans h.tape
  output := k.output.trans h.output
  size := Nat.le_trans h.size k.size
  hle := HM.le_trans h.hle k.hle
  frame x hx hn := by
    refine (k.frame x (Nat.lt_of_lt_of_le hx h.size) fun ho => ?_).trans (h.frame x hx hn)
    rcases h.own x ho with ho | ho
    · exact hn ho
    · omega
  own x ho := by
    rcases k.own x ho with ho | ho
    · exact h.own x ho
    · exact .inr (Nat.le_trans h.size ho)
  hnew x o v hv := by
    rcases k.hnew x o v hv with hv | ho | ho
    · exact h.hnew x o v hv
    · rcases h.own x ho with ho | ho
      · exact .inr (.inl ho)
      · exact .inr (.inr ho)
    · exact .inr (.inr (Nat.le_trans h.size ho))

theorem scalar_oneCell (x : Value) : scalarCell x = x.oneCell' := by cases x <;> rfl

theorem cell_oneCell {H : HM} {φ : FM} {m : List Blk} {x : V} {v : Value} (hx : x.isCell = true) (h : VRep N ly H φ m x v) : v.oneCell' = true := by
  cases x with
  | p q =>
    simp only [VRep] at h
    cases q <;> simp only [Rep] at h <;> first
      | (subst h; simpa [V.isCell, scalar_oneCell] using hx)
      | (simp [V.isCell] at hx; done)
      | (obtain ⟨_, _, ⟨rfl, _⟩, _⟩ := h; rfl)
      | (obtain ⟨_, _, rfl, _⟩ := h; rfl)
      | (obtain ⟨_, rfl, _⟩ := h; rfl)
  | nil n => simp only [VRep] at h; obtain ⟨a, rfl⟩ := h; rfl
  | sl n t es => simp only [VRep, Rep] at h; obtain ⟨⟨a, cap, ⟨rfl, _⟩, _⟩, _⟩ := h; rfl
  | ref n b off len =>
    simp only [VRep] at h
    rcases h with ⟨_, a, rfl⟩ | ⟨R, s, cap, _, _, rfl, _⟩ <;> rfl
  | ptr b off => simp only [VRep] at h; obtain ⟨R, s, _, _, rfl⟩ := h; rfl
  | fn f cs => simp only [VRep] at h; obtain ⟨vs, rfl, _⟩ := h; rfl
  | iface t x => simp only [VRep] at h; obtain ⟨y, rfl, _⟩ := h; rfl
  | yield => simp only [VRep] at h; obtain ⟨l, _, rfl⟩ := h; rfl
  | _ => simp [V.isCell] at hx

/-! ### Moves -/

/-- The frozen map with the first cells of a row besides. -/
def HM.more (H : HM) (R : Nat) (arr : Array Value) (lim : Nat) : HM := fun b o => if b = R ∧ o < lim then arr[o]? else H b o

theorem HM.more_zero (H : HM) (R : Nat) (arr : Array Value) : H.more R arr 0 = H := by
  funext b o; simp [HM.more]

theorem HM.more_other {H : HM} {R : Nat} {arr : Array Value} {lim b o : Nat} (h : b ≠ R) : H.more R arr lim b o = H b o := by simp [HM.more, h]

theorem HM.more_past {H : HM} {R : Nat} {arr : Array Value} {lim o : Nat} (h : lim ≤ o) : H.more R arr lim R o = H R o := by
  simp [HM.more]; omega

theorem HM.more_le {H : HM} {R : Nat} {arr : Array Value} {lim : Nat} (h : ∀ o v, H R o = some v → o < lim → arr[o]? = some v) : H.le (H.more R arr lim) := by
  intro b o v hv
  unfold HM.more
  split
  · rename_i hb; obtain ⟨rfl, hb⟩ := hb; exact h o v hv hb
  · exact hv

theorem owned_set {c : Cfg} {i : Nat} {x : Blk} {φ : FM} {b : Nat} {w : World} {H : HM} (hφ : ∀ j, j ≠ i → φ[j]? = c.φ[j]?) (h : Owned ⟨H, φ, c.m.set i x, w⟩ b) :
    Owned c b ∨ ∃ s, φ[i]? = some (some (b, s)) := by
  obtain ⟨j, s, hl, hp⟩ := h
  by_cases hj : j = i
  · subst hj; exact .inr ⟨s, hp⟩
  · refine .inl ⟨j, s, ?_, (hφ j hj) ▸ hp⟩
    unfold Live at hl ⊢
    simpa [List.getElem?_set, Ne.symm hj] using hl

theorem BlkOk.keep {c c' : Cfg} {i : Nat} {x : Blk} (h : BlkOk N ly c i x) (hE : Ext c.H c.φ c.m c'.H c'.φ c'.m) (hφ : c'.φ[i]? = c.φ[i]?)
    (hw : ∀ R s, c.φ[i]? = some (some (R, s)) → c'.w.heap[R]? = c.w.heap[R]? ∧ ∀ o, c.H R o = none → c'.H R o = none) : BlkOk N ly c' i x := by
  cases x with
  | cells cs =>
    obtain ⟨R, s, arr, e, h1, h2, h3, h4, h5, h6⟩ := h
    obtain ⟨k1, k2⟩ := hw R s h1
    exact ⟨R, s, arr, e, hφ.trans h1, k1.trans h2, h3, h4, fun j x hj => let ⟨a, v, b, d⟩ := h5 j x hj; ⟨a, v, b, hE.rep N ly x v d⟩, fun o => k2 o (h6 o)⟩
  | tok n k =>
    rcases h with ⟨h0, h1⟩ | ⟨R, s, arr, e, h1, h2, h3, h4⟩
    · exact .inl ⟨h0, hφ.trans h1⟩
    · obtain ⟨k1, k2⟩ := hw R s h1
      exact .inr ⟨R, s, arr, e, hφ.trans h1, k1.trans h2, h3, fun o ho => k2 o (h4 o ho)⟩
  | dead => trivial
  | hole => trivial

/-- A new row of cells; it takes the place of a hole (or none), and its first `lim` cells are never written again. -/
theorem new_row {c : Cfg} (hg : Good N ly c) (i : Nat) (x : Blk) (arr : Array Value) (e : TypeId) (lim : Nat) (hi : c.m[i]? = some .hole ∨ ∃ n k k', c.m[i]? = some (.tok n k) ∧ x = .tok n k' ∧ k < k')
    (hone : ∀ j v, j < lim → arr[j]? = some v → v.oneCell' = true)
    (hx : match x with
      | .cells cs => lim = 0 ∧ cs.length ≤ arr.size ∧ ∀ (j : Nat) (y : V), cs[j]? = some y → y.isCell = true ∧ ∃ v, arr[j]? = some v ∧ VRep N ly c.H c.φ c.m y v
      | .tok n k => lim = k * sz n
      | _ => False) (w' : World) (hw : w'.heap = c.w.heap.push (.cells arr e (0, 0))) (hos : w'.os = c.w.os) (htape : w'.tape = c.w.tape) (hout : w'.output = c.w.output) :
    let c' : Cfg := ⟨c.H.more c.w.heap.size arr lim, c.φ.set i (some (c.w.heap.size, arr.size)), c.m.set i x, w'⟩
    Good N ly c' ∧ Trans c c' ∧ Ext c.H c.φ c.m c'.H c'.φ c'.m := by
  intro c'
  have hil : i < c.m.length := by
    rcases hi with hi | ⟨_, _, _, hi, _⟩ <;> exact (List.getElem?_eq_some_iff.1 hi).1
  have hH0 : ∀ o, c.H c.w.heap.size o = none := fun o => by
    cases h : c.H c.w.heap.size o with
    | none => rfl
    | some v => exact absurd (hg.hlt N ly h) (Nat.lt_irrefl _)
  have hle : c.H.le c'.H := HM.more_le fun o v hv _ => by rw [hH0] at hv; cases hv
  have hold : ∀ b, b < c.w.heap.size → w'.heap[b]? = c.w.heap[b]? := fun b hb => by rw [hw, Array.getElem?_push, if_neg (by omega)]
  have hnew : w'.heap[c.w.heap.size]? = some (.cells arr e (0, 0)) := by rw [hw]; simp
  have hlink : ∀ j, Link c.φ c.m c'.φ c'.m j j := fun j => by
    by_cases hj : j = i
    · subst hj
      rcases hi with hi | ⟨n, k, k', hi, rfl, hk⟩
      · unfold Link; rw [hi]; trivial
      · unfold Link; rw [hi]; exact .inr ⟨k', by simp [c', hil], by omega, fun e => by omega⟩
    · have h1 : c'.m[j]? = c.m[j]? := by simp [c', List.getElem?_set, Ne.symm hj]
      have h2 : c'.φ[j]? = c.φ[j]? := by simp [c', List.getElem?_set, Ne.symm hj]
      have := Link.refl c.φ c.m j
      unfold Link IdOk at this ⊢
      rw [h1, h2]; exact this
  have hE : Ext c.H c.φ c.m c'.H c'.φ c'.m := Ext.of hle hlink
  have hφi : c'.φ[i]? = some (some (c.w.heap.size, arr.size)) := by simp [c', hg.len, hil]
  have hmi : c'.m[i]? = some x := by simp [c', hil]
  have hφj : ∀ j, j ≠ i → c'.φ[j]? = c.φ[j]? := fun j hj => by simp [c', List.getElem?_set, Ne.symm hj]
  have hmj : ∀ j, j ≠ i → c'.m[j]? = c.m[j]? := fun j hj => by simp [c', List.getElem?_set, Ne.symm hj]
  have hlivej : ∀ j, j ≠ i → Live c'.m j → Live c.m j := fun j hj h => by unfold Live at h ⊢; rwa [hmj j hj] at h
  refine ⟨⟨?_, ?_, ?_, ?_⟩, ⟨frozen_push hw, hos, htape, hout, ?_, hle, ?_, ?_, ?_⟩, hE⟩
  · simp [c', hg.len]
  · intro b o v hv
    simp only [c', HM.more] at hv
    split at hv
    · rename_i hb
      obtain ⟨rfl, ho⟩ := hb
      refine ⟨?_, hone o v ho hv⟩
      simp only [c', World.cell?, hnew]
      simpa using hv
    · have h := hg.frz b o v hv
      refine ⟨?_, h.2⟩
      rw [World.cell?_of_block (w := c.w) (w' := w') (a := ⟨b, o, none⟩) (hold b (hg.hlt N ly hv))]
      exact h.1
  · intro j y hy
    by_cases hj : j = i
    · subst hj
      rw [hmi] at hy; cases hy
      cases x with
      | cells cs =>
        simp only at hx
        obtain ⟨hl0, h4, h5⟩ := hx
        refine ⟨_, _, arr, e, hφi, hnew, rfl, h4, fun q y hq => ?_, fun o => ?_⟩
        · obtain ⟨a, v, b, d⟩ := h5 q y hq
          exact ⟨a, v, b, hE.rep N ly y v d⟩
        · simp only [c', hl0, HM.more_zero]; exact hH0 o
      | tok n k =>
        simp only at hx
        refine .inr ⟨_, _, arr, e, hφi, hnew, rfl, fun o ho => ?_⟩
        simp only [c']
        rw [HM.more_past (by omega)]; exact hH0 o
      | dead => exact hx.elim
      | hole => exact hx.elim
    · rw [hmj j hj] at hy
      by_cases hl : Live c.m j
      · refine (hg.blk j y hy).keep N ly hE (hφj j hj) fun R s hR => ?_
        have hlt : R < c.w.heap.size := hg.owned_lt N ly ⟨j, s, hl, hR⟩
        exact ⟨hold R hlt, fun o ho => by simp only [c']; rw [HM.more_other (by omega)]; exact ho⟩
      · cases y with
        | cells cs => exact absurd (.inl ⟨cs, hy⟩) hl
        | tok n k => exact absurd (.inr ⟨n, k, hy⟩) hl
        | dead => trivial
        | hole => trivial
  · intro a b R s s' ha hb h1 h2
    by_cases hai : a = i
    · by_cases hbi : b = i
      · rw [hai, hbi]
      · subst hai
        rw [hφi] at h1; cases h1
        rw [hφj b hbi] at h2
        exact absurd (hg.owned_lt N ly ⟨b, s', hlivej b hbi hb, h2⟩) (Nat.lt_irrefl _)
    · by_cases hbi : b = i
      · subst hbi
        rw [hφi] at h2; cases h2
        rw [hφj a hai] at h1
        exact absurd (hg.owned_lt N ly ⟨a, s, hlivej a hai ha, h1⟩) (Nat.lt_irrefl _)
      · exact hg.inj a b R s s' (hlivej a hai ha) (hlivej b hbi hb) (hφj a hai ▸ h1) (hφj b hbi ▸ h2)
  · simp only [c', hw, Array.size_push]; omega
  · intro b hb _; exact hold b hb
  · rintro b ⟨j, s, hl, hp⟩
    by_cases hj : j = i
    · subst hj; rw [hφi] at hp; cases hp; exact .inr (Nat.le_refl _)
    · exact .inl ⟨j, s, hlivej j hj hl, hφj j hj ▸ hp⟩
  · intro b o v hv
    simp only [c', HM.more] at hv
    split at hv
    · rename_i hb; exact .inr (.inr (by omega))
    · exact .inl hv


theorem live_set {m : List Blk} {i j : Nat} {x : Blk} (h : Live (m.set i x) j) (hj : j ≠ i) : Live m j := by
  unfold Live at h ⊢; rwa [List.getElem?_set_ne (Ne.symm hj)] at h

/-- A row that a block lies in is written; the block's new cells. -/
theorem write_row {c : Cfg} (hg : Good N ly c) (b R s : Nat) (cs cs' : List V) (arr' : Array Value) (hb : c.m[b]? = some (.cells cs)) (hφ : c.φ[b]? = some (some (R, s))) (hs : arr'.size = s) (hl : cs'.length ≤ s)
    (hx : ∀ (j : Nat) (y : V), cs'[j]? = some y → y.isCell = true ∧ ∃ v, arr'[j]? = some v ∧ VRep N ly c.H c.φ c.m y v) :
    let c' : Cfg := ⟨c.H, c.φ, c.m.set b (.cells cs'), c.w.setRow R arr'⟩
    Good N ly c' ∧ Trans c c' ∧ Ext c.H c.φ c.m c'.H c'.φ c'.m := by
  intro c'
  obtain ⟨R', s', arr, e, h1, h2, h3, h4, h5, h6⟩ := hg.blk b _ hb
  rw [hφ] at h1; cases h1
  have hbl : b < c.m.length := (List.getElem?_eq_some_iff.1 hb).1
  have hlink : ∀ j, Link c.φ c.m c'.φ c'.m j j := fun j => by
    by_cases hj : j = b
    · subst hj; unfold Link; rw [hb]; exact ⟨.inl ⟨cs', by simp [c', hbl]⟩, rfl⟩
    · have h1 : c'.m[j]? = c.m[j]? := by simp [c', Ne.symm hj]
      have := Link.refl c.φ c.m j
      unfold Link IdOk at this ⊢
      rw [h1]; exact this
  have hE : Ext c.H c.φ c.m c'.H c'.φ c'.m := Ext.of (HM.le_refl _) hlink
  have howned : Owned c R := ⟨b, s, .inl ⟨cs, hb⟩, hφ⟩
  have hold : ∀ k, k ≠ R → c'.w.heap[k]? = c.w.heap[k]? := fun k hk => setRow_other c.w R k arr' hk
  refine ⟨⟨by simp [c', hg.len], ?_, ?_, ?_⟩, ⟨frozen_row h2 (setRow_heap c.w R arr arr' e (0, 0) h2) hold, rfl, rfl, rfl, by simp [c'], HM.le_refl _, ?_, ?_, fun _ _ _ h => .inl h⟩, hE⟩
  · intro k o v hv
    have hk : k ≠ R := fun e => by subst e; have := h6 o; simp only [c'] at hv; rw [this] at hv; cases hv
    have h := hg.frz k o v hv
    refine ⟨?_, h.2⟩
    rw [World.cell?_of_block (w := c.w) (w' := c'.w) (a := ⟨k, o, none⟩) (hold k hk)]
    exact h.1
  · intro j y hy
    by_cases hj : j = b
    · subst hj
      have : y = .cells cs' := by simp only [c', List.getElem?_set_self hbl] at hy; exact (Option.some.inj hy).symm
      subst this
      exact ⟨R, s, arr', e, hφ, setRow_heap c.w R arr arr' e (0, 0) h2, hs, hl, fun q y hq => let ⟨a, v, d, f⟩ := hx q y hq; ⟨a, v, d, hE.rep N ly y v f⟩, h6⟩
    · have hy' : c.m[j]? = some y := by simpa [c', List.getElem?_set_ne (Ne.symm hj)] using hy
      by_cases hlv : Live c.m j
      · refine (hg.blk j y hy').keep N ly hE rfl fun R' s' hR => ⟨hold R' fun e => ?_, fun _ h => h⟩
        subst e
        exact hj (hg.inj j b _ _ _ hlv (.inl ⟨cs, hb⟩) hR hφ)
      · cases y with
        | cells cs => exact absurd (.inl ⟨cs, hy'⟩) hlv
        | tok n k => exact absurd (.inr ⟨n, k, hy'⟩) hlv
        | dead => trivial
        | hole => trivial
  · intro i j R s s' hi hj h1 h2
    have lv : ∀ q, Live c'.m q → Live c.m q := fun q h => by
      by_cases hq : q = b
      · subst hq; exact .inl ⟨cs, hb⟩
      · exact live_set h hq
    exact hg.inj i j R s s' (lv i hi) (lv j hj) h1 h2
  · intro k _ hn; exact hold k fun e => hn (e ▸ howned)
  · rintro k ⟨j, s', hlv, hp⟩
    refine .inl ⟨j, s', ?_, hp⟩
    by_cases hq : j = b
    · subst hq; exact .inl ⟨cs, hb⟩
    · exact live_set hlv hq

/-- A slice grows within its row. -/
theorem grow_row {c : Cfg} (hg : Good N ly c) (t R s n k k' : Nat) (arr arr' : Array Value) (e : TypeId) (hb : c.m[t]? = some (.tok n k)) (hφ : c.φ[t]? = some (some (R, s))) (hR : c.w.heap[R]? = some (.cells arr e (0, 0)))
    (hs : arr'.size = arr.size) (hk : k ≤ k') (hkeep : ∀ j, j < k * sz n → arr'[j]? = arr[j]?) (hone : ∀ j v, k * sz n ≤ j → j < k' * sz n → arr'[j]? = some v → v.oneCell' = true) (hfull : arr.size = s) :
    let c' : Cfg := ⟨c.H.more R arr' (k' * sz n), c.φ, c.m.set t (.tok n k'), c.w.setRow R arr'⟩
    (∀ o v, k * sz n ≤ o → c.H R o = some v → False) → (∀ j v, j < k * sz n → arr[j]? = some v → v.oneCell' = true) →
    Good N ly c' ∧ Trans c c' ∧ Ext c.H c.φ c.m c'.H c'.φ c'.m := by
  intro c' hnone hone0
  have hbl : t < c.m.length := (List.getElem?_eq_some_iff.1 hb).1
  have howned : Owned c R := ⟨t, s, .inr ⟨n, k, hb⟩, hφ⟩
  have hold : ∀ q, q ≠ R → c'.w.heap[q]? = c.w.heap[q]? := fun q hq => setRow_other c.w R q arr' hq
  have hnew : c'.w.heap[R]? = some (.cells arr' e (0, 0)) := setRow_heap c.w R arr arr' e (0, 0) hR
  have hcell : ∀ o v, c.H R o = some v → arr[o]? = some v := fun o v hv => by
    have h := (hg.frz R o v hv).1
    simpa [World.cell?, hR] using h
  have hle : c.H.le c'.H := HM.more_le fun o v hv _ => by
    by_cases ho : o < k * sz n
    · rw [hkeep o ho]; exact hcell o v hv
    · exact (hnone o v (by omega) hv).elim
  have hlink : ∀ j, Link c.φ c.m c'.φ c'.m j j := fun j => by
    by_cases hj : j = t
    · subst hj; unfold Link; rw [hb]; exact .inr ⟨k', by simp [c', hbl], hk, fun _ => rfl⟩
    · have h1 : c'.m[j]? = c.m[j]? := by simp [c', Ne.symm hj]
      have := Link.refl c.φ c.m j
      unfold Link IdOk at this ⊢
      rw [h1]; exact this
  have hE : Ext c.H c.φ c.m c'.H c'.φ c'.m := Ext.of hle hlink
  have lv : ∀ q, Live c'.m q → Live c.m q := fun q h => by
    by_cases hq : q = t
    · subst hq; exact .inr ⟨n, k, hb⟩
    · exact live_set h hq
  refine ⟨⟨by simp [c', hg.len], ?_, ?_, fun i j R s s' hi hj h1 h2 => hg.inj i j R s s' (lv i hi) (lv j hj) h1 h2⟩, ⟨frozen_row hR hnew hold, rfl, rfl, rfl, by simp [c'], hle, ?_, ?_, ?_⟩, hE⟩
  · intro q o v hv
    simp only [c', HM.more] at hv
    split at hv
    · rename_i hq
      obtain ⟨rfl, ho⟩ := hq
      refine ⟨by simp only [World.cell?, hnew]; simpa using hv, ?_⟩
      by_cases h0 : o < k * sz n
      · exact hone0 o v h0 (hkeep o h0 ▸ hv)
      · exact hone o v (by omega) ho hv
    · rename_i hq
      by_cases hqR : q = R
      · subst hqR
        exfalso
        have : k * sz n ≤ o := by
          have := Nat.mul_le_mul_right (sz n) hk
          have : ¬ o < k' * sz n := fun h => hq ⟨rfl, h⟩
          omega
        exact hnone o v this hv
      · have h := hg.frz q o v hv
        refine ⟨?_, h.2⟩
        rw [World.cell?_of_block (w := c.w) (w' := c'.w) (a := ⟨q, o, none⟩) (hold q hqR)]
        exact h.1
  · intro j y hy
    by_cases hj : j = t
    · subst hj
      have : y = .tok n k' := by simp only [c', List.getElem?_set_self hbl] at hy; exact (Option.some.inj hy).symm
      subst this
      refine .inr ⟨R, s, arr', e, hφ, hnew, hs.trans hfull, fun o ho => ?_⟩
      simp only [c']
      rw [HM.more_past ho]
      cases h : c.H R o with
      | none => rfl
      | some v =>
        have := Nat.mul_le_mul_right (sz n) hk
        exact (hnone o v (by omega) h).elim
    · have hy' : c.m[j]? = some y := by simpa [c', List.getElem?_set_ne (Ne.symm hj)] using hy
      by_cases hlv : Live c.m j
      · refine (hg.blk j y hy').keep N ly hE rfl fun R' s' hR' => ?_
        have hne : R' ≠ R := fun e => by
          subst e
          exact hj (hg.inj j t _ _ _ hlv (.inr ⟨n, k, hb⟩) hR' hφ)
        exact ⟨hold R' hne, fun o h => by simp only [c']; rw [HM.more_other hne]; exact h⟩
      · cases y with
        | cells cs => exact absurd (.inl ⟨cs, hy'⟩) hlv
        | tok n k => exact absurd (.inr ⟨n, k, hy'⟩) hlv
        | dead => trivial
        | hole => trivial
  · intro q _ hn; exact hold q fun e => hn (e ▸ howned)
  · rintro q ⟨j, s', hlv, hp⟩; exact .inl ⟨j, s', lv j hlv, hp⟩
  · intro q o v hv
    simp only [c', HM.more] at hv
    split at hv
    · rename_i hq; exact .inr (.inl (hq.1 ▸ howned))
    · exact .inl hv

/-- The world alone goes on, its memory untouched. -/
theorem same_heap {c : Cfg} (hg : Good N ly c) (w' : World) (hw : w'.heap = c.w.heap) (hos : w'.os = c.w.os) (htape : w'.tape = c.w.tape) (hout : w'.output = c.w.output) :
    Good N ly ⟨c.H, c.φ, c.m, w'⟩ ∧ Trans c ⟨c.H, c.φ, c.m, w'⟩ := by
  refine ⟨⟨hg.len, fun b o v hv => ?_, fun i x hx => ?_, hg.inj⟩, ⟨frozen_heap hw, hos, htape, hout, by simp [hw], HM.le_refl _, fun b _ _ => by simp [hw], fun b h => .inl h, fun _ _ _ h => .inl h⟩⟩
  · have h := hg.frz b o v hv
    simp only [World.cell?, hw] at h ⊢
    exact h
  · have h := hg.blk i x hx
    cases x with
    | cells cs =>
      obtain ⟨R, s, arr, e, h1, h2, h3⟩ := h
      exact ⟨R, s, arr, e, h1, by simp only [hw]; exact h2, h3⟩
    | tok n k =>
      rcases h with h | ⟨R, s, arr, e, h1, h2, h3⟩
      · exact .inl h
      · exact .inr ⟨R, s, arr, e, h1, by simp only [hw]; exact h2, h3⟩
    | dead => trivial
    | hole => trivial

/-- Memory numbered anew (and no longer all of it): where each block of the new memory comes from. -/
theorem renum {c : Cfg} (hg : Good N ly c) (φ' : FM) (m' : List Blk) (ρ : Nat → Option Nat) (hlen : φ'.length = m'.length)
    (hfrom : ∀ i' x', m'[i']? = some x' → (x' = .dead ∨ x' = .hole ∨ ∃ n, x' = .tok n 0 ∧ φ'[i']? = some none) ∨ ∃ i x, ρ i = some i' ∧ c.m[i]? = some x ∧ x.ren ρ = some x' ∧ φ'[i']? = c.φ[i]?)
    (hinj : ∀ i j k, ρ i = some k → ρ j = some k → i = j) (hL : ∀ i i', ρ i = some i' → Leaf c.φ c.m φ' m' i i') :
    Good N ly ⟨c.H, φ', m', c.w⟩ ∧ Trans c ⟨c.H, φ', m', c.w⟩ := by
  have hfun : ∀ i i' j', ρ i = some i' → ρ i = some j' → i' = j' := fun i i' j' h k => by rw [h] at k; exact Option.some.inj k
  have hlive : ∀ i' R s, Live m' i' → φ'[i']? = some (some (R, s)) → ∃ i, ρ i = some i' ∧ Live c.m i ∧ c.φ[i]? = some (some (R, s)) := by
    intro i' R s hl hp
    rcases hl with ⟨cs', hm⟩ | ⟨n, k, hm⟩
    · rcases hfrom i' _ hm with (h | h | ⟨n, h, _⟩) | ⟨i, x, h1, h2, h3, h4⟩
      · cases h
      · cases h
      · cases h
      · refine ⟨i, h1, ?_, h4 ▸ hp⟩
        cases x with
        | cells cs => exact .inl ⟨cs, h2⟩
        | tok n k => simp [Blk.ren] at h3
        | dead => simp [Blk.ren] at h3
        | hole => simp [Blk.ren] at h3
    · rcases hfrom i' _ hm with (h | h | ⟨n, h, h'⟩) | ⟨i, x, h1, h2, h3, h4⟩
      · cases h
      · cases h
      · rw [hp] at h'; cases h'
      · refine ⟨i, h1, ?_, h4 ▸ hp⟩
        cases x with
        | cells cs =>
          simp only [Blk.ren, Option.map_eq_some_iff] at h3
          obtain ⟨_, _, h3⟩ := h3; cases h3
        | tok n' k' => exact .inr ⟨n', k', h2⟩
        | dead => simp [Blk.ren] at h3
        | hole => simp [Blk.ren] at h3
  refine ⟨⟨hlen, hg.frz, ?_, ?_⟩, ⟨fun _ => rfl, rfl, rfl, rfl, Nat.le_refl _, HM.le_refl _, fun _ _ _ => rfl, ?_, fun _ _ _ h => .inl h⟩⟩
  · intro i' x' hx'
    rcases hfrom i' x' hx' with (h | h | ⟨n, h, h'⟩) | ⟨i, x, h1, h2, h3, h4⟩
    · subst h; trivial
    · subst h; trivial
    · subst h; exact .inl ⟨rfl, h'⟩
    · have hb := hg.blk i x h2
      cases x with
      | cells cs =>
        simp only [Blk.ren, Option.map_eq_some_iff] at h3
        obtain ⟨cs', h3, rfl⟩ := h3
        obtain ⟨R, s, arr, e, k1, k2, k3, k4, k5, k6⟩ := hb
        have hlen' : ∀ {xs ys : List V}, rens ρ xs = some ys → xs.length = ys.length := by
          intro xs
          induction xs with
          | nil => intro ys h; simp only [rens, Option.some.injEq] at h; subst h; rfl
          | cons a r ih =>
            intro ys h
            simp only [rens] at h
            split at h
            · rename_i u v hu hv; simp only [Option.some.injEq] at h; subst h; simp [ih hv]
            · simp at h
        have hget : ∀ {xs ys : List V}, rens ρ xs = some ys → ∀ (j : Nat) (y : V), ys[j]? = some y → ∃ x : V, xs[j]? = some x ∧ x.ren ρ = some y := by
          intro xs
          induction xs with
          | nil => intro ys h j y hj; simp only [rens, Option.some.injEq] at h; subst h; simp at hj
          | cons a r ih =>
            intro ys h j y hj
            simp only [rens] at h
            split at h
            · rename_i u v hu hv
              simp only [Option.some.injEq] at h; subst h
              cases j with
              | zero => simp at hj; subst hj; exact ⟨a, by simp, hu⟩
              | succ j => simpa using ih hv j y (by simpa using hj)
            · simp at h
        have hcellren : ∀ (x y : V), x.ren ρ = some y → x.isCell = y.isCell := by
          intro x y h
          cases x <;> simp only [V.ren, Option.some.injEq, Option.map_eq_some_iff] at h <;> first
            | (subst h; rfl)
            | (obtain ⟨_, _, rfl⟩ := h; rfl)
        refine ⟨R, s, arr, e, h4.trans k1, k2, k3, hlen' h3 ▸ k4, fun j y hj => ?_, k6⟩
        obtain ⟨x, hx, hr⟩ := hget h3 j y hj
        obtain ⟨a, v, b, d⟩ := k5 j x hx
        exact ⟨hcellren x y hr ▸ a, v, b, VRep.ren N ly (HM.le_refl _) hL x y v hr d⟩
      | tok n k =>
        simp only [Blk.ren, Option.some.injEq] at h3; subst h3
        rcases hb with ⟨k1, k2⟩ | ⟨R, s, arr, e, k1, k2⟩
        · exact .inl ⟨k1, h4.trans k2⟩
        · exact .inr ⟨R, s, arr, e, h4.trans k1, k2⟩
      | dead => simp only [Blk.ren, Option.some.injEq] at h3; subst h3; trivial
      | hole => simp only [Blk.ren, Option.some.injEq] at h3; subst h3; trivial
  · intro a b R s s' ha hb h1 h2
    obtain ⟨i, hi, li, pi⟩ := hlive a R s ha h1
    obtain ⟨j, hj, lj, pj⟩ := hlive b R s' hb h2
    have := hg.inj i j R s s' li lj pi pj
    subst this
    exact hfun i a b hi hj
  · rintro R ⟨i', s, hl, hp⟩
    obtain ⟨i, _, li, pi⟩ := hlive i' R s hl hp
    exact .inl ⟨i, s, li, pi⟩

end Go.Am
