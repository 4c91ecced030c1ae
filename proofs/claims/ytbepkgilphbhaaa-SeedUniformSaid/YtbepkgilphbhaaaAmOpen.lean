/- Memory kept and laid open: killing a block, laying out places, lifting a nil slice, laying a block open, numbering anew. -/
import Derived.Test.YtbepkgilphbhaaaAmWorld
namespace Go.Am
open Go

variable (N : Nm) (ly : Option Nat)

theorem Blk.ren_some (x : Blk) : x.ren some = some x := by
  cases x <;> simp [Blk.ren, rens_some]

theorem kill {c : Cfg} (hg : Good N ly c) (i : Nat) :
    Good N ly ⟨c.H, c.φ, c.m.set i .dead, c.w⟩ ∧ Trans c ⟨c.H, c.φ, c.m.set i .dead, c.w⟩ ∧ Ext c.H c.φ c.m c.H c.φ (c.m.set i .dead) := by
  have hL : ∀ j, Link c.φ c.m c.φ (c.m.set i .dead) j j := fun j => by
    by_cases hj : j = i
    · subst hj
      unfold Link
      cases h : c.m[j]? with
      | none => trivial
      | some x =>
        have hlt := (List.getElem?_eq_some_iff.1 h).1
        have hs : (c.m.set j .dead)[j]? = some Blk.dead := by simp [hlt]
        cases x with
        | cells cs => exact ⟨.inr hs, rfl⟩
        | tok n k => exact .inl hs
        | dead => exact ⟨hs, rfl⟩
        | hole => trivial
    · have h1 : (c.m.set i .dead)[j]? = c.m[j]? := by simp [Ne.symm hj]
      have := Link.refl c.φ c.m j
      unfold Link IdOk at this ⊢
      rw [h1]; exact this
  have := renum N ly hg c.φ (c.m.set i .dead) some (by simp [hg.len]) (fun i' x' hx' => by
    by_cases hj : i' = i
    · subst hj
      have hlt : i' < c.m.length := by
        have := (List.getElem?_eq_some_iff.1 hx').1
        simpa using this
      rw [List.getElem?_set_self hlt] at hx'
      exact .inl (.inl (Option.some.inj hx').symm)
    · exact .inr ⟨i', x', rfl, by simpa [List.getElem?_set_ne (Ne.symm hj)] using hx', Blk.ren_some x', rfl⟩)
    (fun i j k h h' => by cases h; cases h'; rfl) (fun j j' h => by cases h; exact (hL j).leaf)
  exact ⟨this.1, this.2, Ext.of (HM.le_refl _) hL⟩

theorem kills {c : Cfg} (hg : Good N ly c) : ∀ (l : List Nat), Good N ly ⟨c.H, c.φ, applyUps c.m (l.map fun i => (i, Blk.dead)), c.w⟩ ∧ Trans c ⟨c.H, c.φ, applyUps c.m (l.map fun i => (i, Blk.dead)), c.w⟩ ∧
    Ext c.H c.φ c.m c.H c.φ (applyUps c.m (l.map fun i => (i, Blk.dead))) := by
  intro l
  induction l generalizing c with
  | nil => exact ⟨hg, Trans.refl c, Ext.refl⟩
  | cons i r ih =>
    obtain ⟨h1, h2, h3⟩ := kill N ly hg i
    obtain ⟨k1, k2, k3⟩ := ih h1
    exact ⟨k1, h2.trans k2, Ext.trans h3 k3⟩

theorem more_blocks {c : Cfg} (hg : Good N ly c) (bs : List Blk) (fs : FM) (hl : fs.length = bs.length)
    (hb : ∀ (j : Nat) (x : Blk), bs[j]? = some x → x = .dead ∨ x = .hole ∨ ∃ n, x = .tok n 0 ∧ fs[j]? = some none) :
    Good N ly ⟨c.H, c.φ ++ fs, c.m ++ bs, c.w⟩ ∧ Trans c ⟨c.H, c.φ ++ fs, c.m ++ bs, c.w⟩ ∧ Ext c.H c.φ c.m c.H (c.φ ++ fs) (c.m ++ bs) := by
  have hL : ∀ j, Link c.φ c.m (c.φ ++ fs) (c.m ++ bs) j j := fun j => by
    cases h : c.m[j]? with
    | none => unfold Link; rw [h]; trivial
    | some x =>
      have hlt := (List.getElem?_eq_some_iff.1 h).1
      have h1 : (c.m ++ bs)[j]? = c.m[j]? := List.getElem?_append_left hlt
      have h2 : (c.φ ++ fs)[j]? = c.φ[j]? := List.getElem?_append_left (by rw [hg.len]; exact hlt)
      have := Link.refl c.φ c.m j
      unfold Link IdOk at this ⊢
      rw [h1, h2]; exact this
  have := renum N ly hg (c.φ ++ fs) (c.m ++ bs) some (by simp [hg.len, hl]) (fun i' x' hx' => by
    by_cases hj : i' < c.m.length
    · rw [List.getElem?_append_left hj] at hx'
      exact .inr ⟨i', x', rfl, hx', Blk.ren_some x', List.getElem?_append_left (by rw [hg.len]; exact hj)⟩
    · rw [List.getElem?_append_right (by omega)] at hx'
      rcases hb _ _ hx' with h | h | ⟨n, h, h'⟩
      · exact .inl (.inl h)
      · exact .inl (.inr (.inl h))
      · refine .inl (.inr (.inr ⟨n, h, ?_⟩))
        rw [List.getElem?_append_right (by rw [hg.len]; omega), hg.len]
        exact h')
    (fun i j k h h' => by cases h; cases h'; rfl) (fun j j' h => by cases h; exact (hL j).leaf)
  exact ⟨this.1, this.2, Ext.of (HM.le_refl _) hL⟩

/-- A block's cells told otherwise, the world as it was. -/
theorem retell {c : Cfg} (hg : Good N ly c) (b R s : Nat) (cs cs' : List V) (hb : c.m[b]? = some (.cells cs)) (hφ : c.φ[b]? = some (some (R, s))) (hl : cs'.length ≤ s)
    (hx : ∀ (j : Nat) (y : V) (v : Value) (arr : Array Value) (e : TypeId), c.w.heap[R]? = some (.cells arr e (0, 0)) → cs'[j]? = some y → y.isCell = true ∧ ∃ v, arr[j]? = some v ∧ VRep N ly c.H c.φ c.m y v) :
    Good N ly ⟨c.H, c.φ, c.m.set b (.cells cs'), c.w⟩ ∧ Trans c ⟨c.H, c.φ, c.m.set b (.cells cs'), c.w⟩ ∧ Ext c.H c.φ c.m c.H c.φ (c.m.set b (.cells cs')) := by
  obtain ⟨R', s', arr, e, h1, h2, h3, h4, h5, h6⟩ := hg.blk b _ hb
  rw [hφ] at h1; cases h1
  have := write_row N ly hg b R s cs cs' arr hb hφ h3 hl (fun j y hj => hx j y (.bool true) arr e h2 hj)
  rwa [setRow_self c.w R arr e (0, 0) h2] at this

theorem open_isCell {i : Nat} {ps : List P} {x y : V} (h : x.open_ i ps = some y) (hx : x.isCell = true) : y.isCell = true := by
  cases x <;> simp only [V.open_, Option.some.injEq, Option.map_eq_some_iff] at h <;> first
    | (subst h; exact hx)
    | (obtain ⟨_, _, rfl⟩ := h; first | rfl | simp [V.isCell] at hx)
    | (split at h <;> (try split at h) <;> simp only [Option.some.injEq, reduceCtorEq] at h <;> subst h <;> rfl)

theorem opens_get {i : Nat} {ps : List P} : ∀ {xs ys : List V}, opens i ps xs = some ys → xs.length = ys.length ∧ ∀ (j : Nat) (y : V), ys[j]? = some y → ∃ x : V, xs[j]? = some x ∧ x.open_ i ps = some y
  | [], ys, h => by simp only [opens, Option.some.injEq] at h; subst h; exact ⟨rfl, fun j y hj => by simp at hj⟩
  | a :: r, ys, h => by
    simp only [opens] at h
    split at h
    · rename_i u v hu hv
      simp only [Option.some.injEq] at h; subst h
      obtain ⟨k1, k2⟩ := opens_get hv
      refine ⟨by simp [k1], fun j y hj => ?_⟩
      cases j with
      | zero => simp at hj; subst hj; exact ⟨a, by simp, hu⟩
      | succ j => simpa using k2 j y (by simpa using hj)
    · simp at h

theorem openBlks_get {i : Nat} {ps : List P} : ∀ {m m' : List Blk}, openBlks i ps m = some m' → m.length = m'.length ∧ ∀ (j : Nat) (y : Blk), m'[j]? = some y →
    (∃ cs cs', m[j]? = some (.cells cs) ∧ y = .cells cs' ∧ opens i ps cs = some cs') ∨ (m[j]? = some y ∧ ∀ cs, y ≠ .cells cs)
  | [], m', h => by simp only [openBlks, Option.some.injEq] at h; subst h; exact ⟨rfl, fun j y hj => by simp at hj⟩
  | .cells cs :: r, m', h => by
    simp only [openBlks] at h
    split at h
    · rename_i u v hu hv
      simp only [Option.some.injEq] at h; subst h
      obtain ⟨k1, k2⟩ := openBlks_get hv
      refine ⟨by simp [k1], fun j y hj => ?_⟩
      cases j with
      | zero => simp at hj; subst hj; exact .inl ⟨cs, u, by simp, rfl, hu⟩
      | succ j => simpa using k2 j y (by simpa using hj)
    · simp at h
  | .tok n k :: r, m', h => by
    simp only [openBlks, Option.map_eq_some_iff] at h
    obtain ⟨v, hv, rfl⟩ := h
    obtain ⟨k1, k2⟩ := openBlks_get hv
    refine ⟨by simp [k1], fun j y hj => ?_⟩
    cases j with
    | zero => simp at hj; subst hj; exact .inr ⟨by simp, fun cs h => by cases h⟩
    | succ j => simpa using k2 j y (by simpa using hj)
  | .dead :: r, m', h => by
    simp only [openBlks, Option.map_eq_some_iff] at h
    obtain ⟨v, hv, rfl⟩ := h
    obtain ⟨k1, k2⟩ := openBlks_get hv
    refine ⟨by simp [k1], fun j y hj => ?_⟩
    cases j with
    | zero => simp at hj; subst hj; exact .inr ⟨by simp, fun cs h => by cases h⟩
    | succ j => simpa using k2 j y (by simpa using hj)
  | .hole :: r, m', h => by
    simp only [openBlks, Option.map_eq_some_iff] at h
    obtain ⟨v, hv, rfl⟩ := h
    obtain ⟨k1, k2⟩ := openBlks_get hv
    refine ⟨by simp [k1], fun j y hj => ?_⟩
    cases j with
    | zero => simp at hj; subst hj; exact .inr ⟨by simp, fun cs h => by cases h⟩
    | succ j => simpa using k2 j y (by simpa using hj)

/-- A block laid open: its cells are never written again, and what named it is data. -/
theorem open_row {c : Cfg} (hg : Good N ly c) (i : Nat) (cs : List V) (ps : List P) (m' : List Blk) (hi : c.m[i]? = some (.cells cs)) (hps : toPs cs = some ps) (hm : openBlks i ps (c.m.set i .dead) = some m') :
    ∃ H', Good N ly ⟨H', c.φ, m', c.w⟩ ∧ Trans c ⟨H', c.φ, m', c.w⟩ ∧ Ext c.H c.φ c.m H' c.φ m' ∧ ∀ (x y : V) (v : Value), x.open_ i ps = some y → VRep N ly c.H c.φ c.m x v → VRep N ly H' c.φ m' y v := by
  obtain ⟨R, s, arr, e, h1, h2, h3, h4, h5, h6⟩ := hg.blk i _ hi
  have hil : i < c.m.length := (List.getElem?_eq_some_iff.1 hi).1
  let H' : HM := c.H.more R arr cs.length
  have hle : c.H.le H' := HM.more_le fun o v hv _ => by rw [h6] at hv; cases hv
  obtain ⟨hlen, hget⟩ := openBlks_get hm
  have howned : Owned c R := ⟨i, s, .inl ⟨cs, hi⟩, h1⟩
  -- first the block is dead and its cells are known
  have hdead : (c.m.set i .dead)[i]? = some Blk.dead := by simp [hil]
  have hL0 : ∀ j, Link c.φ c.m c.φ (c.m.set i .dead) j j := fun j => by
    by_cases hj : j = i
    · subst hj; unfold Link; rw [hi]; exact ⟨.inr hdead, rfl⟩
    · have h1 : (c.m.set i .dead)[j]? = c.m[j]? := by simp [Ne.symm hj]
      have := Link.refl c.φ c.m j
      unfold Link IdOk at this ⊢
      rw [h1]; exact this
  have hE0 : Ext c.H c.φ c.m H' c.φ (c.m.set i .dead) := Ext.of hle hL0
  -- what is laid open reads the same in the new memory
  have hL1 : ∀ j, Link c.φ (c.m.set i .dead) c.φ m' j j := fun j => by
    cases hj : (c.m.set i .dead)[j]? with
    | none => unfold Link; rw [hj]; trivial
    | some x =>
      have hlt : j < m'.length := by rw [← hlen]; exact (List.getElem?_eq_some_iff.1 hj).1
      obtain ⟨y, hy⟩ : ∃ y, m'[j]? = some y := ⟨m'[j], List.getElem?_eq_getElem hlt⟩
      unfold Link
      rw [hj]
      rcases hget j y hy with ⟨a, b, k1, rfl, _⟩ | ⟨k1, k2⟩
      · rw [hj] at k1; cases k1; exact ⟨.inl ⟨b, hy⟩, rfl⟩
      · rw [hj] at k1; cases k1
        cases x with
        | cells cs => exact absurd rfl (k2 cs)
        | tok n k => exact .inr ⟨k, hy, Nat.le_refl _, fun _ => rfl⟩
        | dead => exact ⟨hy, rfl⟩
        | hole => simp only
  have hE1 : Ext H' c.φ (c.m.set i .dead) H' c.φ m' := Ext.of (HM.le_refl _) hL1
  have hE : Ext c.H c.φ c.m H' c.φ m' := Ext.trans hE0 hE1
  have hna : ∀ p ∈ ps, p.isAgg = false := fun p hp => by
    obtain ⟨j, hj⟩ := List.getElem?_of_mem hp
    obtain ⟨x, hx, hxp⟩ := toPs_get hps j p hj
    exact toP_isAgg (h5 j x hx).1 hxp
  have hrep : RepCs N H' R ps 0 := RepCs.of N fun j p hj => by
    obtain ⟨x, hx, hxp⟩ := toPs_get hps j p hj
    obtain ⟨_, v, hv, hr⟩ := h5 j x hx
    have hjl : j < cs.length := (List.getElem?_eq_some_iff.1 hx).1
    refine ⟨v, ?_, VRep.toP N ly x p v hxp (hE.rep N ly x v hr)⟩
    rw [Nat.zero_add]
    show (if R = R ∧ j < cs.length then arr[j]? else c.H R j) = some v
    rw [if_pos ⟨rfl, hjl⟩]; exact hv
  have hopen : ∀ (x y : V) (v : Value), x.open_ i ps = some y → VRep N ly c.H c.φ c.m x v → VRep N ly H' c.φ m' y v :=
    fun x y v hxy hr => VRep.open_ N ly h1 hrep hna x y v hxy (hE.rep N ly x v hr)
  have hlv : ∀ j, Live m' j → Live c.m j ∧ j ≠ i := fun j hl => by
    rcases hl with ⟨a, ha⟩ | ⟨n, k, ha⟩
    · rcases hget j _ ha with ⟨a', b, k1, _, _⟩ | ⟨_, k2⟩
      · by_cases hj : j = i
        · subst hj; rw [hdead] at k1; cases k1
        · exact ⟨.inl ⟨a', by simpa [List.getElem?_set_ne (Ne.symm hj)] using k1⟩, hj⟩
      · exact absurd rfl (k2 a)
    · rcases hget j _ ha with ⟨a', b, _, k1, _⟩ | ⟨k1, _⟩
      · cases k1
      · by_cases hj : j = i
        · subst hj; rw [hdead] at k1; cases k1
        · exact ⟨.inr ⟨n, k, by simpa [List.getElem?_set_ne (Ne.symm hj)] using k1⟩, hj⟩
  refine ⟨H', ⟨by simp [hg.len, ← hlen], ?_, ?_, fun a b R s s' ha hb => hg.inj a b R s s' (hlv a ha).1 (hlv b hb).1⟩, ⟨fun _ => rfl, rfl, rfl, rfl, Nat.le_refl _, hle, fun _ _ _ => rfl, ?_, ?_⟩, hE, hopen⟩
  · intro b o v hv
    simp only [H', HM.more] at hv
    split at hv
    · rename_i hb
      obtain ⟨rfl, ho⟩ := hb
      have hgx : cs[o]? = some cs[o] := List.getElem?_eq_getElem ho
      obtain ⟨k1, u, k2, k3⟩ := h5 o _ hgx
      rw [k2] at hv; cases hv
      refine ⟨?_, cell_oneCell N ly k1 k3⟩
      simp only [World.cell?, h2]; simpa using k2
    · exact hg.frz b o v hv
  · intro j y hy
    have hkeep : ∀ x, c.m[j]? = some x → j ≠ i → (∀ cs, x ≠ .cells cs) → BlkOk N ly ⟨H', c.φ, m', c.w⟩ j x := fun x hx hj hnc => by
      by_cases hl : Live c.m j
      · refine (hg.blk j x hx).keep N ly hE rfl fun R' s' hR' => ⟨rfl, fun o ho => ?_⟩
        have hne : R' ≠ R := fun e => by subst e; exact hj (hg.inj j i _ _ _ hl (.inl ⟨cs, hi⟩) hR' h1)
        simp only [H']; rw [HM.more_other hne]; exact ho
      · cases x with
        | cells cs => exact absurd rfl (hnc cs)
        | tok n k => exact absurd (.inr ⟨n, k, hx⟩) hl
        | dead => trivial
        | hole => trivial
    rcases hget j y hy with ⟨a, b, k1, rfl, k3⟩ | ⟨k1, k2⟩
    · by_cases hj : j = i
      · subst hj; rw [hdead] at k1; cases k1
      · have k1' : c.m[j]? = some (.cells a) := by simpa [List.getElem?_set_ne (Ne.symm hj)] using k1
        obtain ⟨R', s', arr', e', q1, q2, q3, q4, q5, q6⟩ := hg.blk j _ k1'
        have hne : R' ≠ R := fun e => by subst e; exact hj (hg.inj j i _ _ _ (.inl ⟨a, k1'⟩) (.inl ⟨cs, hi⟩) q1 h1)
        obtain ⟨l1, l2⟩ := opens_get k3
        refine ⟨R', s', arr', e', q1, q2, q3, l1 ▸ q4, fun q z hz => ?_, fun o => by simp only [H']; rw [HM.more_other hne]; exact q6 o⟩
        obtain ⟨x, hx, hxz⟩ := l2 q z hz
        obtain ⟨p1, v, p2, p3⟩ := q5 q x hx
        exact ⟨open_isCell hxz p1, v, p2, hopen x z v hxz p3⟩
    · by_cases hj : j = i
      · subst hj; rw [hdead] at k1; cases k1; trivial
      · exact hkeep y (by simpa [List.getElem?_set_ne (Ne.symm hj)] using k1) hj k2
  · rintro b ⟨j, s', hl, hp⟩; exact .inl ⟨j, s', (hlv j hl).1, hp⟩
  · intro b o v hv
    simp only [H', HM.more] at hv
    split at hv
    · rename_i hb; exact .inr (.inl (hb.1 ▸ howned))
    · exact .inl hv

end Go.Am
