/- How values of the machine stand for Go's values in a world: the relation, and that it is kept when memory grows, is numbered anew, or is laid open. -/
import Derived.Test.YtbepkgilphbhaaaAmDefs
import Derived.CallsIn
import Derived.OrdersIn
import Derived.RangeFuncIn
import Derived.RangeFuncLeaves
import Derived.Laws.AppendOwn
import Derived.Laws.MakeOwn
import Derived.Laws.OwnMore
import Derived.Laws.NewBlocks
namespace Go.Am
open Go

/-- What is known of cells that are never written again. -/
abbrev HM := Nat → Nat → Option Value

def HM.le (H H' : HM) : Prop := ∀ b o v, H b o = some v → H' b o = some v
theorem HM.le_refl (H : HM) : H.le H := fun _ _ _ h => h
theorem HM.le_trans {A B C : HM} (h : A.le B) (k : B.le C) : A.le C := fun _ _ _ x => k _ _ _ (h _ _ _ x)

/-- The numbers of functions and types in a program. -/
structure Nm where
  num : Nat → Nat
  tnum : Nat → Nat

def P.isAgg : P → Bool
  | .agg _ => true
  | _ => false

/-- A value lies at a place of a row whose elements are of kind `n`. -/
def Lies (H : HM) (n b off : Nat) (v : Value) : Prop :=
  (n = 0 ∧ H b off = some v) ∨ (n ≠ 0 ∧ ∃ cs : List Value, cs.length = n ∧ v = .agg cs.toArray ∧ ∀ j c, cs[j]? = some c → H b (off + j) = some c)

theorem Lies.mono {H H' : HM} (h : H.le H') {n b off : Nat} {v : Value} (k : Lies H n b off v) : Lies H' n b off v := by
  rcases k with ⟨h0, h1⟩ | ⟨h0, cs, h1, h2, h3⟩
  · exact .inl ⟨h0, h _ _ _ h1⟩
  · exact .inr ⟨h0, cs, h1, h2, fun j c hj => h _ _ _ (h3 j c hj)⟩

variable (N : Nm)

mutual
def Rep (H : HM) : P → Value → Prop
  | .v x, v => v = x
  | .agg ps, v => ∃ cs : List Value, v = .agg cs.toArray ∧ Reps H ps cs
  | .sl n es, v => ∃ a cap, (v = .slice a es.length cap ∧ es.length ≤ cap) ∧ (es ≠ [] → ∃ b off, a = some ⟨b, off, none⟩ ∧ RepEs H n b es off)
  | .ptr ps, v => ∃ b off, v = .pointer (some ⟨b, off, none⟩) ∧ RepCs H b ps off
  | .fn f ps, v => ∃ cs : List Value, v = .func (.func (N.num f)) #[] cs.toArray ∧ Reps H ps cs
  | .iface t x, v => ∃ y, v = .iface (N.tnum t) y ∧ Rep H x y
  | .tuple ps, v => ∃ cs : List Value, v = .tuple cs.toArray ∧ Reps H ps cs
def Reps (H : HM) : List P → List Value → Prop
  | [], vs => vs = []
  | p :: r, vs => ∃ v s, vs = v :: s ∧ Rep H p v ∧ Reps H r s
def RepCs (H : HM) (b : Nat) : List P → Nat → Prop
  | [], _ => True
  | p :: r, off => (∃ c, H b off = some c ∧ Rep H p c) ∧ RepCs H b r (off + 1)
def RepEs (H : HM) (n b : Nat) : List P → Nat → Prop
  | [], _ => True
  | p :: r, off => (∃ v, Lies H n b off v ∧ Rep H p v ∧ (p.isAgg = true ↔ n ≠ 0)) ∧ RepEs H n b r (off + sz n)
end

mutual
theorem Rep.mono {H H' : HM} (h : H.le H') : ∀ (p : P) (v : Value), Rep N H p v → Rep N H' p v
  | .v _, _, k => by simpa only [Rep] using k
  | .agg ps, _, k => by
    simp only [Rep] at k ⊢
    obtain ⟨cs, e, k⟩ := k
    exact ⟨cs, e, Reps.mono h ps cs k⟩
  | .sl n es, _, k => by
    simp only [Rep] at k ⊢
    obtain ⟨a, cap, e, k⟩ := k
    exact ⟨a, cap, e, fun hn => let ⟨b, off, e, k⟩ := k hn; ⟨b, off, e, RepEs.mono h n b es off k⟩⟩
  | .ptr ps, _, k => by
    simp only [Rep] at k ⊢
    obtain ⟨b, off, e, k⟩ := k
    exact ⟨b, off, e, RepCs.mono h b ps off k⟩
  | .fn _ ps, _, k => by
    simp only [Rep] at k ⊢
    obtain ⟨cs, e, k⟩ := k
    exact ⟨cs, e, Reps.mono h ps cs k⟩
  | .iface _ x, _, k => by
    simp only [Rep] at k ⊢
    obtain ⟨y, e, k⟩ := k
    exact ⟨y, e, Rep.mono h x y k⟩
  | .tuple ps, _, k => by
    simp only [Rep] at k ⊢
    obtain ⟨cs, e, k⟩ := k
    exact ⟨cs, e, Reps.mono h ps cs k⟩
theorem Reps.mono {H H' : HM} (h : H.le H') : ∀ (ps : List P) (vs : List Value), Reps N H ps vs → Reps N H' ps vs
  | [], _, k => by simpa only [Reps] using k
  | p :: r, _, k => by
    simp only [Reps] at k ⊢
    obtain ⟨v, s, e, k1, k2⟩ := k
    exact ⟨v, s, e, Rep.mono h p v k1, Reps.mono h r s k2⟩
theorem RepCs.mono {H H' : HM} (h : H.le H') (b : Nat) : ∀ (ps : List P) (off : Nat), RepCs N H b ps off → RepCs N H' b ps off
  | [], _, _ => by simp only [RepCs]
  | p :: r, off, k => by
    simp only [RepCs] at k ⊢
    obtain ⟨⟨c, k0, k1⟩, k2⟩ := k
    exact ⟨⟨c, h _ _ _ k0, Rep.mono h p c k1⟩, RepCs.mono h b r (off + 1) k2⟩
theorem RepEs.mono {H H' : HM} (h : H.le H') (n b : Nat) : ∀ (ps : List P) (off : Nat), RepEs N H n b ps off → RepEs N H' n b ps off
  | [], _, _ => by simp only [RepEs]
  | p :: r, off, k => by
    simp only [RepEs] at k ⊢
    obtain ⟨⟨v, k0, k1, k3⟩, k2⟩ := k
    exact ⟨⟨v, k0.mono h, Rep.mono h p v k1, k3⟩, RepEs.mono h n b r (off + sz n) k2⟩
end

/-! ### Plain forms -/

theorem Reps.length {H : HM} : ∀ {ps : List P} {vs : List Value}, Reps N H ps vs → ps.length = vs.length
  | [], _, k => by simp only [Reps] at k; subst k; rfl
  | p :: r, _, k => by
    simp only [Reps] at k
    obtain ⟨v, s, rfl, _, k⟩ := k
    simp [Reps.length k]

theorem Reps.get {H : HM} : ∀ {ps : List P} {vs : List Value}, Reps N H ps vs → ∀ (j : Nat) (p : P), ps[j]? = some p → ∃ v, vs[j]? = some v ∧ Rep N H p v
  | [], _, _, j, p, hj => by simp at hj
  | q :: r, _, k, j, p, hj => by
    simp only [Reps] at k
    obtain ⟨v, s, rfl, k1, k2⟩ := k
    cases j with
    | zero => simp at hj; subst hj; exact ⟨v, by simp, k1⟩
    | succ j => simpa using Reps.get k2 j p (by simpa using hj)

theorem Reps.of {H : HM} : ∀ {ps : List P} {vs : List Value}, ps.length = vs.length → (∀ (j : Nat) (p : P) (v : Value), ps[j]? = some p → vs[j]? = some v → Rep N H p v) → Reps N H ps vs
  | [], vs, hl, _ => by simp only [Reps]; exact List.eq_nil_of_length_eq_zero (by simpa using hl.symm)
  | p :: r, [], hl, _ => by simp at hl
  | p :: r, v :: s, hl, h => by
    simp only [Reps]
    exact ⟨v, s, rfl, h 0 p v (by simp) (by simp), Reps.of (by simpa using hl) fun j q u hq hu => h (j + 1) q u (by simpa using hq) (by simpa using hu)⟩

theorem RepCs.get {H : HM} {b : Nat} : ∀ {ps : List P} {off : Nat}, RepCs N H b ps off → ∀ (j : Nat) (p : P), ps[j]? = some p → ∃ c, H b (off + j) = some c ∧ Rep N H p c
  | [], _, _, j, p, hj => by simp at hj
  | q :: r, off, k, j, p, hj => by
    simp only [RepCs] at k
    cases j with
    | zero => simp at hj; subst hj; exact k.1
    | succ j =>
      have := RepCs.get k.2 j p (by simpa using hj)
      rwa [show off + 1 + j = off + (j + 1) by omega] at this

theorem RepCs.of {H : HM} {b : Nat} : ∀ {ps : List P} {off : Nat}, (∀ (j : Nat) (p : P), ps[j]? = some p → ∃ c, H b (off + j) = some c ∧ Rep N H p c) → RepCs N H b ps off
  | [], _, _ => by simp only [RepCs]
  | q :: r, off, h => by
    simp only [RepCs]
    refine ⟨by simpa using h 0 q (by simp), RepCs.of fun j p hj => ?_⟩
    have := h (j + 1) p (by simpa using hj)
    rwa [show off + (j + 1) = off + 1 + j by omega] at this

theorem RepCs.drop {H : HM} {b : Nat} {ps : List P} {off : Nat} (h : RepCs N H b ps off) (k : Nat) : RepCs N H b (ps.drop k) (off + k) :=
  RepCs.of N fun j p hj => by
    have := RepCs.get N h (k + j) p (by simpa using hj)
    rwa [← Nat.add_assoc] at this

theorem RepCs.take {H : HM} {b : Nat} {ps : List P} {off : Nat} (h : RepCs N H b ps off) (k : Nat) : RepCs N H b (ps.take k) off :=
  RepCs.of N fun j p hj => RepCs.get N h j p (by
    rw [List.getElem?_take] at hj
    split at hj
    · exact hj
    · simp at hj)

theorem RepEs.get {H : HM} {n b : Nat} : ∀ {ps : List P} {off : Nat}, RepEs N H n b ps off → ∀ (j : Nat) (p : P), ps[j]? = some p → ∃ v, Lies H n b (off + j * sz n) v ∧ Rep N H p v ∧ (p.isAgg = true ↔ n ≠ 0)
  | [], _, _, j, p, hj => by simp at hj
  | q :: r, off, k, j, p, hj => by
    simp only [RepEs] at k
    cases j with
    | zero => simp at hj; subst hj; simpa using k.1
    | succ j =>
      have := RepEs.get k.2 j p (by simpa using hj)
      rwa [show off + sz n + j * sz n = off + (j + 1) * sz n by rw [Nat.add_mul]; omega] at this

theorem RepEs.of {H : HM} {n b : Nat} : ∀ {ps : List P} {off : Nat}, (∀ (j : Nat) (p : P), ps[j]? = some p → ∃ v, Lies H n b (off + j * sz n) v ∧ Rep N H p v ∧ (p.isAgg = true ↔ n ≠ 0)) → RepEs N H n b ps off
  | [], _, _ => by simp only [RepEs]
  | q :: r, off, h => by
    simp only [RepEs]
    refine ⟨by simpa using h 0 q (by simp), RepEs.of fun j p hj => ?_⟩
    have := h (j + 1) p (by simpa using hj)
    rwa [show off + (j + 1) * sz n = off + sz n + j * sz n by rw [Nat.add_mul]; omega] at this

/-! ### Values that name blocks -/

/-- Where the blocks of an activation lie: the block's number and how many cells it has. -/
abbrev FM := List (Option (Nat × Nat))

def IdOk (m : List Blk) (b : Nat) : Prop := (∃ cs, m[b]? = some (.cells cs)) ∨ m[b]? = some .dead

def TokOk (φ : FM) (m : List Blk) (n t k : Nat) (v : Value) : Prop :=
  m[t]? = some .dead ∨ ∃ c, m[t]? = some (.tok n c) ∧ k ≤ c ∧ (k = c → (c = 0 ∧ ∃ a, v = .slice a 0 0) ∨ ∃ R s cap, φ[t]? = some (some (R, s)) ∧ v = .slice (some ⟨R, 0, none⟩) c cap ∧ c ≤ cap ∧ cap * sz n ≤ s)

def RefOk (φ : FM) (m : List Blk) (n b off len : Nat) (v : Value) : Prop :=
  (len = 0 ∧ ∃ a, v = .slice a 0 0) ∨ ∃ R s cap, IdOk m b ∧ φ[b]? = some (some (R, s)) ∧ v = .slice (some ⟨R, off, none⟩) len cap ∧ len ≤ cap ∧ off + cap * sz n ≤ s

variable (ly : Option Nat)

mutual
def VRep (H : HM) (φ : FM) (m : List Blk) : V → Value → Prop
  | .p x, v => Rep N H x v
  | .nil _, v => ∃ a, v = .slice a 0 0
  | .sl n t es, v => Rep N H (.sl n es) v ∧ TokOk φ m n t es.length v
  | .ref n b off len, v => RefOk φ m n b off len v
  | .ptr b off, v => ∃ R s, IdOk m b ∧ φ[b]? = some (some (R, s)) ∧ v = .pointer (some ⟨R, off, none⟩)
  | .agg cs, v => ∃ vs : List Value, v = .agg vs.toArray ∧ VReps H φ m cs vs
  | .fn f caps, v => ∃ vs : List Value, v = .func (.func (N.num f)) #[] vs.toArray ∧ VReps H φ m caps vs
  | .iface t x, v => ∃ y, v = .iface (N.tnum t) y ∧ VRep H φ m x y
  | .tuple xs, v => ∃ vs : List Value, v = .tuple vs.toArray ∧ VReps H φ m xs vs
  | .yield, v => ∃ l, ly = some l ∧ v = .func (.yield l) #[] #[]
  | .unk, _ => True
def VReps (H : HM) (φ : FM) (m : List Blk) : List V → List Value → Prop
  | [], vs => vs = []
  | x :: r, vs => ∃ v s, vs = v :: s ∧ VRep H φ m x v ∧ VReps H φ m r s
end

theorem VReps.length {H : HM} {φ : FM} {m : List Blk} : ∀ {xs : List V} {vs : List Value}, VReps N ly H φ m xs vs → xs.length = vs.length
  | [], _, k => by simp only [VReps] at k; subst k; rfl
  | p :: r, _, k => by
    simp only [VReps] at k
    obtain ⟨v, s, rfl, _, k⟩ := k
    simp [VReps.length k]

theorem VReps.get {H : HM} {φ : FM} {m : List Blk} : ∀ {ps : List V} {vs : List Value}, VReps N ly H φ m ps vs → ∀ (j : Nat) (p : V), ps[j]? = some p → ∃ v, vs[j]? = some v ∧ VRep N ly H φ m p v
  | [], _, _, j, p, hj => by simp at hj
  | q :: r, _, k, j, p, hj => by
    simp only [VReps] at k
    obtain ⟨v, s, rfl, k1, k2⟩ := k
    cases j with
    | zero => simp at hj; subst hj; exact ⟨v, by simp, k1⟩
    | succ j => simpa using VReps.get k2 j p (by simpa using hj)

theorem VReps.of {H : HM} {φ : FM} {m : List Blk} : ∀ {ps : List V} {vs : List Value}, ps.length = vs.length → (∀ (j : Nat) (p : V) (v : Value), ps[j]? = some p → vs[j]? = some v → VRep N ly H φ m p v) → VReps N ly H φ m ps vs
  | [], vs, hl, _ => by simp only [VReps]; exact List.eq_nil_of_length_eq_zero (by simpa using hl.symm)
  | p :: r, [], hl, _ => by simp at hl
  | p :: r, v :: s, hl, h => by
    simp only [VReps]
    exact ⟨v, s, rfl, h 0 p v (by simp) (by simp), VReps.of (by simpa using hl) fun j q u hq hu => h (j + 1) q u (by simpa using hq) (by simpa using hu)⟩

/-- Block `i` of one memory goes over into block `i'` of another. -/
def Link (φ : FM) (m : List Blk) (φ' : FM) (m' : List Blk) (i i' : Nat) : Prop :=
  match m[i]? with
  | some (.cells _) => IdOk m' i' ∧ φ'[i']? = φ[i]?
  | some .dead => m'[i']? = some .dead ∧ φ'[i']? = φ[i]?
  | some (.tok n c) => m'[i']? = some .dead ∨ ∃ c', m'[i']? = some (.tok n c') ∧ c ≤ c' ∧ (c' = c → φ'[i']? = φ[i]?)
  | _ => True

theorem Link.id {φ : FM} {m : List Blk} {φ' : FM} {m' : List Blk} {i i' : Nat} (h : Link φ m φ' m' i i') (k : IdOk m i) : IdOk m' i' ∧ φ'[i']? = φ[i]? := by
  unfold Link at h
  rcases k with ⟨cs, k⟩ | k
  · rw [k] at h; exact h
  · rw [k] at h; exact ⟨.inr h.1, h.2⟩

theorem Link.tok {φ : FM} {m : List Blk} {φ' : FM} {m' : List Blk} {i i' n k : Nat} {v : Value} (h : Link φ m φ' m' i i') (hk : TokOk φ m n i k v) : TokOk φ' m' n i' k v := by
  unfold Link at h
  rcases hk with hd | ⟨c, hc, hl, ht⟩
  · rw [hd] at h; exact .inl h.1
  · rw [hc] at h
    rcases h with h | ⟨c', hc', hle, hφ⟩
    · exact .inl h
    · refine .inr ⟨c', hc', Nat.le_trans hl hle, fun e => ?_⟩
      have e1 : c' = c := by omega
      have e2 : k = c := by omega
      subst e1
      rw [hφ rfl]
      exact ht e2

/-- What is known of a block goes over. -/
def Leaf (φ : FM) (m : List Blk) (φ' : FM) (m' : List Blk) (i i' : Nat) : Prop :=
  (IdOk m i → IdOk m' i' ∧ φ'[i']? = φ[i]?) ∧ ∀ n k v, TokOk φ m n i k v → TokOk φ' m' n i' k v

theorem Link.leaf {φ : FM} {m : List Blk} {φ' : FM} {m' : List Blk} {i i' : Nat} (h : Link φ m φ' m' i i') : Leaf φ m φ' m' i i' := ⟨h.id, fun _ _ _ => h.tok⟩

theorem Leaf.trans {φ φ' φ'' : FM} {m m' m'' : List Blk} {i i' i'' : Nat} (h : Leaf φ m φ' m' i i') (k : Leaf φ' m' φ'' m'' i' i'') : Leaf φ m φ'' m'' i i'' :=
  ⟨fun x => ⟨(k.1 (h.1 x).1).1, (k.1 (h.1 x).1).2.trans (h.1 x).2⟩, fun n c v x => k.2 n c v (h.2 n c v x)⟩

mutual
theorem VRep.ren {H H' : HM} {φ φ' : FM} {m m' : List Blk} {ρ : Nat → Option Nat} (hH : H.le H') (hL : ∀ i i', ρ i = some i' → Leaf φ m φ' m' i i') :
    ∀ (x x' : V) (v : Value), x.ren ρ = some x' → VRep N ly H φ m x v → VRep N ly H' φ' m' x' v
  | .p x, x', v, e, k => by
    simp only [V.ren, Option.some.injEq] at e; subst e
    simp only [VRep] at k ⊢; exact Rep.mono N hH x v k
  | .nil n, x', v, e, k => by
    simp only [V.ren, Option.some.injEq] at e; subst e
    simpa only [VRep] using k
  | .sl n t es, x', v, e, k => by
    simp only [V.ren, Option.map_eq_some_iff] at e
    obtain ⟨t', ht, rfl⟩ := e
    simp only [VRep] at k ⊢
    exact ⟨Rep.mono N hH _ v k.1, (hL t t' ht).2 _ _ _ k.2⟩
  | .ref n b off len, x', v, e, k => by
    simp only [V.ren, Option.map_eq_some_iff] at e
    obtain ⟨b', hb, rfl⟩ := e
    simp only [VRep] at k ⊢
    rcases k with k | ⟨R, s, cap, h1, h2, h3⟩
    · exact .inl k
    · have := (hL b b' hb).1 h1
      exact .inr ⟨R, s, cap, this.1, this.2.trans h2, h3⟩
  | .ptr b off, x', v, e, k => by
    simp only [V.ren, Option.map_eq_some_iff] at e
    obtain ⟨b', hb, rfl⟩ := e
    simp only [VRep] at k ⊢
    obtain ⟨R, s, h1, h2, h3⟩ := k
    have := (hL b b' hb).1 h1
    exact ⟨R, s, this.1, this.2.trans h2, h3⟩
  | .agg cs, x', v, e, k => by
    simp only [V.ren, Option.map_eq_some_iff] at e
    obtain ⟨cs', hc, rfl⟩ := e
    simp only [VRep] at k ⊢
    obtain ⟨vs, e, k⟩ := k
    exact ⟨vs, e, VReps.ren hH hL cs cs' vs hc k⟩
  | .fn f cs, x', v, e, k => by
    simp only [V.ren, Option.map_eq_some_iff] at e
    obtain ⟨cs', hc, rfl⟩ := e
    simp only [VRep] at k ⊢
    obtain ⟨vs, e, k⟩ := k
    exact ⟨vs, e, VReps.ren hH hL cs cs' vs hc k⟩
  | .iface t x, x', v, e, k => by
    simp only [V.ren, Option.map_eq_some_iff] at e
    obtain ⟨y, hc, rfl⟩ := e
    simp only [VRep] at k ⊢
    obtain ⟨u, e, k⟩ := k
    exact ⟨u, e, VRep.ren hH hL x y u hc k⟩
  | .tuple cs, x', v, e, k => by
    simp only [V.ren, Option.map_eq_some_iff] at e
    obtain ⟨cs', hc, rfl⟩ := e
    simp only [VRep] at k ⊢
    obtain ⟨vs, e, k⟩ := k
    exact ⟨vs, e, VReps.ren hH hL cs cs' vs hc k⟩
  | .yield, x', v, e, k => by
    simp only [V.ren, Option.some.injEq] at e; subst e
    simpa only [VRep] using k
  | .unk, x', v, e, k => by
    simp only [V.ren, Option.some.injEq] at e; subst e
    simp only [VRep]
theorem VReps.ren {H H' : HM} {φ φ' : FM} {m m' : List Blk} {ρ : Nat → Option Nat} (hH : H.le H') (hL : ∀ i i', ρ i = some i' → Leaf φ m φ' m' i i') :
    ∀ (xs xs' : List V) (vs : List Value), rens ρ xs = some xs' → VReps N ly H φ m xs vs → VReps N ly H' φ' m' xs' vs
  | [], xs', vs, e, k => by
    simp only [rens, Option.some.injEq] at e; subst e
    simpa only [VReps] using k
  | x :: r, xs', vs, e, k => by
    simp only [rens] at e
    split at e
    · rename_i a b ha hb
      simp only [Option.some.injEq] at e; subst e
      simp only [VReps] at k ⊢
      obtain ⟨v, s, rfl, k1, k2⟩ := k
      exact ⟨v, s, rfl, VRep.ren hH hL x a v ha k1, VReps.ren hH hL r b s hb k2⟩
    · simp at e
end

mutual
theorem V.ren_some : ∀ x : V, x.ren some = some x
  | .p _ => by simp only [V.ren]
  | .nil _ => by simp only [V.ren]
  | .sl _ _ _ => by simp only [V.ren, Option.map_some]
  | .ref _ _ _ _ => by simp only [V.ren, Option.map_some]
  | .ptr _ _ => by simp only [V.ren, Option.map_some]
  | .agg cs => by simp only [V.ren, rens_some cs, Option.map_some]
  | .fn _ cs => by simp only [V.ren, rens_some cs, Option.map_some]
  | .iface _ x => by simp only [V.ren, V.ren_some x, Option.map_some]
  | .tuple cs => by simp only [V.ren, rens_some cs, Option.map_some]
  | .yield => by simp only [V.ren]
  | .unk => by simp only [V.ren]
theorem rens_some : ∀ xs : List V, rens some xs = some xs
  | [] => by simp only [rens]
  | x :: r => by simp only [rens, V.ren_some x, rens_some r]
end

/-- Memory goes on: what stood for a value stands for it. -/
structure Ext (H : HM) (φ : FM) (m : List Blk) (H' : HM) (φ' : FM) (m' : List Blk) : Prop where
  hle : H.le H'
  leaf : ∀ i, Leaf φ m φ' m' i i

theorem Ext.rep {H H' : HM} {φ φ' : FM} {m m' : List Blk} (h : Ext H φ m H' φ' m') (x : V) (v : Value) (k : VRep N ly H φ m x v) : VRep N ly H' φ' m' x v :=
  VRep.ren N ly (ρ := some) h.hle (fun i i' e => by cases e; exact h.leaf i) x x v (V.ren_some x) k

theorem Ext.of {H H' : HM} {φ φ' : FM} {m m' : List Blk} (hH : H.le H') (hL : ∀ i, Link φ m φ' m' i i) : Ext H φ m H' φ' m' := ⟨hH, fun i => (hL i).leaf⟩

theorem Ext.refl {H : HM} {φ : FM} {m : List Blk} : Ext H φ m H φ m := ⟨HM.le_refl H, fun _ => ⟨fun h => ⟨h, rfl⟩, fun _ _ _ h => h⟩⟩
theorem Ext.trans {H H' H'' : HM} {φ φ' φ'' : FM} {m m' m'' : List Blk} (h : Ext H φ m H' φ' m') (k : Ext H' φ' m' H'' φ'' m'') : Ext H φ m H'' φ'' m'' :=
  ⟨HM.le_trans h.hle k.hle, fun i => (h.leaf i).trans (k.leaf i)⟩

theorem Link.refl (φ : FM) (m : List Blk) (i : Nat) : Link φ m φ m i i := by
  unfold Link
  split
  · rename_i cs h; exact ⟨.inl ⟨cs, h⟩, rfl⟩
  · rename_i h; exact ⟨h, rfl⟩
  · rename_i n c h; exact .inr ⟨c, h, Nat.le_refl _, fun _ => rfl⟩
  · trivial

theorem Ext.reps {H H' : HM} {φ φ' : FM} {m m' : List Blk} (h : Ext H φ m H' φ' m') : ∀ {xs : List V} {vs : List Value}, VReps N ly H φ m xs vs → VReps N ly H' φ' m' xs vs
  | [], _, k => by simpa only [VReps] using k
  | x :: r, _, k => by
    simp only [VReps] at k ⊢
    obtain ⟨v, s, rfl, k1, k2⟩ := k
    exact ⟨v, s, rfl, h.rep N ly x v k1, Ext.reps h k2⟩

/-! ### As data -/

mutual
theorem VRep.toP {H : HM} {φ : FM} {m : List Blk} : ∀ (x : V) (q : P) (v : Value), x.toP = some q → VRep N ly H φ m x v → Rep N H q v
  | .p x, q, v, e, k => by
    simp only [V.toP, Option.some.injEq] at e; subst e
    simpa only [VRep] using k
  | .nil n, q, v, e, k => by
    simp only [V.toP, Option.some.injEq] at e; subst e
    simp only [VRep] at k; simp only [Rep]
    obtain ⟨a, rfl⟩ := k
    exact ⟨a, 0, ⟨rfl, Nat.le_refl _⟩, fun h => absurd rfl h⟩
  | .sl n t es, q, v, e, k => by
    simp only [V.toP, Option.some.injEq] at e; subst e
    simp only [VRep] at k; exact k.1
  | .ref n b off len, q, v, e, k => by simp [V.toP] at e
  | .ptr b off, q, v, e, k => by simp [V.toP] at e
  | .agg cs, q, v, e, k => by
    simp only [V.toP, Option.map_eq_some_iff] at e
    obtain ⟨ps, hp, rfl⟩ := e
    simp only [VRep] at k; simp only [Rep]
    obtain ⟨vs, e, k⟩ := k
    exact ⟨vs, e, VReps.toPs cs ps vs hp k⟩
  | .fn f cs, q, v, e, k => by
    simp only [V.toP, Option.map_eq_some_iff] at e
    obtain ⟨ps, hp, rfl⟩ := e
    simp only [VRep] at k; simp only [Rep]
    obtain ⟨vs, e, k⟩ := k
    exact ⟨vs, e, VReps.toPs cs ps vs hp k⟩
  | .iface t x, q, v, e, k => by
    simp only [V.toP, Option.map_eq_some_iff] at e
    obtain ⟨p, hp, rfl⟩ := e
    simp only [VRep] at k; simp only [Rep]
    obtain ⟨y, e, k⟩ := k
    exact ⟨y, e, VRep.toP x p y hp k⟩
  | .tuple cs, q, v, e, k => by
    simp only [V.toP, Option.map_eq_some_iff] at e
    obtain ⟨ps, hp, rfl⟩ := e
    simp only [VRep] at k; simp only [Rep]
    obtain ⟨vs, e, k⟩ := k
    exact ⟨vs, e, VReps.toPs cs ps vs hp k⟩
  | .yield, q, v, e, k => by simp [V.toP] at e
  | .unk, q, v, e, k => by simp [V.toP] at e
theorem VReps.toPs {H : HM} {φ : FM} {m : List Blk} : ∀ (xs : List V) (qs : List P) (vs : List Value), toPs xs = some qs → VReps N ly H φ m xs vs → Reps N H qs vs
  | [], qs, vs, e, k => by
    simp only [Am.toPs, Option.some.injEq] at e; subst e
    simpa only [VReps, Reps] using k
  | x :: r, qs, vs, e, k => by
    simp only [Am.toPs] at e
    split at e
    · rename_i a b ha hb
      simp only [Option.some.injEq] at e; subst e
      simp only [VReps] at k; simp only [Reps]
      obtain ⟨v, s, rfl, k1, k2⟩ := k
      exact ⟨v, s, rfl, VRep.toP x a v ha k1, VReps.toPs r b s hb k2⟩
    · simp at e
end

theorem toPs_length : ∀ {xs : List V} {qs : List P}, toPs xs = some qs → xs.length = qs.length
  | [], qs, e => by simp only [toPs, Option.some.injEq] at e; subst e; rfl
  | x :: r, qs, e => by
    simp only [toPs] at e
    split at e
    · rename_i a b ha hb
      simp only [Option.some.injEq] at e; subst e
      simp [toPs_length hb]
    · simp at e

theorem toPs_get : ∀ {xs : List V} {qs : List P}, toPs xs = some qs → ∀ (j : Nat) (q : P), qs[j]? = some q → ∃ x : V, xs[j]? = some x ∧ x.toP = some q
  | [], qs, e, j, q, hj => by simp only [toPs, Option.some.injEq] at e; subst e; simp at hj
  | x :: r, qs, e, j, q, hj => by
    simp only [toPs] at e
    split at e
    · rename_i a b ha hb
      simp only [Option.some.injEq] at e; subst e
      cases j with
      | zero => simp at hj; subst hj; exact ⟨x, by simp, ha⟩
      | succ j => simpa using toPs_get hb j q (by simpa using hj)
    · simp at e

theorem toP_isAgg {x : V} {q : P} (h : x.isCell = true) (e : x.toP = some q) : q.isAgg = false := by
  cases x with
  | p x => simp only [V.toP, Option.some.injEq] at e; subst e; cases x <;> first | rfl | simp [V.isCell] at h
  | nil n => simp only [V.toP, Option.some.injEq] at e; subst e; rfl
  | sl n t es => simp only [V.toP, Option.some.injEq] at e; subst e; rfl
  | agg cs => simp [V.isCell] at h
  | tuple cs => simp [V.isCell] at h
  | fn f cs => simp only [V.toP, Option.map_eq_some_iff] at e; obtain ⟨ps, _, rfl⟩ := e; rfl
  | iface t x => simp only [V.toP, Option.map_eq_some_iff] at e; obtain ⟨ps, _, rfl⟩ := e; rfl
  | _ => simp [V.toP] at e

/-! ### Laid open -/

theorem chunk_length (n : Nat) : ∀ (k : Nat) (cs : List P), (chunk n k cs).length = k
  | 0, _ => rfl
  | k + 1, cs => by simp [chunk, chunk_length n k]

theorem chunk_get (n : Nat) : ∀ (k : Nat) (cs : List P) (j : Nat), j < k →
    (chunk n k cs)[j]? = some (if n = 0 then (cs.drop (j * sz n)).headD undefP else .agg ((cs.drop (j * sz n)).take n))
  | 0, _, j, h => by omega
  | k + 1, cs, 0, _ => by simp [chunk]
  | k + 1, cs, j + 1, h => by
    rw [chunk, List.getElem?_cons_succ, chunk_get n k (cs.drop (sz n)) j (by omega)]
    simp only [List.drop_drop]
    rw [show sz n + j * sz n = (j + 1) * sz n by rw [Nat.add_mul]; omega]

theorem RepCs.chunk {H : HM} {b n : Nat} {ps : List P} {off k : Nat} (h : RepCs N H b ps off) (hl : k * sz n ≤ ps.length) (ha : ∀ p ∈ ps, p.isAgg = false) :
    RepEs N H n b (chunk n k ps) off := by
  refine RepEs.of N fun j p hj => ?_
  have hjk : j < k := by
    have := (List.getElem?_eq_some_iff.1 hj).1
    rwa [chunk_length] at this
  rw [chunk_get n k ps j hjk] at hj
  have hs : (j + 1) * sz n ≤ ps.length := Nat.le_trans (Nat.mul_le_mul_right _ hjk) hl
  rw [Nat.add_mul, Nat.one_mul] at hs
  by_cases hn : n = 0
  · rw [if_pos hn] at hj
    have hsz : sz n = 1 := by simp [sz, hn]
    rw [hsz] at hj hs ⊢
    have hlt : j < ps.length := by omega
    have hg : ps[j]? = some ps[j] := List.getElem?_eq_getElem hlt
    have e : p = ps[j] := by
      simp only [Option.some.injEq, Nat.mul_one] at hj
      rw [← hj, List.headD_eq_head?_getD, List.head?_drop, hg]; rfl
    subst e
    obtain ⟨c, h1, h2⟩ := RepCs.get N h j _ hg
    exact ⟨c, .inl ⟨hn, by simpa using h1⟩, h2, by simp [ha _ (List.getElem_mem hlt), hn]⟩
  · rw [if_neg hn] at hj
    have hsz : sz n = n := by simp [sz, hn]
    rw [hsz] at hj hs ⊢
    simp only [Option.some.injEq] at hj
    subst hj
    have hlen : ((ps.drop (j * n)).take n).length = n := by simp; omega
    have hc := RepCs.take N (RepCs.drop N h (j * n)) n
    let cs : List Value := (List.range n).map fun i => (H b (off + j * n + i)).getD (.bool false)
    have hcs : ∀ i, i < n → ∃ c, H b (off + j * n + i) = some c ∧ cs[i]? = some c ∧ Rep N H ((ps.drop (j * n)).take n)[i]! c := by
      intro i hi
      have hgi : ((ps.drop (j * n)).take n)[i]? = some (((ps.drop (j * n)).take n)[i]!) := by
        rw [List.getElem!_eq_getElem?_getD, List.getElem?_eq_getElem (by omega)]; rfl
      obtain ⟨c, h1, h2⟩ := RepCs.get N hc i _ hgi
      refine ⟨c, h1, ?_, h2⟩
      simp [cs, hi, h1]
    refine ⟨.agg cs.toArray, .inr ⟨hn, cs, by simp [cs], rfl, fun i c hi => ?_⟩, ?_, by simp [P.isAgg, hn]⟩
    · have hin : i < n := by
        have := (List.getElem?_eq_some_iff.1 hi).1
        simpa [cs] using this
      obtain ⟨c', h1, h2, _⟩ := hcs i hin
      rw [h2] at hi
      cases hi
      exact h1
    · simp only [Rep]
      refine ⟨cs, rfl, Reps.of N (by rw [hlen]; simp [cs]) fun i p c hp hc' => ?_⟩
      have hin : i < n := by
        have := (List.getElem?_eq_some_iff.1 hp).1
        omega
      obtain ⟨c', h1, h2, h3⟩ := hcs i hin
      rw [h2] at hc'
      cases hc'
      rw [List.getElem!_eq_getElem?_getD, hp] at h3
      exact h3

mutual
theorem VRep.open_ {H : HM} {φ : FM} {m : List Blk} {i R s : Nat} {ps : List P} (hφ : φ[i]? = some (some (R, s))) (hp : RepCs N H R ps 0) (ha : ∀ p ∈ ps, p.isAgg = false) :
    ∀ (x x' : V) (v : Value), x.open_ i ps = some x' → VRep N ly H φ m x v → VRep N ly H φ m x' v
  | .p x, x', v, e, k => by simp only [V.open_, Option.some.injEq] at e; subst e; exact k
  | .nil n, x', v, e, k => by simp only [V.open_, Option.some.injEq] at e; subst e; exact k
  | .sl n t es, x', v, e, k => by simp only [V.open_, Option.some.injEq] at e; subst e; exact k
  | .ref n b off len, x', v, e, k => by
    simp only [V.open_] at e
    split at e
    · rename_i hb
      subst hb
      split at e
      · rename_i hl
        simp only [Option.some.injEq] at e; subst e
        simp only [VRep, Rep] at k ⊢
        rw [chunk_length]
        rcases k with ⟨h0, a, rfl⟩ | ⟨R', s', cap, h1, h2, h3, h4, _⟩
        · subst h0
          exact ⟨a, 0, ⟨rfl, Nat.le_refl _⟩, fun h => absurd rfl h⟩
        · rw [hφ] at h2
          cases h2
          refine ⟨_, cap, ⟨h3, h4⟩, fun _ => ⟨R, off, rfl, ?_⟩⟩
          have := RepCs.chunk N (n := n) (k := len) (RepCs.drop N hp off) (by simp; omega) (fun p hp' => ha p (List.mem_of_mem_drop hp'))
          simpa using this
      · simp at e
    · simp only [Option.some.injEq] at e; subst e; exact k
  | .ptr b off, x', v, e, k => by
    simp only [V.open_] at e
    split at e
    · rename_i hb
      subst hb
      simp only [Option.some.injEq] at e; subst e
      simp only [VRep, Rep] at k ⊢
      obtain ⟨R', s', h1, h2, h3⟩ := k
      rw [hφ] at h2
      cases h2
      exact ⟨R, off, h3, by simpa using RepCs.drop N hp off⟩
    · simp only [Option.some.injEq] at e; subst e; exact k
  | .agg cs, x', v, e, k => by
    simp only [V.open_, Option.map_eq_some_iff] at e
    obtain ⟨cs', hc, rfl⟩ := e
    simp only [VRep] at k ⊢
    obtain ⟨vs, e, k⟩ := k
    exact ⟨vs, e, VReps.opens hφ hp ha cs cs' vs hc k⟩
  | .fn f cs, x', v, e, k => by
    simp only [V.open_, Option.map_eq_some_iff] at e
    obtain ⟨cs', hc, rfl⟩ := e
    simp only [VRep] at k ⊢
    obtain ⟨vs, e, k⟩ := k
    exact ⟨vs, e, VReps.opens hφ hp ha cs cs' vs hc k⟩
  | .iface t x, x', v, e, k => by
    simp only [V.open_, Option.map_eq_some_iff] at e
    obtain ⟨y, hc, rfl⟩ := e
    simp only [VRep] at k ⊢
    obtain ⟨u, e, k⟩ := k
    exact ⟨u, e, VRep.open_ hφ hp ha x y u hc k⟩
  | .tuple cs, x', v, e, k => by
    simp only [V.open_, Option.map_eq_some_iff] at e
    obtain ⟨cs', hc, rfl⟩ := e
    simp only [VRep] at k ⊢
    obtain ⟨vs, e, k⟩ := k
    exact ⟨vs, e, VReps.opens hφ hp ha cs cs' vs hc k⟩
  | .yield, x', v, e, k => by simp only [V.open_, Option.some.injEq] at e; subst e; exact k
  | .unk, x', v, e, k => by simp only [V.open_, Option.some.injEq] at e; subst e; exact k
theorem VReps.opens {H : HM} {φ : FM} {m : List Blk} {i R s : Nat} {ps : List P} (hφ : φ[i]? = some (some (R, s))) (hp : RepCs N H R ps 0) (ha : ∀ p ∈ ps, p.isAgg = false) :
    ∀ (xs xs' : List V) (vs : List Value), opens i ps xs = some xs' → VReps N ly H φ m xs vs → VReps N ly H φ m xs' vs
  | [], xs', vs, e, k => by
    simp only [Am.opens, Option.some.injEq] at e; subst e
    exact k
  | x :: r, xs', vs, e, k => by
    simp only [Am.opens] at e
    split at e
    · rename_i a b ha' hb
      simp only [Option.some.injEq] at e; subst e
      simp only [VReps] at k ⊢
      obtain ⟨v, s, rfl, k1, k2⟩ := k
      exact ⟨v, s, rfl, VRep.open_ hφ hp ha x a v ha' k1, VReps.opens hφ hp ha r b s hb k2⟩
    · simp at e
end

end Go.Am
