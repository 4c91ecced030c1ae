/- Steps of the machine alone: new places, blocks laid open, nil slices that get a place, memory numbered anew. -/
import Derived.Test.YtdhfhbmfdjnnjaaAmC
import Derived.OrdersIn
import Derived.LoopNIn
import Derived.RangeFuncOwn
import Derived.ProofKit
import Derived.WalkKit
import Derived.OpenShut
import Derived.Deep.Onto
import Derived.SizedLaws
namespace Go.Am
open Go

variable (N : Nm) (ly : Option Nat)

def Kept (t : Array Value) (c : Cfg) (fr' : Fr) (m' : List Blk) : Prop :=
  ∃ c', c'.w = c.w ∧ c'.m = m' ∧ Good N ly c' ∧ FRep N ly c' fr' t ∧ Trans c c' ∧ Ext c.H c.φ c.m c'.H c'.φ c'.m

theorem Kept.refl {t : Array Value} {c : Cfg} {fr : Fr} (hg : Good N ly c) (hf : FRep N ly c fr t) : Kept N ly t c fr c.m := ⟨c, rfl, rfl, hg, hf, Trans.refl c, Ext.refl⟩

theorem Kept.trans {t : Array Value} {c : Cfg} {fr' fr'' : Fr} {m' m'' : List Blk} (h : Kept N ly t c fr' m') (k : ∀ c' : Cfg, c'.w = c.w → c'.m = m' → Good N ly c' → FRep N ly c' fr' t → Kept N ly t c' fr'' m'') : Kept N ly t c fr'' m'' := by
  obtain ⟨c1, h1, h2, h3, h4, h5, h6⟩ := h
  obtain ⟨c2, k1, k2, k3, k4, k5, k6⟩ := k c1 h1 h2 h3 h4
  exact ⟨c2, k1.trans h1, k2, k3, k4, h5.trans k5, h6.trans k6⟩

theorem mapF_get {f : V → Option V} (hu : f .unk = some .unk) : ∀ {l l' : List (Nat × V)}, mapF f l = some l' → ∀ i, f (getF l i) = some (getF l' i)
  | [], _, h, i => by simp only [mapF, Option.some.injEq] at h; subst h; exact hu
  | (j, x) :: r, _, h, i => by
    simp only [mapF] at h
    split at h
    · rename_i y s hy hs
      simp only [Option.some.injEq] at h; subst h
      simp only [getF, bif_beq]
      split
      · exact hy
      · exact mapF_get hu hs i
    · cases h

theorem Fr.map_get {f : V → Option V} (hu : f .unk = some .unk) {fr fr' : Fr} (h : fr.map? f = some fr') : fr'.n = fr.n ∧ ∀ i, f (fr.get i) = some (fr'.get i) := by
  unfold Fr.map? at h
  split at h
  · rename_i l hl
    simp only [Option.some.injEq] at h; subst h
    exact ⟨rfl, mapF_get hu hl⟩
  · cases h

theorem FRep.map {c c' : Cfg} {fr fr' : Fr} {t : Array Value} {f : V → Option V} (hf : FRep N ly c fr t) (hu : f .unk = some .unk) (h : fr.map? f = some fr') (hr : ∀ (x y : V) (v : Value), f x = some y → VRep N ly c.H c.φ c.m x v → VRep N ly c'.H c'.φ c'.m y v) : FRep N ly c' fr' t := by
  obtain ⟨h1, h2⟩ := Fr.map_get hu h
  exact ⟨h1.trans hf.1, fun i => hr _ _ _ (h2 i) (hf.2 i)⟩

theorem numF_get : ∀ (xs : List V) (k i : Nat), getF (numF k xs) i = if i < k then .unk else (xs[i - k]?).getD .unk
  | [], k, i => by simp [numF, getF]
  | x :: r, k, i => by
    simp only [numF, getF, bif_beq, numF_get r (k + 1) i]
    rcases Nat.lt_trichotomy i k with h | h | h
    · have h1 : ¬ k = i := by omega
      have h2 : i < k + 1 := by omega
      simp [h, h1, h2]
    · subst h; simp
    · have h1 : ¬ k = i := by omega
      have h2 : ¬ i < k := by omega
      have h3 : ¬ i < k + 1 := by omega
      have h4 : i - k = (i - (k + 1)) + 1 := by omega
      simp [h1, h2, h3, h4]

theorem FRep.of {c : Cfg} {xs : List V} {vs : List Value} (h : VReps N ly c.H c.φ c.m xs vs) (n : Nat) (hn : vs.length ≤ n) : FRep N ly c (Fr.of n xs) (vs.toArray ++ Array.replicate (n - vs.length) undef) := by
  refine ⟨by simp [Fr.of]; omega, fun i => ?_⟩
  have hg : (Fr.of n xs).get i = (xs[i]?).getD .unk := by
    show getF (numF 0 xs) i = _
    rw [numF_get]; simp
  rw [hg]
  cases hx : xs[i]? with
  | none => simp only [Option.getD_none, VRep]
  | some x =>
    obtain ⟨v, h1, h2⟩ := VReps.get N ly h i x hx
    have hl : i < vs.length := (List.getElem?_eq_some_iff.1 h1).1
    have : (vs.toArray ++ Array.replicate (n - vs.length) undef).getD i undef = v := by
      rw [Array.getD_eq_getD_getElem?, Array.getElem?_append_left (by simpa using hl), List.getElem?_toArray, h1]; rfl
    rw [this]; exact h2

theorem holes_ok {c : Cfg} {fr : Fr} {t : Array Value} (hg : Good N ly c) (hf : FRep N ly c fr t) (k : Nat) : Kept N ly t c fr (c.m ++ List.replicate k .hole) := by
  obtain ⟨h1, h2, h3⟩ := more_blocks N ly hg (List.replicate k .hole) (List.replicate k none) (by simp) fun j x hx => .inr (.inl (List.eq_of_mem_replicate (List.mem_of_getElem? hx)))
  exact ⟨⟨c.H, c.φ ++ List.replicate k none, c.m ++ List.replicate k .hole, c.w⟩, rfl, rfl, h1, hf.ext N ly (c' := ⟨c.H, c.φ ++ List.replicate k none, c.m ++ List.replicate k .hole, c.w⟩) h3, h2, h3⟩

theorem freeze1_ok {c : Cfg} {st st' : St} {t : Array Value} (hg : Good N ly c) (hm : c.m = st.mem) (hf : FRep N ly c st.fr t) {i : Nat} (h : freeze1 i st = some st') : Kept N ly t c st'.fr st'.mem := by
  unfold freeze1 at h
  split at h
  · rename_i cs hi
    split at h
    · rename_i ps hps
      split at h
      · rename_i fr mem ho hb
        simp only [Option.some.injEq] at h; subst h
        rw [← hm] at hi hb
        obtain ⟨H', h1, h2, h3, h4⟩ := open_row N ly hg i cs ps mem hi hps hb
        exact ⟨⟨H', c.φ, mem, c.w⟩, rfl, rfl, h1, FRep.map N ly (f := V.open_ i ps) hf rfl ho h4, h2, h3⟩
      · cases h
    · cases h
  · simp only [Option.some.injEq] at h; subst h
    rw [← hm]; exact Kept.refl N ly hg hf

theorem freezeAll_ok : ∀ (l : List Nat) {c : Cfg} {st st' : St} {t : Array Value}, Good N ly c → c.m = st.mem → FRep N ly c st.fr t → freezeAll l st = some st' → Kept N ly t c st'.fr st'.mem
  | [], c, st, st', t, hg, hm, hf, h => by
    simp only [freezeAll, Option.some.injEq] at h; subst h
    rw [← hm]; exact Kept.refl N ly hg hf
  | i :: r, c, st, st', t, hg, hm, hf, h => by
    simp only [freezeAll, Option.bind_eq_some_iff] at h
    obtain ⟨st1, h1, h2⟩ := h
    exact (freeze1_ok N ly hg hm hf h1).trans N ly fun c' _ e2 e3 e4 => freezeAll_ok r e3 e2 e4 h2

theorem freezeSlots_ok {l : List Nat} {c : Cfg} {st st' : St} {t : Array Value} (hg : Good N ly c) (hm : c.m = st.mem) (hf : FRep N ly c st.fr t) (h : freezeSlots l st = some st') : Kept N ly t c st'.fr st'.mem := by
  unfold freezeSlots at h
  split at h
  · simp only [Option.some.injEq] at h; subst h
    rw [← hm]; exact Kept.refl N ly hg hf
  · exact freezeAll_ok N ly _ hg hm hf h

theorem tok_new {c : Cfg} (hg : Good N ly c) (n : Nat) :
    Good N ly ⟨c.H, c.φ ++ [none], c.m ++ [.tok n 0], c.w⟩ ∧ Trans c ⟨c.H, c.φ ++ [none], c.m ++ [.tok n 0], c.w⟩ ∧ Ext c.H c.φ c.m c.H (c.φ ++ [none]) (c.m ++ [.tok n 0]) ∧
    ∀ v, VRep N ly c.H c.φ c.m (.nil n) v → VRep N ly c.H (c.φ ++ [none]) (c.m ++ [.tok n 0]) (.sl n c.m.length []) v := by
  obtain ⟨h1, h2, h3⟩ := more_blocks N ly hg [.tok n 0] [none] rfl fun j x hx => by
    cases j with
    | zero => simp at hx; subst hx; exact .inr (.inr ⟨n, rfl, rfl⟩)
    | succ j => simp at hx
  refine ⟨h1, h2, h3, fun v hv => ?_⟩
  have hp := VRep.toP N ly (.nil n) (.sl n []) v rfl hv
  simp only [VRep] at hv ⊢
  refine ⟨hp, .inr ⟨0, by simp, Nat.le_refl _, fun _ => .inl ⟨rfl, hv⟩⟩⟩

theorem lift1_ok {c : Cfg} {st : St} {t : Array Value} (hg : Good N ly c) (hm : c.m = st.mem) (hf : FRep N ly c st.fr t) (d : Nat) : Kept N ly t c (lift1 d st).fr (lift1 d st).mem := by
  unfold lift1
  split
  · rename_i n hd
    obtain ⟨h1, h2, h3, h4⟩ := tok_new N ly hg n
    rw [← hm]
    refine ⟨⟨c.H, c.φ ++ [none], c.m ++ [.tok n 0], c.w⟩, rfl, rfl, h1, ⟨by rw [Fr.put_n]; exact hf.1, fun i => ?_⟩, h2, h3⟩
    rw [Fr.get_put]
    split
    · rename_i e
      obtain ⟨rfl, _⟩ := e
      have := hf.2 d
      rw [hd] at this
      exact h4 _ this
    · exact h3.rep N ly _ _ (hf.2 i)
  · rename_i b off hd
    split
    · rename_i cs hb
      split
      · rename_i n hn
        obtain ⟨h1, h2, h3, h4⟩ := tok_new N ly hg n
        rw [← hm] at hb ⊢
        have hlt := (List.getElem?_eq_some_iff.1 hb).1
        have hb' : (c.m ++ [Blk.tok n 0])[b]? = some (.cells cs) := by rw [List.getElem?_append_left hlt]; exact hb
        obtain ⟨R, s, arr, e, q1, q2, q3, q4, q5, q6⟩ := hg.blk b _ hb
        have hz : (c.φ ++ [none])[b]? = c.φ[b]? := List.getElem?_append_left (by rw [hg.len]; exact hlt)
        obtain ⟨k1, k2, k3⟩ := retell N ly h1 b R s cs (cs.set off (.sl n c.m.length [])) hb' (hz.trans q1) (by simpa using q4) (fun j y v arr' e' ha hy => by
          simp only [q2] at ha
          cases ha
          rw [List.getElem?_set] at hy
          split at hy
          · rename_i e2; subst e2
            split at hy
            · simp only [Option.some.injEq] at hy; subst hy
              obtain ⟨_, u, u1, u2⟩ := q5 off (.nil n) hn
              exact ⟨rfl, u, u1, h4 u u2⟩
            · cases hy
          · obtain ⟨p1, u, u1, u2⟩ := q5 j y hy
            exact ⟨p1, u, u1, h3.rep N ly y u u2⟩)
        have hset : (c.m ++ [Blk.tok n 0]).set b (.cells (cs.set off (.sl n c.m.length []))) = c.m.set b (.cells (cs.set off (.sl n c.m.length []))) ++ [.tok n 0] := List.set_append_left _ _ hlt
        exact ⟨⟨c.H, c.φ ++ [none], (c.m ++ [Blk.tok n 0]).set b (.cells (cs.set off (.sl n c.m.length []))), c.w⟩, rfl, hset, k1, hf.ext N ly (c' := ⟨c.H, c.φ ++ [none], (c.m ++ [Blk.tok n 0]).set b (.cells (cs.set off (.sl n c.m.length []))), c.w⟩) (h3.trans k3), h2.trans k2, h3.trans k3⟩
      · rw [← hm]; exact Kept.refl N ly hg hf
    · rw [← hm]; exact Kept.refl N ly hg hf
  · rw [← hm]; exact Kept.refl N ly hg hf

theorem liftAll_ok : ∀ (l : List Nat) {c : Cfg} {st : St} {t : Array Value}, Good N ly c → c.m = st.mem → FRep N ly c st.fr t → Kept N ly t c (liftAll l st).fr (liftAll l st).mem
  | [], c, st, t, hg, hm, hf => by simp only [liftAll]; rw [← hm]; exact Kept.refl N ly hg hf
  | d :: r, c, st, t, hg, hm, hf => (lift1_ok N ly hg hm hf d).trans N ly fun c' _ e2 e3 e4 => liftAll_ok r e3 e2 e4

theorem keepF_get (keep : List Nat) : ∀ (l : List (Nat × V)) (i : Nat), getF (keepF keep l) i = getF l i ∨ getF (keepF keep l) i = .unk
  | [], i => .inl rfl
  | (j, x) :: r, i => by
    have ih := keepF_get keep r i
    simp only [keepF]
    cases hk : inL j keep with
    | true =>
      simp only [cond_true, getF, bif_beq]
      split
      · exact .inl rfl
      · exact ih
    | false =>
      simp only [cond_false, getF, bif_beq]
      split
      · rename_i e; subst e
        refine .inr ?_
        have key : ∀ l : List (Nat × V), getF (keepF keep l) j = .unk := fun l => by
          induction l with
          | nil => rfl
          | cons p l ih =>
            obtain ⟨q, z⟩ := p
            simp only [keepF]
            cases hq : inL q keep with
            | true =>
              simp only [cond_true, getF, bif_beq]
              split
              · rename_i e; subst e; rw [hk] at hq; cases hq
              · exact ih
            | false => simpa using ih
        exact key r
      · exact ih

theorem dropF_get (gone : List Nat) : ∀ (l : List (Nat × V)) (i : Nat), getF (dropF gone l) i = getF l i ∨ getF (dropF gone l) i = .unk
  | [], i => .inl rfl
  | (j, x) :: r, i => by
    have ih := dropF_get gone r i
    simp only [dropF]
    cases hk : inL j gone with
    | false =>
      simp only [cond_false, getF, bif_beq]
      split
      · exact .inl rfl
      · exact ih
    | true =>
      simp only [cond_true, getF, bif_beq]
      split
      · rename_i e; subst e
        refine .inr ?_
        have key : ∀ l : List (Nat × V), getF (dropF gone l) j = .unk := fun l => by
          induction l with
          | nil => rfl
          | cons p l ih =>
            obtain ⟨q, z⟩ := p
            simp only [dropF]
            cases hq : inL q gone with
            | false =>
              simp only [cond_false, getF, bif_beq]
              split
              · rename_i e; subst e; rw [hk] at hq; cases hq
              · exact ih
            | true => simpa using ih
        exact key r
      · exact ih

theorem FRep.less {c : Cfg} {fr fr' : Fr} {t : Array Value} (hf : FRep N ly c fr t) (hn : fr'.n = fr.n) (h : ∀ i, fr'.get i = fr.get i ∨ fr'.get i = .unk) : FRep N ly c fr' t :=
  ⟨hn.trans hf.1, fun i => by
    rcases h i with h | h <;> rw [h]
    · exact hf.2 i
    · trivial⟩

theorem keepOnly_ok {c : Cfg} {fr : Fr} {t : Array Value} (hf : FRep N ly c fr t) (keep : List Nat) : FRep N ly c (keepOnly keep fr) t :=
  hf.less N ly rfl fun i => keepF_get keep fr.l i

theorem drop_ok {c : Cfg} {fr : Fr} {t : Array Value} (hf : FRep N ly c fr t) (gone : List Nat) : FRep N ly c (fr.drop gone) t := by
  cases gone with
  | nil => exact hf
  | cons d r => exact hf.less N ly rfl fun i => dropF_get (d :: r) fr.l i

theorem gcIdx_is {n0 : Nat} {roots : List V} {m : List Blk} {idx : List Nat} (h : gcIdx n0 roots m = some idx) : ∃ l, idx = List.range n0 ++ l := by
  unfold gcIdx at h
  simp only [Option.map_eq_some_iff] at h
  obtain ⟨l, _, rfl⟩ := h
  exact ⟨_, rfl⟩

theorem gc_ok {c : Cfg} {st st' : St} {t : Array Value} {n0 : Nat} (hg : Good N ly c) (hm : c.m = st.mem) (hf : FRep N ly c st.fr t) (h : gc n0 st = some st') :
    ∃ c', c'.w = c.w ∧ c'.m = st'.mem ∧ Good N ly c' ∧ FRep N ly c' st'.fr t ∧ Trans c c' ∧ ∀ e0 : Cfg, e0.m.length ≤ n0 → Ext e0.H e0.φ e0.m c.H c.φ c.m → Ext e0.H e0.φ e0.m c'.H c'.φ c'.m := by
  unfold gc at h
  split at h
  · rename_i idx hidx
    split at h
    · rename_i fr mem hfr hmem
      split at h
      · rename_i hc
        simp only [Option.some.injEq] at h; subst h
        simp only [Bool.and_eq_true] at hc
        obtain ⟨hlt, hnd⟩ := hc
        have hn := nd_nodup hnd
        rw [← hm] at hmem hlt
        obtain ⟨gl, gget⟩ := renBlks_get hmem
        simp only [List.length_map] at gl
        have hltc : ∀ i ∈ idx, i < c.m.length := fun i hi => by simpa using (List.all_eq_true.1 hlt) i hi
        have hφl : ∀ i k : Nat, idx[k]? = some i → (idx.map fun i => (c.φ[i]?).getD none)[k]? = c.φ[i]? := fun i k hk => by
          have hil : i < c.φ.length := by rw [hg.len]; exact hltc i (List.mem_of_getElem? hk)
          simp [List.getElem?_map, hk, List.getElem?_eq_getElem hil]
        have hml : ∀ i k : Nat, idx[k]? = some i → ∃ x y : Blk, c.m[i]? = some x ∧ mem[k]? = some y ∧ x.ren (fun i => idx.idxOf? i) = some y := fun i k hk => by
          have hkl : k < mem.length := by rw [← gl]; exact (List.getElem?_eq_some_iff.1 hk).1
          obtain ⟨x, hx, hr⟩ := gget k _ (List.getElem?_eq_getElem hkl)
          have hil := hltc i (List.mem_of_getElem? hk)
          refine ⟨x, _, ?_, List.getElem?_eq_getElem hkl, hr⟩
          simp only [List.getElem?_map, hk, Option.map_some, List.getD_eq_getElem?_getD, List.getElem?_eq_getElem hil, Option.getD_some, Option.some.injEq] at hx
          rw [List.getElem?_eq_getElem hil, hx]
        have hL : ∀ i i', idx.idxOf? i = some i' → Leaf c.φ c.m (idx.map fun i => (c.φ[i]?).getD none) mem i i' := fun i i' hi => by
          have hk := idxOf_get hi
          obtain ⟨x, y, h1, h2, h3⟩ := hml i i' hk
          exact leaf_ren h1 h2 h3 (hφl i i' hk)
        obtain ⟨r1, r2⟩ := renum N ly hg (idx.map fun i => (c.φ[i]?).getD none) mem (fun i => idx.idxOf? i) (by simpa using gl) (fun i' x' hx' => by
            have hkl : i' < idx.length := by rw [gl]; exact (List.getElem?_eq_some_iff.1 hx').1
            have hk : idx[i']? = some idx[i'] := List.getElem?_eq_getElem hkl
            obtain ⟨x, y, h1, h2, h3⟩ := hml _ i' hk
            rw [h2] at hx'; cases hx'
            exact .inr ⟨_, x, get_idxOf hn hk, h1, h3, hφl _ i' hk⟩)
          (fun i j k hi hj => by
            have := (idxOf_get hi).symm.trans (idxOf_get hj)
            exact Option.some.inj this) hL
        refine ⟨⟨c.H, idx.map fun i => (c.φ[i]?).getD none, mem, c.w⟩, rfl, rfl, r1, FRep.map N ly (f := V.ren fun i => idx.idxOf? i) hf rfl hfr (fun x y v hxy hv => VRep.ren N ly (HM.le_refl _) hL x y v hxy hv), r2, fun e0 he hE => ⟨hE.hle, fun i => ?_⟩⟩
        obtain ⟨l, hl⟩ := gcIdx_is hidx
        by_cases hi : i < n0
        · have hk : idx[i]? = some i := by rw [hl, List.getElem?_append_left (by simpa using hi)]; simp [hi]
          exact (hE.leaf i).trans (hL i i (get_idxOf hn hk))
        · have hnone : e0.m[i]? = none := List.getElem?_eq_none (by omega)
          refine ⟨fun h => ?_, fun n k v h => ?_⟩
          · rcases h with ⟨cs, h⟩ | h <;> rw [hnone] at h <;> cases h
          · rcases h with h | ⟨c, h, _⟩ <;> rw [hnone] at h <;> cases h
      · cases h
    · cases h
  · cases h

end Go.Am

/- Regions. -/


namespace Go.Am
open Go

variable (N : Nm) (pr : Program)
variable {σ : Type}

def mGuard (ops : Array Oper) : Option (Nat × Bool) → Option (Nat × Bool) → Bool
  | none, none => true
  | some (d, w), some (j, w') => w == w' && (ops[j]?).bind (·.dst) == some d
  | _, _ => false

def mAO (ops : Array Oper) (x : AO) (o : Oper) : Bool := mAnyOp N pr x.op o.op && x.dst == o.dst && mGuard ops x.guard o.guard

def mAOs (ops : Array Oper) : List AO → List Oper → Bool
  | [], [] => true
  | x :: r, o :: l => mAO N pr ops x o && mAOs ops r l
  | _, _ => false

def mAfter : Nat → List AO → List Oper → Bool
  | _, [], [] => true
  | i, x :: r, o :: l => x.after.all (fun j => o.after.any fun e => Region.binds .any e && e.on == j) && o.after.all (fun e => !Region.binds .any e || e.on < i) && mAfter (i + 1) r l
  | _, _, _ => false

def mReg (r : Reg) (ops : Array Oper) (draw : Bool) : Bool :=
  r.draw == draw && mAOs N pr ops r.ops ops.toList && (!draw || mAfter 0 r.ops ops.toList)

theorem wants_ok {ly : Option Nat} {ops : Array Oper} {x : AO} {o : Oper} (hm : mGuard ops x.guard o.guard = true) {c : Cfg} {fr : Fr} {tmps : Array Value} (hf : FRep N ly c fr tmps) {b : Bool} (h : wants fr x.guard = some b) :
    Region.wanted o (yielded ops tmps) = b := by
  unfold Region.wanted
  unfold mGuard at hm
  split at hm
  · rename_i e1 e2
    rw [e1] at h
    simp only [wants, Option.some.injEq] at h
    rw [e2]; exact h
  · rename_i d w j w' e1 e2
    simp only [Bool.and_eq_true, beq_iff_eq] at hm
    obtain ⟨rfl, hd⟩ := hm
    rw [e1] at h
    simp only [wants] at h
    rw [e2]
    show (yielded ops tmps j == some w) = b
    unfold yielded
    rw [hd]
    simp only [Option.bind_some]
    have hget : ∀ y : V, fr.get d = y → y ≠ .unk → VRep N ly c.H c.φ c.m y (tmps.getD d undef) := fun y hy hne => by rw [← hy]; exact hf.2 d
    have hu : tmps[d]? = some (tmps.getD d undef) ∨ tmps.getD d undef = undef ∧ tmps[d]? = none := by
      rw [Array.getD_eq_getD_getElem?]
      cases tmps[d]? with
      | none => exact .inr ⟨rfl, rfl⟩
      | some v => exact .inl rfl
    split at h
    · rename_i bb hbb
      have hr := hget _ hbb (by simp)
      simp only [VRep, Rep] at hr
      rcases hu with hu | ⟨hu, _⟩
      · rw [hu, hr]
        simp only [Option.some.injEq] at h
        rw [← h]; rfl
      · rw [hu] at hr; cases hr
    · rename_i u hnb hbb
      have hr := hget _ hbb (by simp)
      simp only [VRep, Rep] at hr
      simp only [Option.some.injEq] at h
      subst h
      rcases hu with hu | ⟨_, hu⟩
      · rw [hu, hr]
        cases u <;> first | rfl | exact absurd rfl (hnb _)
      · rw [hu]; rfl
    · cases h
  · cases hm

theorem Sim.kept {y : Yl σ} (hS : y.Stable) {O0 : Nat → Prop} {c0 e0 : Cfg} {kp : List (Nat × Obj)} {st st' : St} {s : σ} {a : Act} {w : World} (h : Sim N y O0 c0 e0 kp st s a w)
    (k : ∀ c : Cfg, Good N y.l c → c.m = st.mem → FRep N y.l c st.fr a.tmps → Kept N y.l a.tmps c st'.fr st'.mem) : Sim N y O0 c0 e0 kp st' s a w := by
  obtain ⟨hpn, dm, h1, h2, c, D, hx⟩ := h
  obtain ⟨c', e1, e2, e3, e4, e5, e6⟩ := k c hx.good hx.hm hx.frep
  have := hx.own N hS (a' := a) e2 e3 e4 e5 e6
  rw [e1, hx.hw] at this
  exact ⟨hpn, dm, h1, h2, c', D, this⟩

/-- No pinned slot is written. -/
def free (pins : List (Nat × Value)) (xs : List AO) : Prop := ∀ x ∈ xs, ∀ p ∈ pins, x.dst ≠ some p.1

theorem op_step {E : Env} (hE : SoundEnv N pr E) {y : Yl σ} (hS : y.Stable) {Y : List P → σ → Option (Bool × σ)} (hY : y.Ok N pr Y) (ro : Option Nat) {O0 : Nat → Prop} {c0 e0 : Cfg} {kp : List (Nat × Obj)} {st st' : St} {s s' : σ} {a : Act} {w : World} {ops : Array Oper} {x : AO} {o : Oper} {base : Nat}
    (hm : mAO N pr ops x o = true) (hp : ∀ p ∈ y.pins, x.dst ≠ some p.1) (hs : step1 E Y base x st s = some (st', s')) (h : Sim N y O0 c0 e0 kp st s a w) {K : Act → World → Prop} {Q : Exit → Act → World → Prop}
    (hK : ∀ a' w', Sim N y O0 c0 e0 kp st' s' a' w' → K a' w') :
    if Region.wanted o (yielded ops a.tmps) = true then o.wpIn (fc ro) 0 pr a w K Q else (∀ f, o.about pr w a.eval = some f → (fc ro).fn f) ∧ K (a.put o.dst undef) w := by
  simp only [mAO, Bool.and_eq_true, beq_iff_eq] at hm
  obtain ⟨⟨hm1, hm2⟩, hm3⟩ := hm
  have hf : ∃ c, FRep N y.l c st.fr a.tmps := by obtain ⟨_, dm, h1, h2, c, D, hx⟩ := h; exact ⟨c, hx.frep⟩
  obtain ⟨c, hf⟩ := hf
  cases hw : wants st.fr x.guard with
  | none => simp [step1, hw] at hs
  | some b =>
    rw [wants_ok N hm3 hf hw]
    cases b with
    | true => simp only [if_true]; exact op_wp N pr hE hS hY ro hm1 hm2 hp hw hs h hK
    | false =>
      simp only [Bool.false_eq_true, if_false]
      simp only [step1, hw, Option.some.injEq, Prod.mk.injEq] at hs
      obtain ⟨rfl, rfl⟩ := hs
      refine ⟨fun _ _ => trivial, hK _ _ ?_⟩
      obtain ⟨hpn, dm, h1, h2, c, D, hx⟩ := h
      have hw := hx.hw; subst hw
      refine ⟨put_pins hpn (hm2 ▸ hp), dm, (Act.put_defers' _ _ _).trans h1, h2, c, D, hx.own N hS hx.hm hx.good (hm2 ▸ FRep.put N y.l hx.frep x.dst ?_) (Trans.refl c) Ext.refl⟩
      simp only [undefV, undefP, VRep, Rep]; rfl

theorem runOps_ok {E : Env} (hE : SoundEnv N pr E) {y : Yl σ} (hS : y.Stable) {Y : List P → σ → Option (Bool × σ)} (hY : y.Ok N pr Y) (ro : Option Nat) {O0 : Nat → Prop} {c0 e0 : Cfg} {kp : List (Nat × Obj)} {ops : Array Oper} {base : Nat} {Q : Exit → Act → World → Prop} {st' : St} {s' : σ} {more : List Oper}
    (hQ : ∀ a' w', Sim N y O0 c0 e0 kp st' s' a' w' → wpListIn (fc ro) 0 pr ops Q more a' w') : ∀ (xs : List AO) (os : List Oper) (st : St) (s : σ) (a : Act) (w : World), mAOs N pr ops xs os = true → free y.pins xs → runOps E Y base xs st s = some (st', s') → Sim N y O0 c0 e0 kp st s a w →
      wpListIn (fc ro) 0 pr ops Q (os ++ more) a w
  | [], [], st, s, a, w, _, _, hr, h => by
    simp only [runOps, Option.some.injEq, Prod.mk.injEq] at hr
    obtain ⟨rfl, rfl⟩ := hr
    exact hQ a w h
  | [], _ :: _, _, _, _, _, hm, _, _, _ => by simp [mAOs] at hm
  | _ :: _, [], _, _, _, _, hm, _, _, _ => by simp [mAOs] at hm
  | x :: r, o :: l, st, s, a, w, hm, hp, hr, h => by
    simp only [mAOs, Bool.and_eq_true] at hm
    simp only [runOps] at hr
    split at hr
    · rename_i st1 s1 hs
      have := op_step N pr hE hS hY ro (K := wpListIn (fc ro) 0 pr ops Q (l ++ more)) (Q := Q) hm.1 (hp x (by simp)) hs h fun a' w' h' => runOps_ok hE hS hY ro hQ r l st1 s1 a' w' hm.2 (fun z hz => hp z (by simp [hz])) hr h'
      simp only [List.cons_append, wpListIn]
      exact this
    · cases hr

/-! ### Orders that are open -/

def Cl (xs : List AO) (L : Nat → Prop) : Prop := ∀ j x, xs[j]? = some x → L j → ∀ k ∈ x.after, L k

def Bef (xs : List AO) (x y : Nat × AO × Foot) : Prop := (∀ L : Nat → Prop, Cl xs L → (∀ k ∈ y.2.1.after, L k) → L x.1) ∨ x.2.2.clash y.2.2 = false

theorem runD_T {E : Env} {base : Nat} {xs : List AO} {st' : St} : ∀ (r : List AO) (i : Nat) (st : St) (done : List (Nat × Foot)) (ups : List (List Nat)), (∀ j x, r[j]? = some x → xs[i + j]? = some x) → ups.length = i →
    (∀ (L : Nat → Prop), Cl xs L → ∀ j, L j → ∀ k ∈ ups.getD j [], L k) → runD E base i r st done ups = some st' →
    ∃ T : List (Nat × AO × Foot), RunT E base st T st' ∧ T.map (·.1) = List.range' i r.length ∧ (∀ t ∈ T, xs[t.1]? = some t.2.1) ∧ T.Pairwise (Bef xs) ∧ ∀ d ∈ done, ∀ t ∈ T, ∀ o, Bef xs (d.1, o, d.2) t
  | [], i, st, done, ups, _, _, _, h => by
    simp only [runD, Option.some.injEq] at h; subst h
    exact ⟨[], .nil st, rfl, by simp, .nil, by simp⟩
  | o :: r, i, st, done, ups, hxs, hl, hu, h => by
    simp only [runD] at h
    split at h
    · rename_i st1 f hst
      split at h
      · rename_i hc
        have hup : ∀ (L : Nat → Prop), Cl xs L → (∀ k ∈ o.after, L k) → ∀ k ∈ o.after ++ o.after.flatMap (fun j => ups.getD j []), L k := fun L hL ha k hk => by
          rcases List.mem_append.1 hk with h | h
          · exact ha k h
          · obtain ⟨j, hj, hk⟩ := List.mem_flatMap.1 h
            exact hu L hL j (ha j hj) k hk
        have ho : xs[i]? = some o := by simpa using hxs 0 o rfl
        obtain ⟨T, t1, t2, t3, t4, t5⟩ := runD_T r (i + 1) st1 ((i, f) :: done) (ups ++ [o.after ++ o.after.flatMap fun j => ups.getD j []]) (fun j x hj => by
            have := hxs (j + 1) x (by simpa using hj)
            rwa [show i + (j + 1) = i + 1 + j by omega] at this) (by simp [hl]) (fun L hL j hj k hk => by
            rcases Nat.lt_trichotomy j ups.length with hlt | heq | hgt
            · rw [List.getD_eq_getElem?_getD, List.getElem?_append_left hlt, ← List.getD_eq_getElem?_getD] at hk
              exact hu L hL j hj k hk
            · rw [List.getD_eq_getElem?_getD, List.getElem?_append_right (by omega), heq] at hk
              simp only [Nat.sub_self, List.getElem?_cons_zero, Option.getD_some] at hk
              exact hup L hL (hL j o (by rw [heq, hl]; exact ho) hj) k hk
            · rw [List.getD_eq_getElem?_getD, List.getElem?_eq_none (by simp; omega)] at hk
              simp at hk) h
        have hdone : ∀ d ∈ done, ∀ o', Bef xs (d.1, o', d.2) (i, o, f) := fun d hd o' => by
          have := (List.all_eq_true.1 hc) d hd
          simp only [Bool.or_eq_true, Bool.not_eq_true'] at this
          rcases this with h | h
          · exact .inl fun L hL ha => hup L hL ha d.1 (by simpa using h)
          · exact .inr h
        refine ⟨(i, o, f) :: T, .cons hst t1, by simp [t2, List.range'_succ], fun t ht => ?_, ?_, fun d hd t ht o' => ?_⟩
        · rcases List.mem_cons.1 ht with rfl | ht
          · exact ho
          · exact t3 t ht
        · exact List.pairwise_cons.2 ⟨fun t ht => t5 (i, f) (by simp) t ht o, t4⟩
        · rcases List.mem_cons.1 ht with rfl | ht
          · exact hdone d hd o'
          · exact t5 d (by simp [hd]) t ht o'
      · cases h
    · cases h

theorem stepD_step1 {E : Env} {base : Nat} {o : AO} {st st' : St} {f : Foot} (Y : List P → σ → Option (Bool × σ)) (s : σ) (h : stepD E base o st = some (st', f)) : step1 E Y base o st s = some (st', s) := by
  unfold stepD at h
  simp only at h
  split at h
  · rename_i hw
    split at h
    · rename_i r hr
      split at h
      · rename_i hc
        simp only [Option.some.injEq, Prod.mk.injEq] at h
        obtain ⟨rfl, rfl⟩ := h
        simp only [Bool.and_eq_true, List.isEmpty_iff] at hc
        unfold step1
        simp only [hw, hr, hc.1, List.append_nil]
        split
        · rename_i g args hop
          split
          · rename_i hy
            rw [hop] at hr
            simp [exec1, hy, callee, RM.run] at hr
          · rfl
        · rfl
      · cases h
    · cases h
  · rename_i hw
    simp only [Option.some.injEq, Prod.mk.injEq] at h
    obtain ⟨rfl, rfl⟩ := h
    unfold step1
    simp only [hw]
  · cases h

theorem mAOs_get {ops : Array Oper} : ∀ {xs : List AO} {os : List Oper}, mAOs N pr ops xs os = true → xs.length = os.length ∧ ∀ (j : Nat) (x : AO) (o : Oper), xs[j]? = some x → os[j]? = some o → mAO N pr ops x o = true
  | [], [], _ => ⟨rfl, fun j x o h _ => by simp at h⟩
  | [], _ :: _, h => by simp [mAOs] at h
  | _ :: _, [], h => by simp [mAOs] at h
  | x :: r, o :: l, h => by
    simp only [mAOs, Bool.and_eq_true] at h
    obtain ⟨h1, h2⟩ := mAOs_get h.2
    refine ⟨by simp [h1], fun j y p hy hp => ?_⟩
    cases j with
    | zero => simp at hy hp; subst hy hp; exact h.1
    | succ j => exact h2 j y p (by simpa using hy) (by simpa using hp)

theorem mAfter_get : ∀ {xs : List AO} {os : List Oper} {i : Nat}, mAfter i xs os = true → ∀ (j : Nat) (x : AO) (o : Oper), xs[j]? = some x → os[j]? = some o →
    (∀ k ∈ x.after, ∃ e ∈ o.after, Region.binds .any e = true ∧ e.on = k) ∧ ∀ e ∈ o.after, Region.binds .any e = true → e.on < i + j
  | [], [], _, _ => fun j x o h _ => by simp at h
  | [], _ :: _, _, h => by simp [mAfter] at h
  | _ :: _, [], _, h => by simp [mAfter] at h
  | x :: r, o :: l, i, h => by
    simp only [mAfter, Bool.and_eq_true] at h
    obtain ⟨⟨h1, h2⟩, h3⟩ := h
    intro j y p hy hp
    cases j with
    | zero =>
      simp at hy hp; subst hy hp
      refine ⟨fun k hk => ?_, fun e he hb => ?_⟩
      · have := (List.all_eq_true.1 h1) k hk
        simp only [Array.any_eq_true, Bool.and_eq_true, beq_iff_eq] at this
        obtain ⟨q, hq, a, b⟩ := this
        exact ⟨_, Array.getElem_mem hq, a, b⟩
      · rw [Array.all_eq_true_iff_forall_mem] at h2
        have := h2 e he
        simp only [hb, Bool.not_true, Bool.false_or, decide_eq_true_eq] at this
        simpa using this
    | succ j =>
      obtain ⟨a, b⟩ := mAfter_get h3 j y p (by simpa using hy) (by simpa using hp)
      exact ⟨a, fun e he hb => by have := b e he hb; omega⟩

theorem draw_ok {E : Env} (hE : SoundEnv N pr E) {y : Yl σ} (hS : y.Stable) {Y : List P → σ → Option (Bool × σ)} (hY : y.Ok N pr Y) (ro : Option Nat) {O0 : Nat → Prop} {c0 e0 : Cfg} {kp : List (Nat × Obj)} {ops : Array Oper} {base : Nat} {Q : Exit → Act → World → Prop} {st' : St} {s : σ} {xs : List AO}
    (hQ : ∀ a' w', Sim N y O0 c0 e0 kp st' s a' w' → Q .normal a' w') (hm : mAOs N pr ops xs ops.toList = true) (hfree : free y.pins xs) (ha : mAfter 0 xs ops.toList = true) :
    ∀ (fuel : Nat) (listed : Array Bool) (T : List (Nat × AO × Foot)) (st : St) (a : Act) (w : World), listed.size = ops.size → Sim N y O0 c0 e0 kp st s a w → RunT E base st T st' → T.Pairwise (Bef xs) → (∀ t ∈ T, xs[t.1]? = some t.2.1) → (T.map (·.1)).Pairwise (· < ·) →
      (∀ i, i < ops.size → (listed.getD i true = false ↔ ∃ t ∈ T, t.1 = i)) → Cl xs (fun k => listed.getD k false = true) → T.length ≤ fuel → wpAnyIn (fc ro) 0 pr .any ops Q fuel listed a w := by
  obtain ⟨hlen, hmg⟩ := mAOs_get N pr hm
  have hag := mAfter_get ha
  have hsz : ∀ (i : Nat) (x : AO), xs[i]? = some x → ∃ o, ops[i]? = some o ∧ ops.toList[i]? = some o := fun i x hx => by
    have hl : i < ops.size := by have := (List.getElem?_eq_some_iff.1 hx).1; simp at hlen; omega
    exact ⟨ops[i], by simp [hl], by simp [hl]⟩
  -- where nothing is ready all is done
  have hnil : ∀ (listed : Array Bool) (T : List (Nat × AO × Foot)), listed.size = ops.size → (∀ t ∈ T, xs[t.1]? = some t.2.1) → (T.map (·.1)).Pairwise (· < ·) → (∀ i, i < ops.size → (listed.getD i true = false ↔ ∃ t ∈ T, t.1 = i)) →
      Region.ready .any ops listed = [] → T = [] := fun listed T hls hx hp hi hr => by
    cases T with
    | nil => rfl
    | cons t T =>
      exfalso
      obtain ⟨o, ho, ho'⟩ := hsz t.1 t.2.1 (hx t (by simp))
      have hlt : t.1 < ops.size := (Array.getElem?_eq_some_iff.1 ho).1
      have : t.1 ∈ Region.ready .any ops listed := mem_ready.2 ⟨(hi t.1 hlt).2 ⟨t, by simp, rfl⟩, o, ho, fun e he hb => by
        have hel := (hag t.1 t.2.1 o (hx t (by simp)) ho').2 e he hb
        have hel' : e.on < ops.size := by omega
        by_cases hd : listed.getD e.on true = false
        · obtain ⟨u, hu, hue⟩ := (hi e.on hel').1 hd
          rcases List.mem_cons.1 hu with rfl | hu
          · omega
          · simp only [List.map_cons, List.pairwise_cons] at hp
            have := hp.1 u.1 (List.mem_map_of_mem hu)
            omega
        · have hel2 : e.on < listed.size := by omega
          simp only [Array.getD, hel2, dif_pos] at hd ⊢
          simpa using hd⟩
      rw [hr] at this; cases this
  intro fuel
  induction fuel with
  | zero =>
    intro listed T st a w hls h hT hP hx hp hi hcl hf
    have hTn : T = [] := List.eq_nil_of_length_eq_zero (by omega)
    subst hTn
    cases hT
    refine ⟨?_, hQ _ _ h⟩
    cases hr : Region.ready .any ops listed with
    | nil => rfl
    | cons j l =>
      exfalso
      have hj : j ∈ Region.ready .any ops listed := by rw [hr]; simp
      obtain ⟨h1, o, ho, _⟩ := mem_ready.1 hj
      obtain ⟨t, ht, _⟩ := (hi j (Array.getElem?_eq_some_iff.1 ho).1).1 h1
      cases ht
  | succ fuel ih =>
    intro listed T st a w hls h hT hP hx hp hi hcl hf
    refine ⟨fun hr => ?_, fun i hir => ?_⟩
    · have := hnil listed T hls hx hp hi hr
      subst this
      cases hT
      exact hQ _ _ h
    · obtain ⟨h1, o, ho, hedge⟩ := mem_ready.1 hir
      have hlt : i < ops.size := (Array.getElem?_eq_some_iff.1 ho).1
      obtain ⟨⟨i', x, f⟩, ht, hti⟩ := (hi i hlt).1 h1
      simp only at hti
      subst hti
      obtain ⟨T1, T2, rfl⟩ := List.append_of_mem ht
      have hxi : xs[i']? = some x := hx _ ht
      have ho' : ops.toList[i']? = some o := by simpa using ho
      have hcalm : ∀ t ∈ T1, t.2.2.clash f = false := fun t ht1 => by
        have hb : Bef xs t (i', x, f) := (List.pairwise_append.1 hP).2.2 t ht1 (i', x, f) (by simp)
        rcases hb with hb | hb
        · exfalso
          have hL := hb (fun k => listed.getD k false = true) hcl fun k hk => by
            obtain ⟨e, he, hbd, rfl⟩ := (hag i' x o hxi ho').1 k hk
            exact hedge e he hbd
          obtain ⟨ot, hot, _⟩ := hsz t.1 t.2.1 (hx t (by simp [ht1]))
          have htl : t.1 < ops.size := (Array.getElem?_eq_some_iff.1 hot).1
          have hun := (hi t.1 htl).2 ⟨t, by simp [ht1], rfl⟩
          have htl' : t.1 < listed.size := by omega
          simp only [Array.getD, htl', dif_pos] at hun hL
          rw [hun] at hL; cases hL
        · exact hb
      obtain ⟨st1, g1, g2⟩ := hT.front hcalm
      have hstep := op_step N pr hE hS hY ro (K := wpAnyIn (fc ro) 0 pr .any ops Q fuel (listed.setIfInBounds i' true)) (Q := Q) (hmg i' x o hxi ho') (hfree x (List.mem_of_getElem? hxi)) (stepD_step1 Y s g1) h fun a' w' h' => by
        have hpp : ((T1 ++ T2).map (·.1)).Pairwise (· < ·) := by
          refine List.Pairwise.sublist ?_ hp
          simp only [List.map_append, List.map_cons]
          exact List.Sublist.append_left (List.sublist_cons_self _ _) _
        have hne : ∀ t ∈ T1 ++ T2, t.1 ≠ i' := fun t ht' e => by
          simp only [List.map_append, List.map_cons, List.pairwise_append, List.pairwise_cons] at hp
          rcases List.mem_append.1 ht' with k | k
          · have := hp.2.2 t.1 (List.mem_map_of_mem k) i' (by simp); omega
          · have := hp.2.1.1 t.1 (List.mem_map_of_mem k); omega
        refine ih (listed.setIfInBounds i' true) (T1 ++ T2) st1 a' w' (by simp [hls]) h' g2 (List.Pairwise.sublist (List.Sublist.append_left (List.sublist_cons_self _ _) _) hP) (fun t ht' => hx t ?_) hpp (fun k hk => ?_) ?_ ?_
        · rcases List.mem_append.1 ht' with k | k <;> simp [k]
        · by_cases hki : k = i'
          · subst hki
            have : (listed.setIfInBounds k true).getD k true = true := by
              simp only [Array.getD]; split <;> simp
            rw [this]
            exact ⟨fun e => absurd e (by simp), fun ⟨t, h1, h2⟩ => absurd h2 (hne t h1)⟩
          · rw [getD_set_ne true (Ne.symm hki), hi k hk]
            constructor
            · rintro ⟨t, h1, h2⟩
              rcases List.mem_append.1 h1 with k1 | k1
              · exact ⟨t, by simp [k1], h2⟩
              · rcases List.mem_cons.1 k1 with rfl | k1
                · exact absurd h2.symm hki
                · exact ⟨t, by simp [k1], h2⟩
            · rintro ⟨t, h1, h2⟩
              rcases List.mem_append.1 h1 with k1 | k1
              · exact ⟨t, by simp [k1], h2⟩
              · exact ⟨t, by simp [k1], h2⟩
        · intro j z hz hj k hk
          by_cases hki : k = i'
          · subst hki
            have hkl : k < listed.size := by omega
            simp [Array.getD, hkl]
          · rw [getD_set_ne false (Ne.symm hki)]
            by_cases hji : j = i'
            · subst hji
              rw [hxi] at hz; cases hz
              obtain ⟨e, he, hbd, rfl⟩ := (hag j x o hxi ho').1 k hk
              exact hedge e he hbd
            · rw [getD_set_ne false (Ne.symm hji)] at hj
              exact hcl j z hz hj k hk
        · simp only [List.length_append, List.length_cons] at hf ⊢; omega
      unfold wpOpIn
      rw [ho]
      exact hstep

theorem reg_ok (hmix : pr.follows .mixedOrders = true) {E : Env} (hE : SoundEnv N pr E) {y : Yl σ} (hS : y.Stable) {Y : List P → σ → Option (Bool × σ)} (hY : y.Ok N pr Y) (ro : Option Nat) {O0 : Nat → Prop} {c0 e0 : Cfg} {kp : List (Nat × Obj)} {id : Nat} {ops : Array Oper} {draw : Bool} {r : Reg} {Q : Exit → Act → World → Prop} {st st' : St} {s s' : σ} {a : Act} {w : World}
    (hm : mReg N pr r ops draw = true) (hfree : free y.pins r.ops) (hr : runReg E Y r st s = some (st', s')) (h : Sim N y O0 c0 e0 kp st s a w) (hQ : ∀ a' w', Sim N y O0 c0 e0 kp st' s' a' w' → Q .normal a' w') : (Code.region id ops draw).wpIn (fc ro) 0 pr Q a w := by
  simp only [mReg, Bool.and_eq_true, beq_iff_eq, Bool.or_eq_true, Bool.not_eq_true'] at hm
  obtain ⟨⟨rfl, hm⟩, hma⟩ := hm
  unfold runReg at hr
  split at hr
  · rename_i st1 hfz
    simp only at hr
    have h1 : Sim N y O0 c0 e0 kp st1 s a w := h.kept N hS fun c hg hm hf => freezeSlots_ok N y.l hg hm hf hfz
    have h2 : Sim N y O0 c0 e0 kp ⟨st1.fr, st1.mem ++ List.replicate r.na .hole⟩ s a w := h1.kept N hS fun c hg hm hf => hm ▸ holes_ok N y.l hg hf r.na
    obtain ⟨st2, s2, hr, rfl, rfl⟩ : ∃ (st2 : St) (s2 : σ), (if r.draw then (runD E st1.mem.length 0 r.ops ⟨st1.fr, st1.mem ++ List.replicate r.na .hole⟩ [] []).map fun st => (st, s) else runOps E Y st1.mem.length r.ops ⟨st1.fr, st1.mem ++ List.replicate r.na .hole⟩ s) = some (st2, s2) ∧ st' = ⟨st2.fr.drop r.kill, st2.mem⟩ ∧ s' = s2 := by
      split at hr
      · rename_i st2 s2 h
        simp only [Option.some.injEq, Prod.mk.injEq] at hr
        exact ⟨st2, s2, h, hr.1.symm, hr.2.symm⟩
      · cases hr
    have hQ : ∀ a' w', Sim N y O0 c0 e0 kp st2 s' a' w' → Q .normal a' w' := fun a' w' h' => hQ a' w' (h'.kept N hS fun c hg hm hf => hm ▸ Kept.refl N y.l hg (drop_ok N y.l hf r.kill))
    cases hd : r.draw with
    | false =>
      simp only [hd, Bool.false_eq_true, if_false] at hr
      exact wpIn_region_list (by have := runOps_ok N pr hE hS hY ro (more := []) (Q := Q) (ops := ops) (fun a' w' h' => hQ a' w' h') r.ops ops.toList _ s a w hm hfree hr h2; rwa [List.append_nil] at this)
    | true =>
      simp only [hd, if_true, Option.map_eq_some_iff] at hr
      obtain ⟨st3, hrun, e⟩ := hr
      simp only [Prod.mk.injEq] at e
      obtain ⟨rfl, rfl⟩ := e
      have hma' : mAfter 0 r.ops ops.toList = true := by
        rcases hma with h | h
        · rw [hd] at h; cases h
        · exact h
      obtain ⟨hlen, _⟩ := mAOs_get N pr hm
      refine wpIn_region_any hmix ?_
      have h3 : Sim N y O0 c0 e0 kp ⟨st1.fr, st1.mem ++ List.replicate r.na .hole⟩ s a { w with drawn := w.drawn + 1 } := by
        obtain ⟨hpn, dm, p1, p2, c, D, hx⟩ := h2
        obtain ⟨q1, q2⟩ := same_heap N y.l hx.good { w with drawn := w.drawn + 1 } (by rw [hx.hw]) (by rw [hx.hw]) (by rw [hx.hw]) (by rw [hx.hw])
        exact ⟨hpn, dm, p1, p2, _, D, hx.own N hS (a' := a) (c' := ⟨c.H, c.φ, c.m, { w with drawn := w.drawn + 1 }⟩) hx.hm q1 hx.frep q2 Ext.refl⟩
      obtain ⟨T, t1, t2, t3, t4, _⟩ := runD_T (xs := r.ops) r.ops 0 _ [] [] (fun j x hj => by simpa using hj) rfl (fun L hL j hj k hk => by simp at hk) hrun
      have hl : T.length = ops.size := by
        have := congrArg List.length t2
        simp at this hlen; omega
      refine draw_ok N pr hE hS hY ro hQ hm hfree hma' ops.size (Array.replicate ops.size false) T _ a _ (by simp) h3 t1 t4 t3 ?_ (fun i hi => ?_) ?_ (by omega)
      · rw [t2]; exact List.pairwise_lt_range'
      · have : (Array.replicate ops.size false).getD i true = false := by simp [Array.getD, hi]
        rw [this]
        refine ⟨fun _ => ?_, fun _ => rfl⟩
        have hmem : i ∈ T.map (·.1) := by rw [t2, List.mem_range'_1]; simp at hlen; omega
        obtain ⟨t, ht, e⟩ := List.mem_map.1 hmem
        exact ⟨t, ht, e⟩
      · intro j x hx hj
        have hj' : (Array.replicate ops.size false).getD j false = false := by simp [Array.getD]
        rw [hj'] at hj; cases hj
  · cases hr

end Go.Am

/- A range over a function: its record, and what lies beside. -/



namespace Go.Am
open Go

variable (N : Nm) (pr : Program)
variable {σ : Type}

theorem good_world {ly : Option Nat} {c : Cfg} (hg : Good N ly c) {H' : HM} {w' : World} (hle : c.H.le H') (hF : FrzOk H' w') (hO : ∀ R, Owned c R → w'.heap[R]? = c.w.heap[R]? ∧ ∀ o, c.H R o = none → H' R o = none) :
    Good N ly ⟨H', c.φ, c.m, w'⟩ := by
  have hEx : Ext c.H c.φ c.m H' c.φ c.m := ⟨hle, fun i => ⟨fun h => ⟨h, rfl⟩, fun _ _ _ h => h⟩⟩
  refine ⟨hg.len, hF, fun i z hz => ?_, hg.inj⟩
  have hb := hg.blk i z hz
  by_cases hlv : Live c.m i
  · exact hb.keep N ly (c' := ⟨H', c.φ, c.m, w'⟩) hEx rfl fun R s hR => hO R ⟨i, s, hlv, hR⟩
  · cases z with
    | cells cs => exact absurd (.inl ⟨cs, hz⟩) hlv
    | tok n q => exact absurd (.inr ⟨n, q, hz⟩) hlv
    | dead => trivial
    | hole => trivial

theorem frz_same {H : HM} {w w' : World} (h : FrzOk H w) (hs : ∀ (b : Nat) (o : Obj), w.heap[b]? = some o → o.isCells = true → w'.heap[b]? = some o) : FrzOk H w' := fun b o v hv => by
  obtain ⟨h1, h2⟩ := h b o v hv
  obtain ⟨q, hq, hc⟩ := cells_of_cell h1
  exact ⟨(World.cell?_of_block ((hs b q hq hc : w'.heap[b]? = some q).trans (hq : w.heap[b]? = some q).symm)).trans h1, h2⟩

theorem frz_put {H : HM} {w : World} (h : FrzOk H w) {l : Nat} {o o' : Obj} (hl : w.heap[l]? = some o) (ho : o.isCells = false) : FrzOk H (w.putObj l o') :=
  frz_same h fun b q hq hc => by
    have hne : b ≠ l := fun e => by subst e; rw [hl] at hq; cases hq; rw [ho] at hc; cases hc
    rw [World.putObj_heap_other hne]; exact hq

theorem frozen_not {w : World} {a : Addr} {o : Obj} (hw : w.heap[a.block]? = some o) (h : o.isCells = false) : w.frozen? a = false := by
  unfold World.frozen?; rw [hw]
  cases o <;> first | rfl | (simp [Obj.isCells] at h)

theorem frozen_put {w : World} {l : Nat} {o q : Obj} (hl : w.heap[l]? = some q) (ho : o.isCells = false) (hq : q.isCells = false) (a : Addr) : (w.putObj l o).frozen? a = w.frozen? a := by
  by_cases hb : a.block = l
  · subst hb
    rw [frozen_not hl hq, frozen_not (World.putObj_heap_same (Array.getElem?_eq_some_iff.1 hl).1) ho]
  · exact World.frozen?_of_block (World.putObj_heap_other hb)

theorem frozen_alloc {w : World} {o : Obj} (ho : o.isCells = false) (a : Addr) : (w.alloc o).frozen? a = w.frozen? a := by
  by_cases hb : a.block = w.heap.size
  · have h1 : (w.alloc o).heap[a.block]? = some o := by rw [hb]; exact World.alloc_heap_new w o
    rw [frozen_not h1 ho]
    unfold World.frozen?; rw [hb, Array.getElem?_eq_none (Nat.le_refl _)]
  · refine World.frozen?_of_block ?_
    show (w.heap.push o)[a.block]? = _
    rw [Array.getElem?_push, if_neg hb]

theorem Tr.put {O O' : Nat → Prop} {H H' : HM} {w w' : World} (h : Tr O H w O' H' w') {l : Nat} (hl : O l ∨ w.heap.size ≤ l) {q o : Obj} (hw : w'.heap[l]? = some q) (hq : q.isCells = false) (ho : o.isCells = false) : Tr O H w O' H' (w'.putObj l o) :=
  ⟨fun a => (frozen_put hw ho hq a).trans (h.fz a), h.os, h.tape, h.output, by simpa using h.size, h.hle, fun b hb hn => by
    have hne : b ≠ l := fun e => by
      subst e
      rcases hl with hl | hl
      · exact hn hl
      · omega
    rw [World.putObj_heap_other hne]; exact h.frame b hb hn, h.own, h.hnew⟩

theorem owned_same {c : Cfg} {H' : HM} {w' : World} {R : Nat} : Owned ⟨H', c.φ, c.m, w'⟩ R ↔ Owned c R := Iff.rfl

/-- The loop's record is turned. -/
theorem SimX.put {y : Yl σ} (hS : y.Stable) {O0 : Nat → Prop} {c0 e0 : Cfg} {kp kp' : List (Nat × Obj)} {st : St} {s : σ} {a a' : Act} {w : World} {c : Cfg} {D : Nat → Prop} (h : SimX N y O0 c0 e0 kp st s a w c D) (ha : a'.tmps = a.tmps) {l : Nat} {o o' : Obj}
    (hl : w.heap[l]? = some o) (ho : o.isCells = false) (ho' : o'.isCells = false) (h1 : ¬ Owned c l) (h2 : ¬ D l) (hO : O0 l ∨ c0.w.heap.size ≤ l) (hk : ∀ p ∈ kp', (p ∈ kp ∧ p.1 ≠ l) ∨ p = (l, o')) :
    SimX N y O0 c0 e0 kp' st s a' (w.putObj l o') ⟨c.H, c.φ, c.m, w.putObj l o'⟩ D := by
  have hw := h.hw; subst hw
  have hlt : l < c.w.heap.size := (Array.getElem?_eq_some_iff.1 hl).1
  have hF : FrzOk c.H (c.w.putObj l o') := frz_put h.good.frz hl ho
  have hne : ∀ b, (Owned c b ∨ D b) → b ≠ l := fun b hb e => by subst e; exact hb.elim h1 h2
  refine ⟨rfl, h.hm, good_world N h.good (HM.le_refl _) hF fun R hR => ⟨World.putObj_heap_other (hne R (.inl hR)), fun _ h => h⟩, ?_, ?_, fun b hb => ⟨by simpa using (h.dis b hb).1, (h.dis b hb).2⟩, fun p hp => ?_, h.tr.put hO hl ho ho', h.ext⟩
  · rw [ha]; exact h.frep
  · exact hS s D c.H c.w c.H _ h.rel hF (by simp) (HM.le_refl _) fun b hb => ⟨World.putObj_heap_other (hne b (.inr hb)), fun _ h => h⟩
  · rcases hk p hp with ⟨hp, hpl⟩ | rfl
    · obtain ⟨q1, q2, q3⟩ := h.marks p hp
      exact ⟨(World.putObj_heap_other hpl).trans q1, q2, q3⟩
    · exact ⟨World.putObj_heap_same hlt, h1, h2⟩

theorem SimX.alloc {y : Yl σ} (hS : y.Stable) {O0 : Nat → Prop} {c0 e0 : Cfg} {kp : List (Nat × Obj)} {st : St} {s : σ} {a a' : Act} {w : World} {c : Cfg} {D : Nat → Prop} (h : SimX N y O0 c0 e0 kp st s a w c D) (ha : a'.tmps = a.tmps) {o : Obj} (ho : o.isCells = false) :
    SimX N y O0 c0 e0 ((w.heap.size, o) :: kp) st s a' (w.alloc o) ⟨c.H, c.φ, c.m, w.alloc o⟩ D := by
  have hw := h.hw; subst hw
  have hlow : ∀ b, b < c.w.heap.size → (c.w.alloc o).heap[b]? = c.w.heap[b]? := fun b hb => by show (c.w.heap.push o)[b]? = _; rw [Array.getElem?_push, if_neg (by omega)]
  have hF : FrzOk c.H (c.w.alloc o) := frz_same h.good.frz fun b q hq _ => (hlow b (Array.getElem?_eq_some_iff.1 hq).1).trans hq
  have hG : Good N y.l ⟨c.H, c.φ, c.m, c.w.alloc o⟩ := good_world N h.good (HM.le_refl _) hF fun R hR => ⟨hlow R (h.good.owned_lt N y.l hR), fun _ h => h⟩
  have hT : Trans c ⟨c.H, c.φ, c.m, c.w.alloc o⟩ := ⟨frozen_alloc ho, rfl, rfl, rfl, (by show _ ≤ (c.w.heap.push o).size; rw [Array.size_push]; omega), HM.le_refl _, fun b hb _ => hlow b hb, fun b hb => .inl hb, fun _ _ _ h => .inl h⟩
  have := h.own N hS (a' := a') (c' := ⟨c.H, c.φ, c.m, c.w.alloc o⟩) h.hm hG (ha ▸ h.frep) hT Ext.refl
  refine { this with marks := fun p hp => ?_ }
  rcases List.mem_cons.1 hp with rfl | hp
  · refine ⟨World.alloc_heap_new c.w o, fun ho => ?_, fun hd => ?_⟩
    · have := h.good.owned_lt N y.l (show Owned c c.w.heap.size from ho); omega
    · have := (h.dis _ hd).1; omega
  · exact this.marks p hp

theorem SimX.fewer {y : Yl σ} {O0 : Nat → Prop} {c0 e0 : Cfg} {kp kp' : List (Nat × Obj)} {st : St} {s : σ} {a : Act} {w : World} {c : Cfg} {D : Nat → Prop} (h : SimX N y O0 c0 e0 kp st s a w c D) (hk : ∀ p ∈ kp', p ∈ kp) : SimX N y O0 c0 e0 kp' st s a w c D :=
  { h with marks := fun p hp => h.marks p (hk p hp) }

theorem run_enterLoop_inner (fn : FuncId) (tmps : Array Value) (ps : Array Tmp) (assign body : Code) {w : World} {l0 : Nat} {r0 : Loop} (h : w.heap[l0]? = some (.loop r0)) :
    (Instr.enterLoop fn tmps ps assign body (some l0)).run pr w =
      .ok (w.heap.size, []) (w.alloc (.loop { state := .ready, pending := none, fn, tmps, params := ps, assign, body, defers := r0.defers })) := by
  unfold Instr.enterLoop
  simp only [Sem.run_bind, run_getLoop h, run_newObj_alloc, Result.andThen, Sem.run_pure]

/-! ### The side that the rounds work on -/

def codeOf : Ex → Option Code
  | .normal => none
  | .ret => some .ret
  | .exit id => some (.exit id)
  | .pan _ _ => none

def recOf (fn : FuncId) (tmps : Array Value) (ps : Array Tmp) (assign body : Code) (dfr : Nat) (ex : Ex) : Loop :=
  { state := if ex = .normal then .ready else .done, pending := codeOf ex, fn, tmps, params := ps, assign, body, defers := dfr }

def rangeRel (y : Yl σ) (l : Nat) (rec : Ex → Loop) (e1 : Cfg) (g : Rg σ) (D' : Nat → Prop) (H : HM) (w : World) : Prop :=
  ∃ (c : Cfg) (D : Nat → Prop), (∀ b, D' b ↔ (Owned c b ∨ D b ∨ b = l)) ∧ c.H = H ∧ c.w = w ∧ c.m = g.mem ∧ Good N y.l c ∧ y.rel g.s D H w ∧ (∀ b, D b → b < w.heap.size ∧ ¬ Owned c b) ∧
    w.heap[l]? = some (.loop (rec g.out)) ∧ ¬ Owned c l ∧ ¬ D l ∧ Ext e1.H e1.φ e1.m H c.φ c.m

def rangeYl (y : Yl σ) (l : Nat) (rec : Ex → Loop) (e1 : Cfg) : Yl (Rg σ) := { l := some l, rel := rangeRel N y l rec e1 }

theorem rangeYl_stable {y : Yl σ} (hS : y.Stable) (l : Nat) (rec : Ex → Loop) (e1 : Cfg) : (rangeYl N y l rec e1).Stable := by
  rintro g D' H w H' w' ⟨c, D, h1, rfl, rfl, h4, h5, h6, h7, h8, h9, h10, h11⟩ hF hsz hle hk
  refine ⟨⟨H', c.φ, c.m, w'⟩, D, h1, rfl, rfl, h4, good_world N h5 hle hF fun R hR => hk R ((h1 R).2 (.inl hR)), ?_, fun b hb => ⟨by have := (h7 b hb).1; omega, (h7 b hb).2⟩, ?_, h9, h10, ⟨HM.le_trans h11.hle hle, h11.leaf⟩⟩
  · exact hS g.s D c.H c.w H' w' h6 hF hsz hle fun b hb => hk b ((h1 b).2 (.inr (.inl hb)))
  · rw [(hk l ((h1 l).2 (.inr (.inr rfl)))).1]; exact h8

end Go.Am

/- Code. -/

namespace Go.Am
open Go

variable (N : Nm) (pr : Program)

/-- A region whose last operation stands apart. -/
def mReg1 (r : Reg) (ops : Array Oper) (p : Oper → Bool) : Bool := !r.draw && r.kill.isEmpty && (match ops.toList.getLast? with
  | some o => mAOs N pr ops r.ops ops.toList.dropLast && o.guard.isNone && p o
  | none => false)

/-- A region in parts. -/
def mSegs (ops : Array Oper) (last : Reg) : List Seg → List Oper → Bool
  | [], os => !last.draw && mAOs N pr ops last.ops os
  | g :: l, os => !g.r.draw && mAOs N pr ops g.r.ops (os.take g.r.ops.length) && (match os.drop g.r.ops.length with
    | o :: rest => o.guard.isNone && o.dst == g.d && mCall N g.f g.args o.op && mSegs ops last l rest
    | [] => false)

def mCode : AC → Code → Bool
  | .skip, .skip => true
  | .reg r, .region _ ops draw => mReg N pr r ops draw
  | .seq a b, .seq x y => mCode a x && mCode b y
  | .cond c a b, .cond o x y => mOpd N c o && (mCode a x && mCode b y)
  | .block i a, .block j x => i == j && mCode a x
  | .loop _ _ a, .loop x => mCode a x
  | .range f ps _ a b, .rangeFunc g ps' x y => mOpd N f g && ps == ps'.toList && (mCode a x && mCode b y)
  | .exit i, .exit j => i == j
  | .ret, .ret => true
  | .tryc segs last, .region _ ops draw => !draw && mSegs N pr ops last segs ops.toList
  | .pani r x, .region _ ops draw => !draw && mReg1 N pr r ops fun o => match o.op with
    | .call ⟨.builtin .panic, args, _⟩ => (match args.toList with | [y] => mOpd N x y | _ => false)
    | .panic y => mOpd N x y
    | _ => false
  | _, _ => false

def exOf : Ex → Exit
  | .normal => .normal
  | .exit id => .exit id
  | .ret => .ret
  | .pan t xs => .panic (chainOf N t xs)

/-- Is a slot written? -/
def AC.writes (i : Nat) : AC → Bool
  | .reg r => r.ops.any fun x => x.dst == some i
  | .seq a b => a.writes i || b.writes i
  | .cond _ a b => a.writes i || b.writes i
  | .block _ a => a.writes i
  | .loop _ _ a => a.writes i
  | .tryc segs last => (segs.any fun g => (g.r.ops.any fun x => x.dst == some i) || g.d == some i) || last.ops.any fun x => x.dst == some i
  | .pani r _ => r.ops.any fun x => x.dst == some i
  | _ => false
def AC.free (pins : List (Nat × Value)) (a : AC) : Prop := ∀ p ∈ pins, a.writes p.1 = false
theorem AC.free_nil (a : AC) : a.free [] := fun p hp => by cases hp
theorem free_reg {pins : List (Nat × Value)} {ops : List AO} (h : ∀ p ∈ pins, (ops.any fun x => x.dst == some p.1) = false) : Am.free pins ops := fun x hx p hp he => by
  have := List.any_eq_false.1 (h p hp) x hx
  simp [he] at this

theorem live_killed {m : List Blk} : ∀ (idx : List Nat) {j : Nat}, Live (applyUps m (idx.map fun i => (i, Blk.dead))) j → Live m j ∧ j ∉ idx
  | [], _, h => ⟨h, by simp⟩
  | i :: r, j, h => by
    simp only [List.map_cons, applyUps] at h
    obtain ⟨h1, h2⟩ := live_killed r h
    by_cases hj : j = i
    · subst hj
      exfalso
      rcases h1 with ⟨cs, h1⟩ | ⟨n, q, h1⟩ <;> rw [List.getElem?_set] at h1 <;> simp at h1
    · exact ⟨live_set h1 hj, by simp [hj, h2]⟩

theorem VReps.ofReps {ly : Option Nat} {H : HM} {φ : FM} {m : List Blk} {ps : List P} {vs : List Value} (h : Reps N H ps vs) : VReps N ly H φ m (ps.map V.p) vs :=
  VReps.of N ly (by simp [Reps.length N h]) fun j p u hp hu => by
    simp only [List.getElem?_map, Option.map_eq_some_iff] at hp
    obtain ⟨q, hq, rfl⟩ := hp
    obtain ⟨u', k1, k2⟩ := Reps.get N h j q hq
    rw [k1] at hu; cases hu
    simpa only [VRep] using k2

theorem setMany_rep {ly : Option Nat} {c : Cfg} : ∀ (is : List Nat) (xs : List V) (vs : List Value) (fr : Fr) (t : Array Value), FRep N ly c fr t → VReps N ly c.H c.φ c.m xs vs →
    FRep N ly c (setMany fr is xs) ((is.zip vs).foldl (fun tm (p : Nat × Value) => tm.setIfInBounds p.1 p.2) t)
  | [], xs, vs, fr, t, hf, _ => by simpa [setMany] using hf
  | i :: r, [], vs, fr, t, hf, h => by
    simp only [VReps] at h; subst h
    simpa [setMany] using hf
  | i :: r, x :: s, vs, fr, t, hf, h => by
    simp only [VReps] at h
    obtain ⟨v, q, rfl, h1, h2⟩ := h
    simp only [setMany, List.zip_cons_cons, List.foldl_cons]
    exact setMany_rep r s q _ _ (FRep.put N ly (a := ⟨t, []⟩) hf (some i) h1) h2

theorem Tr.also {O O' : Nat → Prop} {H H' : HM} {w w' : World} (h : Tr O H w O' H' w') {l : Nat} (hl : O l ∨ w.heap.size ≤ l) : Tr O H w (fun b => O' b ∨ b = l) H' w' :=
  ⟨h.fz, h.os, h.tape, h.output, h.size, h.hle, h.frame, fun b hb => by
    rcases hb with hb | rfl
    · exact h.own b hb
    · exact hl, h.hnew⟩

theorem call_fn {f : FuncId} {fn : Func} (hf : pr.funcs[f]? = some fn) (hn : (fn.name == "runtime.NumGoroutine") = false) (hb : fn.body.isNone = false) (args : Array Value) (w : World) : (callFunc f args).run pr w = .ok (.enter f args) w := by
  have hn' : ¬ fn.name = "runtime.NumGoroutine" := by simpa using hn
  have hb' : ¬ fn.body = none := fun h => by simp [h] at hb
  simp [callFunc, hf, hn', hb']

/-- What is shown of a piece of code. -/
def CodeOk (E : Env) (k : Nat) (ac : AC) (code : Code) : Prop :=
  ∀ (σ : Type) (y : Yl σ), y.Stable → ∀ (Y : List P → σ → Option (Bool × σ)), y.Ok N pr Y → ∀ (ro : Option Nat) (O0 : Nat → Prop) (c0 e0 : Cfg) (kp : List (Nat × Obj)) (n0 : Nat) (st : St) (s : σ) (a : Act) (w : World) (ex : Ex) (st' : St) (s' : σ) (Q : Exit → Act → World → Prop),
    ac.free y.pins → e0.m.length ≤ n0 → (∀ l, ro = some l → ∃ rec, (l, Obj.loop rec) ∈ kp) → runC E Y n0 k ac st s = some (ex, st', s') → Sim N y O0 c0 e0 kp st s a w →
    (∀ a' w', Sim N y O0 c0 e0 kp st' s' a' w' → Q (exOf N ex) a' w') → code.wpIn (fc ro) 0 pr Q a w

theorem loop_ok {E : Env} {k : Nat} {ac : AC} {code : Code} (ih : CodeOk N pr E k ac code) {σ : Type} {y : Yl σ} (hS : y.Stable) {Y : List P → σ → Option (Bool × σ)} (hY : y.Ok N pr Y) (ro : Option Nat) {O0 : Nat → Prop} {c0 e0 : Cfg} {kp : List (Nat × Obj)} {n0 : Nat} (hfr : ac.free y.pins) (hn : e0.m.length ≤ n0) (hro : ∀ l, ro = some l → ∃ rec, (l, Obj.loop rec) ∈ kp)
    (keep lift : List Nat) {ex : Ex} {st' : St} {s' : σ} {Q : Exit → Act → World → Prop} (hQ : ∀ a' w', Sim N y O0 c0 e0 kp st' s' a' w' → Q (exOf N ex) a' w') :
    ∀ (j : Nat) (st : St) (s : σ) (a : Act) (w : World), loopN (fun st => gc n0 (liftAll lift ⟨keepOnly keep st.fr, st.mem⟩)) (fun st s => runC E Y n0 k ac st s) j st s = some (ex, st', s') → Sim N y O0 c0 e0 kp st s a w → Code.roundsIn (fc ro) 0 pr code Q j a w
  | 0, st, s, a, w, h, _ => by simp [loopN] at h
  | j + 1, st, s, a, w, h, hs => by
    simp only [loopN] at h
    split at h
    · rename_i st1 hgc
      have h1 : Sim N y O0 c0 e0 kp st1 s a w := by
        have ha : Sim N y O0 c0 e0 kp ⟨keepOnly keep st.fr, st.mem⟩ s a w := hs.kept N hS fun c hg hm hf => hm ▸ Kept.refl N y.l hg (keepOnly_ok N y.l hf keep)
        have hb := ha.kept N hS (st' := liftAll lift ⟨keepOnly keep st.fr, st.mem⟩) fun c hg hm hf => liftAll_ok N y.l lift hg hm hf
        obtain ⟨hpn, dm, p1, p2, c, D, hx⟩ := hb
        obtain ⟨c', e1, e2, e3, e4, e5, e6⟩ := gc_ok N y.l hx.good hx.hm hx.frep hgc
        have := hx.step N hS (a' := a) e2 e3 e4 e5 (e6 e0 hn hx.ext)
        rw [e1, hx.hw] at this
        exact ⟨hpn, dm, p1, p2, c', D, this⟩
      rw [roundsIn_succ]
      cases hb : runC E Y n0 k ac st1 s with
      | none => rw [hb] at h; simp at h
      | some r =>
        obtain ⟨ex1, st2, s2⟩ := r
        rw [hb] at h
        cases ex1 with
        | normal => exact ih σ y hS Y hY ro O0 c0 e0 kp n0 st1 s a w .normal st2 s2 _ hfr hn hro hb h1 fun a' w' h' => loop_ok ih hS hY ro hfr hn hro keep lift hQ j st2 s2 a' w' h h'
        | exit id =>
          simp only [Option.some.injEq, Prod.mk.injEq] at h
          obtain ⟨rfl, rfl, rfl⟩ := h
          exact ih σ y hS Y hY ro O0 c0 e0 kp n0 st1 s a w (.exit id) st2 s2 _ hfr hn hro hb h1 hQ
        | ret =>
          simp only [Option.some.injEq, Prod.mk.injEq] at h
          obtain ⟨rfl, rfl, rfl⟩ := h
          exact ih σ y hS Y hY ro O0 c0 e0 kp n0 st1 s a w .ret st2 s2 _ hfr hn hro hb h1 hQ
        | pan t xs =>
          simp only [Option.some.injEq, Prod.mk.injEq] at h
          obtain ⟨rfl, rfl, rfl⟩ := h
          exact ih σ y hS Y hY ro O0 c0 e0 kp n0 st1 s a w (.pan t xs) st2 s2 _ hfr hn hro hb h1 hQ
    · cases h

end Go.Am

/- A range over a function. -/

namespace Go.Am
open Go

variable (N : Nm) (pr : Program)

/-- One round, as the machine runs it. -/
def roundY (E : Env) {σ : Type} (Y : List P → σ → Option (Bool × σ)) (k n0 : Nat) (fr : Fr) (params : List Nat) (assign body : AC) : List P → Rg σ → Option (Bool × Rg σ) := fun ps g =>
  if g.out = .normal ∧ ps.length = params.length then
    match runC E Y n0 k assign ⟨setMany fr params (ps.map V.p), g.mem⟩ g.s with
    | some (.normal, st1, s1) => match runC E Y n0 k body st1 s1 with
      | some (ex, st2, s2) => if ex.isPan then none else match gc n0 ⟨⟨0, []⟩, st2.mem⟩ with
        | some st3 => some (ex == .normal, ⟨st3.mem, ex, s2⟩)
        | none => none
      | none => none
    | _ => none
  else none

theorem fc_inRound (ro : Option Nat) (l : Nat) : (fc ro).inRound l = fc (some l) := rfl

theorem obj_ne {w : World} {r l : Nat} {d : Option (List Deferred)} {rec : Loop} (h : w.heap[r]? = some (.deferred d)) (k : w.heap[l]? = some (.loop rec)) : r ≠ l := fun e => by subst e; rw [h] at k; cases k

theorem round_ok {E : Env} {k : Nat} {assign body : AC} {ca cb : Code} (iha : CodeOk N pr E k assign ca) (ihb : CodeOk N pr E k body cb) {σ : Type} {y : Yl σ} (hS : y.Stable) {Y : List P → σ → Option (Bool × σ)} (hY : y.Ok N pr Y)
    {l fnid dfr : Nat} {tmps : Array Value} {ps : Array Tmp} {e1 : Cfg} {fr : Fr} (hfr : FRep N y.l e1 fr tmps) :
    (rangeYl N y l (recOf fnid tmps ps ca cb dfr) e1).Ok N pr (roundY E Y k e1.m.length fr ps.toList assign body) := by
  rintro ps' g b g' hY' l' hl' D' H w vals ⟨c, D, i1, rfl, rfl, i4, i5, i6, i7, i8, i9, i10, i11⟩ hF hbd hreps
  have hll : l = l' := by simpa [rangeYl] using hl'
  subst hll
  unfold roundY at hY'
  split at hY'
  · rename_i hg
    obtain ⟨hout, hlen⟩ := hg
    split at hY'
    · rename_i st1 s1 hra
      split at hY'
      · rename_i ex st2 s2 hrb
        split at hY'
        · cases hY'
        rename_i hnpan
        split at hY'
        · rename_i st3 hgc
          simp only [Option.some.injEq, Prod.mk.injEq] at hY'
          obtain ⟨rfl, rfl⟩ := hY'
          rw [hout] at i8
          refine ⟨fnid, _, ca, cb, run_yield (r := recOf fnid tmps ps ca cb dfr .normal) i8 (by have := Reps.length N hreps; simp at hlen; simp [recOf]; omega), ?_⟩
          refine roundIn_of_wpIn (F := fc none) trivial ?_
          rw [fc_inRound]
          have hfr2 : FRep N y.l c fr tmps := hfr.ext N y.l i11
          have hzip : ((recOf fnid tmps ps ca cb dfr .normal).params.zip vals.toArray).foldl (fun tmps (t, a) => tmps.setIfInBounds t a) (recOf fnid tmps ps ca cb dfr .normal).tmps = (ps.toList.zip vals).foldl (fun tm (p : Nat × Value) => tm.setIfInBounds p.1 p.2) tmps := by
            rw [← Array.foldl_toList, Array.toList_zip]; rfl
          rw [hzip]
          have hD' : D' l := (i1 l).2 (.inr (.inr rfl))
          refine iha σ y.bare hS Y hY (some l) D' c e1 [(l, .loop (recOf fnid tmps ps ca cb dfr .normal))] e1.m.length _ g.s _ c.w .normal st1 s1 _ (AC.free_nil _) (Nat.le_refl _) (fun l' h' => by cases h'; exact ⟨_, List.mem_cons_self ..⟩) hra ?_ ?_
          · refine ⟨(fun p hp => by cases hp), [], rfl, ⟨.nil, by simp⟩, c, D, ⟨rfl, i4, i5, setMany_rep N _ _ _ _ _ hfr2 (VReps.ofReps N hreps), i6, i7, fun p hp => ?_, (Tr.refl D' c.H c.w).less fun b hb => (i1 b).2 ?_, i11⟩⟩
            · simp at hp; subst hp; exact ⟨i8, i9, i10⟩
            · rcases hb with hb | hb
              · exact .inl hb
              · exact .inr (.inl hb)
          · rintro a1 w1 ⟨_, dm1, q1, q2, c1, D1, hx1⟩
            show ∃ w₂, _
            obtain ⟨m1, m2, m3⟩ := hx1.marks (l, .loop (recOf fnid tmps ps ca cb dfr .normal)) (by simp)
            refine ⟨_, run_beginRound m1 rfl, ?_⟩
            have hx2 : SimX N y.bare D' c e1 ([(l, Obj.loop { recOf fnid tmps ps ca cb dfr .normal with state := .busy })] ++ dm1.map dmOf) st1 s1 a1 (w1.putObj l (.loop { recOf fnid tmps ps ca cb dfr .normal with state := .busy })) ⟨c1.H, c1.φ, c1.m, w1.putObj l (.loop { recOf fnid tmps ps ca cb dfr .normal with state := .busy })⟩ D1 :=
              SimX.put N (y := y.bare) hS hx1 rfl m1 rfl rfl m2 m3 (.inl hD') fun p hp => by
                rcases List.mem_append.1 hp with hp | hp
                · simp at hp; exact .inr hp
                · refine .inl ⟨List.mem_append_right _ hp, ?_⟩
                  have hh := (hx1.marks p (List.mem_append_right _ hp)).1
                  obtain ⟨r, _, rfl⟩ := List.mem_map.1 hp
                  exact obj_ne hh m1
            refine ihb σ y.bare hS Y hY (some l) D' c e1 [(l, .loop { recOf fnid tmps ps ca cb dfr .normal with state := .busy })] e1.m.length st1 s1 a1 _ ex st2 s2 _ (AC.free_nil _) (Nat.le_refl _) (fun l' h' => by cases h'; exact ⟨_, List.mem_cons_self ..⟩) hrb ⟨(fun p hp => by cases hp), dm1, q1, q2, _, D1, hx2⟩ ?_
            rintro a3 w3 ⟨_, dm3, p1, p2, c3, D3, hx3⟩
            obtain ⟨n1, n2, n3⟩ := hx3.marks (l, .loop { recOf fnid tmps ps ca cb dfr .normal with state := .busy }) (by simp)
            have hend := run_endRound (P := pr) (codeOf ex) n1
            have hb : (codeOf ex).isNone = (ex == .normal) := by cases ex <;> first | rfl | exact absurd rfl hnpan
            have hrec : ({ ({ recOf fnid tmps ps ca cb dfr .normal with state := .busy } : Loop) with state := if (codeOf ex).isNone then .ready else .done, pending := codeOf ex } : Loop) = recOf fnid tmps ps ca cb dfr ex := by cases ex <;> first | rfl | exact absurd rfl hnpan
            rw [hrec, hb] at hend
            have hx4 : SimX N y.bare D' c e1 [(l, Obj.loop (recOf fnid tmps ps ca cb dfr ex))] ⟨⟨0, []⟩, st2.mem⟩ s2 ⟨#[], []⟩ (w3.putObj l (.loop (recOf fnid tmps ps ca cb dfr ex))) ⟨c3.H, c3.φ, c3.m, w3.putObj l (.loop (recOf fnid tmps ps ca cb dfr ex))⟩ D3 := by
              have := SimX.put N (y := y.bare) hS hx3 (a' := a3) (kp' := [(l, Obj.loop (recOf fnid tmps ps ca cb dfr ex))]) rfl n1 rfl rfl n2 n3 (.inl hD') (fun p hp => by simp at hp; exact .inr hp)
              exact ⟨rfl, this.hm, this.good, ⟨rfl, fun i => trivial⟩, this.rel, this.dis, this.marks, this.tr, this.ext⟩
            obtain ⟨c5, g1, g2, g3, g4, g5, g6⟩ := gc_ok N y.bare.l hx4.good hx4.hm hx4.frep hgc
            have hx5 := SimX.step N (y := y.bare) hS hx4 (a' := ⟨#[], []⟩) g2 g3 g4 g5 (g6 e1 (Nat.le_refl _) hx4.ext)
            simp only [] at g1
            rw [g1] at hx5
            obtain ⟨r1, r2, r3⟩ := hx5.marks (l, .loop (recOf fnid tmps ps ca cb dfr ex)) (by simp)
            have hR : (∃ D'' H', rangeRel N y l (recOf fnid tmps ps ca cb dfr) e1 ⟨st3.mem, ex, s2⟩ D'' H' (w3.putObj l (.loop (recOf fnid tmps ps ca cb dfr ex))) ∧ FrzOk H' (w3.putObj l (.loop (recOf fnid tmps ps ca cb dfr ex))) ∧ (∀ b, D'' b → b < (w3.putObj l (.loop (recOf fnid tmps ps ca cb dfr ex))).heap.size) ∧ Tr D' c.H c.w D'' H' (w3.putObj l (.loop (recOf fnid tmps ps ca cb dfr ex)))) := by
              refine ⟨fun b => Owned c5 b ∨ D3 b ∨ b = l, c5.H, ⟨c5, D3, fun b => Iff.rfl, rfl, g1, g2, g3, hx5.rel, hx5.dis, r1, r2, r3, hx5.ext⟩, ?_, fun b hb => ?_, ?_⟩
              · have := g3.frz; rw [g1] at this; exact this
              · rcases hb with hb | hb | rfl
                · have := g3.owned_lt N y.l hb; rw [g1] at this; exact this
                · exact (hx5.dis b hb).1
                · exact (Array.getElem?_eq_some_iff.1 r1).1
              · refine (hx5.tr.also (l := l) (.inl hD')).less fun b hb => ?_
                rcases hb with hb | hb | hb
                · exact .inl (.inl hb)
                · exact .inl (.inr hb)
                · exact .inr hb
            cases ex with
            | normal => exact ⟨_, _, hend, rfl, hR⟩
            | exit id => exact ⟨_, _, hend, rfl, hR⟩
            | ret => exact ⟨_, _, hend, rfl, hR⟩
            | pan t xs => exact absurd rfl hnpan
        · cases hY'
      · cases hY'
    · cases hY'
  · cases hY'

theorem range_ok {E : Env} (hE : SoundEnv N pr E) {k : Nat} {f : Opd} {params lift : List Nat} {assign body : AC} {g : Operand} {ps : Array Tmp} {ca cb : Code} (iha : CodeOk N pr E k assign ca) (ihb : CodeOk N pr E k body cb) (hmf : mOpd N f g = true) (hps : params = ps.toList) :
    CodeOk N pr E k (.range f params lift assign body) (.rangeFunc g ps ca cb) := by
  intro σ y hS Y hY ro O0 c0 e0 kp n0 st0 s a w ex st' s' Q hfr hn0 hro hr hs hQ
  subst hps
  simp only [runC] at hr
  have h1 : Sim N y O0 c0 e0 kp (liftAll lift st0) s a w := hs.kept N hS fun c hg hm hf => liftAll_ok N y.l lift hg hm hf
  generalize liftAll lift st0 = st at hr h1
  split at hr
  · cases hr
  · rename_i id caps hcl
    split at hr
    · cases hr
    rename_i hidlt
    have hfv : N.fv id = .func (N.num id) := N.fv_lt (by rw [Nat.blt_eq]; omega)
    split at hr
    · cases hr
    · rename_i idx bs hrm
      split at hr
      · rename_i as ms has hms
        split at hr
        · rename_i hcond
          split at hr
          · rename_i gg hit
            split at hr
            · cases hr
            rename_i hnpan
            simp only [Option.some.injEq, Prod.mk.injEq] at hr
            obtain ⟨rfl, rfl, rfl⟩ := hr
            simp only [Bool.and_eq_true] at hcond
            obtain ⟨⟨hnd, hny⟩, hby⟩ := hcond
            have hn := nd_nodup hnd
            have hb : (readAll idx).run st.mem = some bs := by
              rw [RM.run_bind] at hrm
              cases h1 : (reach 1000 (idss caps) []).run st.mem with
              | none => rw [h1] at hrm; simp at hrm
              | some i1 =>
                rw [h1] at hrm
                simp only [Option.bind_some, RM.run_bind] at hrm
                cases h2 : (readAll i1).run st.mem with
                | none => rw [h2] at hrm; simp at hrm
                | some b1 =>
                  rw [h2] at hrm
                  simp only [Option.bind_some, RM.run, Option.some.injEq, Prod.mk.injEq] at hrm
                  obtain ⟨rfl, rfl⟩ := hrm
                  exact h2
            have hit' : E.iter (Rg σ) (roundY E Y k (applyUps st.mem (idx.map fun i => (i, Blk.dead))).length st.fr ps.toList assign body) id (.yield :: as) ms ⟨applyUps st.mem (idx.map fun i => (i, Blk.dead)), .normal, s⟩ = some gg := hit
            obtain ⟨⟨fn, hf1, hf2, hf3⟩, hiter⟩ := hE.iter (Rg σ) _ id _ ms _ gg hit'
            obtain ⟨hpn, dm, hdf, hnd', c, D, hx⟩ := h1
            have hcw := hx.hw; subst hcw
            refine wpIn_rangeFunc fun fnid _ => ?_
            -- the record is laid
            have henter : ∃ (l dfr : Nat) (mark : List Deferred) (w1 : World) (dm' : List Nat), (Instr.enterLoop fnid a.tmps ps ca cb (fc ro).round).run pr c.w = .ok (l, mark) w1 ∧ mark ++ a.defers = (dm'.map fun r => { target := .collected r, args := #[] }) ++ y.base ∧ (dm'.Nodup ∧ ∀ r ∈ dm', c0.w.heap.size ≤ r) ∧
                c.w.heap.size ≤ l ∧ SimX N y O0 c0 e0 ((l, .loop (recOf fnid a.tmps ps ca cb dfr .normal)) :: (kp ++ dm'.map dmOf)) st s a w1 ⟨c.H, c.φ, c.m, w1⟩ D ∧ ∀ p ∈ kp ++ dm'.map dmOf, p.1 ≠ l := by
              have hlow : ∀ p ∈ kp ++ dm.map dmOf, p.1 < c.w.heap.size := fun p hp => (Array.getElem?_eq_some_iff.1 (hx.marks p hp).1).1
              cases hr' : ro with
              | none =>
                refine ⟨_, c.w.heap.size, _, _, c.w.heap.size :: dm, run_enterLoop_outer fnid a.tmps ps ca cb, by simp [hdf], ?_, by omega, ?_, ?_⟩
                · refine ⟨List.nodup_cons.2 ⟨fun h => ?_, hnd'.1⟩, fun r hr => ?_⟩
                  · have := hlow (dmOf c.w.heap.size) (List.mem_append_right _ (List.mem_map_of_mem h))
                    simp [dmOf] at this
                  · rcases List.mem_cons.1 hr with rfl | hr
                    · exact hx.tr.size
                    · exact hnd'.2 r hr
                · have := (hx.alloc N hS (a' := a) rfl (o := .deferred (some [])) rfl).alloc N hS (a' := a) rfl (o := .loop (recOf fnid a.tmps ps ca cb c.w.heap.size .normal)) rfl
                  rw [World.size_alloc] at this
                  refine this.fewer N fun p hp => ?_
                  rcases List.mem_cons.1 hp with rfl | hp
                  · simp
                  · rcases List.mem_append.1 hp with hp | hp
                    · simp [hp]
                    · simp only [List.map_cons, List.mem_cons] at hp
                      rcases hp with rfl | hp
                      · simp [dmOf]
                      · simp [hp]
                · intro p hp
                  rcases List.mem_append.1 hp with hp | hp
                  · have := hlow p (by simp [hp]); omega
                  · simp only [List.map_cons, List.mem_cons] at hp
                    rcases hp with rfl | hp
                    · simp [dmOf]
                    · have := hlow p (by simp only [List.mem_append]; exact .inr hp); omega
              | some l0 =>
                obtain ⟨rec0, hrec0⟩ := hro l0 hr'
                have hl0 := (hx.marks (l0, .loop rec0) (by simp [hrec0])).1
                refine ⟨_, rec0.defers, _, _, dm, run_enterLoop_inner pr fnid a.tmps ps ca cb hl0, by simp [hdf], hnd', Nat.le_refl _, hx.alloc N hS (a' := a) rfl (o := .loop (recOf fnid a.tmps ps ca cb rec0.defers .normal)) rfl, fun p hp => ?_⟩
                have := hlow p hp; omega
            obtain ⟨l, dfr, mark, w1, dm', hen, hmk, hnd1, hsz, hx1, hkl⟩ := henter
            obtain ⟨hl1, hl2, hl3⟩ := hx1.marks _ (List.mem_cons_self ..)
            simp only [] at hl1 hl2 hl3
            -- the function that is called
            obtain ⟨cs, hv, hcs⟩ := callee_rep N hcl (opd_rep N y.l hx1.frep hmf)
            rw [hfv] at hv
            refine ⟨l, mark, w1, { target := .fn (.func (N.num id)) cs.toArray, args := #[.func (.yield l) #[] #[]] }, w1, N.num id, #[.func (.yield l) #[] #[]] ++ cs.toArray, w1, hen, ?_, fun _ _ => trivial, ?_, fc_depth ro 0, ?_⟩
            · simp only [resolve, hv]
              simp [go_sem]
            · simp [invoke, go_sem, call_fn pr hf1 hf2 hf3]
            · have hg1 : Good N y.l ⟨c.H, c.φ, c.m, w1⟩ := hx1.good
              have hcm : c.m = st.mem := hx.hm
              rw [← hcm] at hb
              obtain ⟨g1, t1, hidx⟩ := sub_good N y.l hg1 hn hb hms
              obtain ⟨l1, gr1⟩ := readAll_get hb
              obtain ⟨l2, gr2⟩ := renBlks_get hms
              have hnoY : ∀ (i : Nat) (x : Blk), ms[i]? = some x → x.noY = true := fun i x hx => by
                obtain ⟨z, hz, hzr⟩ := gr2 i x hx
                have hzY := (List.all_eq_true.1 hby) z (List.mem_of_getElem? hz)
                rcases ren_blk_kind hzr with ⟨cs, cs', rfl, rfl⟩ | ⟨rfl, hnc⟩
                · simp only [Blk.noY] at hzY ⊢
                  simp only [Blk.ren, Option.map_eq_some_iff, Blk.cells.injEq] at hzr
                  obtain ⟨q, hq, rfl⟩ := hzr
                  exact noYs_ren hq hzY
                · exact hzY
              obtain ⟨k1, k2, k3⟩ := kills N y.l hg1 idx
              rw [hcm] at k1 k2 k3
              have hgI : Good N (some l) ⟨c.H, idx.map fun i => (c.φ[i]?).getD none, ms, w1⟩ := Good.anyY N y.l g1 hnoY
              have hargs : VReps N (some l) c.H (idx.map fun i => (c.φ[i]?).getD none) ms as cs :=
                VReps.ren N (some l) (HM.le_refl _) (fun i k hik => (hidx i k (idxOf_get hik)).1) caps as cs has (VReps.anyY N y.l caps cs hny hcs)
              let e1 : Cfg := ⟨c.H, c.φ, applyUps st.mem (idx.map fun i => (i, Blk.dead)), w1⟩
              have hOI : ∀ b, Owned ⟨c.H, idx.map fun i => (c.φ[i]?).getD none, ms, w1⟩ b → Owned c b ∧ ¬ Owned e1 b := fun b hb' => by
                obtain ⟨i, hi, hlv, s1, hs1⟩ := sub_owned (c := ⟨c.H, c.φ, c.m, w1⟩) hb hms hidx hb'
                refine ⟨⟨i, s1, hlv, hs1⟩, ?_⟩
                rintro ⟨j, s2, hlj, hpj⟩
                obtain ⟨q1, q2⟩ := live_killed idx hlj
                rw [← hcm] at q1
                have := hg1.inj i j b s1 s2 hlv q1 hs1 hpj
                subst this
                exact q2 hi
              have hOe : ∀ b, Owned e1 b → Owned c b := fun b hb' => by
                obtain ⟨j, s2, hlj, hpj⟩ := hb'
                obtain ⟨q1, _⟩ := live_killed idx hlj
                rw [← hcm] at q1
                exact ⟨j, s2, q1, hpj⟩
              have hcall := hiter (rangeYl N y l (recOf fnid a.tmps ps ca cb dfr) e1) (rangeYl_stable N hS l _ e1) (round_ok N pr iha ihb hS hY (hx1.frep.ext N y.l (c' := e1) (by have := k3; rw [← hcm] at this; simpa [e1, hcm] using this)))
                ⟨c.H, idx.map fun i => (c.φ[i]?).getD none, ms, w1⟩ (fun b => Owned e1 b ∨ D b ∨ b = l) (.func (.yield l) #[] #[] :: cs) hgI rfl
                (by simp only [VReps]; exact ⟨_, _, rfl, by simp only [VRep]; exact ⟨l, rfl, rfl⟩, hargs⟩)
                ⟨e1, D, fun b => Iff.rfl, rfl, rfl, rfl, k1, hx1.rel, fun b hb' => ⟨(hx1.dis b hb').1, fun ho => (hx1.dis b hb').2 (hOe b ho)⟩, hl1, fun ho => hl2 (hOe l ho), hl3, Ext.refl⟩
                (fun b hb' => by
                  rcases hb' with hb' | hb' | rfl
                  · exact ⟨hg1.owned_lt N y.l (show Owned ⟨c.H, c.φ, c.m, w1⟩ b from hOe b hb'), fun ho => (hOI b ho).2 hb'⟩
                  · exact ⟨(hx1.dis b hb').1, fun ho => (hx1.dis b hb').2 (hOI b ho).1⟩
                  · exact ⟨(Array.getElem?_eq_some_iff.1 hl1).1, fun ho => hl2 (hOI _ ho).1⟩)
              have e0' : (Value.func (.yield l) #[] #[] :: cs).toArray = #[.func (.yield l) #[] #[]] ++ cs.toArray := by simp
              rw [e0'] at hcall
              refine CallsIn.mono (F := fc ro) (n := 0 - 1) (show CallsIn (fc ro) (0 - 1) pr (N.num id) _ w1 _ from (callsIn_wide (n := 0 - 1)).2 hcall) ?_
              rintro e w' ⟨⟨v, rfl⟩, D', H', ⟨c3, D3, i1, rfl, rfl, i4, i5, i6, i7, i8, i9, i10, i11⟩, hF, hbd, hT⟩
              have hend := run_endLoop (P := pr) i8 (by unfold recOf; simp only; split <;> simp)
              refine ⟨_, _, hend, ?_⟩
              have hOD : ∀ b, (Owned ⟨c.H, idx.map fun i => (c.φ[i]?).getD none, ms, w1⟩ b ∨ Owned e1 b ∨ D b ∨ b = l) → (Owned c b ∨ D b) ∨ b = l := fun b hb' => by
                rcases hb' with h | h | h | h
                · exact .inl (.inl (hOI b h).1)
                · exact .inl (.inl (hOe b h))
                · exact .inl (.inr h)
                · exact .inr h
              have hcsz : c0.w.heap.size ≤ l := Nat.le_trans hx.tr.size hsz
              have hx3 : SimX N y O0 c0 e0 (kp ++ dm'.map dmOf) ⟨st.fr, gg.mem⟩ gg.s a c3.w c3 D3 := by
                refine ⟨rfl, i4, i5, ?_, i6, i7, fun p hp => ?_, ?_, ?_⟩
                · have h1 : FRep N y.l e1 st.fr a.tmps := hx1.frep.ext N y.l (c' := e1) (by have := k3; simpa [e1, hcm] using this)
                  exact h1.ext N y.l i11
                · obtain ⟨q1, q2, q3⟩ := hx1.marks p (List.mem_cons_of_mem _ hp)
                  have hpl := hkl p hp
                  have hplt : p.1 < w1.heap.size := (Array.getElem?_eq_some_iff.1 q1).1
                  have hno : ¬ (Owned ⟨c.H, idx.map fun i => (c.φ[i]?).getD none, ms, w1⟩ p.1 ∨ Owned e1 p.1 ∨ D p.1 ∨ p.1 = l) := fun h => by
                    rcases hOD p.1 h with (h | h) | h
                    · exact q2 h
                    · exact q3 h
                    · exact hpl h
                  have hnD : ¬ D' p.1 := fun h => by
                    rcases hT.own p.1 h with h | h
                    · exact hno h
                    · simp only [] at h; omega
                  exact ⟨(hT.frame p.1 hplt hno).trans q1, fun h => hnD ((i1 p.1).2 (.inl h)), fun h => hnD ((i1 p.1).2 (.inr (.inl h)))⟩
                · refine ((hx1.tr.also (l := l) (.inr hcsz)).trans (hT.mono hOD)).less fun b hb' => (i1 b).2 ?_
                  rcases hb' with h | h
                  · exact .inl h
                  · exact .inr (.inl h)
                · have h1 : Ext e0.H e0.φ e0.m e1.H e1.φ e1.m := hx1.ext.trans (by have := k3; simpa [e1, hcm] using this)
                  exact h1.trans i11
              have hx4 := hx3.put N hS (a' := { a with defers := mark ++ a.defers }) (kp' := kp ++ dm'.map dmOf) (o' := .loop { recOf fnid a.tmps ps ca cb dfr gg.out with state := .exhausted }) rfl i8 rfl rfl i9 i10 (.inr hcsz) fun p hp => .inl ⟨hp, hkl p hp⟩
              have hfin := hQ { a with defers := mark ++ a.defers } _ ⟨hpn, dm', hmk, hnd1, _, D3, hx4⟩
              cases hgo : gg.out with
              | normal => rw [hgo] at hfin; exact hfin
              | exit id => rw [hgo] at hfin; exact wpIn_exit hfin
              | ret => rw [hgo] at hfin; exact wpIn_ret hfin
              | pan t xs => rw [hgo] at hnpan; exact absurd rfl hnpan
          · cases hr
        · cases hr
      · cases hr

end Go.Am

/- All code. -/

namespace Go.Am
open Go

variable (N : Nm) (pr : Program)

/-- A region whose last operation stands apart. -/
theorem reg1_ok {E : Env} (hE : SoundEnv N pr E) {σ : Type} {y : Yl σ} (hS : y.Stable) {Y : List P → σ → Option (Bool × σ)} (hY : y.Ok N pr Y) (ro : Option Nat) {O0 : Nat → Prop} {c0 e0 : Cfg} {kp : List (Nat × Obj)} {id : Nat} {ops : Array Oper} {r : Reg} {p : Oper → Bool} {Q : Exit → Act → World → Prop} {st st' : St} {s s' : σ} {a : Act} {w : World}
    (hm : mReg1 N pr r ops p = true) (hfree : free y.pins r.ops) (hr : runReg E Y r st s = some (st', s')) (h : Sim N y O0 c0 e0 kp st s a w)
    (hK : ∀ (o : Oper) a' w', p o = true → Sim N y O0 c0 e0 kp st' s' a' w' → o.wpIn (fc ro) 0 pr a' w' (fun a2 w2 => Q .normal a2 w2) Q) : (Code.region id ops false).wpIn (fc ro) 0 pr Q a w := by
  simp only [mReg1, Bool.and_eq_true, Bool.not_eq_true'] at hm
  obtain ⟨⟨hd, hk⟩, hm⟩ := hm
  split at hm
  · rename_i o ho
    simp only [Bool.and_eq_true] at hm
    obtain ⟨⟨hm, hg⟩, hp⟩ := hm
    have hl : ops.toList = ops.toList.dropLast ++ [o] := by
      have hne : ops.toList ≠ [] := fun e => by rw [e] at ho; cases ho
      have := List.dropLast_concat_getLast hne
      rw [List.getLast?_eq_some_getLast hne, Option.some.injEq] at ho
      rw [← ho]; exact this.symm
    unfold runReg at hr
    split at hr
    · rename_i st1 hfz
      simp only [hd, Bool.false_eq_true, if_false] at hr
      have h1 : Sim N y O0 c0 e0 kp st1 s a w := h.kept N hS fun c hg hm hf => freezeSlots_ok N y.l hg hm hf hfz
      have h2 : Sim N y O0 c0 e0 kp ⟨st1.fr, st1.mem ++ List.replicate r.na .hole⟩ s a w := h1.kept N hS fun c hg hm hf => hm ▸ holes_ok N y.l hg hf r.na
      split at hr
      · rename_i st2 s2 hrun
        simp only [Option.some.injEq, Prod.mk.injEq] at hr
        obtain ⟨rfl, rfl⟩ := hr
        refine wpIn_region_list ?_
        rw [hl]
        refine runOps_ok N pr hE hS hY ro (more := [o]) (Q := Q) (ops := ops) (fun a' w' h' => ?_) r.ops ops.toList.dropLast _ s a w hm hfree hrun h2
        have h3 : Sim N y O0 c0 e0 kp ⟨st2.fr.drop r.kill, st2.mem⟩ s2 a' w' := h'.kept N hS fun c hg hm hf => hm ▸ Kept.refl N y.l hg (drop_ok N y.l hf r.kill)
        have := hK o a' w' hp h3
        simp only [wpListIn]
        have hw : Region.wanted o (yielded ops a'.tmps) = true := by
          unfold Region.wanted
          cases hgd : o.guard with
          | none => rfl
          | some g => rw [hgd] at hg; cases hg
        rw [if_pos hw]
        exact this
      · cases hr
    · cases hr
  · cases hm

/-- One part of a region: its operations. -/
theorem part_ok {E : Env} (hE : SoundEnv N pr E) {σ : Type} {y : Yl σ} (hS : y.Stable) {Y : List P → σ → Option (Bool × σ)} (hY : y.Ok N pr Y) (ro : Option Nat) {O0 : Nat → Prop} {c0 e0 : Cfg} {kp : List (Nat × Obj)} {ops : Array Oper} {r : Reg} {Q : Exit → Act → World → Prop} {st st' : St} {s s' : σ} {a : Act} {w : World} {os more : List Oper}
    (hd : r.draw = false) (hm : mAOs N pr ops r.ops os = true) (hfree : free y.pins r.ops) (hr : runReg E Y r st s = some (st', s')) (h : Sim N y O0 c0 e0 kp st s a w)
    (hK : ∀ a' w', Sim N y O0 c0 e0 kp st' s' a' w' → wpListIn (fc ro) 0 pr ops Q more a' w') : wpListIn (fc ro) 0 pr ops Q (os ++ more) a w := by
  unfold runReg at hr
  split at hr
  · rename_i st1 hfz
    simp only [hd, Bool.false_eq_true, if_false] at hr
    have h1 : Sim N y O0 c0 e0 kp st1 s a w := h.kept N hS fun c hg hm hf => freezeSlots_ok N y.l hg hm hf hfz
    have h2 : Sim N y O0 c0 e0 kp ⟨st1.fr, st1.mem ++ List.replicate r.na .hole⟩ s a w := h1.kept N hS fun c hg hm hf => hm ▸ holes_ok N y.l hg hf r.na
    split at hr
    · rename_i st2 s2 hrun
      simp only [Option.some.injEq, Prod.mk.injEq] at hr
      obtain ⟨rfl, rfl⟩ := hr
      exact runOps_ok N pr hE hS hY ro (more := more) (Q := Q) (ops := ops) (fun a' w' h' => hK a' w' (h'.kept N hS fun c hg hm hf => hm ▸ Kept.refl N y.l hg (drop_ok N y.l hf r.kill))) r.ops os _ s a w hm hfree hrun h2
    · cases hr
  · cases hr

theorem segs_ok {E : Env} (hE : SoundEnv N pr E) {σ : Type} {y : Yl σ} (hS : y.Stable) {Y : List P → σ → Option (Bool × σ)} (hY : y.Ok N pr Y) (ro : Option Nat) {O0 : Nat → Prop} {c0 e0 : Cfg} {kp : List (Nat × Obj)} {ops : Array Oper} (last : Reg) (hlast : ∀ p ∈ y.pins, (last.ops.any fun x => x.dst == some p.1) = false) {Q : Exit → Act → World → Prop} {ex : Ex} {st' : St} {s' : σ}
    (hQ : ∀ a' w', Sim N y O0 c0 e0 kp st' s' a' w' → Q (exOf N ex) a' w') : ∀ (segs : List Seg) (os : List Oper) (st : St) (s : σ) (a : Act) (w : World), mSegs N pr ops last segs os = true →
      (∀ g ∈ segs, ∀ p ∈ y.pins, (g.r.ops.any fun x => x.dst == some p.1) = false ∧ (g.d == some p.1) = false) → trySegs E Y last segs st s = some (ex, st', s') → Sim N y O0 c0 e0 kp st s a w → wpListIn (fc ro) 0 pr ops Q os a w
  | [], os, st, s, a, w, hm, _, hr, h => by
    simp only [mSegs, Bool.and_eq_true, Bool.not_eq_true'] at hm
    simp only [trySegs] at hr
    split at hr
    · rename_i st1 s1 hrun
      simp only [Option.some.injEq, Prod.mk.injEq] at hr
      obtain ⟨rfl, rfl, rfl⟩ := hr
      have := part_ok N pr hE hS hY ro (more := []) (Q := Q) hm.1 hm.2 (free_reg hlast) hrun h fun a' w' h' => hQ a' w' h'
      rwa [List.append_nil] at this
    · cases hr
  | g :: l, os, st, s, a, w, hm, hp, hr, h => by
    simp only [mSegs, Bool.and_eq_true, Bool.not_eq_true'] at hm
    obtain ⟨⟨hd, hma⟩, hm⟩ := hm
    simp only [trySegs] at hr
    split at hr
    · rename_i st1 s1 hrun
      split at hm
      · rename_i o rest ho
        simp only [Bool.and_eq_true, beq_iff_eq] at hm
        obtain ⟨⟨⟨hg, hdst⟩, hcall⟩, hrest⟩ := hm
        have hos : os = os.take g.r.ops.length ++ (o :: rest) := by rw [← ho, List.take_append_drop]
        rw [hos]
        refine part_ok N pr hE hS hY ro (more := o :: rest) (Q := Q) hd hma (free_reg fun p hp' => (hp g (by simp) p hp').1) hrun h fun a' w' h' => ?_
        simp only [wpListIn]
        have hw : Region.wanted o (yielded ops a'.tmps) = true := by
          unfold Region.wanted
          cases hgd : o.guard with
          | none => rfl
          | some g => rw [hgd] at hg; cases hg
        rw [if_pos hw]
        cases htry : tryO E g.f g.args g.d st1 s1 with
        | none => rw [htry] at hr; cases hr
        | some q =>
          obtain ⟨ex1, st2, s2⟩ := q
          rw [htry] at hr
          unfold tryO at htry
          split at htry
          · rename_i id caps hcl
            split at htry
            · cases htry
            rename_i hcap
            split at htry
            · rename_i r1 hr1
              refine callp_wp N pr hE hS ro hcall (fun p hp' he => ?_) hcl hcap hr1 h' (fun hpn v w2 h2 => ?_) fun t xs hpx w2 h2 => ?_
              · have := (hp g (by simp) p hp').2
                rw [← hdst, he] at this; simp at this
              · rw [hpn] at htry
                simp only [Option.some.injEq, Prod.mk.injEq] at htry
                obtain ⟨rfl, rfl, rfl⟩ := htry
                exact segs_ok hE hS hY ro last hlast hQ l rest _ _ _ _ hrest (fun g' hg' => hp g' (by simp [hg'])) hr (hdst ▸ h2)
              · rw [hpx] at htry
                simp only [Option.some.injEq, Prod.mk.injEq] at htry
                obtain ⟨rfl, rfl, rfl⟩ := htry
                simp only [Option.some.injEq, Prod.mk.injEq] at hr
                obtain ⟨rfl, rfl, rfl⟩ := hr
                exact hQ _ _ h2
            · cases htry
          · cases htry
      · cases hm
    · cases hr

theorem panP_val {H : HM} {t : Nat} : ∀ {ps : List P} {xs : List Int} {v : Value}, intsOf ps = some xs → VRep N none H [] [] (.p (.iface t (.agg ps))) v → v = panVal N t xs := by
  intro ps xs v hxs hv
  simp only [VRep, Rep] at hv
  obtain ⟨y, rfl, cs, rfl, hr⟩ := hv
  have : ∀ {ps : List P} {xs : List Int} {cs : List Value}, intsOf ps = some xs → Reps N H ps cs → cs = xs.map fun n => Value.int .i64 n := by
    intro ps
    induction ps with
    | nil =>
      intro xs cs h1 h2
      simp only [intsOf, Option.some.injEq] at h1; subst h1
      simp only [Reps] at h2; subst h2; rfl
    | cons p r ih =>
      intro xs cs h1 h2
      unfold intsOf at h1
      split at h1
      · rename_i heq; cases heq
      · rename_i n r' heq
        simp only [List.cons.injEq] at heq
        obtain ⟨rfl, rfl⟩ := heq
        simp only [Option.map_eq_some_iff] at h1
        obtain ⟨zs, hz, rfl⟩ := h1
        simp only [Reps, Rep] at h2
        obtain ⟨v, s, rfl, rfl, h3⟩ := h2
        rw [ih hz h3]; rfl
      · cases h1
  rw [this hxs hr]; rfl

theorem pani_wp (ro : Option Nat) {o : Oper} {y : Operand} {ts : Array TypeId} {a : Act} {w : World} (ho : o.op = .call ⟨.builtin .panic, #[y], ts⟩) {t : Nat} {xs : List Int} (hv : a.eval y = panVal N t xs) {K : Act → World → Prop} {Q : Exit → Act → World → Prop}
    (hQ : Q (.panic (chainOf N t xs)) a w) : o.wpIn (fc ro) 0 pr a w K Q := by
  refine ⟨about_any pr ro o _ _, ?_⟩
  rw [Oper.semAt_eq (fc ro).round a.eval o (fun c hc => by rw [ho] at hc; cases hc)]
  have : (execOp a.eval o).run pr w = .halt (.panic (panVal N t xs)) w := by
    simp [execOp, ho, resolve, invoke, builtin, hv, Instr.panic, panVal]
  rw [this]
  exact hQ

theorem pani_wp2 (ro : Option Nat) {o : Oper} {y : Operand} {a : Act} {w : World} (ho : o.op = .panic y) {t : Nat} {xs : List Int} (hv : a.eval y = panVal N t xs) {K : Act → World → Prop} {Q : Exit → Act → World → Prop}
    (hQ : Q (.panic (chainOf N t xs)) a w) : o.wpIn (fc ro) 0 pr a w K Q := by
  refine ⟨about_any pr ro o _ _, ?_⟩
  rw [Oper.semAt_eq (fc ro).round a.eval o (fun c hc => by rw [ho] at hc; cases hc)]
  have : (execOp a.eval o).run pr w = .halt (.panic (panVal N t xs)) w := by
    simp [execOp, ho, hv, Instr.panic, panVal]
  rw [this]
  exact hQ

theorem runC_ok (hmix : pr.follows .mixedOrders = true) {E : Env} (hE : SoundEnv N pr E) (k : Nat) : ∀ (ac : AC) (code : Code), mCode N pr ac code = true → CodeOk N pr E k ac code := by
  intro ac
  induction ac with
  | skip =>
    intro code hm
    cases code <;> simp only [mCode, Bool.false_eq_true] at hm
    intro σ y hS Y hY ro O0 c0 e0 kp n0 st s a w ex st' s' Q hfr hn0 hro hr hs hQ
    simp only [runC, Option.some.injEq, Prod.mk.injEq] at hr
    obtain ⟨rfl, rfl, rfl⟩ := hr
    exact wpIn_skip (hQ a w hs)
  | reg r =>
    intro code hm
    cases code <;> simp only [mCode, Bool.false_eq_true] at hm
    intro σ y hS Y hY ro O0 c0 e0 kp n0 st s a w ex st' s' Q hfr hn0 hro hr hs hQ
    simp only [runC] at hr
    split at hr
    · rename_i st1 s1 hreg
      simp only [Option.some.injEq, Prod.mk.injEq] at hr
      obtain ⟨rfl, rfl, rfl⟩ := hr
      exact reg_ok N pr hmix hE hS hY ro hm (free_reg fun p hp => hfr p hp) hreg hs hQ
    · cases hr
  | seq x z ihx ihz =>
    intro code hm
    cases code <;> simp only [mCode, Bool.false_eq_true, Bool.and_eq_true] at hm
    intro σ y hS Y hY ro O0 c0 e0 kp n0 st s a w ex st' s' Q hfr hn0 hro hr hs hQ
    simp only [runC] at hr
    refine wpIn_seq ?_
    cases hx : runC E Y n0 k x st s with
    | none => rw [hx] at hr; cases hr
    | some r =>
      obtain ⟨ex1, st1, s1⟩ := r
      rw [hx] at hr
      cases ex1 with
      | normal => exact ihx _ hm.1 σ y hS Y hY ro O0 c0 e0 kp n0 st s a w _ st1 s1 _ (fun p hp => (Bool.or_eq_false_iff.1 (hfr p hp)).1) hn0 hro hx hs fun a' w' h' => ihz _ hm.2 σ y hS Y hY ro O0 c0 e0 kp n0 st1 s1 a' w' _ st' s' _ (fun p hp => (Bool.or_eq_false_iff.1 (hfr p hp)).2) hn0 hro hr h' hQ
      | exit id =>
        simp only [Option.some.injEq, Prod.mk.injEq] at hr
        obtain ⟨rfl, rfl, rfl⟩ := hr
        exact ihx _ hm.1 σ y hS Y hY ro O0 c0 e0 kp n0 st s a w _ st1 s1 _ (fun p hp => (Bool.or_eq_false_iff.1 (hfr p hp)).1) hn0 hro hx hs hQ
      | ret =>
        simp only [Option.some.injEq, Prod.mk.injEq] at hr
        obtain ⟨rfl, rfl, rfl⟩ := hr
        exact ihx _ hm.1 σ y hS Y hY ro O0 c0 e0 kp n0 st s a w _ st1 s1 _ (fun p hp => (Bool.or_eq_false_iff.1 (hfr p hp)).1) hn0 hro hx hs hQ
      | pan t xs =>
        simp only [Option.some.injEq, Prod.mk.injEq] at hr
        obtain ⟨rfl, rfl, rfl⟩ := hr
        exact ihx _ hm.1 σ y hS Y hY ro O0 c0 e0 kp n0 st s a w _ st1 s1 _ (fun p hp => (Bool.or_eq_false_iff.1 (hfr p hp)).1) hn0 hro hx hs hQ
  | cond cd x z ihx ihz =>
    intro code hm
    cases code <;> simp only [mCode, Bool.false_eq_true, Bool.and_eq_true] at hm
    intro σ y hS Y hY ro O0 c0 e0 kp n0 st s a w ex st' s' Q hfr hn0 hro hr hs hQ
    simp only [runC] at hr
    have hf : ∃ c, FRep N y.l c st.fr a.tmps := by obtain ⟨_, dm, h1, h2, c, D, hx⟩ := hs; exact ⟨c, hx.frep⟩
    obtain ⟨c, hf⟩ := hf
    have hv := opd_rep N y.l hf hm.1
    split at hr
    · rename_i hcd
      rw [hcd] at hv
      simp only [VRep, Rep] at hv
      exact wpIn_cond_true hv (ihx _ hm.2.1 σ y hS Y hY ro O0 c0 e0 kp n0 st s a w ex st' s' Q (fun p hp => (Bool.or_eq_false_iff.1 (hfr p hp)).1) hn0 hro hr hs hQ)
    · rename_i hcd
      rw [hcd] at hv
      simp only [VRep, Rep] at hv
      exact wpIn_cond_false hv (ihz _ hm.2.2 σ y hS Y hY ro O0 c0 e0 kp n0 st s a w ex st' s' Q (fun p hp => (Bool.or_eq_false_iff.1 (hfr p hp)).2) hn0 hro hr hs hQ)
    · cases hr
  | block id x ihx =>
    intro code hm
    cases code <;> simp only [mCode, Bool.false_eq_true, Bool.and_eq_true, beq_iff_eq] at hm
    obtain ⟨rfl, hm⟩ := hm
    intro σ y hS Y hY ro O0 c0 e0 kp n0 st s a w ex st' s' Q hfr hn0 hro hr hs hQ
    simp only [runC] at hr
    refine wpIn_block ?_
    cases hx : runC E Y n0 k x st s with
    | none => rw [hx] at hr; cases hr
    | some r =>
      obtain ⟨ex1, st1, s1⟩ := r
      rw [hx] at hr
      cases ex1 with
      | normal =>
        simp only [Option.some.injEq, Prod.mk.injEq] at hr
        obtain ⟨rfl, rfl, rfl⟩ := hr
        exact ihx _ hm σ y hS Y hY ro O0 c0 e0 kp n0 st s a w _ st1 s1 _ hfr hn0 hro hx hs hQ
      | exit id' =>
        refine ihx _ hm σ y hS Y hY ro O0 c0 e0 kp n0 st s a w _ st1 s1 _ hfr hn0 hro hx hs fun a' w' h' => ?_
        simp only [exOf, Exit.inBlock]
        simp only at hr
        split at hr
        · rename_i e
          simp only [Option.some.injEq, Prod.mk.injEq] at hr
          obtain ⟨rfl, rfl, rfl⟩ := hr
          rw [if_pos e]; exact hQ a' w' h'
        · rename_i e
          simp only [Option.some.injEq, Prod.mk.injEq] at hr
          obtain ⟨rfl, rfl, rfl⟩ := hr
          rw [if_neg e]; exact hQ a' w' h'
      | ret =>
        simp only [Option.some.injEq, Prod.mk.injEq] at hr
        obtain ⟨rfl, rfl, rfl⟩ := hr
        exact ihx _ hm σ y hS Y hY ro O0 c0 e0 kp n0 st s a w _ st1 s1 _ hfr hn0 hro hx hs hQ
      | pan t xs =>
        simp only [Option.some.injEq, Prod.mk.injEq] at hr
        obtain ⟨rfl, rfl, rfl⟩ := hr
        exact ihx _ hm σ y hS Y hY ro O0 c0 e0 kp n0 st s a w _ st1 s1 _ hfr hn0 hro hx hs hQ
  | loop keep lift x ihx =>
    intro code hm
    cases code <;> simp only [mCode, Bool.false_eq_true] at hm
    intro σ y hS Y hY ro O0 c0 e0 kp n0 st s a w ex st' s' Q hfr hn0 hro hr hs hQ
    simp only [runC] at hr
    exact wpIn_loop_rounds k (loop_ok N pr (ihx _ hm) hS hY ro hfr hn0 hro keep lift hQ k st s a w hr hs)
  | range f params lift as b iha ihb =>
    intro code hm
    cases code <;> simp only [mCode, Bool.false_eq_true, Bool.and_eq_true, beq_iff_eq] at hm
    exact range_ok N pr hE (iha _ hm.2.1) (ihb _ hm.2.2) hm.1.1 hm.1.2
  | exit id =>
    intro code hm
    cases code <;> simp only [mCode, Bool.false_eq_true, beq_iff_eq] at hm
    subst hm
    intro σ y hS Y hY ro O0 c0 e0 kp n0 st s a w ex st' s' Q hfr hn0 hro hr hs hQ
    simp only [runC, Option.some.injEq, Prod.mk.injEq] at hr
    obtain ⟨rfl, rfl, rfl⟩ := hr
    exact wpIn_exit (hQ a w hs)
  | ret =>
    intro code hm
    cases code <;> simp only [mCode, Bool.false_eq_true] at hm
    intro σ y hS Y hY ro O0 c0 e0 kp n0 st s a w ex st' s' Q hfr hn0 hro hr hs hQ
    simp only [runC, Option.some.injEq, Prod.mk.injEq] at hr
    obtain ⟨rfl, rfl, rfl⟩ := hr
    exact wpIn_ret (hQ a w hs)
  | tryc segs last =>
    intro code hm
    cases code <;> simp only [mCode, Bool.false_eq_true, Bool.and_eq_true, Bool.not_eq_true'] at hm
    obtain ⟨rfl, hm⟩ := hm
    intro σ y hS Y hY ro O0 c0 e0 kp n0 st s a w ex st' s' Q hfr hn0 hro hr hs hQ
    simp only [runC] at hr
    refine wpIn_region_list (segs_ok N pr hE hS hY ro last (fun p hp => (Bool.or_eq_false_iff.1 (hfr p hp)).2) hQ segs _ st s a w hm (fun g hg p hp => ?_) hr hs)
    exact Bool.or_eq_false_iff.1 (Bool.eq_false_iff.2 fun h => (List.any_eq_false.1 (Bool.or_eq_false_iff.1 (hfr p hp)).1 g hg) h)
  | pani r x =>
    intro code hm
    cases code <;> simp only [mCode, Bool.false_eq_true, Bool.and_eq_true, Bool.not_eq_true'] at hm
    obtain ⟨rfl, hm⟩ := hm
    intro σ y hS Y hY ro O0 c0 e0 kp n0 st s a w ex st' s' Q hfr hn0 hro hr hs hQ
    simp only [runC] at hr
    split at hr
    · rename_i st1 s1 hreg
      refine reg1_ok N pr hE hS hY ro hm (free_reg fun p hp => hfr p hp) hreg hs fun o a' w' hp h' => ?_
      split at hp
      · rename_i args ts ho
        split at hp
        · rename_i y' hy
          have ha := arr_one hy
          subst ha
          unfold paniO at hr
          split at hr
          · rename_i t ps hx
            split at hr
            · rename_i xs hxs
              simp only [Option.some.injEq, Prod.mk.injEq] at hr
              obtain ⟨rfl, rfl, rfl⟩ := hr
              obtain ⟨c, hf⟩ : ∃ c, FRep N y.l c st1.fr a'.tmps := by obtain ⟨_, dm, h1, h2, c, D, hx⟩ := h'; exact ⟨c, hx.frep⟩
              have hv := VRep.toP N y.l _ _ _ hx (opd_rep N y.l hf hp)
              exact pani_wp N pr ro ho (panP_val N hxs hv) (hQ _ _ h')
            · cases hr
          · cases hr
        · cases hp
      · rename_i y' ho
        unfold paniO at hr
        split at hr
        · rename_i t ps hx
          split at hr
          · rename_i xs hxs
            simp only [Option.some.injEq, Prod.mk.injEq] at hr
            obtain ⟨rfl, rfl, rfl⟩ := hr
            obtain ⟨c, hf⟩ : ∃ c, FRep N y.l c st1.fr a'.tmps := by obtain ⟨_, dm, h1, h2, c, D, hx⟩ := h'; exact ⟨c, hx.frep⟩
            have hv := VRep.toP N y.l _ _ _ hx (opd_rep N y.l hf hp)
            exact pani_wp2 N pr ro ho (panP_val N hxs hv) (hQ _ _ h')
          · cases hr
        · cases hr
      · cases hp
    · cases hr
  | dfr r f x t n body ih =>
    intro code hm
    cases code <;> simp only [mCode, Bool.false_eq_true] at hm

end Go.Am

/- Functions, and the whole evaluator. -/

namespace Go.Am
open Go

variable (N : Nm) (pr : Program)

def mRes : ARes → ResultVar → Bool
  | .tmp i, .tmp t => i == t
  | .cell i n, .cell a t => i == a && kindOk pr t n
  | _, _ => false

def mRess : List ARes → List ResultVar → Bool
  | [], [] => true
  | x :: r, y :: l => mRes pr x y && mRess r l
  | _, _ => false

/-- Code at the end of a function: it may stand behind a catcher of panics. -/
def mTail : AC → Code → Bool
  | .dfr r f x t n body, .seq (.region _ ops draw) y => !draw && mReg1 N pr r ops (fun o => match o.op with
      | .defer ⟨.value (.func k), args, _⟩ => N.num f == k && o.dst.isNone && (match args.toList with | [.tmp i] => i == x | _ => false)
      | _ => false) && !(body.writes x) && N.cat f == some (t, n) && mCode N pr body y
  | .seq a b, .seq x y => mCode N pr a x && mTail b y
  | a, c => mCode N pr a c

def mFn (af : AFn) (fn : Func) : Bool :=
  af.nt == fn.ntmps && mRess pr af.res fn.results.toList && !(fn.name == "runtime.NumGoroutine") && (match fn.body with | some c => mTail N pr af.code c | none => false)

/-- A world has grown. -/
structure Grows (w w' : World) : Prop where
  fz : ∀ a, w'.frozen? a = w.frozen? a
  os : w'.os = w.os
  tape : w'.tape = w.tape
  output : w'.output = w.output
  size : w.heap.size ≤ w'.heap.size
  same : ∀ b, b < w.heap.size → w'.heap[b]? = w.heap[b]?

def intsV (n : Nat) (xs : List Int) : Value := if n = 0 then .int .i64 (xs.headD 0) else .agg (xs.map fun x => Value.int .i64 x).toArray

/-- What is asked of a catcher: it does nothing where nothing panics, and lays what it catches behind its pointer. -/
structure CatAt (id t n : Nat) : Prop where
  ent : Enters N pr id
  rest : ∀ (v : Value) (w : World), CallsDIn Fence.wide 0 pr (N.num id) #[v] .returning w fun e u' w' => (∃ r, e = .returned r) ∧ u' = .returning ∧ Grows w w'
  kind : ∃ T, kindOk pr T n = true ∧ ∀ (R off : Nat) (w w1 : World) (xs : List Int), xs.length = sz n → (Instr.storeAt T (.pointer (some ⟨R, off, none⟩)) (intsV n xs)).run pr w = .ok () w1 →
    CallsDIn Fence.wide 0 pr (N.num id) #[.pointer (some ⟨R, off, none⟩)] (.panicking (chainOf N t xs)) w fun e u' w' => (∃ r, e = .returned r) ∧ settle u' = .returning ∧ Grows w1 w'

def CatOk : Prop := ∀ id t n, N.cat id = some (t, n) → CatAt N pr id t n

def resG (tmps : Array Value) : ResultVar → Sem Value
  | .tmp t => Pure.pure (tmps.getD t undef)
  | .cell a t => do loadVar t (← asAddr (tmps.getD a undef))

theorem loadAt_var {T : Nat} {v : Value} {w : World} {u : Value} (h : (Instr.loadAt T v).run pr w = .ok u w) : (do loadVar T (← asAddr v) : Sem Value).run pr w = .ok u w := by
  cases v with
  | pointer a =>
    cases a with
    | none => simp [Instr.loadAt, Instr.sureAddr, Sem.run_bind] at h
    | some a =>
      simp only [Instr.loadAt, Instr.sureAddr, asAddr, pure_bind] at h ⊢
      exact h
  | _ => simp [Instr.loadAt, Instr.sureAddr, Sem.run_bind] at h

theorem res_ok {ly : Option Nat} {c : Cfg} (hg : Good N ly c) {st : St} (hm : c.m = st.mem) {t : Array Value} (hf : FRep N ly c st.fr t) {x : ARes} {q : ResultVar} (hx : mRes pr x q = true) {r : V} (hr : resV st x = some r) :
    ∃ u, (resG t q).run pr c.w = .ok u c.w ∧ VRep N ly c.H c.φ c.m r u := by
  cases x with
  | tmp i =>
    cases q <;> simp only [mRes, Bool.false_eq_true, beq_iff_eq] at hx
    subst hx
    simp only [resV, Option.some.injEq] at hr; subst hr
    exact ⟨_, by simp [resG], hf.2 i⟩
  | cell i n =>
    cases q <;> simp only [mRes, Bool.false_eq_true, beq_iff_eq, Bool.and_eq_true] at hx
    obtain ⟨rfl, hk⟩ := hx
    have hv := hf.2 i
    simp only [resV] at hr
    split at hr
    · rename_i b off hb
      rw [hb] at hv
      split at hr
      · rename_i cs hcs
        rw [← hm] at hcs
        obtain ⟨u, h1, h2⟩ := load_own N ly pr hg hk hv hcs (x := r) hr
        exact ⟨u, loadAt_var pr h1, h2⟩
      · cases hr
    · rename_i ps hb
      rw [hb] at hv
      simp only [VRep] at hv
      obtain ⟨u, h1, h2⟩ := load_data N ly pr hg hk hv (x := r) hr
      exact ⟨u, loadAt_var pr h1, h2⟩
    · cases hr

theorem ress_ok {ly : Option Nat} {c : Cfg} (hg : Good N ly c) {st : St} (hm : c.m = st.mem) {t : Array Value} (hf : FRep N ly c st.fr t) : ∀ {xs : List ARes} {qs : List ResultVar} {rs : List V}, mRess pr xs qs = true → resVs st xs = some rs →
    ∃ us : List Value, (qs.mapM (resG t)).run pr c.w = .ok us c.w ∧ VReps N ly c.H c.φ c.m rs us
  | [], [], rs, _, hr => by
    simp only [resVs, Option.some.injEq] at hr; subst hr
    exact ⟨[], by simp, by simp [VReps]⟩
  | [], _ :: _, _, h, _ => by simp [mRess] at h
  | _ :: _, [], _, h, _ => by simp [mRess] at h
  | x :: xs, q :: qs, rs, h, hr => by
    simp only [mRess, Bool.and_eq_true] at h
    simp only [resVs] at hr
    split at hr
    · rename_i a b ha hb
      simp only [Option.some.injEq] at hr; subst hr
      obtain ⟨u, h1, h2⟩ := res_ok N pr hg hm hf h.1 ha
      obtain ⟨us, k1, k2⟩ := ress_ok hg hm hf h.2 hb
      exact ⟨u :: us, by simp [List.mapM_cons, Sem.run_bind, h1, k1, Result.andThen], by simp only [VReps]; exact ⟨u, us, rfl, h2, k2⟩⟩
    · cases hr

theorem results_eq (fn : Func) (tmps : Array Value) : results fn tmps = (fn.results.mapM (resG tmps) >>= fun vs => Pure.pure (if h : vs.size = 1 then vs[0] else .tuple vs)) := by
  unfold results
  have : (fun x => match x with | ResultVar.tmp t => (Pure.pure (tmps.getD t undef) : Sem Value) | .cell a t => do loadVar t (← asAddr (tmps.getD a undef))) = resG tmps := by
    funext x; cases x <;> rfl
  rw [← this]
  rfl

theorem results_ok {ly : Option Nat} {c : Cfg} (hg : Good N ly c) {st : St} (hm : c.m = st.mem) {t : Array Value} (hf : FRep N ly c st.fr t) {fn : Func} {xs : List ARes} {rs : List V} (hx : mRess pr xs fn.results.toList = true) (hr : resVs st xs = some rs) :
    ∃ u, (results fn t).run pr c.w = .ok u c.w ∧ VRep N ly c.H c.φ c.m (oneOrTuple rs) u := by
  obtain ⟨us, h1, h2⟩ := ress_ok N pr hg hm hf hx hr
  rw [results_eq]
  have hmap : (fn.results.mapM (resG t)).run pr c.w = .ok us.toArray c.w := by
    rw [Array.mapM_eq_mapM_toList, ← bind_pure_comp]
    simp only [Sem.run_bind, h1, Result.andThen, Sem.run_pure]
  simp only [Sem.run_bind, hmap, Result.andThen, Sem.run_pure]
  refine ⟨_, rfl, ?_⟩
  cases rs with
  | nil =>
    simp only [VReps] at h2; subst h2
    simp only [oneOrTuple, VRep]
    exact ⟨[], rfl, by simp [VReps]⟩
  | cons x r =>
    simp only [VReps] at h2
    obtain ⟨v, s, rfl, h2, h3⟩ := h2
    cases r with
    | nil =>
      simp only [VReps] at h3; subst h3
      simpa [oneOrTuple] using h2
    | cons y r =>
      have hs : ¬ (v :: s).toArray.size = 1 := by
        have := VReps.length N ly h3
        simp at this ⊢; intro h; simp [h] at this
      simp only [oneOrTuple, VRep, dif_neg hs]
      exact ⟨v :: s, rfl, by simp only [VReps]; exact ⟨v, s, rfl, h2, h3⟩⟩

def marksOf (dm : List Nat) : List Deferred := dm.map fun r => { target := .collected r, args := #[] }

theorem leavesM_ok {σ : Type} {y : Yl σ} (hS : y.Stable) {O0 : Nat → Prop} {c0 e0 : Cfg} {kp : List (Nat × Obj)} {st : St} {s : σ} {a : Act} {fn : Func} {R : Ending → World → Prop} {D : Nat → Prop} {u : FrameMode} {more : List Deferred} (hu : u ≠ .run)
    (hkp : ∀ p ∈ kp, p.1 < c0.w.heap.size) (hQ : ∀ w' c', SimX N y O0 c0 e0 kp st s a w' c' D → LeavesInM Fence.wide 0 pr fn a.tmps R more u w') : ∀ (dm : List Nat) (w : World) (c : Cfg), dm.Nodup → (∀ r ∈ dm, c0.w.heap.size ≤ r) → SimX N y O0 c0 e0 (kp ++ dm.map dmOf) st s a w c D →
      LeavesInM Fence.wide 0 pr fn a.tmps R (marksOf dm ++ more) u w
  | [], w, c, _, _, hx => hQ w c (by simpa using hx)
  | r :: dm, w, c, hn, hl, hx => by
    obtain ⟨h1, h2, h3⟩ := hx.marks (dmOf r) (by simp)
    refine ⟨hu, .inl ⟨r, _, rfl, run_takeDeferred h1, ?_⟩⟩
    obtain ⟨hr, hn'⟩ := List.nodup_cons.1 hn
    have hlr := hl r (by simp)
    exact leavesM_ok hS hu hkp hQ dm _ _ hn' (fun x hx => hl x (by simp [hx])) (hx.put N hS (a' := a) rfl h1 rfl rfl h2 h3 (.inr hlr) fun p hp => .inl ⟨by
        rcases List.mem_append.1 hp with hp | hp
        · simp [hp]
        · simp only [List.map_cons, List.mem_append, List.mem_cons]; exact .inr (.inr hp), fun e => by
      rcases List.mem_append.1 hp with hp | hp
      · have := hkp p hp; rw [e] at this; omega
      · obtain ⟨q, hq, rfl⟩ := List.mem_map.1 hp
        simp only [dmOf] at e; subst e; exact hr hq⟩)

/-- A world that has grown beside the machine's memory. -/
theorem SimX.grow {σ : Type} {y : Yl σ} (hS : y.Stable) {O0 : Nat → Prop} {c0 e0 : Cfg} {kp : List (Nat × Obj)} {st : St} {s : σ} {a : Act} {w w' : World} {c : Cfg} {D : Nat → Prop} (h : SimX N y O0 c0 e0 kp st s a w c D) (hg : Grows w w') :
    SimX N y O0 c0 e0 kp st s a w' ⟨c.H, c.φ, c.m, w'⟩ D := by
  have hw := h.hw; subst hw
  have hF : FrzOk c.H w' := frz_same h.good.frz fun b o hb _ => by
    rw [hg.same b (Array.getElem?_eq_some_iff.1 hb).1]; exact hb
  have hgd : Good N y.l ⟨c.H, c.φ, c.m, w'⟩ := good_world N h.good (HM.le_refl _) hF fun R hR => ⟨hg.same R (h.good.owned_lt N y.l hR), fun o ho => ho⟩
  have hE : Ext c.H c.φ c.m c.H c.φ c.m := Ext.refl
  have ht : Trans c ⟨c.H, c.φ, c.m, w'⟩ := ⟨hg.fz, hg.os, hg.tape, hg.output, hg.size, HM.le_refl _, fun b hb _ => hg.same b hb, fun b hb => .inl hb, fun b o v hv => .inl hv⟩
  exact h.own N hS (a' := a) (st' := st) (c' := ⟨c.H, c.φ, c.m, w'⟩) h.hm hgd (h.frep.ext N y.l (c' := ⟨c.H, c.φ, c.m, w'⟩) hE) ht hE

theorem finish_ok {σ : Type} {y : Yl σ} (hS : y.Stable) {O0 : Nat → Prop} {c0 e0 : Cfg} {st : St} {s : σ} {a : Act} {fn : Func} {af : AFn} (hfn : mRess pr af.res fn.results.toList = true) {n0 : Nat} (hn0 : e0.m.length ≤ n0) {r : V} {m : List Blk} (hf : finish af n0 st = some (r, m)) {w : World} {c : Cfg} {D : Nat → Prop}
    (hx : SimX N y O0 c0 e0 [] st s a w c D) : ∃ v, (results fn a.tmps).run pr w = .ok v w ∧ ∃ c', ∃ fr' : Fr, fr'.get 0 = r ∧ SimX N y O0 c0 e0 [] ⟨fr', m⟩ s ⟨#[v], []⟩ w c' D := by
  have hw := hx.hw; subst hw
  unfold finish at hf
  split at hf
  · cases hf
  · rename_i vs hvs
    obtain ⟨v, h1, h2⟩ := results_ok N pr hx.good hx.hm hx.frep hfn hvs
    refine ⟨v, h1, ?_⟩
    simp only at hf
    have hF : FRep N y.l c (Fr.of 1 [oneOrTuple vs]) #[v] := by
      have := FRep.of N y.l (c := c) (xs := [oneOrTuple vs]) (vs := [v]) (by simp only [VReps]; exact ⟨v, [], rfl, h2, rfl⟩) 1 (by simp)
      simpa using this
    split at hf
    · cases hf
    · rename_i st1 hst1
      have hk : Kept N y.l #[v] c st1.fr st1.mem := by
        split at hst1
        · simp only [Option.some.injEq] at hst1; subst hst1
          exact hx.hm ▸ Kept.refl N y.l hx.good hF
        · exact freezeAll_ok N y.l _ hx.good hx.hm (st := ⟨Fr.of 1 [oneOrTuple vs], st.mem⟩) hF hst1
      obtain ⟨c1, q1, q2, q3, q4, q5, q6⟩ := hk
      split at hf
      · rename_i fr2 hfr2
        have hF2 : FRep N y.l c1 fr2 #[v] := FRep.map N y.l (f := fun x => some x.strip) q4 rfl hfr2 fun x y v hxy hv => by
          simp only [Option.some.injEq] at hxy; subst hxy; exact strip_rep N hv
        have hx1 : SimX N y O0 c0 e0 [] ⟨fr2, st1.mem⟩ s ⟨#[v], []⟩ c.w c1 D := by
          have := hx.own N hS (a' := ⟨#[v], []⟩) (st' := ⟨fr2, st1.mem⟩) q2 q3 hF2 q5 q6
          rwa [q1] at this
        split at hf
        · rename_i st2 hgc
          simp only [Option.some.injEq, Prod.mk.injEq] at hf
          obtain ⟨rfl, rfl⟩ := hf
          obtain ⟨c2, g1, g2, g3, g4, g5, g6⟩ := gc_ok N y.l hx1.good hx1.hm hx1.frep hgc
          have hx2 := hx1.step N hS (a' := ⟨#[v], []⟩) g2 g3 g4 g5 (g6 e0 hn0 hx1.ext)
          rw [g1, q1] at hx2
          exact ⟨c2, st2.fr, rfl, hx2⟩
        · cases hf
      · cases hf

/-- How a function ends. -/
def FnEnd {σ : Type} (y : Yl σ) (c : Cfg) (D : Nat → Prop) (s' : σ) (r : V) (m' : List Blk) (e : Ending) (w' : World) : Prop :=
  (∃ (c' : Cfg) (D' : Nat → Prop) (v : Value) (fr' : Fr), e = .returned v ∧ fr'.get 0 = r ∧ SimX N y (fun b => Owned c b ∨ D b) c c [] ⟨fr', m'⟩ s' ⟨#[v], []⟩ w' c' D') ∨
  (∃ (t : Nat) (xs : List Int) (c' : Cfg) (D' : Nat → Prop), r = panV t xs ∧ e = .panicked (chainOf N t xs) ∧ SimX N y (fun b => Owned c b ∨ D b) c c [] ⟨⟨0, []⟩, m'⟩ s' ⟨#[], []⟩ w' c' D')

def doneFn {σ : Type} (af : AFn) (n0 : Nat) : Ex × St × σ → Option (V × List Blk × σ)
  | (.normal, st, s') => match finish af n0 st with
    | some (v, m) => some (v, m, s')
    | none => none
  | (.ret, st, s') => match finish af n0 st with
    | some (v, m) => some (v, m, s')
    | none => none
  | (.pan t xs, st, s') => match gc n0 ⟨⟨0, []⟩, st.mem⟩ with
    | some st2 => some (panV t xs, st2.mem, s')
    | none => none
  | _ => none

theorem runFn_done {E : Env} {σ : Type} {Y : List P → σ → Option (Bool × σ)} {k : Nat} {af : AFn} {args : List V} {mem : List Blk} {s : σ} {q : V × List Blk × σ} (h : runFn E Y k af args mem s = some q) :
    args.length ≤ af.nt ∧ ∃ p, runC E Y mem.length k af.code ⟨Fr.of af.nt args, mem⟩ s = some p ∧ doneFn af mem.length p = some q := by
  unfold runFn at h
  split at h
  · cases h
  rename_i hn
  refine ⟨by omega, ?_⟩
  cases hr : runC E Y mem.length k af.code ⟨Fr.of af.nt args, mem⟩ s with
  | none => rw [hr] at h; simp at h
  | some p =>
    obtain ⟨ex, st, s'⟩ := p
    rw [hr] at h
    exact ⟨_, rfl, by cases ex <;> first | exact h | (simp at h)⟩

section
variable {σ : Type} {y : Yl σ} {c : Cfg} {D : Nat → Prop} {af : AFn} {fn : Func} {r : V} {m' : List Blk} {s' : σ}

/-- The results are read. -/
theorem end_ret (hS : y.Stable) (hres : mRess pr af.res fn.results.toList = true) {st : St} {a : Act} {w : World} {c1 : Cfg} {D1 : Nat → Prop} (hfin : finish af c.m.length st = some (r, m')) (hx : SimX N y (fun b => Owned c b ∨ D b) c c [] st s' a w c1 D1) :
    LeavesInM Fence.wide 0 pr fn a.tmps (FnEnd N y c D s' r m') [] .returning w := by
  obtain ⟨v, h1, c3, fr3, h2, h3⟩ := finish_ok N pr hS hres (Nat.le_refl _) hfin hx
  exact ⟨v, h1, .inl ⟨c3, D1, v, fr3, rfl, h2, h3⟩⟩

theorem end_pan (hS : y.Stable) {st st2 : St} {a : Act} {w : World} {c1 : Cfg} {D1 : Nat → Prop} {t : Nat} {xs : List Int} (hgc : gc c.m.length ⟨⟨0, []⟩, st.mem⟩ = some st2) (hx : SimX N y (fun b => Owned c b ∨ D b) c c [] st s' a w c1 D1) :
    LeavesInM Fence.wide 0 pr fn a.tmps (FnEnd N y c D s' (panV t xs) st2.mem) [] (.panicking (chainOf N t xs)) w := by
  have hw := hx.hw; subst hw
  have hx0 : SimX N y (fun b => Owned c b ∨ D b) c c [] ⟨⟨0, []⟩, st.mem⟩ s' ⟨#[], []⟩ c1.w c1 D1 := ⟨rfl, hx.hm, hx.good, ⟨rfl, fun i => trivial⟩, hx.rel, hx.dis, by simp, hx.tr, hx.ext⟩
  obtain ⟨c2, g1, g2, g3, g4, g5, g6⟩ := gc_ok N y.l hx0.good hx0.hm hx0.frep hgc
  have hx2 := hx0.step N hS (a' := ⟨#[], []⟩) g2 g3 g4 g5 (g6 c (Nat.le_refl _) hx0.ext)
  rw [g1] at hx2
  have hfr : st2.fr = ⟨0, []⟩ := by
    unfold gc at hgc
    split at hgc
    · split at hgc
      · rename_i fr mem hf hm
        split at hgc
        · simp only [Option.some.injEq] at hgc; subst hgc
          simp only [Fr.map?, mapF, Option.some.injEq] at hf
          exact hf.symm
        · cases hgc
      · cases hgc
    · cases hgc
  refine .inr ⟨t, xs, c2, D1, rfl, rfl, ?_⟩
  obtain ⟨fr2, m2⟩ := st2
  simp only at hfr; subst hfr
  exact hx2

/-- Where the body of a function ends. -/
theorem post_ok (hS : y.Stable) (hb : y.base = []) (hres : mRess pr af.res fn.results.toList = true) {p : Ex × St × σ} (hd : doneFn af c.m.length p = some (r, m', s')) {a : Act} {w : World} (h : Sim N y (fun b => Owned c b ∨ D b) c c [] p.2.1 p.2.2 a w) :
    bodyPostM Fence.wide 0 pr fn (FnEnd N y c D s' r m') (exOf N p.1) a w := by
  obtain ⟨ex, st, s1⟩ := p
  obtain ⟨_, dm, hdf, hnd, c1, D1, hx⟩ := h
  rw [hb, List.append_nil] at hdf
  have hgo : ∀ u : FrameMode, u ≠ .run → (∀ w' c', SimX N y (fun b => Owned c b ∨ D b) c c [] st s1 a w' c' D1 → LeavesInM Fence.wide 0 pr fn a.tmps (FnEnd N y c D s' r m') [] u w') → LeavesInM Fence.wide 0 pr fn a.tmps (FnEnd N y c D s' r m') a.defers u w := fun u hu hQ => by
    have := leavesM_ok N pr (more := []) (R := FnEnd N y c D s' r m') (fn := fn) hS hu (kp := []) (fun p hp => by cases hp) hQ dm w c1 hnd.1 hnd.2 (by simpa using hx)
    rw [List.append_nil] at this
    rw [hdf]; exact this
  cases ex with
  | normal =>
    simp only [doneFn] at hd
    split at hd
    · rename_i v m hfin
      simp only [Option.some.injEq, Prod.mk.injEq] at hd
      obtain ⟨rfl, rfl, rfl⟩ := hd
      exact hgo .returning (by simp) fun w' c' hx' => end_ret N pr hS hres hfin hx'
    · cases hd
  | ret =>
    simp only [doneFn] at hd
    split at hd
    · rename_i v m hfin
      simp only [Option.some.injEq, Prod.mk.injEq] at hd
      obtain ⟨rfl, rfl, rfl⟩ := hd
      exact hgo .returning (by simp) fun w' c' hx' => end_ret N pr hS hres hfin hx'
    · cases hd
  | pan t xs =>
    simp only [doneFn] at hd
    split at hd
    · rename_i st2 hgc
      simp only [Option.some.injEq, Prod.mk.injEq] at hd
      obtain ⟨rfl, rfl, rfl⟩ := hd
      exact hgo (.panicking (chainOf N t xs)) (by simp) fun w' c' hx' => end_pan N pr hS hgc hx'
    · cases hd
  | exit i => simp [doneFn] at hd
end

/-- A body behind a catcher. -/
theorem dfr_ok (hmix : pr.follows .mixedOrders = true) {E : Env} (hE : SoundEnv N pr E) {k : Nat} {σ : Type} {y : Yl σ} (hS : y.Stable) (hb : y.base = []) {Y : List P → σ → Option (Bool × σ)} (hY : y.Ok N pr Y)
    {c : Cfg} {D : Nat → Prop} {af : AFn} {fn : Func} {r : V} {m' : List Blk} {s' : σ} (hres : mRess pr af.res fn.results.toList = true) {f x t n T : Nat} {body : AC} {cy : Code} (hbody : mCode N pr body cy = true) (hwr : body.writes x = false) (hent : Enters N pr f)
    (hrest : ∀ (v : Value) (w : World), CallsDIn Fence.wide 0 pr (N.num f) #[v] .returning w fun e u' w' => (∃ r, e = .returned r) ∧ u' = .returning ∧ Grows w w') (hT : kindOk pr T n = true)
    (hcatch : ∀ (R off : Nat) (w w1 : World) (xs : List Int), xs.length = sz n → (Instr.storeAt T (.pointer (some ⟨R, off, none⟩)) (intsV n xs)).run pr w = .ok () w1 →
      CallsDIn Fence.wide 0 pr (N.num f) #[.pointer (some ⟨R, off, none⟩)] (.panicking (chainOf N t xs)) w fun e u' w' => (∃ r, e = .returned r) ∧ settle u' = .returning ∧ Grows w1 w')
    {st1 : St} {s1 : σ} {p : Ex × St × σ} (hr : dfrO x t n (runC E Y c.m.length k body st1 s1) = some p) (hd : doneFn af c.m.length p = some (r, m', s')) {a1 : Act} {w1 : World} (h1 : Sim N y (fun b => Owned c b ∨ D b) c c [] st1 s1 a1 w1) :
    cy.wpIn (fc none) 0 pr (bodyPostM Fence.wide 0 pr fn (FnEnd N y c D s' r m')) { a1 with defers := { target := .fn (.func (N.num f)) #[], args := #[a1.eval (.tmp x)] } :: a1.defers } w1 := by
  obtain ⟨_, dm, hdf, hnd, c1, D1, hx1⟩ := h1
  have hw1 := hx1.hw; subst hw1
  rw [hb, List.append_nil] at hdf
  obtain ⟨fnc, hf1, hf2, hf3⟩ := hent
  let d : Deferred := { target := .fn (.func (N.num f)) #[], args := #[a1.eval (.tmp x)] }
  let y1 : Yl σ := { y with base := d :: marksOf dm, pins := [(x, a1.eval (.tmp x))] }
  let kp := dm.map dmOf
  have hkp : ∀ q ∈ kp, q.1 < c1.w.heap.size := fun q hq => (Array.getElem?_eq_some_iff.1 (hx1.marks q (by simpa [kp] using hq)).1).1
  have hs1 : Sim N y1 (fun b => Owned c1 b ∨ D1 b) c1 c kp st1 s1 { a1 with defers := d :: a1.defers } c1.w := by
    refine ⟨fun q hq => ?_, [], by rw [hdf]; rfl, ⟨.nil, by simp⟩, c1, D1, ⟨rfl, hx1.hm, hx1.good, hx1.frep, hx1.rel, hx1.dis, by simpa [kp] using hx1.marks, Tr.refl _ _ _, hx1.ext⟩⟩
    have : q = (x, a1.eval (.tmp x)) := by simpa [y1] using hq
    subst this; rfl
  cases hrb : runC E Y c.m.length k body st1 s1 with
  | none => rw [hrb] at hr; simp [dfrO] at hr
  | some q =>
    obtain ⟨ex, st2, s2⟩ := q
    rw [hrb] at hr
    refine runC_ok N pr hmix hE k body cy hbody σ y1 hS Y hY none _ c1 c kp c.m.length st1 s1 _ c1.w ex st2 s2 _ (fun q hq => ?_) (Nat.le_refl _) (fun l h => by cases h) hrb hs1 fun a' w' h' => ?_
    · have : q = (x, a1.eval (.tmp x)) := by simpa [y1] using hq
      subst this; exact hwr
    · obtain ⟨hpn, dm2, hdf2, hnd2, c2, D2, hx2⟩ := h'
      have hpin : a'.tmps.getD x undef = a1.eval (.tmp x) := hpn (x, a1.eval (.tmp x)) (by simp [y1])
      -- what the marks leave
      have back : ∀ (w3 : World) (c3 : Cfg) (st3 : St), SimX N y1 (fun b => Owned c1 b ∨ D1 b) c1 c kp st3 s2 a' w3 c3 D2 → SimX N y (fun b => Owned c b ∨ D b) c c kp st3 s2 a' w3 c3 D2 := fun w3 c3 st3 hx =>
        ⟨hx.hw, hx.hm, hx.good, hx.frep, hx.rel, hx.dis, hx.marks, hx1.tr.trans hx.tr, hx.ext⟩
      have tail : ∀ (st3 : St) (w3 : World) (c3 : Cfg), doneFn af c.m.length (.ret, st3, s2) = some (r, m', s') → SimX N y (fun b => Owned c b ∨ D b) c c kp st3 s2 a' w3 c3 D2 → LeavesInM Fence.wide 0 pr fn a'.tmps (FnEnd N y c D s' r m') (marksOf dm) .returning w3 := fun st3 w3 c3 hd3 hx3 => by
        simp only [doneFn] at hd3
        split at hd3
        · rename_i v m hfin
          simp only [Option.some.injEq, Prod.mk.injEq] at hd3
          obtain ⟨rfl, rfl, rfl⟩ := hd3
          have := leavesM_ok N pr (more := []) (R := FnEnd N y c D s2 v m) (fn := fn) (u := .returning) hS (by simp) (kp := []) (fun q hq => by cases hq) (fun w' c' hx' => end_ret N pr hS hres hfin hx') dm w3 c3 hnd.1 hnd.2 (by simpa [kp] using hx3)
          rwa [List.append_nil] at this
        · cases hd3
      have hleads : ∀ w3, (invoke d.target d.args).run pr w3 = .ok (.enter (N.num f) #[a1.eval (.tmp x)]) w3 := fun w3 => by
        have hn' : ¬ fnc.name = "runtime.NumGoroutine" := by simpa using hf2
        have hb' : ¬ fnc.body = none := fun h => by simp [h] at hf3
        simp [d, invoke, callFunc, hf1, hn', hb']
      have run : ∀ u : FrameMode, u ≠ .run → (∀ w3 c3, SimX N y1 (fun b => Owned c1 b ∨ D1 b) c1 c kp st2 s2 a' w3 c3 D2 → CallsDIn Fence.wide 0 pr (N.num f) #[a1.eval (.tmp x)] u w3 fun e u' w' => (∃ r, e = .returned r) ∧ LeavesInM Fence.wide 0 pr fn a'.tmps (FnEnd N y c D s' r m') (marksOf dm) (settle u') w') →
          LeavesInM Fence.wide 0 pr fn a'.tmps (FnEnd N y c D s' r m') a'.defers u w' := fun u hu hc => by
        rw [hdf2]
        refine leavesM_ok N pr (y := y1) (more := d :: marksOf dm) (R := FnEnd N y c D s' r m') (fn := fn) hS hu hkp (fun w3 c3 hx3 => ?_) dm2 w' c2 hnd2.1 hnd2.2 hx2
        refine ⟨hu, .inr ⟨fun h => by simp [Fence.wide] at h, .func (N.num f), #[], N.num f, #[a1.eval (.tmp x)], rfl, hleads w3, fun _ _ => trivial, ?_⟩⟩
        refine (hc w3 c3 hx3).mono ?_
        rintro e u' w4 ⟨⟨rv, rfl⟩, hl⟩
        exact hl
      cases ex with
      | normal =>
        simp only [dfrO, Option.some.injEq] at hr; subst hr
        exact run .returning (by simp) fun w3 c3 hx3 => (hrest _ w3).mono (by
          rintro e u' w4 ⟨he, rfl, hg⟩
          exact ⟨he, tail st2 w4 _ hd (back _ _ _ (hx3.grow N (y := y1) hS hg))⟩)
      | ret =>
        simp only [dfrO, Option.some.injEq] at hr; subst hr
        exact run .returning (by simp) fun w3 c3 hx3 => (hrest _ w3).mono (by
          rintro e u' w4 ⟨he, rfl, hg⟩
          exact ⟨he, tail st2 w4 _ hd (back _ _ _ (hx3.grow N (y := y1) hS hg))⟩)
      | exit i => simp [dfrO] at hr
      | pan t' xs =>
        simp only [dfrO] at hr
        split at hr
        · rename_i hc
          obtain ⟨rfl, hxl⟩ := hc
          split at hr
          · rename_i b off hbx
            split at hr
            · rename_i cs hcs
              split at hr
              · rename_i hle
                simp only [Option.some.injEq] at hr; subst hr
                refine run (.panicking (chainOf N t' xs)) (by simp) fun w3 c3 hx3 => ?_
                have hw3 := hx3.hw; subst hw3
                have hv := hx3.frep.2 x
                rw [hpin, hbx] at hv
                have hu : VRep N y1.l c3.H c3.φ c3.m (if n = 0 then i64 (xs.headD 0) else .agg (xs.map i64)) (intsV n xs) := by
                  unfold intsV
                  split
                  · simp [i64, VRep, Rep]
                  · simp only [VRep]
                    refine ⟨_, rfl, ?_⟩
                    clear hxl hd hrb
                    induction xs with
                    | nil => simp [VReps]
                    | cons q l ih => simp only [List.map_cons, VReps]; exact ⟨_, _, rfl, by simp [i64, VRep, Rep], ih⟩
                have hcell : V.cells? (if n = 0 then i64 (xs.headD 0) else .agg (xs.map i64)) = some (xs.map i64) := by
                  split
                  · rename_i hn
                    subst hn
                    simp only [sz, if_true] at hxl
                    rcases xs with _ | ⟨q, _ | ⟨q2, l⟩⟩ <;> simp at hxl
                    rfl
                  · simp only [V.cells?]
                    rw [if_pos]
                    simp [i64, V.isCell, scalarCell]
                obtain ⟨c4, hst, g1, g2, g3, g4⟩ := store_own N y1.l pr hx3.good hT hv (by rw [hx3.hm]; exact hcs) hcell hu (by simpa using hxl) hle
                have hx4 : SimX N y1 (fun b => Owned c1 b ∨ D1 b) c1 c kp ⟨st2.fr, st2.mem.set b (.cells (setRange cs off (xs.map i64)))⟩ s2 a' c4.w c4 D2 :=
                  hx3.own N (y := y1) hS (st' := ⟨st2.fr, st2.mem.set b (.cells (setRange cs off (xs.map i64)))⟩) (by rw [g1, hx3.hm]) g2 (hx3.frep.ext N y1.l g4) g3 g4
                simp only [VRep] at hv
                obtain ⟨R, sR, _, _, hvR⟩ := hv
                rw [hvR] at hst ⊢
                refine (hcatch R off c3.w c4.w xs hxl hst).mono ?_
                rintro e u' w5 ⟨he, hset, hg⟩
                rw [hset]
                exact ⟨he, tail _ w5 _ hd (back _ _ _ (hx4.grow N (y := y1) hS hg))⟩
              · cases hr
            · cases hr
          · cases hr
        · cases hr

/-- Code at the end of a function. -/
theorem tail_ok (hmix : pr.follows .mixedOrders = true) (hC : CatOk N pr) {E : Env} (hE : SoundEnv N pr E) (k : Nat) {σ : Type} {y : Yl σ} (hS : y.Stable) (hb : y.base = []) (hpi : y.pins = []) {Y : List P → σ → Option (Bool × σ)} (hY : y.Ok N pr Y)
    {c : Cfg} {D : Nat → Prop} {af : AFn} {fn : Func} {r : V} {m' : List Blk} {s' : σ} (hres : mRess pr af.res fn.results.toList = true) :
    ∀ (ac : AC) (code : Code) (st : St) (s : σ) (a : Act) (w : World) (p : Ex × St × σ), mTail N pr ac code = true → runC E Y c.m.length k ac st s = some p → doneFn af c.m.length p = some (r, m', s') →
      Sim N y (fun b => Owned c b ∨ D b) c c [] st s a w → code.wpIn (fc none) 0 pr (bodyPostM Fence.wide 0 pr fn (FnEnd N y c D s' r m')) a w := by
  intro ac
  have plain : ∀ (ac : AC) (code : Code) (st : St) (s : σ) (a : Act) (w : World) (p : Ex × St × σ), mCode N pr ac code = true → runC E Y c.m.length k ac st s = some p → doneFn af c.m.length p = some (r, m', s') →
      Sim N y (fun b => Owned c b ∨ D b) c c [] st s a w → code.wpIn (fc none) 0 pr (bodyPostM Fence.wide 0 pr fn (FnEnd N y c D s' r m')) a w := fun ac code st s a w p hm hr hd h => by
    obtain ⟨ex, st', s1⟩ := p
    exact runC_ok N pr hmix hE k ac code hm σ y hS Y hY none _ c c [] c.m.length st s a w ex st' s1 _ (fun q hq => by rw [hpi] at hq; cases hq) (Nat.le_refl _) (fun l h => by cases h) hr h fun a' w' h' => post_ok N pr hS hb hres (p := (ex, st', s1)) hd h'
  induction ac with
  | seq x z _ ihz =>
    intro code st s a w p hm hr hd h
    cases code with
    | seq cx cz =>
      simp only [mTail, Bool.and_eq_true] at hm
      simp only [runC] at hr
      refine wpIn_seq ?_
      cases hx : runC E Y c.m.length k x st s with
      | none => rw [hx] at hr; cases hr
      | some q =>
        obtain ⟨ex1, st1, s1⟩ := q
        rw [hx] at hr
        refine runC_ok N pr hmix hE k x cx hm.1 σ y hS Y hY none _ c c [] c.m.length st s a w ex1 st1 s1 _ (fun q hq => by rw [hpi] at hq; cases hq) (Nat.le_refl _) (fun l h => by cases h) hx h fun a' w' h' => ?_
        cases ex1 with
        | normal => exact ihz cz st1 s1 a' w' p hm.2 hr hd h'
        | exit i =>
          simp only [Option.some.injEq] at hr; subst hr
          simp [doneFn] at hd
        | ret =>
          simp only [Option.some.injEq] at hr; subst hr
          exact post_ok N pr hS hb hres (p := (.ret, st1, s1)) hd h'
        | pan t xs =>
          simp only [Option.some.injEq] at hr; subst hr
          exact post_ok N pr hS hb hres (p := (.pan t xs, st1, s1)) hd h'
    | _ => simp [mTail, mCode] at hm
  | dfr rg f x t n body _ =>
    intro code st s a w p hm hr hd h
    cases code with
    | seq cx cy =>
      cases cx with
      | region id ops draw =>
        simp only [mTail, Bool.and_eq_true, Bool.not_eq_true', beq_iff_eq] at hm
        obtain ⟨⟨⟨⟨rfl, hreg⟩, hwr⟩, hcat⟩, hbody⟩ := hm
        simp only [runC] at hr
        split at hr
        · rename_i st1 s1 hrun
          split at hr
          · rename_i b0 o0 hx0
            obtain ⟨hent, hrest, T, hT, hcatch⟩ := hC f t n hcat
            refine wpIn_seq ?_
            refine reg1_ok N pr hE hS hY none hreg (by rw [hpi]; exact fun z hz q hq => by cases hq) hrun h fun o a1 w1 hp h1 => ?_
            split at hp
            · rename_i kf args ts ho
              simp only [Bool.and_eq_true, beq_iff_eq] at hp
              obtain ⟨⟨rfl, hdst⟩, hargs⟩ := hp
              split at hargs
              · rename_i i hi
                simp only [beq_iff_eq] at hargs; subst hargs
                have ha := arr_one hi
                subst ha
                refine ⟨about_any pr none o _ _, ?_⟩
                have hsem : (o.semAt (fc none).round a1.eval).run pr w1 = .ok (.defer { target := .fn (.func (N.num f)) #[], args := #[a1.eval (.tmp i)] }) w1 := by
                  show (execOp a1.eval o).run pr w1 = _
                  simp [execOp, ho, resolve, Deferred.ofValue]
                  rfl
                rw [hsem, Oper.uponIn_defer]
                have hod : o.dst = none := by cases hq : o.dst with
                  | none => rfl
                  | some d => rw [hq] at hdst; cases hdst
                rw [hod]
                exact dfr_ok N pr hmix hE hS hb hY hres (body := body) hbody hwr hent hrest hT hcatch (st1 := st1) hr hd h1
              · cases hargs
            · cases hp
          · cases hr
        · cases hr
      | _ => simp [mTail, mCode] at hm
    | _ => simp [mTail, mCode] at hm
  | _ =>
    intro code st s a w p hm hr hd h
    exact plain _ code st s a w p (by simpa [mTail] using hm) hr hd h

theorem fn_ok (hmix : pr.follows .mixedOrders = true) (hC : CatOk N pr) {E : Env} (hE : SoundEnv N pr E) {k : Nat} {af : AFn} {f : Nat} {fn : Func} (hf : pr.funcs[f]? = some fn) (hm : mFn N pr af fn = true) {σ : Type} {y : Yl σ} (hS : y.Stable) (hb : y.base = []) (hpi : y.pins = []) {Y : List P → σ → Option (Bool × σ)} (hY : y.Ok N pr Y)
    {args : List V} {mem : List Blk} {s s' : σ} {r : V} {m' : List Blk} (hr : runFn E Y k af args mem s = some (r, m', s')) {c : Cfg} {D : Nat → Prop} {vals : List Value} (hg : Good N y.l c) (hcm : c.m = mem) (hv : VReps N y.l c.H c.φ c.m args vals) (hrel : y.rel s D c.H c.w) (hdis : ∀ b, D b → b < c.w.heap.size ∧ ¬ Owned c b) :
    Calls pr f vals.toArray c.w (FnEnd N y c D s' r m') := by
  subst hcm
  simp only [mFn, Bool.and_eq_true, beq_iff_eq] at hm
  obtain ⟨⟨⟨hnt, hres⟩, hnm⟩, hbd⟩ := hm
  split at hbd
  · rename_i code hcode
    refine (callsIn_wide (n := 0)).1 ?_
    refine callsIn_of_wp_marks hf hcode trivial ?_ rfl
    have hlen : args.length = vals.length := VReps.length N y.l hv
    obtain ⟨hnlt, p, hrun, hd⟩ := runFn_done hr
    have hf0 : FRep N y.l c (Fr.of af.nt args) (vals.toArray ++ Array.replicate (fn.ntmps - vals.toArray.size) undef) := by
      have := FRep.of N y.l hv af.nt (by omega)
      rw [hnt] at this ⊢
      simpa using this
    have hs0 : Sim N y (fun b => Owned c b ∨ D b) c c [] ⟨Fr.of af.nt args, c.m⟩ s { tmps := vals.toArray ++ Array.replicate (fn.ntmps - vals.toArray.size) undef, defers := [] } c.w :=
      ⟨(fun q hq => by rw [hpi] at hq; cases hq), [], (by rw [hb]; rfl), ⟨.nil, by simp⟩, c, D, ⟨rfl, rfl, hg, hf0, hrel, hdis, by simp, Tr.refl _ _ _, Ext.refl⟩⟩
    exact tail_ok N pr hmix hC hE k hS hb hpi hY hres af.code code _ s _ c.w p hbd hrun hd hs0
  · cases hbd

/-- The part of a receiver. -/
def partV (off n : Nat) (vs : List Value) : Value := if n = 0 then vs.getD off undef else .agg ((vs.drop off).take n).toArray

/-- What is asked of a method expression: it goes on to a method, with a part of its receiver; of a method of interface values: it goes on to the method of the type. -/
def MethAt (id : Nat) (af : AFn) : Prop :=
  (∃ off n len, af.res = [.cell off n, .tmp len] ∧ af.nt < 3000000000 ∧ ∀ (vs : List Value) (args : Array Value) (w : World), vs.length = len → (invoke (.fn (N.fv id) #[]) (#[.agg vs.toArray] ++ args)).run pr w = .ok (.enter (N.num af.nt) (#[partV off n vs] ++ args)) w) ∨
  (∃ k l, af.res = .tmp k :: l ∧ ∀ t f, ARes.cell t f ∈ l → f < 3000000000 ∧ ∀ (x : Value) (args : Array Value) (w : World), (invoke (.fn (N.fv id) #[]) (#[.iface (N.tnum t) x] ++ args)).run pr w = .ok (.enter (N.num f) (#[x] ++ args)) w)

/-- What is asked of a function that copies slices: what it answers where one is empty, nil or not. -/
def SplitOk (af : AFn) : Prop := ∀ (a : Option Addr) (cap : Nat), ∃ k n, runFn Env.bot noY k af [.p (.v (.slice a 0 cap))] [] () = some (.p (.sl n []), [], ())

def FnTold (id : Nat) (af : AFn) : Prop := if 3000000000 ≤ id then MethAt N pr id af else (∃ fn, pr.funcs[N.num id]? = some fn ∧ mFn N pr af fn = true) ∧ (6000000 ≤ id → id < 7000000 → SplitOk af)

/-- The table tells of the program. -/
def TblOk (tbl : Nat → Option AFn) : Prop := CatOk N pr ∧ ∀ id af, tbl id = some af → FnTold N pr id af

theorem mFn_enters {id : Nat} {af : AFn} {fn : Func} (hf : pr.funcs[N.num id]? = some fn) (hm : mFn N pr af fn = true) : Enters N pr id := by
  simp only [mFn, Bool.and_eq_true] at hm
  obtain ⟨⟨_, h1⟩, h2⟩ := hm
  refine ⟨fn, hf, by simpa using h1, ?_⟩
  cases hb : fn.body with
  | none => rw [hb] at h2; cases h2
  | some c => rfl

/-- What is represented where nothing is yielded is no panic. -/
theorem rep_calm {H : HM} {φ : FM} {m : List Blk} {x : V} {v : Value} (h : VRep N none H φ m x v) : x.pan? = none := by
  unfold V.pan?
  split
  · simp only [VRep, VReps] at h
    obtain ⟨vs, _, v1, s1, _, ⟨l, hl, _⟩, _⟩ := h
    cases hl
  · rfl

theorem bot_ok : SoundEnv N pr Env.bot := ⟨fun _ _ _ _ _ h => by simp [Env.bot] at h, fun _ _ _ _ _ _ _ h => by simp [Env.bot] at h⟩

/-- A run of a function is a call. -/
theorem run_call (hmix : pr.follows .mixedOrders = true) (hC : CatOk N pr) {E : Env} (hE : SoundEnv N pr E) {k id : Nat} (hlt : id < 3000000000) {af : AFn} {fn : Func} (hf : pr.funcs[N.num id]? = some fn) (hm : mFn N pr af fn = true) {args : List V} {mem m1 : List Blk} {r1 : V}
    (hr : runFn E noY k af args mem () = some (r1, m1, ())) {c : Cfg} {vals : List Value} (hg : Good N none c) (hcm : c.m = mem) (hv : VReps N none c.H c.φ c.m args vals) :
    CallsV N pr id vals c.w fun e w' => ∃ (c' : Cfg) (v : Value), Ends N r1 v e ∧ c'.w = w' ∧ c'.m = m1 ∧ Good N none c' ∧ Trans c c' ∧ Ext c.H c.φ c.m c'.H c'.φ c'.m ∧ (r1.pan? = none → VRep N none c'.H c'.φ c'.m r1 v) := by
  obtain ⟨fn2, hf1, hf2, hf3⟩ := mFn_enters N pr hf hm
  refine ⟨N.num id, vals.toArray, fun w' => ?_, fun _ => ⟨rfl, rfl⟩, ?_⟩
  · have hn' : ¬ fn2.name = "runtime.NumGoroutine" := by simpa using hf2
    have hb' : ¬ fn2.body = none := fun h => by simp [h] at hf3
    rw [N.fv_lt (by rw [Nat.blt_eq]; exact hlt)]
    simp [invoke, callFunc, hf1, hn', hb']
  · let y : Yl Unit := { l := none, rel := fun _ _ _ _ => True }
    have := fn_ok N pr hmix hC hE hf hm (y := y) (fun _ _ _ _ _ _ _ _ _ _ _ => trivial) rfl rfl (Y := noY) (fun ps s b s' h => by simp [noY] at h) hr (c := c) (D := fun _ => False) hg hcm hv trivial (fun b h => h.elim)
    have trans : ∀ {st : St} {a : Act} {w' : World} {c' : Cfg} {D' : Nat → Prop}, SimX N y (fun b => Owned c b ∨ False) c c [] st () a w' c' D' → Trans c c' := fun {st a w' c' D'} hx => by
      have hcw := hx.hw; subst hcw
      refine ⟨hx.tr.fz, hx.tr.os, hx.tr.tape, hx.tr.output, hx.tr.size, hx.tr.hle, fun b hb hn => hx.tr.frame b hb (by simpa using hn), fun b hb => ?_, fun b o v hv => ?_⟩
      · rcases hx.tr.own b (.inl hb) with (h | h) | h
        · exact .inl h
        · exact h.elim
        · exact .inr h
      · rcases hx.tr.hnew b o v hv with h | (h | h) | h
        · exact .inl h
        · exact .inr (.inl h)
        · exact h.elim
        · exact .inr (.inr h)
    refine this.mono ?_
    rintro e w' (⟨c', D', v, fr', rfl, hr0, hx⟩ | ⟨t, xs, c', D', rfl, rfl, hx⟩)
    · have hcw := hx.hw; subst hcw
      have hrep : VRep N none c'.H c'.φ c'.m r1 v := by
        have := hx.frep.2 0
        rw [hr0] at this; exact this
      refine ⟨c', v, ?_, rfl, hx.hm, hx.good, trans hx, hx.ext, fun _ => hrep⟩
      unfold Ends
      rw [rep_calm N hrep]
    · have hcw := hx.hw; subst hcw
      refine ⟨c', .nilFunc, ?_, rfl, hx.hm, hx.good, trans hx, hx.ext, fun hp => ?_⟩
      · unfold Ends
        rw [pan_panV]
      · rw [pan_panV] at hp; cases hp

/-- A part of what is represented. -/
theorem fieldOf_rep {H : HM} {φ : FM} {m : List Blk} {len off n : Nat} {x y : V} {v : Value} (h : fieldOf len off n x = some y) (hv : VRep N none H φ m x v) : ∃ vs : List Value, v = .agg vs.toArray ∧ vs.length = len ∧ VRep N none H φ m y (partV off n vs) := by
  have key : ∀ (y : V) (cs : List V) (vs : List Value), VReps N none H φ m cs vs → (if n = 0 then cs[off]? else if off + n ≤ cs.length then some (.agg ((cs.drop off).take n)) else none) = some y → VRep N none H φ m y (partV off n vs) := fun y cs vs hr hy => by
    unfold partV
    split at hy
    · rename_i hn
      rw [if_pos hn]
      obtain ⟨u, h1, h2⟩ := VReps.get N none hr off y hy
      rw [List.getD_eq_getElem?_getD, h1]; exact h2
    · rename_i hn
      rw [if_neg hn]
      split at hy
      · simp only [Option.some.injEq] at hy; subst hy
        simp only [VRep]
        refine ⟨_, rfl, VReps.of N none (by simp [VReps.length N none hr]) fun j p u hp hu => ?_⟩
        simp only [List.getElem?_take, List.getElem?_drop] at hp hu
        split at hp
        · rename_i hj
          rw [if_pos hj] at hu
          obtain ⟨u', h1, h2⟩ := VReps.get N none hr _ p hp
          rw [h1] at hu; cases hu; exact h2
        · cases hp
      · cases hy
  unfold fieldOf at h
  split at h
  · rename_i cs
    split at h
    · cases h
    rename_i hl
    simp only [VRep] at hv
    obtain ⟨vs, rfl, hr⟩ := hv
    refine ⟨vs, rfl, ?_, key y cs vs hr h⟩
    have := VReps.length N none hr
    omega
  · rename_i ps
    split at h
    · cases h
    rename_i hl
    simp only [VRep, Rep] at hv
    obtain ⟨vs, rfl, hr⟩ := hv
    have hr' : VReps N none H φ m (ps.map V.p) vs := VReps.ofReps N hr
    have hlen := VReps.length N none hr'
    simp only [List.length_map] at hlen
    refine ⟨vs, rfl, by omega, ?_⟩
    split at h
    · rename_i hn
      refine key _ _ vs hr' ?_
      rw [if_pos hn, List.getElem?_map]; exact h
    · rename_i hn
      split at h
      · rename_i hle
        simp only [Option.some.injEq] at h; subst h
        have := key (.agg (((ps.map V.p).drop off).take n)) _ vs hr' (by rw [if_neg hn, if_pos (by simpa using hle)])
        simp only [VRep] at this ⊢
        simp only [Rep]
        obtain ⟨us, h1, h2⟩ := this
        refine ⟨us, h1, ?_⟩
        have e : ((ps.map V.p).drop off).take n = (((ps.drop off).take n).map V.p) := by rw [List.map_take, List.map_drop]
        rw [e] at h2
        have back : ∀ (qs : List P) (us : List Value), VReps N none H φ m (qs.map V.p) us → Reps N H qs us := by
          intro qs
          induction qs with
          | nil => intro us h; simpa only [List.map_nil, VReps, Reps] using h
          | cons q r ih =>
            intro us h
            simp only [List.map_cons, VReps, VRep, Reps] at h ⊢
            obtain ⟨v, s, h1, h2, h3⟩ := h
            exact ⟨v, s, h1, h2, ih s h3⟩
        exact back _ _ h2
      · cases h
  · cases h

theorem stepE_ok (hmix : pr.follows .mixedOrders = true) {tbl : Nat → Option AFn} (ht : TblOk N pr tbl) {E : Env} (hE : SoundEnv N pr E) (k : Nat) : SoundEnv N pr (stepE tbl k E) where
  call id args mem r mem' h := by
    simp only [stepE] at h
    split at h
    · rename_i af haf
      have htold := ht.2 id af haf
      unfold FnTold at htold
      split at h
      · rename_i hge
        rw [if_pos hge] at htold
        intro c vals hg hcm hv
        unfold methR at h
        rcases htold with ⟨off, n, len, hres, hlt, hinv⟩ | ⟨kk, l, hres, hinv⟩
        · rw [hres] at h
          split at h
          · rename_i off' n' len' x r' heq
            simp only [List.cons.injEq, ARes.cell.injEq, ARes.tmp.injEq, and_true] at heq
            obtain ⟨⟨rfl, rfl⟩, rfl⟩ := heq
            split at h
            · rename_i y hy
              simp only [VReps] at hv
              obtain ⟨v, s, rfl, hv1, hv2⟩ := hv
              obtain ⟨vs, rfl, hl, hp⟩ := fieldOf_rep N hy hv1
              obtain ⟨g, vals', hi, hgv, hc⟩ := hE.call _ _ _ _ _ h c (partV off n vs :: s) hg hcm (by simp only [VReps]; exact ⟨_, _, rfl, hp, hv2⟩)
              have hnum : ∀ w', (invoke (.fn (N.fv id) #[]) (Value.agg vs.toArray :: s).toArray).run pr w' = .ok (.enter (N.num af.nt) (partV off n vs :: s).toArray) w' := fun w' => by
                have e1 : (Value.agg vs.toArray :: s).toArray = #[.agg vs.toArray] ++ s.toArray := by simp
                have e2 : (partV off n vs :: s).toArray = #[partV off n vs] ++ s.toArray := by simp
                rw [e1, e2]; exact hinv vs s.toArray w' hl
              obtain ⟨rfl, rfl⟩ := hgv hlt
              exact ⟨_, _, hnum, fun hlt2 => absurd hlt2 (by omega), hc⟩
            · cases h
          · rename_i heq; simp at heq
          · cases h
        · rw [hres] at h
          split at h
          · rename_i heq; simp at heq
          · rename_i kk' l' t x r' heq
            simp only [List.cons.injEq, ARes.tmp.injEq] at heq
            obtain ⟨rfl, rfl⟩ := heq
            split at h
            · rename_i f hfind
              simp only [VReps] at hv
              obtain ⟨v, s, rfl, hv1, hv2⟩ := hv
              simp only [VRep, Rep] at hv1
              obtain ⟨u, rfl, hu⟩ := hv1
              obtain ⟨a, ha, hsome⟩ := List.exists_of_findSome?_eq_some hfind
              have hmem : ARes.cell t f ∈ l := by
                split at hsome
                · rename_i t' id'
                  split at hsome
                  · rename_i ht'; subst ht'
                    simp only [Option.some.injEq] at hsome; subst hsome; exact ha
                  · cases hsome
                · cases hsome
              obtain ⟨hlt, hinv⟩ := hinv t f hmem
              obtain ⟨g, vals', hi, hgv, hc⟩ := hE.call _ _ _ _ _ h c (u :: s) hg hcm (by simp only [VReps]; exact ⟨_, _, rfl, by simpa only [VRep] using hu, hv2⟩)
              obtain ⟨rfl, rfl⟩ := hgv hlt
              refine ⟨_, _, fun w' => ?_, fun hlt2 => absurd hlt2 (by omega), hc⟩
              have e1 : (Value.iface (N.tnum t) u :: s).toArray = #[.iface (N.tnum t) u] ++ s.toArray := by simp
              have e2 : (u :: s).toArray = #[u] ++ s.toArray := by simp
              rw [e1, hinv u s.toArray w', ← e2]
            · cases h
          · cases h
      · rename_i hlt
        rw [if_neg hlt] at htold
        obtain ⟨⟨fn, hf, hm⟩, hsp⟩ := htold
        intro c vals hg hcm hv
        split at h
        · rename_i r0 hsr
          simp only [Option.some.injEq] at h; subst h
          unfold splitR at hsr
          cases hb : (Nat.ble 6000000 id && Nat.blt id 7000000) with
          | false => rw [hb] at hsr; simp at hsr
          | true =>
            rw [hb] at hsr
            simp only [cond_true] at hsr
            split at hsr
            · rename_i n _
              simp only [Option.some.injEq, Prod.mk.injEq] at hsr
              obtain ⟨rfl, rfl⟩ := hsr
              simp only [Bool.and_eq_true, Nat.ble_eq, Nat.blt_eq] at hb
              simp only [VReps, VRep, Rep] at hv
              obtain ⟨v, s, rfl, ⟨a, cap, ⟨rfl, _⟩, _⟩, rfl⟩ := hv
              obtain ⟨k2, n2, hrun⟩ := hsp hb.1 hb.2 a cap
              obtain ⟨g, vals', hi, hgv, hc⟩ := run_call N pr hmix ht.1 (bot_ok N pr) (by omega) hf hm hrun hg hcm (vals := [.slice a 0 cap]) (by simp only [VReps, VRep, Rep]; exact ⟨_, _, rfl, rfl, rfl⟩)
              refine ⟨g, vals', hi, hgv, hc.mono ?_⟩
              rintro e w' ⟨c', v, k1, k2, k3, k4, k5, k6, k7⟩
              refine ⟨c', v, k1, k2, k3, k4, k5, k6, fun _ => ?_⟩
              have := k7 rfl
              simp only [VRep, Rep] at this ⊢
              obtain ⟨a', cap', ⟨h1, h2⟩, _⟩ := this
              exact ⟨a', cap', ⟨h1, h2⟩, fun hne => absurd rfl hne⟩
            · cases hsr
        · simp only [Option.map_eq_some_iff] at h
          obtain ⟨⟨r1, m1, s1⟩, hr, e⟩ := h
          simp only [Prod.mk.injEq] at e
          obtain ⟨rfl, rfl⟩ := e
          exact run_call N pr hmix ht.1 hE (by omega) hf hm hr hg hcm hv
    · cases h
  iter σ Y id args mem s s' h := by
    simp only [stepE] at h
    split at h
    · rename_i af haf
      have htold := ht.2 id af haf
      unfold FnTold at htold
      split at h
      · cases h
      rename_i hge
      rw [if_neg hge] at htold
      obtain ⟨⟨fn, hf, hm⟩, _⟩ := htold
      simp only [Option.bind_eq_some_iff] at h
      obtain ⟨⟨r1, m1, s1⟩, hr, h⟩ := h
      · simp only [itO] at h
        split at h
        · cases h
        rename_i hnp
        simp only [Option.some.injEq] at h
        subst h
        refine ⟨mFn_enters N pr hf hm, fun y hS hY c D vals hg hcm hv hrel hdis => ?_⟩
        have := fn_ok N pr hmix ht.1 hE hf hm (y := y.bare) hS rfl rfl hY hr (c := c) (D := D) hg hcm hv hrel hdis
        refine this.mono ?_
        rintro e w' (⟨c', D', v, fr', rfl, hr0, hx⟩ | ⟨t, xs, c', D', rfl, rfl, hx⟩)
        · have hcw := hx.hw; subst hcw
          exact ⟨⟨v, rfl⟩, D', c'.H, hx.rel, hx.good.frz, fun b hb => (hx.dis b hb).1, hx.tr.less fun b hb => .inr hb⟩
        · rw [pan_panV] at hnp; simp at hnp
    · cases h

theorem evalN_ok (hmix : pr.follows .mixedOrders = true) {tbl : Nat → Option AFn} (ht : TblOk N pr tbl) : ∀ n, SoundEnv N pr (evalN tbl n)
  | 0 => ⟨fun _ _ _ _ _ h => by simp [evalN, Env.bot] at h, fun _ _ _ _ _ _ _ h => by simp [evalN, Env.bot] at h⟩
  | n + 1 => stepE_ok N pr hmix ht (evalN_ok hmix ht n) n

end Go.Am

/- Tables of functions, and how a law's call is read off the evaluator. -/





namespace Go.Am
open Go

inductive FT (α : Type) where
  | lf
  | nd (k : Nat) (v : α) (l r : FT α)

def FT.get {α : Type} : FT α → Nat → Option α
  | .lf, _ => none
  | .nd k v l r, i => bif Nat.beq i k then some v else bif Nat.blt i k then l.get i else r.get i

def FT.all {α : Type} (p : Nat → α → Bool) : FT α → Bool
  | .lf => true
  | .nd k v l r => p k v && (l.all p && r.all p)

theorem FT.all_get {α : Type} {p : Nat → α → Bool} : ∀ {t : FT α} {i : Nat} {v : α}, t.all p = true → t.get i = some v → p i v = true
  | .lf, _, _, _, h => by simp [FT.get] at h
  | .nd k v l r, i, u, ha, h => by
    simp only [FT.all, Bool.and_eq_true] at ha
    simp only [FT.get, bif_beq, bif_blt] at h
    split at h
    · rename_i e; subst e; cases h; exact ha.1
    · split at h
      · exact FT.all_get ha.2.1 h
      · exact FT.all_get ha.2.2 h

variable (N : Nm) (pr : Program)

def fnMatches (id : Nat) (af : AFn) : Bool :=
  if 3000000000 ≤ id then true else match pr.funcs[N.num id]? with
  | some fn => mFn N pr af fn
  | none => false

/-- The entries of a table of which more is asked. -/
def FT.special : FT AFn → List (Nat × AFn)
  | .lf => []
  | .nd k v l r => l.special ++ ((bif Nat.ble 6000000 k && Nat.blt k 7000000 || Nat.ble 3000000000 k then [(k, v)] else []) ++ r.special)

theorem FT.special_get : ∀ {t : FT AFn} {i : Nat} {v : AFn}, t.get i = some v → (Nat.ble 6000000 i && Nat.blt i 7000000 || Nat.ble 3000000000 i) = true → (i, v) ∈ t.special
  | .lf, _, _, h, _ => by simp [FT.get] at h
  | .nd k u l r, i, v, h, hb => by
    simp only [FT.get, bif_beq, bif_blt] at h
    simp only [FT.special, List.mem_append]
    split at h
    · rename_i e; subst e; cases h; rw [hb]; exact .inr (.inl (by simp))
    · split at h
      · exact .inl (FT.special_get h hb)
      · exact .inr (.inr (FT.special_get h hb))

def SpecOk (p : Nat × AFn) : Prop := if 3000000000 ≤ p.1 then MethAt N pr p.1 p.2 else SplitOk p.2

theorem tblOk_of (hC : CatOk N pr) {t : FT AFn} (hS : ∀ p ∈ t.special, SpecOk N pr p) (h : t.all (fnMatches N pr) = true) : TblOk N pr t.get := by
  refine ⟨hC, fun id af hg => ?_⟩
  have hm := FT.all_get h hg
  unfold fnMatches at hm
  unfold FnTold
  by_cases hge : 3000000000 ≤ id
  · rw [if_pos hge]
    have := hS (id, af) (FT.special_get hg (by simp; omega))
    unfold SpecOk at this
    rwa [if_pos hge] at this
  · rw [if_neg hge] at hm ⊢
    refine ⟨?_, fun h1 h2 => ?_⟩
    · split at hm
      · rename_i fn hf; exact ⟨fn, hf, hm⟩
      · cases hm
    · have := hS (id, af) (FT.special_get hg (by simp; omega))
      unfold SpecOk at this
      rwa [if_neg hge] at this

def saysTrue : Option (V × List Blk) → Bool
  | some (.p (.v (.bool b)), _) => b
  | _ => false

theorem saysTrue_of {r : Option (V × List Blk)} (h : saysTrue r = true) : ∃ m, r = some (.p (.v (.bool true)), m) := by
  unfold saysTrue at h
  split at h
  · rename_i b m; cases h; exact ⟨m, rfl⟩
  · cases h

open Go.RowKit in
/-- A closed law. -/
theorem closed_law (hmix : pr.follows .mixedOrders = true) {tbl : Nat → Option AFn} (ht : TblOk N pr tbl) {n id f : Nat} (hid : N.num id = f) (hs : saysTrue ((evalN tbl n).call id [] []) = true) (w : World) (hlt : id < 3000000000 := by decide) :
    Calls pr f #[] w fun e w' => e = .returned (.bool true) ∧ Grown w w' := by
  subst hid
  obtain ⟨m, h⟩ := saysTrue_of hs
  have hc := (evalN_ok N pr hmix ht n).call id [] [] _ _ h
  have hg : Good N none ⟨fun _ _ => none, [], [], w⟩ := ⟨rfl, fun b o v h => by simp at h, fun i x h => by simp at h, fun i j R s s' h => by
    rcases h with ⟨cs, h⟩ | ⟨n, k, h⟩ <;> simp at h⟩
  obtain ⟨g, vals', _, hgv, hc⟩ := hc ⟨fun _ _ => none, [], [], w⟩ [] hg rfl (by simp [VReps])
  obtain ⟨rfl, rfl⟩ := hgv hlt
  refine hc.mono ?_
  rintro e w' ⟨c', v, rfl, rfl, _, _, ht, _, hv⟩
  have hv := hv rfl
  simp only [VRep, Rep] at hv
  subst hv
  refine ⟨rfl, ?_⟩
  have hno : ∀ b, ¬ Owned (⟨fun _ _ => none, [], [], w⟩ : Cfg) b := by
    rintro b ⟨i, s, hl, _⟩
    rcases hl with ⟨cs, h⟩ | ⟨n, k, h⟩ <;> simp at h
  exact ⟨World.keptBut.congr (World.keptBut_refl _ _) ht.os ht.output fun k hk => ht.frame k hk (hno k), ht.fz, ht.size⟩

end Go.Am

/- Methods that are come to over method expressions and over interface values. No condition. -/

namespace Go.Am
open Go
variable (pr : Program)

theorem extract_tail (v : Value) (rest : Array Value) : (#[v] ++ rest).extract 1 (#[v] ++ rest).size = rest := by
  apply Array.ext'
  simp [List.extract_eq_take_drop]

theorem invoke_methodOf {t : TypeId} {nm : String} {T : TypeDesc} (hT : (match T with | .interface _ => false | _ => true) = true) (hu : pr.underlying t = some T) (v : Value) (rest : Array Value) (w : World) :
    (invoke (.fn (.methodOf t nm) #[]) (#[v] ++ rest)).run pr w = (callMethod (.iface t v) nm rest).run pr w := by
  have h0 : (#[v] ++ rest)[0]? = some v := by rw [Array.getElem?_append_left (by simp)]; rfl
  simp only [invoke, h0, extract_tail]
  rw [Sem.run_bind, run_underlying hu]
  simp only [Result.andThen_ok]
  cases T <;> first | rfl | (simp at hT)

theorem invoke_method {nm : String} (v : Value) (rest : Array Value) (w : World) :
    (invoke (.fn (.method nm) #[]) (#[v] ++ rest)).run pr w = (callMethod v nm rest).run pr w := by
  have h0 : (#[v] ++ rest)[0]? = some v := by rw [Array.getElem?_append_left (by simp)]; rfl
  simp only [invoke, h0, extract_tail]
end Go.Am

/- What a law is handed, as data. -/


namespace Go.Am
open Go

variable (N : Nm) (pr : Program)

/-- All cells of a world. -/
def allH (w : World) : HM := fun b o => match w.cell? ⟨b, o, none⟩ with
  | some v => if v.oneCell' = true then some v else none
  | none => none

theorem allH_frz (w : World) : FrzOk (allH w) w := fun b o v h => by
  unfold allH at h
  split at h
  · rename_i u hu
    split at h
    · rename_i h1; cases h; exact ⟨hu, h1⟩
    · cases h
  · cases h

def nOf (t : Nat) : Nat := match pr.underlying t with
  | some (.struct _) => pr.cellsOf t
  | some (.array _ _) => pr.cellsOf t
  | _ => 0

/-- The fields lie one behind the other. -/
def tiles : Nat → List Field → Option Nat
  | o, [] => some o
  | o, f :: r => if f.offset = o then tiles (o + pr.cellsOf f.type) r else none

/-- Types that are read. -/
def okTy : Nat → Nat → Bool
  | 0, _ => false
  | k + 1, t => match pr.underlying t with
    | some .bool => true
    | some (.int _) => true
    | some .string => true
    | some (.slice e) => okTy k e && pr.cellsOf e == sz (nOf pr e)
    | some (.struct fs) => tiles pr 0 fs.toList == some (pr.cellsOf t) && pr.cellsOf t != 0 && fs.toList.all fun f => okTy k f.type
    | _ => false

def tyP : Nat → Nat → List P → Prop
  | 0, _, _ => False
  | k + 1, t, ps => match pr.underlying t with
    | some .bool => ∃ b, ps = [.v (.bool b)]
    | some (.int kd) => ∃ n, ps = [.v (.int kd n)] ∧ (Lit.int kd n).wf = true
    | some .string => ∃ s, ps = [.v (.string s)] ∧ s.size ≤ maxLen
    | some (.slice e) => ∃ es, ps = [.sl (nOf pr e) es] ∧ (es.length ≤ maxLen ∧ es.length * pr.bytesOf e ≤ reachBytes) ∧ ∀ x ∈ es, tyP k e x.cells ∧ (x.isAgg = true ↔ nOf pr e ≠ 0)
    | some (.struct fs) => ps.length = pr.cellsOf t ∧ ∀ f ∈ fs.toList, tyP k f.type ((ps.drop f.offset).take (pr.cellsOf f.type))
    | _ => False

theorem mapM_get {α β : Type} {f : α → Option β} : ∀ {l : List α} {r : List β}, l.mapM f = some r → l.length = r.length ∧ ∀ (i : Nat) (a : α), l[i]? = some a → ∃ b, r[i]? = some b ∧ f a = some b
  | [], r, h => by
    simp only [List.mapM_nil, Option.pure_def, Option.some.injEq] at h; subst h
    exact ⟨rfl, fun i a h => by simp at h⟩
  | x :: l, r, h => by
    simp only [List.mapM_cons, Option.bind_eq_bind, Option.bind_eq_some_iff, Option.pure_def, Option.some.injEq] at h
    obtain ⟨b, hb, s, hs, rfl⟩ := h
    obtain ⟨h1, h2⟩ := mapM_get hs
    refine ⟨by simp [h1], fun i a hi => ?_⟩
    cases i with
    | zero => simp at hi; subst hi; exact ⟨b, by simp, hb⟩
    | succ i => simpa using h2 i a (by simpa using hi)

theorem cells_get {w : World} {base : Nat} {a : Addr} {n : Nat} {cs : List Value} (h : w.cells? base a n = some cs) : cs.length = n ∧ ∀ (i : Nat) (v : Value), cs[i]? = some v → w.cell? (a.add i) = some v := by
  unfold World.cells? at h
  split at h
  · obtain ⟨h1, h2⟩ := mapM_get h
    simp only [List.length_range] at h1
    refine ⟨h1.symm, fun i v hv => ?_⟩
    have hl : i < n := by rw [h1]; exact (List.getElem?_eq_some_iff.1 hv).1
    obtain ⟨b, hb, hf⟩ := h2 i i (by simp [hl])
    rw [hv] at hb; cases hb; exact hf
  · cases h

theorem choose_list {α : Type} {Q : Nat → α → Prop} : ∀ (n : Nat), (∀ i, i < n → ∃ x, Q i x) → ∃ l : List α, l.length = n ∧ ∀ (i : Nat) (x : α), l[i]? = some x → Q i x
  | 0, _ => ⟨[], rfl, fun i x h => by simp at h⟩
  | n + 1, h => by
    obtain ⟨l, h1, h2⟩ := choose_list n fun i hi => h i (by omega)
    obtain ⟨x, hx⟩ := h n (by omega)
    refine ⟨l ++ [x], by simp [h1], fun i y hy => ?_⟩
    by_cases hi : i < l.length
    · rw [List.getElem?_append_left hi] at hy; exact h2 i y hy
    · rw [List.getElem?_append_right (by omega)] at hy
      have h0 : i - l.length = 0 := by
        have := (List.getElem?_eq_some_iff.1 hy).1
        simp at this; omega
      rw [h0] at hy
      simp at hy; subst hy
      have : i = n := by omega
      rw [this]; exact hx

theorem add_add {a : Addr} (h : a.spot = none) (m j : Nat) : (a.add m).add j = ⟨a.block, a.off + m + j, none⟩ := by
  obtain ⟨b, o, sp⟩ := a
  simp only at h; subst h
  unfold Addr.add
  by_cases hm : m = 0 <;> by_cases hj : j = 0 <;> simp [hm, hj]

theorem spot_none {w : World} {a : Addr} {v : Value} (h : w.cell? a = some v) : a.spot = none := by
  unfold World.cell? at h
  split at h
  · split at h
    · cases h
    · rename_i hh; simpa using hh
  · cases h

structure Reads (w : World) (k t : Nat) (ps : List P) (cs : List Value) : Prop where
  rep : Reps N (allH w) ps cs
  ty : tyP pr k t ps
  flat : ∀ p ∈ ps, p.isAgg = false
  one : ∀ v ∈ cs, v.oneCell' = true

theorem Reps.take_drop {H : HM} {ps : List P} {cs : List Value} (h : Reps N H ps cs) (o n : Nat) : Reps N H ((ps.drop o).take n) ((cs.drop o).take n) :=
  Reps.of N (by simp [Reps.length N h]) fun j p v hp hv => by
    rw [List.getElem?_take] at hp hv
    split at hp
    · rename_i hj
      rw [if_pos hj] at hv
      rw [List.getElem?_drop] at hp hv
      obtain ⟨u, h1, h2⟩ := Reps.get N h _ p hp
      rw [h1] at hv; cases hv; exact h2
    · cases hp

theorem Reps.app {H : HM} : ∀ {ps qs : List P} {us vs : List Value}, Reps N H ps us → Reps N H qs vs → Reps N H (ps ++ qs) (us ++ vs)
  | [], _, _, _, h, k => by simp only [Reps] at h; subst h; simpa using k
  | x :: r, _, _, _, h, k => by
    simp only [Reps, List.cons_append] at h ⊢
    obtain ⟨v, s, rfl, h1, h2⟩ := h
    exact ⟨v, s ++ _, rfl, h1, Reps.app h2 k⟩

theorem tiles_ge {fs : List Field} : ∀ {o tot : Nat}, tiles pr o fs = some tot → o ≤ tot ∧ ∀ f ∈ fs, o ≤ f.offset ∧ f.offset + pr.cellsOf f.type ≤ tot := by
  induction fs with
  | nil => intro o tot h; simp only [tiles, Option.some.injEq] at h; subst h; exact ⟨Nat.le_refl _, by simp⟩
  | cons f r ih =>
    intro o tot h
    simp only [tiles] at h
    split at h
    · rename_i hf
      obtain ⟨h1, h2⟩ := ih h
      refine ⟨by omega, fun g hg => ?_⟩
      rcases List.mem_cons.1 hg with rfl | hg
      · omega
      · have := h2 g hg; omega
    · cases h

theorem fields_read {w : World} {k : Nat} {cs : List Value} : ∀ (fs : List Field) (o tot : Nat), tiles pr o fs = some tot → tot ≤ cs.length → (∀ f ∈ fs, ∃ ps, Reads N pr w k f.type ps ((cs.drop f.offset).take (pr.cellsOf f.type))) →
    ∃ ps, Reps N (allH w) ps ((cs.drop o).take (tot - o)) ∧ ps.length = tot - o ∧ (∀ f ∈ fs, tyP pr k f.type ((ps.drop (f.offset - o)).take (pr.cellsOf f.type))) ∧ (∀ p ∈ ps, p.isAgg = false) ∧ ∀ v ∈ (cs.drop o).take (tot - o), v.oneCell' = true
  | [], o, tot, h, _, _ => by
    simp only [tiles, Option.some.injEq] at h; subst h
    exact ⟨[], by simp [Reps], by simp, by simp, by simp, by simp⟩
  | f :: r, o, tot, h, hl, hr => by
    have hge := tiles_ge pr h
    simp only [tiles] at h
    split at h
    · rename_i hf
      obtain ⟨qs, q1, q2, q3, q4, q5⟩ := fields_read r (o + pr.cellsOf f.type) tot h hl fun g hg => hr g (by simp [hg])
      obtain ⟨ps, hp⟩ := hr f (by simp)
      rw [hf] at hp
      have hf2 := hge.2 f (by simp)
      have hlen : ps.length = pr.cellsOf f.type := by rw [Reps.length N hp.rep]; simp; omega
      have hcs : (cs.drop o).take (tot - o) = (cs.drop o).take (pr.cellsOf f.type) ++ (cs.drop (o + pr.cellsOf f.type)).take (tot - (o + pr.cellsOf f.type)) := by
        have h1 : tot - o = pr.cellsOf f.type + (tot - (o + pr.cellsOf f.type)) := by omega
        rw [h1, List.take_add, List.drop_drop]
      have hrest := (tiles_ge pr h).2
      refine ⟨ps ++ qs, by rw [hcs]; exact Reps.app N hp.rep q1, by rw [List.length_append, hlen, q2]; omega, fun g hg => ?_, fun p hpp => ?_, fun v hv => ?_⟩
      · rcases List.mem_cons.1 hg with rfl | hg
        · have : ((ps ++ qs).drop (g.offset - o)).take (pr.cellsOf g.type) = ps := by
            rw [hf, Nat.sub_self, List.drop_zero, ← hlen, List.take_left]
          rw [this]; exact hp.ty
        · have h1 := hrest g hg
          have : ((ps ++ qs).drop (g.offset - o)).take (pr.cellsOf g.type) = (qs.drop (g.offset - (o + pr.cellsOf f.type))).take (pr.cellsOf g.type) := by
            rw [List.drop_append, List.drop_of_length_le (by omega), List.nil_append, hlen]
            congr 2
            omega
          rw [this]; exact q3 g hg
      · rcases List.mem_append.1 hpp with h | h
        · exact hp.flat p h
        · exact q4 p h
      · rw [hcs] at hv
        rcases List.mem_append.1 hv with h | h
        · exact hp.one v h
        · exact q5 v h
    · cases h

theorem mem_weightsAll {Hd : Type} {e : TypeId} {d : DataW Hd} : ∀ {l : List (DataW Hd)}, d ∈ l → ∀ x ∈ d.weights pr e, x ∈ DataW.weightsAll pr e l
  | y :: r, h, x, hx => by
    simp only [DataW.weightsAll, List.mem_append]
    rcases List.mem_cons.1 h with rfl | h
    · exact .inl hx
    · exact .inr (mem_weightsAll h x hx)

theorem trod_reads {Hd : Type} {enc : TypeId × Value → Hd} {w : World} {base : Nat} {spare : Nat → Bool} {held : Bool} : ∀ (k t fuel : Nat) (cs : List Value) (d : DataW Hd) (pl : List MemPlace), okTy pr k t = true → DataW.trod enc pr w base spare held fuel t cs = some (d, pl) → (∀ x ∈ d.weights pr t, x ≤ reachBytes) → ∃ ps, Reads N pr w k t ps cs := by
  intro k
  induction k with
  | zero => intro t fuel cs d pl h; simp [okTy] at h
  | succ k ih =>
    intro t fuel cs d pl ho h hsz0
    cases fuel with
    | zero => simp [DataW.trod] at h
    | succ fuel =>
      simp only [okTy] at ho
      simp only [DataW.trod] at h
      cases hu : pr.underlying t with
      | none => simp [hu] at ho
      | some ty =>
        rw [hu] at ho h
        cases ty <;> simp only [Bool.false_eq_true] at ho
        case bool =>
          split at h
          all_goals try (rename_i e; cases e; done)
          all_goals try (cases h; done)
          rename_i b _
          exact ⟨[.v (.bool b)], ⟨by simp only [Reps, Rep]; exact ⟨_, [], rfl, rfl, rfl⟩, by simp only [tyP, hu]; exact ⟨b, rfl⟩, by simp [P.isAgg], by simp [Value.oneCell']⟩⟩
        case int kd =>
          split at h
          all_goals try (rename_i e; cases e; done)
          all_goals try (cases h; done)
          rename_i k1 k2 n e
          cases e
          split at h
          · rename_i hk
            obtain ⟨rfl, hw⟩ := hk
            exact ⟨[.v (.int _ n)], ⟨by simp only [Reps, Rep]; exact ⟨_, [], rfl, rfl, rfl⟩, by simp only [tyP, hu]; exact ⟨n, rfl, hw⟩, by simp [P.isAgg], by simp [Value.oneCell']⟩⟩
          · cases h
        case string =>
          split at h
          all_goals try (rename_i e; cases e; done)
          all_goals try (cases h; done)
          rename_i b _
          split at h
          · rename_i hk
            exact ⟨[.v (.string b)], ⟨by simp only [Reps, Rep]; exact ⟨_, [], rfl, rfl, rfl⟩, by simp only [tyP, hu]; exact ⟨b, rfl, hk⟩, by simp [P.isAgg], by simp [Value.oneCell']⟩⟩
          · cases h
        case slice e =>
          simp only [Bool.and_eq_true, beq_iff_eq] at ho
          obtain ⟨hoe, hsz⟩ := ho
          split at h
          all_goals try (rename_i e; cases e; done)
          all_goals try (cases h; done)
          · exact ⟨[.sl (nOf pr e) []], ⟨by simp only [Reps, Rep]; exact ⟨_, [], rfl, ⟨none, 0, ⟨rfl, Nat.le_refl _⟩, fun h => absurd rfl h⟩, rfl⟩, by simp only [tyP, hu]; exact ⟨[], rfl, ⟨by simp, by simp⟩, by simp⟩, by simp [P.isAgg], by simp [Value.oneCell']⟩⟩
          · rename_i e' a len cap he
            cases he
            split at h
            · rename_i hc
              obtain ⟨hb, hlc, hcm⟩ := hc
              simp only [Option.bind_eq_some_iff] at h
              obtain ⟨elems, hel, h⟩ := h
              simp only [Option.map_eq_some_iff] at h
              obtain ⟨rest, _, hd⟩ := h
              simp only [Prod.mk.injEq] at hd
              obtain ⟨rfl, _⟩ := hd
              simp only [DataW.weights, hu, List.mem_cons, List.mem_append, List.length_map] at hsz0
              obtain ⟨hl1, hl2⟩ := mapM_get hel
              have hpos : 0 < sz (nOf pr e) := by unfold sz; split <;> omega
              have hagg : ∀ {ps : List P}, tyP pr k e ps → ps.length = pr.cellsOf e → nOf pr e = 0 → ∃ x, ps = [x] := fun {ps} _ hl h0 => by
                rw [hsz, h0] at hl
                match ps, hl with
                | [x], _ => exact ⟨x, rfl⟩
              have hspot : 0 < len → a.spot = none := fun hi => by
                obtain ⟨x, _, hx⟩ := hl2 0 0 (by simp [hi])
                simp only [Option.bind_eq_some_iff] at hx
                obtain ⟨cs, hcs, hx⟩ := hx
                obtain ⟨c1, c2⟩ := cells_get hcs
                have h0 := c2 0 _ (List.getElem?_eq_getElem (by rw [c1, hsz]; exact hpos))
                have hz : (a.add (0 * pr.cellsOf e)).add 0 = a := by simp [Addr.add]
                rw [hz] at h0
                exact spot_none h0
              obtain ⟨es, he1, he2⟩ := choose_list (Q := fun i (x : P) => (tyP pr k e x.cells ∧ (x.isAgg = true ↔ nOf pr e ≠ 0)) ∧ a.spot = none ∧ ∃ v, Lies (allH w) (nOf pr e) a.block (a.off + i * sz (nOf pr e)) v ∧ Rep N (allH w) x v) len fun i hi => by
                obtain ⟨x, hxe, hx⟩ := hl2 i i (by simp [hi])
                simp only [Option.bind_eq_some_iff] at hx
                obtain ⟨cs, hcs, hx⟩ := hx
                obtain ⟨d', p'⟩ := x
                obtain ⟨ps, hr⟩ := ih e fuel cs d' p' hoe hx fun z hz => hsz0 z (.inr (.inl (mem_weightsAll pr (d := d') (by rw [List.mem_map]; exact ⟨(d', p'), List.mem_of_getElem? hxe, rfl⟩) z hz)))
                obtain ⟨c1, c2⟩ := cells_get hcs
                have hpl : ps.length = pr.cellsOf e := by rw [Reps.length N hr.rep, c1]
                have hsp : a.spot = none := hspot (by omega)
                have hcell : ∀ j v, cs[j]? = some v → allH w a.block (a.off + i * sz (nOf pr e) + j) = some v := fun j v hv => by
                  have h1 := c2 j v hv
                  rw [add_add hsp, hsz] at h1
                  unfold allH
                  rw [h1]
                  simp [hr.one v (List.mem_of_getElem? hv)]
                have hne : ∃ v, cs[0]? = some v := ⟨cs[0]'(by rw [c1, hsz]; exact hpos), List.getElem?_eq_getElem _⟩
                obtain ⟨v0, hv0⟩ := hne
                by_cases h0 : nOf pr e = 0
                · obtain ⟨x, rfl⟩ := hagg hr.ty hpl h0
                  have hxa := hr.flat x (by simp)
                  have hxc : x.cells = [x] := by cases x <;> first | rfl | (simp [P.isAgg] at hxa)
                  refine ⟨x, ⟨by rw [hxc]; exact hr.ty, by simp [hxa, h0]⟩, hsp, v0, .inl ⟨h0, by simpa using hcell 0 v0 hv0⟩, ?_⟩
                  obtain ⟨u, q1, q2⟩ := Reps.get N hr.rep 0 x rfl
                  rw [hv0] at q1; cases q1; exact q2
                · refine ⟨.agg ps, ⟨hr.ty, by simp [P.isAgg, h0]⟩, hsp, .agg cs.toArray, .inr ⟨h0, cs, by rw [c1, hsz]; simp [sz, h0], rfl, fun j c hj => hcell j c hj⟩, by simp only [Rep]; exact ⟨cs, rfl, hr.rep⟩⟩
              refine ⟨[.sl (nOf pr e) es], ⟨?_, ?_, by simp [P.isAgg], by simp [Value.oneCell']⟩⟩
              · simp only [Reps, Rep]
                refine ⟨_, [], rfl, ⟨some a, cap, ⟨by rw [he1], by rw [he1]; exact hlc⟩, fun hne => ?_⟩, rfl⟩
                obtain ⟨x, hx⟩ : ∃ x, es[0]? = some x := by
                  cases es with
                  | nil => exact absurd rfl hne
                  | cons x r => exact ⟨x, rfl⟩
                have hsp := (he2 0 x hx).2.1
                refine ⟨a.block, a.off, ?_, RepEs.of N fun j p hj => ?_⟩
                · cases a; simp only at hsp; subst hsp; rfl
                · obtain ⟨h1, _, v, h2, h3⟩ := he2 j p hj
                  exact ⟨v, h2, h3, h1.2⟩
              · simp only [tyP, hu]
                have hw := hsz0 ((elems.length + rest.length) * pr.bytesOf e) (.inl rfl)
                have hle : es.length * pr.bytesOf e ≤ (elems.length + rest.length) * pr.bytesOf e := Nat.mul_le_mul_right _ (by rw [he1]; simp at hl1; omega)
                refine ⟨es, rfl, ⟨by rw [he1]; omega, by omega⟩, fun x hx => ?_⟩
                obtain ⟨j, hj⟩ := List.getElem?_of_mem hx
                exact (he2 j x hj).1
            · cases h
        case struct fs =>
          simp only [Bool.and_eq_true, beq_iff_eq, bne_iff_ne, ne_eq] at ho
          obtain ⟨⟨ht, h0⟩, hall⟩ := ho
          simp only at h
          split at h
          · rename_i hlen
            simp only [Option.map_eq_some_iff] at h
            obtain ⟨xs, hxs, hd⟩ := h
            simp only [Prod.mk.injEq] at hd
            obtain ⟨rfl, _⟩ := hd
            simp only [DataW.weights, hu] at hsz0
            obtain ⟨_, hg⟩ := mapM_get hxs
            obtain ⟨ps, q1, q2, q3, q4, q5⟩ := fields_read N pr (w := w) (k := k) (cs := cs) fs.toList 0 (pr.cellsOf t) ht (by omega) fun f hf => by
              obtain ⟨j, hj⟩ := List.getElem?_of_mem hf
              obtain ⟨⟨d', p'⟩, hxe, hx⟩ := hg j f hj
              exact ih f.type fuel _ d' p' ((List.all_eq_true.1 hall) f hf) hx fun z hz => hsz0 z (DataW.weights_mem_each (j := j) (t := f.type) (by rw [List.getElem?_map, hj]; rfl) (by rw [List.getElem?_map, hxe]; rfl) z hz)
            simp only [Nat.sub_zero, List.drop_zero] at q1 q2 q3 q5
            rw [List.take_of_length_le (by omega)] at q1 q5
            exact ⟨ps, ⟨q1, by simp only [tyP, hu]; exact ⟨q2, q3⟩, q4, q5⟩⟩
          · cases h
        all_goals cases ho

/-- One argument, as data. -/
structure ArgIs (w : World) (k t : Nat) (q : P) (v : Value) : Prop where
  rep : Rep N (allH w) q v
  ty : tyP pr k t q.cells
  agg : q.isAgg = true ↔ nOf pr t ≠ 0

theorem arg_reads {Hd : Type} {enc : TypeId × Value → Hd} {w w2 : World} {base b2 : Nat} {r : Reach} {spare : Nat → Bool} {held : Bool} {k t : Nat} {v : Value} {d : DataW Hd} {pl : List MemPlace} (ho : okTy pr k t = true) (hc : pr.cellsOf t = sz (nOf pr t)) (hok : Value.okWide pr w2 r b2 t v)
    (h : DataW.Trod enc pr w base spare held t v d pl) (hw : ∀ x ∈ d.weights pr t, x ≤ reachBytes) : ∃ q, ArgIs N pr w k t q v := by
  obtain ⟨fuel, hf⟩ := h
  obtain ⟨ps, hr⟩ := trod_reads N pr k t fuel v.cells.toList d pl ho hf hw
  by_cases h0 : nOf pr t = 0
  · have hna : ¬ ∃ cs, v = .agg cs := by
      rintro ⟨cs, rfl⟩
      cases k with
      | zero => simp [okTy] at ho
      | succ k =>
        simp only [okTy] at ho
        unfold Value.okWide Cell.okWide Cell.ok at hok
        unfold nOf at h0
        cases hu : pr.underlying t with
        | none => simp [hu] at ho
        | some ty =>
          rw [hu] at ho hok h0
          cases ty <;> simp at ho hok h0
          obtain ⟨⟨_, h2⟩, _⟩ := ho
          exact h2 h0
    rw [cells_one hna] at hr
    obtain ⟨p, hp⟩ : ∃ p, ps = [p] := by
      have hl := Reps.length N hr.rep
      match ps, hl with
      | [p], _ => exact ⟨p, rfl⟩
    subst hp
    have hpa := hr.flat p (by simp)
    have hpc : p.cells = [p] := by cases p <;> first | rfl | (simp [P.isAgg] at hpa)
    obtain ⟨u, q1, q2⟩ := Reps.get N hr.rep 0 p rfl
    simp at q1; subst q1
    exact ⟨p, q2, by rw [hpc]; exact hr.ty, by simp [hpa, h0]⟩
  · have hag : ∃ cs, v = .agg cs := by
      unfold Value.okWide at hok
      unfold nOf at h0
      cases hu : pr.underlying t with
      | none => rw [hu] at h0; simp at h0
      | some ty =>
        rw [hu] at hok h0
        cases ty <;> simp at hok h0
        all_goals (obtain ⟨cs, h, _⟩ := hok; exact ⟨cs, h⟩)
    obtain ⟨cs, rfl⟩ := hag
    rw [cells_agg] at hr
    exact ⟨.agg ps, by simp only [Rep]; exact ⟨cs.toList, by simp, hr.rep⟩, hr.ty, by simp [P.isAgg, h0]⟩

open Go.RowKit in
/-- An open law, at arguments that are read as data. -/
theorem open_law (hmix : pr.follows .mixedOrders = true) {tbl : Nat → Option AFn} (ht : TblOk N pr tbl) {id f : Nat} (hid : N.num id = f) {w : World} {qs : List P} {vals : List Value} (hr : Reps N (allH w) qs vals)
    (hs : ∃ n, saysTrue ((evalN tbl n).call id (qs.map V.p) []) = true) (hlt : id < 3000000000) : Calls pr f vals.toArray w fun e w' => e = .returned (.bool true) ∧ Grown w w' ∧ w'.tape = w.tape ∧ ∀ k, k < w.heap.size → w'.heap[k]? = w.heap[k]? := by
  subst hid
  obtain ⟨n, hs⟩ := hs
  obtain ⟨m, h⟩ := saysTrue_of hs
  have hc := (evalN_ok N pr hmix ht n).call id _ _ _ _ h
  have hno : ∀ b, ¬ Owned (⟨allH w, [], [], w⟩ : Cfg) b := by
    rintro b ⟨i, s, hl, _⟩
    rcases hl with ⟨cs, h⟩ | ⟨n, k, h⟩ <;> simp at h
  have hg : Good N none ⟨allH w, [], [], w⟩ := ⟨rfl, allH_frz w, fun i x h => by simp at h, fun i j R s s' h => by
    rcases h with ⟨cs, h⟩ | ⟨n, k, h⟩ <;> simp at h⟩
  obtain ⟨g, vals', _, hgv, hc⟩ := hc ⟨allH w, [], [], w⟩ vals hg rfl (VReps.ofReps N hr)
  obtain ⟨rfl, rfl⟩ := hgv hlt
  refine hc.mono ?_
  rintro e w' ⟨c', v, rfl, rfl, _, _, ht, _, hv⟩
  have hv := hv rfl
  simp only [VRep, Rep] at hv
  subst hv
  exact ⟨rfl, ⟨World.keptBut.congr (World.keptBut_refl _ _) ht.os ht.output fun k hk => ht.frame k hk (hno k), ht.fz, ht.size⟩, ht.tape, fun k hk => ht.frame k hk (hno k)⟩

end Go.Am
