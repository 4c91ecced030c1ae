/- Steps of the machine alone: new places, blocks laid open, nil slices that get a place, memory numbered anew. -/
import Derived.Test.YtbepkgilphbhaaaAmSwap
namespace Go.Am
open Go

variable (N : Nm) (ly : Option Nat)

def Kept (t : Array Value) (c : Cfg) (fr' : Fr) (m' : List Blk) : Prop :=
  ∃ c', c'.w = c.w ∧ c'.m = m' ∧ Good N ly c' ∧ FRep N ly c' fr' t ∧ Trans c c' ∧ Ext c.H c.φ c.m c'.H c'.φ c'.m

theorem Kept.refl {t : Array Value} {c : Cfg} {fr : Fr} (hg : Good N ly c) (hf : FRep N ly c fr t) : Kept N ly t c fr c.m := ⟨c, rfl, rfl, hg, hf, Trans.refl c, Ext.refl⟩

theorem Kept.trans {t : Array Value} {c : Cfg} {fr' fr'' : Fr} {m' m'' : List Blk} (h : Kept N ly t c fr' m') (k : ∀ c' : Cfg, c'.w = c.w → c'.m = m' → Good N ly c' → FRep N ly c' fr' t → Kept N ly t c' fr'' m'') : Kept N ly t c fr'' m'' := by
  obtain ⟨c1, h1, h2, h3, h4, h5, h6⟩ := h
  obtain ⟨c2, k1, k2, k3, k4, k5, k6⟩ := k c1 h1 h2 h3 h4
  exact ⟨c2, k1.trans h1, k2, k3, k4, h5.trans k5, h6.trans k6⟩

theorem mapF_get {f : V → Option V} (hu : f .unk = some .unk) : ∀ {l l' : List (Nat × V)}, mapF f l = some l' → ∀ i, f (getF l i) = some (getF l' i)
  | [], _, h, i => by simp only [mapF, Option.some.injEq] at h; subst h; exact hu
  | (j, x) :: r, _, h, i => by
    simp only [mapF] at h
    split at h
    · rename_i y s hy hs
      simp only [Option.some.injEq] at h; subst h
      simp only [getF, bif_beq]
      split
      · exact hy
      · exact mapF_get hu hs i
    · cases h

theorem Fr.map_get {f : V → Option V} (hu : f .unk = some .unk) {fr fr' : Fr} (h : fr.map? f = some fr') : fr'.n = fr.n ∧ ∀ i, f (fr.get i) = some (fr'.get i) := by
  unfold Fr.map? at h
  split at h
  · rename_i l hl
    simp only [Option.some.injEq] at h; subst h
    exact ⟨rfl, mapF_get hu hl⟩
  · cases h

theorem FRep.map {c c' : Cfg} {fr fr' : Fr} {t : Array Value} {f : V → Option V} (hf : FRep N ly c fr t) (hu : f .unk = some .unk) (h : fr.map? f = some fr') (hr : ∀ (x y : V) (v : Value), f x = some y → VRep N ly c.H c.φ c.m x v → VRep N ly c'.H c'.φ c'.m y v) : FRep N ly c' fr' t := by
  obtain ⟨h1, h2⟩ := Fr.map_get hu h
  exact ⟨h1.trans hf.1, fun i => hr _ _ _ (h2 i) (hf.2 i)⟩

theorem numF_get : ∀ (xs : List V) (k i : Nat), getF (numF k xs) i = if i < k then .unk else (xs[i - k]?).getD .unk
  | [], k, i => by simp [numF, getF]
  | x :: r, k, i => by
    simp only [numF, getF, bif_beq, numF_get r (k + 1) i]
    rcases Nat.lt_trichotomy i k with h | h | h
    · have h1 : ¬ k = i := by omega
      have h2 : i < k + 1 := by omega
      simp [h, h1, h2]
    · subst h; simp
    · have h1 : ¬ k = i := by omega
      have h2 : ¬ i < k := by omega
      have h3 : ¬ i < k + 1 := by omega
      have h4 : i - k = (i - (k + 1)) + 1 := by omega
      simp [h1, h2, h3, h4]

theorem FRep.of {c : Cfg} {xs : List V} {vs : List Value} (h : VReps N ly c.H c.φ c.m xs vs) (n : Nat) (hn : vs.length ≤ n) : FRep N ly c (Fr.of n xs) (vs.toArray ++ Array.replicate (n - vs.length) undef) := by
  refine ⟨by simp [Fr.of]; omega, fun i => ?_⟩
  have hg : (Fr.of n xs).get i = (xs[i]?).getD .unk := by
    show getF (numF 0 xs) i = _
    rw [numF_get]; simp
  rw [hg]
  cases hx : xs[i]? with
  | none => simp only [Option.getD_none, VRep]
  | some x =>
    obtain ⟨v, h1, h2⟩ := VReps.get N ly h i x hx
    have hl : i < vs.length := (List.getElem?_eq_some_iff.1 h1).1
    have : (vs.toArray ++ Array.replicate (n - vs.length) undef).getD i undef = v := by
      rw [Array.getD_eq_getD_getElem?, Array.getElem?_append_left (by simpa using hl), List.getElem?_toArray, h1]; rfl
    rw [this]; exact h2

theorem holes_ok {c : Cfg} {fr : Fr} {t : Array Value} (hg : Good N ly c) (hf : FRep N ly c fr t) (k : Nat) : Kept N ly t c fr (c.m ++ List.replicate k .hole) := by
  obtain ⟨h1, h2, h3⟩ := more_blocks N ly hg (List.replicate k .hole) (List.replicate k none) (by simp) fun j x hx => .inr (.inl (List.eq_of_mem_replicate (List.mem_of_getElem? hx)))
  exact ⟨⟨c.H, c.φ ++ List.replicate k none, c.m ++ List.replicate k .hole, c.w⟩, rfl, rfl, h1, hf.ext N ly (c' := ⟨c.H, c.φ ++ List.replicate k none, c.m ++ List.replicate k .hole, c.w⟩) h3, h2, h3⟩

theorem freeze1_ok {c : Cfg} {st st' : St} {t : Array Value} (hg : Good N ly c) (hm : c.m = st.mem) (hf : FRep N ly c st.fr t) {i : Nat} (h : freeze1 i st = some st') : Kept N ly t c st'.fr st'.mem := by
  unfold freeze1 at h
  split at h
  · rename_i cs hi
    split at h
    · rename_i ps hps
      split at h
      · rename_i fr mem ho hb
        simp only [Option.some.injEq] at h; subst h
        rw [← hm] at hi hb
        obtain ⟨H', h1, h2, h3, h4⟩ := open_row N ly hg i cs ps mem hi hps hb
        exact ⟨⟨H', c.φ, mem, c.w⟩, rfl, rfl, h1, FRep.map N ly (f := V.open_ i ps) hf rfl ho h4, h2, h3⟩
      · cases h
    · cases h
  · simp only [Option.some.injEq] at h; subst h
    rw [← hm]; exact Kept.refl N ly hg hf

theorem freezeAll_ok : ∀ (l : List Nat) {c : Cfg} {st st' : St} {t : Array Value}, Good N ly c → c.m = st.mem → FRep N ly c st.fr t → freezeAll l st = some st' → Kept N ly t c st'.fr st'.mem
  | [], c, st, st', t, hg, hm, hf, h => by
    simp only [freezeAll, Option.some.injEq] at h; subst h
    rw [← hm]; exact Kept.refl N ly hg hf
  | i :: r, c, st, st', t, hg, hm, hf, h => by
    simp only [freezeAll, Option.bind_eq_some_iff] at h
    obtain ⟨st1, h1, h2⟩ := h
    exact (freeze1_ok N ly hg hm hf h1).trans N ly fun c' _ e2 e3 e4 => freezeAll_ok r e3 e2 e4 h2

theorem freezeSlots_ok {l : List Nat} {c : Cfg} {st st' : St} {t : Array Value} (hg : Good N ly c) (hm : c.m = st.mem) (hf : FRep N ly c st.fr t) (h : freezeSlots l st = some st') : Kept N ly t c st'.fr st'.mem := by
  unfold freezeSlots at h
  split at h
  · simp only [Option.some.injEq] at h; subst h
    rw [← hm]; exact Kept.refl N ly hg hf
  · exact freezeAll_ok N ly _ hg hm hf h

theorem tok_new {c : Cfg} (hg : Good N ly c) (n : Nat) :
    Good N ly ⟨c.H, c.φ ++ [none], c.m ++ [.tok n 0], c.w⟩ ∧ Trans c ⟨c.H, c.φ ++ [none], c.m ++ [.tok n 0], c.w⟩ ∧ Ext c.H c.φ c.m c.H (c.φ ++ [none]) (c.m ++ [.tok n 0]) ∧
    ∀ v, VRep N ly c.H c.φ c.m (.nil n) v → VRep N ly c.H (c.φ ++ [none]) (c.m ++ [.tok n 0]) (.sl n c.m.length []) v := by
  obtain ⟨h1, h2, h3⟩ := more_blocks N ly hg [.tok n 0] [none] rfl fun j x hx => by
    cases j with
    | zero => simp at hx; subst hx; exact .inr (.inr ⟨n, rfl, rfl⟩)
    | succ j => simp at hx
  refine ⟨h1, h2, h3, fun v hv => ?_⟩
  have hp := VRep.toP N ly (.nil n) (.sl n []) v rfl hv
  simp only [VRep] at hv ⊢
  refine ⟨hp, .inr ⟨0, by simp, Nat.le_refl _, fun _ => .inl ⟨rfl, hv⟩⟩⟩

theorem lift1_ok {c : Cfg} {st : St} {t : Array Value} (hg : Good N ly c) (hm : c.m = st.mem) (hf : FRep N ly c st.fr t) (d : Nat) : Kept N ly t c (lift1 d st).fr (lift1 d st).mem := by
  unfold lift1
  split
  · rename_i n hd
    obtain ⟨h1, h2, h3, h4⟩ := tok_new N ly hg n
    rw [← hm]
    refine ⟨⟨c.H, c.φ ++ [none], c.m ++ [.tok n 0], c.w⟩, rfl, rfl, h1, ⟨by rw [Fr.put_n]; exact hf.1, fun i => ?_⟩, h2, h3⟩
    rw [Fr.get_put]
    split
    · rename_i e
      obtain ⟨rfl, _⟩ := e
      have := hf.2 d
      rw [hd] at this
      exact h4 _ this
    · exact h3.rep N ly _ _ (hf.2 i)
  · rename_i b off hd
    split
    · rename_i cs hb
      split
      · rename_i n hn
        obtain ⟨h1, h2, h3, h4⟩ := tok_new N ly hg n
        rw [← hm] at hb ⊢
        have hlt := (List.getElem?_eq_some_iff.1 hb).1
        have hb' : (c.m ++ [Blk.tok n 0])[b]? = some (.cells cs) := by rw [List.getElem?_append_left hlt]; exact hb
        obtain ⟨R, s, arr, e, q1, q2, q3, q4, q5, q6⟩ := hg.blk b _ hb
        have hz : (c.φ ++ [none])[b]? = c.φ[b]? := List.getElem?_append_left (by rw [hg.len]; exact hlt)
        obtain ⟨k1, k2, k3⟩ := retell N ly h1 b R s cs (cs.set off (.sl n c.m.length [])) hb' (hz.trans q1) (by simpa using q4) (fun j y v arr' e' ha hy => by
          simp only [q2] at ha
          cases ha
          rw [List.getElem?_set] at hy
          split at hy
          · rename_i e2; subst e2
            split at hy
            · simp only [Option.some.injEq] at hy; subst hy
              obtain ⟨_, u, u1, u2⟩ := q5 off (.nil n) hn
              exact ⟨rfl, u, u1, h4 u u2⟩
            · cases hy
          · obtain ⟨p1, u, u1, u2⟩ := q5 j y hy
            exact ⟨p1, u, u1, h3.rep N ly y u u2⟩)
        have hset : (c.m ++ [Blk.tok n 0]).set b (.cells (cs.set off (.sl n c.m.length []))) = c.m.set b (.cells (cs.set off (.sl n c.m.length []))) ++ [.tok n 0] := List.set_append_left _ _ hlt
        exact ⟨⟨c.H, c.φ ++ [none], (c.m ++ [Blk.tok n 0]).set b (.cells (cs.set off (.sl n c.m.length []))), c.w⟩, rfl, hset, k1, hf.ext N ly (c' := ⟨c.H, c.φ ++ [none], (c.m ++ [Blk.tok n 0]).set b (.cells (cs.set off (.sl n c.m.length []))), c.w⟩) (h3.trans k3), h2.trans k2, h3.trans k3⟩
      · rw [← hm]; exact Kept.refl N ly hg hf
    · rw [← hm]; exact Kept.refl N ly hg hf
  · rw [← hm]; exact Kept.refl N ly hg hf

theorem liftAll_ok : ∀ (l : List Nat) {c : Cfg} {st : St} {t : Array Value}, Good N ly c → c.m = st.mem → FRep N ly c st.fr t → Kept N ly t c (liftAll l st).fr (liftAll l st).mem
  | [], c, st, t, hg, hm, hf => by simp only [liftAll]; rw [← hm]; exact Kept.refl N ly hg hf
  | d :: r, c, st, t, hg, hm, hf => (lift1_ok N ly hg hm hf d).trans N ly fun c' _ e2 e3 e4 => liftAll_ok r e3 e2 e4

theorem keepF_get (keep : List Nat) : ∀ (l : List (Nat × V)) (i : Nat), getF (keepF keep l) i = getF l i ∨ getF (keepF keep l) i = .unk
  | [], i => .inl rfl
  | (j, x) :: r, i => by
    have ih := keepF_get keep r i
    simp only [keepF]
    cases hk : inL j keep with
    | true =>
      simp only [cond_true, getF, bif_beq]
      split
      · exact .inl rfl
      · exact ih
    | false =>
      simp only [cond_false, getF, bif_beq]
      split
      · rename_i e; subst e
        refine .inr ?_
        have key : ∀ l : List (Nat × V), getF (keepF keep l) j = .unk := fun l => by
          induction l with
          | nil => rfl
          | cons p l ih =>
            obtain ⟨q, z⟩ := p
            simp only [keepF]
            cases hq : inL q keep with
            | true =>
              simp only [cond_true, getF, bif_beq]
              split
              · rename_i e; subst e; rw [hk] at hq; cases hq
              · exact ih
            | false => simpa using ih
        exact key r
      · exact ih

theorem dropF_get (gone : List Nat) : ∀ (l : List (Nat × V)) (i : Nat), getF (dropF gone l) i = getF l i ∨ getF (dropF gone l) i = .unk
  | [], i => .inl rfl
  | (j, x) :: r, i => by
    have ih := dropF_get gone r i
    simp only [dropF]
    cases hk : inL j gone with
    | false =>
      simp only [cond_false, getF, bif_beq]
      split
      · exact .inl rfl
      · exact ih
    | true =>
      simp only [cond_true, getF, bif_beq]
      split
      · rename_i e; subst e
        refine .inr ?_
        have key : ∀ l : List (Nat × V), getF (dropF gone l) j = .unk := fun l => by
          induction l with
          | nil => rfl
          | cons p l ih =>
            obtain ⟨q, z⟩ := p
            simp only [dropF]
            cases hq : inL q gone with
            | false =>
              simp only [cond_false, getF, bif_beq]
              split
              · rename_i e; subst e; rw [hk] at hq; cases hq
              · exact ih
            | true => simpa using ih
        exact key r
      · exact ih

theorem FRep.less {c : Cfg} {fr fr' : Fr} {t : Array Value} (hf : FRep N ly c fr t) (hn : fr'.n = fr.n) (h : ∀ i, fr'.get i = fr.get i ∨ fr'.get i = .unk) : FRep N ly c fr' t :=
  ⟨hn.trans hf.1, fun i => by
    rcases h i with h | h <;> rw [h]
    · exact hf.2 i
    · trivial⟩

theorem keepOnly_ok {c : Cfg} {fr : Fr} {t : Array Value} (hf : FRep N ly c fr t) (keep : List Nat) : FRep N ly c (keepOnly keep fr) t :=
  hf.less N ly rfl fun i => keepF_get keep fr.l i

theorem drop_ok {c : Cfg} {fr : Fr} {t : Array Value} (hf : FRep N ly c fr t) (gone : List Nat) : FRep N ly c (fr.drop gone) t := by
  cases gone with
  | nil => exact hf
  | cons d r => exact hf.less N ly rfl fun i => dropF_get (d :: r) fr.l i

theorem gcIdx_is {n0 : Nat} {roots : List V} {m : List Blk} {idx : List Nat} (h : gcIdx n0 roots m = some idx) : ∃ l, idx = List.range n0 ++ l := by
  unfold gcIdx at h
  simp only [Option.map_eq_some_iff] at h
  obtain ⟨l, _, rfl⟩ := h
  exact ⟨_, rfl⟩

theorem gc_ok {c : Cfg} {st st' : St} {t : Array Value} {n0 : Nat} (hg : Good N ly c) (hm : c.m = st.mem) (hf : FRep N ly c st.fr t) (h : gc n0 st = some st') :
    ∃ c', c'.w = c.w ∧ c'.m = st'.mem ∧ Good N ly c' ∧ FRep N ly c' st'.fr t ∧ Trans c c' ∧ ∀ e0 : Cfg, e0.m.length ≤ n0 → Ext e0.H e0.φ e0.m c.H c.φ c.m → Ext e0.H e0.φ e0.m c'.H c'.φ c'.m := by
  unfold gc at h
  split at h
  · rename_i idx hidx
    split at h
    · rename_i fr mem hfr hmem
      split at h
      · rename_i hc
        simp only [Option.some.injEq] at h; subst h
        simp only [Bool.and_eq_true] at hc
        obtain ⟨hlt, hnd⟩ := hc
        have hn := nd_nodup hnd
        rw [← hm] at hmem hlt
        obtain ⟨gl, gget⟩ := renBlks_get hmem
        simp only [List.length_map] at gl
        have hltc : ∀ i ∈ idx, i < c.m.length := fun i hi => by simpa using (List.all_eq_true.1 hlt) i hi
        have hφl : ∀ i k : Nat, idx[k]? = some i → (idx.map fun i => (c.φ[i]?).getD none)[k]? = c.φ[i]? := fun i k hk => by
          have hil : i < c.φ.length := by rw [hg.len]; exact hltc i (List.mem_of_getElem? hk)
          simp [List.getElem?_map, hk, List.getElem?_eq_getElem hil]
        have hml : ∀ i k : Nat, idx[k]? = some i → ∃ x y : Blk, c.m[i]? = some x ∧ mem[k]? = some y ∧ x.ren (fun i => idx.idxOf? i) = some y := fun i k hk => by
          have hkl : k < mem.length := by rw [← gl]; exact (List.getElem?_eq_some_iff.1 hk).1
          obtain ⟨x, hx, hr⟩ := gget k _ (List.getElem?_eq_getElem hkl)
          have hil := hltc i (List.mem_of_getElem? hk)
          refine ⟨x, _, ?_, List.getElem?_eq_getElem hkl, hr⟩
          simp only [List.getElem?_map, hk, Option.map_some, List.getD_eq_getElem?_getD, List.getElem?_eq_getElem hil, Option.getD_some, Option.some.injEq] at hx
          rw [List.getElem?_eq_getElem hil, hx]
        have hL : ∀ i i', idx.idxOf? i = some i' → Leaf c.φ c.m (idx.map fun i => (c.φ[i]?).getD none) mem i i' := fun i i' hi => by
          have hk := idxOf_get hi
          obtain ⟨x, y, h1, h2, h3⟩ := hml i i' hk
          exact leaf_ren h1 h2 h3 (hφl i i' hk)
        obtain ⟨r1, r2⟩ := renum N ly hg (idx.map fun i => (c.φ[i]?).getD none) mem (fun i => idx.idxOf? i) (by simpa using gl) (fun i' x' hx' => by
            have hkl : i' < idx.length := by rw [gl]; exact (List.getElem?_eq_some_iff.1 hx').1
            have hk : idx[i']? = some idx[i'] := List.getElem?_eq_getElem hkl
            obtain ⟨x, y, h1, h2, h3⟩ := hml _ i' hk
            rw [h2] at hx'; cases hx'
            exact .inr ⟨_, x, get_idxOf hn hk, h1, h3, hφl _ i' hk⟩)
          (fun i j k hi hj => by
            have := (idxOf_get hi).symm.trans (idxOf_get hj)
            exact Option.some.inj this) hL
        refine ⟨⟨c.H, idx.map fun i => (c.φ[i]?).getD none, mem, c.w⟩, rfl, rfl, r1, FRep.map N ly (f := V.ren fun i => idx.idxOf? i) hf rfl hfr (fun x y v hxy hv => VRep.ren N ly (HM.le_refl _) hL x y v hxy hv), r2, fun e0 he hE => ⟨hE.hle, fun i => ?_⟩⟩
        obtain ⟨l, hl⟩ := gcIdx_is hidx
        by_cases hi : i < n0
        · have hk : idx[i]? = some i := by rw [hl, List.getElem?_append_left (by simpa using hi)]; simp [hi]
          exact (hE.leaf i).trans (hL i i (get_idxOf hn hk))
        · have hnone : e0.m[i]? = none := List.getElem?_eq_none (by omega)
          refine ⟨fun h => ?_, fun n k v h => ?_⟩
          · rcases h with ⟨cs, h⟩ | h <;> rw [hnone] at h <;> cases h
          · rcases h with h | ⟨c, h, _⟩ <;> rw [hnone] at h <;> cases h
      · cases h
    · cases h
  · cases h

end Go.Am
