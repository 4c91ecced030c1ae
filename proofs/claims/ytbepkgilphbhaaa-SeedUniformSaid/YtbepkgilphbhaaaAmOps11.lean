/- append to a slice whose row may be written. -/
import Derived.Test.YtbepkgilphbhaaaAmOps6
namespace Go.Am
open Go

variable (N : Nm) (ly : Option Nat) (pr : Program)

theorem flat_cells {c : Cfg} {n : Nat} : ∀ {es : List P} {vs : List Value}, Flat N c.H n es vs → (∀ u ∈ vs, u.oneCell' = true) → VReps N ly c.H c.φ c.m ((es.flatMap P.cells).map V.p) vs ∧ ∀ y ∈ (es.flatMap P.cells).map V.p, y.isCell = true
  | [], _, h, _ => by
    simp only [Flat] at h; subst h
    exact ⟨by simp [VReps], by simp⟩
  | e :: r, _, h, ho => by
    simp only [Flat] at h
    obtain ⟨v, rest, rfl, hs, ha, hp, hg, hr⟩ := h
    obtain ⟨k1, k2⟩ := flat_cells hr fun u hu => ho u (List.mem_append_right _ hu)
    have hhead : VReps N ly c.H c.φ c.m (e.cells.map V.p) v.cells.toList ∧ ∀ y ∈ e.cells.map V.p, y.isCell = true := by
      have one : ∀ {ps : List P} {us : List Value}, Reps N c.H ps us → (∀ u ∈ us, u.oneCell' = true) → VReps N ly c.H c.φ c.m (ps.map V.p) us ∧ ∀ y ∈ ps.map V.p, y.isCell = true := fun {ps us} hps hus =>
        ⟨VReps.of N ly (by simp [Reps.length N hps]) fun j p u hp hu => by
          simp only [List.getElem?_map, Option.map_eq_some_iff] at hp
          obtain ⟨q, hq, rfl⟩ := hp
          obtain ⟨u', q1, q2⟩ := Reps.get N hps j q hq
          rw [q1] at hu; cases hu
          simpa only [VRep] using q2, fun y hy => by
          obtain ⟨q, hq, rfl⟩ := List.mem_map.1 hy
          obtain ⟨j, hj⟩ := List.getElem?_of_mem hq
          obtain ⟨u', q1, q2⟩ := Reps.get N hps j q hj
          exact isCell_of_rep N q2 (hus u' (List.mem_of_getElem? q1))⟩
      have hov : ∀ u ∈ v.cells.toList, u.oneCell' = true := fun u hu => ho u (List.mem_append_left _ hu)
      cases hagg : e.isAgg with
      | true =>
        cases e <;> simp only [P.isAgg, Bool.false_eq_true] at hagg
        simp only [Rep] at hp
        obtain ⟨us, rfl, hus⟩ := hp
        simp only [P.cells, cells_agg] at hov ⊢
        exact one hus hov
      | false =>
        have hn : n = 0 := by
          by_cases h0 : n = 0
          · exact h0
          · have := hg.2 h0; rw [hagg] at this; cases this
        have hna : ¬ ∃ cs, v = .agg cs := fun h => (ha.2 h) hn
        have hce : e.cells = [e] := by cases e <;> first | rfl | (simp [P.isAgg] at hagg)
        rw [hce, cells_one hna] at *
        exact one (ps := [e]) (us := [v]) (by simp only [Reps]; exact ⟨v, [], rfl, hp, rfl⟩) (by simpa using hov)
    simp only [List.flatMap_cons, List.map_append]
    refine ⟨?_, fun y hy => ?_⟩
    · refine VReps.of N ly ?_ fun j p u hp hu => ?_
      · rw [List.length_append, List.length_append, VReps.length N ly hhead.1, VReps.length N ly k1]
      · have hl := VReps.length N ly hhead.1
        by_cases hj : j < (e.cells.map V.p).length
        · rw [List.getElem?_append_left hj] at hp
          rw [List.getElem?_append_left (by omega)] at hu
          obtain ⟨u', q1, q2⟩ := VReps.get N ly hhead.1 j p hp
          rw [q1] at hu; cases hu; exact q2
        · rw [List.getElem?_append_right (by omega)] at hp
          rw [List.getElem?_append_right (by omega), ← hl] at hu
          obtain ⟨u', q1, q2⟩ := VReps.get N ly k1 _ p hp
          rw [q1] at hu; cases hu; exact q2
    · rcases List.mem_append.1 hy with h | h
      · exact hhead.2 y h
      · exact k2 y h

theorem srcC_ok {c : Cfg} (hg : Good N ly c) {n : Nat} {y : V} {v : Value} {vs : List V} (h : (srcCells n y).run c.m = some vs) (hv : VRep N ly c.H c.φ c.m y v) :
    ∃ a k cap news, v = .slice a k cap ∧ vs.length = k * sz n ∧ VReps N ly c.H c.φ c.m vs news ∧ (∀ y ∈ vs, y.isCell = true) ∧ (k ≠ 0 → ∃ b off, a = some ⟨b, off, none⟩ ∧ ∀ j u, news[j]? = some u → c.w.cell? ⟨b, off + j, none⟩ = some u) := by
  have data : ∀ {es : List P}, Rep N c.H (.sl n es) v → ∃ a k cap news, v = .slice a k cap ∧ ((es.flatMap P.cells).map V.p).length = k * sz n ∧ VReps N ly c.H c.φ c.m ((es.flatMap P.cells).map V.p) news ∧ (∀ y ∈ (es.flatMap P.cells).map V.p, y.isCell = true) ∧
      (k ≠ 0 → ∃ b off, a = some ⟨b, off, none⟩ ∧ ∀ j u, news[j]? = some u → c.w.cell? ⟨b, off + j, none⟩ = some u) := fun {es} hv => by
    have hsrc : (srcOf n (.p (.sl n es))).run c.m = some es := by simp [srcOf, RM.run]
    obtain ⟨a, cap, news, rfl, hf, ho, hc⟩ := src_ok N ly hg hsrc (by simpa only [VRep] using hv)
    obtain ⟨k1, k2⟩ := flat_cells N ly hf ho
    exact ⟨a, es.length, cap, news, rfl, by rw [VReps.length N ly k1, Flat.length N hf], k1, k2, fun h => hc fun e => h (by rw [e]; rfl)⟩
  unfold srcCells at h
  split at h
  · rename_i n' es'
    split at h
    · rename_i hn
      subst hn
      simp only [RM.run, Option.some.injEq] at h; subst h
      exact data (by simpa only [VRep] using hv)
    · simp [RM.run] at h
  · rename_i n' t es'
    split at h
    · rename_i hn
      subst hn
      simp only [RM.run, Option.some.injEq] at h; subst h
      simp only [VRep] at hv
      exact data hv.1
    · simp [RM.run] at h
  · split at h
    · simp only [RM.run, Option.some.injEq] at h; subst h
      simp only [VRep] at hv
      obtain ⟨a, rfl⟩ := hv
      exact ⟨a, 0, 0, [], rfl, by simp, by simp [VReps], by simp, fun h => absurd rfl h⟩
    · simp [RM.run] at h
  · rename_i n' b off len
    split at h
    · rename_i hn
      subst hn
      rw [RM.run_bind] at h
      cases hc : (getC b).run c.m with
      | none => rw [hc] at h; simp at h
      | some cs =>
        rw [hc] at h
        simp only [Option.bind_some] at h
        split at h
        · rename_i hle
          simp only [RM.run, Option.some.injEq] at h; subst h
          have hb := run_getC_some hc
          simp only [VRep] at hv
          rcases hv with ⟨h0, a, rfl⟩ | ⟨R, s, cap, _, hφ, rfl, _, _⟩
          · subst h0
            exact ⟨a, 0, 0, [], rfl, by simp, by simp [VReps], by simp, fun h => absurd rfl h⟩
          · obtain ⟨arr, e, h1, h2, h3, h4⟩ := cells_read N ly hg hb hφ
            let us : List Value := (arr.toList.drop off).take (len * sz n')
            have hus : VReps N ly c.H c.φ c.m ((cs.drop off).take (len * sz n')) us := VReps.of N ly (by simp [us]; omega) fun j p u hp hu => by
              simp only [us, List.getElem?_take, List.getElem?_drop] at hp hu
              split at hp
              · rename_i hj
                rw [if_pos hj] at hu
                obtain ⟨_, v, k1, _, k2⟩ := h4 _ p hp
                rw [← Array.getElem?_toList] at k1
                rw [k1] at hu; cases hu; exact k2
              · cases hp
            refine ⟨_, len, cap, us, rfl, by simp; omega, hus, fun y hy => ?_, fun _ => ⟨R, off, rfl, fun j u hu => ?_⟩⟩
            · obtain ⟨j, hj⟩ := List.getElem?_of_mem (List.mem_of_mem_drop (List.mem_of_mem_take hy))
              exact (h4 j y hj).1
            · simp only [us, List.getElem?_take, List.getElem?_drop] at hu
              split at hu
              · rw [Array.getElem?_toList] at hu
                simp only [World.cell?, h1]; simpa using hu
              · cases hu
        · simp [RM.run] at h
    · simp [RM.run] at h
  · simp [RM.run] at h

/-- A block gets another number; the old one is dead. -/
theorem move_block {c : Cfg} (hg : Good N ly c) {b i : Nat} {cs : List V} (hb : c.m[b]? = some (.cells cs)) (hi : c.m[i]? = some .hole) :
    let c' : Cfg := ⟨c.H, c.φ.set i (c.φ[b]?.getD none), (c.m.set b .dead).set i (.cells cs), c.w⟩
    Good N ly c' ∧ Trans c c' ∧ Ext c.H c.φ c.m c'.H c'.φ c'.m ∧ c'.φ[i]? = c.φ[b]? ∧ c'.m[i]? = some (.cells cs) := by
  intro c'
  have hil : i < c.m.length := (List.getElem?_eq_some_iff.1 hi).1
  have hbl : b < c.m.length := (List.getElem?_eq_some_iff.1 hb).1
  have hbi : b ≠ i := fun e => by subst e; rw [hb] at hi; cases hi
  have hφi : c'.φ[i]? = c.φ[b]? := by
    simp only [c', List.getElem?_set, if_pos]
    rw [if_pos (by rw [hg.len]; exact hil), List.getElem?_eq_getElem (by rw [hg.len]; exact hbl)]; rfl
  have hmi : c'.m[i]? = some (.cells cs) := by simp [c', hil]
  have hmb : c'.m[b]? = some .dead := by simp [c', List.getElem?_set, Ne.symm hbi, hbl]
  have hφj : ∀ j, j ≠ i → c'.φ[j]? = c.φ[j]? := fun j hj => by simp [c', List.getElem?_set, Ne.symm hj]
  have hmj : ∀ j, j ≠ i → j ≠ b → c'.m[j]? = c.m[j]? := fun j hj hj' => by simp [c', List.getElem?_set, Ne.symm hj, Ne.symm hj']
  have hlink : ∀ j, Link c.φ c.m c'.φ c'.m j j := fun j => by
    by_cases hj : j = i
    · subst hj; unfold Link; rw [hi]; trivial
    · by_cases hjb : j = b
      · subst hjb; unfold Link; rw [hb]; exact ⟨.inr hmb, hφj j hj⟩
      · have := Link.refl c.φ c.m j
        unfold Link IdOk at this ⊢
        rw [hmj j hj hjb, hφj j hj]; exact this
  have hE : Ext c.H c.φ c.m c'.H c'.φ c'.m := Ext.of (HM.le_refl _) hlink
  have hlv : ∀ j, j ≠ i → Live c'.m j → Live c.m j ∧ j ≠ b := fun j hj hl => by
    by_cases hjb : j = b
    · subst hjb
      rcases hl with ⟨cs, h⟩ | ⟨n, q, h⟩ <;> rw [hmb] at h <;> cases h
    · unfold Live at hl ⊢; rw [hmj j hj hjb] at hl; exact ⟨hl, hjb⟩
  have hbo : Live c.m b := .inl ⟨cs, hb⟩
  refine ⟨⟨by simp [c', hg.len], hg.frz, fun j y hy => ?_, fun x z R s s' hx hz h1 h2 => ?_⟩, ⟨fun _ => rfl, rfl, rfl, rfl, Nat.le_refl _, HM.le_refl _, fun _ _ _ => rfl, ?_, fun _ _ _ h => .inl h⟩, hE, hφi, hmi⟩
  · by_cases hj : j = i
    · subst hj
      rw [hmi] at hy; cases hy
      obtain ⟨R, s, arr, e, h1, h2, h3, h4, h5, h6⟩ := hg.blk b _ hb
      exact ⟨R, s, arr, e, hφi.trans h1, h2, h3, h4, fun q z hz => let ⟨a, v, b, d⟩ := h5 q z hz; ⟨a, v, b, hE.rep N ly z v d⟩, h6⟩
    · by_cases hjb : j = b
      · subst hjb; rw [hmb] at hy; cases hy; trivial
      · rw [hmj j hj hjb] at hy
        by_cases hl : Live c.m j
        · exact (hg.blk j y hy).keep N ly hE (hφj j hj) fun R s _ => ⟨rfl, fun o ho => ho⟩
        · cases y with
          | cells cs => exact absurd (.inl ⟨cs, hy⟩) hl
          | tok n k => exact absurd (.inr ⟨n, k, hy⟩) hl
          | dead => trivial
          | hole => trivial
  · by_cases hxi : x = i
    · by_cases hzi : z = i
      · rw [hxi, hzi]
      · subst hxi
        rw [hφi] at h1; rw [hφj z hzi] at h2
        obtain ⟨q1, q2⟩ := hlv z hzi hz
        exact absurd (hg.inj z b R s' s q1 hbo h2 h1) q2
    · by_cases hzi : z = i
      · subst hzi
        rw [hφi] at h2; rw [hφj x hxi] at h1
        obtain ⟨q1, q2⟩ := hlv x hxi hx
        exact absurd (hg.inj x b R s s' q1 hbo h1 h2) q2
      · rw [hφj x hxi] at h1; rw [hφj z hzi] at h2
        exact hg.inj x z R s s' (hlv x hxi hx).1 (hlv z hzi hz).1 h1 h2
  · rintro R ⟨j, s, hl, hp⟩
    by_cases hj : j = i
    · subst hj; rw [hφi] at hp; exact .inl ⟨b, s, hbo, hp⟩
    · rw [hφj j hj] at hp; exact .inl ⟨j, s, (hlv j hj hl).1, hp⟩

/-- A slice grows into a new row that may be written. -/
theorem appC_new {c : Cfg} (hg : Good N ly c) {T e n i ty : Nat} (hT : AppT pr T e n) {cs vs : List V} {l k : Nat} {a0 : Option Addr} {cap0 : Nat} {olds news : List Value} {a : Option Addr} {cap : Nat} (hi : c.m[i]? = some .hole)
    (hlo : cs.length = l * sz n) (hro : VReps N ly c.H c.φ c.m cs olds) (hco : ∀ y ∈ cs, y.isCell = true) (hold : l = 0 ∨ ∃ b, a0 = some b ∧ ∀ j v, olds[j]? = some v → c.w.cell? (b.add j) = some v) (h00 : a0 = none → cap0 = 0)
    (hln : vs.length = k * sz n) (hrn : VReps N ly c.H c.φ c.m vs news) (hcn : ∀ y ∈ vs, y.isCell = true) (hnew : k ≠ 0 → ∃ b off, a = some ⟨b, off, none⟩ ∧ ∀ j u, news[j]? = some u → c.w.cell? ⟨b, off + j, none⟩ = some u) (hk : k ≠ 0)
    (hg0 : cap0 < l + k) (hmost : l + k ≤ most) :
    ∃ c' : Cfg, ∃ u, (Builtin.append_ #[T, T] ty #[.slice a0 l cap0, .slice a k cap]).run pr c.w = .ok u c'.w ∧ c'.m = c.m.set i (.cells (cs ++ vs)) ∧ Good N ly c' ∧ Trans c c' ∧ Ext c.H c.φ c.m c'.H c'.φ c'.m ∧
      VRep N ly c'.H c'.φ c'.m (.ref n i 0 (l + k)) u := by
  obtain ⟨inf, z, hi1, hz1, hsz, hzs, hby⟩ := hT.hi
  obtain ⟨b, off, rfl, hrn2⟩ := hnew hk
  have e1 := VReps.length N ly hro
  have e2 := VReps.length N ly hrn
  obtain ⟨nc, us, hrun, h1, h2, h3⟩ := run_app_new pr c.w T ty e inf z hT.ht hi1 hz1 (by rw [hzs, hsz]) hby a0 l cap0 olds (by rw [hsz]; omega) hold h00
    ⟨b, off, none⟩ k cap news (by rw [hsz]; omega) (fun j v hj => by rw [addr_add]; exact hrn2 j v hj) hg0 hmost
  rw [hsz] at h2 h3
  obtain ⟨g1, t1⟩ := drew_good N ly hg
  have hlen : (cs ++ vs).length = (l + k) * sz n := by rw [List.length_append, hlo, hln, Nat.add_mul]
  have hle := Nat.mul_le_mul_right (sz n) h1
  obtain ⟨c', q1, q2, k1, k2, k3, k4⟩ := fresh_ref N ly g1 (i := i) (cs := cs ++ vs) (us := us) n (l + k) nc e hi (by
      rw [hlen, h3]
      refine VReps.of N ly (by simp [e1, e2]) fun j p u hp hu => ?_
      by_cases hj : j < cs.length
      · rw [List.getElem?_append_left hj] at hp
        rw [List.getElem?_append_left (by omega)] at hu
        obtain ⟨u', r1, r2⟩ := VReps.get N ly hro j p hp
        rw [r1] at hu; cases hu; exact r2
      · rw [List.getElem?_append_right (by omega)] at hp
        rw [List.getElem?_append_right (by omega), ← e1] at hu
        obtain ⟨u', r1, r2⟩ := VReps.get N ly hrn _ p hp
        rw [r1] at hu; cases hu; exact r2)
    (fun y hy => by
      rcases List.mem_append.1 hy with h | h
      · exact hco y h
      · exact hcn y h) (by omega) (by omega) h1 (c.w.drew.alloc (.cells us e)) rfl rfl rfl rfl
  exact ⟨c', _, by rw [q1]; exact hrun, q2, k1, t1.trans k2, k3, k4⟩

theorem app_own_ok {c : Cfg} (hg : Good N ly c) {T e n i ty : Nat} (hT : AppT pr T e n) {x y : V} {u v : Value} {r : Res}
    (hr : (match x with
      | .nil n' => if n' = n then (srcCells n y).bind fun vs => if vs.length = 0 then .ret { val := .nil n } else
          if vs.length ≤ most then atHole i { val := .ref n i 0 (vs.length / sz n), ups := [(i, .cells vs)] } else .fail else .fail
      | .ref n' b off l => if n' = n ∧ off = 0 then (getC b).bind fun cs => if cs.length = l * sz n then (srcCells n y).bind fun vs =>
          if cs.length + vs.length ≤ most then atHole i { val := .ref n i 0 ((cs.length + vs.length) / sz n), ups := [(b, .dead), (i, .cells (cs ++ vs))] } else .fail else .fail else .fail
      | _ => .fail : RM Res).run c.m = some r) (hx : VRep N ly c.H c.φ c.m x u) (hy : VRep N ly c.H c.φ c.m y v) :
    OpOk N ly pr c r (do let q ← Builtin.append_ #[T, T] ty #[u, v]; Pure.pure (Next.value q)) := by
  obtain ⟨inf, z, hi1, hz1, hsz, hzs, hby⟩ := hT.hi
  have hsz0 : 0 < sz n := by unfold sz; split <;> omega
  cases x with
  | nil n' =>
    simp only at hr
    split at hr
    · rename_i hn
      subst hn
      rw [RM.run_bind] at hr
      cases hs : (srcCells n' y).run c.m with
      | none => rw [hs] at hr; simp at hr
      | some vs =>
        rw [hs] at hr
        simp only [Option.bind_some] at hr
        simp only [VRep] at hx
        obtain ⟨a0, rfl⟩ := hx
        obtain ⟨a, k, cap, news, rfl, k1, k2, k3, k4⟩ := srcC_ok N ly hg hs hy
        split at hr
        · rename_i h0
          simp only [RM.run, Option.some.injEq] at hr
          subst hr
          have hk : k = 0 := by
            rw [h0] at k1
            rcases Nat.mul_eq_zero.1 k1.symm with h | h
            · exact h
            · omega
          subst hk
          exact OpOk.pure N ly pr hg (run_v pr (run_app_none pr c.w T ty e inf hT.ht hi1 a0 a 0 0 cap (Nat.le_refl _))) (by simp only [VRep]; exact ⟨a0, rfl⟩)
        · rename_i h0
          split at hr
          · rename_i hm
            obtain ⟨hh, rfl⟩ := run_atHole hr
            have hk : k ≠ 0 := fun e => by subst e; simp at k1; exact h0 (by rw [k1]; rfl)
            have hkl : k ≤ vs.length := by rw [k1]; exact Nat.le_mul_of_pos_right _ hsz0
            obtain ⟨c', q, r0, r1, r2, r3, r4, r5⟩ := appC_new N ly pr hg (cs := []) (olds := []) (l := 0) (a0 := a0) (cap0 := 0) (ty := ty) hT hh (by simp) (by simp [VReps]) (by simp) (.inl rfl) (fun _ => rfl) k1 k2 k3 k4 hk (by omega) (by omega)
            refine ⟨q, c', .inl (run_v pr r0), by rw [applyUps_one]; simpa using r1, r2, r3, r4, ?_⟩
            have : vs.length / sz n' = 0 + k := by rw [k1, Nat.mul_div_cancel _ hsz0, Nat.zero_add]
            rw [this]; exact r5
          · simp [RM.run] at hr
    · simp [RM.run] at hr
  | ref n' b off l =>
    simp only at hr
    split at hr
    · rename_i hn
      obtain ⟨rfl, rfl⟩ := hn
      rw [RM.run_bind] at hr
      cases hc : (getC b).run c.m with
      | none => rw [hc] at hr; simp at hr
      | some cs =>
        rw [hc] at hr
        simp only [Option.bind_some] at hr
        have hb := run_getC_some hc
        split at hr
        · rename_i hcl
          rw [RM.run_bind] at hr
          cases hs : (srcCells n' y).run c.m with
          | none => rw [hs] at hr; simp at hr
          | some vs =>
            rw [hs] at hr
            simp only [Option.bind_some] at hr
            split at hr
            · rename_i hm
              obtain ⟨hh, rfl⟩ := run_atHole hr
              obtain ⟨a, k, cap, news, rfl, k1, k2, k3, k4⟩ := srcC_ok N ly hg hs hy
              have hbi : b ≠ i := fun e => by subst e; rw [hb] at hh; cases hh
              have hil : i < c.m.length := (List.getElem?_eq_some_iff.1 hh).1
              have hups : ∀ cs' : List V, applyUps c.m [(b, .dead), (i, .cells cs')] ++ [] = (c.m.set b .dead).set i (.cells cs') := fun cs' => by simp [applyUps]
              have hnew : (cs.length + vs.length) / sz n' = l + k := by rw [hcl, k1, ← Nat.add_mul, Nat.mul_div_cancel _ hsz0]
              have hlk : l + k ≤ most := by
                have : l + k ≤ (l + k) * sz n' := Nat.le_mul_of_pos_right _ hsz0
                rw [Nat.add_mul] at this; omega
              obtain ⟨R, s, arr, e', q1, q2, q3, q4, q5, q6⟩ := hg.blk b _ hb
              let olds : List Value := arr.toList.take (l * sz n')
              have hro : VReps N ly c.H c.φ c.m cs olds := VReps.of N ly (by simp [olds]; omega) fun j p w hp hw => by
                have hj : j < cs.length := (List.getElem?_eq_some_iff.1 hp).1
                simp only [olds] at hw
                rw [List.getElem?_take_of_lt (by omega)] at hw
                obtain ⟨_, v', r1, r2⟩ := q5 j p hp
                rw [← Array.getElem?_toList] at r1
                rw [r1] at hw; cases hw; exact r2
              have hco : ∀ y ∈ cs, y.isCell = true := fun y hy => by
                obtain ⟨j, hj⟩ := List.getElem?_of_mem hy
                exact (q5 j y hj).1
              have hlo : olds.length = l * sz n' := by rw [← VReps.length N ly hro]; exact hcl
              have hcell : ∀ j w, olds[j]? = some w → c.w.cell? ⟨R, j, none⟩ = some w := fun j w hj => by
                simp only [olds, List.getElem?_take] at hj
                split at hj
                · rw [Array.getElem?_toList] at hj
                  simp only [World.cell?, q2]; simpa using hj
                · cases hj
              -- where the slice lies
              simp only [VRep] at hx
              -- a new row
              have fresh : ∀ (a0 : Option Addr) (cap0 : Nat), (l = 0 ∨ ∃ b, a0 = some b ∧ ∀ j v, olds[j]? = some v → c.w.cell? (b.add j) = some v) → (a0 = none → cap0 = 0) → k ≠ 0 → cap0 < l + k →
                  OpOk N ly pr c { val := .ref n' i 0 ((cs.length + vs.length) / sz n'), ups := [(b, .dead), (i, .cells (cs ++ vs))] } (do let q ← Builtin.append_ #[T, T] ty #[.slice a0 l cap0, .slice a k cap]; Pure.pure (Next.value q)) := fun a0 cap0 h1 h2 h3 h4 => by
                obtain ⟨g1, t1, x1⟩ := kill N ly hg b
                have hh1 : (c.m.set b Blk.dead)[i]? = some .hole := by rw [List.getElem?_set_ne hbi]; exact hh
                obtain ⟨c', q, r0, r1, r2, r3, r4, r5⟩ := appC_new N ly pr g1 (ty := ty) (a0 := a0) (cap0 := cap0) (a := a) (cap := cap) hT hh1 hcl (x1.reps N ly hro) hco h1 h2 k1 (x1.reps N ly k2) k3 k4 h3 h4 hlk
                exact ⟨q, c', .inl (run_v pr r0), by rw [hups]; exact r1, r2, t1.trans r3, x1.trans r4, by rw [hnew]; exact r5⟩
              -- the row that it has
              have stay : ∀ (arr' : Array Value) (u' : Value) (w' : World), w' = c.w.setRow R arr' → (Builtin.append_ #[T, T] ty #[u, .slice a k cap]).run pr c.w = .ok u' w' → arr'.size = s → (cs ++ vs).length ≤ s →
                  (∀ (j : Nat) (y : V), (cs ++ vs)[j]? = some y → y.isCell = true ∧ ∃ v, arr'[j]? = some v ∧ VRep N ly c.H c.φ c.m y v) → RefOk (c.φ.set i (c.φ[b]?.getD none)) ((c.m.set b .dead).set i (.cells (cs ++ vs))) n' i 0 (l + k) u' →
                  OpOk N ly pr c { val := .ref n' i 0 ((cs.length + vs.length) / sz n'), ups := [(b, .dead), (i, .cells (cs ++ vs))] } (do let q ← Builtin.append_ #[T, T] ty #[u, .slice a k cap]; Pure.pure (Next.value q)) := fun arr' u' w' hw hrun h1 h2 h3 h4 => by
                subst hw
                obtain ⟨g1, t1, x1⟩ := write_row N ly hg b R s cs (cs ++ vs) arr' hb q1 h1 h2 h3
                have hbl : b < c.m.length := (List.getElem?_eq_some_iff.1 hb).1
                have hm1 : (c.m.set b (Blk.cells (cs ++ vs)))[b]? = some (.cells (cs ++ vs)) := by simp [hbl]
                have hh1 : (c.m.set b (Blk.cells (cs ++ vs)))[i]? = some .hole := by rw [List.getElem?_set_ne hbi]; exact hh
                obtain ⟨g2, t2, x2, p1, p2⟩ := move_block N ly g1 (b := b) (i := i) hm1 hh1
                simp only [List.set_set] at g2 t2 x2 p1 p2
                exact ⟨u', _, .inl (run_v pr hrun), by rw [hups], g2, t1.trans t2, x1.trans x2, by rw [hnew]; simp only [VRep]; exact h4⟩
              have hidi : IdOk ((c.m.set b .dead).set i (Blk.cells (cs ++ vs))) i := .inl ⟨cs ++ vs, by simp [hil]⟩
              have hφi : (c.φ.set i (c.φ[b]?.getD none))[i]? = some (some (R, s)) := by simp [hg.len, hil, q1]
              have hsame : k = 0 → (cs ++ vs) = cs := fun h => by
                subst h
                have : vs = [] := List.eq_nil_of_length_eq_zero (by simpa using k1)
                rw [this, List.append_nil]
              by_cases hk : k = 0
              · -- nothing is appended
                have hcv := hsame hk
                rcases hx with ⟨h0, a0, rfl⟩ | ⟨R', s', cp, h1, h2, rfl, h3, h4⟩
                · subst h0 hk
                  refine stay arr _ _ (setRow_self c.w R arr e' (0, 0) q2).symm (run_app_none pr c.w T ty e inf hT.ht hi1 a0 a 0 0 cap (Nat.le_refl _)) q3 (by rw [hcv]; exact q4) (fun j y hj => by rw [hcv] at hj; exact q5 j y hj) (.inl ⟨rfl, a0, rfl⟩)
                · rw [q1] at h2; cases h2
                  subst hk
                  refine stay arr _ _ (setRow_self c.w R arr e' (0, 0) q2).symm (run_app_none pr c.w T ty e inf hT.ht hi1 _ a l cp cap h3) q3 (by rw [hcv]; exact q4) (fun j y hj => by rw [hcv] at hj; exact q5 j y hj) (.inr ⟨R, s, cp, hidi, hφi, rfl, h3, h4⟩)
              · rcases hx with ⟨h0, a0, rfl⟩ | ⟨R', s', cp, h1, h2, rfl, h3, h4⟩
                · subst h0
                  exact fresh a0 0 (.inl rfl) (fun _ => rfl) hk (by omega)
                · rw [q1] at h2; cases h2
                  by_cases hroom : l + k ≤ cp
                  · obtain ⟨b', off', rfl, hn2⟩ := k4 hk
                    have e2 := VReps.length N ly k2
                    have hmul := Nat.mul_le_mul_right (sz n') hroom
                    rw [Nat.add_mul] at hmul
                    have hfit : l * sz n' + news.length ≤ arr.size := by omega
                    have hon := VReps.one N ly k2 k3
                    have hrun := run_app_room pr c.w T ty e inf hT.ht hi1 R l cp arr e' q2 ⟨b', off', none⟩ k cap news (by rw [hsz]; omega) (fun j v hj => by rw [addr_add]; exact hn2 j v hj) hon hroom (by rw [hsz]; exact hfit)
                    rw [hsz] at hrun
                    refine stay _ _ _ rfl hrun ?_ ?_ (fun j y hj => ?_) (.inr ⟨R, s, cp, hidi, hφi, rfl, hroom, h4⟩)
                    · simp; omega
                    · rw [List.length_append]; omega
                    · rw [List.getElem?_toArray]
                      by_cases hjl : j < cs.length
                      · rw [List.getElem?_append_left hjl] at hj
                        obtain ⟨p1, w, p2, p3⟩ := q5 j y hj
                        refine ⟨p1, w, ?_, p3⟩
                        rw [List.append_assoc, List.getElem?_append_left (by simp; omega), List.getElem?_take_of_lt (by omega), Array.getElem?_toList]; exact p2
                      · rw [List.getElem?_append_right (by omega)] at hj
                        obtain ⟨w, p2, p3⟩ := VReps.get N ly k2 _ y hj
                        have hjn : j - cs.length < news.length := (List.getElem?_eq_some_iff.1 p2).1
                        refine ⟨k3 y (List.mem_of_getElem? hj), w, ?_, p3⟩
                        have ht : (arr.toList.take (l * sz n')).length = cs.length := by simp; omega
                        rw [List.getElem?_append_left (by rw [List.length_append, ht]; omega), List.getElem?_append_right (by omega), ht]
                        exact p2
                  · exact fresh _ cp (.inr ⟨_, rfl, fun j w hj => by rw [addr_add, Nat.zero_add]; exact hcell j w hj⟩) (fun h => by cases h) hk (by omega)
            · simp [RM.run] at hr
        · simp [RM.run] at hr
    · simp [RM.run] at hr
  | _ => simp [RM.run] at hr

end Go.Am
