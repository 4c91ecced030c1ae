/- The machine's operations are Go's: append. -/
import Derived.Test.YtbepkgilphbhaaaAmOps5
namespace Go.Am
open Go

variable (N : Nm) (ly : Option Nat) (pr : Program)

/-- Type facts of an append. -/
structure AppT (T e n : Nat) : Prop where
  ht : pr.underlying T = some (.slice e)
  hi : ∃ i z, pr.info? e = some i ∧ i.zero = some z ∧ i.size = sz n ∧ z.cells.size = sz n ∧ i.bytes ≤ 65536

theorem drew_good {c : Cfg} (hg : Good N ly c) : Good N ly ⟨c.H, c.φ, c.m, c.w.drew⟩ ∧ Trans c ⟨c.H, c.φ, c.m, c.w.drew⟩ := same_heap N ly hg c.w.drew rfl rfl rfl rfl

/-- A slice grows into a new row. -/
theorem app_new {c : Cfg} (hg : Good N ly c) {T e n i ty : Nat} (hT : AppT pr T e n) {es xs : List P} {a0 : Option Addr} {cap0 : Nat} {olds : List Value}
    (hi : c.m[i]? = some .hole ∨ ∃ k0, c.m[i]? = some (.tok n k0) ∧ k0 < es.length + xs.length)
    (hfo : Flat N c.H n es olds) (hoo : ∀ u ∈ olds, u.oneCell' = true) (hro : es.length = 0 ∨ ∃ b, a0 = some b ∧ ∀ j v, olds[j]? = some v → c.w.cell? (b.add j) = some v) (h00 : a0 = none → cap0 = 0)
    {y : V} {v : Value} (hs : (srcOf n y).run c.m = some xs) (hv : VRep N ly c.H c.φ c.m y v) (hx : xs ≠ []) (hg0 : cap0 < es.length + xs.length) (hmost : es.length + xs.length ≤ most) :
    ∃ c' : Cfg, ∃ u, (Builtin.append_ #[T, T] ty #[.slice a0 es.length cap0, v]).run pr c.w = .ok u c'.w ∧ c'.m = c.m.set i (.tok n (es.length + xs.length)) ∧ Good N ly c' ∧ Trans c c' ∧ Ext c.H c.φ c.m c'.H c'.φ c'.m ∧
      VRep N ly c'.H c'.φ c'.m (.sl n i (es ++ xs)) u := by
  obtain ⟨inf, z, hi1, hz1, hsz, hzs, hby⟩ := hT.hi
  obtain ⟨a, cap, news, rfl, hfn, hon, hrn⟩ := src_ok N ly hg hs hv
  obtain ⟨b, off, rfl, hrn2⟩ := hrn hx
  have hlo := Flat.length N hfo
  have hln := Flat.length N hfn
  obtain ⟨nc, us, hrun, h1, h2, h3⟩ := run_app_new pr c.w T ty e inf z hT.ht hi1 hz1 (by rw [hzs, hsz]) hby a0 es.length cap0 olds (by rw [hsz]; exact hlo) hro h00
    ⟨b, off, none⟩ xs.length cap news (by rw [hsz]; exact hln) (fun j v hj => by rw [addr_add]; exact hrn2 j v hj) hg0 hmost
  rw [hsz] at h2 h3
  obtain ⟨g1, t1⟩ := drew_good N ly hg
  have hall : ∀ u ∈ olds ++ news, u.oneCell' = true := fun u hu => by
    rcases List.mem_append.1 hu with h | h
    · exact hoo u h
    · exact hon u h
  obtain ⟨c', e1, e2, k1, k2, k3, k4⟩ := fresh_grow N ly g1 (i := i) (es := es ++ xs) (us := us) n nc e (by simpa using hi) (by rw [List.length_append, h3]; exact Flat.append N hfo hfn) (by rw [List.length_append, h3]; exact hall)
    (by omega) (by simpa using h1) (c.w.drew.alloc (.cells us e)) rfl rfl rfl rfl
  refine ⟨c', _, by rw [e1]; exact hrun, by simpa using e2, k1, t1.trans k2, k3, ?_⟩
  simpa using k4

theorem app_grow_ok {c : Cfg} (hg : Good N ly c) {T e n i ty : Nat} (hT : AppT pr T e n) {x y : V} {u v : Value} {r : Res}
    (hr : (match x with
      | .nil n' => if n' = n then (srcOf n y).bind fun es => if es.length = 0 then .ret { val := .nil n } else
          if es.length ≤ most then atHole i { val := .sl n i es, ups := [(i, .tok n es.length)] } else .fail else .fail
      | .sl n' t es => if n' = n then .rd t fun
          | some (.tok n'' c) => if n'' = n ∧ c = es.length then (srcOf n y).bind fun xs =>
              if es.length + xs.length ≤ most then .ret { val := .sl n t (es ++ xs), ups := [(t, .tok n (es.length + xs.length))] } else .fail else .fail
          | _ => .fail else .fail
      | _ => .fail : RM Res).run c.m = some r) (hx : VRep N ly c.H c.φ c.m x u) (hy : VRep N ly c.H c.φ c.m y v) :
    OpOk N ly pr c r (do let q ← Builtin.append_ #[T, T] ty #[u, v]; Pure.pure (Next.value q)) := by
  obtain ⟨inf, z, hi1, hz1, hsz, hzs, hby⟩ := hT.hi
  cases x with
  | nil n' =>
    simp only at hr
    split at hr
    · rename_i hn
      subst hn
      rw [RM.run_bind] at hr
      cases hs : (srcOf n' y).run c.m with
      | none => rw [hs] at hr; simp at hr
      | some es =>
        rw [hs] at hr
        simp only [Option.bind_some] at hr
        simp only [VRep] at hx
        obtain ⟨a0, rfl⟩ := hx
        split at hr
        · rename_i h0
          simp only [RM.run, Option.some.injEq] at hr
          subst hr
          obtain ⟨a, cap, news, rfl, _⟩ := src_ok N ly hg hs hy
          rw [h0]
          exact OpOk.pure N ly pr hg (run_v pr (run_app_none pr c.w T ty e inf hT.ht hi1 a0 a 0 0 cap (Nat.le_refl _))) (by simp only [VRep]; exact ⟨a0, rfl⟩)
        · rename_i h0
          split at hr
          · rename_i hm
            obtain ⟨hh, rfl⟩ := run_atHole hr
            obtain ⟨c', q, k0, k1, k2, k3, k4, k5⟩ := app_new N ly pr hg (es := []) (olds := []) (a0 := a0) (cap0 := 0) (ty := ty) hT (.inl hh) (by simp [Flat]) (by simp) (.inl rfl) (fun _ => rfl) hs hy
              (fun h => h0 (by simp [h])) (by simp; omega) (by simpa using hm)
            exact ⟨q, c', .inl (run_v pr k0), by rw [applyUps_one]; simpa using k1, k2, k3, k4, by simpa using k5⟩
          · simp [RM.run] at hr
    · simp [RM.run] at hr
  | sl n' t es =>
    simp only at hr
    split at hr
    · rename_i hn
      subst hn
      simp only [RM.run] at hr
      cases hb : c.m[t]? with
      | none => rw [hb] at hr; simp [RM.run] at hr
      | some bl =>
        rw [hb] at hr
        cases bl with
        | cells _ => simp [RM.run] at hr
        | dead => simp [RM.run] at hr
        | hole => simp [RM.run] at hr
        | tok n'' k =>
          simp only at hr
          split at hr
          · rename_i hk
            obtain ⟨rfl, rfl⟩ := hk
            rw [RM.run_bind] at hr
            cases hs : (srcOf n'' y).run c.m with
            | none => rw [hs] at hr; simp at hr
            | some xs =>
              rw [hs] at hr
              simp only [Option.bind_some] at hr
              split at hr
              · rename_i hm
                simp only [RM.run, Option.some.injEq] at hr
                subst hr
                have htl : t < c.m.length := (List.getElem?_eq_some_iff.1 hb).1
                simp only [VRep] at hx
                obtain ⟨hrep, htok⟩ := hx
                have htok' : (es.length = 0 ∧ ∃ a, u = .slice a 0 0) ∨ ∃ R s cap, c.φ[t]? = some (some (R, s)) ∧ u = .slice (some ⟨R, 0, none⟩) es.length cap ∧ es.length ≤ cap ∧ cap * sz n'' ≤ s := by
                  rcases htok with h | ⟨k, h1, h2, h3⟩
                  · rw [hb] at h; cases h
                  · rw [hb] at h1; cases h1; exact h3 rfl
                by_cases hxs : xs = []
                · -- nothing is appended
                  subst hxs
                  obtain ⟨a, cap, news, rfl, _⟩ := src_ok N ly hg hs hy
                  have hsame : c.m.set t (.tok n'' (es.length + ([] : List P).length)) = c.m := by
                    simp only [List.length_nil, Nat.add_zero]
                    apply List.ext_getElem?
                    intro j
                    by_cases hj : t = j
                    · subst hj; rw [List.getElem?_set_self htl]; exact hb.symm
                    · rw [List.getElem?_set_ne hj]
                  have hrun : ∃ cc, (Builtin.append_ #[T, T] ty #[u, .slice a 0 cap]).run pr c.w = .ok u c.w ∧ cc = 0 := by
                    rcases htok' with ⟨h0, a0, rfl⟩ | ⟨R, s, cp, _, rfl, hle, _⟩
                    · exact ⟨0, run_app_none pr c.w T ty e inf hT.ht hi1 a0 a 0 0 cap (Nat.le_refl _), rfl⟩
                    · exact ⟨0, run_app_none pr c.w T ty e inf hT.ht hi1 _ a es.length cp cap hle, rfl⟩
                  obtain ⟨_, hrun, _⟩ := hrun
                  refine ⟨u, c, .inl (run_v pr hrun), by rw [applyUps_one, hsame], hg, Trans.refl c, Ext.refl, ?_⟩
                  simp only [List.append_nil, VRep]
                  exact ⟨hrep, htok⟩
                · rcases htok' with ⟨h0, a0, rfl⟩ | ⟨R, s, cp, hφ, rfl, hle, hcs⟩
                  · -- it was nil
                    have he : es = [] := List.eq_nil_of_length_eq_zero h0
                    subst he
                    obtain ⟨c', q, k0, k1, k2, k3, k4, k5⟩ := app_new N ly pr hg (es := []) (olds := []) (a0 := a0) (cap0 := 0) (ty := ty) hT
                      (.inr ⟨0, hb, by cases xs; exact absurd rfl hxs; simp⟩) (by simp [Flat]) (by simp) (.inl rfl) (fun _ => rfl) hs hy hxs (by cases xs; exact absurd rfl hxs; simp) (by simpa using hm)
                    exact ⟨q, c', .inl (run_v pr k0), by rw [applyUps_one]; simpa using k1, k2, k3, k4, by simpa using k5⟩
                  · -- it has a row
                    obtain ⟨R', s', arr, e', q1, q2, q3, q4⟩ : ∃ R' s' arr e', c.φ[t]? = some (some (R', s')) ∧ c.w.heap[R']? = some (.cells arr e' (0, 0)) ∧ arr.size = s' ∧ ∀ o, es.length * sz n'' ≤ o → c.H R' o = none := by
                      rcases hg.blk t _ hb with ⟨_, h1⟩ | h
                      · rw [hφ] at h1; cases h1
                      · exact h
                    rw [hφ] at q1; cases q1
                    -- its elements as cells
                    obtain ⟨olds, hfo, hco⟩ : ∃ olds, Flat N c.H n'' es olds ∧ ∀ j w, olds[j]? = some w → c.H R j = some w := by
                      by_cases he : es = []
                      · subst he; exact ⟨[], by simp [Flat], fun j w h => by simp at h⟩
                      · simp only [Rep] at hrep
                        obtain ⟨a, cap, ⟨ha, _⟩, hne⟩ := hrep
                        obtain ⟨b, off, rfl, hr⟩ := hne he
                        simp only [Value.slice.injEq, Option.some.injEq, Addr.mk.injEq] at ha
                        obtain ⟨⟨rfl, rfl, _⟩, _, _⟩ := ha
                        obtain ⟨vs, hf, hc⟩ := RepEs.flat N (hg.hok N ly) hr
                        exact ⟨vs, hf, fun j w hj => by have := hc j w hj; simpa using this⟩
                    have hlo := Flat.length N hfo
                    have hoo : ∀ w ∈ olds, w.oneCell' = true := fun w hw => by
                      obtain ⟨j, hj⟩ := List.getElem?_of_mem hw
                      exact (hg.frz _ _ _ (hco j w hj)).2
                    have hcell : ∀ j w, olds[j]? = some w → arr[j]? = some w := fun j w hj => by
                      have := (hg.frz _ _ _ (hco j w hj)).1
                      simpa [World.cell?, q2] using this
                    have hlo' : es.length * sz n'' ≤ arr.size := by
                      have := Nat.mul_le_mul_right (sz n'') hle
                      omega
                    have htake : arr.toList.take (es.length * sz n'') = olds := by
                      apply List.ext_getElem?
                      intro j
                      by_cases hj : j < es.length * sz n''
                      · rw [List.getElem?_take_of_lt hj]
                        have : olds[j]? = some olds[j] := List.getElem?_eq_getElem (by omega)
                        rw [this, Array.getElem?_toList]; exact hcell j _ this
                      · rw [List.getElem?_eq_none (by simp; omega), List.getElem?_eq_none (by omega)]
                    by_cases hroom : es.length + xs.length ≤ cp
                    · obtain ⟨a, cap, news, rfl, hfn, hon, hrn⟩ := src_ok N ly hg hs hy
                      obtain ⟨b, off, rfl, hrn2⟩ := hrn hxs
                      have hln := Flat.length N hfn
                      have hfit : es.length * sz n'' + news.length ≤ arr.size := by
                        have := Nat.mul_le_mul_right (sz n'') hroom
                        rw [Nat.add_mul] at this
                        omega
                      have hrun := run_app_room pr c.w T ty e inf hT.ht hi1 R es.length cp arr e' q2 ⟨b, off, none⟩ xs.length cap news (by rw [hsz]; exact hln) (fun j v hj => by rw [addr_add]; exact hrn2 j v hj) hon hroom (by rw [hsz]; exact hfit)
                      rw [hsz, htake] at hrun
                      let arr' : Array Value := (olds ++ news ++ arr.toList.drop (es.length * sz n'' + news.length)).toArray
                      have ha' : arr'.size = arr.size := by simp [arr']; omega
                      have hlen2 : (olds ++ news).length = (es.length + xs.length) * sz n'' := by rw [List.length_append, hlo, hln, Nat.add_mul]
                      have hget : ∀ j, j < (es.length + xs.length) * sz n'' → arr'[j]? = (olds ++ news)[j]? := fun j hj => by
                        simp only [arr']
                        rw [List.getElem?_toArray, List.getElem?_append_left (by omega)]
                      have hmul : es.length * sz n'' ≤ (es.length + xs.length) * sz n'' := Nat.mul_le_mul_right _ (by omega)
                      have hgrow := grow_row N ly hg t R s n'' es.length (es.length + xs.length) arr arr' e' hb hφ q2 ha' (by omega)
                        (fun j hj => by
                          rw [hget j (by omega), List.getElem?_append_left (by omega)]
                          have : olds[j]? = some olds[j] := List.getElem?_eq_getElem (by omega)
                          rw [this]; exact (hcell j _ this).symm)
                        (fun j v _ hj hv => by
                          rw [hget j hj] at hv
                          rcases List.mem_append.1 (List.mem_of_getElem? hv) with h | h
                          · exact hoo v h
                          · exact hon v h) q3 (fun o v ho hv => by rw [q4 o ho] at hv; cases hv) (fun j v hj hv => by
                          have : olds[j]? = some olds[j] := List.getElem?_eq_getElem (by omega)
                          have h2 := hcell j _ this
                          rw [hv] at h2; cases h2
                          exact hoo _ (List.getElem_mem (by omega)))
                      refine ⟨.slice (some ⟨R, 0, none⟩) (es.length + xs.length) cp, _, .inl (run_v pr hrun), by rw [applyUps_one], hgrow.1, hgrow.2.1, hgrow.2.2, ?_⟩
                      simp only [VRep, Rep]
                      refine ⟨⟨_, cp, ⟨by rw [List.length_append], by simpa using hroom⟩, fun _ => ⟨R, 0, rfl, ?_⟩⟩, .inr ⟨es.length + xs.length, by simp [htl], by simp, fun _ => .inr ⟨R, s, cp, hφ, rfl, hroom, hcs⟩⟩⟩
                      refine RepEs.of_flat N (Flat.mono N hgrow.2.1.hle (Flat.append N hfo hfn)) fun j w hj => ?_
                      have hjl : j < (es.length + xs.length) * sz n'' := by rw [← hlen2]; exact (List.getElem?_eq_some_iff.1 hj).1
                      rw [Nat.zero_add, HM.more_at hjl]
                      rw [hget j hjl]; exact hj
                    · obtain ⟨c', q, k0, k1, k2, k3, k4, k5⟩ := app_new N ly pr hg (es := es) (olds := olds) (a0 := some ⟨R, 0, none⟩) (cap0 := cp) (ty := ty) hT
                        (.inr ⟨es.length, hb, by cases xs; exact absurd rfl hxs; simp⟩) hfo hoo (.inr ⟨_, rfl, fun j w hj => by rw [addr_add, Nat.zero_add]; exact (hg.frz _ _ _ (hco j w hj)).1⟩) (fun h => by cases h) hs hy hxs (by omega) hm
                      exact ⟨q, c', .inl (run_v pr k0), by rw [applyUps_one]; exact k1, k2, k3, k4, k5⟩
              · simp [RM.run] at hr
          · simp [RM.run] at hr
    · simp [RM.run] at hr
  | _ => simp [RM.run] at hr

end Go.Am
