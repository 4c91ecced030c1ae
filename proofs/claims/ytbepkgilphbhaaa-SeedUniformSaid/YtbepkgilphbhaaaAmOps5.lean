/- The machine's operations are Go's: make, append. -/
import Derived.Test.YtbepkgilphbhaaaAmOps4
namespace Go.Am
open Go

variable (N : Nm) (ly : Option Nat) (pr : Program)

theorem bound_rep {c : Cfg} {fr : Fr} {x : Opd} {l : Nat} {v : Value} (h : bound x fr = some l) (hv : VRep N ly c.H c.φ c.m (opd fr x) v) : ∃ k, v = .int k (l : Int) := by
  unfold bound at h
  split at h
  · rename_i k i hx
    split at h
    · rename_i hi
      cases h
      rw [hx] at hv
      simp only [VRep, Rep] at hv
      exact ⟨k, by rw [hv, Int.toNat_of_nonneg hi]⟩
    · cases h
  · cases h

theorem made_take (z : Array Value) (s l c : Nat) (h : l ≤ c) : ((madeCells z (c * s)).toList.take (l * s)) = ((Array.range (l * s)).map (z[· % z.size]!)).toList := by
  have : l * s ≤ c * s := Nat.mul_le_mul_right _ h
  simp only [madeCells, Array.toList_map, Array.toList_range, ← List.map_take]
  congr 1
  rw [List.take_range]
  congr 1
  omega

theorem make_ok {c : Cfg} (hg : Good N ly c) {T e n l cp bytes i : Nat} {z : List Zc} {info : TypeInfo} (ht : pr.underlying T = some (.slice e)) (hk : kindOk pr e n = true) (hz : zeroOk pr e z = true) (hzl : z.length = sz n)
    (hi : pr.info? e = some info) (hb : info.bytes = bytes) (hlc : l ≤ cp) (hmost : cp ≤ most) (hby : bytes ≤ 65536) (md : Md) (kl kc : IntKind) (r : Res)
    (hr : (match md with
      | .own => atHole i { val := .ref n i 0 l, ups := [(i, .cells (rep (z.map Zc.toV) l))] }
      | .grow => if l = 0 then atHole i { val := .sl n i [], ups := [(i, .tok n 0)] } else .fail
      | .pure => if l = cp then match toPs (rep (z.map Zc.toV) l) with
        | some ps => .ret { val := .p (.sl n (chunk n l ps)) }
        | none => .fail
        else .fail : RM Res).run c.m = some r) :
    OpOk N ly pr c r (do let y ← Instr.makeSlice T (.int kl (l : Int)) (.int kc (cp : Int)); Pure.pure (Next.value y)) := by
  obtain ⟨v, _, hze, i', hi', hiz⟩ := zeroOk.run pr hz
  rw [hi] at hi'; cases hi'
  obtain ⟨i'', hi'', hsz⟩ := kindOk.info pr hk
  rw [hi] at hi''; cases hi''
  have hvs := zeroOk.size hze hzl
  have hrun := run_make (P := pr) c.w T e info v ht hi hiz kl kc (l : Int) (cp : Int) (by omega) (by omega)
    (by have h1 : info.bytes * cp ≤ 65536 * most := Nat.mul_le_mul (by omega) hmost
        have h2 : ((info.bytes * cp : Nat) : Int) ≤ 281474976710656 := by simp only [most] at h1; omega
        rwa [Int.natCast_mul] at h2) (by simp only [most] at hmost; omega)
  simp only [Int.toNat_natCast, hsz] at hrun
  have hzr := zeros_rep N ly (c := c) hze l
  rw [hvs] at hzr
  have htake := made_take v.cells (sz n) l cp hlc
  rw [hvs] at htake
  rw [← htake] at hzr
  have hlen : (rep (z.map Zc.toV) l).length = l * sz n := by rw [rep_length, List.length_map, hzl]
  have hms : (madeCells v.cells (cp * sz n)).size = cp * sz n := size_madeCells _ _
  have hle : l * sz n ≤ cp * sz n := Nat.mul_le_mul_right _ hlc
  cases md with
  | own =>
    simp only at hr
    obtain ⟨hh, rfl⟩ := run_atHole hr
    obtain ⟨c', e1, e2, k1, k2, k3, k4⟩ := fresh_ref N ly hg n l cp e hh (by rw [hlen]; exact hzr.1) hzr.2 (by omega) (by omega) hlc (c.w.alloc (.cells (madeCells v.cells (cp * sz n)) e)) rfl rfl rfl rfl
    exact ⟨_, c', .inl (by rw [e1]; exact run_v pr hrun), by rw [e2, applyUps_one], k1, k2, k3, k4⟩
  | grow =>
    simp only at hr
    split at hr
    · rename_i h0
      subst h0
      obtain ⟨hh, rfl⟩ := run_atHole hr
      obtain ⟨c', e1, e2, k1, k2, k3, k4⟩ := fresh_tok N ly hg (cs := []) (ps := []) n 0 cp e (.inl hh) (by simp [VReps]) (by simp) (by simp [toPs]) (by simp) (by omega) (Nat.zero_le _) (c.w.alloc (.cells (madeCells v.cells (cp * sz n)) e)) rfl rfl rfl rfl
      exact ⟨_, c', .inl (by rw [e1]; exact run_v pr hrun), by rw [e2, applyUps_one], k1, k2, k3, k4⟩
    · simp [RM.run] at hr
  | pure =>
    simp only at hr
    split at hr
    · rename_i h0
      subst h0
      split at hr
      · rename_i ps hps
        simp only [RM.run, Option.some.injEq] at hr
        subst hr
        rw [List.take_of_length_le (by simp [hms])] at hzr
        obtain ⟨c', e1, e2, k1, k2, k3, k4⟩ := fresh_data N ly hg n l l e hzr.1 hzr.2 hps hlen.symm (Nat.le_refl _)
        exact ⟨_, c', .inl (by rw [e1]; exact run_v pr hrun), by rw [e2]; simp [applyUps], k1, k2, k3, by simp only [VRep]; exact k4⟩
      · simp [RM.run] at hr
    · simp [RM.run] at hr

/-! ### What is appended -/

theorem isCell_of_rep {H : HM} {q : P} {v : Value} (h : Rep N H q v) (hv : v.oneCell' = true) : (V.p q).isCell = true := by
  cases q <;> simp only [Rep] at h <;> first
    | (subst h; simpa [V.isCell, scalar_oneCell] using hv)
    | rfl
    | (obtain ⟨_, rfl, _⟩ := h; simp [Value.oneCell'] at hv)

theorem src_ok {c : Cfg} (hg : Good N ly c) {n : Nat} {y : V} {v : Value} {es : List P} (h : (srcOf n y).run c.m = some es) (hv : VRep N ly c.H c.φ c.m y v) :
    ∃ a cap news, v = .slice a es.length cap ∧ Flat N c.H n es news ∧ (∀ u ∈ news, u.oneCell' = true) ∧ (es ≠ [] → ∃ b off, a = some ⟨b, off, none⟩ ∧ ∀ j u, news[j]? = some u → c.w.cell? ⟨b, off + j, none⟩ = some u) := by
  have data : ∀ {es : List P}, Rep N c.H (.sl n es) v → ∃ a cap news, v = .slice a es.length cap ∧ Flat N c.H n es news ∧ (∀ u ∈ news, u.oneCell' = true) ∧ (es ≠ [] → ∃ b off, a = some ⟨b, off, none⟩ ∧ ∀ j u, news[j]? = some u → c.w.cell? ⟨b, off + j, none⟩ = some u) := by
    intro es hv
    simp only [Rep] at hv
    obtain ⟨a, cap, ⟨rfl, _⟩, hne⟩ := hv
    by_cases he : es = []
    · subst he
      exact ⟨a, cap, [], rfl, by simp [Flat], by simp, fun h => absurd rfl h⟩
    · obtain ⟨b, off, rfl, hr⟩ := hne he
      obtain ⟨vs, hf, hc⟩ := RepEs.flat N (hg.hok N ly) hr
      refine ⟨_, cap, vs, rfl, hf, fun u hu => ?_, fun _ => ⟨b, off, rfl, fun j u hu => (hg.frz _ _ _ (hc j u hu)).1⟩⟩
      obtain ⟨j, hj⟩ := List.getElem?_of_mem hu
      exact (hg.frz _ _ _ (hc j u hj)).2
  unfold srcOf at h
  split at h
  · rename_i n' es'
    split at h
    · rename_i hn
      subst hn
      simp only [RM.run, Option.some.injEq] at h; subst h
      exact data (by simpa only [VRep] using hv)
    · simp [RM.run] at h
  · rename_i n' t es'
    split at h
    · rename_i hn
      subst hn
      simp only [RM.run, Option.some.injEq] at h; subst h
      simp only [VRep] at hv
      exact data hv.1
    · simp [RM.run] at h
  · split at h
    · simp only [RM.run, Option.some.injEq] at h; subst h
      simp only [VRep] at hv
      obtain ⟨a, rfl⟩ := hv
      exact ⟨a, 0, [], rfl, by simp [Flat], by simp, fun h => absurd rfl h⟩
    · simp [RM.run] at h
  · rename_i n' b off len
    split at h
    · rename_i hn
      subst hn
      rw [RM.run_bind] at h
      cases hc : (getC b).run c.m with
      | none => rw [hc] at h; simp at h
      | some cs =>
        rw [hc] at h
        simp only [Option.bind_some] at h
        split at h
        · rename_i hle
          split at h
          · rename_i ps hps
            simp only [RM.run, Option.some.injEq] at h; subst h
            have hb := run_getC_some hc
            simp only [VRep] at hv
            rw [chunk_length]
            rcases hv with ⟨h0, a, rfl⟩ | ⟨R, s, cap, _, hφ, rfl, _, _⟩
            · subst h0
              exact ⟨a, 0, [], rfl, by simp [Flat, chunk], by simp, fun h => absurd rfl h⟩
            · obtain ⟨arr, e, h1, h2, h3, h4⟩ := cells_read N ly hg hb hφ
              let us : List Value := (arr.toList.drop off).take (len * sz n')
              have hus : VReps N ly c.H c.φ c.m ((cs.drop off).take (len * sz n')) us := VReps.of N ly (by simp [us]; omega) fun j p u hp hu => by
                simp only [us, List.getElem?_take, List.getElem?_drop] at hp hu
                split at hp
                · rename_i hj
                  rw [if_pos hj] at hu
                  obtain ⟨_, v, k1, _, k2⟩ := h4 _ p hp
                  rw [← Array.getElem?_toList] at k1
                  rw [k1] at hu; cases hu; exact k2
                · cases hp
              have hcell : ∀ y ∈ (cs.drop off).take (len * sz n'), y.isCell = true := fun y hy => by
                obtain ⟨j, hj⟩ := List.getElem?_of_mem (List.mem_of_mem_drop (List.mem_of_mem_take hy))
                exact (h4 j y hj).1
              have hone := VReps.one N ly hus hcell
              refine ⟨_, cap, us, rfl, chunk_flat N len ps us (VReps.toPs N ly _ _ _ hps hus) ?_ (toPs_notAgg hps hcell) hone, hone, fun _ => ⟨R, off, rfl, fun j u hu => ?_⟩⟩
              · rw [← toPs_length hps]; simp; omega
              · simp only [us, List.getElem?_take, List.getElem?_drop] at hu
                split at hu
                · rw [Array.getElem?_toList] at hu
                  simp only [World.cell?, h1]; simpa using hu
                · cases hu
          · simp [RM.run] at h
        · simp [RM.run] at h
    · simp [RM.run] at h
  · simp [RM.run] at h

/-! ### append, at the run -/

theorem run_app_none (w : World) (T ty e : TypeId) (i : TypeInfo) (ht : pr.underlying T = some (.slice e)) (hi : pr.info? e = some i) (a0 a : Option Addr) (k cap0 cap : Nat) (hk : k ≤ cap0) :
    (Builtin.append_ #[T, T] ty #[.slice a0 k cap0, .slice a 0 cap]).run pr w = .ok (.slice a0 k cap0) w := by
  cases a0 <;> cases a <;> simp [Builtin.append_, run_underlying ht, sizeOf, typeInfo, hi, Builtin.lenOf, Builtin.firstCells, loadCells, loadCellsFrom, storeCells, hk]

theorem run_app_room (w : World) (T ty e : TypeId) (i : TypeInfo) (ht : pr.underlying T = some (.slice e)) (hi : pr.info? e = some i)
    (g sLen sCap : Nat) (cur : Array Value) (e' : TypeId) (hg : w.heap[g]? = some (.cells cur e' (0, 0)))
    (a : Addr) (m c : Nat) (news : List Value) (hl : news.length = m * i.size) (hnews : ∀ j u, news[j]? = some u → w.cell? (a.add j) = some u) (h1 : ∀ u ∈ news, u.oneCell' = true)
    (hroom : sLen + m ≤ sCap) (hfit : sLen * i.size + news.length ≤ cur.size) :
    (Builtin.append_ #[T, T] ty #[.slice (some ⟨g, 0, none⟩) sLen sCap, .slice (some a) m c]).run pr w =
      .ok (.slice (some ⟨g, 0, none⟩) (sLen + m) sCap) (w.setRow g (cur.toList.take (sLen * i.size) ++ news ++ cur.toList.drop (sLen * i.size + news.length)).toArray) := by
  have hf := run_firstCells_some (P := pr) w i.size m a m c news hl hnews
  have hst := run_storeCells_at pr g (sLen * i.size) e' news 0 cur w hg (by simpa using hfit) h1
  simp only [Nat.add_zero] at hst
  simp [Builtin.append_, run_underlying ht, sizeOf, typeInfo, hi, Builtin.lenOf, hroom, hf, Addr.add_lit, hst]

theorem run_app_new (w : World) (T ty e : TypeId) (i : TypeInfo) (z : Value) (ht : pr.underlying T = some (.slice e)) (hi : pr.info? e = some i) (hz : i.zero = some z) (hzs : z.cells.size = i.size) (hby : i.bytes ≤ 65536)
    (a0 : Option Addr) (k cap0 : Nat) (olds : List Value) (hlo : olds.length = k * i.size) (holds : k = 0 ∨ ∃ b, a0 = some b ∧ ∀ j v, olds[j]? = some v → w.cell? (b.add j) = some v) (h00 : a0 = none → cap0 = 0)
    (a : Addr) (m cap : Nat) (news : List Value) (hl : news.length = m * i.size) (hnews : ∀ j v, news[j]? = some v → w.cell? (a.add j) = some v)
    (hg : cap0 < k + m) (hmost : k + m ≤ most) :
    ∃ nc us, (Builtin.append_ #[T, T] ty #[.slice a0 k cap0, .slice (some a) m cap]).run pr w = .ok (.slice (some ⟨w.heap.size, 0, none⟩) (k + m) nc) (w.drew.alloc (.cells us e)) ∧
      k + m ≤ nc ∧ us.size = nc * i.size ∧ us.toList.take ((k + m) * i.size) = olds ++ news := by
  have hlen : (olds ++ news).length = (k + m) * i.size := by rw [List.length_append, hlo, hl, Nat.add_mul]
  simp only [most] at hmost
  cases a0 with
  | none =>
    have h0 := h00 rfl
    subst h0
    have hk : k = 0 := by
      rcases holds with h | ⟨b, h, _⟩
      · exact h
      · cases h
    subst hk
    have ho : olds = [] := List.eq_nil_of_length_eq_zero (by simpa using hlo)
    subst ho
    have h48 : m * i.bytes ≤ 281474976710656 := Nat.le_trans (Nat.mul_le_mul (by omega : m ≤ 1073741824) hby) (by decide)
    refine ⟨grownCap w m 0 e, news.toArray ++ Builtin.zeroCells z.cells (grownCap w m 0 e - m), ?_, ?_, ?_, ?_⟩
    · have := run_append_nil (P := pr) w T ty e i z ht hi hz a m cap news hl hnews (by omega) (by omega) h48
      simpa using this
    · simpa using grownCap_ge w m 0 e
    · have := grownCap_ge w m 0 e
      rw [Array.size_append, size_zeroCells, hzs, List.size_toArray, hl, ← Nat.add_mul]
      congr 1; omega
    · simp only [Array.toList_append, Nat.zero_add, List.nil_append]
      rw [← hl]; exact List.take_left
  | some b =>
    have holds' : ∀ j v, olds[j]? = some v → w.cell? (b.add j) = some v := by
      rcases holds with h | ⟨b', h, h'⟩
      · subst h
        have ho : olds = [] := List.eq_nil_of_length_eq_zero (by simpa using hlo)
        subst ho
        intro j v hj; simp at hj
      · cases h; exact h'
    have hb : (k + m) * i.bytes ≤ 140737488355328 := Nat.le_trans (Nat.mul_le_mul (by omega : k + m ≤ 1073741824) hby) (by decide)
    refine ⟨grownCap w (k + m) cap0 e, olds.toArray ++ news.toArray ++ Builtin.zeroCells z.cells (grownCap w (k + m) cap0 e - (k + m)), ?_, grownCap_ge w (k + m) cap0 e, ?_, ?_⟩
    · exact run_append_grow (P := pr) w T ty e i z ht hi hz b k cap0 olds hlo holds' a m cap news hl hnews hg (by omega) (growslice_fits hg hb)
    · have := grownCap_ge w (k + m) cap0 e
      rw [Array.size_append, size_zeroCells, hzs, Array.size_append, List.size_toArray, List.size_toArray, hlo, hl, ← Nat.add_mul, ← Nat.add_mul]
      congr 1; omega
    · simp only [Array.toList_append]
      rw [← hlen]; exact List.take_left

/-- A row that holds a slice that may grow. -/
theorem fresh_grow {c : Cfg} (hg : Good N ly c) {i : Nat} {es : List P} {us : Array Value} (n cap : Nat) (e : TypeId) (hi : c.m[i]? = some .hole ∨ ∃ k0, c.m[i]? = some (.tok n k0) ∧ k0 < es.length)
    (hf : Flat N c.H n es (us.toList.take (es.length * sz n))) (hone : ∀ u ∈ us.toList.take (es.length * sz n), u.oneCell' = true) (hs : cap * sz n ≤ us.size) (hkc : es.length ≤ cap) (w' : World)
    (hw : w'.heap = c.w.heap.push (.cells us e (0, 0))) (hos : w'.os = c.w.os) (htape : w'.tape = c.w.tape) (hout : w'.output = c.w.output) :
    ∃ c' : Cfg, c'.w = w' ∧ c'.m = c.m.set i (.tok n es.length) ∧ Good N ly c' ∧ Trans c c' ∧ Ext c.H c.φ c.m c'.H c'.φ c'.m ∧ VRep N ly c'.H c'.φ c'.m (.sl n i es) (.slice (some ⟨c.w.heap.size, 0, none⟩) es.length cap) := by
  have hil : i < c.m.length := by rcases hi with hi | ⟨_, hi, _⟩ <;> exact (List.getElem?_eq_some_iff.1 hi).1
  have h := new_row N ly hg i (.tok n es.length) us e (es.length * sz n) (by rcases hi with hi | ⟨k0, hi, hlt⟩; exact .inl hi; exact .inr ⟨n, k0, es.length, hi, rfl, hlt⟩)
    (fun j v hj hv => hone v (by rw [← Array.getElem?_toList] at hv; exact List.mem_of_getElem? (by rw [List.getElem?_take_of_lt hj]; exact hv))) rfl w' hw hos htape hout
  refine ⟨⟨c.H.more c.w.heap.size us (es.length * sz n), c.φ.set i (some (c.w.heap.size, us.size)), c.m.set i (.tok n es.length), w'⟩, rfl, rfl, h.1, h.2.1, h.2.2, ?_⟩
  simp only [VRep, Rep]
  refine ⟨⟨_, cap, ⟨rfl, hkc⟩, fun _ => ⟨_, 0, rfl, ?_⟩⟩, .inr ⟨es.length, by simp [hil], Nat.le_refl _, fun _ => .inr ⟨_, _, cap, by simp [hg.len, hil], rfl, hkc, hs⟩⟩⟩
  refine RepEs.of_flat N (Flat.mono N h.2.1.hle hf) fun j u hu => ?_
  have hj : j < es.length * sz n := by
    have := (List.getElem?_eq_some_iff.1 hu).1
    rw [List.length_take] at this; omega
  rw [Nat.zero_add, HM.more_at hj, ← Array.getElem?_toList]
  rw [List.getElem?_take_of_lt hj] at hu; exact hu

end Go.Am
