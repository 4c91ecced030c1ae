/- The machine's operations are Go's: literals of slices, make, append. -/
import Derived.Test.YtbepkgilphbhaaaAmOps3
namespace Go.Am
open Go

variable (N : Nm) (ly : Option Nat) (pr : Program)

theorem HM.more_at {H : HM} {R : Nat} {arr : Array Value} {lim o : Nat} (h : o < lim) : H.more R arr lim R o = arr[o]? := by simp [HM.more, h]

theorem VReps.one {c : Cfg} {cs : List V} {us : List Value} (hr : VReps N ly c.H c.φ c.m cs us) (hc : ∀ y ∈ cs, y.isCell = true) : ∀ u ∈ us, u.oneCell' = true := fun u hu => by
  obtain ⟨j, hj⟩ := List.getElem?_of_mem hu
  have hjl : j < cs.length := by rw [VReps.length N ly hr]; exact (List.getElem?_eq_some_iff.1 hj).1
  obtain ⟨y', q1, q2⟩ := VReps.get N ly hr j cs[j] (List.getElem?_eq_getElem hjl)
  rw [hj] at q1; cases q1
  exact cell_oneCell N ly (hc _ (List.getElem_mem hjl)) q2

/-- A new row of `k` elements, as data; it has no block. -/
theorem fresh_data {c : Cfg} (hg : Good N ly c) {cs : List V} {us : Array Value} {ps : List P} (n k cap : Nat) (e : TypeId) (hr : VReps N ly c.H c.φ c.m cs us.toList) (hc : ∀ y ∈ cs, y.isCell = true) (hp : toPs cs = some ps) (hk : k * sz n = cs.length) (hkc : k ≤ cap) :
    ∃ c' : Cfg, c'.w = c.w.alloc (.cells us e) ∧ c'.m = c.m ∧ Good N ly c' ∧ Trans c c' ∧ Ext c.H c.φ c.m c'.H c'.φ c'.m ∧ Rep N c'.H (.sl n (chunk n k ps)) (.slice (some ⟨c.w.heap.size, 0, none⟩) k cap) := by
  have hone := VReps.one N ly hr hc
  have h := new_frozen N ly hg us e us.size (fun j v _ hv => hone v (by rw [← Array.getElem?_toList] at hv; exact List.mem_of_getElem? hv)) (c.w.alloc (.cells us e)) rfl rfl rfl rfl
  refine ⟨⟨c.H.more c.w.heap.size us us.size, c.φ, c.m, c.w.alloc (.cells us e)⟩, rfl, rfl, h.1, h.2.1, h.2.2, ?_⟩
  simp only [Rep]
  rw [chunk_length]
  refine ⟨_, cap, ⟨rfl, hkc⟩, fun _ => ⟨_, 0, rfl, ?_⟩⟩
  refine RepCs.chunk N ?_ (by rw [hk, toPs_length hp]; exact Nat.le_refl _) (toPs_notAgg hp hc)
  refine data_cells N ly hr hp h.2.1.hle fun j u hu => ?_
  have hj : j < us.size := by have := (List.getElem?_eq_some_iff.1 hu).1; simpa using this
  rw [HM.more_at hj, ← Array.getElem?_toList]; exact hu

/-- A new row of `k` elements that a slice owns and may grow in. -/
theorem fresh_tok {c : Cfg} (hg : Good N ly c) {i : Nat} {cs : List V} {us : Array Value} {ps : List P} (n k cap : Nat) (e : TypeId) (hi : c.m[i]? = some .hole ∨ ∃ k0, c.m[i]? = some (.tok n k0) ∧ k0 < k)
    (hr : VReps N ly c.H c.φ c.m cs (us.toList.take (k * sz n))) (hc : ∀ y ∈ cs, y.isCell = true) (hp : toPs cs = some ps) (hk : k * sz n = cs.length) (hs : cap * sz n ≤ us.size) (hkc : k ≤ cap) (w' : World)
    (hw : w'.heap = c.w.heap.push (.cells us e (0, 0))) (hos : w'.os = c.w.os) (htape : w'.tape = c.w.tape) (hout : w'.output = c.w.output) :
    ∃ c' : Cfg, c'.w = w' ∧ c'.m = c.m.set i (.tok n k) ∧ Good N ly c' ∧ Trans c c' ∧ Ext c.H c.φ c.m c'.H c'.φ c'.m ∧ VRep N ly c'.H c'.φ c'.m (.sl n i (chunk n k ps)) (.slice (some ⟨c.w.heap.size, 0, none⟩) k cap) := by
  have hone := VReps.one N ly hr hc
  have hil : i < c.m.length := by rcases hi with hi | ⟨_, hi, _⟩ <;> exact (List.getElem?_eq_some_iff.1 hi).1
  have hlim : k * sz n ≤ us.size := Nat.le_trans (Nat.mul_le_mul_right _ hkc) hs
  have h := new_row N ly hg i (.tok n k) us e (k * sz n) (by rcases hi with hi | ⟨k0, hi, hlt⟩; exact .inl hi; exact .inr ⟨n, k0, k, hi, rfl, hlt⟩)
    (fun j v hj hv => hone v (by rw [← Array.getElem?_toList] at hv; exact List.mem_of_getElem? (by rw [List.getElem?_take_of_lt hj]; exact hv))) rfl w' hw hos htape hout
  refine ⟨⟨c.H.more c.w.heap.size us (k * sz n), c.φ.set i (some (c.w.heap.size, us.size)), c.m.set i (.tok n k), w'⟩, rfl, rfl, h.1, h.2.1, h.2.2, ?_⟩
  simp only [VRep, Rep]
  rw [chunk_length]
  refine ⟨⟨_, cap, ⟨rfl, hkc⟩, fun _ => ⟨_, 0, rfl, ?_⟩⟩, .inr ⟨k, by simp [hil], Nat.le_refl _, fun _ => .inr ⟨_, _, cap, by simp [hg.len, hil], rfl, hkc, hs⟩⟩⟩
  refine RepCs.chunk N ?_ (by rw [hk, toPs_length hp]; exact Nat.le_refl _) (toPs_notAgg hp hc)
  refine data_cells N ly hr hp h.2.1.hle fun j u hu => ?_
  have hj : j < k * sz n := by
    have := (List.getElem?_eq_some_iff.1 hu).1
    rw [List.length_take] at this; omega
  rw [HM.more_at hj, ← Array.getElem?_toList]
  rw [List.getElem?_take_of_lt hj] at hu; exact hu

/-- A new row of `k` elements that may be written. -/
theorem fresh_ref {c : Cfg} (hg : Good N ly c) {i : Nat} {cs : List V} {us : Array Value} (n k cap : Nat) (e : TypeId) (hi : c.m[i]? = some .hole)
    (hr : VReps N ly c.H c.φ c.m cs (us.toList.take cs.length)) (hc : ∀ y ∈ cs, y.isCell = true) (hs : cap * sz n ≤ us.size) (hl : cs.length ≤ us.size) (hkc : k ≤ cap) (w' : World)
    (hw : w'.heap = c.w.heap.push (.cells us e (0, 0))) (hos : w'.os = c.w.os) (htape : w'.tape = c.w.tape) (hout : w'.output = c.w.output) :
    ∃ c' : Cfg, c'.w = w' ∧ c'.m = c.m.set i (.cells cs) ∧ Good N ly c' ∧ Trans c c' ∧ Ext c.H c.φ c.m c'.H c'.φ c'.m ∧ VRep N ly c'.H c'.φ c'.m (.ref n i 0 k) (.slice (some ⟨c.w.heap.size, 0, none⟩) k cap) := by
  have hil : i < c.m.length := (List.getElem?_eq_some_iff.1 hi).1
  have h := new_row N ly hg i (.cells cs) us e 0 (.inl hi) (fun j v hj => by omega)
    ⟨rfl, hl, fun j y hy => by
      obtain ⟨v, k1, k2⟩ := VReps.get N ly hr j y hy
      have hj : j < cs.length := (List.getElem?_eq_some_iff.1 hy).1
      rw [List.getElem?_take_of_lt hj] at k1
      exact ⟨hc y (List.mem_of_getElem? hy), v, by rw [← Array.getElem?_toList]; exact k1, k2⟩⟩ w' hw hos htape hout
  refine ⟨⟨c.H.more c.w.heap.size us 0, c.φ.set i (some (c.w.heap.size, us.size)), c.m.set i (.cells cs), w'⟩, rfl, rfl, h.1, h.2.1, h.2.2, ?_⟩
  simp only [VRep]
  exact .inr ⟨c.w.heap.size, us.size, cap, .inl ⟨cs, by simp [hil]⟩, by simp [hg.len, hil], rfl, hkc, by omega⟩

theorem zeroOk.size {n : Nat} {z : List Zc} {v : Value} (h : zsEq z v.cells.toList = true) (hl : z.length = sz n) : v.cells.size = sz n := by
  have := zsEq_length h
  simp at this; omega

/-! ### A slice written out -/

theorem lit_run {c : Cfg} {T e n len : Nat} {z : List Zc} {ps : List (Nat × V)} {qs : Array (Nat × Value)} {cs : List V} (ht : pr.underlying T = some (.slice e)) (hk : kindOk pr e n = true) (hz : zeroOk pr e z = true) (hzl : z.length = sz n)
    (hlen : len * sz n ≤ 16777216) (hf : fillV (rep (z.map Zc.toV) len) (ps.map fun (i, x) => (i * sz n, n, x)) = some cs) (hl : ps.length = qs.size)
    (hp : ∀ (j : Nat) (i : Nat) (x : V) (i' : Nat) (v : Value), ps[j]? = some (i, x) → qs[j]? = some (i', v) → i' = i ∧ VRep N ly c.H c.φ c.m x v) :
    ∃ us : Array Value, (Instr.buildSlice T len qs).run pr c.w = .ok (.slice (some ⟨c.w.heap.size, 0, none⟩) len len) (c.w.alloc (.cells us e)) ∧ VReps N ly c.H c.φ c.m cs us.toList ∧ (∀ y ∈ cs, y.isCell = true) ∧ cs.length = len * sz n := by
  obtain ⟨v, _, hze, i, hi, hiz⟩ := zeroOk.run pr hz
  obtain ⟨i', hi', hsz⟩ := kindOk.info pr hk
  rw [hi] at hi'; cases hi'
  have hvs := zeroOk.size hze hzl
  have hzr := zeros_rep N ly (c := c) hze len
  rw [hvs] at hzr
  obtain ⟨us, q1, q2, q3⟩ := fill_rep N ly (place := fun i => some (i * sz n, sz n)) (qs := qs.toList) hf hzr.1 hzr.2 (by simp [hl]) (fun j o n' x i v hj hv => by
    simp only [List.getElem?_map, Option.map_eq_some_iff] at hj
    obtain ⟨⟨a, b⟩, hj, he⟩ := hj
    simp only [Prod.mk.injEq] at he
    obtain ⟨rfl, rfl, rfl⟩ := he
    obtain ⟨rfl, h2⟩ := hp j a b i v hj (by rw [← Array.getElem?_toList]; exact hv)
    exact ⟨rfl, h2⟩)
  have hlenc : cs.length = len * sz n := by
    have e1 : ∀ {ps : List (Nat × Nat × V)} {a b : List V}, fillV a ps = some b → b.length = a.length := by
      intro ps
      induction ps with
      | nil => intro a b h; simp only [fillV, Option.some.injEq] at h; subst h; rfl
      | cons p r ih =>
        obtain ⟨o, n, x⟩ := p
        intro a b h
        simp only [fillV] at h
        split at h
        · split at h
          · rename_i hc
            rw [ih h]; simp [setRange]; omega
          · cases h
        · cases h
    rw [e1 hf, rep_length, List.length_map, hzl]
  refine ⟨us, ?_, q2, q3, hlenc⟩
  by_cases h0 : len * sz n = 0
  · have hl0 : len = 0 := by
      rcases Nat.mul_eq_zero.1 h0 with h | h
      · exact h
      · have := sz_pos n; omega
    subst hl0
    -- no elements: no parts fit
    have hsn := sz_pos n
    have hq : qs = #[] := by
      match hps : ps with
      | [] => exact Array.eq_empty_of_size_eq_zero (by simpa using hl.symm)
      | (a, b) :: r =>
        exfalso
        simp only [List.map_cons, fillV, rep, List.length_nil] at hf
        split at hf
        · split at hf
          · omega
          · cases hf
        · cases hf
    subst hq
    have hu : us = #[] := by
      simp only [Instr.fill, Nat.zero_mul, Array.range_zero', Array.map_empty, Option.some.injEq] at q1
      exact q1.symm
    subst hu
    simp [Instr.buildSlice, run_underlying ht, sizeOf, typeInfo, hi, Instr.fill, newRow, Array.range_zero']
  · refine run_buildSlice c.w T e len qs us i v ht hi hiz (by rw [hsz]; omega) (by rw [hsz]; exact h0) ?_
    rw [hsz, hvs]; exact q1

theorem lit_ok {c : Cfg} (hg : Good N ly c) {T e n len : Nat} {z : List Zc} {ps : List (Nat × V)} {qs : Array (Nat × Value)} {cs : List V} (ht : pr.underlying T = some (.slice e)) (hk : kindOk pr e n = true) (hz : zeroOk pr e z = true) (hzl : z.length = sz n)
    (hlen : len * sz n ≤ 16777216) (hf : fillV (rep (z.map Zc.toV) len) (ps.map fun (i, x) => (i * sz n, n, x)) = some cs) (hl : ps.length = qs.size)
    (hp : ∀ (j : Nat) (i : Nat) (x : V) (i' : Nat) (v : Value), ps[j]? = some (i, x) → qs[j]? = some (i', v) → i' = i ∧ VRep N ly c.H c.φ c.m x v) (md : Md) (i : Nat) (r : Res)
    (hr : (if len = 0 then RM.ret ({ val := .nil n } : Res) else match md with
      | .pure => match toPs cs with
        | some l => .ret { val := .p (.sl n (chunk n len l)) }
        | none => .fail
      | .grow => match toPs cs with
        | some l => atHole i { val := .sl n i (chunk n len l), ups := [(i, .tok n len)] }
        | none => .fail
      | .own => atHole i { val := .ref n i 0 len, ups := [(i, .cells cs)] }).run c.m = some r) :
    OpOk N ly pr c r (do let y ← Instr.buildSlice T len qs; Pure.pure (Next.value y)) := by
  obtain ⟨us, hrun, hrep, hcell, hcl⟩ := lit_run N ly pr ht hk hz hzl hlen hf hl hp
  have hul : us.size = len * sz n := by rw [← hcl, VReps.length N ly hrep]; simp
  by_cases h0 : len = 0
  · rw [if_pos h0] at hr
    simp only [RM.run, Option.some.injEq] at hr
    subst hr h0
    have h := new_frozen N ly hg us e 0 (fun j v hj => by omega) (c.w.alloc (.cells us e)) rfl rfl rfl rfl
    refine ⟨_, _, .inl (run_v pr hrun), by simp [applyUps], h.1, h.2.1, h.2.2, ?_⟩
    simp only [VRep]; exact ⟨_, rfl⟩
  · rw [if_neg h0] at hr
    cases md with
    | pure =>
      simp only at hr
      cases hps : toPs cs with
      | none => rw [hps] at hr; simp [RM.run] at hr
      | some l =>
        rw [hps] at hr
        simp only [RM.run, Option.some.injEq] at hr
        subst hr
        obtain ⟨c', e1, e2, k1, k2, k3, k4⟩ := fresh_data N ly hg n len len e hrep hcell hps hcl.symm (Nat.le_refl _)
        exact ⟨_, c', .inl (by rw [e1]; exact run_v pr hrun), by rw [e2]; simp [applyUps], k1, k2, k3, by simp only [VRep]; exact k4⟩
    | grow =>
      simp only at hr
      cases hps : toPs cs with
      | none => rw [hps] at hr; simp [RM.run] at hr
      | some l =>
        rw [hps] at hr
        obtain ⟨hh, rfl⟩ := run_atHole hr
        obtain ⟨c', e1, e2, k1, k2, k3, k4⟩ := fresh_tok N ly hg n len len e (.inl hh) (by rw [List.take_of_length_le (by simp; omega)]; exact hrep) hcell hps hcl.symm (by omega) (Nat.le_refl _) (c.w.alloc (.cells us e)) rfl rfl rfl rfl
        exact ⟨_, c', .inl (by rw [e1]; exact run_v pr hrun), by rw [e2, applyUps_one], k1, k2, k3, k4⟩
    | own =>
      simp only at hr
      obtain ⟨hh, rfl⟩ := run_atHole hr
      obtain ⟨c', e1, e2, k1, k2, k3, k4⟩ := fresh_ref N ly hg n len len e hh (by rw [List.take_of_length_le (by simp; omega)]; exact hrep) hcell (by omega) (by omega) (Nat.le_refl _) (c.w.alloc (.cells us e)) rfl rfl rfl rfl
      exact ⟨_, c', .inl (by rw [e1]; exact run_v pr hrun), by rw [e2, applyUps_one], k1, k2, k3, k4⟩

end Go.Am
