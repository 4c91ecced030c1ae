/- The machine's operations are Go's: stores, new memory, structs and literals. -/
import Derived.Test.YtbepkgilphbhaaaAmOps
import Derived.Laws.Tables
import Derived.Great.BuildSlice
namespace Go.Am
open Go

variable (N : Nm) (ly : Option Nat) (pr : Program)

theorem applyUps_one (m : List Blk) (i : Nat) (b : Blk) : applyUps m [(i, b)] ++ [] = m.set i b := by simp [applyUps]

theorem VReps.list {H : HM} {φ : FM} {m : List Blk} {xs : List V} {vs : List Value} (h : VReps N ly H φ m xs vs) (j : Nat) (x : V) (hx : xs[j]? = some x) : ∃ v, vs[j]? = some v ∧ VRep N ly H φ m x v := VReps.get N ly h j x hx

/-! ### A store -/

theorem store_own {c : Cfg} (hg : Good N ly c) {T n b off : Nat} {cs vs : List V} {x : V} {v u : Value} (hk : kindOk pr T n = true) (hv : VRep N ly c.H c.φ c.m (.ptr b off) v) (hb : c.m[b]? = some (.cells cs))
    (hx : x.cells? = some vs) (hu : VRep N ly c.H c.φ c.m x u) (hl : vs.length = sz n) (hle : off + sz n ≤ cs.length) :
    ∃ c' : Cfg, (Instr.storeAt T v u).run pr c.w = .ok () c'.w ∧ c'.m = c.m.set b (.cells (setRange cs off vs)) ∧ Good N ly c' ∧ Trans c c' ∧ Ext c.H c.φ c.m c'.H c'.φ c'.m := by
  simp only [VRep] at hv
  obtain ⟨R, s, _, hφ, rfl⟩ := hv
  obtain ⟨arr, e, h1, h2, h3, h4⟩ := cells_read N ly hg hb hφ
  obtain ⟨hr, hcell⟩ := cells_rep N ly hx hu
  have hlen := VReps.length N ly hr
  obtain ⟨_, hsz⟩ := kindOk.run pr hk c.w
  have hone : ∀ y ∈ u.cells.toList, y.oneCell' = true := fun y hy => by
    obtain ⟨j, hj⟩ := List.getElem?_of_mem hy
    have hjl : j < vs.length := by rw [hlen]; exact (List.getElem?_eq_some_iff.1 hj).1
    obtain ⟨y', q1, q2⟩ := VReps.get N ly hr j vs[j] (List.getElem?_eq_getElem hjl)
    rw [hj] at q1; cases q1
    exact cell_oneCell N ly (hcell _ (List.getElem_mem hjl)) q2
  have hst := run_storeCells_at pr R off e u.cells.toList 0 arr c.w h1 (by omega) hone
  simp only [Nat.add_zero] at hst
  have hrun : (Instr.storeAt T (.pointer (some ⟨R, off, none⟩)) u).run pr c.w = .ok () (c.w.setRow R (arr.toList.take off ++ u.cells.toList ++ arr.toList.drop (off + u.cells.toList.length)).toArray) := by
    have hs : u.cells.size = sz n := by rw [← Array.length_toList, ← hlen, hl]
    simp only [Instr.storeAt, Instr.sureAddr, storeVar, Sem.run_bind, Sem.run_pure, Result.andThen_ok, hsz, hs]
    simpa using hst
  have hnew := write_row N ly hg b R s cs (setRange cs off vs) (arr.toList.take off ++ u.cells.toList ++ arr.toList.drop (off + u.cells.toList.length)).toArray hb hφ
    (by have e0 : u.cells.size = sz n := by rw [← Array.length_toList, ← hlen, hl]
        simp only [List.size_toArray, List.length_append, List.length_take, List.length_drop, Array.length_toList]; omega) (by simp [setRange]; omega) (fun j y hy => ?_)
  · exact ⟨_, hrun, rfl, hnew⟩
  · unfold setRange at hy
    by_cases q1 : j < off
    · rw [List.append_assoc, List.getElem?_append_left (by simp; omega), List.getElem?_take_of_lt q1] at hy
      obtain ⟨a, w, k1, _, k2⟩ := h4 j y hy
      refine ⟨a, w, ?_, k2⟩
      rw [List.getElem?_toArray, List.append_assoc, List.getElem?_append_left (by simp; omega), List.getElem?_take_of_lt q1]
      simpa using k1
    · by_cases q2 : j < off + vs.length
      · rw [List.append_assoc, List.getElem?_append_right (by simp; omega), List.getElem?_append_left (by simp; omega)] at hy
        have e1 : (cs.take off).length = off := by simp; omega
        rw [e1] at hy
        obtain ⟨w, k1, k2⟩ := VReps.get N ly hr _ y hy
        refine ⟨hcell _ (List.mem_of_getElem? hy), w, ?_, k2⟩
        have e2 : (arr.toList.take off).length = off := by simp; omega
        rw [List.getElem?_toArray, List.append_assoc, List.getElem?_append_right (by omega), List.getElem?_append_left (by omega), e2]
        exact k1
      · rw [List.getElem?_append_right (by simp; omega), List.getElem?_drop] at hy
        have e1 : off + vs.length + (j - (cs.take off ++ vs).length) = j := by simp; omega
        rw [e1] at hy
        obtain ⟨a, w, k1, _, k2⟩ := h4 j y hy
        refine ⟨a, w, ?_, k2⟩
        have e2 : (arr.toList.take off ++ u.cells.toList).length = off + vs.length := by simp only [List.length_append, List.length_take, Array.length_toList]; rw [hlen, Array.length_toList]; omega
        rw [List.getElem?_toArray, List.getElem?_append_right (by omega), List.getElem?_drop, e2]
        have e3 : off + u.cells.toList.length + (j - (off + vs.length)) = j := by omega
        rw [e3]; simpa using k1

/-! ### New variables -/

theorem new_var {c : Cfg} (hg : Good N ly c) {i : Nat} {cs : List V} {us : List Value} (e : TypeId) (hi : c.m[i]? = some .hole) (hr : VReps N ly c.H c.φ c.m cs us) (hc : ∀ y ∈ cs, y.isCell = true) :
    ∃ c' : Cfg, c'.w = c.w.alloc (.cells us.toArray e) ∧ c'.m = c.m.set i (.cells cs) ∧ Good N ly c' ∧ Trans c c' ∧ Ext c.H c.φ c.m c'.H c'.φ c'.m ∧ c'.φ[i]? = some (some (c.w.heap.size, us.length)) := by
  have hil : i < c.m.length := (List.getElem?_eq_some_iff.1 hi).1
  have h := new_row N ly hg i (.cells cs) us.toArray e 0 (.inl hi) (fun j v hj => by omega)
    (by refine ⟨rfl, ?_, fun j y hy => ?_⟩
        · rw [VReps.length N ly hr]; simp
        · obtain ⟨v, k1, k2⟩ := VReps.get N ly hr j y hy
          exact ⟨hc y (List.mem_of_getElem? hy), v, by simpa using k1, k2⟩) (c.w.alloc (.cells us.toArray e)) rfl rfl rfl rfl
  exact ⟨_, rfl, rfl, h.1, h.2.1, h.2.2, by simp [hg.len, hil]⟩

theorem run_newVar (T : TypeId) (v : Value) (w : World) : (newVar T v).run pr w = .ok ⟨w.heap.size, 0, none⟩ (w.alloc (.cells v.cells T)) := by
  simp [newVar, newRow]

theorem box_ok {c : Cfg} (hg : Good N ly c) {T i : Nat} {cs : List V} {x : V} {v : Value} (hi : c.m[i]? = some .hole) (hx : x.cells? = some cs) (hv : VRep N ly c.H c.φ c.m x v) :
    OpOk N ly pr c { val := .ptr i 0, ups := [(i, .cells cs)] } (do let y ← Instr.box T v; Pure.pure (Next.value y)) := by
  obtain ⟨hr, hc⟩ := cells_rep N ly hx hv
  have hil : i < c.m.length := (List.getElem?_eq_some_iff.1 hi).1
  obtain ⟨c', e1, e2, k1, k2, k3, k4⟩ := new_var N ly hg T hi hr hc
  refine ⟨.pointer (some ⟨c.w.heap.size, 0, none⟩), c', .inl ?_, by rw [applyUps_one]; exact e2, k1, k2, k3, ?_⟩
  · have : (Instr.box T v).run pr c.w = .ok (.pointer (some ⟨c.w.heap.size, 0, none⟩)) c'.w := by
      rw [e1]; simp [Instr.box, run_newVar]
    exact run_v pr this
  · simp only [VRep]
    exact ⟨_, _, .inl ⟨cs, by rw [e2]; simp [hil]⟩, k4, rfl⟩

theorem alloc_ok {c : Cfg} (hg : Good N ly c) {T i : Nat} {z : List Zc} (hi : c.m[i]? = some .hole) (hz : zeroOk pr T z = true) :
    OpOk N ly pr c { val := .ptr i 0, ups := [(i, .cells (z.map Zc.toV))] } (do let y ← Instr.alloc T true (.tuple #[]); Pure.pure (Next.value y)) := by
  obtain ⟨v, hzv, hze, _⟩ := zeroOk.run pr hz
  obtain ⟨hr, hc⟩ := zsEq.rep N ly (H := c.H) (φ := c.φ) (m := c.m) hze
  have hil : i < c.m.length := (List.getElem?_eq_some_iff.1 hi).1
  obtain ⟨c', e1, e2, k1, k2, k3, k4⟩ := new_var N ly hg T hi hr hc
  refine ⟨.pointer (some ⟨c.w.heap.size, 0, none⟩), c', .inl ?_, by rw [applyUps_one]; exact e2, k1, k2, k3, ?_⟩
  · have : (Instr.alloc T true (.tuple #[])).run pr c.w = .ok (.pointer (some ⟨c.w.heap.size, 0, none⟩)) c'.w := by
      rw [e1]; simp [Instr.alloc, hzv, run_newVar]
    exact run_v pr this
  · simp only [VRep]
    exact ⟨_, _, .inl ⟨z.map Zc.toV, by rw [e2]; simp [hil]⟩, k4, rfl⟩

/-! ### Parts laid into a row -/

theorem foldl_set (off : Nat) : ∀ (l : List Value) (k : Nat) (cells : Array Value), off + k + l.length ≤ cells.size →
    (l.zipIdx k).foldl (fun cs x => cs.setIfInBounds (off + x.2) x.1) cells = (cells.toList.take (off + k) ++ l ++ cells.toList.drop (off + k + l.length)).toArray
  | [], k, cells, _ => by simp
  | v :: r, k, cells, h => by
    simp only [List.zipIdx_cons, List.foldl_cons]
    rw [foldl_set off r (k + 1) _ (by simp at h ⊢; omega)]
    have e := list_seg_step cells.toList (off + k) v r (by simp at h ⊢; omega)
    simp only [Array.toList_setIfInBounds, Nat.add_assoc] at e ⊢
    simpa [Nat.add_assoc] using congrArg List.toArray e

theorem fill_rep {c : Cfg} {place : Nat → Option (Nat × Nat)} : ∀ {ps : List (Nat × Nat × V)} {qs : List (Nat × Value)} {cs cs' : List V} {cells : Array Value}, fillV cs ps = some cs' →
    VReps N ly c.H c.φ c.m cs cells.toList → (∀ y ∈ cs, y.isCell = true) → ps.length = qs.length →
    (∀ (j : Nat) (o n : Nat) (x : V) (i : Nat) (v : Value), ps[j]? = some (o, n, x) → qs[j]? = some (i, v) → place i = some (o, sz n) ∧ VRep N ly c.H c.φ c.m x v) →
    ∃ cells', Instr.fill place cells qs = some cells' ∧ VReps N ly c.H c.φ c.m cs' cells'.toList ∧ (∀ y ∈ cs', y.isCell = true)
  | [], [], cs, cs', cells, h, hr, hc, _, _ => by
    simp only [fillV, Option.some.injEq] at h; subst h
    exact ⟨cells, rfl, hr, hc⟩
  | (o, n, x) :: r, (i, v) :: s, cs, cs', cells, h, hr, hc, hl, hp => by
    simp only [fillV] at h
    split at h
    · rename_i vs hvs
      split at h
      · rename_i hcond
        obtain ⟨h1, h2⟩ := hp 0 o n x i v (by simp) (by simp)
        obtain ⟨k1, k2⟩ := cells_rep N ly hvs h2
        have e1 := VReps.length N ly hr
        have e2 := VReps.length N ly k1
        simp only [Array.length_toList] at e1 e2
        have hsr := VReps.setRange N ly (off := o) hr k1 (by omega)
        have hfold : v.cells.zipIdx.foldl (fun cs x => cs.setIfInBounds (o + x.2) x.1) cells = (cells.toList.take o ++ v.cells.toList ++ cells.toList.drop (o + v.cells.toList.length)).toArray := by
          have := foldl_set o v.cells.toList 0 cells (by simp; omega)
          simp only [Nat.add_zero] at this
          rw [← this, ← Array.foldl_toList]
          simp
        have hcell' : ∀ y ∈ setRange cs o vs, y.isCell = true := fun y hy => by
          unfold setRange at hy
          simp only [List.mem_append] at hy
          rcases hy with (hy | hy) | hy
          · exact hc y (List.mem_of_mem_take hy)
          · exact k2 y hy
          · exact hc y (List.mem_of_mem_drop hy)
        obtain ⟨cells', q1, q2, q3⟩ := fill_rep (cells := (cells.toList.take o ++ v.cells.toList ++ cells.toList.drop (o + v.cells.toList.length)).toArray) h (by simpa using hsr) hcell' (by simpa using hl)
          (fun j o' n' x' i' v' hj hj' => hp (j + 1) o' n' x' i' v' (by simpa using hj) (by simpa using hj'))
        refine ⟨cells', ?_, q2, q3⟩
        simp only [Instr.fill, h1]
        rw [if_neg (by simp; omega)]
        rw [← q1]
        congr 1
      · cases h
    · cases h
  | [], _ :: _, _, _, _, _, _, _, hl, _ => by simp at hl
  | _ :: _, [], _, _, _, _, _, _, hl, _ => by simp at hl

end Go.Am
