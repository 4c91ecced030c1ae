/- The machine's operations are Go's: addresses, parts, arithmetic. -/
import Derived.Test.YtbepkgilphbhaaaAmOps7
namespace Go.Am
open Go

variable (N : Nm) (ly : Option Nat) (pr : Program)

/-! ### Addresses -/

def mField (T off : Nat) (f : Nat) : Option TypeId :=
  match pr.underlying T with
  | some (.struct fs) => match fs[f]? with
    | some fd => if fd.offset = off then some fd.type else none
    | none => none
  | _ => none

def mFaddr (T off f : Nat) : Bool :=
  match mField pr T off f with
  | some t => match pr.info? t with
    | some i => i.size != 0
    | none => false
  | none => false

theorem mField_some {T off f t : Nat} (h : mField pr T off f = some t) : ∃ fs fd, pr.underlying T = some (.struct fs) ∧ fs[f]? = some fd ∧ fd.offset = off ∧ fd.type = t := by
  unfold mField at h
  split at h
  · rename_i fs hu
    split at h
    · rename_i fd hf
      split at h
      · rename_i ho
        cases h
        exact ⟨fs, fd, hu, hf, ho, rfl⟩
      · cases h
    · cases h
  · cases h

theorem faddr_run {T off f b o : Nat} (w : World) (hm : mFaddr pr T off f = true) : (Instr.fieldAt T (.pointer (some ⟨b, o, none⟩)) f).run pr w = .ok (.pointer (some ⟨b, o + off, none⟩)) w := by
  unfold mFaddr at hm
  split at hm
  · rename_i t ht
    split at hm
    · rename_i i hi
      obtain ⟨fs, fd, hu, hf, rfl, rfl⟩ := mField_some pr ht
      have hs : ¬ i.size = 0 := by simpa using hm
      simp [Instr.fieldAt, run_underlying hu, hf, Instr.sureAddr, fieldPlace, sizeOf, typeInfo, hi, hs, addr_add]
    · cases hm
  · cases hm

theorem faddr_ok {c : Cfg} (hg : Good N ly c) {fr : Fr} {a : Act} (hf : FRep N ly c fr a.tmps) {T base len off f : Nat} {x : Opd} {y : Operand} (E : Env) {r : Res}
    (hm : mFaddr pr T off f = true) (hx : mOpd N x y = true) (hr : (exec1 E base len fr (.faddr off x)).run c.m = some r) :
    OpOk N ly pr c r (do let q ← Instr.fieldAt T (a.eval y) f; Pure.pure (Next.value q)) := by
  have hv := opd_rep N ly hf hx
  simp only [exec1] at hr
  split at hr
  · rename_i b o hx'
    rw [hx'] at hv
    simp only [RM.run, Option.some.injEq] at hr; subst hr
    simp only [VRep] at hv
    obtain ⟨R, s, k1, k2, hA⟩ := hv
    refine OpOk.pure N ly pr hg (run_v pr (by rw [hA]; exact faddr_run pr c.w hm)) ?_
    simp only [VRep]; exact ⟨R, s, k1, k2, rfl⟩
  · rename_i ps hx'
    rw [hx'] at hv
    simp only [RM.run, Option.some.injEq] at hr; subst hr
    simp only [VRep, Rep] at hv
    obtain ⟨b, o, hA, hc⟩ := hv
    refine OpOk.pure N ly pr hg (run_v pr (by rw [hA]; exact faddr_run pr c.w hm)) ?_
    simp only [VRep, Rep]; exact ⟨b, o + off, rfl, RepCs.drop N hc off⟩
  · simp [RM.run] at hr

theorem iaddr_ok {c : Cfg} (hg : Good N ly c) {fr : Fr} {a : Act} (hf : FRep N ly c fr a.tmps) {T n base len : Nat} {arr : Option Nat} {x i : Opd} {y j : Operand} (E : Env) {r : Res}
    (hm : mSlice pr T n arr = true) (hx : mOpd N x y = true) (hi : mOpd N i j = true) (hr : (exec1 E base len fr (.iaddr n arr x i)).run c.m = some r) :
    OpOk N ly pr c r (do let q ← Instr.indexAt T (a.eval y) (a.eval j); Pure.pure (Next.value q)) := by
  have hv := opd_rep N ly hf hx
  simp only [exec1] at hr
  cases hb : bound i fr with
  | none => rw [hb] at hr; simp [RM.run] at hr
  | some k =>
    rw [hb] at hr
    simp only at hr
    obtain ⟨kd, hk⟩ := bound_rep N ly hb (opd_rep N ly hf hi)
    rw [hk]
    unfold mSlice at hm
    cases hu : pr.underlying T with
    | none => rw [hu] at hm; simp at hm
    | some d =>
      rw [hu] at hm
      cases arr with
      | none =>
        cases d <;> simp only at hm <;> try (cases hm; done)
        rename_i e
        obtain ⟨_, hsz⟩ := kindOk.run pr hm c.w
        have hrun : ∀ (b o ln cp : Nat), a.eval y = .slice (some ⟨b, o, none⟩) ln cp → k < ln →
            (Instr.indexAt T (a.eval y) (.int kd (k : Int))).run pr c.w = .ok (.pointer (some ⟨b, o + k * sz n, none⟩)) c.w := fun b o ln cp hA hlt => by
          rw [hA]
          simp [Instr.indexAt, asIntOf, run_underlying hu, hlt, hsz, addr_add]
        have data : ∀ {es : List P} {e : P}, Rep N c.H (.sl n es) (a.eval y) → es[k]? = some e → ∃ q, (Instr.indexAt T (a.eval y) (.int kd (k : Int))).run pr c.w = .ok q c.w ∧ VRep N ly c.H c.φ c.m (.p (.ptr e.cells)) q := by
          intro es e hv he
          simp only [Rep] at hv
          obtain ⟨A, cp, ⟨hA, _⟩, hne⟩ := hv
          have hkl : k < es.length := (List.getElem?_eq_some_iff.1 he).1
          obtain ⟨b, o, rfl, hr⟩ := hne (fun h => by subst h; simp at hkl)
          refine ⟨_, hrun b o es.length cp hA hkl, ?_⟩
          obtain ⟨v, hl, hp, hag⟩ := RepEs.get N hr k e he
          simp only [VRep, Rep]
          refine ⟨b, o + k * sz n, rfl, ?_⟩
          rcases hl with ⟨hn, h0⟩ | ⟨hn, cs, h1, rfl, h2⟩
          · have hna : e.isAgg = false := by
              cases h : e.isAgg with
              | false => rfl
              | true => exact absurd hn (hag.1 h)
            have : e.cells = [e] := by cases e <;> first | rfl | simp [P.isAgg] at hna
            rw [this]
            exact RepCs.of N fun j p hj => by
              cases j with
              | zero => simp at hj; subst hj; exact ⟨v, by simpa using h0, hp⟩
              | succ j => simp at hj
          · have he' := hag.2 hn
            cases e <;> simp only [P.isAgg, Bool.false_eq_true] at he'
            rename_i ps
            simp only [Rep] at hp
            obtain ⟨cs', hcs, hp⟩ := hp
            have : cs = cs' := by simpa using hcs
            subst this
            simp only [P.cells]
            exact RepCs.of N fun j p hj => by
              obtain ⟨u, k1, k2⟩ := Reps.get N hp j p hj
              exact ⟨u, h2 j u k1, k2⟩
        split at hr
        · rename_i n' es _ hx'
          rw [hx'] at hv
          split at hr
          · rename_i hn
            subst hn
            rw [run_lift] at hr
            cases he : es[k]? with
            | none => rw [he] at hr; simp at hr
            | some e =>
              rw [he] at hr; simp at hr; subst hr
              obtain ⟨q, h1, h2⟩ := data (by simpa only [VRep] using hv) he
              exact OpOk.pure N ly pr hg (run_v pr h1) h2
          · simp [RM.run] at hr
        · rename_i n' t es _ hx'
          rw [hx'] at hv
          split at hr
          · rename_i hn
            subst hn
            rw [run_lift] at hr
            cases he : es[k]? with
            | none => rw [he] at hr; simp at hr
            | some e =>
              rw [he] at hr; simp at hr; subst hr
              simp only [VRep] at hv
              obtain ⟨q, h1, h2⟩ := data hv.1 he
              exact OpOk.pure N ly pr hg (run_v pr h1) h2
          · simp [RM.run] at hr
        · rename_i n' b off ln _ hx'
          rw [hx'] at hv
          split at hr
          · rename_i hc
            obtain ⟨rfl, hlt⟩ := hc
            simp only [RM.run, Option.some.injEq] at hr; subst hr
            simp only [VRep] at hv
            rcases hv with ⟨h0, _⟩ | ⟨R, s, cp, k1, k2, hA, k3, k4⟩
            · omega
            · refine OpOk.pure N ly pr hg (run_v pr (hrun R off ln cp hA hlt)) ?_
              simp only [VRep]; exact ⟨R, s, k1, k2, rfl⟩
          · simp [RM.run] at hr
        · rename_i hbad _; cases hbad
        · rename_i hbad _; cases hbad
        · simp [RM.run] at hr
      | some q =>
        cases d <;> simp only at hm <;> try (cases hm; done)
        rename_i q' e
        simp only [Bool.and_eq_true, beq_iff_eq] at hm
        obtain ⟨rfl, hm⟩ := hm
        obtain ⟨_, hsz⟩ := kindOk.run pr hm c.w
        have hrun : ∀ (b o : Nat), a.eval y = .pointer (some ⟨b, o, none⟩) → k < q' →
            (Instr.indexAt T (a.eval y) (.int kd (k : Int))).run pr c.w = .ok (.pointer (some ⟨b, o + k * sz n, none⟩)) c.w := fun b o hA hlt => by
          rw [hA]
          simp [Instr.indexAt, asIntOf, run_underlying hu, hlt, hsz, addr_add, Instr.sureAddr]
        split at hr
        · rename_i hbad _; cases hbad
        · rename_i hbad _; cases hbad
        · rename_i hbad _; cases hbad
        · rename_i len' b off heq hx'
          cases heq
          rw [hx'] at hv
          split at hr
          · rename_i hlt
            simp only [RM.run, Option.some.injEq] at hr; subst hr
            simp only [VRep] at hv
            obtain ⟨R, s, k1, k2, hA⟩ := hv
            refine OpOk.pure N ly pr hg (run_v pr (hrun R off hA hlt)) ?_
            simp only [VRep]; exact ⟨R, s, k1, k2, rfl⟩
          · simp [RM.run] at hr
        · rename_i len' ps heq hx'
          cases heq
          rw [hx'] at hv
          split at hr
          · rename_i hlt
            simp only [RM.run, Option.some.injEq] at hr; subst hr
            simp only [VRep, Rep] at hv
            obtain ⟨b, o, hA, hc⟩ := hv
            refine OpOk.pure N ly pr hg (run_v pr (hrun b o hA hlt)) ?_
            simp only [VRep, Rep]; exact ⟨b, _, rfl, RepCs.drop N hc _⟩
          · simp [RM.run] at hr
        · simp [RM.run] at hr

/-! ### Parts of a value -/

theorem part_run {T n off : Nat} {vs : List Value} (w : World) (hk : kindOk pr T n = true) {v : Value} (hv : (if n = 0 then vs[off]? else if off + n ≤ vs.length then some (.agg ((vs.drop off).take n).toArray) else none) = some v) :
    (part T vs.toArray off).run pr w = .ok v w := by
  obtain ⟨h1, h2⟩ := kindOk.run pr hk w
  by_cases hn : n = 0
  · rw [if_pos hn] at hv
    simp [part, Sem.run_bind, h1, hn, hv]
  · rw [if_neg hn] at hv
    split at hv
    · cases hv
      have hsz : sz n = n := by simp [sz, hn]
      simp only [part, Sem.run_bind, h1, Result.andThen_ok, hn, ne_eq, not_false_eq_true, decide_true, if_true, h2, hsz, Sem.run_pure]
      congr 2
      apply Array.ext'
      simp [List.take_drop]
    · cases hv

theorem part_own {c : Cfg} {n off : Nat} {cs : List V} {vs : List Value} {x : V} (hr : VReps N ly c.H c.φ c.m cs vs) (hx : (if n = 0 then cs[off]? else if off + n ≤ cs.length then some (.agg ((cs.drop off).take n)) else none) = some x) :
    ∃ v, (if n = 0 then vs[off]? else if off + n ≤ vs.length then some (.agg ((vs.drop off).take n).toArray) else none) = some v ∧ VRep N ly c.H c.φ c.m x v := by
  have hl := VReps.length N ly hr
  by_cases hn : n = 0
  · rw [if_pos hn] at hx ⊢
    exact VReps.get N ly hr off x hx
  · rw [if_neg hn] at hx ⊢
    split at hx
    · rename_i hle
      cases hx
      rw [if_pos (by omega)]
      refine ⟨_, rfl, ?_⟩
      simp only [VRep]
      refine ⟨_, rfl, VReps.of N ly (by simp [hl]) fun j p u hp hu => ?_⟩
      simp only [List.getElem?_take, List.getElem?_drop] at hp hu
      split at hp
      · rename_i hj
        rw [if_pos hj] at hu
        obtain ⟨u', k1, k2⟩ := VReps.get N ly hr _ p hp
        rw [k1] at hu; cases hu; exact k2
      · cases hp
    · cases hx

theorem part_data {c : Cfg} {n off : Nat} {cs : List P} {vs : List Value} {x : V} (hr : Reps N c.H cs vs) (hx : (if n = 0 then cs[off]?.map V.p else if off + n ≤ cs.length then some (.p (.agg ((cs.drop off).take n))) else none) = some x) :
    ∃ v, (if n = 0 then vs[off]? else if off + n ≤ vs.length then some (.agg ((vs.drop off).take n).toArray) else none) = some v ∧ VRep N ly c.H c.φ c.m x v := by
  have hl := Reps.length N hr
  by_cases hn : n = 0
  · rw [if_pos hn] at hx ⊢
    simp only [Option.map_eq_some_iff] at hx
    obtain ⟨p, hp, rfl⟩ := hx
    obtain ⟨v, k1, k2⟩ := Reps.get N hr off p hp
    exact ⟨v, k1, by simpa only [VRep] using k2⟩
  · rw [if_neg hn] at hx ⊢
    split at hx
    · rename_i hle
      cases hx
      rw [if_pos (by omega)]
      refine ⟨_, rfl, ?_⟩
      simp only [VRep, Rep]
      refine ⟨_, rfl, Reps.of N (by simp [hl]) fun j p u hp hu => ?_⟩
      simp only [List.getElem?_take, List.getElem?_drop] at hp hu
      split at hp
      · rename_i hj
        rw [if_pos hj] at hu
        obtain ⟨u', k1, k2⟩ := Reps.get N hr _ p hp
        rw [k1] at hu; cases hu; exact k2
      · cases hp
    · cases hx

/-- What is taken out of an aggregate. -/
def partOf (x : V) (off n : Nat) : Option V :=
  match x with
  | .agg cs => if n = 0 then cs[off]? else if off + n ≤ cs.length then some (.agg ((cs.drop off).take n)) else none
  | .p (.agg ps) => if n = 0 then ps[off]?.map V.p else if off + n ≤ ps.length then some (.p (.agg ((ps.drop off).take n))) else none
  | _ => none

theorem partOf_ok {c : Cfg} {n off T : Nat} {x y : V} {v : Value} (w : World) (hk : kindOk pr T n = true) (h : partOf x off n = some y) (hv : VRep N ly c.H c.φ c.m x v) :
    ∃ cs u, v = .agg cs ∧ (part T cs off).run pr w = .ok u w ∧ VRep N ly c.H c.φ c.m y u := by
  unfold partOf at h
  split at h
  · simp only [VRep] at hv
    obtain ⟨vs, rfl, hr⟩ := hv
    obtain ⟨u, k1, k2⟩ := part_own N ly hr h
    exact ⟨_, u, rfl, part_run pr w hk k1, k2⟩
  · simp only [VRep, Rep] at hv
    obtain ⟨vs, rfl, hr⟩ := hv
    obtain ⟨u, k1, k2⟩ := part_data N ly hr h
    exact ⟨_, u, rfl, part_run pr w hk k1, k2⟩
  · cases h

theorem lift_some {α : Type} {m : List Blk} {x : Option α} {f : α → Res} {r : Res} (h : (RM.lift (x.map f)).run m = some r) : ∃ y, x = some y ∧ r = f y := by
  rw [run_lift] at h
  cases x with
  | none => simp at h
  | some y => simp at h; exact ⟨y, rfl, h.symm⟩

theorem field_ok {c : Cfg} (hg : Good N ly c) {fr : Fr} {a : Act} (hf : FRep N ly c fr a.tmps) {T base len off n f t : Nat} {x : Opd} {y : Operand} (E : Env) {r : Res}
    (hm : mField pr T off f = some t) (hk : kindOk pr t n = true) (hx : mOpd N x y = true) (hr : (exec1 E base len fr (.field off n x)).run c.m = some r) :
    OpOk N ly pr c r (do let q ← Instr.field T (a.eval y) f; Pure.pure (Next.value q)) := by
  have hv := opd_rep N ly hf hx
  have hp : ∃ z, partOf (opd fr x) off n = some z ∧ r = { val := z } := by
    simp only [exec1] at hr
    unfold partOf
    split at hr
    · rename_i cs hx'
      rw [hx']
      simp only
      split at hr
      · rename_i hn
        rw [if_pos hn]
        obtain ⟨q, hq, rfl⟩ := lift_some hr
        exact ⟨q, hq, rfl⟩
      · rename_i hn
        rw [if_neg hn]
        split at hr
        · rename_i hle
          simp only [RM.run, Option.some.injEq] at hr; subst hr
          rw [if_pos hle]; exact ⟨_, rfl, rfl⟩
        · simp [RM.run] at hr
    · rename_i cs hx'
      rw [hx']
      simp only
      split at hr
      · rename_i hn
        rw [if_pos hn]
        obtain ⟨q, hq, rfl⟩ := lift_some hr
        exact ⟨.p q, by rw [hq]; rfl, rfl⟩
      · rename_i hn
        rw [if_neg hn]
        split at hr
        · rename_i hle
          simp only [RM.run, Option.some.injEq] at hr; subst hr
          rw [if_pos hle]; exact ⟨_, rfl, rfl⟩
        · simp [RM.run] at hr
    · simp [RM.run] at hr
  obtain ⟨z, hz, rfl⟩ := hp
  obtain ⟨fs, fd, hu, hfd, rfl, rfl⟩ := mField_some pr hm
  obtain ⟨cs, u, hA, hrun, hrep⟩ := partOf_ok N ly pr c.w hk hz hv
  refine OpOk.pure N ly pr hg (run_v pr ?_) hrep
  rw [hA]
  simp only [Instr.field, Sem.run_bind, run_underlying hu, Result.andThen_ok, hfd, asAgg, Sem.run_pure, hrun]

theorem index_ok {c : Cfg} (hg : Good N ly c) {fr : Fr} {a : Act} (hf : FRep N ly c fr a.tmps) {T base len n ln e : Nat} {x i : Opd} {y j : Operand} (E : Env) {r : Res}
    (hu : pr.underlying T = some (.array ln e)) (hk : kindOk pr e n = true) (hx : mOpd N x y = true) (hi : mOpd N i j = true) (hr : (exec1 E base len fr (.index n ln x i)).run c.m = some r) :
    OpOk N ly pr c r (do let q ← Instr.index T (a.eval y) (a.eval j); Pure.pure (Next.value q)) := by
  have hv := opd_rep N ly hf hx
  simp only [exec1] at hr
  cases hb : bound i fr with
  | none => rw [hb] at hr; simp [RM.run] at hr
  | some k =>
    rw [hb] at hr
    simp only at hr
    obtain ⟨kd, hkd⟩ := bound_rep N ly hb (opd_rep N ly hf hi)
    split at hr
    · rename_i hlt
      have hp : ∃ z, partOf (opd fr x) (k * sz n) n = some z ∧ r = { val := z } := by
        unfold partOf
        split at hr
        · rename_i cs hx'
          rw [hx']
          simp only
          split at hr
          · rename_i hn
            rw [if_pos hn]
            obtain ⟨q, hq, rfl⟩ := lift_some hr
            exact ⟨q, by simpa [sz, hn] using hq, rfl⟩
          · rename_i hn
            rw [if_neg hn]
            have : sz n = n := by simp [sz, hn]
            rw [this]
            split at hr
            · rename_i hle
              simp only [RM.run, Option.some.injEq] at hr; subst hr
              rw [if_pos hle]; exact ⟨_, rfl, rfl⟩
            · simp [RM.run] at hr
        · rename_i cs hx'
          rw [hx']
          simp only
          split at hr
          · rename_i hn
            rw [if_pos hn]
            obtain ⟨q, hq, rfl⟩ := lift_some hr
            exact ⟨.p q, by simp [sz, hn, hq], rfl⟩
          · rename_i hn
            rw [if_neg hn]
            have : sz n = n := by simp [sz, hn]
            rw [this]
            split at hr
            · rename_i hle
              simp only [RM.run, Option.some.injEq] at hr; subst hr
              rw [if_pos hle]; exact ⟨_, rfl, rfl⟩
            · simp [RM.run] at hr
        · simp [RM.run] at hr
      obtain ⟨z, hz, rfl⟩ := hp
      obtain ⟨cs, u, hA, hrun, hrep⟩ := partOf_ok N ly pr c.w hk hz hv
      obtain ⟨_, hsz⟩ := kindOk.run pr hk c.w
      refine OpOk.pure N ly pr hg (run_v pr ?_) hrep
      rw [hA, hkd]
      simp [Instr.index, asIntOf, run_underlying hu, hlt, hsz, hrun]
    · simp [RM.run] at hr

end Go.Am
