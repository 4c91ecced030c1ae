/- A region whose order is open: two operations that do not clash may change places. -/
import Derived.Test.YtbepkgilphbhaaaAmStep
namespace Go.Am
open Go

def Agree (l : List Nat) (fr fr' : Fr) : Prop := ∀ i ∈ l, fr.get i = fr'.get i

theorem Agree.left {a b : List Nat} {fr fr' : Fr} (h : Agree (a ++ b) fr fr') : Agree a fr fr' := fun i hi => h i (List.mem_append_left _ hi)
theorem Agree.right {a b : List Nat} {fr fr' : Fr} (h : Agree (a ++ b) fr fr') : Agree b fr fr' := fun i hi => h i (List.mem_append_right _ hi)

theorem opd_congr {fr fr' : Fr} (x : Opd) (h : Agree x.slots fr fr') : opd fr x = opd fr' x := by
  cases x <;> first | rfl | exact h _ (by simp [Opd.slots])

theorem opds_congr {fr fr' : Fr} : ∀ (xs : List Opd), Agree (xs.flatMap Opd.slots) fr fr' → xs.map (opd fr) = xs.map (opd fr')
  | [], _ => rfl
  | x :: r, h => by
    simp only [List.flatMap_cons] at h
    rw [List.map_cons, List.map_cons, opd_congr x h.left, opds_congr r h.right]

theorem bound_congr {fr fr' : Fr} (x : Opd) (h : Agree x.slots fr fr') : bound x fr = bound x fr' := by
  unfold bound; rw [opd_congr x h]

theorem elim_congr {fr fr' : Fr} {d : Option Nat} (x : Option Opd) (h : Agree (x.elim [] Opd.slots) fr fr') : x.elim d (bound · fr) = x.elim d (bound · fr') := by
  cases x with
  | none => rfl
  | some x => exact bound_congr x h

theorem exec1_congr (E : Env) (base len : Nat) {fr fr' : Fr} (op : AOp) (h : Agree op.slots fr fr') : exec1 E base len fr op = exec1 E base len fr' op := by
  cases op with
  | mv x => simp only [exec1, opd_congr x h]
  | box k x => simp only [exec1, opd_congr x h]
  | load n x => simp only [exec1, opd_congr x h]
  | nilck x => simp only [exec1, opd_congr x h]
  | un op x => simp only [exec1, opd_congr x h]
  | conv k x => simp only [exec1, opd_congr x h]
  | faddr off x => simp only [exec1, opd_congr x h]
  | field off n x => simp only [exec1, opd_congr x h]
  | ext x i => simp only [exec1, opd_congr x h]
  | len x => simp only [exec1, opd_congr x h]
  | slen x => simp only [exec1, opd_congr x h]
  | mkiface t x => simp only [exec1, opd_congr x h]
  | alloc k z => rfl
  | lenc n => rfl
  | pick c x y => simp only [exec1, opd_congr c (Agree.left (Agree.left h)), opd_congr x (Agree.right (Agree.left h)), opd_congr y (Agree.right h)]
  | build z ps =>
    have : ps.map (fun (o, n, x) => (o, n, opd fr x)) = ps.map (fun (o, n, x) => (o, n, opd fr' x)) := by
      refine List.map_congr_left fun p hp => ?_
      obtain ⟨q, n, x⟩ := p
      exact congrArg (fun z => (q, n, z)) (opd_congr x fun i hi => h i (List.mem_flatMap.2 ⟨(q, n, x), hp, hi⟩))
    simp only [exec1, this]
  | lit md k n z len ps =>
    have : ps.map (fun (i, x) => (i * sz n, n, opd fr x)) = ps.map (fun (i, x) => (i * sz n, n, opd fr' x)) := by
      refine List.map_congr_left fun p hp => ?_
      obtain ⟨q, x⟩ := p
      exact congrArg (fun z => (q * sz n, n, z)) (opd_congr x fun i hi => h i (List.mem_flatMap.2 ⟨(q, x), hp, hi⟩))
    simp only [exec1, this]
  | store n x y => simp only [exec1, opd_congr x (Agree.left h), opd_congr y (Agree.right h)]
  | bin op kd x y => simp only [exec1, opd_congr x (Agree.left h), opd_congr y (Agree.right h)]
  | eqs neg ks x y => simp only [exec1, opd_congr x (Agree.left h), opd_congr y (Agree.right h)]
  | iaddr n arr x y => simp only [exec1, opd_congr x (Agree.left h), bound_congr y (Agree.right h)]
  | index n len x y => simp only [exec1, opd_congr x (Agree.left h), bound_congr y (Agree.right h)]
  | strix x y => simp only [exec1, opd_congr x (Agree.left h), bound_congr y (Agree.right h)]
  | app md k n x y => simp only [exec1, opd_congr x (Agree.left h), opd_congr y (Agree.right h)]
  | mkslice md k n z bytes x y => simp only [exec1, bound_congr x (Agree.left h), bound_congr y (Agree.right h)]
  | mkfn f xs => simp only [exec1, opds_congr xs h]
  | mm m xs => simp only [exec1, opds_congr xs h]
  | slice n arr x lo hi =>
    have e1 := opd_congr x (Agree.left (Agree.left h))
    have e2 : ∀ d, lo.elim d (bound · fr) = lo.elim d (bound · fr') := fun d => elim_congr lo (Agree.right (Agree.left h))
    have e3 : ∀ d, hi.elim d (bound · fr) = hi.elim d (bound · fr') := fun d => elim_congr hi (Agree.right h)
    simp only [exec1, e1, e2, e3]
  | call f xs =>
    have e1 := opd_congr f (Agree.left h)
    have e2 : xs.map (fun x => (opd fr x).strip) = xs.map (fun x => (opd fr' x).strip) := by
      have := opds_congr xs (Agree.right h)
      have h2 := congrArg (List.map V.strip) this
      simpa [List.map_map] using h2
    simp only [exec1, e1, e2]

theorem RM.run_congr {α : Type} {m m' : List Blk} : ∀ (x : RM α), (∀ b ∈ x.reads m, m'[b]? = m[b]?) → x.run m' = x.run m ∧ x.reads m' = x.reads m
  | .ret a, _ => ⟨rfl, rfl⟩
  | .fail, _ => ⟨rfl, rfl⟩
  | .rd b k, h => by
    simp only [RM.reads, RM.run] at h ⊢
    have hb := h b (by simp)
    rw [hb]
    obtain ⟨h1, h2⟩ := RM.run_congr (k m[b]?) fun c hc => h c (by simp [hc])
    exact ⟨h1, by rw [h2]⟩

theorem applyUps_set_comm : ∀ (u : List (Nat × Blk)) (m : List Blk) (i : Nat) (b : Blk), (∀ x ∈ u, x.1 ≠ i) → applyUps (m.set i b) u = (applyUps m u).set i b
  | [], _, _, _, _ => rfl
  | (j, c) :: r, m, i, b, h => by
    simp only [applyUps]
    have hji : j ≠ i := h (j, c) (by simp)
    rw [List.set_comm b c (Ne.symm hji), applyUps_set_comm r _ i b fun x hx => h x (by simp [hx])]

theorem applyUps_comm : ∀ (u v : List (Nat × Blk)) (m : List Blk), (∀ x ∈ u, ∀ y ∈ v, x.1 ≠ y.1) → applyUps (applyUps m u) v = applyUps (applyUps m v) u
  | [], _, _, _ => rfl
  | (i, b) :: r, v, m, h => by
    simp only [applyUps]
    rw [applyUps_comm r v _ fun x hx y hy => h x (by simp [hx]) y hy, applyUps_set_comm v m i b fun y hy => Ne.symm (h (i, b) (by simp) y hy)]

theorem meets_false {a b : List Nat} (h : meets a b = false) : ∀ x ∈ a, x ∉ b := fun x hx hb => by
  unfold meets at h
  rw [List.any_eq_false] at h
  exact h x hx (by simpa using hb)

structure Calm (f g : Foot) : Prop where
  ww : ∀ x ∈ f.ws, x ∉ g.ws
  wr : ∀ x ∈ f.ws, x ∉ g.rs
  rw : ∀ x ∈ f.rs, x ∉ g.ws
  bb : ∀ x ∈ f.wb, x ∉ g.wb
  br : ∀ x ∈ f.wb, x ∉ g.rb
  rb : ∀ x ∈ f.rb, x ∉ g.wb

theorem Foot.calm {f g : Foot} (h : f.clash g = false) : Calm f g := by
  simp only [Foot.clash, Bool.or_eq_false_iff] at h
  obtain ⟨⟨⟨⟨⟨h1, h2⟩, h3⟩, h4⟩, h5⟩, h6⟩ := h
  exact ⟨meets_false h1, meets_false h2, meets_false h3, meets_false h4, meets_false h5, meets_false h6⟩

/-- What a step does, told apart from where it does it. -/
structure StepIs (E : Env) (base : Nat) (o : AO) (st : St) (st' : St) (f : Foot) : Prop where
  ex : ∃ (x : V) (ups : List (Nat × Blk)), st' = ⟨putD st.fr o.dst x, applyUps st.mem ups⟩ ∧ f.ws = o.dst.elim [] (fun d => [d]) ∧ f.wb = ups.map (·.1) ∧
    ∀ st2 : St, st2.mem.length = st.mem.length → Agree f.rs st2.fr st.fr → (∀ b ∈ f.rb, st2.mem[b]? = st.mem[b]?) → stepD E base o st2 = some (⟨putD st2.fr o.dst x, applyUps st2.mem ups⟩, f)

theorem wants_congr {fr fr' : Fr} (g : Option (Nat × Bool)) (h : Agree (g.elim [] fun g => [g.1]) fr fr') : wants fr g = wants fr' g := by
  cases g with
  | none => rfl
  | some g => obtain ⟨d, w⟩ := g; simp only [wants]; rw [h d (by simp)]

theorem stepD_is {E : Env} {base : Nat} {o : AO} {st st' : St} {f : Foot} (h : stepD E base o st = some (st', f)) : StepIs E base o st st' f := by
  unfold stepD at h
  simp only at h
  split at h
  · rename_i hw
    split at h
    · rename_i r hr
      split at h
      · rename_i hc
        simp only [Option.some.injEq, Prod.mk.injEq] at h
        obtain ⟨rfl, rfl⟩ := h
        refine ⟨r.val, r.ups, rfl, rfl, rfl, fun st2 hl ha hb => ?_⟩
        have e1 : exec1 E base st.mem.length st2.fr o.op = exec1 E base st.mem.length st.fr o.op := exec1_congr E base _ o.op (Agree.right ha)
        obtain ⟨e2, e3⟩ := RM.run_congr (m := st.mem) (m' := st2.mem) (exec1 E base st.mem.length st.fr o.op) hb
        unfold stepD
        simp only [wants_congr o.guard (Agree.left ha), hw, hl, e1, e2, e3, hr, hc, if_true]
      · cases h
    · cases h
  · rename_i hw
    simp only [Option.some.injEq, Prod.mk.injEq] at h
    obtain ⟨rfl, rfl⟩ := h
    refine ⟨undefV, [], rfl, rfl, rfl, fun st2 hl ha hb => ?_⟩
    unfold stepD
    simp only [wants_congr o.guard ha, hw, applyUps]
  · cases h

theorem putD_other {fr : Fr} {d : Option Nat} {x : V} {i : Nat} (h : i ∉ (d.elim [] fun d => [d] : List Nat)) : (putD fr d x).get i = fr.get i := by
  cases d with
  | none => rfl
  | some d =>
    have : d ≠ i := fun e => h (by simp [e])
    simp [putD, Fr.get_put, this]

theorem putF_comm : ∀ (l : List (Nat × V)) (d e : Nat) (x y : V), d < e → putF (putF l d x) e y = putF (putF l e y) d x
  | [], d, e, x, y, h => by
    have h1 : ¬ e < d := by omega
    have h2 : ¬ e = d := by omega
    simp [putF, bif_blt, bif_beq, h, h1, h2]
  | (k, z) :: r, d, e, x, y, h => by
    have ih := putF_comm r d e x y h
    have h1 : ¬ e < d := by omega
    have h2 : ¬ e = d := by omega
    rcases Nat.lt_trichotomy d k with hd | hd | hd
    · rcases Nat.lt_trichotomy e k with he | he | he
      · simp [putF, bif_blt, bif_beq, h, h1, h2, hd, he]
      · subst he
        simp [putF, bif_blt, bif_beq, h, h1, h2]
      · have a1 : ¬ e < k := by omega
        have a2 : ¬ e = k := by omega
        simp [putF, bif_blt, bif_beq, h1, h2, hd, a1, a2]
    · subst hd
      simp [putF, bif_blt, bif_beq, h1, h2]
    · have a1 : ¬ e < k := by omega
      have a2 : ¬ e = k := by omega
      have a3 : ¬ d < k := by omega
      have a4 : ¬ d = k := by omega
      simp [putF, bif_blt, bif_beq, a1, a2, a3, a4, ih]

theorem put_comm' (fr : Fr) {d e : Nat} (x y : V) (h : d ≠ e) : (fr.put d x).put e y = (fr.put e y).put d x := by
  have key : ∀ {d e : Nat} {x y : V}, d < e → (fr.put d x).put e y = (fr.put e y).put d x := fun {d e x y} h => by
    unfold Fr.put
    simp only [bif_blt]
    by_cases h1 : d < fr.n <;> by_cases h2 : e < fr.n <;> simp [h1, h2, putF_comm _ _ _ _ _ h]
  rcases Nat.lt_or_gt_of_ne h with h | h
  · exact key h
  · exact (key h).symm

theorem putD_comm {fr : Fr} {d e : Option Nat} {x y : V} (h : ∀ i ∈ (d.elim [] fun d => [d] : List Nat), i ∉ (e.elim [] fun d => [d] : List Nat)) : putD (putD fr d x) e y = putD (putD fr e y) d x := by
  cases d with
  | none => rfl
  | some d =>
    cases e with
    | none => rfl
    | some e =>
      have : d ≠ e := fun he => h d (by simp) (by simp [he])
      simp only [putD]
      exact put_comm' fr _ _ this

theorem swap {E : Env} {base : Nat} {o1 o2 : AO} {st st1 st2 : St} {f1 f2 : Foot} (h1 : stepD E base o1 st = some (st1, f1)) (h2 : stepD E base o2 st1 = some (st2, f2)) (hc : f1.clash f2 = false) :
    ∃ st1', stepD E base o2 st = some (st1', f2) ∧ stepD E base o1 st1' = some (st2, f1) := by
  have c := Foot.calm hc
  obtain ⟨x1, u1, e1, w1, b1, k1⟩ := (stepD_is h1).ex
  obtain ⟨x2, u2, e2, w2, b2, k2⟩ := (stepD_is h2).ex
  subst e1 e2
  have hu : ∀ x ∈ u1, ∀ y ∈ u2, x.1 ≠ y.1 := fun x hx y hy e => c.bb x.1 (by rw [b1]; exact List.mem_map_of_mem hx) (by rw [b2, e]; exact List.mem_map_of_mem hy)
  refine ⟨⟨putD st.fr o2.dst x2, applyUps st.mem u2⟩, ?_, ?_⟩
  · refine k2 st (by simp [applyUps_length]) (fun i hi => (putD_other fun hd => ?_).symm) fun b hb => (applyUps_other u1 st.mem b fun u hu' e => ?_).symm
    · exact c.wr i (w1 ▸ hd) hi
    · exact c.br b (by rw [b1, ← e]; exact List.mem_map_of_mem hu') hb
  · rw [k1 _ (by simp [applyUps_length]) (fun i hi => putD_other fun hd => c.rw i hi (w2 ▸ hd)) (fun b hb => applyUps_other u2 st.mem b fun u hu' e => c.rb b hb (by rw [b2, ← e]; exact List.mem_map_of_mem hu'))]
    rw [applyUps_comm u1 u2 _ hu, putD_comm (d := o1.dst) (e := o2.dst) (fun i hi hi' => c.ww i (w1 ▸ hi) (w2 ▸ hi'))]

/-- A run of such operations, each with its place and what it reads and writes. -/
inductive RunT (E : Env) (base : Nat) : St → List (Nat × AO × Foot) → St → Prop
  | nil (st : St) : RunT E base st [] st
  | cons {st st1 st' : St} {i : Nat} {o : AO} {f : Foot} {T : List (Nat × AO × Foot)} (h : stepD E base o st = some (st1, f)) (k : RunT E base st1 T st') : RunT E base st ((i, o, f) :: T) st'

theorem RunT.front {E : Env} {base : Nat} {i : Nat} {o : AO} {f : Foot} {T2 : List (Nat × AO × Foot)} : ∀ {T1 : List (Nat × AO × Foot)} {st st' : St}, RunT E base st (T1 ++ (i, o, f) :: T2) st' → (∀ x ∈ T1, x.2.2.clash f = false) →
    ∃ st1, stepD E base o st = some (st1, f) ∧ RunT E base st1 (T1 ++ T2) st'
  | [], st, st', h, _ => by
    cases h with
    | cons h k => exact ⟨_, h, k⟩
  | (j, o1, f1) :: T1, st, st', h, hc => by
    cases h with
    | cons h k =>
      obtain ⟨st2, g1, g2⟩ := RunT.front k fun x hx => hc x (by simp [hx])
      obtain ⟨st1', q1, q2⟩ := swap h g1 (hc (j, o1, f1) (by simp))
      exact ⟨st1', q1, .cons q2 g2⟩

end Go.Am
