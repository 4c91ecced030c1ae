/- Regions. -/
import Derived.Test.YtbepkgilphbhaaaAmState
import Derived.OrdersIn
namespace Go.Am
open Go

variable (N : Nm) (pr : Program)
variable {σ : Type}

def mGuard (ops : Array Oper) : Option (Nat × Bool) → Option (Nat × Bool) → Bool
  | none, none => true
  | some (d, w), some (j, w') => w == w' && (ops[j]?).bind (·.dst) == some d
  | _, _ => false

def mAO (ops : Array Oper) (x : AO) (o : Oper) : Bool := mAnyOp N pr x.op o.op && x.dst == o.dst && mGuard ops x.guard o.guard

def mAOs (ops : Array Oper) : List AO → List Oper → Bool
  | [], [] => true
  | x :: r, o :: l => mAO N pr ops x o && mAOs ops r l
  | _, _ => false

def mAfter : Nat → List AO → List Oper → Bool
  | _, [], [] => true
  | i, x :: r, o :: l => x.after.all (fun j => o.after.any fun e => Region.binds .any e && e.on == j) && o.after.all (fun e => !Region.binds .any e || e.on < i) && mAfter (i + 1) r l
  | _, _, _ => false

def mReg (r : Reg) (ops : Array Oper) (draw : Bool) : Bool :=
  r.draw == draw && mAOs N pr ops r.ops ops.toList && (!draw || mAfter 0 r.ops ops.toList)

theorem wants_ok {ly : Option Nat} {ops : Array Oper} {x : AO} {o : Oper} (hm : mGuard ops x.guard o.guard = true) {c : Cfg} {fr : Fr} {tmps : Array Value} (hf : FRep N ly c fr tmps) {b : Bool} (h : wants fr x.guard = some b) :
    Region.wanted o (yielded ops tmps) = b := by
  unfold Region.wanted
  unfold mGuard at hm
  split at hm
  · rename_i e1 e2
    rw [e1] at h
    simp only [wants, Option.some.injEq] at h
    rw [e2]; exact h
  · rename_i d w j w' e1 e2
    simp only [Bool.and_eq_true, beq_iff_eq] at hm
    obtain ⟨rfl, hd⟩ := hm
    rw [e1] at h
    simp only [wants] at h
    rw [e2]
    show (yielded ops tmps j == some w) = b
    unfold yielded
    rw [hd]
    simp only [Option.bind_some]
    have hget : ∀ y : V, fr.get d = y → y ≠ .unk → VRep N ly c.H c.φ c.m y (tmps.getD d undef) := fun y hy hne => by rw [← hy]; exact hf.2 d
    have hu : tmps[d]? = some (tmps.getD d undef) ∨ tmps.getD d undef = undef ∧ tmps[d]? = none := by
      rw [Array.getD_eq_getD_getElem?]
      cases tmps[d]? with
      | none => exact .inr ⟨rfl, rfl⟩
      | some v => exact .inl rfl
    split at h
    · rename_i bb hbb
      have hr := hget _ hbb (by simp)
      simp only [VRep, Rep] at hr
      rcases hu with hu | ⟨hu, _⟩
      · rw [hu, hr]
        simp only [Option.some.injEq] at h
        rw [← h]; rfl
      · rw [hu] at hr; cases hr
    · rename_i u hnb hbb
      have hr := hget _ hbb (by simp)
      simp only [VRep, Rep] at hr
      simp only [Option.some.injEq] at h
      subst h
      rcases hu with hu | ⟨_, hu⟩
      · rw [hu, hr]
        cases u <;> first | rfl | exact absurd rfl (hnb _)
      · rw [hu]; rfl
    · cases h
  · cases hm

theorem Sim.kept {y : Yl σ} (hS : y.Stable) {O0 : Nat → Prop} {c0 e0 : Cfg} {kp : List (Nat × Obj)} {st st' : St} {s : σ} {a : Act} {w : World} (h : Sim N y O0 c0 e0 kp st s a w)
    (k : ∀ c : Cfg, Good N y.l c → c.m = st.mem → FRep N y.l c st.fr a.tmps → Kept N y.l a.tmps c st'.fr st'.mem) : Sim N y O0 c0 e0 kp st' s a w := by
  obtain ⟨dm, h1, h2, c, D, hx⟩ := h
  obtain ⟨c', e1, e2, e3, e4, e5, e6⟩ := k c hx.good hx.hm hx.frep
  have := hx.own N hS (a' := a) e2 e3 e4 e5 e6
  rw [e1, hx.hw] at this
  exact ⟨dm, h1, h2, c', D, this⟩

theorem op_step {E : Env} (hE : SoundEnv N pr E) {y : Yl σ} (hS : y.Stable) {Y : List P → σ → Option (Bool × σ)} (hY : y.Ok N pr Y) (ro : Option Nat) {O0 : Nat → Prop} {c0 e0 : Cfg} {kp : List (Nat × Obj)} {st st' : St} {s s' : σ} {a : Act} {w : World} {ops : Array Oper} {x : AO} {o : Oper} {base : Nat}
    (hm : mAO N pr ops x o = true) (hs : step1 E Y base x st s = some (st', s')) (h : Sim N y O0 c0 e0 kp st s a w) {K : Act → World → Prop} {Q : Exit → Act → World → Prop}
    (hK : ∀ a' w', Sim N y O0 c0 e0 kp st' s' a' w' → K a' w') :
    if Region.wanted o (yielded ops a.tmps) = true then o.wpIn (fc ro) 0 pr a w K Q else (∀ f, o.about pr w a.eval = some f → (fc ro).fn f) ∧ K (a.put o.dst undef) w := by
  simp only [mAO, Bool.and_eq_true, beq_iff_eq] at hm
  obtain ⟨⟨hm1, hm2⟩, hm3⟩ := hm
  have hf : ∃ c, FRep N y.l c st.fr a.tmps := by obtain ⟨dm, h1, h2, c, D, hx⟩ := h; exact ⟨c, hx.frep⟩
  obtain ⟨c, hf⟩ := hf
  cases hw : wants st.fr x.guard with
  | none => simp [step1, hw] at hs
  | some b =>
    rw [wants_ok N hm3 hf hw]
    cases b with
    | true => simp only [if_true]; exact op_wp N pr hE hS hY ro hm1 hm2 hw hs h hK
    | false =>
      simp only [Bool.false_eq_true, if_false]
      simp only [step1, hw, Option.some.injEq, Prod.mk.injEq] at hs
      obtain ⟨rfl, rfl⟩ := hs
      refine ⟨fun _ _ => trivial, hK _ _ ?_⟩
      obtain ⟨dm, h1, h2, c, D, hx⟩ := h
      have hw := hx.hw; subst hw
      refine ⟨dm, (Act.put_defers' _ _ _).trans h1, h2, c, D, hx.own N hS hx.hm hx.good (hm2 ▸ FRep.put N y.l hx.frep x.dst ?_) (Trans.refl c) Ext.refl⟩
      simp only [undefV, undefP, VRep, Rep]; rfl

theorem runOps_ok {E : Env} (hE : SoundEnv N pr E) {y : Yl σ} (hS : y.Stable) {Y : List P → σ → Option (Bool × σ)} (hY : y.Ok N pr Y) (ro : Option Nat) {O0 : Nat → Prop} {c0 e0 : Cfg} {kp : List (Nat × Obj)} {ops : Array Oper} {base : Nat} {Q : Exit → Act → World → Prop} {st' : St} {s' : σ}
    (hQ : ∀ a' w', Sim N y O0 c0 e0 kp st' s' a' w' → Q .normal a' w') : ∀ (xs : List AO) (os : List Oper) (st : St) (s : σ) (a : Act) (w : World), mAOs N pr ops xs os = true → runOps E Y base xs st s = some (st', s') → Sim N y O0 c0 e0 kp st s a w →
      wpListIn (fc ro) 0 pr ops Q os a w
  | [], [], st, s, a, w, _, hr, h => by
    simp only [runOps, Option.some.injEq, Prod.mk.injEq] at hr
    obtain ⟨rfl, rfl⟩ := hr
    exact hQ a w h
  | [], _ :: _, _, _, _, _, hm, _, _ => by simp [mAOs] at hm
  | _ :: _, [], _, _, _, _, hm, _, _ => by simp [mAOs] at hm
  | x :: r, o :: l, st, s, a, w, hm, hr, h => by
    simp only [mAOs, Bool.and_eq_true] at hm
    simp only [runOps] at hr
    split at hr
    · rename_i st1 s1 hs
      have := op_step N pr hE hS hY ro (K := wpListIn (fc ro) 0 pr ops Q l) (Q := Q) hm.1 hs h fun a' w' h' => runOps_ok hE hS hY ro hQ r l st1 s1 a' w' hm.2 hr h'
      simp only [wpListIn]
      exact this
    · cases hr

/-! ### Orders that are open -/

def Cl (xs : List AO) (L : Nat → Prop) : Prop := ∀ j x, xs[j]? = some x → L j → ∀ k ∈ x.after, L k

def Bef (xs : List AO) (x y : Nat × AO × Foot) : Prop := (∀ L : Nat → Prop, Cl xs L → (∀ k ∈ y.2.1.after, L k) → L x.1) ∨ x.2.2.clash y.2.2 = false

theorem runD_T {E : Env} {base : Nat} {xs : List AO} {st' : St} : ∀ (r : List AO) (i : Nat) (st : St) (done : List (Nat × Foot)) (ups : List (List Nat)), (∀ j x, r[j]? = some x → xs[i + j]? = some x) → ups.length = i →
    (∀ (L : Nat → Prop), Cl xs L → ∀ j, L j → ∀ k ∈ ups.getD j [], L k) → runD E base i r st done ups = some st' →
    ∃ T : List (Nat × AO × Foot), RunT E base st T st' ∧ T.map (·.1) = List.range' i r.length ∧ (∀ t ∈ T, xs[t.1]? = some t.2.1) ∧ T.Pairwise (Bef xs) ∧ ∀ d ∈ done, ∀ t ∈ T, ∀ o, Bef xs (d.1, o, d.2) t
  | [], i, st, done, ups, _, _, _, h => by
    simp only [runD, Option.some.injEq] at h; subst h
    exact ⟨[], .nil st, rfl, by simp, .nil, by simp⟩
  | o :: r, i, st, done, ups, hxs, hl, hu, h => by
    simp only [runD] at h
    split at h
    · rename_i st1 f hst
      split at h
      · rename_i hc
        have hup : ∀ (L : Nat → Prop), Cl xs L → (∀ k ∈ o.after, L k) → ∀ k ∈ o.after ++ o.after.flatMap (fun j => ups.getD j []), L k := fun L hL ha k hk => by
          rcases List.mem_append.1 hk with h | h
          · exact ha k h
          · obtain ⟨j, hj, hk⟩ := List.mem_flatMap.1 h
            exact hu L hL j (ha j hj) k hk
        have ho : xs[i]? = some o := by simpa using hxs 0 o rfl
        obtain ⟨T, t1, t2, t3, t4, t5⟩ := runD_T r (i + 1) st1 ((i, f) :: done) (ups ++ [o.after ++ o.after.flatMap fun j => ups.getD j []]) (fun j x hj => by
            have := hxs (j + 1) x (by simpa using hj)
            rwa [show i + (j + 1) = i + 1 + j by omega] at this) (by simp [hl]) (fun L hL j hj k hk => by
            rcases Nat.lt_trichotomy j ups.length with hlt | heq | hgt
            · rw [List.getD_eq_getElem?_getD, List.getElem?_append_left hlt, ← List.getD_eq_getElem?_getD] at hk
              exact hu L hL j hj k hk
            · rw [List.getD_eq_getElem?_getD, List.getElem?_append_right (by omega), heq] at hk
              simp only [Nat.sub_self, List.getElem?_cons_zero, Option.getD_some] at hk
              exact hup L hL (hL j o (by rw [heq, hl]; exact ho) hj) k hk
            · rw [List.getD_eq_getElem?_getD, List.getElem?_eq_none (by simp; omega)] at hk
              simp at hk) h
        have hdone : ∀ d ∈ done, ∀ o', Bef xs (d.1, o', d.2) (i, o, f) := fun d hd o' => by
          have := (List.all_eq_true.1 hc) d hd
          simp only [Bool.or_eq_true, Bool.not_eq_true'] at this
          rcases this with h | h
          · exact .inl fun L hL ha => hup L hL ha d.1 (by simpa using h)
          · exact .inr h
        refine ⟨(i, o, f) :: T, .cons hst t1, by simp [t2, List.range'_succ], fun t ht => ?_, ?_, fun d hd t ht o' => ?_⟩
        · rcases List.mem_cons.1 ht with rfl | ht
          · exact ho
          · exact t3 t ht
        · exact List.pairwise_cons.2 ⟨fun t ht => t5 (i, f) (by simp) t ht o, t4⟩
        · rcases List.mem_cons.1 ht with rfl | ht
          · exact hdone d hd o'
          · exact t5 d (by simp [hd]) t ht o'
      · cases h
    · cases h

theorem stepD_step1 {E : Env} {base : Nat} {o : AO} {st st' : St} {f : Foot} (Y : List P → σ → Option (Bool × σ)) (s : σ) (h : stepD E base o st = some (st', f)) : step1 E Y base o st s = some (st', s) := by
  unfold stepD at h
  simp only at h
  split at h
  · rename_i hw
    split at h
    · rename_i r hr
      split at h
      · rename_i hc
        simp only [Option.some.injEq, Prod.mk.injEq] at h
        obtain ⟨rfl, rfl⟩ := h
        simp only [Bool.and_eq_true, List.isEmpty_iff] at hc
        unfold step1
        simp only [hw, hr, hc.1, List.append_nil]
        split
        · rename_i g args hop
          split
          · rename_i hy
            rw [hop] at hr
            simp [exec1, hy, callee, RM.run] at hr
          · rfl
        · rfl
      · cases h
    · cases h
  · rename_i hw
    simp only [Option.some.injEq, Prod.mk.injEq] at h
    obtain ⟨rfl, rfl⟩ := h
    unfold step1
    simp only [hw]
  · cases h

theorem mAOs_get {ops : Array Oper} : ∀ {xs : List AO} {os : List Oper}, mAOs N pr ops xs os = true → xs.length = os.length ∧ ∀ (j : Nat) (x : AO) (o : Oper), xs[j]? = some x → os[j]? = some o → mAO N pr ops x o = true
  | [], [], _ => ⟨rfl, fun j x o h _ => by simp at h⟩
  | [], _ :: _, h => by simp [mAOs] at h
  | _ :: _, [], h => by simp [mAOs] at h
  | x :: r, o :: l, h => by
    simp only [mAOs, Bool.and_eq_true] at h
    obtain ⟨h1, h2⟩ := mAOs_get h.2
    refine ⟨by simp [h1], fun j y p hy hp => ?_⟩
    cases j with
    | zero => simp at hy hp; subst hy hp; exact h.1
    | succ j => exact h2 j y p (by simpa using hy) (by simpa using hp)

theorem mAfter_get : ∀ {xs : List AO} {os : List Oper} {i : Nat}, mAfter i xs os = true → ∀ (j : Nat) (x : AO) (o : Oper), xs[j]? = some x → os[j]? = some o →
    (∀ k ∈ x.after, ∃ e ∈ o.after, Region.binds .any e = true ∧ e.on = k) ∧ ∀ e ∈ o.after, Region.binds .any e = true → e.on < i + j
  | [], [], _, _ => fun j x o h _ => by simp at h
  | [], _ :: _, _, h => by simp [mAfter] at h
  | _ :: _, [], _, h => by simp [mAfter] at h
  | x :: r, o :: l, i, h => by
    simp only [mAfter, Bool.and_eq_true] at h
    obtain ⟨⟨h1, h2⟩, h3⟩ := h
    intro j y p hy hp
    cases j with
    | zero =>
      simp at hy hp; subst hy hp
      refine ⟨fun k hk => ?_, fun e he hb => ?_⟩
      · have := (List.all_eq_true.1 h1) k hk
        simp only [Array.any_eq_true, Bool.and_eq_true, beq_iff_eq] at this
        obtain ⟨q, hq, a, b⟩ := this
        exact ⟨_, Array.getElem_mem hq, a, b⟩
      · rw [Array.all_eq_true_iff_forall_mem] at h2
        have := h2 e he
        simp only [hb, Bool.not_true, Bool.false_or, decide_eq_true_eq] at this
        simpa using this
    | succ j =>
      obtain ⟨a, b⟩ := mAfter_get h3 j y p (by simpa using hy) (by simpa using hp)
      exact ⟨a, fun e he hb => by have := b e he hb; omega⟩

theorem draw_ok {E : Env} (hE : SoundEnv N pr E) {y : Yl σ} (hS : y.Stable) {Y : List P → σ → Option (Bool × σ)} (hY : y.Ok N pr Y) (ro : Option Nat) {O0 : Nat → Prop} {c0 e0 : Cfg} {kp : List (Nat × Obj)} {ops : Array Oper} {base : Nat} {Q : Exit → Act → World → Prop} {st' : St} {s : σ} {xs : List AO}
    (hQ : ∀ a' w', Sim N y O0 c0 e0 kp st' s a' w' → Q .normal a' w') (hm : mAOs N pr ops xs ops.toList = true) (ha : mAfter 0 xs ops.toList = true) :
    ∀ (fuel : Nat) (listed : Array Bool) (T : List (Nat × AO × Foot)) (st : St) (a : Act) (w : World), listed.size = ops.size → Sim N y O0 c0 e0 kp st s a w → RunT E base st T st' → T.Pairwise (Bef xs) → (∀ t ∈ T, xs[t.1]? = some t.2.1) → (T.map (·.1)).Pairwise (· < ·) →
      (∀ i, i < ops.size → (listed.getD i true = false ↔ ∃ t ∈ T, t.1 = i)) → Cl xs (fun k => listed.getD k false = true) → T.length ≤ fuel → wpAnyIn (fc ro) 0 pr .any ops Q fuel listed a w := by
  obtain ⟨hlen, hmg⟩ := mAOs_get N pr hm
  have hag := mAfter_get ha
  have hsz : ∀ (i : Nat) (x : AO), xs[i]? = some x → ∃ o, ops[i]? = some o ∧ ops.toList[i]? = some o := fun i x hx => by
    have hl : i < ops.size := by have := (List.getElem?_eq_some_iff.1 hx).1; simp at hlen; omega
    exact ⟨ops[i], by simp [hl], by simp [hl]⟩
  -- where nothing is ready all is done
  have hnil : ∀ (listed : Array Bool) (T : List (Nat × AO × Foot)), listed.size = ops.size → (∀ t ∈ T, xs[t.1]? = some t.2.1) → (T.map (·.1)).Pairwise (· < ·) → (∀ i, i < ops.size → (listed.getD i true = false ↔ ∃ t ∈ T, t.1 = i)) →
      Region.ready .any ops listed = [] → T = [] := fun listed T hls hx hp hi hr => by
    cases T with
    | nil => rfl
    | cons t T =>
      exfalso
      obtain ⟨o, ho, ho'⟩ := hsz t.1 t.2.1 (hx t (by simp))
      have hlt : t.1 < ops.size := (Array.getElem?_eq_some_iff.1 ho).1
      have : t.1 ∈ Region.ready .any ops listed := mem_ready.2 ⟨(hi t.1 hlt).2 ⟨t, by simp, rfl⟩, o, ho, fun e he hb => by
        have hel := (hag t.1 t.2.1 o (hx t (by simp)) ho').2 e he hb
        have hel' : e.on < ops.size := by omega
        by_cases hd : listed.getD e.on true = false
        · obtain ⟨u, hu, hue⟩ := (hi e.on hel').1 hd
          rcases List.mem_cons.1 hu with rfl | hu
          · omega
          · simp only [List.map_cons, List.pairwise_cons] at hp
            have := hp.1 u.1 (List.mem_map_of_mem hu)
            omega
        · have hel2 : e.on < listed.size := by omega
          simp only [Array.getD, hel2, dif_pos] at hd ⊢
          simpa using hd⟩
      rw [hr] at this; cases this
  intro fuel
  induction fuel with
  | zero =>
    intro listed T st a w hls h hT hP hx hp hi hcl hf
    have hTn : T = [] := List.eq_nil_of_length_eq_zero (by omega)
    subst hTn
    cases hT
    refine ⟨?_, hQ _ _ h⟩
    cases hr : Region.ready .any ops listed with
    | nil => rfl
    | cons j l =>
      exfalso
      have hj : j ∈ Region.ready .any ops listed := by rw [hr]; simp
      obtain ⟨h1, o, ho, _⟩ := mem_ready.1 hj
      obtain ⟨t, ht, _⟩ := (hi j (Array.getElem?_eq_some_iff.1 ho).1).1 h1
      cases ht
  | succ fuel ih =>
    intro listed T st a w hls h hT hP hx hp hi hcl hf
    refine ⟨fun hr => ?_, fun i hir => ?_⟩
    · have := hnil listed T hls hx hp hi hr
      subst this
      cases hT
      exact hQ _ _ h
    · obtain ⟨h1, o, ho, hedge⟩ := mem_ready.1 hir
      have hlt : i < ops.size := (Array.getElem?_eq_some_iff.1 ho).1
      obtain ⟨⟨i', x, f⟩, ht, hti⟩ := (hi i hlt).1 h1
      simp only at hti
      subst hti
      obtain ⟨T1, T2, rfl⟩ := List.append_of_mem ht
      have hxi : xs[i']? = some x := hx _ ht
      have ho' : ops.toList[i']? = some o := by simpa using ho
      have hcalm : ∀ t ∈ T1, t.2.2.clash f = false := fun t ht1 => by
        have hb : Bef xs t (i', x, f) := (List.pairwise_append.1 hP).2.2 t ht1 (i', x, f) (by simp)
        rcases hb with hb | hb
        · exfalso
          have hL := hb (fun k => listed.getD k false = true) hcl fun k hk => by
            obtain ⟨e, he, hbd, rfl⟩ := (hag i' x o hxi ho').1 k hk
            exact hedge e he hbd
          obtain ⟨ot, hot, _⟩ := hsz t.1 t.2.1 (hx t (by simp [ht1]))
          have htl : t.1 < ops.size := (Array.getElem?_eq_some_iff.1 hot).1
          have hun := (hi t.1 htl).2 ⟨t, by simp [ht1], rfl⟩
          have htl' : t.1 < listed.size := by omega
          simp only [Array.getD, htl', dif_pos] at hun hL
          rw [hun] at hL; cases hL
        · exact hb
      obtain ⟨st1, g1, g2⟩ := hT.front hcalm
      have hstep := op_step N pr hE hS hY ro (K := wpAnyIn (fc ro) 0 pr .any ops Q fuel (listed.setIfInBounds i' true)) (Q := Q) (hmg i' x o hxi ho') (stepD_step1 Y s g1) h fun a' w' h' => by
        have hpp : ((T1 ++ T2).map (·.1)).Pairwise (· < ·) := by
          refine List.Pairwise.sublist ?_ hp
          simp only [List.map_append, List.map_cons]
          exact List.Sublist.append_left (List.sublist_cons_self _ _) _
        have hne : ∀ t ∈ T1 ++ T2, t.1 ≠ i' := fun t ht' e => by
          simp only [List.map_append, List.map_cons, List.pairwise_append, List.pairwise_cons] at hp
          rcases List.mem_append.1 ht' with k | k
          · have := hp.2.2 t.1 (List.mem_map_of_mem k) i' (by simp); omega
          · have := hp.2.1.1 t.1 (List.mem_map_of_mem k); omega
        refine ih (listed.setIfInBounds i' true) (T1 ++ T2) st1 a' w' (by simp [hls]) h' g2 (List.Pairwise.sublist (List.Sublist.append_left (List.sublist_cons_self _ _) _) hP) (fun t ht' => hx t ?_) hpp (fun k hk => ?_) ?_ ?_
        · rcases List.mem_append.1 ht' with k | k <;> simp [k]
        · by_cases hki : k = i'
          · subst hki
            have : (listed.setIfInBounds k true).getD k true = true := by
              simp only [Array.getD]; split <;> simp
            rw [this]
            exact ⟨fun e => absurd e (by simp), fun ⟨t, h1, h2⟩ => absurd h2 (hne t h1)⟩
          · rw [getD_set_ne true (Ne.symm hki), hi k hk]
            constructor
            · rintro ⟨t, h1, h2⟩
              rcases List.mem_append.1 h1 with k1 | k1
              · exact ⟨t, by simp [k1], h2⟩
              · rcases List.mem_cons.1 k1 with rfl | k1
                · exact absurd h2.symm hki
                · exact ⟨t, by simp [k1], h2⟩
            · rintro ⟨t, h1, h2⟩
              rcases List.mem_append.1 h1 with k1 | k1
              · exact ⟨t, by simp [k1], h2⟩
              · exact ⟨t, by simp [k1], h2⟩
        · intro j z hz hj k hk
          by_cases hki : k = i'
          · subst hki
            have hkl : k < listed.size := by omega
            simp [Array.getD, hkl]
          · rw [getD_set_ne false (Ne.symm hki)]
            by_cases hji : j = i'
            · subst hji
              rw [hxi] at hz; cases hz
              obtain ⟨e, he, hbd, rfl⟩ := (hag j x o hxi ho').1 k hk
              exact hedge e he hbd
            · rw [getD_set_ne false (Ne.symm hji)] at hj
              exact hcl j z hz hj k hk
        · simp only [List.length_append, List.length_cons] at hf ⊢; omega
      unfold wpOpIn
      rw [ho]
      exact hstep

theorem reg_ok (hmix : pr.follows .mixedOrders = true) {E : Env} (hE : SoundEnv N pr E) {y : Yl σ} (hS : y.Stable) {Y : List P → σ → Option (Bool × σ)} (hY : y.Ok N pr Y) (ro : Option Nat) {O0 : Nat → Prop} {c0 e0 : Cfg} {kp : List (Nat × Obj)} {id : Nat} {ops : Array Oper} {draw : Bool} {r : Reg} {Q : Exit → Act → World → Prop} {st st' : St} {s s' : σ} {a : Act} {w : World}
    (hm : mReg N pr r ops draw = true) (hr : runReg E Y r st s = some (st', s')) (h : Sim N y O0 c0 e0 kp st s a w) (hQ : ∀ a' w', Sim N y O0 c0 e0 kp st' s' a' w' → Q .normal a' w') : (Code.region id ops draw).wpIn (fc ro) 0 pr Q a w := by
  simp only [mReg, Bool.and_eq_true, beq_iff_eq, Bool.or_eq_true, Bool.not_eq_true'] at hm
  obtain ⟨⟨rfl, hm⟩, hma⟩ := hm
  unfold runReg at hr
  split at hr
  · rename_i st1 hfz
    simp only at hr
    have h1 : Sim N y O0 c0 e0 kp st1 s a w := h.kept N hS fun c hg hm hf => freezeSlots_ok N y.l hg hm hf hfz
    have h2 : Sim N y O0 c0 e0 kp ⟨st1.fr, st1.mem ++ List.replicate r.na .hole⟩ s a w := h1.kept N hS fun c hg hm hf => hm ▸ holes_ok N y.l hg hf r.na
    obtain ⟨st2, s2, hr, rfl, rfl⟩ : ∃ (st2 : St) (s2 : σ), (if r.draw then (runD E st1.mem.length 0 r.ops ⟨st1.fr, st1.mem ++ List.replicate r.na .hole⟩ [] []).map fun st => (st, s) else runOps E Y st1.mem.length r.ops ⟨st1.fr, st1.mem ++ List.replicate r.na .hole⟩ s) = some (st2, s2) ∧ st' = ⟨st2.fr.drop r.kill, st2.mem⟩ ∧ s' = s2 := by
      split at hr
      · rename_i st2 s2 h
        simp only [Option.some.injEq, Prod.mk.injEq] at hr
        exact ⟨st2, s2, h, hr.1.symm, hr.2.symm⟩
      · cases hr
    have hQ : ∀ a' w', Sim N y O0 c0 e0 kp st2 s' a' w' → Q .normal a' w' := fun a' w' h' => hQ a' w' (h'.kept N hS fun c hg hm hf => hm ▸ Kept.refl N y.l hg (drop_ok N y.l hf r.kill))
    cases hd : r.draw with
    | false =>
      simp only [hd, Bool.false_eq_true, if_false] at hr
      exact wpIn_region_list (runOps_ok N pr hE hS hY ro hQ r.ops ops.toList _ s a w hm hr h2)
    | true =>
      simp only [hd, if_true, Option.map_eq_some_iff] at hr
      obtain ⟨st3, hrun, e⟩ := hr
      simp only [Prod.mk.injEq] at e
      obtain ⟨rfl, rfl⟩ := e
      have hma' : mAfter 0 r.ops ops.toList = true := by
        rcases hma with h | h
        · rw [hd] at h; cases h
        · exact h
      obtain ⟨hlen, _⟩ := mAOs_get N pr hm
      refine wpIn_region_any hmix ?_
      have h3 : Sim N y O0 c0 e0 kp ⟨st1.fr, st1.mem ++ List.replicate r.na .hole⟩ s a { w with drawn := w.drawn + 1 } := by
        obtain ⟨dm, p1, p2, c, D, hx⟩ := h2
        obtain ⟨q1, q2⟩ := same_heap N y.l hx.good { w with drawn := w.drawn + 1 } (by rw [hx.hw]) (by rw [hx.hw]) (by rw [hx.hw]) (by rw [hx.hw])
        exact ⟨dm, p1, p2, _, D, hx.own N hS (a' := a) (c' := ⟨c.H, c.φ, c.m, { w with drawn := w.drawn + 1 }⟩) hx.hm q1 hx.frep q2 Ext.refl⟩
      obtain ⟨T, t1, t2, t3, t4, _⟩ := runD_T (xs := r.ops) r.ops 0 _ [] [] (fun j x hj => by simpa using hj) rfl (fun L hL j hj k hk => by simp at hk) hrun
      have hl : T.length = ops.size := by
        have := congrArg List.length t2
        simp at this hlen; omega
      refine draw_ok N pr hE hS hY ro hQ hm hma' ops.size (Array.replicate ops.size false) T _ a _ (by simp) h3 t1 t4 t3 ?_ (fun i hi => ?_) ?_ (by omega)
      · rw [t2]; exact List.pairwise_lt_range'
      · have : (Array.replicate ops.size false).getD i true = false := by simp [Array.getD, hi]
        rw [this]
        refine ⟨fun _ => ?_, fun _ => rfl⟩
        have hmem : i ∈ T.map (·.1) := by rw [t2, List.mem_range'_1]; simp at hlen; omega
        obtain ⟨t, ht, e⟩ := List.mem_map.1 hmem
        exact ⟨t, ht, e⟩
      · intro j x hx hj
        have hj' : (Array.replicate ops.size false).getD j false = false := by simp [Array.getD]
        rw [hj'] at hj; cases hj
  · cases hr

end Go.Am
