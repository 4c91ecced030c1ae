/- A range over a function. -/
import Derived.Test.YtbepkgilphbhaaaAmCode
namespace Go.Am
open Go

variable (N : Nm) (pr : Program)

/-- One round, as the machine runs it. -/
def roundY (E : Env) {σ : Type} (Y : List P → σ → Option (Bool × σ)) (k n0 : Nat) (fr : Fr) (params : List Nat) (assign body : AC) : List P → Rg σ → Option (Bool × Rg σ) := fun ps g =>
  if g.out = .normal ∧ ps.length = params.length then
    match runC E Y n0 k assign ⟨setMany fr params (ps.map V.p), g.mem⟩ g.s with
    | some (.normal, st1, s1) => match runC E Y n0 k body st1 s1 with
      | some (ex, st2, s2) => match gc n0 ⟨⟨0, []⟩, st2.mem⟩ with
        | some st3 => some (ex == .normal, ⟨st3.mem, ex, s2⟩)
        | none => none
      | none => none
    | _ => none
  else none

theorem fc_inRound (ro : Option Nat) (l : Nat) : (fc ro).inRound l = fc (some l) := rfl

theorem obj_ne {w : World} {r l : Nat} {d : Option (List Deferred)} {rec : Loop} (h : w.heap[r]? = some (.deferred d)) (k : w.heap[l]? = some (.loop rec)) : r ≠ l := fun e => by subst e; rw [h] at k; cases k

theorem round_ok {E : Env} {k : Nat} {assign body : AC} {ca cb : Code} (iha : CodeOk N pr E k assign ca) (ihb : CodeOk N pr E k body cb) {σ : Type} {y : Yl σ} (hS : y.Stable) {Y : List P → σ → Option (Bool × σ)} (hY : y.Ok N pr Y)
    {l fnid dfr : Nat} {tmps : Array Value} {ps : Array Tmp} {e1 : Cfg} {fr : Fr} (hfr : FRep N y.l e1 fr tmps) :
    (rangeYl N y l (recOf fnid tmps ps ca cb dfr) e1).Ok N pr (roundY E Y k e1.m.length fr ps.toList assign body) := by
  rintro ps' g b g' hY' l' hl' D' H w vals ⟨c, D, i1, rfl, rfl, i4, i5, i6, i7, i8, i9, i10, i11⟩ hF hbd hreps
  have hll : l = l' := by simpa [rangeYl] using hl'
  subst hll
  unfold roundY at hY'
  split at hY'
  · rename_i hg
    obtain ⟨hout, hlen⟩ := hg
    split at hY'
    · rename_i st1 s1 hra
      split at hY'
      · rename_i ex st2 s2 hrb
        split at hY'
        · rename_i st3 hgc
          simp only [Option.some.injEq, Prod.mk.injEq] at hY'
          obtain ⟨rfl, rfl⟩ := hY'
          rw [hout] at i8
          refine ⟨fnid, _, ca, cb, run_yield (r := recOf fnid tmps ps ca cb dfr .normal) i8 (by have := Reps.length N hreps; simp at hlen; simp [recOf]; omega), ?_⟩
          refine roundIn_of_wpIn (F := fc none) trivial ?_
          rw [fc_inRound]
          have hfr2 : FRep N y.l c fr tmps := hfr.ext N y.l i11
          have hzip : ((recOf fnid tmps ps ca cb dfr .normal).params.zip vals.toArray).foldl (fun tmps (t, a) => tmps.setIfInBounds t a) (recOf fnid tmps ps ca cb dfr .normal).tmps = (ps.toList.zip vals).foldl (fun tm (p : Nat × Value) => tm.setIfInBounds p.1 p.2) tmps := by
            rw [← Array.foldl_toList, Array.toList_zip]; rfl
          rw [hzip]
          have hD' : D' l := (i1 l).2 (.inr (.inr rfl))
          refine iha σ y hS Y hY (some l) D' c e1 [(l, .loop (recOf fnid tmps ps ca cb dfr .normal))] e1.m.length _ g.s _ c.w .normal st1 s1 _ (Nat.le_refl _) (fun l' h' => by cases h'; exact ⟨_, List.mem_cons_self ..⟩) hra ?_ ?_
          · refine ⟨[], rfl, ⟨.nil, by simp⟩, c, D, ⟨rfl, i4, i5, setMany_rep N _ _ _ _ _ hfr2 (VReps.ofReps N hreps), i6, i7, fun p hp => ?_, (Tr.refl D' c.H c.w).less fun b hb => (i1 b).2 ?_, i11⟩⟩
            · simp at hp; subst hp; exact ⟨i8, i9, i10⟩
            · rcases hb with hb | hb
              · exact .inl hb
              · exact .inr (.inl hb)
          · rintro a1 w1 ⟨dm1, q1, q2, c1, D1, hx1⟩
            show ∃ w₂, _
            obtain ⟨m1, m2, m3⟩ := hx1.marks (l, .loop (recOf fnid tmps ps ca cb dfr .normal)) (by simp)
            refine ⟨_, run_beginRound m1 rfl, ?_⟩
            have hx2 : SimX N y D' c e1 ([(l, Obj.loop { recOf fnid tmps ps ca cb dfr .normal with state := .busy })] ++ dm1.map dmOf) st1 s1 a1 (w1.putObj l (.loop { recOf fnid tmps ps ca cb dfr .normal with state := .busy })) ⟨c1.H, c1.φ, c1.m, w1.putObj l (.loop { recOf fnid tmps ps ca cb dfr .normal with state := .busy })⟩ D1 :=
              hx1.put N hS rfl m1 rfl rfl m2 m3 (.inl hD') fun p hp => by
                rcases List.mem_append.1 hp with hp | hp
                · simp at hp; exact .inr hp
                · refine .inl ⟨List.mem_append_right _ hp, ?_⟩
                  have hh := (hx1.marks p (List.mem_append_right _ hp)).1
                  obtain ⟨r, _, rfl⟩ := List.mem_map.1 hp
                  exact obj_ne hh m1
            refine ihb σ y hS Y hY (some l) D' c e1 [(l, .loop { recOf fnid tmps ps ca cb dfr .normal with state := .busy })] e1.m.length st1 s1 a1 _ ex st2 s2 _ (Nat.le_refl _) (fun l' h' => by cases h'; exact ⟨_, List.mem_cons_self ..⟩) hrb ⟨dm1, q1, q2, _, D1, hx2⟩ ?_
            rintro a3 w3 ⟨dm3, p1, p2, c3, D3, hx3⟩
            obtain ⟨n1, n2, n3⟩ := hx3.marks (l, .loop { recOf fnid tmps ps ca cb dfr .normal with state := .busy }) (by simp)
            have hend := run_endRound (P := pr) (codeOf ex) n1
            have hb : (codeOf ex).isNone = (ex == .normal) := by cases ex <;> rfl
            have hrec : ({ ({ recOf fnid tmps ps ca cb dfr .normal with state := .busy } : Loop) with state := if (codeOf ex).isNone then .ready else .done, pending := codeOf ex } : Loop) = recOf fnid tmps ps ca cb dfr ex := by cases ex <;> rfl
            rw [hrec, hb] at hend
            have hx4 : SimX N y D' c e1 [(l, Obj.loop (recOf fnid tmps ps ca cb dfr ex))] ⟨⟨0, []⟩, st2.mem⟩ s2 ⟨#[], []⟩ (w3.putObj l (.loop (recOf fnid tmps ps ca cb dfr ex))) ⟨c3.H, c3.φ, c3.m, w3.putObj l (.loop (recOf fnid tmps ps ca cb dfr ex))⟩ D3 := by
              have := hx3.put N hS (a' := a3) (kp' := [(l, Obj.loop (recOf fnid tmps ps ca cb dfr ex))]) rfl n1 rfl rfl n2 n3 (.inl hD') (fun p hp => by simp at hp; exact .inr hp)
              exact ⟨rfl, this.hm, this.good, ⟨rfl, fun i => trivial⟩, this.rel, this.dis, this.marks, this.tr, this.ext⟩
            obtain ⟨c5, g1, g2, g3, g4, g5, g6⟩ := gc_ok N y.l hx4.good hx4.hm hx4.frep hgc
            have hx5 := hx4.step N hS (a' := ⟨#[], []⟩) g2 g3 g4 g5 (g6 e1 (Nat.le_refl _) hx4.ext)
            simp only [] at g1
            rw [g1] at hx5
            obtain ⟨r1, r2, r3⟩ := hx5.marks (l, .loop (recOf fnid tmps ps ca cb dfr ex)) (by simp)
            have hR : (∃ D'' H', rangeRel N y l (recOf fnid tmps ps ca cb dfr) e1 ⟨st3.mem, ex, s2⟩ D'' H' (w3.putObj l (.loop (recOf fnid tmps ps ca cb dfr ex))) ∧ FrzOk H' (w3.putObj l (.loop (recOf fnid tmps ps ca cb dfr ex))) ∧ (∀ b, D'' b → b < (w3.putObj l (.loop (recOf fnid tmps ps ca cb dfr ex))).heap.size) ∧ Tr D' c.H c.w D'' H' (w3.putObj l (.loop (recOf fnid tmps ps ca cb dfr ex)))) := by
              refine ⟨fun b => Owned c5 b ∨ D3 b ∨ b = l, c5.H, ⟨c5, D3, fun b => Iff.rfl, rfl, g1, g2, g3, hx5.rel, hx5.dis, r1, r2, r3, hx5.ext⟩, ?_, fun b hb => ?_, ?_⟩
              · have := g3.frz; rw [g1] at this; exact this
              · rcases hb with hb | hb | rfl
                · have := g3.owned_lt N y.l hb; rw [g1] at this; exact this
                · exact (hx5.dis b hb).1
                · exact (Array.getElem?_eq_some_iff.1 r1).1
              · refine (hx5.tr.also (l := l) (.inl hD')).less fun b hb => ?_
                rcases hb with hb | hb | hb
                · exact .inl (.inl hb)
                · exact .inl (.inr hb)
                · exact .inr hb
            cases ex with
            | normal => exact ⟨_, _, hend, rfl, hR⟩
            | exit id => exact ⟨_, _, hend, rfl, hR⟩
            | ret => exact ⟨_, _, hend, rfl, hR⟩
        · cases hY'
      · cases hY'
    · cases hY'
  · cases hY'

theorem range_ok {E : Env} (hE : SoundEnv N pr E) {k : Nat} {f : Opd} {params lift : List Nat} {assign body : AC} {g : Operand} {ps : Array Tmp} {ca cb : Code} (iha : CodeOk N pr E k assign ca) (ihb : CodeOk N pr E k body cb) (hmf : mOpd N f g = true) (hps : params = ps.toList) :
    CodeOk N pr E k (.range f params lift assign body) (.rangeFunc g ps ca cb) := by
  intro σ y hS Y hY ro O0 c0 e0 kp n0 st0 s a w ex st' s' Q hn0 hro hr hs hQ
  subst hps
  simp only [runC] at hr
  have h1 : Sim N y O0 c0 e0 kp (liftAll lift st0) s a w := hs.kept N hS fun c hg hm hf => liftAll_ok N y.l lift hg hm hf
  generalize liftAll lift st0 = st at hr h1
  split at hr
  · cases hr
  · rename_i id caps hcl
    split at hr
    · cases hr
    · rename_i idx bs hrm
      split at hr
      · rename_i as ms has hms
        split at hr
        · rename_i hcond
          split at hr
          · rename_i gg hit
            simp only [Option.some.injEq, Prod.mk.injEq] at hr
            obtain ⟨rfl, rfl, rfl⟩ := hr
            simp only [Bool.and_eq_true] at hcond
            obtain ⟨⟨hnd, hny⟩, hby⟩ := hcond
            have hn := nd_nodup hnd
            have hb : (readAll idx).run st.mem = some bs := by
              rw [RM.run_bind] at hrm
              cases h1 : (reach 1000 (idss caps) []).run st.mem with
              | none => rw [h1] at hrm; simp at hrm
              | some i1 =>
                rw [h1] at hrm
                simp only [Option.bind_some, RM.run_bind] at hrm
                cases h2 : (readAll i1).run st.mem with
                | none => rw [h2] at hrm; simp at hrm
                | some b1 =>
                  rw [h2] at hrm
                  simp only [Option.bind_some, RM.run, Option.some.injEq, Prod.mk.injEq] at hrm
                  obtain ⟨rfl, rfl⟩ := hrm
                  exact h2
            have hit' : E.iter (Rg σ) (roundY E Y k (applyUps st.mem (idx.map fun i => (i, Blk.dead))).length st.fr ps.toList assign body) id (.yield :: as) ms ⟨applyUps st.mem (idx.map fun i => (i, Blk.dead)), .normal, s⟩ = some gg := hit
            obtain ⟨⟨fn, hf1, hf2, hf3⟩, hiter⟩ := hE.iter (Rg σ) _ id _ ms _ gg hit'
            obtain ⟨dm, hdf, hnd', c, D, hx⟩ := h1
            have hcw := hx.hw; subst hcw
            refine wpIn_rangeFunc fun fnid _ => ?_
            -- the record is laid
            have henter : ∃ (l dfr : Nat) (mark : List Deferred) (w1 : World) (dm' : List Nat), (Instr.enterLoop fnid a.tmps ps ca cb (fc ro).round).run pr c.w = .ok (l, mark) w1 ∧ mark ++ a.defers = (dm'.map fun r => { target := .collected r, args := #[] }) ∧ (dm'.Nodup ∧ ∀ r ∈ dm', c0.w.heap.size ≤ r) ∧
                c.w.heap.size ≤ l ∧ SimX N y O0 c0 e0 ((l, .loop (recOf fnid a.tmps ps ca cb dfr .normal)) :: (kp ++ dm'.map dmOf)) st s a w1 ⟨c.H, c.φ, c.m, w1⟩ D ∧ ∀ p ∈ kp ++ dm'.map dmOf, p.1 ≠ l := by
              have hlow : ∀ p ∈ kp ++ dm.map dmOf, p.1 < c.w.heap.size := fun p hp => (Array.getElem?_eq_some_iff.1 (hx.marks p hp).1).1
              cases hr' : ro with
              | none =>
                refine ⟨_, c.w.heap.size, _, _, c.w.heap.size :: dm, run_enterLoop_outer fnid a.tmps ps ca cb, by simp [hdf], ?_, by omega, ?_, ?_⟩
                · refine ⟨List.nodup_cons.2 ⟨fun h => ?_, hnd'.1⟩, fun r hr => ?_⟩
                  · have := hlow (dmOf c.w.heap.size) (List.mem_append_right _ (List.mem_map_of_mem h))
                    simp [dmOf] at this
                  · rcases List.mem_cons.1 hr with rfl | hr
                    · exact hx.tr.size
                    · exact hnd'.2 r hr
                · have := (hx.alloc N hS (a' := a) rfl (o := .deferred (some [])) rfl).alloc N hS (a' := a) rfl (o := .loop (recOf fnid a.tmps ps ca cb c.w.heap.size .normal)) rfl
                  rw [World.size_alloc] at this
                  refine this.fewer N fun p hp => ?_
                  rcases List.mem_cons.1 hp with rfl | hp
                  · simp
                  · rcases List.mem_append.1 hp with hp | hp
                    · simp [hp]
                    · simp only [List.map_cons, List.mem_cons] at hp
                      rcases hp with rfl | hp
                      · simp [dmOf]
                      · simp [hp]
                · intro p hp
                  rcases List.mem_append.1 hp with hp | hp
                  · have := hlow p (by simp [hp]); omega
                  · simp only [List.map_cons, List.mem_cons] at hp
                    rcases hp with rfl | hp
                    · simp [dmOf]
                    · have := hlow p (by simp only [List.mem_append]; exact .inr hp); omega
              | some l0 =>
                obtain ⟨rec0, hrec0⟩ := hro l0 hr'
                have hl0 := (hx.marks (l0, .loop rec0) (by simp [hrec0])).1
                refine ⟨_, rec0.defers, _, _, dm, run_enterLoop_inner pr fnid a.tmps ps ca cb hl0, by simp [hdf], hnd', Nat.le_refl _, hx.alloc N hS (a' := a) rfl (o := .loop (recOf fnid a.tmps ps ca cb rec0.defers .normal)) rfl, fun p hp => ?_⟩
                have := hlow p hp; omega
            obtain ⟨l, dfr, mark, w1, dm', hen, hmk, hnd1, hsz, hx1, hkl⟩ := henter
            obtain ⟨hl1, hl2, hl3⟩ := hx1.marks _ (List.mem_cons_self ..)
            simp only [] at hl1 hl2 hl3
            -- the function that is called
            obtain ⟨cs, hv, hcs⟩ := callee_rep N hcl (opd_rep N y.l hx1.frep hmf)
            refine ⟨l, mark, w1, { target := .fn (.func (N.num id)) cs.toArray, args := #[.func (.yield l) #[] #[]] }, w1, N.num id, #[.func (.yield l) #[] #[]] ++ cs.toArray, w1, hen, ?_, fun _ _ => trivial, ?_, fc_depth ro 0, ?_⟩
            · simp only [resolve, hv]
              simp [go_sem]
            · simp [invoke, go_sem, call_fn pr hf1 hf2 hf3]
            · have hg1 : Good N y.l ⟨c.H, c.φ, c.m, w1⟩ := hx1.good
              have hcm : c.m = st.mem := hx.hm
              rw [← hcm] at hb
              obtain ⟨g1, t1, hidx⟩ := sub_good N y.l hg1 hn hb hms
              obtain ⟨l1, gr1⟩ := readAll_get hb
              obtain ⟨l2, gr2⟩ := renBlks_get hms
              have hnoY : ∀ (i : Nat) (x : Blk), ms[i]? = some x → x.noY = true := fun i x hx => by
                obtain ⟨z, hz, hzr⟩ := gr2 i x hx
                have hzY := (List.all_eq_true.1 hby) z (List.mem_of_getElem? hz)
                rcases ren_blk_kind hzr with ⟨cs, cs', rfl, rfl⟩ | ⟨rfl, hnc⟩
                · simp only [Blk.noY] at hzY ⊢
                  simp only [Blk.ren, Option.map_eq_some_iff, Blk.cells.injEq] at hzr
                  obtain ⟨q, hq, rfl⟩ := hzr
                  exact noYs_ren hq hzY
                · exact hzY
              obtain ⟨k1, k2, k3⟩ := kills N y.l hg1 idx
              rw [hcm] at k1 k2 k3
              have hgI : Good N (some l) ⟨c.H, idx.map fun i => (c.φ[i]?).getD none, ms, w1⟩ := Good.anyY N y.l g1 hnoY
              have hargs : VReps N (some l) c.H (idx.map fun i => (c.φ[i]?).getD none) ms as cs :=
                VReps.ren N (some l) (HM.le_refl _) (fun i k hik => (hidx i k (idxOf_get hik)).1) caps as cs has (VReps.anyY N y.l caps cs hny hcs)
              let e1 : Cfg := ⟨c.H, c.φ, applyUps st.mem (idx.map fun i => (i, Blk.dead)), w1⟩
              have hOI : ∀ b, Owned ⟨c.H, idx.map fun i => (c.φ[i]?).getD none, ms, w1⟩ b → Owned c b ∧ ¬ Owned e1 b := fun b hb' => by
                obtain ⟨i, hi, hlv, s1, hs1⟩ := sub_owned (c := ⟨c.H, c.φ, c.m, w1⟩) hb hms hidx hb'
                refine ⟨⟨i, s1, hlv, hs1⟩, ?_⟩
                rintro ⟨j, s2, hlj, hpj⟩
                obtain ⟨q1, q2⟩ := live_killed idx hlj
                rw [← hcm] at q1
                have := hg1.inj i j b s1 s2 hlv q1 hs1 hpj
                subst this
                exact q2 hi
              have hOe : ∀ b, Owned e1 b → Owned c b := fun b hb' => by
                obtain ⟨j, s2, hlj, hpj⟩ := hb'
                obtain ⟨q1, _⟩ := live_killed idx hlj
                rw [← hcm] at q1
                exact ⟨j, s2, q1, hpj⟩
              have hcall := hiter (rangeYl N y l (recOf fnid a.tmps ps ca cb dfr) e1) (rangeYl_stable N hS l _ e1) (round_ok N pr iha ihb hS hY (hx1.frep.ext N y.l (c' := e1) (by have := k3; rw [← hcm] at this; simpa [e1, hcm] using this)))
                ⟨c.H, idx.map fun i => (c.φ[i]?).getD none, ms, w1⟩ (fun b => Owned e1 b ∨ D b ∨ b = l) (.func (.yield l) #[] #[] :: cs) hgI rfl
                (by simp only [VReps]; exact ⟨_, _, rfl, by simp only [VRep]; exact ⟨l, rfl, rfl⟩, hargs⟩)
                ⟨e1, D, fun b => Iff.rfl, rfl, rfl, rfl, k1, hx1.rel, fun b hb' => ⟨(hx1.dis b hb').1, fun ho => (hx1.dis b hb').2 (hOe b ho)⟩, hl1, fun ho => hl2 (hOe l ho), hl3, Ext.refl⟩
                (fun b hb' => by
                  rcases hb' with hb' | hb' | rfl
                  · exact ⟨hg1.owned_lt N y.l (show Owned ⟨c.H, c.φ, c.m, w1⟩ b from hOe b hb'), fun ho => (hOI b ho).2 hb'⟩
                  · exact ⟨(hx1.dis b hb').1, fun ho => (hx1.dis b hb').2 (hOI b ho).1⟩
                  · exact ⟨(Array.getElem?_eq_some_iff.1 hl1).1, fun ho => hl2 (hOI _ ho).1⟩)
              have e0' : (Value.func (.yield l) #[] #[] :: cs).toArray = #[.func (.yield l) #[] #[]] ++ cs.toArray := by simp
              rw [e0'] at hcall
              refine CallsIn.mono (F := fc ro) (n := 0 - 1) (show CallsIn (fc ro) (0 - 1) pr (N.num id) _ w1 _ from (callsIn_wide (n := 0 - 1)).2 hcall) ?_
              rintro e w' ⟨⟨v, rfl⟩, D', H', ⟨c3, D3, i1, rfl, rfl, i4, i5, i6, i7, i8, i9, i10, i11⟩, hF, hbd, hT⟩
              have hend := run_endLoop (P := pr) i8 (by unfold recOf; simp only; split <;> simp)
              refine ⟨_, _, hend, ?_⟩
              have hOD : ∀ b, (Owned ⟨c.H, idx.map fun i => (c.φ[i]?).getD none, ms, w1⟩ b ∨ Owned e1 b ∨ D b ∨ b = l) → (Owned c b ∨ D b) ∨ b = l := fun b hb' => by
                rcases hb' with h | h | h | h
                · exact .inl (.inl (hOI b h).1)
                · exact .inl (.inl (hOe b h))
                · exact .inl (.inr h)
                · exact .inr h
              have hcsz : c0.w.heap.size ≤ l := Nat.le_trans hx.tr.size hsz
              have hx3 : SimX N y O0 c0 e0 (kp ++ dm'.map dmOf) ⟨st.fr, gg.mem⟩ gg.s a c3.w c3 D3 := by
                refine ⟨rfl, i4, i5, ?_, i6, i7, fun p hp => ?_, ?_, ?_⟩
                · have h1 : FRep N y.l e1 st.fr a.tmps := hx1.frep.ext N y.l (c' := e1) (by have := k3; simpa [e1, hcm] using this)
                  exact h1.ext N y.l i11
                · obtain ⟨q1, q2, q3⟩ := hx1.marks p (List.mem_cons_of_mem _ hp)
                  have hpl := hkl p hp
                  have hplt : p.1 < w1.heap.size := (Array.getElem?_eq_some_iff.1 q1).1
                  have hno : ¬ (Owned ⟨c.H, idx.map fun i => (c.φ[i]?).getD none, ms, w1⟩ p.1 ∨ Owned e1 p.1 ∨ D p.1 ∨ p.1 = l) := fun h => by
                    rcases hOD p.1 h with (h | h) | h
                    · exact q2 h
                    · exact q3 h
                    · exact hpl h
                  have hnD : ¬ D' p.1 := fun h => by
                    rcases hT.own p.1 h with h | h
                    · exact hno h
                    · simp only [] at h; omega
                  exact ⟨(hT.frame p.1 hplt hno).trans q1, fun h => hnD ((i1 p.1).2 (.inl h)), fun h => hnD ((i1 p.1).2 (.inr (.inl h)))⟩
                · refine ((hx1.tr.also (l := l) (.inr hcsz)).trans (hT.mono hOD)).less fun b hb' => (i1 b).2 ?_
                  rcases hb' with h | h
                  · exact .inl h
                  · exact .inr (.inl h)
                · have h1 : Ext e0.H e0.φ e0.m e1.H e1.φ e1.m := hx1.ext.trans (by have := k3; simpa [e1, hcm] using this)
                  exact h1.trans i11
              have hx4 := hx3.put N hS (a' := { a with defers := mark ++ a.defers }) (kp' := kp ++ dm'.map dmOf) (o' := .loop { recOf fnid a.tmps ps ca cb dfr gg.out with state := .exhausted }) rfl i8 rfl rfl i9 i10 (.inr hcsz) fun p hp => .inl ⟨hp, hkl p hp⟩
              have hfin := hQ { a with defers := mark ++ a.defers } _ ⟨dm', hmk, hnd1, _, D3, hx4⟩
              cases hgo : gg.out with
              | normal => rw [hgo] at hfin; exact hfin
              | exit id => rw [hgo] at hfin; exact wpIn_exit hfin
              | ret => rw [hgo] at hfin; exact wpIn_ret hfin
          · cases hr
        · cases hr
      · cases hr

end Go.Am
