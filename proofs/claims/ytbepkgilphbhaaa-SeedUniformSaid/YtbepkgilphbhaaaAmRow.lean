/- A law's row out of what the evaluator says at every input. -/
import Derived.Test.YtbepkgilphbhaaaAmIn
import Derived.Test.YtbepkgilphbhaaaAmLim
import Derived.Carry
import Derived.ChangeSame
import Derived.RowKit
namespace Go.Am
open Go Go.RowKit Go.ChangeShapes

variable (N : Nm) (pr : Program)

def Typed (k : Nat) (ts : List Nat) (qs : List P) : Prop := qs.length = ts.length ∧ ∀ (j t : Nat) (q : P), ts[j]? = some t → qs[j]? = some q → tyP pr k t q.cells ∧ (q.isAgg = true ↔ nOf pr t ≠ 0)

theorem args_read {H : Type} {enc : TypeId × Value → H} {W : World} {spare : Nat → Bool} {held : Bool} {k : Nat} : ∀ {ts : List Nat} {vs : List Value} {ds : List (DataW H)} {ps : List MemPlace},
    DataW.TrodAll enc pr W 0 spare held ts vs ds ps → (∀ t ∈ ts, okTy pr k t = true ∧ pr.cellsOf t = sz (nOf pr t)) → (∀ (j t : Nat) (v : Value), ts[j]? = some t → vs[j]? = some v → ∃ r b2, Value.okWide pr W r b2 t v) →
    ∃ qs : List P, Reps N (allH W) qs vs ∧ Typed pr k ts qs
  | [], [], [], _, _, _, _ => ⟨[], by simp [Reps], rfl, fun j t q h => by simp at h⟩
  | t :: ts, v :: vs, d :: ds, _, h, ho, hv => by
    obtain ⟨p, q, h1, h2, rfl⟩ := h
    obtain ⟨r, b2, hok⟩ := hv 0 t v rfl rfl
    obtain ⟨x, hx⟩ := arg_reads N pr (k := k) (ho t (by simp)).1 (ho t (by simp)).2 hok h1
    obtain ⟨qs, g1, g2, g3⟩ := args_read h2 (fun t ht => ho t (by simp [ht])) (fun j t v hj hj' => hv (j + 1) t v (by simpa using hj) (by simpa using hj'))
    refine ⟨x :: qs, by simp only [Reps]; exact ⟨v, vs, rfl, hx.rep, g1⟩, by simp [g2], fun j t' q' hj hj' => ?_⟩
    cases j with
    | zero => simp at hj hj'; subst hj hj'; exact ⟨hx.ty, hx.agg⟩
    | succ j => exact g3 j t' q' (by simpa using hj) (by simpa using hj')
  | [], [], _ :: _, _, h, _, _ => h.elim
  | [], _ :: _, _, _, h, _, _ => by cases h
  | _ :: _, [], _, _, h, _, _ => by cases h
  | _ :: _, _ :: _, [], _, h, _, _ => by cases h

theorem args_same {H : Type} {enc : TypeId × Value → H} (hl : laidOutB pr = true) {W W' : World} {sp : Nat → Bool} (hb : Below W.heap.size W W') : ∀ {ts : List Nat} {vs : List Value} {ds : List (DataW H)} {ps : List MemPlace},
    DataW.TrodAll enc pr W 0 (fun _ => true) true ts vs ds ps → (∀ t ∈ ts, pr.readableRec t = true ∧ t < pr.types.size) → (∀ p ∈ ps, p.block < W.heap.size) → (∀ p ∈ ps, sp p.block = true) → DataW.TrodAll enc pr W' 0 sp true ts vs ds ps
  | [], [], [], _, h, _, _, _ => h
  | t :: ts, v :: vs, d :: ds, _, h, ho, hlt, hsp => by
    obtain ⟨p, q, h1, h2, rfl⟩ := h
    exact ⟨p, q, WideElems.Trod_stays hl (ho t (by simp)).1 (ho t (by simp)).2 h1 (fun x hx => hb.same (hlt x (by simp [hx]))) (fun x hx => hsp x (by simp [hx])),
      args_same hl hb h2 (fun t ht => ho t (by simp [ht])) (fun x hx => hlt x (by simp [hx])) (fun x hx => hsp x (by simp [hx])), rfl⟩
  | [], [], _ :: _, _, h, _, _, _ => h.elim
  | [], _ :: _, _, _, h, _, _, _ => by cases h
  | _ :: _, [], _, _, h, _, _, _ => by cases h
  | _ :: _, _ :: _, [], _, h, _, _, _ => by cases h

/-- What is asked of the types of a law's arguments. -/
def tysOk (k : Nat) (ts : List Nat) : Bool := ts.all fun t => okTy pr k t && pr.cellsOf t == sz (nOf pr t) && pr.readableRec t && decide (t < pr.types.size)

/-- A law's contract. -/
theorem row_contract {H : Type} {enc : TypeId × Value → H} (hmix : pr.follows .mixedOrders = true) {tbl : Nat → Option AFn} (ht : TblOk N pr tbl) {id f : Nat} (hid : N.num id = f) {fn : Func} {s : ChangeSpec} {apart fresh handsOn again : Bool}
    {tb k : Nat} (hres : fn.resultTypes = #[tb]) (hb : pr.underlying tb = some .bool) (hty : tysOk pr k fn.params.toList = true) (hl : laidOutB pr = true) (hv0 : s.vars = [])
    (hsp : ∀ ds : List (DataW H), ds.length = fn.params.size → (s.fn H ds).results = [.lit (.bool true)] ∧ (s.fn H ds).args = ds ∧ (s.fn H ds).vars = [])
    (law : ∀ qs : List P, Typed pr k fn.params.toList qs → ∃ m, (EL tbl).call id (qs.map V.p) [] = some (.p (.v (.bool true)), m))
    (W : World) (base : Nat) (args : Array Value) (ds gs : List (DataW H)) (before : List MemPlace)
    (hval : ∀ (j : Nat) t v, fn.params[j]? = some t → args[j]? = some v → Value.okWide pr W .any base t v) (hW : DataW.Whole enc pr fn.params.toList s.vars apart W args.toList ds gs before) :
    Calls pr f args W fun e W' => ∃ v, e = .returned v ∧ s.post enc pr fn apart fresh handsOn again W args v W' := by
  have hW' := hW
  obtain ⟨p, q, hA, hV, rfl, hfz, hnd⟩ := hW
  rw [hv0] at hV
  obtain ⟨rfl, rfl⟩ := trodVars_none hV
  have hall : ∀ t ∈ fn.params.toList, (okTy pr k t = true ∧ pr.cellsOf t = sz (nOf pr t)) ∧ pr.readableRec t = true ∧ t < pr.types.size := fun t ht => by
    have := List.all_eq_true.1 hty t ht
    simp only [Bool.and_eq_true, beq_iff_eq, decide_eq_true_eq] at this
    exact ⟨this.1.1, this.1.2, this.2⟩
  obtain ⟨qs, hr, htyped⟩ := args_read N pr hA (fun t ht => (hall t ht).1) (fun j t v hj hv => ⟨.any, base, hval j t v (by simpa using hj) (by simpa using hv)⟩)
  obtain ⟨m, hm⟩ := law qs htyped
  obtain ⟨n, hn⟩ := (EL_call tbl).1 hm
  have hc := open_law N pr hmix ht hid hr ⟨n, by rw [hn]; rfl⟩
  simp only [Array.toArray_toList] at hc
  refine hc.mono fun e W' ⟨he, hg, htp, hblk⟩ => ?_
  subst he
  have hbel : Below W.heap.size W W' := ⟨hg.1.1, htp, hg.1.2.1, hg.2.2, hblk⟩
  have hlen : ds.length = fn.params.size := by
    have : ∀ {ts : List Nat} {vs : List Value} {ds : List (DataW H)} {ps : List MemPlace}, DataW.TrodAll enc pr W 0 (fun _ => true) true ts vs ds ps → ds.length = ts.length := by
      intro ts
      induction ts with
      | nil => intro vs ds ps h; cases vs <;> cases ds <;> first | rfl | exact h.elim | cases h
      | cons t ts ih =>
        intro vs ds ps h
        cases vs <;> cases ds <;> first | (obtain ⟨p, q, h1, h2, rfl⟩ := h; simp [ih h2]) | exact h.elim | cases h
    simpa using this hA
  obtain ⟨s1, s2, s3⟩ := hsp (ds ++ []) (by simpa using hlen)
  refine ⟨_, rfl, post_of_same (pa := p) (pv := []) hW' (fun _ _ _ => ?_) (fun sp hs => ?_) (fun sp _ => ?_) (by simp) (World.keptBut_mono (fun p hp => hp.elim) hg.1) hg.2.1 (ok_one hres rfl (okWide_bool_mk hb _))⟩
  · rw [s1, hres]
    exact trodAll_mk1 (shut_bool hb true)
  · rw [s2]
    simp only [List.append_nil]
    exact args_same pr hl hbel hA (fun t ht => (hall t ht).2) (fun x hx => by
      have := hW'.lt x (by simpa using hx)
      exact this) (fun x hx => hs x (by simpa using hx))
  · rw [s3, hv0]; rfl

/-! ### Arguments of the kinds that laws have -/

theorem wf64 {n : Int} (h : (Lit.int .i64 n).wf = true) : -9223372036854775808 ≤ n ∧ n ≤ 9223372036854775807 := by
  simp only [Lit.wf, IntKind.min, IntKind.max, IntKind.signed, IntKind.bits, Bool.and_eq_true, decide_eq_true_eq] at h
  simp at h
  omega

theorem arg_int {k t : Nat} {kd : IntKind} (hu : pr.underlying t = some (.int kd)) {q : P} (h : tyP pr (k + 1) t q.cells) (ha : q.isAgg = true ↔ nOf pr t ≠ 0) : ∃ n, q = .v (.int kd n) ∧ (Lit.int kd n).wf = true := by
  have hn : nOf pr t = 0 := by simp only [nOf, hu]
  have hna : q.isAgg = false := by
    cases hq : q.isAgg with
    | false => rfl
    | true => exact absurd hn (ha.1 hq)
  simp only [tyP, hu] at h
  obtain ⟨n, h1, h2⟩ := h
  refine ⟨n, ?_, h2⟩
  cases q <;> simp only [P.cells, List.cons.injEq, and_true] at h1 <;> first | exact h1 | (simp [P.isAgg] at hna)

theorem arg_slice {α : Type} {e t k : Nat} {enc : α → P} {Q : α → Prop} (hu : pr.underlying t = some (.slice e)) (hel : ∀ x : P, tyP pr k e x.cells → (x.isAgg = true ↔ nOf pr e ≠ 0) → ∃ a, x = enc a ∧ Q a)
    {q : P} (h : tyP pr (k + 1) t q.cells) (ha : q.isAgg = true ↔ nOf pr t ≠ 0) : ∃ l : List α, q = .sl (nOf pr e) (l.map enc) ∧ l.length ≤ maxLen ∧ ∀ a ∈ l, Q a := by
  have hn : nOf pr t = 0 := by simp only [nOf, hu]
  have hna : q.isAgg = false := by
    cases hq : q.isAgg with
    | false => rfl
    | true => exact absurd hn (ha.1 hq)
  simp only [tyP, hu] at h
  obtain ⟨es, h1, h2, h3⟩ := h
  have hl : ∀ es : List P, (∀ x ∈ es, tyP pr k e x.cells ∧ (x.isAgg = true ↔ nOf pr e ≠ 0)) → ∃ l : List α, es = l.map enc ∧ ∀ a ∈ l, Q a := by
    intro es
    induction es with
    | nil => intro _; exact ⟨[], rfl, by simp⟩
    | cons x r ih =>
      intro hx
      obtain ⟨a, ha1, ha2⟩ := hel x (hx x (by simp)).1 (hx x (by simp)).2
      obtain ⟨l, hl1, hl2⟩ := ih fun y hy => hx y (by simp [hy])
      refine ⟨a :: l, by rw [ha1, hl1]; rfl, fun b hb => ?_⟩
      rcases List.mem_cons.1 hb with rfl | hb
      · exact ha2
      · exact hl2 b hb
  obtain ⟨l, e1, e2⟩ := hl es h3
  refine ⟨l, ?_, by rw [e1] at h2; simpa using h2, e2⟩
  have hq : q = .sl (nOf pr e) es := by cases q <;> simp only [P.cells, List.cons.injEq, and_true] at h1 <;> first | exact h1 | (simp [P.isAgg] at hna)
  rw [hq, e1]

/-- A slice of whole numbers. -/
theorem arg_ints {e t k : Nat} {kd : IntKind} (hu : pr.underlying t = some (.slice e)) (he : pr.underlying e = some (.int kd)) {q : P} (h : tyP pr (k + 2) t q.cells) (ha : q.isAgg = true ↔ nOf pr t ≠ 0) :
    ∃ l : List Int, q = .sl 0 (l.map fun n => .v (.int kd n)) ∧ l.length ≤ maxLen ∧ ∀ n ∈ l, (Lit.int kd n).wf = true := by
  have hn : nOf pr e = 0 := by simp only [nOf, he]
  have := arg_slice pr (enc := fun n => P.v (.int kd n)) (Q := fun n => (Lit.int kd n).wf = true) hu (fun x h1 h2 => arg_int pr he h1 h2) h ha
  rwa [hn] at this

theorem arg_bool {k t : Nat} (hu : pr.underlying t = some .bool) {q : P} (h : tyP pr (k + 1) t q.cells) (ha : q.isAgg = true ↔ nOf pr t ≠ 0) : ∃ b, q = .v (.bool b) := by
  have hn : nOf pr t = 0 := by simp only [nOf, hu]
  have hna : q.isAgg = false := by
    cases hq : q.isAgg with
    | false => rfl
    | true => exact absurd hn (ha.1 hq)
  simp only [tyP, hu] at h
  obtain ⟨n, h1⟩ := h
  refine ⟨n, ?_⟩
  cases q <;> simp only [P.cells, List.cons.injEq, and_true] at h1 <;> first | exact h1 | (simp [P.isAgg] at hna)

theorem Typed.get {k : Nat} {ts : List Nat} {qs : List P} (h : Typed pr k ts qs) {t : Nat} {r : List Nat} (e : ts = t :: r) : ∃ q qr, qs = q :: qr ∧ (tyP pr k t q.cells ∧ (q.isAgg = true ↔ nOf pr t ≠ 0)) ∧ Typed pr k r qr := by
  subst e
  obtain ⟨h1, h2⟩ := h
  cases qs with
  | nil => simp at h1
  | cons q qr => exact ⟨q, qr, rfl, h2 0 t q rfl rfl, by simpa using h1, fun j t' q' hj hj' => h2 (j + 1) t' q' (by simpa using hj) (by simpa using hj')⟩
theorem Typed.nil {k : Nat} {qs : List P} (h : Typed pr k [] qs) : qs = [] := List.eq_nil_of_length_eq_zero h.1

end Go.Am
