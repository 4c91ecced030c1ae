/- The law RecallForms of chapter 11 answers true at every input. No condition. -/
import Derived.Test.YtdhfhbmfdjnnjaaRows
import Derived.Test.YtdhfhbmfdjnnjaaTbl
import Derived.Test.YtdhfhbmfdjnnjaaAmE
import Derived.Test.YtdhfhbmfdjnnjaaSp2
import Derived.WalkKit
import Derived.ProofKit
import Derived.OpenShut
namespace Go.Proofs.Ytdhfhbmfdjnnjaa.recallForms
open Go.Am Go.ChangeShapes Go.WideShapes Go.ChangeAt Go.RowKit
set_option linter.unusedVariables false

theorem own : ownKnob Try.prog.godebug = none := by kernel_rfl
theorem laidOut : laidOutB Try.prog = true := by kernel_rfl
theorem pars : Try.f3.params.toList = [25] := by kernel_rfl
theorem ress : Try.f3.resultTypes = #[4] := by kernel_rfl
theorem isBool : Try.prog.underlying 4 = some .bool := by kernel_rfl
theorem tys : tysOk Try.prog 8 Try.f3.params.toList = true := by kernel_rfl
theorem u3 : Try.prog.underlying 3 = some (.int .i64) := by kernel_rfl
theorem u22 : Try.prog.underlying 22 = some (.slice 37) := by kernel_rfl
theorem u23 : Try.prog.underlying 23 = some (.slice 34) := by kernel_rfl
theorem u35 : Try.prog.underlying 35 = some (.slice 3) := by kernel_rfl
theorem n3 : nOf Try.prog 3 = 0 := by kernel_rfl
theorem n22 : nOf Try.prog 22 = 0 := by kernel_rfl
theorem n23 : nOf Try.prog 23 = 0 := by kernel_rfl
theorem n25 : nOf Try.prog 25 = 3 := by kernel_rfl
theorem n34 : nOf Try.prog 34 = 2 := by kernel_rfl
theorem n35 : nOf Try.prog 35 = 0 := by kernel_rfl
theorem n37 : nOf Try.prog 37 = 6 := by kernel_rfl
theorem gty : GTy Try.prog 25 37 34 22 23 35 3 := ⟨by kernel_rfl, by kernel_rfl, by kernel_rfl, by kernel_rfl, by kernel_rfl, by kernel_rfl, by kernel_rfl, by kernel_rfl, by kernel_rfl, by kernel_rfl, by kernel_rfl, by kernel_rfl, by kernel_rfl, by kernel_rfl, by kernel_rfl, by kernel_rfl, by kernel_rfl⟩

set_option maxRecDepth 100000 in
theorem law (qs : List P) (h : Typed Try.prog 8 Try.f3.params.toList qs) : ∃ m, (EL Fns.tree.get).call 97 (qs.map V.p) [] = some (.p (.v (.bool true)), m) := by
  rw [pars] at h
  obtain ⟨q0, r0, rfl, ⟨h0, a0⟩, h⟩ := Typed.get _ h rfl
  obtain rfl := Typed.nil _ h
  obtain ⟨g, rfl, _⟩ := arg_game gty h0 a0
  exact ⟨_, s97 g⟩

set_option maxRecDepth 100000 in
theorem lifted (os : Os) (started : os.Started) (H : Type) (enc : TypeId × Value → H) :
    ReturnsInHanded {} Try.checked os 3 .any (Rows.recallFormsSpec.pre6 enc Try.prog Try.f3 Rows.recallFormsRow.domain false) (Rows.recallFormsSpec.post enc Try.prog Try.f3 Rows.recallFormsRow.apart Rows.recallFormsRow.fresh Rows.recallFormsRow.handsOn Rows.recallFormsRow.again) := by
  refine returnsInHanded_of_change (C := Try.checked) own started (by kernel_rfl) Try.func3
    (ChangeSpec.witness6 (enc := enc) (C := Try.checked) false ⟨#[], #[.agg #[.int .i64 0, .slice none 0 0, .slice none 0 0]], []⟩ 8 (by kernel_rfl) (by kernel_rfl) (by kernel_rfl) (by kernel_rfl)) ?_
  intro W base args ds gs before hval hW _ _
  exact row_contract Fns.nm Try.prog mixed tblOk (id := 97) (f := 3) (by kernel_rfl) (fn := Try.f3) (s := Rows.recallFormsSpec) ress isBool tys laidOut rfl
    (fun ds hds => by
      have hp : Try.f3.params.size = 1 := by kernel_rfl
      rw [hp] at hds
      rcases ds with _ | ⟨d0, _ | ⟨d1, r⟩⟩ <;> simp at hds <;> exact ⟨rfl, rfl, rfl⟩) law W base args ds gs before hval hW

theorem over : Rows.recallFormsRow.holds Try.pinned (OpenSpec.ofChange Rows.recallFormsSpec) :=
  OpenClaim.holds_of_wide 3 Try.f3 rfl rfl rfl rfl rfl rfl rfl ⟨rfl, rfl, rfl, rfl, rfl⟩ rfl rfl rfl rfl rfl (by kernel_rfl) Try.func3 (by kernel_rfl)
    (of_decide_eq_true (by kernel_rfl)) (by unfold Func.isWrapper; first | (rw [if_pos (by decide +kernel)]; kernel_rfl) | (rw [if_neg (by decide +kernel)]; exact ⟨rfl, rfl⟩))
    (fun os started H enc _ => lifted os started H enc)

theorem proved : Rows.RecallFormsSaid :=
  over
#print axioms proved
end Go.Proofs.Ytdhfhbmfdjnnjaa.recallForms
