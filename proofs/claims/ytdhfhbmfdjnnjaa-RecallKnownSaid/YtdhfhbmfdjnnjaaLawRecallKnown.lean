/- The law RecallKnown of chapter 11 answers true at every input. No condition. -/
import Derived.Test.YtdhfhbmfdjnnjaaRows
import Derived.Test.YtdhfhbmfdjnnjaaTbl
import Derived.Test.YtdhfhbmfdjnnjaaAmE
import Derived.Test.YtdhfhbmfdjnnjaaSp0
import Derived.WalkKit
import Derived.ProofKit
import Derived.OpenShut
namespace Go.Proofs.Ytdhfhbmfdjnnjaa.recallKnown
open Go.Am Go.ChangeShapes Go.WideShapes Go.ChangeAt Go.RowKit
set_option linter.unusedVariables false

theorem own : ownKnob Try.prog.godebug = none := by kernel_rfl
theorem laidOut : laidOutB Try.prog = true := by kernel_rfl
theorem pars : Try.f4.params.toList = [] := by kernel_rfl
theorem ress : Try.f4.resultTypes = #[4] := by kernel_rfl
theorem isBool : Try.prog.underlying 4 = some .bool := by kernel_rfl
theorem tys : tysOk Try.prog 8 Try.f4.params.toList = true := by kernel_rfl

set_option maxRecDepth 100000 in
theorem law (qs : List P) (h : Typed Try.prog 8 Try.f4.params.toList qs) : ∃ m, (EL Fns.tree.get).call 98 (qs.map V.p) [] = some (.p (.v (.bool true)), m) := by
  rw [pars] at h
  obtain rfl := Typed.nil _ h
  exact ⟨_, s98⟩

set_option maxRecDepth 100000 in
theorem lifted (os : Os) (started : os.Started) (H : Type) (enc : TypeId × Value → H) :
    ReturnsInHanded {} Try.checked os 4 .any (Rows.recallKnownSpec.pre6 enc Try.prog Try.f4 Rows.recallKnownRow.domain false) (Rows.recallKnownSpec.post enc Try.prog Try.f4 Rows.recallKnownRow.apart Rows.recallKnownRow.fresh Rows.recallKnownRow.handsOn Rows.recallKnownRow.again) := by
  refine returnsInHanded_of_change_sized (C := Try.checked) own started (by kernel_rfl) Try.func4
    (ChangeSpec.witness6 (enc := enc) (C := Try.checked) false ⟨#[], #[], []⟩ 8 (by kernel_rfl) (by kernel_rfl) (by kernel_rfl) (by kernel_rfl)) ?_
  intro W base args ds gs before hval hW _ hsz _
  exact row_contract Fns.nm Try.prog mixed tblOk (id := 98) (f := 4) (by kernel_rfl) (fn := Try.f4) (s := Rows.recallKnownSpec) ress isBool tys laidOut rfl
    (fun ds hds => by
      have hp : Try.f4.params.size = 0 := by kernel_rfl
      rw [hp] at hds
      rcases ds with _ | ⟨d0, r⟩ <;> simp at hds <;> exact ⟨rfl, rfl, rfl⟩) law W base args ds gs before hval hW hsz

theorem over : Rows.recallKnownRow.holds Try.pinned (OpenSpec.ofChange Rows.recallKnownSpec) :=
  OpenClaim.holds_of_wide 4 Try.f4 rfl rfl rfl rfl rfl rfl rfl ⟨rfl, rfl, rfl, rfl, rfl⟩ rfl rfl rfl rfl rfl (by kernel_rfl) Try.func4 (by kernel_rfl)
    (of_decide_eq_true (by kernel_rfl)) (by unfold Func.isWrapper; first | (rw [if_pos (by decide +kernel)]; kernel_rfl) | (rw [if_neg (by decide +kernel)]; exact ⟨rfl, rfl⟩))
    (fun os started H enc _ => lifted os started H enc)

theorem proved : Rows.RecallKnownSaid :=
  over
#print axioms proved
end Go.Proofs.Ytdhfhbmfdjnnjaa.recallKnown
