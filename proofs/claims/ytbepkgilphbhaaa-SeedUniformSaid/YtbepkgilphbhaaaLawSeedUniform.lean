/- The law SeedUniform of chapter 33 answers true at every input. No condition. -/
import Derived.Test.YtbepkgilphbhaaaRows
import Derived.Test.YtbepkgilphbhaaaTbl
import Derived.Test.YtbepkgilphbhaaaAmRow
import Derived.Test.YtbepkgilphbhaaaS33k
import Derived.WalkKit
import Derived.ProofKit
import Derived.OpenShut
namespace Go.Proofs.Ytbepkgilphbhaaa.seedUniform
open Go.Am Go.ChangeShapes Go.WideShapes Go.ChangeAt Go.RowKit
set_option linter.unusedVariables false

theorem own : ownKnob Try.prog.godebug = none := by kernel_rfl
theorem laidOut : laidOutB Try.prog = true := by kernel_rfl
theorem pars : Try.f6.params.toList = [35] := by kernel_rfl
theorem ress : Try.f6.resultTypes = #[4] := by kernel_rfl
theorem isBool : Try.prog.underlying 4 = some .bool := by kernel_rfl
theorem tys : tysOk Try.prog 8 Try.f6.params.toList = true := by kernel_rfl
theorem u3 : Try.prog.underlying 3 = some (.int .i64) := by kernel_rfl
theorem u35 : Try.prog.underlying 35 = some (.slice 3) := by kernel_rfl
theorem n3 : nOf Try.prog 3 = 0 := by kernel_rfl
theorem n35 : nOf Try.prog 35 = 0 := by kernel_rfl

set_option maxRecDepth 100000 in
theorem law (qs : List P) (h : Typed Try.prog 8 Try.f6.params.toList qs) : ∃ m, (EL Fns.tree.get).call 6 (qs.map V.p) [] = some (.p (.v (.bool true)), m) := by
  rw [pars] at h
  obtain ⟨q0, r0, rfl, ⟨h0, a0⟩, h⟩ := Typed.get _ h rfl
  obtain rfl := Typed.nil _ h
  obtain ⟨L, rfl, hl, _⟩ := arg_ints _ u35 u3 h0 a0
  exact ⟨_, s6 L hl⟩

set_option maxRecDepth 100000 in
theorem lifted (os : Os) (started : os.Started) (H : Type) (enc : TypeId × Value → H) :
    ReturnsInHanded {} Try.checked os 6 .any (Rows.seedUniformSpec.pre6 enc Try.prog Try.f6 Rows.seedUniformRow.domain false) (Rows.seedUniformSpec.post enc Try.prog Try.f6 Rows.seedUniformRow.apart Rows.seedUniformRow.fresh Rows.seedUniformRow.handsOn Rows.seedUniformRow.again) := by
  refine returnsInHanded_of_change (C := Try.checked) own started (by kernel_rfl) Try.func6
    (ChangeSpec.witness6 (enc := enc) (C := Try.checked) false ⟨#[], #[.slice none 0 0], []⟩ 8 (by kernel_rfl) (by kernel_rfl) (by kernel_rfl) (by kernel_rfl)) ?_
  intro W base args ds gs before hval hW _ _
  exact row_contract Fns.nm Try.prog mixed tblOk (id := 6) (f := 6) (by kernel_rfl) (fn := Try.f6) (s := Rows.seedUniformSpec) ress isBool tys laidOut rfl
    (fun ds hds => by
      have hp : Try.f6.params.size = 1 := by kernel_rfl
      rw [hp] at hds
      rcases ds with _ | ⟨d0, _ | ⟨d1, r⟩⟩ <;> simp at hds <;> exact ⟨rfl, rfl, rfl⟩) law W base args ds gs before hval hW

theorem over : Rows.seedUniformRow.holds Try.pinned (OpenSpec.ofChange Rows.seedUniformSpec) :=
  OpenClaim.holds_of_wide 6 Try.f6 rfl rfl rfl rfl rfl rfl rfl ⟨rfl, rfl, rfl, rfl, rfl⟩ rfl rfl rfl rfl rfl (by kernel_rfl) Try.func6 (by kernel_rfl)
    (of_decide_eq_true (by kernel_rfl)) (by unfold Func.isWrapper; first | (rw [if_pos (by decide +kernel)]; kernel_rfl) | (rw [if_neg (by decide +kernel)]; exact ⟨rfl, rfl⟩))
    (fun os started H enc _ => lifted os started H enc)

theorem proved : Rows.SeedUniformSaid :=
  over
#print axioms proved
end Go.Proofs.Ytbepkgilphbhaaa.seedUniform
