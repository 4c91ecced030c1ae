/- The law SeedPerms of chapter 33 answers true at every input. No condition. -/
import Derived.Test.YtbepkgilphbhaaaRows
import Derived.Test.YtbepkgilphbhaaaTbl
import Derived.Test.YtbepkgilphbhaaaAmRow
import Derived.Test.YtbepkgilphbhaaaS33h
import Derived.WalkKit
import Derived.ProofKit
import Derived.OpenShut
namespace Go.Proofs.Ytbepkgilphbhaaa.seedPerms
open Go.Am Go.ChangeShapes Go.WideShapes Go.ChangeAt Go.RowKit
set_option linter.unusedVariables false

theorem own : ownKnob Try.prog.godebug = none := by kernel_rfl
theorem laidOut : laidOutB Try.prog = true := by kernel_rfl
theorem pars : Try.f7.params.toList = [3, 3, 35] := by kernel_rfl
theorem ress : Try.f7.resultTypes = #[4] := by kernel_rfl
theorem isBool : Try.prog.underlying 4 = some .bool := by kernel_rfl
theorem tys : tysOk Try.prog 8 Try.f7.params.toList = true := by kernel_rfl
theorem u3 : Try.prog.underlying 3 = some (.int .i64) := by kernel_rfl
theorem u35 : Try.prog.underlying 35 = some (.slice 3) := by kernel_rfl
theorem n3 : nOf Try.prog 3 = 0 := by kernel_rfl
theorem n35 : nOf Try.prog 35 = 0 := by kernel_rfl

set_option maxRecDepth 100000 in
theorem law (qs : List P) (h : Typed Try.prog 8 Try.f7.params.toList qs) : ∃ m, (EL Fns.tree.get).call 7 (qs.map V.p) [] = some (.p (.v (.bool true)), m) := by
  rw [pars] at h
  obtain ⟨q0, r0, rfl, ⟨h0, a0⟩, h⟩ := Typed.get _ h rfl
  obtain ⟨q1, r1, rfl, ⟨h1, a1⟩, h⟩ := Typed.get _ h rfl
  obtain ⟨q2, r2, rfl, ⟨h2, a2⟩, h⟩ := Typed.get _ h rfl
  obtain rfl := Typed.nil _ h
  obtain ⟨n, rfl, _⟩ := arg_int _ u3 h0 a0
  obtain ⟨s, rfl, ws⟩ := arg_int _ u3 h1 a1
  obtain ⟨o, rfl, _, _⟩ := arg_ints _ u35 u3 h2 a2
  exact ⟨_, s7 n s o (wf64 ws).2⟩

set_option maxRecDepth 100000 in
theorem lifted (os : Os) (started : os.Started) (H : Type) (enc : TypeId × Value → H) :
    ReturnsInHanded {} Try.checked os 7 .any (Rows.seedPermsSpec.pre6 enc Try.prog Try.f7 Rows.seedPermsRow.domain false) (Rows.seedPermsSpec.post enc Try.prog Try.f7 Rows.seedPermsRow.apart Rows.seedPermsRow.fresh Rows.seedPermsRow.handsOn Rows.seedPermsRow.again) := by
  refine returnsInHanded_of_change (C := Try.checked) own started (by kernel_rfl) Try.func7
    (ChangeSpec.witness6 (enc := enc) (C := Try.checked) false ⟨#[], #[.int .i64 0, .int .i64 0, .slice none 0 0], []⟩ 8 (by kernel_rfl) (by kernel_rfl) (by kernel_rfl) (by kernel_rfl)) ?_
  intro W base args ds gs before hval hW _ _
  exact row_contract Fns.nm Try.prog mixed tblOk (id := 7) (f := 7) (by kernel_rfl) (fn := Try.f7) (s := Rows.seedPermsSpec) ress isBool tys laidOut rfl
    (fun ds hds => by
      have hp : Try.f7.params.size = 3 := by kernel_rfl
      rw [hp] at hds
      rcases ds with _ | ⟨d0, _ | ⟨d1, _ | ⟨d2, _ | ⟨d3, r⟩⟩⟩⟩ <;> simp at hds <;> exact ⟨rfl, rfl, rfl⟩) law W base args ds gs before hval hW

theorem over : Rows.seedPermsRow.holds Try.pinned (OpenSpec.ofChange Rows.seedPermsSpec) :=
  OpenClaim.holds_of_wide 7 Try.f7 rfl rfl rfl rfl rfl rfl rfl ⟨rfl, rfl, rfl, rfl, rfl⟩ rfl rfl rfl rfl rfl (by kernel_rfl) Try.func7 (by kernel_rfl)
    (of_decide_eq_true (by kernel_rfl)) (by unfold Func.isWrapper; first | (rw [if_pos (by decide +kernel)]; kernel_rfl) | (rw [if_neg (by decide +kernel)]; exact ⟨rfl, rfl⟩))
    (fun os started H enc _ => lifted os started H enc)

theorem proved : Rows.SeedPermsSaid :=
  over
#print axioms proved
end Go.Proofs.Ytbepkgilphbhaaa.seedPerms
