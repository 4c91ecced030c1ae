/- Each function of the table is the one of the program that bears its number. No condition. -/
import Derived.Test.YtdhfhbmfdjnnjaaFns
import Derived.Test.YtdhfhbmfdjnnjaaRows
namespace Go.Proofs.Ytdhfhbmfdjnnjaa
open Go Go.Am
set_option maxRecDepth 100000
theorem allMatch : Fns.tree.all (fnMatches Fns.nm Try.prog) = true := by kernel_rfl
theorem catOk : CatOk Fns.nm Try.prog := fun _ _ _ h => by cases h
theorem notIf (t : Nat) (h : (match Try.prog.underlying t with | some (.interface _) => false | some _ => true | none => false) = true) : ∃ T, Try.prog.underlying t = some T ∧ (match T with | .interface _ => false | _ => true) = true := by
  cases hu : Try.prog.underlying t with
  | none => rw [hu] at h; cases h
  | some T => rw [hu] at h; exact ⟨T, rfl, by cases T <;> first | rfl | cases h⟩

theorem lenT4 {α : Type} {l : List α} (h : l.length = 4) : ∃ a0 a1 a2 a3, l = [a0, a1, a2, a3] := by
  match l, h with
  | [a0, a1, a2, a3], _ => exact ⟨a0, a1, a2, a3, rfl⟩

theorem spec3000000466 : SpecOk Fns.nm Try.prog (3000000466, Fns.fn3000000466) := by
  refine .inl ⟨0, 3, 4, rfl, by decide, fun vs args w hl => ?_⟩
  obtain ⟨a0, a1, a2, a3, rfl⟩ := lenT4 hl
  show (invoke (.fn (.methodOf 85 "parlour/recall.sets") #[]) _).run _ _ = _
  obtain ⟨T, hu, hT⟩ := notIf 85 (by kernel_rfl)
  rw [invoke_methodOf Try.prog hT hu]
  kernel_rfl
theorem specials : ∀ p ∈ Fns.tree.special, SpecOk Fns.nm Try.prog p := by
  rw [show Fns.tree.special = [(3000000466, Fns.fn3000000466)] from by kernel_rfl]
  intro p h
  simp only [List.mem_cons, List.not_mem_nil, or_false] at h
  rcases h with rfl
  · exact spec3000000466
theorem tblOk : TblOk Fns.nm Try.prog Fns.tree.get := tblOk_of Fns.nm Try.prog catOk specials allMatch
theorem mixed : Try.prog.follows .mixedOrders = true := by kernel_rfl
end Go.Proofs.Ytdhfhbmfdjnnjaa
