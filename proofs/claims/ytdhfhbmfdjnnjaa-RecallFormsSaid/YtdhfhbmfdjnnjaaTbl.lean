/- Each function of the table is the one of the program that bears its number. No condition. -/
import Derived.Test.YtdhfhbmfdjnnjaaFns
import Derived.Test.YtdhfhbmfdjnnjaaRows
namespace Go.Proofs.Ytdhfhbmfdjnnjaa
open Go Go.Am
theorem allMatch : Fns.tree.all (fnMatches Fns.nm Try.prog) = true := by kernel_rfl
theorem tblOk : TblOk Fns.nm Try.prog Fns.tree.get := tblOk_of Fns.nm Try.prog allMatch
theorem mixed : Try.prog.follows .mixedOrders = true := by kernel_rfl
end Go.Proofs.Ytdhfhbmfdjnnjaa
