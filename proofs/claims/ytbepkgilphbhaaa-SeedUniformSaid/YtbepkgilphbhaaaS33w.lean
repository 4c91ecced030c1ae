/- What some functions of this seat answer. No condition. -/
import Derived.Test.YtbepkgilphbhaaaAmRun2
import Derived.Test.YtbepkgilphbhaaaDr
import Derived.KernelRfl
namespace Go.Am
open Go
set_option maxRecDepth 100000
open Go.Proofs.Ytbepkgilphbhaaa.Fns
abbrev tblW := Go.Proofs.Ytbepkgilphbhaaa.Fns.tree.get
theorem awake33 : (EL tblW).call 11 [] [] = some (.p (.v (.bool true)), []) := call_of_run tblW (n := 100000) (by kernel_rfl)
end Go.Am
