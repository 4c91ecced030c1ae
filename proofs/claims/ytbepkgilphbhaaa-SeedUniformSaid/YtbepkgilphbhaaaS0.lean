/- What some functions of this seat answer. No condition. -/
import Derived.Test.YtbepkgilphbhaaaAmRow
import Derived.Test.YtbepkgilphbhaaaDr
namespace Go.Am
open Go
set_option linter.unusedSimpArgs false
set_option linter.unusedVariables false
set_option maxRecDepth 100000
open Go.Proofs.Ytbepkgilphbhaaa.Fns
abbrev tbl := Go.Proofs.Ytbepkgilphbhaaa.Fns.tree.get
end Go.Am
