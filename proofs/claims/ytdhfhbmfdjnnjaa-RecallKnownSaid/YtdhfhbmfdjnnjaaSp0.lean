/- What some functions of this seat answer, part 0. No condition. -/
import Derived.Test.YtdhfhbmfdjnnjaaAmE
import Derived.Test.YtdhfhbmfdjnnjaaDr
namespace Go.Am
open Go
set_option linter.unusedSimpArgs false
set_option linter.unusedVariables false
set_option maxRecDepth 100000
open Go.Proofs.Ytdhfhbmfdjnnjaa.Fns
abbrev tbl := Go.Proofs.Ytdhfhbmfdjnnjaa.Fns.tree.get
end Go.Am

namespace Go.Am
open Go
set_option linter.unusedSimpArgs false
set_option linter.unusedVariables false
set_option maxRecDepth 100000
open Go.Proofs.Ytdhfhbmfdjnnjaa.Fns

/-- An answer that is true, with nothing left behind. -/
def isT : Option (V × List Blk) → Bool
  | some (.p (.v (.bool true)), []) => true
  | _ => false
theorem isT_of {r : Option (V × List Blk)} (h : isT r = true) : r = some (Vb true, []) := by
  unfold isT at h
  split at h
  · rfl
  · cases h

theorem s98 : (EL tbl).call 98 [] [] = some (Vb true, []) := call_of_run tbl (isT_of (show isT ((evalN tbl 30).call 98 [] []) = true by decide +kernel))
end Go.Am
