/- The chapter's works; no statement. -/
import Derived.Test.YtjplobgambnhjaaVar
set_option linter.unusedVariables false
namespace Go.Proofs.Ytjplobgambnhjaa
open Go Go.Eng
set_option maxRecDepth 100000 in
theorem works16_pure : PureCall Try.prog 18 [] (vB true) := E0.closedP (by kernel_rfl)
end Go.Proofs.Ytjplobgambnhjaa
