/- The chapter's works; no statement. -/
import Derived.Test.YtjplobgambnhjaaGreatVar
set_option linter.unusedVariables false
namespace Go.Proofs.YtjplobgambnhjaaGreat
open Go Go.Eng
set_option maxRecDepth 100000 in
theorem works16_pure : PureCall Tryz.prog 12 [] (vB true) := E0.closedP (by kernel_rfl)
end Go.Proofs.YtjplobgambnhjaaGreat
