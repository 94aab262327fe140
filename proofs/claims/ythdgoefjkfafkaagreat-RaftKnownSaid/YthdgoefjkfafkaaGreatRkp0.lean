/- Closed calls of RaftKnown, each run by itself; no statement. -/
import Derived.Test.YthdgoefjkfafkaaGreatRkd
set_option linter.unusedVariables false
set_option maxRecDepth 100000
namespace Go.Proofs.YthdgoefjkfafkaaGreat
open Go Go.Eng

theorem cc8_ok : CC.holds Tryz.prog 13 cc8 := Er.closedJ (by kernel_rfl)
theorem cc13_ok : CC.holds Tryz.prog 10 cc13 := Er.closedJ (by kernel_rfl)
theorem cc24_ok : CC.holds Tryz.prog 9 cc24 := Er.closedJ (by kernel_rfl)
theorem cc33_ok : CC.holds Tryz.prog 10 cc33 := Er.closedJ (by kernel_rfl)
theorem cc34_ok : CC.holds Tryz.prog 10 cc34 := Er.closedJ (by kernel_rfl)
theorem cc36_ok : CC.holds Tryz.prog 15 cc36 := Er.closedJ (by kernel_rfl)
theorem cc41_ok : CC.holds Tryz.prog 9 cc41 := Er.closedJ (by kernel_rfl)
end Go.Proofs.YthdgoefjkfafkaaGreat
