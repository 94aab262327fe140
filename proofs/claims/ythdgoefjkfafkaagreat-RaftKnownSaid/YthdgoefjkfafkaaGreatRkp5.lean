/- Closed calls of RaftKnown, each run by itself; no statement. -/
import Derived.Test.YthdgoefjkfafkaaGreatRkd
set_option linter.unusedVariables false
set_option maxRecDepth 100000
namespace Go.Proofs.YthdgoefjkfafkaaGreat
open Go Go.Eng

theorem cc7_ok : CC.holds Tryz.prog 12 cc7 := Er.closedJ (by kernel_rfl)
theorem cc9_ok : CC.holds Tryz.prog 13 cc9 := Er.closedJ (by kernel_rfl)
theorem cc10_ok : CC.holds Tryz.prog 13 cc10 := Er.closedJ (by kernel_rfl)
theorem cc15_ok : CC.holds Tryz.prog 4 cc15 := Er.closedJ (by kernel_rfl)
theorem cc20_ok : CC.holds Tryz.prog 4 cc20 := Er.closedJ (by kernel_rfl)
theorem cc35_ok : CC.holds Tryz.prog 12 cc35 := Er.closedJ (by kernel_rfl)
theorem cc37_ok : CC.holds Tryz.prog 9 cc37 := Er.closedJ (by kernel_rfl)
theorem cc44_ok : CC.holds Tryz.prog 10 cc44 := Er.closedJ (by kernel_rfl)
end Go.Proofs.YthdgoefjkfafkaaGreat
