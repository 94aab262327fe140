/- Closed calls of RaftKnown, each run by itself; no statement. -/
import Derived.Test.YthdgoefjkfafkaaGreatRkd
set_option linter.unusedVariables false
set_option maxRecDepth 100000
namespace Go.Proofs.YthdgoefjkfafkaaGreat
open Go Go.Eng

theorem cc2_ok : CC.holds Tryz.prog 9 cc2 := Er.closedJ (by kernel_rfl)
theorem cc14_ok : CC.holds Tryz.prog 12 cc14 := Er.closedJ (by kernel_rfl)
theorem cc18_ok : CC.holds Tryz.prog 4 cc18 := Er.closedJ (by kernel_rfl)
theorem cc22_ok : CC.holds Tryz.prog 4 cc22 := Er.closedJ (by kernel_rfl)
theorem cc23_ok : CC.holds Tryz.prog 10 cc23 := Er.closedJ (by kernel_rfl)
theorem cc25_ok : CC.holds Tryz.prog 9 cc25 := Er.closedJ (by kernel_rfl)
theorem cc30_ok : CC.holds Tryz.prog 10 cc30 := Er.closedJ (by kernel_rfl)
theorem cc31_ok : CC.holds Tryz.prog 13 cc31 := Er.closedJ (by kernel_rfl)
end Go.Proofs.YthdgoefjkfafkaaGreat
