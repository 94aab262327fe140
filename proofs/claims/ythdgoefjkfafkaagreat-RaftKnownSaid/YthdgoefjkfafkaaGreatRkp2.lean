/- Closed calls of RaftKnown, each run by itself; no statement. -/
import Derived.Test.YthdgoefjkfafkaaGreatRkd
set_option linter.unusedVariables false
set_option maxRecDepth 100000
namespace Go.Proofs.YthdgoefjkfafkaaGreat
open Go Go.Eng

theorem cc1_ok : CC.holds Tryz.prog 9 cc1 := Er.closedJ (by kernel_rfl)
theorem cc4_ok : CC.holds Tryz.prog 9 cc4 := Er.closedJ (by kernel_rfl)
theorem cc12_ok : CC.holds Tryz.prog 15 cc12 := Er.closedJ (by kernel_rfl)
theorem cc16_ok : CC.holds Tryz.prog 4 cc16 := Er.closedJ (by kernel_rfl)
theorem cc28_ok : CC.holds Tryz.prog 10 cc28 := Er.closedJ (by kernel_rfl)
theorem cc32_ok : CC.holds Tryz.prog 10 cc32 := Er.closedJ (by kernel_rfl)
theorem cc38_ok : CC.holds Tryz.prog 4 cc38 := Er.closedJ (by kernel_rfl)
end Go.Proofs.YthdgoefjkfafkaaGreat
