/- Closed calls of RaftKnown, each run by itself; no statement. -/
import Derived.Test.YthdgoefjkfafkaaGreatRkd
set_option linter.unusedVariables false
set_option maxRecDepth 100000
namespace Go.Proofs.YthdgoefjkfafkaaGreat
open Go Go.Eng

theorem cc6_ok : CC.holds Tryz.prog 10 cc6 := Er.closedJ (by kernel_rfl)
theorem cc11_ok : CC.holds Tryz.prog 15 cc11 := Er.closedJ (by kernel_rfl)
theorem cc17_ok : CC.holds Tryz.prog 4 cc17 := Er.closedJ (by kernel_rfl)
theorem cc19_ok : CC.holds Tryz.prog 4 cc19 := Er.closedJ (by kernel_rfl)
theorem cc27_ok : CC.holds Tryz.prog 9 cc27 := Er.closedJ (by kernel_rfl)
theorem cc40_ok : CC.holds Tryz.prog 9 cc40 := Er.closedJ (by kernel_rfl)
theorem cc43_ok : CC.holds Tryz.prog 10 cc43 := Er.closedJ (by kernel_rfl)
end Go.Proofs.YthdgoefjkfafkaaGreat
