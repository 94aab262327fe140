/- Closed calls of RaftKnown, each run by itself; no statement. -/
import Derived.Test.YthdgoefjkfafkaaGreatRkd
set_option linter.unusedVariables false
set_option maxRecDepth 100000
namespace Go.Proofs.YthdgoefjkfafkaaGreat
open Go Go.Eng

theorem cc0_ok : CC.holds Tryz.prog 4 cc0 := Er.closedJ (by kernel_rfl)
theorem cc3_ok : CC.holds Tryz.prog 9 cc3 := Er.closedJ (by kernel_rfl)
theorem cc5_ok : CC.holds Tryz.prog 10 cc5 := Er.closedJ (by kernel_rfl)
theorem cc21_ok : CC.holds Tryz.prog 4 cc21 := Er.closedJ (by kernel_rfl)
theorem cc26_ok : CC.holds Tryz.prog 9 cc26 := Er.closedJ (by kernel_rfl)
theorem cc29_ok : CC.holds Tryz.prog 10 cc29 := Er.closedJ (by kernel_rfl)
theorem cc39_ok : CC.holds Tryz.prog 9 cc39 := Er.closedJ (by kernel_rfl)
theorem cc42_ok : CC.holds Tryz.prog 9 cc42 := Er.closedJ (by kernel_rfl)
end Go.Proofs.YthdgoefjkfafkaaGreat
