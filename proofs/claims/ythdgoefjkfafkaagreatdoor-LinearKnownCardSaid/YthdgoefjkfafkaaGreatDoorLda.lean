/- LinearKnown: closed calls, each run by itself; no statement. -/
import Derived.Test.YthdgoefjkfafkaaGreatDoorLd0
set_option linter.unusedVariables false
set_option maxRecDepth 1000000
namespace Go.Proofs.YthdgoefjkfafkaaGreatDoor
open Go Go.Eng

theorem co_h1_100 : cameP (ELt.pureRun 13 [h1A, iA 100] []) (.tup [bA true, bA true]) = true := by kernel_rfl
theorem co_h2_100 : cameP (ELt.pureRun 13 [h2A, iA 100] []) (.tup [bA true, bA true]) = true := by kernel_rfl
end Go.Proofs.YthdgoefjkfafkaaGreatDoor
