/- LinearKnown: closed calls, each run by itself; no statement. -/
import Derived.Test.YthdgoefjkfafkaaGreatDoorLd0
set_option linter.unusedVariables false
set_option maxRecDepth 1000000
namespace Go.Proofs.YthdgoefjkfafkaaGreatDoor
open Go Go.Eng

theorem co_h1_1 : cameP (ELt.pureRun 13 [h1A, iA 1] []) (.tup [bA false, bA false]) = true := by kernel_rfl
theorem co_h1_2 : cameP (ELt.pureRun 13 [h1A, iA 2] []) (.tup [bA false, bA false]) = true := by kernel_rfl
theorem co_h1_3 : cameP (ELt.pureRun 13 [h1A, iA 3] []) (.tup [bA false, bA false]) = true := by kernel_rfl
theorem co_h1_4 : cameP (ELt.pureRun 13 [h1A, iA 4] []) (.tup [bA false, bA false]) = true := by kernel_rfl
end Go.Proofs.YthdgoefjkfafkaaGreatDoor
