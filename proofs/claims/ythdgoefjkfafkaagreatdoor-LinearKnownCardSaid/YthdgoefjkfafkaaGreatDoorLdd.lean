/- LinearKnown: closed calls, each run by itself; no statement. -/
import Derived.Test.YthdgoefjkfafkaaGreatDoorLd0
set_option linter.unusedVariables false
set_option maxRecDepth 1000000
namespace Go.Proofs.YthdgoefjkfafkaaGreatDoor
open Go Go.Eng

theorem co_h7_100 : cameP (ELt.pureRun 13 [h7A, iA 100] []) (.tup [bA false, bA true]) = true := by kernel_rfl
theorem co_ha_100 : cameP (ELt.pureRun 13 [haA, iA 100] []) (.tup [bA true, bA true]) = true := by kernel_rfl
end Go.Proofs.YthdgoefjkfafkaaGreatDoor
