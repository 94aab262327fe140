/- LinearKnown: closed calls, each run by itself; no statement. -/
import Derived.Test.YthdgoefjkfafkaaGreatDoorLds
set_option linter.unusedVariables false
set_option maxRecDepth 1000000
namespace Go.Proofs.YthdgoefjkfafkaaGreatDoor
open Go Go.Eng

theorem co_h3_100 : cameP (ELs.pureRun 13 [h3A, iA 100] []) (.tup [bA true, bA true]) = true := by kernel_rfl
end Go.Proofs.YthdgoefjkfafkaaGreatDoor
