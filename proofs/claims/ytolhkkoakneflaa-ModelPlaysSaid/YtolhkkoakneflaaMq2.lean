/- The chapter's pure contracts, with May; no statement. -/
import Derived.Test.YtolhkkoakneflaaMp
import Derived.Test.YtolhkkoakneflaaMm
set_option linter.unusedVariables false
namespace Go.Proofs.Ytolhkkoakneflaa
open Go Go.Eng
noncomputable def EMq : Env Try.prog := EMp.addT1 26 [.agg rOp] (fun d => vB (chkV d.1 == 0)) (fun _ => []) fun d _ => by rw [chk_same]; exact may_pure d.1
end Go.Proofs.Ytolhkkoakneflaa
