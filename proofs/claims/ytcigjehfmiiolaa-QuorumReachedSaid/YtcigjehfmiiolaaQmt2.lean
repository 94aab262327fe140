/- The whole of the chapter's contracts; no statement. -/
import Derived.Test.YtcigjehfmiiolaaQmt
import Derived.Test.YtcigjehfmiiolaaQbk0
set_option linter.unusedVariables false
namespace Go.Proofs.Ytcigjehfmiiolaa
open Go Go.Eng
noncomputable def EMt2 : Env Try.prog := EMt.addT1 14 [.one cB] (fun d => vL cI (lstM d.1)) (fun d => [byteB d.1]) fun d hc => members_pure d.1 (hc _ (List.mem_singleton.2 rfl))
end Go.Proofs.Ytcigjehfmiiolaa
