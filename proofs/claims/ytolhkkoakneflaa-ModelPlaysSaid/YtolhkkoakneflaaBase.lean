/- The seat's program under the engine; no statement. -/
import Derived.Test.YtolhkkoakneflaaChecked
import Derived.Test.YtolhkkoakneflaaEngZ11
import Derived.KernelRfl
set_option linter.unusedVariables false
namespace Go.Proofs.Ytolhkkoakneflaa
open Go Go.Eng

theorem mixed : Try.prog.follows .mixedOrders = true := by kernel_rfl
noncomputable def E0 : Env Try.prog := Env.base mixed
end Go.Proofs.Ytolhkkoakneflaa
