/- The seat's program under the engine; no statement. -/
import Derived.Test.YthdgoefjkfafkaaGreatChecked
import Derived.Test.YthdgoefjkfafkaaGreatEngZ11
import Derived.KernelRfl
set_option linter.unusedVariables false
namespace Go.Proofs.YthdgoefjkfafkaaGreat
open Go Go.Eng

theorem mixed : Tryz.prog.follows .mixedOrders = true := by kernel_rfl
noncomputable def E0 : Env Tryz.prog := Env.base mixed
end Go.Proofs.YthdgoefjkfafkaaGreat
