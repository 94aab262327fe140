/- The seat's program under the engine; no statement. -/
import Derived.Test.YtkpehdhkhmomoaaDoorChecked
import Derived.Test.YtkpehdhkhmomoaaDoorEngZ11
import Derived.KernelRfl
set_option linter.unusedVariables false
namespace Go.Proofs.YtkpehdhkhmomoaaDoor
open Go Go.Eng

theorem mixed : Tryd.prog.follows .mixedOrders = true := by kernel_rfl
noncomputable def E0 : Env Tryd.prog := Env.base mixed
end Go.Proofs.YtkpehdhkhmomoaaDoor
