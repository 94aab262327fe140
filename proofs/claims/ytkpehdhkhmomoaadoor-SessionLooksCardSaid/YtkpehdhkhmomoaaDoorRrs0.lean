/- The document's DecodeResult: the environment; no statement. -/
import Derived.Test.YtkpehdhkhmomoaaDoorRtk
import Derived.Test.YtkpehdhkhmomoaaDoorDar7
set_option linter.unusedVariables false
namespace Go.Proofs.YtkpehdhkhmomoaaDoor
open Go Go.Eng
noncomputable def ERs : Env Tryd.prog := ERk.addT1 37 [.agg rRes] (fun d => vB (resOk d.1.1 d.1.2.2.1 d.1.2.2.2.1 d.1.2.2.2.2.1)) (fun _ => []) fun d _ => rresult_pure d.1.1 d.1.2.1 d.1.2.2.1 d.1.2.2.2.1 d.1.2.2.2.2.1
end Go.Proofs.YtkpehdhkhmomoaaDoor
