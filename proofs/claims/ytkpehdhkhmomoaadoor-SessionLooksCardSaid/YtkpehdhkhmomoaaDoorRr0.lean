/- The document's reader: the environment; no statement. -/
import Derived.Test.YtkpehdhkhmomoaaDoorTto
namespace Go.Proofs.YtkpehdhkhmomoaaDoor
open Go Go.Eng
noncomputable def ERt : Env Tryd.prog := E0.addT1 23 [.one .str] (fun d => tupN (numV d.1) (numN d.1)) (fun _ => []) fun d _ => take_number d.1
end Go.Proofs.YtkpehdhkhmomoaaDoor
