/- DecodeEntry's environment; no statement. -/
import Derived.Test.YtjplobgambnhjaaDln
import Derived.Test.YtjplobgambnhjaaOen
set_option linter.unusedVariables false
namespace Go.Proofs.Ytjplobgambnhjaa
open Go Go.Eng
noncomputable def EDm (k : Int) : Env Try.prog := (EDn k).addT1 22 [.agg rEntry] (fun d => vI (entV d.1)) (fun _ => []) fun d _ => ent_pure d.1
end Go.Proofs.Ytjplobgambnhjaa
