/- Entries as bytes: the environment; no statement. -/
import Derived.Test.YtjplobgambnhjaaEcm
import Derived.Test.YtjplobgambnhjaaOen
set_option linter.unusedVariables false
namespace Go.Proofs.Ytjplobgambnhjaa
open Go Go.Eng

noncomputable def EEe : Env Try.prog := ECm.addT1 22 [.agg rEntry] (fun d => vI (entV d.1)) (fun _ => []) fun d _ => ent_pure d.1
end Go.Proofs.Ytjplobgambnhjaa
