/- An operation by small numbers; no statement. -/
import Derived.Test.YtolhkkoakneflaaMh
set_option linter.unusedVariables false
set_option linter.unusedSimpArgs false
namespace Go.Proofs.Ytolhkkoakneflaa
open Go Go.Eng

end Go.Proofs.Ytolhkkoakneflaa
