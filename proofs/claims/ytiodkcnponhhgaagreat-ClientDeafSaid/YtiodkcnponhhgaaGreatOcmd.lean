/- Which commands may be: the program and the document alike; no statement. -/
import Derived.Test.YtiodkcnponhhgaaGreatOcmdC
import Derived.Test.YtiodkcnponhhgaaGreatOcmdD
set_option linter.unusedVariables false
set_option linter.unusedSimpArgs false
namespace Go.Proofs.YtiodkcnponhhgaaGreat
open Go Go.Eng

end Go.Proofs.YtiodkcnponhhgaaGreat
