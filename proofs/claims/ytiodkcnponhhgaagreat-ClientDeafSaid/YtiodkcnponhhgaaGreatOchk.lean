/- Which operations may be: the program and the document alike; no statement. -/
import Derived.Test.YtiodkcnponhhgaaGreatOchkA
import Derived.Test.YtiodkcnponhhgaaGreatOchkB
set_option linter.unusedVariables false
set_option linter.unusedSimpArgs false
namespace Go.Proofs.YtiodkcnponhhgaaGreat
open Go Go.Eng

end Go.Proofs.YtiodkcnponhhgaaGreat
