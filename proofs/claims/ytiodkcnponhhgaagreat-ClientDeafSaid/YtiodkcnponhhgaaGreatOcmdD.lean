/- Which commands may be (the document); no statement. -/
import Derived.Test.YtiodkcnponhhgaaGreatOq
import Derived.Test.YtiodkcnponhhgaaGreatOce
set_option linter.unusedVariables false
set_option linter.unusedSimpArgs false
namespace Go.Proofs.YtiodkcnponhhgaaGreat
open Go Go.Eng

end Go.Proofs.YtiodkcnponhhgaaGreat
