/- Which commands may be (the document); no statement. -/
import Derived.Test.YtjplobgambnhjaaRl
import Derived.Test.YtjplobgambnhjaaOce
set_option linter.unusedVariables false
set_option linter.unusedSimpArgs false
namespace Go.Proofs.Ytjplobgambnhjaa
open Go Go.Eng

end Go.Proofs.Ytjplobgambnhjaa
