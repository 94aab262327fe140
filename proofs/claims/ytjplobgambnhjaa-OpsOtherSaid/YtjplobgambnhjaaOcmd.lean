/- Which commands may be: the program and the document alike; no statement. -/
import Derived.Test.YtjplobgambnhjaaOcmdC
import Derived.Test.YtjplobgambnhjaaOcmdD
set_option linter.unusedVariables false
set_option linter.unusedSimpArgs false
namespace Go.Proofs.Ytjplobgambnhjaa
open Go Go.Eng

theorem baRefl' (a : ByteArray) : (a == a) = true := by
  cases a with | mk d => exact beq_self_eq_true d
end Go.Proofs.Ytjplobgambnhjaa
