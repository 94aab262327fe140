/- What the law's loops call; no statement. -/
import Derived.Test.YtmbekpoelkcceaaReh
import Derived.Test.YtmbekpoelkcceaaRdq
set_option linter.unusedVariables false
set_option linter.unusedSimpArgs false
namespace Go.Proofs.Ytmbekpoelkcceaa
open Go Go.Eng

noncomputable def ELp : Env Try.prog := EPmC EC1
abbrev rPc : CT := .pair .bool (.pair cB (.pair cB .unit))
end Go.Proofs.Ytmbekpoelkcceaa
