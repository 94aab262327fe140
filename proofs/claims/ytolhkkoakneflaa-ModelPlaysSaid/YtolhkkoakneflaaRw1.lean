/- ModelRows: an operation's cells are there once each, and the environment of its run; no statement. -/
import Derived.Test.YtolhkkoakneflaaRw0
import Derived.Test.YtolhkkoakneflaaEngZ15
set_option linter.unusedVariables false
set_option linter.unusedSimpArgs false
namespace Go.Proofs.Ytolhkkoakneflaa
open Go Go.Eng

def selM (args : List AV) (hp : List AB) : List Nat := (selAll args hp).reverse
structure CelOk (M : MapT) : Prop where
  len : M.length ≤ 1099511627776
  pl : PlacesIn (valsM M)
end Go.Proofs.Ytolhkkoakneflaa
