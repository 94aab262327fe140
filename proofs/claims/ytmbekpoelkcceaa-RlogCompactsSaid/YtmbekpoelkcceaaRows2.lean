/- The rows of the api's types; no statement. -/
import Derived.Test.YtmbekpoelkcceaaBase
set_option linter.unusedVariables false
namespace Go.Proofs.Ytmbekpoelkcceaa
open Go Go.Eng

abbrev rOp : CT := .pair cI (.pair .str (.pair .str (.pair .str (.pair .bool (.pair .str .unit)))))
abbrev rWant : CT := .pair .bool (.pair cI (.pair .str (.pair cI (.pair cI .unit))))
abbrev rCmd : CT := .pair cI (.pair cI (.pair cU (.pair cU (.pair rOp (.pair cU (.pair cI (.pair .str (.pair .str (.pair cI (.pair rWant .unit))))))))))
abbrev rEntry : CT := .pair cU (.pair cU (.pair cI (.pair rCmd (.pair (.sl cI) .unit))))
abbrev rBase : CT := .pair cU (.pair cU (.pair (.sl cI) .unit))
abbrev rResult : CT := .pair cI (.pair .bool (.pair .str (.pair .str (.pair cU .unit))))
abbrev rCell : CT := .pair .str (.pair .str (.pair cU (.pair .bool (.pair .str .unit))))
end Go.Proofs.Ytmbekpoelkcceaa
