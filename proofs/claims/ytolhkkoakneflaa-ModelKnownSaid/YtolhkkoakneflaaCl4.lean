/- Cells in use; no statement. -/
import Derived.Test.YtolhkkoakneflaaCl3
set_option linter.unusedVariables false
set_option linter.unusedSimpArgs false
namespace Go.Proofs.Ytolhkkoakneflaa
open Go Go.Eng

def asM (k v : CT) (l : List (k.den × v.den)) : Option (List (rPl.den × rCell.den)) := if h : k.eqb rPl = true then if h2 : v.eqb rCell = true then some (castL (.pair k v) (.pair rPl rCell) (by simp only [CT.eqb, h, h2]; rfl) l) else none else none
end Go.Proofs.Ytolhkkoakneflaa
