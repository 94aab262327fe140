/- Cells' loop: what it is made of; no statement. -/
import Derived.Test.YtolhkkoakneflaaGsd
set_option linter.unusedVariables false
set_option linter.unusedSimpArgs false
namespace Go.Proofs.Ytolhkkoakneflaa
open Go Go.Eng

abbrev rPl : CT := .pair .str (.pair .str .unit)
noncomputable def lCl : Code := (theLoop Try.prog 20 5).getD .skip
theorem lCl_eq : theLoop Try.prog 20 5 = some lCl := by kernel_rfl
def msZ : MS := ⟨0, #[], default, 0, default, default, 0, 0, 0, #[], default, 0, default, .skip⟩
noncomputable def msCl : MS := (mapShape lCl).getD msZ
theorem msCl_eq : mapShape lCl = some msCl := by kernel_rfl
abbrev accL (n : Nat) (acc : List rCell.den) : List rCell.den := acc ++ List.replicate (n - acc.length) rCell.dflt
def hpCl (n : Nat) (acc : List rCell.den) (it mp : AB) : List AB := [mp, .cells [.mref 0], .arr rCell (accL n acc), it]
end Go.Proofs.Ytolhkkoakneflaa
