/- Copy of a promised model: its contract; no statement. -/
import Derived.Test.YthdgoefjkfafkaaGreatDoorLjn
import Derived.Test.YthdgoefjkfafkaaGreatDoorEngZ24
set_option linter.unusedVariables false
set_option linter.unusedSimpArgs false
namespace Go.Proofs.YthdgoefjkfafkaaGreatDoor
open Go Go.Eng

abbrev rPl : CT := .pair .str (.pair .str .unit)
abbrev MapT : Type := List (rPl.den × rCell.den)
noncomputable def okp (p : Prop) : Bool := @decide p (Classical.propDecidable p)
theorem of_okp {p : Prop} (h : okp p = true) : p := @of_decide_eq_true p (Classical.propDecidable p) h
theorem okp_of {p : Prop} (h : p) : okp p = true := @decide_eq_true p (Classical.propDecidable p) h
def msZ : MS := ⟨0, #[], default, 0, default, default, 0, 0, 0, #[], default, 0, default, .skip⟩
noncomputable def lCp : Code := (theLoop Tryz.prog 28 5).getD .skip
theorem lCp_eq : theLoop Tryz.prog 28 5 = some lCp := by kernel_rfl
noncomputable def msCp : MS := (mapShape lCp).getD msZ
theorem msCp_eq : mapShape lCp = some msCp := by kernel_rfl
def hpCp (oc : Obj) (t : MapT) (it mp : AB) : List AB := [mp, .roc [.mref 0] oc, .mp rPl rCell true true t, .cells [.mref 2], it]
abbrev rvCp : List AV := [.one (.ptr 4 0), .one (.ptr 3 0)]
end Go.Proofs.YthdgoefjkfafkaaGreatDoor
