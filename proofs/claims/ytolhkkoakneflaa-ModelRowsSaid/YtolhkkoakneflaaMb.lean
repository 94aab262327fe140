/- Words of the chapter; no statement. -/
import Derived.Test.YtolhkkoakneflaaBase
set_option linter.unusedVariables false
namespace Go.Proofs.Ytolhkkoakneflaa
open Go Go.Eng

theorem allI {cs : List Bool} (h : (cs.all fun c => c) = true) : ∀ c ∈ cs, c = true := fun c hc => List.all_eq_true.1 h c hc
abbrev rOp : CT := .pair cI (.pair .str (.pair .str (.pair .str (.pair .bool (.pair .str .unit)))))
abbrev rCell : CT := .pair .str (.pair .str (.pair cU (.pair .bool (.pair .str .unit))))
abbrev rRes : CT := .pair cI (.pair .bool (.pair .str (.pair .str (.pair cU .unit))))
theorem works_pure : PureCall Try.prog 15 [] (vB true) := E0.closedP (by kernel_rfl)
noncomputable def ESl : Env Try.prog := E0
end Go.Proofs.Ytolhkkoakneflaa
