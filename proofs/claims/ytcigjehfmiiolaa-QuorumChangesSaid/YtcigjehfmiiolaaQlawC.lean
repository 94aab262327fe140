/- QuorumChanges, its run; no statement. -/
import Derived.Test.YtcigjehfmiiolaaQown
set_option linter.unusedVariables false
namespace Go.Proofs.Ytcigjehfmiiolaa
open Go Go.Eng

theorem changes_law (d : dens [.one (.sl cI), .one cI, .one cI]) (h : WFs [.one (.sl cI), .one cI, .one cI] d) : PureCall Try.prog 6 (encs [.one (.sl cI), .one cI, .one cI] d) (vB true) := by
  obtain ⟨l, a, b, _⟩ := d
  exact EOwn.pure_ok (os := [true, true, true, true, true, true, true, true, true, true, true]) (cs := [(decide (List.take 50 l = List.take 50 l) == true), (decide (List.take 50 l = List.take 50 l) == true), ((chgE (List.take 50 l) a b == chgE (List.take 50 l) a b) == true), ((chgE (List.take 50 l) a b == chgE (List.take 50 l) a b) == true), ((chgE (List.take 50 l) a b == chgE (List.take 50 l) a b) == true), ((chgE (List.take 50 l) a b == chgE (List.take 50 l) a b) == true), ((chgE (List.take 50 l) a b == chgE (List.take 50 l) a b) == true), (decide (chgV (List.take 50 l) a b = chgV (List.take 50 l) a b) == true), (decide (chgV (List.take 50 l) a b = chgV (List.take 50 l) a b) == true), (decide (chgV (List.take 50 l) a b = chgV (List.take 50 l) a b) == true), (decide (chgV (List.take 50 l) a b = chgV (List.take 50 l) a b) == true)]) (by kernel_rfl) (allI (by simp))
end Go.Proofs.Ytcigjehfmiiolaa
