/- A majority's number; no statement. -/
import Derived.Test.YtcigjehfmiiolaaQmt2
set_option linter.unusedVariables false
namespace Go.Proofs.Ytcigjehfmiiolaa
open Go Go.Eng

theorem most_eq {l : List Int} (h : l.length ≤ 5) : mostI l = ((l.length / 2 + 1 : Nat) : Int) := by
  unfold mostI
  have e : ((l.length : Nat) : Int).tdiv 2 = ((l.length / 2 : Nat) : Int) := by rw [Int.tdiv_eq_ediv_of_nonneg (by omega)]; omega
  rw [e, wrap64 (n := ((l.length / 2 : Nat) : Int)) (by omega) (by omega), wrap64 (by omega) (by omega)]; rfl
end Go.Proofs.Ytcigjehfmiiolaa
