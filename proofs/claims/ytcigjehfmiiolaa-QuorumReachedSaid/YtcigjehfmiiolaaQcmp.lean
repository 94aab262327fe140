/- Commit's compare; no statement. -/
import Derived.Test.YtcigjehfmiiolaaQmt2
set_option linter.unusedVariables false
namespace Go.Proofs.Ytcigjehfmiiolaa
open Go Go.Eng
def cmpI (a b : Int) : Int := bif decide (a > b) then -1 else bif decide (a < b) then 1 else 0
theorem cmp_pure (a b : Int) : PureCall Try.prog 29 [vU a, vU b] (vI (cmpI a b)) := by
  unfold cmpI
  cases h : decide (a > b) with
  | true => exact E0.pure_ok (os := [true]) (cs := [decide (a > b) == true]) (by kernel_rfl) (allI (by rw [h]; rfl))
  | false =>
    cases h2 : decide (a < b) with
    | true => exact E0.pure_ok (os := [false, true]) (cs := [decide (a < b) == true, decide (a > b) == false]) (by kernel_rfl) (allI (by rw [h, h2]; rfl))
    | false => exact E0.pure_ok (os := [false, false]) (cs := [decide (a < b) == false, decide (a > b) == false]) (by kernel_rfl) (allI (by rw [h, h2]; rfl))
noncomputable def ECmp : Env Try.prog := EMt2.addT1 29 [.one cU, .one cU] (fun d => vI (cmpI d.1 d.2.1)) (fun _ => []) fun d _ => cmp_pure d.1 d.2.1
end Go.Proofs.Ytcigjehfmiiolaa
