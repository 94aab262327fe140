/- The document's Meet and Check: their contracts; no statement. -/
import Derived.Test.YtcigjehfmiiolaaQro
set_option linter.unusedVariables false
namespace Go.Proofs.Ytcigjehfmiiolaa
open Go Go.Eng
theorem rmeet_pure (l y : List Int) : PureCall Try.prog 24 [vL cI l, vL cI y] (vB (meetI l y)) := by
  cases h : mayB l with
  | false =>
    rw [show meetI l y = false by simp [meetI, h]]
    exact EOut.pure_ok (os := [true, true, true, true, true]) (r := vB false) (cs := [true == true, (!mayB l) == true, (!mayB l) == true, (!mayB l) == true, (!mayB l) == true]) (by kernel_rfl) (allI (by simp [h]))
  | true =>
    cases h2 : mayB y with
    | false =>
      rw [show meetI l y = false by simp [meetI, h2]]
      exact EOut.pure_ok (os := [false, false, false, false, true]) (r := vB false) (cs := [(!mayB y) == true, (!mayB l) == false, (!mayB l) == false, (!mayB l) == false, (!mayB l) == false]) (by kernel_rfl) (allI (by simp [h, h2]))
    | true =>
      have e := List.all_eq_true.1 (List.all_eq_true.1 meet_same_all l (mem32 h)) y (mem32 h2)
      rw [h, h2] at e
      have e : meetI l y = !outBad l y := by simpa using e
      rw [e]
      have hl := (may_len h).2
      have hy := (may_len h2).2
      cases h3 : outBad l y with
      | true => exact EOut.pure_ok (os := [false, false, false, false, false, true]) (r := vB false) (cs := [decide ((0 : Int) = 0), decide (false = false), decide (l.length ≤ 5), decide (y.length ≤ 5), true, outBad l y == true, (!mayB y) == false, (!mayB l) == false, (!mayB l) == false, (!mayB l) == false, (!mayB l) == false]) (by kernel_rfl) (allI (by simp [h, h2, h3, hl, hy]))
      | false => exact EOut.pure_ok (os := [false, false, false, false, false, false]) (r := vB true) (cs := [decide ((0 : Int) = 0), decide (false = false), decide (l.length ≤ 5), decide (y.length ≤ 5), true, outBad l y == false, (!mayB y) == false, (!mayB l) == false, (!mayB l) == false, (!mayB l) == false, (!mayB l) == false]) (by kernel_rfl) (allI (by simp [h, h2, h3, hl, hy]))
theorem rcheck_pure (l : List Int) : PureCall Try.prog 17 [vL cI l] (vI (chkI l)) := by
  cases h : mayB l with
  | true => rw [chk_may h]; exact EOut.pure_ok (os := [false]) (cs := [(!mayB l) == false]) (by kernel_rfl) (allI (by simp [h]))
  | false => rw [chk_no h]; exact EOut.pure_ok (os := [true]) (cs := [(!mayB l) == true]) (by kernel_rfl) (allI (by simp [h]))
noncomputable def EAsk : Env Try.prog := (EOut.addT1 24 [.one (.sl cI), .one (.sl cI)] (fun d => vB (meetI d.1 d.2.1)) (fun _ => []) fun d _ => rmeet_pure d.1 d.2.1).addT1
  17 [.one (.sl cI)] (fun d => vI (chkI d.1)) (fun _ => []) fun d _ => rcheck_pure d.1
end Go.Proofs.Ytcigjehfmiiolaa
