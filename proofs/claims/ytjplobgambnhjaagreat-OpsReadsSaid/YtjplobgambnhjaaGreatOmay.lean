/- OpsMay, its run; no statement. -/
import Derived.Test.YtjplobgambnhjaaGreatOq
import Derived.Test.YtjplobgambnhjaaGreatOcmd
import Derived.Test.YtjplobgambnhjaaGreatEnw
set_option linter.unusedVariables false
set_option linter.unusedSimpArgs false
namespace Go.Proofs.YtjplobgambnhjaaGreat
open Go Go.Eng
def memV (l : List Int) : Int := bif gK l l.length then (bif decide (((l.length : Nat) : Int) > 0) then 0 else 2) else 2
theorem members_pure (l : List Int) : PureCall Tryz.prog 55 [vL cI l] (vI (memV l)) := by
  refine PureCall.facts' (by kernel_rfl) fun ⟨X, vs, hX, hv⟩ => ?_
  have hlen : l.length ≤ maxLen := len_of hv 0 rfl
  unfold memV
  cases h : gK l l.length with
  | false => exact EOm0.pure_ok (os := [false, false, false, false, false]) (cs := [false == false, gK l l.length == false, gK l l.length == false, gK l l.length == false, gK l l.length == false, decide ((0 : Int) = 0), decide (l = l), decide (((l.length : Nat) : Int) = ((l.length : Nat) : Int)), decide (l.length ≤ maxLen)]) (by kernel_rfl) (allI (by simp [h, hlen]))
  | true =>
    cases h2 : decide (((l.length : Nat) : Int) > 0) with
    | true => exact EOm0.pure_ok (os := [true, true, true, true, true]) (cs := [decide (((l.length : Nat) : Int) > 0) == true, gK l l.length == true, gK l l.length == true, gK l l.length == true, gK l l.length == true, decide ((0 : Int) = 0), decide (l = l), decide (((l.length : Nat) : Int) = ((l.length : Nat) : Int)), decide (l.length ≤ maxLen)]) (by kernel_rfl) (allI (by rw [h2]; simp [h, hlen]))
    | false => exact EOm0.pure_ok (os := [true, true, true, true, false]) (cs := [decide (((l.length : Nat) : Int) > 0) == false, gK l l.length == true, gK l l.length == true, gK l l.length == true, gK l l.length == true, decide ((0 : Int) = 0), decide (l = l), decide (((l.length : Nat) : Int) = ((l.length : Nat) : Int)), decide (l.length ≤ maxLen)]) (by kernel_rfl) (allI (by rw [h2]; simp [h, hlen]))
theorem rmembers_pure (l : List Int) : PureCall Tryz.prog 58 [vL cI l] (vI (memV l)) := by
  refine PureCall.facts' (by kernel_rfl) fun ⟨X, vs, hX, hv⟩ => ?_
  have hlen : l.length ≤ maxLen := len_of hv 0 rfl
  unfold memV
  cases h : gK l l.length with
  | false => exact EOm0.pure_ok (os := [false]) (cs := [decide ((0 : Int) = 0), decide ((0 : Int) = 0), decide (l.length ≤ maxLen), gK l l.length == false]) (by kernel_rfl) (allI (by simp [h, hlen]))
  | true =>
    by_cases h2 : l.length = 0
    · rw [decide_eq_false (show ¬ ((l.length : Nat) : Int) > 0 by omega)]
      exact EOm0.pure_ok (os := [true, true]) (cs := [(((l.length : Nat) : Int) == 0) == true, decide ((0 : Int) = 0), decide ((0 : Int) = 0), decide (l.length ≤ maxLen), gK l l.length == true]) (by kernel_rfl) (allI (by rw [h]; simp [hlen, h2]))
    · rw [decide_eq_true (show ((l.length : Nat) : Int) > 0 by omega)]
      exact EOm0.pure_ok (os := [true, false]) (cs := [(((l.length : Nat) : Int) == 0) == false, decide ((0 : Int) = 0), decide ((0 : Int) = 0), decide (l.length ≤ maxLen), gK l l.length == true]) (by kernel_rfl) (allI (by simp [h, hlen, h2]))
noncomputable def EOmay0 : Env Tryz.prog := ((((ESl.addT1 54 [.agg rCmd] (fun d => vI (cmdV d.1)) (fun _ => []) fun d _ => cmdV_pure d.1).addT1 57 [.agg rCmd] (fun d => vI (cmdV d.1)) (fun _ => []) fun d _ => PureCall.res (cmdW_pure d.1) (by rw [cmd_same])).addT1 55 [.one (.sl cI)] (fun d => vI (memV d.1)) (fun _ => []) fun d _ => members_pure d.1).addT1 58 [.one (.sl cI)] (fun d => vI (memV d.1)) (fun _ => []) fun d _ => rmembers_pure d.1)

end Go.Proofs.YtjplobgambnhjaaGreat
