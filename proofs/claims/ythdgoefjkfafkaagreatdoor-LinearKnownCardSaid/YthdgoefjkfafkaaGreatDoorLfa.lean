/- LinearKnown: closed calls, each run by itself; no statement. -/
import Derived.Test.YthdgoefjkfafkaaGreatDoorLe10
set_option linter.unusedVariables false
set_option maxRecDepth 1000000
namespace Go.Proofs.YthdgoefjkfafkaaGreatDoor
open Go Go.Eng

theorem ld_h1_100 : PureCall Tryz.prog fCo [h1A, iA 100] (.tup [bA true, bA true, eA 0]) := could_pure (args' := [h1A, iA 100]) (ex := .normal) (by kernel_rfl) (fun l fn tmps D => by kernel_rfl)
theorem ld_h2_100 : PureCall Tryz.prog fCo [h2A, iA 100] (.tup [bA true, bA true, eA 0]) := could_pure (args' := [h2A, iA 100]) (ex := .normal) (by kernel_rfl) (fun l fn tmps D => by kernel_rfl)
theorem ld_h3_100 : PureCall Tryz.prog fCo [h3A, iA 100] (.tup [bA true, bA true, eA 0]) := could_pure (args' := [h3A, iA 100]) (ex := .normal) (by kernel_rfl) (fun l fn tmps D => by kernel_rfl)
theorem ld_h4_100 : PureCall Tryz.prog fCo [h4A, iA 100] (.tup [bA true, bA true, eA 0]) := could_pure (args' := [h4A, iA 100]) (ex := .normal) (by kernel_rfl) (fun l fn tmps D => by kernel_rfl)
theorem ld_h5_100 : PureCall Tryz.prog fCo [h5A, iA 100] (.tup [bA false, bA true, eA 0]) := could_pure (args' := [h5A, iA 100]) (ex := .normal) (by kernel_rfl) (fun l fn tmps D => by kernel_rfl)
theorem ld_h6_100 : PureCall Tryz.prog fCo [h6A, iA 100] (.tup [bA false, bA true, eA 0]) := could_pure (args' := [h6A, iA 100]) (ex := .normal) (by kernel_rfl) (fun l fn tmps D => by kernel_rfl)
theorem ld_h7_100 : PureCall Tryz.prog fCo [h7A, iA 100] (.tup [bA false, bA true, eA 0]) := could_pure (args' := [h7A, iA 100]) (ex := .normal) (by kernel_rfl) (fun l fn tmps D => by kernel_rfl)
theorem ld_ha_100 : PureCall Tryz.prog fCo [haA, iA 100] (.tup [bA true, bA true, eA 0]) := could_pure (args' := [haA, iA 100]) (ex := .normal) (by kernel_rfl) (fun l fn tmps D => by kernel_rfl)
end Go.Proofs.YthdgoefjkfafkaaGreatDoor
