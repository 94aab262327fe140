/- LinearKnown: closed calls, each run by itself; no statement. -/
import Derived.Test.YthdgoefjkfafkaaGreatDoorLe10
set_option linter.unusedVariables false
set_option maxRecDepth 1000000
namespace Go.Proofs.YthdgoefjkfafkaaGreatDoor
open Go Go.Eng

theorem ld_h1_1 : PureCall Tryz.prog fCo [h1A, iA 1] (.tup [bA false, bA false, eA 0]) := could_pure (args' := [h1A, iA 1]) (ex := .ret) (by kernel_rfl) (fun l fn tmps D => by kernel_rfl)
theorem ld_h1_2 : PureCall Tryz.prog fCo [h1A, iA 2] (.tup [bA false, bA false, eA 0]) := could_pure (args' := [h1A, iA 2]) (ex := .ret) (by kernel_rfl) (fun l fn tmps D => by kernel_rfl)
theorem ld_h1_3 : PureCall Tryz.prog fCo [h1A, iA 3] (.tup [bA false, bA false, eA 0]) := could_pure (args' := [h1A, iA 3]) (ex := .ret) (by kernel_rfl) (fun l fn tmps D => by kernel_rfl)
theorem ld_h1_4 : PureCall Tryz.prog fCo [h1A, iA 4] (.tup [bA false, bA false, eA 0]) := could_pure (args' := [h1A, iA 4]) (ex := .ret) (by kernel_rfl) (fun l fn tmps D => by kernel_rfl)
theorem ld_h1_5 : PureCall Tryz.prog fCo [h1A, iA 5] (.tup [bA true, bA true, eA 0]) := could_pure (args' := [h1A, iA 5]) (ex := .normal) (by kernel_rfl) (fun l fn tmps D => by kernel_rfl)
theorem ld_h1_6 : PureCall Tryz.prog fCo [h1A, iA 6] (.tup [bA true, bA true, eA 0]) := could_pure (args' := [h1A, iA 6]) (ex := .normal) (by kernel_rfl) (fun l fn tmps D => by kernel_rfl)
theorem ld_h1_7 : PureCall Tryz.prog fCo [h1A, iA 7] (.tup [bA true, bA true, eA 0]) := could_pure (args' := [h1A, iA 7]) (ex := .normal) (by kernel_rfl) (fun l fn tmps D => by kernel_rfl)
end Go.Proofs.YthdgoefjkfafkaaGreatDoor
