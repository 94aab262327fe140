/- maps.Keys and slices.Collect of a map with number keys, as the shelf has them: their functions and types here; no statement. -/
import Derived.Test.YthdgoefjkfafkaaGreatChecked
import Derived.KernelRfl
import Derived.Shelf.SlIterI.Nil
set_option linter.unusedVariables false
namespace Go.Proofs.YthdgoefjkfafkaaGreat
open Go Go.Proofs Go.Shelf

def keys_ren : Go.Shelf.Ren := ⟨fun | 7 => 81 | 10 => 88 | 8 => 80 | 11 => 87 | n => n, fun | 23 => 81 | 26 => 3 | 3 => 103 | 28 => 134 | 24 => 31 | 0 => 0 | 27 => 133 | 33 => 75 | 4 => 4 | n => n, fun n => n⟩
theorem keysL : SlLaysZI.n7 Tryz.prog keys_ren := {
  mixed := by kernel_rfl
  f7 := ⟨Tryz.f81.name, by decide +kernel, Tryz.func81.trans (congrArg some (by kernel_rfl))⟩
  f10 := ⟨Tryz.f88.name, by decide +kernel, Tryz.func88.trans (congrArg some (by kernel_rfl))⟩
  t0 := Tryz.underlying0
  a0 := Tryz.isAgg0
  z0 := Tryz.sizeOf0
  v0 := Tryz.zeroValue0
  t4 := Tryz.underlying4
  a4 := Tryz.isAgg4
  z4 := Tryz.sizeOf4
  v4 := Tryz.zeroValue4
  t23 := Tryz.underlying81
  a23 := Tryz.isAgg81
  z23 := Tryz.sizeOf81
  v23 := Tryz.zeroValue81
  t26 := Tryz.underlying3
  a26 := Tryz.isAgg3
  z26 := Tryz.sizeOf3
  v26 := Tryz.zeroValue3
  t27 := Tryz.underlying133
  a27 := Tryz.isAgg133
  z27 := Tryz.sizeOf133
  v27 := Tryz.zeroValue133
  t28 := Tryz.underlying134
  a28 := Tryz.isAgg134
  z28 := Tryz.sizeOf134
  v28 := Tryz.zeroValue134
  t33 := Tryz.underlying75
  a33 := Tryz.isAgg75
  z33 := Tryz.sizeOf75
  v33 := Tryz.zeroValue75 }
theorem colL : SlLaysZI.n8 Tryz.prog keys_ren := {
  mixed := by kernel_rfl
  f8 := ⟨Tryz.f80.name, by decide +kernel, Tryz.func80.trans (congrArg some (by kernel_rfl))⟩
  f11 := ⟨Tryz.f87.name, by decide +kernel, Tryz.func87.trans (congrArg some (by kernel_rfl))⟩
  t0 := Tryz.underlying0
  a0 := Tryz.isAgg0
  z0 := Tryz.sizeOf0
  v0 := Tryz.zeroValue0
  t24 := Tryz.underlying31
  a24 := Tryz.isAgg31
  z24 := Tryz.sizeOf31
  v24 := Tryz.zeroValue31
  t26 := Tryz.underlying3
  a26 := Tryz.isAgg3
  z26 := Tryz.sizeOf3
  v26 := Tryz.zeroValue3
  t28 := Tryz.underlying134
  a28 := Tryz.isAgg134
  z28 := Tryz.sizeOf134
  v28 := Tryz.zeroValue134
  i26 := by kernel_rfl }
end Go.Proofs.YthdgoefjkfafkaaGreat
