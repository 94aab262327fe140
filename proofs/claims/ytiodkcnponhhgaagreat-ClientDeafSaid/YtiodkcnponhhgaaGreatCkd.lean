/- Calls of a closed law, each run by itself; no statement. -/
import Derived.Test.YtiodkcnponhhgaaGreatCkc
set_option linter.unusedVariables false
set_option maxRecDepth 100000
namespace Go.Proofs.YtiodkcnponhhgaaGreat
open Go Go.Eng

noncomputable def ca23 : List AV := [.one (.str (ByteArray.mk #[6, 1, 0, 0, 0, 0, 0, 0, 0, 0, 0, 0, 0, 4, 1, 1, 5, 0, 3, 108, 111, 99, 0, 0, 0, 0, 0, 0, 0, 0, 0, 0, 0, 0, 0, 0, 0, 0, 0, 0, 0, 0, 0, 0, 0, 0, 0, 0, 0, 0, 0, 0, 0, 0, 0, 0, 0, 0, 0, 0, 0]))]
noncomputable def cr23 : AV := .tup [(true, [.int .i64 6, .int .i64 1, .int .u64 0, .int .u64 0, .int .u64 0, .int .u64 0, .bool false, .nils, .int .u64 0, .int .u64 0, .nils, .str (ByteArray.mk #[]), .int .i64 0, .int .u64 4, .int .i64 1, .int .u64 1, .int .i64 5, .str (ByteArray.mk #[]), .str (ByteArray.mk #[108, 111, 99]), .str (ByteArray.mk #[]), .bool false, .str (ByteArray.mk #[]), .int .i64 0, .int .u64 0, .int .i64 0, .bool false, .str (ByteArray.mk #[]), .str (ByteArray.mk #[]), .int .u64 0, .int .i64 0, .int .i64 0, .int .i64 0, .int .i64 0, .int .u64 0, .int .u64 0, .int .i64 0, .str (ByteArray.mk #[]), .str (ByteArray.mk #[]), .str (ByteArray.mk #[]), .bool false, .str (ByteArray.mk #[]), .int .u64 0, .int .i64 0, .str (ByteArray.mk #[]), .str (ByteArray.mk #[]), .int .i64 0, .bool false, .int .i64 0, .str (ByteArray.mk #[]), .int .i64 0, .int .i64 0, .int .i64 0, .int .i64 0, .int .i64 0, .int .u64 0, .int .i64 0, .int .i64 0, .int .i64 0]), (false, [.int .i64 0])]
theorem cc23_ok : PureCall Tryz.prog 10 ca23 cr23 := Ec23.closedPu (by kernel_rfl)
noncomputable def Ec24 : Env Tryz.prog := Ec23.addCP 10 ca23 cr23 cc23_ok
noncomputable def ca24 : List AV := [.one (.str (ByteArray.mk #[6, 2, 0, 0, 0, 0, 0, 0, 0, 0, 0, 0, 0, 5, 2, 1, 5, 3, 107, 109, 0, 3, 108, 111, 99, 0, 0, 0, 0, 0, 0, 0, 0, 0, 0, 0, 0, 0, 0, 0, 0, 0, 0, 0, 0, 0, 0, 0, 0, 0, 0, 0, 0, 0, 0, 0, 0, 0, 0, 0, 0, 0, 0, 0]))]
noncomputable def cr24 : AV := .tup [(true, [.int .i64 6, .int .i64 2, .int .u64 0, .int .u64 0, .int .u64 0, .int .u64 0, .bool false, .nils, .int .u64 0, .int .u64 0, .nils, .str (ByteArray.mk #[]), .int .i64 0, .int .u64 5, .int .i64 2, .int .u64 1, .int .i64 5, .str (ByteArray.mk #[107, 109, 0]), .str (ByteArray.mk #[108, 111, 99]), .str (ByteArray.mk #[]), .bool false, .str (ByteArray.mk #[]), .int .i64 0, .int .u64 0, .int .i64 0, .bool false, .str (ByteArray.mk #[]), .str (ByteArray.mk #[]), .int .u64 0, .int .i64 0, .int .i64 0, .int .i64 0, .int .i64 0, .int .u64 0, .int .u64 0, .int .i64 0, .str (ByteArray.mk #[]), .str (ByteArray.mk #[]), .str (ByteArray.mk #[]), .bool false, .str (ByteArray.mk #[]), .int .u64 0, .int .i64 0, .str (ByteArray.mk #[]), .str (ByteArray.mk #[]), .int .i64 0, .bool false, .int .i64 0, .str (ByteArray.mk #[]), .int .i64 0, .int .i64 0, .int .i64 0, .int .i64 0, .int .i64 0, .int .u64 0, .int .i64 0, .int .i64 0, .int .i64 0]), (false, [.int .i64 0])]
theorem cc24_ok : PureCall Tryz.prog 10 ca24 cr24 := Ec24.closedPu (by kernel_rfl)
noncomputable def Ec25 : Env Tryz.prog := Ec24.addCP 10 ca24 cr24 cc24_ok
end Go.Proofs.YtiodkcnponhhgaaGreat
