/- ClientDeaf: two more closed calls; no statement. -/
import Derived.Test.YtiodkcnponhhgaaGreatCkd
set_option linter.unusedVariables false
set_option maxRecDepth 100000
namespace Go.Proofs.YtiodkcnponhhgaaGreat
open Go Go.Eng

noncomputable def ca25 : List AV := [.agg [.int .i64 6, .int .i64 2, .int .u64 0, .int .u64 0, .int .u64 0, .int .u64 0, .bool false, .nils, .int .u64 0, .int .u64 0, .nils, .str (ByteArray.mk #[]), .int .i64 0, .int .u64 3, .int .i64 2, .int .u64 1, .int .i64 5, .str (ByteArray.mk #[107, 109, 0]), .str (ByteArray.mk #[108, 111, 99]), .str (ByteArray.mk #[]), .bool false, .str (ByteArray.mk #[]), .int .i64 0, .int .u64 0, .int .i64 0, .bool false, .str (ByteArray.mk #[]), .str (ByteArray.mk #[]), .int .u64 0, .int .i64 0, .int .i64 0, .int .i64 0, .int .i64 0, .int .u64 0, .int .u64 0, .int .i64 0, .str (ByteArray.mk #[]), .str (ByteArray.mk #[]), .str (ByteArray.mk #[]), .bool false, .str (ByteArray.mk #[]), .int .u64 0, .int .i64 0, .str (ByteArray.mk #[]), .str (ByteArray.mk #[]), .int .i64 0, .bool false, .int .i64 0, .str (ByteArray.mk #[]), .int .i64 0, .int .i64 0, .int .i64 0, .int .i64 0, .int .i64 0, .int .u64 0, .int .i64 0, .int .i64 0, .int .i64 0]]
noncomputable def cr25 : AV := .tup [(false, [.str (ByteArray.mk #[6, 2, 0, 0, 0, 0, 0, 0, 0, 0, 0, 0, 0, 3, 2, 1, 5, 3, 107, 109, 0, 3, 108, 111, 99, 0, 0, 0, 0, 0, 0, 0, 0, 0, 0, 0, 0, 0, 0, 0, 0, 0, 0, 0, 0, 0, 0, 0, 0, 0, 0, 0, 0, 0, 0, 0, 0, 0, 0, 0, 0, 0, 0, 0])]), (false, [.int .i64 0])]
theorem cc25_ok : PureCall Tryz.prog 23 ca25 cr25 := Ec25.closedPu (by kernel_rfl)
noncomputable def Ec26 : Env Tryz.prog := Ec25.addCP 23 ca25 cr25 cc25_ok
noncomputable def ca26 : List AV := [.one (.str (ByteArray.mk #[6, 2, 0, 0, 0, 0, 0, 0, 0, 0, 0, 0, 0, 3, 2, 1, 5, 3, 107, 109, 0, 3, 108, 111, 99, 0, 0, 0, 0, 0, 0, 0, 0, 0, 0, 0, 0, 0, 0, 0, 0, 0, 0, 0, 0, 0, 0, 0, 0, 0, 0, 0, 0, 0, 0, 0, 0, 0, 0, 0, 0, 0, 0, 0]))]
noncomputable def cr26 : AV := .tup [(true, [.int .i64 6, .int .i64 2, .int .u64 0, .int .u64 0, .int .u64 0, .int .u64 0, .bool false, .nils, .int .u64 0, .int .u64 0, .nils, .str (ByteArray.mk #[]), .int .i64 0, .int .u64 3, .int .i64 2, .int .u64 1, .int .i64 5, .str (ByteArray.mk #[107, 109, 0]), .str (ByteArray.mk #[108, 111, 99]), .str (ByteArray.mk #[]), .bool false, .str (ByteArray.mk #[]), .int .i64 0, .int .u64 0, .int .i64 0, .bool false, .str (ByteArray.mk #[]), .str (ByteArray.mk #[]), .int .u64 0, .int .i64 0, .int .i64 0, .int .i64 0, .int .i64 0, .int .u64 0, .int .u64 0, .int .i64 0, .str (ByteArray.mk #[]), .str (ByteArray.mk #[]), .str (ByteArray.mk #[]), .bool false, .str (ByteArray.mk #[]), .int .u64 0, .int .i64 0, .str (ByteArray.mk #[]), .str (ByteArray.mk #[]), .int .i64 0, .bool false, .int .i64 0, .str (ByteArray.mk #[]), .int .i64 0, .int .i64 0, .int .i64 0, .int .i64 0, .int .i64 0, .int .u64 0, .int .i64 0, .int .i64 0, .int .i64 0]), (false, [.int .i64 0])]
theorem cc26_ok : PureCall Tryz.prog 10 ca26 cr26 := Ec26.closedPu (by kernel_rfl)
noncomputable def Ec27 : Env Tryz.prog := Ec26.addCP 10 ca26 cr26 cc26_ok
end Go.Proofs.YtiodkcnponhhgaaGreat
