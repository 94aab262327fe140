/- ClientDeaf: the client that waits, the environment of a round; no statement. -/
import Derived.Test.YtiodkcnponhhgaaGreatDmg
import Derived.Test.YtiodkcnponhhgaaGreatEngZ14
set_option linter.unusedVariables false
set_option maxRecDepth 100000
namespace Go.Proofs.YtiodkcnponhhgaaGreat
open Go Go.Eng

abbrev eB : AC := .str (ByteArray.mk #[])
abbrev rEvent : CT := .pair cI (.pair cU (.pair .bool (.pair rOp (.pair rRes .unit))))
abbrev rPacket : CT := .pair cI (.pair cI (.pair .str .unit))
abbrev suC : List AC := [.int .i64 3, .int .i64 1, .int .i64 10, .int .i64 2, .int .i64 3, .int .i64 4, .int .i64 1048576, .int .i64 8, .int .i64 8]
abbrev opC : List AC := [.int .i64 2, .str (ByteArray.mk #[109]), .str (ByteArray.mk #[120]), eB, .bool false, eB]
/-- What a client waits with behind Begin. -/
def hW : List AB := [.cells [.int .i64 0], .cells suC,
  .cells ([.int .i64 0] ++ suC ++ [.int .u64 2, .nilp, .nils, .bool true] ++ opC ++ [.int .u64 1, .int .i64 1, .bool false, .int .u64 2, .int .i64 1, .int .i64 1, eB, eB, .int .u64 1, .sl cI [0, 1, 2] .shared, .int .i64 0, .int .i64 0,
    .sl rEvent [(0, 1, true, (2, ByteArray.mk #[109], ByteArray.mk #[120], ByteArray.mk #[], false, ByteArray.mk #[], ()), (0, false, ByteArray.mk #[], ByteArray.mk #[], 0, ()), ())] (.own 5 0), .fn 22 [(0, 0)]]),
  .cells opC, .cells [.int .i64 0, .bool false, eB, eB, .int .u64 0], .tok 79 0]
noncomputable def EDf : Env Tryz.prog := ((E0.addQ 24).addT1 10 [.one .str] (fun d => tupM (dmA d.1).1 (dmA d.1).2) (fun d => [szk d.1]) fun d hc => dm_any d.1 (of_allTc hc).1).spec
end Go.Proofs.YtiodkcnponhhgaaGreat
