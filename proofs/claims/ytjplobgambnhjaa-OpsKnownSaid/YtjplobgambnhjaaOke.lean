/- Calls of a closed law, each run by itself; no statement. -/
import Derived.Test.YtjplobgambnhjaaOkd
set_option linter.unusedVariables false
set_option maxRecDepth 100000
namespace Go.Proofs.Ytjplobgambnhjaa
open Go Go.Eng

noncomputable def ca106 : List AV := [.agg [.int .i64 2, .int .i64 3, .int .u64 300, .int .u64 0, .int .u64 0, .int .u64 0, .bool true, .nils, .int .u64 0, .int .u64 0, .nils, .str (ByteArray.mk #[]), .int .i64 0, .int .u64 0, .int .i64 0, .int .u64 0, .int .i64 0, .str (ByteArray.mk #[]), .str (ByteArray.mk #[]), .str (ByteArray.mk #[]), .bool false, .str (ByteArray.mk #[]), .int .i64 0, .int .u64 0, .int .i64 0, .bool false, .str (ByteArray.mk #[]), .str (ByteArray.mk #[]), .int .u64 0, .int .i64 0, .int .i64 0, .int .i64 0, .int .i64 0, .int .u64 0, .int .u64 0, .int .i64 0, .str (ByteArray.mk #[]), .str (ByteArray.mk #[]), .str (ByteArray.mk #[]), .bool false, .str (ByteArray.mk #[]), .int .u64 0, .int .i64 0, .str (ByteArray.mk #[]), .str (ByteArray.mk #[]), .int .i64 0, .bool false, .int .i64 0, .str (ByteArray.mk #[]), .int .i64 0, .int .i64 0, .int .i64 0, .int .i64 0, .int .i64 0, .int .u64 0, .int .i64 0, .int .i64 0, .int .i64 0]]
noncomputable def cr106 : AV := .one (.int .i64 0)
theorem cc106_ok : PureCall Try.prog 29 ca106 cr106 := Ec106.closedPu (by kernel_rfl)
noncomputable def Ec107 : Env Try.prog := Ec106.addCP 29 ca106 cr106 cc106_ok
noncomputable def ca107 : List AV := [.agg [.int .i64 2, .int .i64 3, .int .u64 300, .int .u64 0, .int .u64 0, .int .u64 0, .bool true, .nils, .int .u64 0, .int .u64 0, .nils, .str (ByteArray.mk #[]), .int .i64 0, .int .u64 0, .int .i64 0, .int .u64 0, .int .i64 0, .str (ByteArray.mk #[]), .str (ByteArray.mk #[]), .str (ByteArray.mk #[]), .bool false, .str (ByteArray.mk #[]), .int .i64 0, .int .u64 0, .int .i64 0, .bool false, .str (ByteArray.mk #[]), .str (ByteArray.mk #[]), .int .u64 0, .int .i64 0, .int .i64 0, .int .i64 0, .int .i64 0, .int .u64 0, .int .u64 0, .int .i64 0, .str (ByteArray.mk #[]), .str (ByteArray.mk #[]), .str (ByteArray.mk #[]), .bool false, .str (ByteArray.mk #[]), .int .u64 0, .int .i64 0, .str (ByteArray.mk #[]), .str (ByteArray.mk #[]), .int .i64 0, .bool false, .int .i64 0, .str (ByteArray.mk #[]), .int .i64 0, .int .i64 0, .int .i64 0, .int .i64 0, .int .i64 0, .int .u64 0, .int .i64 0, .int .i64 0, .int .i64 0]]
noncomputable def cr107 : AV := .tup [(false, [.str (ByteArray.mk #[2, 3, 172, 2, 0, 0, 0, 1, 0, 0, 0, 0, 0, 0, 0, 0, 0, 0, 0, 0, 0, 0, 0, 0, 0, 0, 0, 0, 0, 0, 0, 0, 0, 0, 0, 0, 0, 0, 0, 0, 0, 0, 0, 0, 0, 0, 0, 0, 0, 0, 0, 0, 0, 0, 0, 0, 0, 0, 0])]), (false, [.int .i64 0])]
theorem cc107_ok : PureCall Try.prog 28 ca107 cr107 := Ec107.closedPu (by kernel_rfl)
noncomputable def Ec108 : Env Try.prog := Ec107.addCP 28 ca107 cr107 cc107_ok
noncomputable def ca108 : List AV := [.one (.str (ByteArray.mk #[2, 3, 172, 2, 0, 0, 0, 1, 0, 0, 0, 0, 0, 0, 0, 0, 0, 0, 0, 0, 0, 0, 0, 0, 0, 0, 0, 0, 0, 0, 0, 0, 0, 0, 0, 0, 0, 0, 0, 0, 0, 0, 0, 0, 0, 0, 0, 0, 0, 0, 0, 0, 0, 0, 0, 0, 0, 0, 0]))]
noncomputable def cr108 : AV := .tup [(true, [.int .i64 2, .int .i64 3, .int .u64 300, .int .u64 0, .int .u64 0, .int .u64 0, .bool true, .nils, .int .u64 0, .int .u64 0, .nils, .str (ByteArray.mk #[]), .int .i64 0, .int .u64 0, .int .i64 0, .int .u64 0, .int .i64 0, .str (ByteArray.mk #[]), .str (ByteArray.mk #[]), .str (ByteArray.mk #[]), .bool false, .str (ByteArray.mk #[]), .int .i64 0, .int .u64 0, .int .i64 0, .bool false, .str (ByteArray.mk #[]), .str (ByteArray.mk #[]), .int .u64 0, .int .i64 0, .int .i64 0, .int .i64 0, .int .i64 0, .int .u64 0, .int .u64 0, .int .i64 0, .str (ByteArray.mk #[]), .str (ByteArray.mk #[]), .str (ByteArray.mk #[]), .bool false, .str (ByteArray.mk #[]), .int .u64 0, .int .i64 0, .str (ByteArray.mk #[]), .str (ByteArray.mk #[]), .int .i64 0, .bool false, .int .i64 0, .str (ByteArray.mk #[]), .int .i64 0, .int .i64 0, .int .i64 0, .int .i64 0, .int .i64 0, .int .u64 0, .int .i64 0, .int .i64 0, .int .i64 0]), (false, [.int .i64 0])]
theorem cc108_ok : PureCall Try.prog 30 ca108 cr108 := Ec108.closedPu (by kernel_rfl)
noncomputable def Ec109 : Env Try.prog := Ec108.addCP 30 ca108 cr108 cc108_ok
noncomputable def ca109 : List AV := [.agg [.int .i64 0, .int .i64 0, .int .u64 1, .int .u64 0, .int .i64 0, .str (ByteArray.mk #[]), .str (ByteArray.mk #[]), .str (ByteArray.mk #[]), .bool false, .str (ByteArray.mk #[]), .int .u64 0, .int .i64 0, .str (ByteArray.mk #[]), .str (ByteArray.mk #[]), .int .i64 0, .bool false, .int .i64 0, .str (ByteArray.mk #[]), .int .i64 0, .int .i64 0]]
noncomputable def cr109 : AV := .one (.int .i64 2)
theorem cc109_ok : PureCall Try.prog 13 ca109 cr109 := Ec109.closedPu (by kernel_rfl)
noncomputable def Ec110 : Env Try.prog := Ec109.addCP 13 ca109 cr109 cc109_ok
noncomputable def ca110 : List AV := [.agg [.int .i64 8, .int .i64 0, .int .u64 0, .int .u64 0, .int .i64 0, .str (ByteArray.mk #[]), .str (ByteArray.mk #[]), .str (ByteArray.mk #[]), .bool false, .str (ByteArray.mk #[]), .int .u64 0, .int .i64 0, .str (ByteArray.mk #[]), .str (ByteArray.mk #[]), .int .i64 0, .bool false, .int .i64 0, .str (ByteArray.mk #[]), .int .i64 0, .int .i64 0]]
noncomputable def cr110 : AV := .one (.int .i64 2)
theorem cc110_ok : PureCall Try.prog 13 ca110 cr110 := Ec110.closedPu (by kernel_rfl)
noncomputable def Ec111 : Env Try.prog := Ec110.addCP 13 ca110 cr110 cc110_ok
noncomputable def ca111 : List AV := [.agg [.int .u64 0, .int .u64 1, .int .i64 1, .int .i64 0, .int .i64 0, .int .u64 0, .int .u64 0, .int .i64 0, .str (ByteArray.mk #[]), .str (ByteArray.mk #[]), .str (ByteArray.mk #[]), .bool false, .str (ByteArray.mk #[]), .int .u64 0, .int .i64 0, .str (ByteArray.mk #[]), .str (ByteArray.mk #[]), .int .i64 0, .bool false, .int .i64 0, .str (ByteArray.mk #[]), .int .i64 0, .int .i64 0, .nils]]
noncomputable def cr111 : AV := .one (.int .i64 2)
theorem cc111_ok : PureCall Try.prog 22 ca111 cr111 := Ec111.closedPu (by kernel_rfl)
noncomputable def Ec112 : Env Try.prog := Ec111.addCP 22 ca111 cr111 cc111_ok
noncomputable def ca112 : List AV := [.one (.sl (.int .i64) ([(1 : Int), (0 : Int)] : List (CT.den (.int .i64))) .full)]
noncomputable def cr112 : AV := .one (.int .i64 2)
theorem cc112_ok : PureCall Try.prog 15 ca112 cr112 := Ec112.closedPu (by kernel_rfl)
noncomputable def Ec113 : Env Try.prog := Ec112.addCP 15 ca112 cr112 cc112_ok
noncomputable def ca113 : List AV := [.one (.nils)]
noncomputable def cr113 : AV := .one (.int .i64 2)
theorem cc113_ok : PureCall Try.prog 15 ca113 cr113 := Ec113.closedPu (by kernel_rfl)
noncomputable def Ec114 : Env Try.prog := Ec113.addCP 15 ca113 cr113 cc113_ok
noncomputable def ca114 : List AV := [.one (.sl (.int .i64) ([(0 : Int), (5 : Int)] : List (CT.den (.int .i64))) .full)]
noncomputable def cr114 : AV := .one (.int .i64 2)
theorem cc114_ok : PureCall Try.prog 15 ca114 cr114 := Ec114.closedPu (by kernel_rfl)
noncomputable def Ec115 : Env Try.prog := Ec114.addCP 15 ca114 cr114 cc114_ok
noncomputable def ca115 : List AV := [.one (.sl (.int .i64) ([(0 : Int), (4 : Int)] : List (CT.den (.int .i64))) .full)]
noncomputable def cr115 : AV := .one (.int .i64 0)
theorem cc115_ok : PureCall Try.prog 15 ca115 cr115 := Ec115.closedPu (by kernel_rfl)
noncomputable def Ec116 : Env Try.prog := Ec115.addCP 15 ca115 cr115 cc115_ok
noncomputable def ca116 : List AV := [.agg [.int .i64 8, .int .i64 0, .int .u64 0, .int .u64 0, .int .u64 0, .int .u64 0, .bool false, .nils, .int .u64 0, .int .u64 0, .nils, .str (ByteArray.mk #[]), .int .i64 0, .int .u64 0, .int .i64 0, .int .u64 0, .int .i64 0, .str (ByteArray.mk #[]), .str (ByteArray.mk #[]), .str (ByteArray.mk #[]), .bool false, .str (ByteArray.mk #[]), .int .i64 0, .int .u64 0, .int .i64 0, .bool false, .str (ByteArray.mk #[]), .str (ByteArray.mk #[]), .int .u64 0, .int .i64 0, .int .i64 0, .int .i64 0, .int .i64 0, .int .u64 0, .int .u64 0, .int .i64 0, .str (ByteArray.mk #[]), .str (ByteArray.mk #[]), .str (ByteArray.mk #[]), .bool false, .str (ByteArray.mk #[]), .int .u64 1, .int .i64 0, .str (ByteArray.mk #[]), .str (ByteArray.mk #[]), .int .i64 0, .bool false, .int .i64 0, .str (ByteArray.mk #[]), .int .i64 0, .int .i64 0, .int .i64 3, .int .i64 (-1), .int .i64 0, .int .u64 0, .int .i64 0, .int .i64 0, .int .i64 0], .agg [.int .i64 8, .int .i64 0, .int .u64 0, .int .u64 0, .int .u64 0, .int .u64 0, .bool false, .nils, .int .u64 0, .int .u64 0, .nils, .str (ByteArray.mk #[]), .int .i64 0, .int .u64 0, .int .i64 0, .int .u64 0, .int .i64 0, .str (ByteArray.mk #[]), .str (ByteArray.mk #[]), .str (ByteArray.mk #[]), .bool false, .str (ByteArray.mk #[]), .int .i64 0, .int .u64 0, .int .i64 0, .bool false, .str (ByteArray.mk #[]), .str (ByteArray.mk #[]), .int .u64 0, .int .i64 0, .int .i64 0, .int .i64 0, .int .i64 0, .int .u64 0, .int .u64 0, .int .i64 0, .str (ByteArray.mk #[]), .str (ByteArray.mk #[]), .str (ByteArray.mk #[]), .bool false, .str (ByteArray.mk #[]), .int .u64 1, .int .i64 0, .str (ByteArray.mk #[]), .str (ByteArray.mk #[]), .int .i64 0, .bool false, .int .i64 0, .str (ByteArray.mk #[]), .int .i64 0, .int .i64 0, .int .i64 3, .int .i64 (-1), .int .i64 0, .int .u64 0, .int .i64 0, .int .i64 0, .int .i64 0]]
noncomputable def cr116 : AV := .one (.bool true)
theorem cc116_ok : PureCall Try.prog 64 ca116 cr116 := Ec116.closedPu (by kernel_rfl)
noncomputable def Ec117 : Env Try.prog := Ec116.addCP 64 ca116 cr116 cc116_ok
noncomputable def ca117 : List AV := [.agg [.int .i64 8, .int .i64 0, .int .u64 0, .int .u64 0, .int .u64 0, .int .u64 0, .bool false, .nils, .int .u64 0, .int .u64 0, .nils, .str (ByteArray.mk #[]), .int .i64 0, .int .u64 0, .int .i64 0, .int .u64 0, .int .i64 0, .str (ByteArray.mk #[]), .str (ByteArray.mk #[]), .str (ByteArray.mk #[]), .bool false, .str (ByteArray.mk #[]), .int .i64 0, .int .u64 0, .int .i64 0, .bool false, .str (ByteArray.mk #[]), .str (ByteArray.mk #[]), .int .u64 0, .int .i64 0, .int .i64 0, .int .i64 0, .int .i64 0, .int .u64 0, .int .u64 0, .int .i64 0, .str (ByteArray.mk #[]), .str (ByteArray.mk #[]), .str (ByteArray.mk #[]), .bool false, .str (ByteArray.mk #[]), .int .u64 1, .int .i64 0, .str (ByteArray.mk #[]), .str (ByteArray.mk #[]), .int .i64 0, .bool false, .int .i64 0, .str (ByteArray.mk #[]), .int .i64 0, .int .i64 0, .int .i64 3, .int .i64 (-1), .int .i64 0, .int .u64 0, .int .i64 0, .int .i64 0, .int .i64 0]]
noncomputable def cr117 : AV := .one (.int .i64 0)
theorem cc117_ok : PureCall Try.prog 29 ca117 cr117 := Ec117.closedPu (by kernel_rfl)
noncomputable def Ec118 : Env Try.prog := Ec117.addCP 29 ca117 cr117 cc117_ok
noncomputable def ca118 : List AV := [.agg [.int .i64 8, .int .i64 0, .int .u64 0, .int .u64 0, .int .u64 0, .int .u64 0, .bool false, .nils, .int .u64 0, .int .u64 0, .nils, .str (ByteArray.mk #[]), .int .i64 0, .int .u64 0, .int .i64 0, .int .u64 0, .int .i64 0, .str (ByteArray.mk #[]), .str (ByteArray.mk #[]), .str (ByteArray.mk #[]), .bool false, .str (ByteArray.mk #[]), .int .i64 0, .int .u64 0, .int .i64 0, .bool false, .str (ByteArray.mk #[]), .str (ByteArray.mk #[]), .int .u64 0, .int .i64 0, .int .i64 0, .int .i64 0, .int .i64 0, .int .u64 0, .int .u64 0, .int .i64 0, .str (ByteArray.mk #[]), .str (ByteArray.mk #[]), .str (ByteArray.mk #[]), .bool false, .str (ByteArray.mk #[]), .int .u64 1, .int .i64 0, .str (ByteArray.mk #[]), .str (ByteArray.mk #[]), .int .i64 0, .bool false, .int .i64 0, .str (ByteArray.mk #[]), .int .i64 0, .int .i64 0, .int .i64 3, .int .i64 1, .int .i64 0, .int .u64 0, .int .i64 0, .int .i64 0, .int .i64 0]]
noncomputable def cr118 : AV := .one (.int .i64 2)
theorem cc118_ok : PureCall Try.prog 29 ca118 cr118 := Ec118.closedPu (by kernel_rfl)
noncomputable def Ec119 : Env Try.prog := Ec118.addCP 29 ca118 cr118 cc118_ok
end Go.Proofs.Ytjplobgambnhjaa
