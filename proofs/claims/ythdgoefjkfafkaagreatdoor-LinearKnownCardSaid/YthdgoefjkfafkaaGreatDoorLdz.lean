/- LinearKnown: closed calls, each run by itself; no statement. -/
import Derived.Test.YthdgoefjkfafkaaGreatDoorLda
import Derived.Test.YthdgoefjkfafkaaGreatDoorLdb
import Derived.Test.YthdgoefjkfafkaaGreatDoorLdc
import Derived.Test.YthdgoefjkfafkaaGreatDoorLdd
import Derived.Test.YthdgoefjkfafkaaGreatDoorLde
import Derived.Test.YthdgoefjkfafkaaGreatDoorLdf
set_option linter.unusedVariables false
set_option maxRecDepth 1000000
namespace Go.Proofs.YthdgoefjkfafkaaGreatDoor
open Go Go.Eng

noncomputable def ELr0 : Env Tryz.prog := Env.addCP ELt 10 [h1A, .one (.str (ByteArray.mk #[114]))] h1A (ELt.closedPu row_h1)
noncomputable def ELr1 : Env Tryz.prog := Env.addCP ELr0 10 [h2A, .one (.str (ByteArray.mk #[114]))] h2A (ELt.closedPu row_h2)
noncomputable def ELr2 : Env Tryz.prog := Env.addCP ELr1 10 [h3A, .one (.str (ByteArray.mk #[114]))] h3A (ELt.closedPu row_h3)
noncomputable def ELr3 : Env Tryz.prog := Env.addCP ELr2 10 [h4A, .one (.str (ByteArray.mk #[114]))] h4A (ELt.closedPu row_h4)
noncomputable def ELr4 : Env Tryz.prog := Env.addCP ELr3 10 [h5A, .one (.str (ByteArray.mk #[114]))] h5A (ELt.closedPu row_h5)
noncomputable def ELr5 : Env Tryz.prog := Env.addCP ELr4 10 [h6A, .one (.str (ByteArray.mk #[114]))] h6A (ELt.closedPu row_h6)
noncomputable def ELr6 : Env Tryz.prog := Env.addCP ELr5 10 [h7A, .one (.str (ByteArray.mk #[114]))] h7A (ELt.closedPu row_h7)
noncomputable def ELr7 : Env Tryz.prog := Env.addCP ELr6 10 [haA, .one (.str (ByteArray.mk #[114]))] haA (ELt.closedPu row_ha)
noncomputable def ELr8 : Env Tryz.prog := Env.addCP ELr7 13 [h1A, iA 100] (.tup [bA true, bA true]) (ELt.closedPu co_h1_100)
noncomputable def ELr9 : Env Tryz.prog := Env.addCP ELr8 13 [h2A, iA 100] (.tup [bA true, bA true]) (ELt.closedPu co_h2_100)
noncomputable def ELr10 : Env Tryz.prog := Env.addCP ELr9 13 [h3A, iA 100] (.tup [bA true, bA true]) (ELs.closedPu co_h3_100)
noncomputable def ELr11 : Env Tryz.prog := Env.addCP ELr10 13 [h4A, iA 100] (.tup [bA true, bA true]) (ELt.closedPu co_h4_100)
noncomputable def ELr12 : Env Tryz.prog := Env.addCP ELr11 13 [h5A, iA 100] (.tup [bA false, bA true]) (ELt.closedPu co_h5_100)
noncomputable def ELr13 : Env Tryz.prog := Env.addCP ELr12 13 [h6A, iA 100] (.tup [bA false, bA true]) (ELt.closedPu co_h6_100)
noncomputable def ELr14 : Env Tryz.prog := Env.addCP ELr13 13 [h7A, iA 100] (.tup [bA false, bA true]) (ELt.closedPu co_h7_100)
noncomputable def ELr15 : Env Tryz.prog := Env.addCP ELr14 13 [haA, iA 100] (.tup [bA true, bA true]) (ELt.closedPu co_ha_100)
noncomputable def ELr16 : Env Tryz.prog := Env.addCP ELr15 13 [h1A, iA 1] (.tup [bA false, bA false]) (ELt.closedPu co_h1_1)
noncomputable def ELr17 : Env Tryz.prog := Env.addCP ELr16 13 [h1A, iA 2] (.tup [bA false, bA false]) (ELt.closedPu co_h1_2)
noncomputable def ELr18 : Env Tryz.prog := Env.addCP ELr17 13 [h1A, iA 3] (.tup [bA false, bA false]) (ELt.closedPu co_h1_3)
noncomputable def ELr19 : Env Tryz.prog := Env.addCP ELr18 13 [h1A, iA 4] (.tup [bA false, bA false]) (ELt.closedPu co_h1_4)
noncomputable def ELr20 : Env Tryz.prog := Env.addCP ELr19 13 [h1A, iA 5] (.tup [bA true, bA true]) (ELt.closedPu co_h1_5)
noncomputable def ELr21 : Env Tryz.prog := Env.addCP ELr20 13 [h1A, iA 6] (.tup [bA true, bA true]) (ELt.closedPu co_h1_6)
noncomputable def ELr22 : Env Tryz.prog := Env.addCP ELr21 13 [h1A, iA 7] (.tup [bA true, bA true]) (ELt.closedPu co_h1_7)
noncomputable def ELn : Env Tryz.prog := ELr22
end Go.Proofs.YthdgoefjkfafkaaGreatDoor
