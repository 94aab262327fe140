/- Closed calls of RaftKnown as contracts of the engine; no statement. -/
import Derived.Test.YthdgoefjkfafkaaGreatRkp0
import Derived.Test.YthdgoefjkfafkaaGreatRkp1
import Derived.Test.YthdgoefjkfafkaaGreatRkp2
import Derived.Test.YthdgoefjkfafkaaGreatRkp3
import Derived.Test.YthdgoefjkfafkaaGreatRkp4
import Derived.Test.YthdgoefjkfafkaaGreatRkp5
set_option linter.unusedVariables false
set_option maxRecDepth 100000
namespace Go.Proofs.YthdgoefjkfafkaaGreat
open Go Go.Eng

noncomputable def Ec1 : Env Tryz.prog := Er.addW1 4 cc0 cc0_ok
noncomputable def Ec2 : Env Tryz.prog := Ec1.addW1 9 cc1 cc1_ok
noncomputable def Ec3 : Env Tryz.prog := Ec2.addW1 9 cc2 cc2_ok
noncomputable def Ec4 : Env Tryz.prog := Ec3.addW1 9 cc3 cc3_ok
noncomputable def Ec5 : Env Tryz.prog := Ec4.addW1 9 cc4 cc4_ok
noncomputable def Ec6 : Env Tryz.prog := Ec5.addW1 10 cc5 cc5_ok
noncomputable def Ec7 : Env Tryz.prog := Ec6.addW1 10 cc6 cc6_ok
noncomputable def Ec8 : Env Tryz.prog := Ec7.addW1 12 cc7 cc7_ok
noncomputable def Ec9 : Env Tryz.prog := Ec8.addW1 13 cc8 cc8_ok
noncomputable def Ec10 : Env Tryz.prog := Ec9.addW1 13 cc9 cc9_ok
noncomputable def Ec11 : Env Tryz.prog := Ec10.addW1 13 cc10 cc10_ok
noncomputable def Ec12 : Env Tryz.prog := Ec11.addW1 15 cc11 cc11_ok
noncomputable def Ec13 : Env Tryz.prog := Ec12.addW1 15 cc12 cc12_ok
noncomputable def Ec14 : Env Tryz.prog := Ec13.addW1 10 cc13 cc13_ok
noncomputable def Ec15 : Env Tryz.prog := Ec14.addW1 12 cc14 cc14_ok
noncomputable def Ec16 : Env Tryz.prog := Ec15.addW1 4 cc15 cc15_ok
noncomputable def Ec17 : Env Tryz.prog := Ec16.addW1 4 cc16 cc16_ok
noncomputable def Ec18 : Env Tryz.prog := Ec17.addW1 4 cc17 cc17_ok
noncomputable def Ec19 : Env Tryz.prog := Ec18.addW1 4 cc18 cc18_ok
noncomputable def Ec20 : Env Tryz.prog := Ec19.addW1 4 cc19 cc19_ok
noncomputable def Ec21 : Env Tryz.prog := Ec20.addW1 4 cc20 cc20_ok
noncomputable def Ec22 : Env Tryz.prog := Ec21.addW1 4 cc21 cc21_ok
noncomputable def Ec23 : Env Tryz.prog := Ec22.addW1 4 cc22 cc22_ok
noncomputable def Ec24 : Env Tryz.prog := Ec23.addW1 10 cc23 cc23_ok
noncomputable def Ec25 : Env Tryz.prog := Ec24.addW1 9 cc24 cc24_ok
noncomputable def Ec26 : Env Tryz.prog := Ec25.addW1 9 cc25 cc25_ok
noncomputable def Ec27 : Env Tryz.prog := Ec26.addW1 9 cc26 cc26_ok
noncomputable def Ec28 : Env Tryz.prog := Ec27.addW1 9 cc27 cc27_ok
noncomputable def Ec29 : Env Tryz.prog := Ec28.addW1 10 cc28 cc28_ok
noncomputable def Ec30 : Env Tryz.prog := Ec29.addW1 10 cc29 cc29_ok
noncomputable def Ec31 : Env Tryz.prog := Ec30.addW1 10 cc30 cc30_ok
noncomputable def Ec32 : Env Tryz.prog := Ec31.addW1 13 cc31 cc31_ok
noncomputable def Ec33 : Env Tryz.prog := Ec32.addW1 10 cc32 cc32_ok
noncomputable def Ec34 : Env Tryz.prog := Ec33.addW1 10 cc33 cc33_ok
noncomputable def Ec35 : Env Tryz.prog := Ec34.addW1 10 cc34 cc34_ok
noncomputable def Ec36 : Env Tryz.prog := Ec35.addW1 12 cc35 cc35_ok
noncomputable def Ec37 : Env Tryz.prog := Ec36.addW1 15 cc36 cc36_ok
noncomputable def Ec38 : Env Tryz.prog := Ec37.addW1 9 cc37 cc37_ok
noncomputable def Ec39 : Env Tryz.prog := Ec38.addW1 4 cc38 cc38_ok
noncomputable def Ec40 : Env Tryz.prog := Ec39.addW1 9 cc39 cc39_ok
noncomputable def Ec41 : Env Tryz.prog := Ec40.addW1 9 cc40 cc40_ok
noncomputable def Ec42 : Env Tryz.prog := Ec41.addW1 9 cc41 cc41_ok
noncomputable def Ec43 : Env Tryz.prog := Ec42.addW1 9 cc42 cc42_ok
noncomputable def Ec44 : Env Tryz.prog := Ec43.addW1 10 cc43 cc43_ok
noncomputable def Ec45 : Env Tryz.prog := Ec44.addW1 10 cc44 cc44_ok
theorem cc45_ok : CC.holds Tryz.prog 18 cc45 := Ec45.closedJ (by kernel_rfl)
noncomputable def Ec46 : Env Tryz.prog := Ec45.addW1 18 cc45 cc45_ok
end Go.Proofs.YthdgoefjkfafkaaGreat
