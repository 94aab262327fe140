/- LinearKnown: closed calls, each run by itself; no statement. -/
import Derived.Test.YthdgoefjkfafkaaGreatDoorLfa
import Derived.Test.YthdgoefjkfafkaaGreatDoorLfb
import Derived.Test.YthdgoefjkfafkaaGreatDoorLe11
set_option linter.unusedVariables false
set_option maxRecDepth 1000000
namespace Go.Proofs.YthdgoefjkfafkaaGreatDoor
open Go Go.Eng

noncomputable def ELc : Env Tryz.prog := Env.addCP ELn fCo [nilE, iA 100] (.tup [bA true, bA true, eA 0]) ld_nil
noncomputable def ELc0 : Env Tryz.prog := Env.addCP ELc fCo [h1A, iA 100] (.tup [bA true, bA true, eA 0]) ld_h1_100
noncomputable def ELc1 : Env Tryz.prog := Env.addCP ELc0 fCo [h2A, iA 100] (.tup [bA true, bA true, eA 0]) ld_h2_100
noncomputable def ELc2 : Env Tryz.prog := Env.addCP ELc1 fCo [h3A, iA 100] (.tup [bA true, bA true, eA 0]) ld_h3_100
noncomputable def ELc3 : Env Tryz.prog := Env.addCP ELc2 fCo [h4A, iA 100] (.tup [bA true, bA true, eA 0]) ld_h4_100
noncomputable def ELc4 : Env Tryz.prog := Env.addCP ELc3 fCo [h5A, iA 100] (.tup [bA false, bA true, eA 0]) ld_h5_100
noncomputable def ELc5 : Env Tryz.prog := Env.addCP ELc4 fCo [h6A, iA 100] (.tup [bA false, bA true, eA 0]) ld_h6_100
noncomputable def ELc6 : Env Tryz.prog := Env.addCP ELc5 fCo [h7A, iA 100] (.tup [bA false, bA true, eA 0]) ld_h7_100
noncomputable def ELc7 : Env Tryz.prog := Env.addCP ELc6 fCo [haA, iA 100] (.tup [bA true, bA true, eA 0]) ld_ha_100
noncomputable def ELc8 : Env Tryz.prog := Env.addCP ELc7 fCo [h1A, iA 1] (.tup [bA false, bA false, eA 0]) ld_h1_1
noncomputable def ELc9 : Env Tryz.prog := Env.addCP ELc8 fCo [h1A, iA 2] (.tup [bA false, bA false, eA 0]) ld_h1_2
noncomputable def ELc10 : Env Tryz.prog := Env.addCP ELc9 fCo [h1A, iA 3] (.tup [bA false, bA false, eA 0]) ld_h1_3
noncomputable def ELc11 : Env Tryz.prog := Env.addCP ELc10 fCo [h1A, iA 4] (.tup [bA false, bA false, eA 0]) ld_h1_4
noncomputable def ELc12 : Env Tryz.prog := Env.addCP ELc11 fCo [h1A, iA 5] (.tup [bA true, bA true, eA 0]) ld_h1_5
noncomputable def ELc13 : Env Tryz.prog := Env.addCP ELc12 fCo [h1A, iA 6] (.tup [bA true, bA true, eA 0]) ld_h1_6
noncomputable def ELc14 : Env Tryz.prog := Env.addCP ELc13 fCo [h1A, iA 7] (.tup [bA true, bA true, eA 0]) ld_h1_7
noncomputable def ELf : Env Tryz.prog := ELc14
end Go.Proofs.YthdgoefjkfafkaaGreatDoor
