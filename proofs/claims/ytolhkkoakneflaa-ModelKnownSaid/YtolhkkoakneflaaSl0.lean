/- A seek's loop: what it is made of; no statement. -/
import Derived.Test.YtolhkkoakneflaaCl4
set_option linter.unusedVariables false
set_option linter.unusedSimpArgs false
namespace Go.Proofs.Ytolhkkoakneflaa
open Go Go.Eng

noncomputable def lSk : Code := (theLoop Try.prog 31 4).getD .skip
theorem lSk_eq : theLoop Try.prog 31 4 = some lSk := by kernel_rfl
noncomputable def msSk : MS := (mapShape lSk).getD msZ
theorem msSk_eq : mapShape lSk = some msSk := by kernel_rfl
def hpS (o : rOp.den) (z out : rRes.den) (it mp : AB) : List AB := [mp, .cells [.mref 0], .cells (rOp.cells o), .cells (rRes.cells z), .cells (rRes.cells out), it]
abbrev rvS : List AV := [.one (.ptr 5 0), .one (.fn 37 [(2, 0), (4, 0)])]
/-- What a seek has found behind an entry. -/
def skStep (o : rOp.den) (out : rRes.den) (k : rPl.den) (x : rCell.den) : rRes.den :=
  bif (ByteArray.toList k.snd.fst == ByteArray.toList o.snd.snd.fst) then
    (bif Op.bytesLess (ByteArray.toList k.fst) (ByteArray.toList o.snd.fst) then out
    else bif x.snd.snd.snd.fst then out
    else bif out.snd.fst then (bif (Op.bytesLess (ByteArray.toList out.snd.snd.fst) (ByteArray.toList k.fst) || ByteArray.toList out.snd.snd.fst == ByteArray.toList k.fst) then out else (0, true, k.fst, x.snd.snd.snd.snd.fst, x.snd.snd.fst, ()))
    else (0, true, k.fst, x.snd.snd.snd.snd.fst, x.snd.snd.fst, ()))
  else out
end Go.Proofs.Ytolhkkoakneflaa
