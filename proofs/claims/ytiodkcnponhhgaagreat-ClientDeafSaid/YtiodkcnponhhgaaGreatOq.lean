/- Lists by runs; no statement. -/
import Derived.Test.YtiodkcnponhhgaaGreatVar
import Derived.Test.YtiodkcnponhhgaaGreatSl
set_option linter.unusedVariables false
set_option linter.unusedSimpArgs false
namespace Go.Proofs.YtiodkcnponhhgaaGreat
/-- So many of one, so many of the other, in turns. -/
def rl (b : Bool) : List Nat → List Bool
  | [] => []
  | n :: r => List.replicate n b ++ rl (!b) r
def rp (n : Nat) (x : Bool) (l : List Bool) : List Bool := List.replicate n x ++ l
open Go Go.Eng
def q1 (o : rOp.den) : Bool := o.1 == o.1 && (o.2.1 == o.2.1 && (o.2.2.1 == o.2.2.1 && (o.2.2.2.1 == (ByteArray.mk #[]) && (o.2.2.2.2.1 == false && (o.2.2.2.2.2.1 == (ByteArray.mk #[]) && true)))))
def q2 (o : rOp.den) : Bool := o.1 == o.1 && (o.2.1 == o.2.1 && (o.2.2.1 == o.2.2.1 && (o.2.2.2.1 == o.2.2.2.1 && (o.2.2.2.2.1 == false && (o.2.2.2.2.2.1 == (ByteArray.mk #[]) && true)))))
def q3 (o : rOp.den) : Bool := o.1 == o.1 && (o.2.1 == o.2.1 && (o.2.2.1 == o.2.2.1 && (o.2.2.2.1 == o.2.2.2.1 && (o.2.2.2.2.1 == o.2.2.2.2.1 && (o.2.2.2.2.2.1 == o.2.2.2.2.2.1 && true)))))
def q4 (o : rOp.den) : Bool := o.1 == o.1 && (o.2.1 == o.2.1 && (o.2.2.1 == o.2.2.1 && (o.2.2.2.1 == o.2.2.2.1 && (o.2.2.2.2.1 == o.2.2.2.2.1 && (o.2.2.2.2.2.1 == (ByteArray.mk #[]) && true)))))
end Go.Proofs.YtiodkcnponhhgaaGreat
