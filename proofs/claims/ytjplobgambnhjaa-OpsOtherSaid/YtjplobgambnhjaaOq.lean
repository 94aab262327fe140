/- Which operations may be (words); no statement. -/
import Derived.Test.YtjplobgambnhjaaSl
set_option linter.unusedVariables false
set_option linter.unusedSimpArgs false
namespace Go.Proofs.Ytjplobgambnhjaa
open Go Go.Eng
def q1 (o : rOp.den) : Bool := o.1 == o.1 && (o.2.1 == o.2.1 && (o.2.2.1 == o.2.2.1 && (o.2.2.2.1 == (ByteArray.mk #[]) && (o.2.2.2.2.1 == false && (o.2.2.2.2.2.1 == (ByteArray.mk #[]) && true)))))
def q2 (o : rOp.den) : Bool := o.1 == o.1 && (o.2.1 == o.2.1 && (o.2.2.1 == o.2.2.1 && (o.2.2.2.1 == o.2.2.2.1 && (o.2.2.2.2.1 == false && (o.2.2.2.2.2.1 == (ByteArray.mk #[]) && true)))))
def q3 (o : rOp.den) : Bool := o.1 == o.1 && (o.2.1 == o.2.1 && (o.2.2.1 == o.2.2.1 && (o.2.2.2.1 == o.2.2.2.1 && (o.2.2.2.2.1 == o.2.2.2.2.1 && (o.2.2.2.2.2.1 == o.2.2.2.2.2.1 && true)))))
def q4 (o : rOp.den) : Bool := o.1 == o.1 && (o.2.1 == o.2.1 && (o.2.2.1 == o.2.2.1 && (o.2.2.2.1 == o.2.2.2.1 && (o.2.2.2.2.1 == o.2.2.2.2.1 && (o.2.2.2.2.2.1 == (ByteArray.mk #[]) && true)))))
end Go.Proofs.Ytjplobgambnhjaa
