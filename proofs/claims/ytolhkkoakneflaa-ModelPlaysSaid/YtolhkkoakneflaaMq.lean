/- Which operations may be (words); no statement. -/
import Derived.Test.YtolhkkoakneflaaGsa
set_option linter.unusedVariables false
set_option linter.unusedSimpArgs false
namespace Go.Proofs.Ytolhkkoakneflaa
open Go Go.Eng
def q1 (o : rOp.den) : Bool := o.fst == o.fst && (o.snd.fst == o.snd.fst && (o.snd.snd.fst == o.snd.snd.fst && (o.snd.snd.snd.fst == (ByteArray.mk #[]) && (o.snd.snd.snd.snd.fst == false && (o.snd.snd.snd.snd.snd.fst == (ByteArray.mk #[]) && true)))))
def q2 (o : rOp.den) : Bool := o.fst == o.fst && (o.snd.fst == o.snd.fst && (o.snd.snd.fst == o.snd.snd.fst && (o.snd.snd.snd.fst == o.snd.snd.snd.fst && (o.snd.snd.snd.snd.fst == false && (o.snd.snd.snd.snd.snd.fst == (ByteArray.mk #[]) && true)))))
def q3 (o : rOp.den) : Bool := o.fst == o.fst && (o.snd.fst == o.snd.fst && (o.snd.snd.fst == o.snd.snd.fst && (o.snd.snd.snd.fst == o.snd.snd.snd.fst && (o.snd.snd.snd.snd.fst == o.snd.snd.snd.snd.fst && (o.snd.snd.snd.snd.snd.fst == o.snd.snd.snd.snd.snd.fst && true)))))
def q4 (o : rOp.den) : Bool := o.fst == o.fst && (o.snd.fst == o.snd.fst && (o.snd.snd.fst == o.snd.snd.fst && (o.snd.snd.snd.fst == o.snd.snd.snd.fst && (o.snd.snd.snd.snd.fst == o.snd.snd.snd.snd.fst && (o.snd.snd.snd.snd.snd.fst == (ByteArray.mk #[]) && true)))))
end Go.Proofs.Ytolhkkoakneflaa
