/- What an operation by small numbers answers and leaves: plain; no statement. -/
import Derived.Test.YtolhkkoakneflaaMj
set_option linter.unusedVariables false
set_option linter.unusedSimpArgs false
namespace Go.Proofs.Ytolhkkoakneflaa
open Go Go.Eng

abbrev e0B : ByteArray := ByteArray.mk #[]
section
variable (ρ γ : Nat) (n w : Int) (g : Bool) (v x y : ByteArray) (b0 b1 h : Bool)
end
end Go.Proofs.Ytolhkkoakneflaa
