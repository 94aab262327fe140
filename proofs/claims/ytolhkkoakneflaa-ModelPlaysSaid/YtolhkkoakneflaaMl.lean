/- ModelEffects, its run; no statement. -/
import Derived.Test.YtolhkkoakneflaaMf
set_option linter.unusedVariables false
set_option linter.unusedSimpArgs false
namespace Go.Proofs.Ytolhkkoakneflaa
open Go Go.Eng

theorem baRfl (a : ByteArray) : (a == a) = true := (Go.MapKept.bytes_beq a a).2 rfl
end Go.Proofs.Ytolhkkoakneflaa
