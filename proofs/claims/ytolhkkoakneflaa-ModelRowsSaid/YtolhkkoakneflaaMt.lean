/- A model and what is known of it: plain; no statement. -/
import Derived.Test.YtolhkkoakneflaaMk
set_option linter.unusedVariables false
set_option linter.unusedSimpArgs false
namespace Go.Proofs.Ytolhkkoakneflaa
open Go Go.Eng

/-- What is known of a model: the rows' counts, the cells that are there. -/
structure MInv (M : MapT) (C W : Nat → Int) (V : Nat → ByteArray) (n : Int) : Prop where
  cnt : ∀ r, r < 4 → alook (vt := rCell) (rowN r, e0B, ()) M = if C r = 0 then none else some (rowN r, e0B, C r, false, e0B, ())
  cell : ∀ r, r < 4 → ∀ c, c < 3 → ∃ (b : Bool) (w : Int) (g : Bool) (v : ByteArray), alook (vt := rCell) (rowN r, colN c, ()) M = (if b = true then some (rowN r, colN c, w, g, v, ()) else none) ∧ (b && !g) = decide (0 < W (3 * r + c)) ∧ ((b && !g) = true → w = W (3 * r + c) ∧ v = V (3 * r + c))
  pos : ∀ r, r < 4 → 0 ≤ C r ∧ C r ≤ n
  vpos : ∀ j, j < 12 → 0 ≤ W j ∧ W j ≤ n
theorem MInv.more {M : MapT} {C W : Nat → Int} {V : Nat → ByteArray} {n : Int} (I : MInv M C W V n) : MInv M C W V (n + 1) :=
  ⟨I.cnt, I.cell, fun r hr => by have := I.pos r hr; omega, fun j hj => by have := I.vpos j hj; omega⟩

section
variable {M : MapT} {C W : Nat → Int} {V : Nat → ByteArray} {n : Int} {r c : Nat}
end
end Go.Proofs.Ytolhkkoakneflaa
