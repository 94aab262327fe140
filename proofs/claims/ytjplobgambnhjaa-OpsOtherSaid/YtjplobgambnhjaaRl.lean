/- Lists by runs; no statement. -/
import Derived.Test.YtjplobgambnhjaaBase
namespace Go.Proofs.Ytjplobgambnhjaa
/-- So many of one, so many of the other, in turns. -/
def rl (b : Bool) : List Nat → List Bool
  | [] => []
  | n :: r => List.replicate n b ++ rl (!b) r
def rp (n : Nat) (x : Bool) (l : List Bool) : List Bool := List.replicate n x ++ l
end Go.Proofs.Ytjplobgambnhjaa
