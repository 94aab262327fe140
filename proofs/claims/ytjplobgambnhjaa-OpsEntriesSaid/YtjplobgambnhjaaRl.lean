/- Lists by runs; no statement. -/
import Derived.Test.YtjplobgambnhjaaBase
namespace Go.Proofs.Ytjplobgambnhjaa
/-- So many of one, so many of the other, in turns. -/
def rl (b : Bool) : List Nat → List Bool
  | [] => []
  | n :: r => List.replicate n b ++ rl (!b) r
def rp (n : Nat) (x : Bool) (l : List Bool) : List Bool := List.replicate n x ++ l
theorem rp_all (n : Nat) (x : Bool) (l : List Bool) : ((rp n x l).all fun c => c) = ((n == 0 || x) && l.all fun c => c) := by
  unfold rp
  rw [List.all_append]
  congr 1
  cases n with
  | zero => rfl
  | succ n => cases x <;> simp
end Go.Proofs.Ytjplobgambnhjaa
