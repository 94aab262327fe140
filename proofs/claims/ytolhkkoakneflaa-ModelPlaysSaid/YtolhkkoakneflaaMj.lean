/- What an operation by small numbers does to a model: plain; no statement. -/
import Derived.Test.YtolhkkoakneflaaMi
import Derived.Test.YtolhkkoakneflaaMl
set_option linter.unusedVariables false
set_option linter.unusedSimpArgs false
namespace Go.Proofs.Ytolhkkoakneflaa
open Go Go.Eng

theorem same_iff (t : CT) (hf : t.flat = true) (a b : t.den) : t.same a b = true ↔ a = b := ⟨fun h => same_eq t hf h, fun h => by rw [h]; exact same_refl t b⟩
theorem alook_aset (k k' : rP.den) (v : rCell.den) : ∀ (M : MapT), alook (vt := rCell) k (aset k' v M) = if k = k' then some v else alook (vt := rCell) k M
  | [] => by
    simp only [aset, alook]
    by_cases h : k = k'
    · rw [if_pos h, if_pos ((same_iff rP rfl k k').2 h)]
    · rw [if_neg h, if_neg (fun e => h ((same_iff rP rfl k k').1 e))]
  | q :: r => by
    have ih := alook_aset k k' v r
    simp only [aset]
    by_cases h1 : k' = q.1
    · rw [if_pos ((same_iff rP rfl k' q.1).2 h1)]
      simp only [alook]
      by_cases h : k = k'
      · rw [if_pos h, if_pos ((same_iff rP rfl k q.1).2 (h.trans h1))]
      · have hn : ¬ rP.same k q.1 = true := fun e => h (((same_iff rP rfl k q.1).1 e).trans h1.symm)
        rw [if_neg h, if_neg hn, if_neg hn]
    · rw [if_neg (fun e => h1 ((same_iff rP rfl k' q.1).1 e))]
      simp only [alook]
      by_cases h2 : k = q.1
      · have h : ¬ k = k' := fun e => h1 (e.symm.trans h2)
        rw [if_pos ((same_iff rP rfl k q.1).2 h2), if_neg h, if_pos ((same_iff rP rfl k q.1).2 h2)]
      · have hn : ¬ rP.same k q.1 = true := fun e => h2 ((same_iff rP rfl k q.1).1 e)
        rw [if_neg hn, if_neg hn, ih]

def rowN (n : Nat) : ByteArray := ByteArray.mk #[114] ++ strOfNums [((n : Nat) : Int)]
def colN (n : Nat) : ByteArray := ByteArray.mk #[99] ++ strOfNums [((n : Nat) : Int)]
end Go.Proofs.Ytolhkkoakneflaa
