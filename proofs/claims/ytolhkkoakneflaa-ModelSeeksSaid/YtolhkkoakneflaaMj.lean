/- What an operation by small numbers does to a model: plain; no statement. -/
import Derived.Test.YtolhkkoakneflaaMi
import Derived.Test.YtolhkkoakneflaaMl
set_option linter.unusedVariables false
set_option linter.unusedSimpArgs false
namespace Go.Proofs.Ytolhkkoakneflaa
open Go Go.Eng

theorem same_iff (t : CT) (hf : t.flat = true) (a b : t.den) : t.same a b = true ↔ a = b := ⟨fun h => same_eq t hf h, fun h => by rw [h]; exact same_refl t b⟩
theorem alook_aset (k k' : rP.den) (v : rCell.den) : ∀ (M : MapT), alook (vt := rCell) k (aset k' v M) = if k = k' then some v else alook (vt := rCell) k M
  | [] => by
    simp only [aset, alook]
    by_cases h : k = k'
    · rw [if_pos h, if_pos ((same_iff rP rfl k k').2 h)]
    · rw [if_neg h, if_neg (fun e => h ((same_iff rP rfl k k').1 e))]
  | q :: r => by
    have ih := alook_aset k k' v r
    simp only [aset]
    by_cases h1 : k' = q.1
    · rw [if_pos ((same_iff rP rfl k' q.1).2 h1)]
      simp only [alook]
      by_cases h : k = k'
      · rw [if_pos h, if_pos ((same_iff rP rfl k q.1).2 (h.trans h1))]
      · have hn : ¬ rP.same k q.1 = true := fun e => h (((same_iff rP rfl k q.1).1 e).trans h1.symm)
        rw [if_neg h, if_neg hn, if_neg hn]
    · rw [if_neg (fun e => h1 ((same_iff rP rfl k' q.1).1 e))]
      simp only [alook]
      by_cases h2 : k = q.1
      · have h : ¬ k = k' := fun e => h1 (e.symm.trans h2)
        rw [if_pos ((same_iff rP rfl k q.1).2 h2), if_neg h, if_pos ((same_iff rP rfl k q.1).2 h2)]
      · have hn : ¬ rP.same k q.1 = true := fun e => h2 ((same_iff rP rfl k q.1).1 e)
        rw [if_neg hn, if_neg hn, ih]

def rowN (n : Nat) : ByteArray := ByteArray.mk #[114] ++ strOfNums [((n : Nat) : Int)]
def colN (n : Nat) : ByteArray := ByteArray.mk #[99] ++ strOfNums [((n : Nat) : Int)]
theorem rowN_size (n : Nat) : (rowN n).size = 2 := by unfold rowN; rw [ByteArray.size_append, one_size]; rfl
theorem colN_size (n : Nat) : (colN n).size = 2 := by unfold colN; rw [ByteArray.size_append, one_size]; rfl
theorem two_inj (h : UInt8) {n m : Nat} (hn : n < 256) (hm : m < 256) (e : ByteArray.mk #[h] ++ strOfNums [((n : Nat) : Int)] = ByteArray.mk #[h] ++ strOfNums [((m : Nat) : Int)]) : n = m := by
  have e1 := congrArg (fun s => s.data.toList) e
  simp only [ByteArray.data_append, Array.toList_append] at e1
  have e2 := List.append_cancel_left e1
  simp only [strOfNums, List.map_cons, List.map_nil, List.cons.injEq, and_true, Int.toNat_natCast] at e2
  have e3 := congrArg UInt8.toNat e2
  rw [UInt8.toNat_ofNat', UInt8.toNat_ofNat'] at e3
  omega
theorem rowN_inj {n m : Nat} (hn : n < 256) (hm : m < 256) (e : rowN n = rowN m) : n = m := two_inj 114 hn hm e
theorem colN_inj {n m : Nat} (hn : n < 256) (hm : m < 256) (e : colN n = colN m) : n = m := two_inj 99 hn hm e
theorem colN_ne (n : Nat) : colN n ≠ ByteArray.mk #[] := fun e => by
  have := congrArg ByteArray.size e
  rw [colN_size] at this
  exact absurd this (by decide)
theorem beqF {a b : ByteArray} (h : a ≠ b) : (a == b) = false := by
  rw [Bool.eq_false_iff]; intro e; exact h ((Go.MapKept.bytes_beq a b).1 e)

/-- The newest cells of a row that has a count, or a cell, or both. -/
theorem nsw_two (r c : ByteArray) (hc : c ≠ ByteArray.mk #[]) (n w : Int) (g : Bool) (v : ByteArray) (b0 b1 : Bool) :
    nsw ((bif b0 then [(r, ByteArray.mk #[], n, false, ByteArray.mk #[], ())] else []) ++ (bif b1 then [(r, c, w, g, v, ())] else [])) r c = (bif b1 then ((r, c, w, g, v, ()), true) else (rCell.dflt, false)) ∧
    nsw ((bif b0 then [(r, ByteArray.mk #[], n, false, ByteArray.mk #[], ())] else []) ++ (bif b1 then [(r, c, w, g, v, ())] else [])) r (ByteArray.mk #[]) = (bif b0 then ((r, ByteArray.mk #[], n, false, ByteArray.mk #[], ()), true) else (rCell.dflt, false)) := by
  have h1 : (ByteArray.mk #[] == c) = false := beqF (fun e => hc e.symm)
  have h2 : (c == ByteArray.mk #[]) = false := beqF hc
  cases b0 <;> cases b1 <;> constructor <;> simp [nsw, nst, h1, h2, baRfl]
end Go.Proofs.Ytolhkkoakneflaa
