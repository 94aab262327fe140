/- rlog.all, handed an own array: its contract; no statement. -/
import Derived.Test.YtmbekpoelkcceaaRea
set_option linter.unusedVariables false
set_option linter.unusedSimpArgs false
namespace Go.Proofs.Ytmbekpoelkcceaa
open Go Go.Eng

/-- What a copy into a new array of n leaves. -/
def madeN (n : Nat) (l : List rEntry.den) : List rEntry.den := List.take 0 (List.replicate n rEntry.dflt) ++ (List.take (Nat.min l.length n) l ++ List.drop (0 + (List.take (Nat.min l.length n) l).length) (List.replicate n rEntry.dflt))
theorem madeN_eq {n : Nat} {l : List rEntry.den} (h : l.length = n) : madeN n l = l := by
  subst h
  unfold madeN
  rw [show Nat.min l.length l.length = l.length from Nat.min_self _, List.take_length, List.take_zero, Nat.zero_add, List.drop_of_length_le (by simp)]
  simp
theorem alm_heap0 (off n : Nat) (y : List rEntry.den) (hn : off + n ≤ y.length) (hl : n ≤ 1000) (hf : (cutL off n y).all entFits = true) :
    HeapCall Try.prog 33 [.one (.msl rEntry 0 off n)] [.arr rEntry y] (.one (.asl rEntry 1 0 n n)) [.arr rEntry y, .arr rEntry (cutL off n y)] := by
  have hm := madeN_eq (cutL_len hn)
  have h := EAlm1.heap_ok (f := 33) (args := [.one (.msl rEntry 0 off n)]) (hp := [.arr rEntry y]) (os := [true]) (r := .one (.asl rEntry 1 0 n n)) (hp' := [.arr rEntry y, .arr rEntry (madeN n (cutL off n y))])
    (cs := [decide ((0 : Int) = 0), decide ((1 : Nat) = 1 ∧ (0 : Nat) = 0 ∧ n = n ∧ ((n : Nat) : Int) = ((n : Nat) : Int) ∧ n = (madeN n (cutL off n y)).length ∧ n ≤ maxLen), (madeN n (cutL off n y)).all entFits,
      decide (0 ≤ ((n : Nat) : Int) ∧ ((n : Nat) : Int) ≤ ((n : Nat) : Int) ∧ ((264 : Nat) : Int) * ((n : Nat) : Int) ≤ 281474976710656 ∧ ((n : Nat) : Int) ≤ 9223372036854775807)]) (by kernel_rfl) ?_
  · rw [hm] at h; exact h
  · rw [hm]
    refine allTc (by simp) (allTc ?_ (allTc hf (allT1 ?_)))
    · rw [decide_eq_true_eq]
      exact ⟨rfl, rfl, rfl, rfl, (cutL_len hn).symm, by unfold maxLen; omega⟩
    · rw [decide_eq_true_eq]
      refine ⟨by omega, by omega, ?_, by omega⟩
      show (264 : Int) * ((n : Nat) : Int) ≤ 281474976710656
      omega
theorem alm_heap (off n : Nat) (y : List rEntry.den) (hn : off + n ≤ y.length) (hl : n ≤ 1000) (hf : (cutL off n y).all entFits = true) :
    HeapCall Try.prog 33 [.one (.msl rEntry 0 off n)] [.arr rEntry y] (vL rEntry (cutL off n y)) [.arr rEntry y] := by
  have h := (alm_heap0 off n y hn hl hf).ice (args := [.one (.msl rEntry 0 off n)]) (hp := [.arr rEntry y]) (r1 := .one (.sl rEntry (((cutL off n y).drop 0).take n) .shared)) (hq := [.arr rEntry y]) 1 (by simp) rfl (by kernel_rfl) (by kernel_rfl) [0] (by kernel_rfl) (by kernel_rfl) rfl
  rw [List.drop_zero, List.take_of_length_le (by rw [cutL_len hn]; exact Nat.le_refl _)] at h
  exact h
end Go.Proofs.Ytmbekpoelkcceaa
