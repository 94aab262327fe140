/- Which operations may be: the program and the document alike; no statement. -/
import Derived.Test.YtjplobgambnhjaaGreatOchkA
import Derived.Test.YtjplobgambnhjaaGreatOchkB
set_option linter.unusedVariables false
set_option linter.unusedSimpArgs false
namespace Go.Proofs.YtjplobgambnhjaaGreat
open Go Go.Eng

theorem toList_len (x : ByteArray) : x.toList.length = x.size := by
  rw [ByteArray.toList_eq, Array.length_toList]; rfl
theorem emp_eq (x : ByteArray) : (ByteArray.toList x == (ByteArray.mk #[]).toList) = !decide (((ByteArray.size x : Nat) : Int) ≥ 1) := by
  have h0 : (ByteArray.mk #[]).toList = [] := by
    apply List.eq_nil_of_length_eq_zero; rw [toList_len]; rfl
  rw [h0]
  cases h : x.toList with
  | nil =>
    have : x.size = 0 := by rw [← toList_len, h]; rfl
    rw [this]; rfl
  | cons a r =>
    have : x.size = r.length + 1 := by rw [← toList_len, h]; rfl
    rw [this, decide_eq_true (by omega)]; rfl
theorem max_gt (a b : Int) : decide ((if a > b then a else b) > 256) = !(decide (b ≤ 256) && decide (a ≤ 256)) := by
  rw [Bool.eq_iff_iff]; simp; split <;> omega
theorem gt16 (a : Int) : decide (a > 16) = !decide (a ≤ 16) := by
  rw [Bool.eq_iff_iff]; simp
set_option maxRecDepth 100000 in
theorem chk_same (o : rOp.den) : chkV o = chkW o := by
  unfold chkV chkW
  simp only [emp_eq, max_gt, gt16]
  generalize q1 o = q1
  generalize q2 o = q2
  generalize q3 o = q3
  generalize q4 o = q4
  generalize o.snd.snd.snd.snd.fst = h
  generalize decide (((ByteArray.size o.snd.fst : Nat) : Int) ≥ 1) = u1
  generalize decide (((ByteArray.size o.snd.fst : Nat) : Int) ≤ 24) = u2
  generalize decide (((ByteArray.size o.snd.fst : Nat) : Int) ≤ 32) = u3
  generalize decide (((ByteArray.size o.snd.snd.fst : Nat) : Int) ≥ 1) = c1
  generalize decide (((ByteArray.size o.snd.snd.fst : Nat) : Int) ≤ 16) = c2
  generalize decide (((ByteArray.size o.snd.snd.snd.fst : Nat) : Int) ≤ 256) = v
  generalize decide (((ByteArray.size o.snd.snd.snd.snd.snd.fst : Nat) : Int) ≤ 256) = x
  generalize o.fst = n
  by_cases h1 : n = 1
  · subst h1; revert q1 q2 q3 q4 h u1 u2 u3 c1 c2 v x; decide +kernel
  by_cases h2 : n = 2
  · subst h2; revert q1 q2 q3 q4 h u1 u2 u3 c1 c2 v x; decide +kernel
  by_cases h3 : n = 3
  · subst h3; revert q1 q2 q3 q4 h u1 u2 u3 c1 c2 v x; decide +kernel
  by_cases h4 : n = 4
  · subst h4; revert q1 q2 q3 q4 h u1 u2 u3 c1 c2 v x; decide +kernel
  by_cases h5 : n = 5
  · subst h5; revert q1 q2 q3 q4 h u1 u2 u3 c1 c2 v x; decide +kernel
  rw [show (n == 1) = false from beq_eq_false_iff_ne.2 h1, show (n == 2) = false from beq_eq_false_iff_ne.2 h2, show (n == 3) = false from beq_eq_false_iff_ne.2 h3, show (n == 4) = false from beq_eq_false_iff_ne.2 h4, show (n == 5) = false from beq_eq_false_iff_ne.2 h5]
  clear h1 h2 h3 h4 h5
  revert q1 q2 q3 q4 h u1 u2 u3 c1 c2 v x; decide +kernel
end Go.Proofs.YtjplobgambnhjaaGreat
