/- Which commands may be: the program and the document alike; no statement. -/
import Derived.Test.YtjplobgambnhjaaGreatOcmdC
import Derived.Test.YtjplobgambnhjaaGreatOcmdD
set_option linter.unusedVariables false
set_option linter.unusedSimpArgs false
namespace Go.Proofs.YtjplobgambnhjaaGreat
open Go Go.Eng

theorem lt101 (a : Int) : decide (a < 101) = decide (a ≤ 100) := by rw [Bool.eq_iff_iff, decide_eq_true_iff, decide_eq_true_iff]; omega
theorem gt3 (a : Int) : decide (a > 3) = (decide (a > 3) && decide (a ≥ 0)) := by
  rw [Bool.eq_iff_iff]; simp only [Bool.and_eq_true, decide_eq_true_iff]; omega
theorem baRefl' (a : ByteArray) : (a == a) = true := by
  cases a with | mk d => exact beq_self_eq_true d
theorem wq_eq (c : rCmd.den) : wq c = (!(c.2.2.2.2.2.2.2.2.2.2.1.1) && ((c.2.2.2.2.2.2.2.2.2.2.1.2.2.2.1 == 0) && (c.2.2.2.2.2.2.2.2.2.2.1.2.2.2.2.1 == 0))) := by
  unfold wq
  simp [baRefl']
theorem e1_ep (c : rCmd.den) : e1 c = (e1 c && decide (c.2.2.2.1 ≤ 1099511627776)) := by
  cases h : e1 c with
  | false => rfl
  | true =>
    simp only [e1, Bool.and_eq_true, beq_iff_eq] at h
    have h4 : (0 : Int) = c.2.2.2.1 := h.2.2.2.1
    have h5 : decide (c.2.2.2.1 ≤ 1099511627776) = true := by rw [← h4]; rfl
    rw [h5]; rfl
theorem e5_ep (c : rCmd.den) : e5 c = (e5 c && decide (c.2.2.2.1 ≤ 1099511627776)) := by
  cases h : e5 c with
  | false => rfl
  | true =>
    simp only [e5, Bool.and_eq_true, beq_iff_eq] at h
    have h4 : (0 : Int) = c.2.2.2.1 := h.2.2.2.1
    have h5 : decide (c.2.2.2.1 ≤ 1099511627776) = true := by rw [← h4]; rfl
    rw [h5]; rfl
theorem e6_ep (c : rCmd.den) : e6 c = (e6 c && decide (c.2.2.2.1 ≤ 1099511627776)) := by
  cases h : e6 c with
  | false => rfl
  | true =>
    simp only [e6, Bool.and_eq_true, beq_iff_eq] at h
    have h4 : (0 : Int) = c.2.2.2.1 := h.2.2.2.1
    have h5 : decide (c.2.2.2.1 ≤ 1099511627776) = true := by rw [← h4]; rfl
    rw [h5]; rfl
theorem e7_ep (c : rCmd.den) : e7 c = (e7 c && decide (c.2.2.2.1 ≤ 1099511627776)) := by
  cases h : e7 c with
  | false => rfl
  | true =>
    simp only [e7, Bool.and_eq_true, beq_iff_eq] at h
    have h4 : (0 : Int) = c.2.2.2.1 := h.2.2.2.1
    have h5 : decide (c.2.2.2.1 ≤ 1099511627776) = true := by rw [← h4]; rfl
    rw [h5]; rfl

/-- The trees over bare bits, and the kind. -/
theorem cmd_same (c : rCmd.den) : cmdV c = cmdW c := by
  unfold cmdV cmdW
  have x1 := e1_ep c
  have x5 := e5_ep c
  have x6 := e6_ep c
  have x7 := e7_ep c
  simp only [emp_eq, lt101, wq_eq]
  have g3 := gt3 c.2.2.2.2.2.2.2.2.2.1
  generalize e1 c = e1 at *
  generalize e2 c = e2 at *
  generalize e3 c = e3 at *
  generalize e4 c = e4 at *
  generalize e5 c = e5 at *
  generalize e6 c = e6 at *
  generalize e7 c = e7 at *
  generalize chkV _ = ck at *
  generalize (ck == 0) = ck at *
  generalize c.2.2.2.2.2.2.2.2.2.2.1.1 = mv at *
  generalize (c.2.2.2.2.2.2.2.2.2.2.1.2.2.2.1 == 0) = iz at *
  generalize (c.2.2.2.2.2.2.2.2.2.2.1.2.2.2.2.1 == 0) = oz at *
  generalize (c.2.2.2.2.2.2.2.2.2.2.1.2.2.2.1 != c.2.2.2.2.2.2.2.2.2.2.1.2.2.2.2.1) = ne at *
  generalize decide (c.2.2.2.2.2.2.2.2.2.2.1.2.2.2.1 ≥ 0) = i0 at *
  generalize decide (c.2.2.2.2.2.2.2.2.2.2.1.2.2.2.1 < 5) = i5 at *
  generalize decide (c.2.2.2.2.2.2.2.2.2.2.1.2.2.2.2.1 ≥ 0) = o0 at *
  generalize decide (c.2.2.2.2.2.2.2.2.2.2.1.2.2.2.2.1 < 5) = o5 at *
  generalize decide (c.2.2.2.2.2.2.2.2.2.2.1.2.1 ≥ 0) = w0 at *
  generalize decide (c.2.2.2.2.2.2.2.2.2.2.1.2.1 < 12) = w12 at *
  generalize decide (((ByteArray.size c.2.2.2.2.2.2.2.2.2.2.1.2.2.1 : Nat) : Int) ≥ 1) = wk1 at *
  generalize decide (((ByteArray.size c.2.2.2.2.2.2.2.2.2.2.1.2.2.1 : Nat) : Int) ≤ 24) = wk24 at *
  generalize decide (((ByteArray.size c.2.2.2.2.2.2.2.1 : Nat) : Int) ≥ 1) = k1 at *
  generalize decide (((ByteArray.size c.2.2.2.2.2.2.2.1 : Nat) : Int) ≤ 24) = k24 at *
  generalize decide (((ByteArray.size c.2.2.2.2.2.2.2.1 : Nat) : Int) ≤ 32) = k32 at *
  generalize decide (((ByteArray.size c.2.2.2.2.2.2.2.2.1 : Nat) : Int) ≤ 256) = v256 at *
  generalize decide (c.2.2.2.2.2.2.2.2.2.1 > 3) = gg at *
  generalize decide (c.2.2.2.2.2.2.2.2.2.1 ≥ 0) = g0 at *
  generalize decide (c.2.2.2.2.2.2.2.2.2.1 < 12) = g12 at *
  generalize decide (c.2.2.2.2.2.1 ≥ 1) = p1 at *
  generalize decide (c.2.2.2.2.2.1 ≤ 1099511627776) = p2 at *
  generalize decide (c.2.2.2.2.2.2.1 ≥ 0) = s1 at *
  generalize decide (c.2.2.2.2.2.2.1 ≤ 100) = s2 at *
  generalize decide (c.2.2.2.1 ≤ 1099511627776) = ep at *
  generalize decide (c.2.2.1 ≥ 1) = q1 at *
  generalize decide (c.2.2.1 ≤ 1099511627776) = q2 at *
  generalize decide (c.2.1 ≥ 0) = c1 at *
  generalize decide (c.2.1 < 4) = c2 at *
  generalize c.1 = n at *
  by_cases h0 : n = 0
  · subst h0; clear x5 x6 x7 g3
    simp only [Int.reduceBEq, beq_self_eq_true, cond_true, cond_false, Bool.not_true, Bool.not_false]
    all_goals (revert e1 ep; decide +kernel)
  by_cases h1 : n = 1
  · subst h1; clear x1 x5 x6 x7 g3
    simp only [Int.reduceBEq, beq_self_eq_true, cond_true, cond_false, Bool.not_true, Bool.not_false]
    all_goals (revert c1 c2 q1 q2 ck ep e2; decide +kernel)
  by_cases h2 : n = 2
  · subst h2; clear x1 x5 x6 x7 g3
    simp only [Int.reduceBEq, beq_self_eq_true, cond_true, cond_false, Bool.not_true, Bool.not_false]
    all_goals (revert p1 p2 s1 s2 ep e3; decide +kernel)
  by_cases h3 : n = 3
  · subst h3; clear x1 x5 x6 x7
    simp only [Int.reduceBEq, beq_self_eq_true, cond_true, cond_false, Bool.not_true, Bool.not_false]
    all_goals (revert p1 p2 s1 s2 k1 k24 gg g12 g0 ep e4; decide +kernel)
  by_cases h4 : n = 4
  · subst h4; clear x1 x5 x6 x7 g3
    simp only [Int.reduceBEq, beq_self_eq_true, cond_true, cond_false, Bool.not_true, Bool.not_false]
    all_goals (revert p1 p2 s1 s2 ep e3; decide +kernel)
  by_cases h5 : n = 5
  · subst h5; clear x1 x6 x7 g3
    simp only [Int.reduceBEq, beq_self_eq_true, cond_true, cond_false, Bool.not_true, Bool.not_false]
    all_goals (revert p1 p2 s1 s2 k1 k32 v256 ep e5; decide +kernel)
  by_cases h6 : n = 6
  · subst h6; clear x1 x5 x7 g3
    simp only [Int.reduceBEq, beq_self_eq_true, cond_true, cond_false, Bool.not_true, Bool.not_false]
    all_goals (revert w0 w12 mv wk1 wk24 i0 i5 o0 o5 ne iz oz ep e6; decide +kernel)
  by_cases h7 : n = 7
  · subst h7; clear x1 x5 x6 g3
    simp only [Int.reduceBEq, beq_self_eq_true, cond_true, cond_false, Bool.not_true, Bool.not_false]
    all_goals (revert p1 p2 s1 s2 ep e7; decide +kernel)
  simp only [show (n == 0) = false from beq_eq_false_iff_ne.2 h0, show (n == 1) = false from beq_eq_false_iff_ne.2 h1, show (n == 2) = false from beq_eq_false_iff_ne.2 h2, show (n == 3) = false from beq_eq_false_iff_ne.2 h3, show (n == 4) = false from beq_eq_false_iff_ne.2 h4, show (n == 5) = false from beq_eq_false_iff_ne.2 h5, show (n == 6) = false from beq_eq_false_iff_ne.2 h6, show (n == 7) = false from beq_eq_false_iff_ne.2 h7, cond_true, cond_false]
end Go.Proofs.YtjplobgambnhjaaGreat
