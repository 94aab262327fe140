/- Commands that may be: their fields; no statement. -/
import Derived.Test.YtjplobgambnhjaaOmay
set_option linter.unusedVariables false
set_option linter.unusedSimpArgs false
namespace Go.Proofs.Ytjplobgambnhjaa
open Go Go.Eng

theorem kind0 (c : rCmd.den) (hk : c.fst = 0) : cmdV c = 2 ∨ (cmdV c = 0 ∧ e1 c = true) := by
  unfold cmdV
  simp only [emp_eq, lt101, wq_eq]
  generalize e1 c = e1 at *
  generalize e2 c = e2 at *
  generalize e3 c = e3 at *
  generalize e4 c = e4 at *
  generalize e5 c = e5 at *
  generalize e6 c = e6 at *
  generalize e7 c = e7 at *
  generalize chkV _ = ck at *
  generalize (ck == 0) = ck at *
  generalize c.snd.snd.snd.snd.snd.snd.snd.snd.snd.snd.fst.fst = mv at *
  generalize (c.snd.snd.snd.snd.snd.snd.snd.snd.snd.snd.fst.snd.snd.snd.fst == 0) = iz at *
  generalize (c.snd.snd.snd.snd.snd.snd.snd.snd.snd.snd.fst.snd.snd.snd.snd.fst == 0) = oz at *
  generalize (c.snd.snd.snd.snd.snd.snd.snd.snd.snd.snd.fst.snd.snd.snd.fst != c.snd.snd.snd.snd.snd.snd.snd.snd.snd.snd.fst.snd.snd.snd.snd.fst) = ne at *
  generalize decide (c.snd.snd.snd.snd.snd.snd.snd.snd.snd.snd.fst.snd.snd.snd.fst ≥ 0) = i0 at *
  generalize decide (c.snd.snd.snd.snd.snd.snd.snd.snd.snd.snd.fst.snd.snd.snd.fst < 5) = i5 at *
  generalize decide (c.snd.snd.snd.snd.snd.snd.snd.snd.snd.snd.fst.snd.snd.snd.snd.fst ≥ 0) = o0 at *
  generalize decide (c.snd.snd.snd.snd.snd.snd.snd.snd.snd.snd.fst.snd.snd.snd.snd.fst < 5) = o5 at *
  generalize decide (c.snd.snd.snd.snd.snd.snd.snd.snd.snd.snd.fst.snd.fst ≥ 0) = w0 at *
  generalize decide (c.snd.snd.snd.snd.snd.snd.snd.snd.snd.snd.fst.snd.fst < 12) = w12 at *
  generalize decide (((ByteArray.size c.snd.snd.snd.snd.snd.snd.snd.snd.snd.snd.fst.snd.snd.fst : Nat) : Int) ≥ 1) = wk1 at *
  generalize decide (((ByteArray.size c.snd.snd.snd.snd.snd.snd.snd.snd.snd.snd.fst.snd.snd.fst : Nat) : Int) ≤ 24) = wk24 at *
  generalize decide (((ByteArray.size c.snd.snd.snd.snd.snd.snd.snd.fst : Nat) : Int) ≥ 1) = k1 at *
  generalize decide (((ByteArray.size c.snd.snd.snd.snd.snd.snd.snd.fst : Nat) : Int) ≤ 24) = k24 at *
  generalize decide (((ByteArray.size c.snd.snd.snd.snd.snd.snd.snd.fst : Nat) : Int) ≤ 32) = k32 at *
  generalize decide (((ByteArray.size c.snd.snd.snd.snd.snd.snd.snd.snd.fst : Nat) : Int) ≤ 256) = v256 at *
  generalize decide (c.snd.snd.snd.snd.snd.snd.snd.snd.snd.fst > 3) = gg at *
  generalize decide (c.snd.snd.snd.snd.snd.snd.snd.snd.snd.fst ≥ 0) = g0 at *
  generalize decide (c.snd.snd.snd.snd.snd.snd.snd.snd.snd.fst < 12) = g12 at *
  generalize decide (c.snd.snd.snd.snd.snd.fst ≥ 1) = p1 at *
  generalize decide (c.snd.snd.snd.snd.snd.fst ≤ 1099511627776) = p2 at *
  generalize decide (c.snd.snd.snd.snd.snd.snd.fst ≥ 0) = s1 at *
  generalize decide (c.snd.snd.snd.snd.snd.snd.fst ≤ 100) = s2 at *
  generalize decide (c.snd.snd.snd.fst ≤ 1099511627776) = ep at *
  generalize decide (c.snd.snd.fst ≥ 1) = q1 at *
  generalize decide (c.snd.snd.fst ≤ 1099511627776) = q2 at *
  generalize decide (c.snd.fst ≥ 0) = c1 at *
  generalize decide (c.snd.fst < 4) = c2 at *
  generalize c.fst = n at *

  subst hk
  simp only [Int.reduceBEq, beq_self_eq_true, cond_true, cond_false, Bool.not_true, Bool.not_false]
  revert e1 ep; decide +kernel
theorem kind1 (c : rCmd.den) (hk : c.fst = 1) : cmdV c = 2 ∨ (cmdV c = 0 ∧ e2 c = true) := by
  unfold cmdV
  simp only [emp_eq, lt101, wq_eq]
  generalize e1 c = e1 at *
  generalize e2 c = e2 at *
  generalize e3 c = e3 at *
  generalize e4 c = e4 at *
  generalize e5 c = e5 at *
  generalize e6 c = e6 at *
  generalize e7 c = e7 at *
  generalize chkV _ = ck at *
  generalize (ck == 0) = ck at *
  generalize c.snd.snd.snd.snd.snd.snd.snd.snd.snd.snd.fst.fst = mv at *
  generalize (c.snd.snd.snd.snd.snd.snd.snd.snd.snd.snd.fst.snd.snd.snd.fst == 0) = iz at *
  generalize (c.snd.snd.snd.snd.snd.snd.snd.snd.snd.snd.fst.snd.snd.snd.snd.fst == 0) = oz at *
  generalize (c.snd.snd.snd.snd.snd.snd.snd.snd.snd.snd.fst.snd.snd.snd.fst != c.snd.snd.snd.snd.snd.snd.snd.snd.snd.snd.fst.snd.snd.snd.snd.fst) = ne at *
  generalize decide (c.snd.snd.snd.snd.snd.snd.snd.snd.snd.snd.fst.snd.snd.snd.fst ≥ 0) = i0 at *
  generalize decide (c.snd.snd.snd.snd.snd.snd.snd.snd.snd.snd.fst.snd.snd.snd.fst < 5) = i5 at *
  generalize decide (c.snd.snd.snd.snd.snd.snd.snd.snd.snd.snd.fst.snd.snd.snd.snd.fst ≥ 0) = o0 at *
  generalize decide (c.snd.snd.snd.snd.snd.snd.snd.snd.snd.snd.fst.snd.snd.snd.snd.fst < 5) = o5 at *
  generalize decide (c.snd.snd.snd.snd.snd.snd.snd.snd.snd.snd.fst.snd.fst ≥ 0) = w0 at *
  generalize decide (c.snd.snd.snd.snd.snd.snd.snd.snd.snd.snd.fst.snd.fst < 12) = w12 at *
  generalize decide (((ByteArray.size c.snd.snd.snd.snd.snd.snd.snd.snd.snd.snd.fst.snd.snd.fst : Nat) : Int) ≥ 1) = wk1 at *
  generalize decide (((ByteArray.size c.snd.snd.snd.snd.snd.snd.snd.snd.snd.snd.fst.snd.snd.fst : Nat) : Int) ≤ 24) = wk24 at *
  generalize decide (((ByteArray.size c.snd.snd.snd.snd.snd.snd.snd.fst : Nat) : Int) ≥ 1) = k1 at *
  generalize decide (((ByteArray.size c.snd.snd.snd.snd.snd.snd.snd.fst : Nat) : Int) ≤ 24) = k24 at *
  generalize decide (((ByteArray.size c.snd.snd.snd.snd.snd.snd.snd.fst : Nat) : Int) ≤ 32) = k32 at *
  generalize decide (((ByteArray.size c.snd.snd.snd.snd.snd.snd.snd.snd.fst : Nat) : Int) ≤ 256) = v256 at *
  generalize decide (c.snd.snd.snd.snd.snd.snd.snd.snd.snd.fst > 3) = gg at *
  generalize decide (c.snd.snd.snd.snd.snd.snd.snd.snd.snd.fst ≥ 0) = g0 at *
  generalize decide (c.snd.snd.snd.snd.snd.snd.snd.snd.snd.fst < 12) = g12 at *
  generalize decide (c.snd.snd.snd.snd.snd.fst ≥ 1) = p1 at *
  generalize decide (c.snd.snd.snd.snd.snd.fst ≤ 1099511627776) = p2 at *
  generalize decide (c.snd.snd.snd.snd.snd.snd.fst ≥ 0) = s1 at *
  generalize decide (c.snd.snd.snd.snd.snd.snd.fst ≤ 100) = s2 at *
  generalize decide (c.snd.snd.snd.fst ≤ 1099511627776) = ep at *
  generalize decide (c.snd.snd.fst ≥ 1) = q1 at *
  generalize decide (c.snd.snd.fst ≤ 1099511627776) = q2 at *
  generalize decide (c.snd.fst ≥ 0) = c1 at *
  generalize decide (c.snd.fst < 4) = c2 at *
  generalize c.fst = n at *

  subst hk
  simp only [Int.reduceBEq, beq_self_eq_true, cond_true, cond_false, Bool.not_true, Bool.not_false]
  revert c1 c2 q1 q2 ck ep e2; decide +kernel
theorem kind2 (c : rCmd.den) (hk : c.fst = 2) : cmdV c = 2 ∨ (cmdV c = 0 ∧ e3 c = true) := by
  unfold cmdV
  simp only [emp_eq, lt101, wq_eq]
  generalize e1 c = e1 at *
  generalize e2 c = e2 at *
  generalize e3 c = e3 at *
  generalize e4 c = e4 at *
  generalize e5 c = e5 at *
  generalize e6 c = e6 at *
  generalize e7 c = e7 at *
  generalize chkV _ = ck at *
  generalize (ck == 0) = ck at *
  generalize c.snd.snd.snd.snd.snd.snd.snd.snd.snd.snd.fst.fst = mv at *
  generalize (c.snd.snd.snd.snd.snd.snd.snd.snd.snd.snd.fst.snd.snd.snd.fst == 0) = iz at *
  generalize (c.snd.snd.snd.snd.snd.snd.snd.snd.snd.snd.fst.snd.snd.snd.snd.fst == 0) = oz at *
  generalize (c.snd.snd.snd.snd.snd.snd.snd.snd.snd.snd.fst.snd.snd.snd.fst != c.snd.snd.snd.snd.snd.snd.snd.snd.snd.snd.fst.snd.snd.snd.snd.fst) = ne at *
  generalize decide (c.snd.snd.snd.snd.snd.snd.snd.snd.snd.snd.fst.snd.snd.snd.fst ≥ 0) = i0 at *
  generalize decide (c.snd.snd.snd.snd.snd.snd.snd.snd.snd.snd.fst.snd.snd.snd.fst < 5) = i5 at *
  generalize decide (c.snd.snd.snd.snd.snd.snd.snd.snd.snd.snd.fst.snd.snd.snd.snd.fst ≥ 0) = o0 at *
  generalize decide (c.snd.snd.snd.snd.snd.snd.snd.snd.snd.snd.fst.snd.snd.snd.snd.fst < 5) = o5 at *
  generalize decide (c.snd.snd.snd.snd.snd.snd.snd.snd.snd.snd.fst.snd.fst ≥ 0) = w0 at *
  generalize decide (c.snd.snd.snd.snd.snd.snd.snd.snd.snd.snd.fst.snd.fst < 12) = w12 at *
  generalize decide (((ByteArray.size c.snd.snd.snd.snd.snd.snd.snd.snd.snd.snd.fst.snd.snd.fst : Nat) : Int) ≥ 1) = wk1 at *
  generalize decide (((ByteArray.size c.snd.snd.snd.snd.snd.snd.snd.snd.snd.snd.fst.snd.snd.fst : Nat) : Int) ≤ 24) = wk24 at *
  generalize decide (((ByteArray.size c.snd.snd.snd.snd.snd.snd.snd.fst : Nat) : Int) ≥ 1) = k1 at *
  generalize decide (((ByteArray.size c.snd.snd.snd.snd.snd.snd.snd.fst : Nat) : Int) ≤ 24) = k24 at *
  generalize decide (((ByteArray.size c.snd.snd.snd.snd.snd.snd.snd.fst : Nat) : Int) ≤ 32) = k32 at *
  generalize decide (((ByteArray.size c.snd.snd.snd.snd.snd.snd.snd.snd.fst : Nat) : Int) ≤ 256) = v256 at *
  generalize decide (c.snd.snd.snd.snd.snd.snd.snd.snd.snd.fst > 3) = gg at *
  generalize decide (c.snd.snd.snd.snd.snd.snd.snd.snd.snd.fst ≥ 0) = g0 at *
  generalize decide (c.snd.snd.snd.snd.snd.snd.snd.snd.snd.fst < 12) = g12 at *
  generalize decide (c.snd.snd.snd.snd.snd.fst ≥ 1) = p1 at *
  generalize decide (c.snd.snd.snd.snd.snd.fst ≤ 1099511627776) = p2 at *
  generalize decide (c.snd.snd.snd.snd.snd.snd.fst ≥ 0) = s1 at *
  generalize decide (c.snd.snd.snd.snd.snd.snd.fst ≤ 100) = s2 at *
  generalize decide (c.snd.snd.snd.fst ≤ 1099511627776) = ep at *
  generalize decide (c.snd.snd.fst ≥ 1) = q1 at *
  generalize decide (c.snd.snd.fst ≤ 1099511627776) = q2 at *
  generalize decide (c.snd.fst ≥ 0) = c1 at *
  generalize decide (c.snd.fst < 4) = c2 at *
  generalize c.fst = n at *

  subst hk
  simp only [Int.reduceBEq, beq_self_eq_true, cond_true, cond_false, Bool.not_true, Bool.not_false]
  revert p1 p2 s1 s2 ep e3; decide +kernel
theorem kind3 (c : rCmd.den) (hk : c.fst = 3) : cmdV c = 2 ∨ (cmdV c = 0 ∧ e4 c = true) := by
  unfold cmdV
  simp only [emp_eq, lt101, wq_eq]
  generalize e1 c = e1 at *
  generalize e2 c = e2 at *
  generalize e3 c = e3 at *
  generalize e4 c = e4 at *
  generalize e5 c = e5 at *
  generalize e6 c = e6 at *
  generalize e7 c = e7 at *
  generalize chkV _ = ck at *
  generalize (ck == 0) = ck at *
  generalize c.snd.snd.snd.snd.snd.snd.snd.snd.snd.snd.fst.fst = mv at *
  generalize (c.snd.snd.snd.snd.snd.snd.snd.snd.snd.snd.fst.snd.snd.snd.fst == 0) = iz at *
  generalize (c.snd.snd.snd.snd.snd.snd.snd.snd.snd.snd.fst.snd.snd.snd.snd.fst == 0) = oz at *
  generalize (c.snd.snd.snd.snd.snd.snd.snd.snd.snd.snd.fst.snd.snd.snd.fst != c.snd.snd.snd.snd.snd.snd.snd.snd.snd.snd.fst.snd.snd.snd.snd.fst) = ne at *
  generalize decide (c.snd.snd.snd.snd.snd.snd.snd.snd.snd.snd.fst.snd.snd.snd.fst ≥ 0) = i0 at *
  generalize decide (c.snd.snd.snd.snd.snd.snd.snd.snd.snd.snd.fst.snd.snd.snd.fst < 5) = i5 at *
  generalize decide (c.snd.snd.snd.snd.snd.snd.snd.snd.snd.snd.fst.snd.snd.snd.snd.fst ≥ 0) = o0 at *
  generalize decide (c.snd.snd.snd.snd.snd.snd.snd.snd.snd.snd.fst.snd.snd.snd.snd.fst < 5) = o5 at *
  generalize decide (c.snd.snd.snd.snd.snd.snd.snd.snd.snd.snd.fst.snd.fst ≥ 0) = w0 at *
  generalize decide (c.snd.snd.snd.snd.snd.snd.snd.snd.snd.snd.fst.snd.fst < 12) = w12 at *
  generalize decide (((ByteArray.size c.snd.snd.snd.snd.snd.snd.snd.snd.snd.snd.fst.snd.snd.fst : Nat) : Int) ≥ 1) = wk1 at *
  generalize decide (((ByteArray.size c.snd.snd.snd.snd.snd.snd.snd.snd.snd.snd.fst.snd.snd.fst : Nat) : Int) ≤ 24) = wk24 at *
  generalize decide (((ByteArray.size c.snd.snd.snd.snd.snd.snd.snd.fst : Nat) : Int) ≥ 1) = k1 at *
  generalize decide (((ByteArray.size c.snd.snd.snd.snd.snd.snd.snd.fst : Nat) : Int) ≤ 24) = k24 at *
  generalize decide (((ByteArray.size c.snd.snd.snd.snd.snd.snd.snd.fst : Nat) : Int) ≤ 32) = k32 at *
  generalize decide (((ByteArray.size c.snd.snd.snd.snd.snd.snd.snd.snd.fst : Nat) : Int) ≤ 256) = v256 at *
  generalize decide (c.snd.snd.snd.snd.snd.snd.snd.snd.snd.fst > 3) = gg at *
  generalize decide (c.snd.snd.snd.snd.snd.snd.snd.snd.snd.fst ≥ 0) = g0 at *
  generalize decide (c.snd.snd.snd.snd.snd.snd.snd.snd.snd.fst < 12) = g12 at *
  generalize decide (c.snd.snd.snd.snd.snd.fst ≥ 1) = p1 at *
  generalize decide (c.snd.snd.snd.snd.snd.fst ≤ 1099511627776) = p2 at *
  generalize decide (c.snd.snd.snd.snd.snd.snd.fst ≥ 0) = s1 at *
  generalize decide (c.snd.snd.snd.snd.snd.snd.fst ≤ 100) = s2 at *
  generalize decide (c.snd.snd.snd.fst ≤ 1099511627776) = ep at *
  generalize decide (c.snd.snd.fst ≥ 1) = q1 at *
  generalize decide (c.snd.snd.fst ≤ 1099511627776) = q2 at *
  generalize decide (c.snd.fst ≥ 0) = c1 at *
  generalize decide (c.snd.fst < 4) = c2 at *
  generalize c.fst = n at *

  subst hk
  simp only [Int.reduceBEq, beq_self_eq_true, cond_true, cond_false, Bool.not_true, Bool.not_false]
  revert p1 p2 s1 s2 k1 k24 gg g12 ep e4; decide +kernel
theorem kind4 (c : rCmd.den) (hk : c.fst = 4) : cmdV c = 2 ∨ (cmdV c = 0 ∧ e3 c = true) := by
  unfold cmdV
  simp only [emp_eq, lt101, wq_eq]
  generalize e1 c = e1 at *
  generalize e2 c = e2 at *
  generalize e3 c = e3 at *
  generalize e4 c = e4 at *
  generalize e5 c = e5 at *
  generalize e6 c = e6 at *
  generalize e7 c = e7 at *
  generalize chkV _ = ck at *
  generalize (ck == 0) = ck at *
  generalize c.snd.snd.snd.snd.snd.snd.snd.snd.snd.snd.fst.fst = mv at *
  generalize (c.snd.snd.snd.snd.snd.snd.snd.snd.snd.snd.fst.snd.snd.snd.fst == 0) = iz at *
  generalize (c.snd.snd.snd.snd.snd.snd.snd.snd.snd.snd.fst.snd.snd.snd.snd.fst == 0) = oz at *
  generalize (c.snd.snd.snd.snd.snd.snd.snd.snd.snd.snd.fst.snd.snd.snd.fst != c.snd.snd.snd.snd.snd.snd.snd.snd.snd.snd.fst.snd.snd.snd.snd.fst) = ne at *
  generalize decide (c.snd.snd.snd.snd.snd.snd.snd.snd.snd.snd.fst.snd.snd.snd.fst ≥ 0) = i0 at *
  generalize decide (c.snd.snd.snd.snd.snd.snd.snd.snd.snd.snd.fst.snd.snd.snd.fst < 5) = i5 at *
  generalize decide (c.snd.snd.snd.snd.snd.snd.snd.snd.snd.snd.fst.snd.snd.snd.snd.fst ≥ 0) = o0 at *
  generalize decide (c.snd.snd.snd.snd.snd.snd.snd.snd.snd.snd.fst.snd.snd.snd.snd.fst < 5) = o5 at *
  generalize decide (c.snd.snd.snd.snd.snd.snd.snd.snd.snd.snd.fst.snd.fst ≥ 0) = w0 at *
  generalize decide (c.snd.snd.snd.snd.snd.snd.snd.snd.snd.snd.fst.snd.fst < 12) = w12 at *
  generalize decide (((ByteArray.size c.snd.snd.snd.snd.snd.snd.snd.snd.snd.snd.fst.snd.snd.fst : Nat) : Int) ≥ 1) = wk1 at *
  generalize decide (((ByteArray.size c.snd.snd.snd.snd.snd.snd.snd.snd.snd.snd.fst.snd.snd.fst : Nat) : Int) ≤ 24) = wk24 at *
  generalize decide (((ByteArray.size c.snd.snd.snd.snd.snd.snd.snd.fst : Nat) : Int) ≥ 1) = k1 at *
  generalize decide (((ByteArray.size c.snd.snd.snd.snd.snd.snd.snd.fst : Nat) : Int) ≤ 24) = k24 at *
  generalize decide (((ByteArray.size c.snd.snd.snd.snd.snd.snd.snd.fst : Nat) : Int) ≤ 32) = k32 at *
  generalize decide (((ByteArray.size c.snd.snd.snd.snd.snd.snd.snd.snd.fst : Nat) : Int) ≤ 256) = v256 at *
  generalize decide (c.snd.snd.snd.snd.snd.snd.snd.snd.snd.fst > 3) = gg at *
  generalize decide (c.snd.snd.snd.snd.snd.snd.snd.snd.snd.fst ≥ 0) = g0 at *
  generalize decide (c.snd.snd.snd.snd.snd.snd.snd.snd.snd.fst < 12) = g12 at *
  generalize decide (c.snd.snd.snd.snd.snd.fst ≥ 1) = p1 at *
  generalize decide (c.snd.snd.snd.snd.snd.fst ≤ 1099511627776) = p2 at *
  generalize decide (c.snd.snd.snd.snd.snd.snd.fst ≥ 0) = s1 at *
  generalize decide (c.snd.snd.snd.snd.snd.snd.fst ≤ 100) = s2 at *
  generalize decide (c.snd.snd.snd.fst ≤ 1099511627776) = ep at *
  generalize decide (c.snd.snd.fst ≥ 1) = q1 at *
  generalize decide (c.snd.snd.fst ≤ 1099511627776) = q2 at *
  generalize decide (c.snd.fst ≥ 0) = c1 at *
  generalize decide (c.snd.fst < 4) = c2 at *
  generalize c.fst = n at *

  subst hk
  simp only [Int.reduceBEq, beq_self_eq_true, cond_true, cond_false, Bool.not_true, Bool.not_false]
  revert p1 p2 s1 s2 ep e3; decide +kernel
theorem kind5 (c : rCmd.den) (hk : c.fst = 5) : cmdV c = 2 ∨ (cmdV c = 0 ∧ e5 c = true) := by
  unfold cmdV
  simp only [emp_eq, lt101, wq_eq]
  generalize e1 c = e1 at *
  generalize e2 c = e2 at *
  generalize e3 c = e3 at *
  generalize e4 c = e4 at *
  generalize e5 c = e5 at *
  generalize e6 c = e6 at *
  generalize e7 c = e7 at *
  generalize chkV _ = ck at *
  generalize (ck == 0) = ck at *
  generalize c.snd.snd.snd.snd.snd.snd.snd.snd.snd.snd.fst.fst = mv at *
  generalize (c.snd.snd.snd.snd.snd.snd.snd.snd.snd.snd.fst.snd.snd.snd.fst == 0) = iz at *
  generalize (c.snd.snd.snd.snd.snd.snd.snd.snd.snd.snd.fst.snd.snd.snd.snd.fst == 0) = oz at *
  generalize (c.snd.snd.snd.snd.snd.snd.snd.snd.snd.snd.fst.snd.snd.snd.fst != c.snd.snd.snd.snd.snd.snd.snd.snd.snd.snd.fst.snd.snd.snd.snd.fst) = ne at *
  generalize decide (c.snd.snd.snd.snd.snd.snd.snd.snd.snd.snd.fst.snd.snd.snd.fst ≥ 0) = i0 at *
  generalize decide (c.snd.snd.snd.snd.snd.snd.snd.snd.snd.snd.fst.snd.snd.snd.fst < 5) = i5 at *
  generalize decide (c.snd.snd.snd.snd.snd.snd.snd.snd.snd.snd.fst.snd.snd.snd.snd.fst ≥ 0) = o0 at *
  generalize decide (c.snd.snd.snd.snd.snd.snd.snd.snd.snd.snd.fst.snd.snd.snd.snd.fst < 5) = o5 at *
  generalize decide (c.snd.snd.snd.snd.snd.snd.snd.snd.snd.snd.fst.snd.fst ≥ 0) = w0 at *
  generalize decide (c.snd.snd.snd.snd.snd.snd.snd.snd.snd.snd.fst.snd.fst < 12) = w12 at *
  generalize decide (((ByteArray.size c.snd.snd.snd.snd.snd.snd.snd.snd.snd.snd.fst.snd.snd.fst : Nat) : Int) ≥ 1) = wk1 at *
  generalize decide (((ByteArray.size c.snd.snd.snd.snd.snd.snd.snd.snd.snd.snd.fst.snd.snd.fst : Nat) : Int) ≤ 24) = wk24 at *
  generalize decide (((ByteArray.size c.snd.snd.snd.snd.snd.snd.snd.fst : Nat) : Int) ≥ 1) = k1 at *
  generalize decide (((ByteArray.size c.snd.snd.snd.snd.snd.snd.snd.fst : Nat) : Int) ≤ 24) = k24 at *
  generalize decide (((ByteArray.size c.snd.snd.snd.snd.snd.snd.snd.fst : Nat) : Int) ≤ 32) = k32 at *
  generalize decide (((ByteArray.size c.snd.snd.snd.snd.snd.snd.snd.snd.fst : Nat) : Int) ≤ 256) = v256 at *
  generalize decide (c.snd.snd.snd.snd.snd.snd.snd.snd.snd.fst > 3) = gg at *
  generalize decide (c.snd.snd.snd.snd.snd.snd.snd.snd.snd.fst ≥ 0) = g0 at *
  generalize decide (c.snd.snd.snd.snd.snd.snd.snd.snd.snd.fst < 12) = g12 at *
  generalize decide (c.snd.snd.snd.snd.snd.fst ≥ 1) = p1 at *
  generalize decide (c.snd.snd.snd.snd.snd.fst ≤ 1099511627776) = p2 at *
  generalize decide (c.snd.snd.snd.snd.snd.snd.fst ≥ 0) = s1 at *
  generalize decide (c.snd.snd.snd.snd.snd.snd.fst ≤ 100) = s2 at *
  generalize decide (c.snd.snd.snd.fst ≤ 1099511627776) = ep at *
  generalize decide (c.snd.snd.fst ≥ 1) = q1 at *
  generalize decide (c.snd.snd.fst ≤ 1099511627776) = q2 at *
  generalize decide (c.snd.fst ≥ 0) = c1 at *
  generalize decide (c.snd.fst < 4) = c2 at *
  generalize c.fst = n at *

  subst hk
  simp only [Int.reduceBEq, beq_self_eq_true, cond_true, cond_false, Bool.not_true, Bool.not_false]
  revert p1 p2 s1 s2 k1 k32 v256 ep e5; decide +kernel
theorem kind6 (c : rCmd.den) (hk : c.fst = 6) : cmdV c = 2 ∨ (cmdV c = 0 ∧ e6 c = true) := by
  unfold cmdV
  simp only [emp_eq, lt101, wq_eq]
  generalize e1 c = e1 at *
  generalize e2 c = e2 at *
  generalize e3 c = e3 at *
  generalize e4 c = e4 at *
  generalize e5 c = e5 at *
  generalize e6 c = e6 at *
  generalize e7 c = e7 at *
  generalize chkV _ = ck at *
  generalize (ck == 0) = ck at *
  generalize c.snd.snd.snd.snd.snd.snd.snd.snd.snd.snd.fst.fst = mv at *
  generalize (c.snd.snd.snd.snd.snd.snd.snd.snd.snd.snd.fst.snd.snd.snd.fst == 0) = iz at *
  generalize (c.snd.snd.snd.snd.snd.snd.snd.snd.snd.snd.fst.snd.snd.snd.snd.fst == 0) = oz at *
  generalize (c.snd.snd.snd.snd.snd.snd.snd.snd.snd.snd.fst.snd.snd.snd.fst != c.snd.snd.snd.snd.snd.snd.snd.snd.snd.snd.fst.snd.snd.snd.snd.fst) = ne at *
  generalize decide (c.snd.snd.snd.snd.snd.snd.snd.snd.snd.snd.fst.snd.snd.snd.fst ≥ 0) = i0 at *
  generalize decide (c.snd.snd.snd.snd.snd.snd.snd.snd.snd.snd.fst.snd.snd.snd.fst < 5) = i5 at *
  generalize decide (c.snd.snd.snd.snd.snd.snd.snd.snd.snd.snd.fst.snd.snd.snd.snd.fst ≥ 0) = o0 at *
  generalize decide (c.snd.snd.snd.snd.snd.snd.snd.snd.snd.snd.fst.snd.snd.snd.snd.fst < 5) = o5 at *
  generalize decide (c.snd.snd.snd.snd.snd.snd.snd.snd.snd.snd.fst.snd.fst ≥ 0) = w0 at *
  generalize decide (c.snd.snd.snd.snd.snd.snd.snd.snd.snd.snd.fst.snd.fst < 12) = w12 at *
  generalize decide (((ByteArray.size c.snd.snd.snd.snd.snd.snd.snd.snd.snd.snd.fst.snd.snd.fst : Nat) : Int) ≥ 1) = wk1 at *
  generalize decide (((ByteArray.size c.snd.snd.snd.snd.snd.snd.snd.snd.snd.snd.fst.snd.snd.fst : Nat) : Int) ≤ 24) = wk24 at *
  generalize decide (((ByteArray.size c.snd.snd.snd.snd.snd.snd.snd.fst : Nat) : Int) ≥ 1) = k1 at *
  generalize decide (((ByteArray.size c.snd.snd.snd.snd.snd.snd.snd.fst : Nat) : Int) ≤ 24) = k24 at *
  generalize decide (((ByteArray.size c.snd.snd.snd.snd.snd.snd.snd.fst : Nat) : Int) ≤ 32) = k32 at *
  generalize decide (((ByteArray.size c.snd.snd.snd.snd.snd.snd.snd.snd.fst : Nat) : Int) ≤ 256) = v256 at *
  generalize decide (c.snd.snd.snd.snd.snd.snd.snd.snd.snd.fst > 3) = gg at *
  generalize decide (c.snd.snd.snd.snd.snd.snd.snd.snd.snd.fst ≥ 0) = g0 at *
  generalize decide (c.snd.snd.snd.snd.snd.snd.snd.snd.snd.fst < 12) = g12 at *
  generalize decide (c.snd.snd.snd.snd.snd.fst ≥ 1) = p1 at *
  generalize decide (c.snd.snd.snd.snd.snd.fst ≤ 1099511627776) = p2 at *
  generalize decide (c.snd.snd.snd.snd.snd.snd.fst ≥ 0) = s1 at *
  generalize decide (c.snd.snd.snd.snd.snd.snd.fst ≤ 100) = s2 at *
  generalize decide (c.snd.snd.snd.fst ≤ 1099511627776) = ep at *
  generalize decide (c.snd.snd.fst ≥ 1) = q1 at *
  generalize decide (c.snd.snd.fst ≤ 1099511627776) = q2 at *
  generalize decide (c.snd.fst ≥ 0) = c1 at *
  generalize decide (c.snd.fst < 4) = c2 at *
  generalize c.fst = n at *

  subst hk
  simp only [Int.reduceBEq, beq_self_eq_true, cond_true, cond_false, Bool.not_true, Bool.not_false]
  revert w0 w12 mv wk1 wk24 i0 i5 o0 o5 ne iz oz ep e6; decide +kernel
theorem kind7 (c : rCmd.den) (hk : c.fst = 7) : cmdV c = 2 ∨ (cmdV c = 0 ∧ e7 c = true) := by
  unfold cmdV
  simp only [emp_eq, lt101, wq_eq]
  generalize e1 c = e1 at *
  generalize e2 c = e2 at *
  generalize e3 c = e3 at *
  generalize e4 c = e4 at *
  generalize e5 c = e5 at *
  generalize e6 c = e6 at *
  generalize e7 c = e7 at *
  generalize chkV _ = ck at *
  generalize (ck == 0) = ck at *
  generalize c.snd.snd.snd.snd.snd.snd.snd.snd.snd.snd.fst.fst = mv at *
  generalize (c.snd.snd.snd.snd.snd.snd.snd.snd.snd.snd.fst.snd.snd.snd.fst == 0) = iz at *
  generalize (c.snd.snd.snd.snd.snd.snd.snd.snd.snd.snd.fst.snd.snd.snd.snd.fst == 0) = oz at *
  generalize (c.snd.snd.snd.snd.snd.snd.snd.snd.snd.snd.fst.snd.snd.snd.fst != c.snd.snd.snd.snd.snd.snd.snd.snd.snd.snd.fst.snd.snd.snd.snd.fst) = ne at *
  generalize decide (c.snd.snd.snd.snd.snd.snd.snd.snd.snd.snd.fst.snd.snd.snd.fst ≥ 0) = i0 at *
  generalize decide (c.snd.snd.snd.snd.snd.snd.snd.snd.snd.snd.fst.snd.snd.snd.fst < 5) = i5 at *
  generalize decide (c.snd.snd.snd.snd.snd.snd.snd.snd.snd.snd.fst.snd.snd.snd.snd.fst ≥ 0) = o0 at *
  generalize decide (c.snd.snd.snd.snd.snd.snd.snd.snd.snd.snd.fst.snd.snd.snd.snd.fst < 5) = o5 at *
  generalize decide (c.snd.snd.snd.snd.snd.snd.snd.snd.snd.snd.fst.snd.fst ≥ 0) = w0 at *
  generalize decide (c.snd.snd.snd.snd.snd.snd.snd.snd.snd.snd.fst.snd.fst < 12) = w12 at *
  generalize decide (((ByteArray.size c.snd.snd.snd.snd.snd.snd.snd.snd.snd.snd.fst.snd.snd.fst : Nat) : Int) ≥ 1) = wk1 at *
  generalize decide (((ByteArray.size c.snd.snd.snd.snd.snd.snd.snd.snd.snd.snd.fst.snd.snd.fst : Nat) : Int) ≤ 24) = wk24 at *
  generalize decide (((ByteArray.size c.snd.snd.snd.snd.snd.snd.snd.fst : Nat) : Int) ≥ 1) = k1 at *
  generalize decide (((ByteArray.size c.snd.snd.snd.snd.snd.snd.snd.fst : Nat) : Int) ≤ 24) = k24 at *
  generalize decide (((ByteArray.size c.snd.snd.snd.snd.snd.snd.snd.fst : Nat) : Int) ≤ 32) = k32 at *
  generalize decide (((ByteArray.size c.snd.snd.snd.snd.snd.snd.snd.snd.fst : Nat) : Int) ≤ 256) = v256 at *
  generalize decide (c.snd.snd.snd.snd.snd.snd.snd.snd.snd.fst > 3) = gg at *
  generalize decide (c.snd.snd.snd.snd.snd.snd.snd.snd.snd.fst ≥ 0) = g0 at *
  generalize decide (c.snd.snd.snd.snd.snd.snd.snd.snd.snd.fst < 12) = g12 at *
  generalize decide (c.snd.snd.snd.snd.snd.fst ≥ 1) = p1 at *
  generalize decide (c.snd.snd.snd.snd.snd.fst ≤ 1099511627776) = p2 at *
  generalize decide (c.snd.snd.snd.snd.snd.snd.fst ≥ 0) = s1 at *
  generalize decide (c.snd.snd.snd.snd.snd.snd.fst ≤ 100) = s2 at *
  generalize decide (c.snd.snd.snd.fst ≤ 1099511627776) = ep at *
  generalize decide (c.snd.snd.fst ≥ 1) = q1 at *
  generalize decide (c.snd.snd.fst ≤ 1099511627776) = q2 at *
  generalize decide (c.snd.fst ≥ 0) = c1 at *
  generalize decide (c.snd.fst < 4) = c2 at *
  generalize c.fst = n at *

  subst hk
  simp only [Int.reduceBEq, beq_self_eq_true, cond_true, cond_false, Bool.not_true, Bool.not_false]
  revert p1 p2 s1 s2 ep e7; decide +kernel
theorem kindN (c : rCmd.den) (h : cmdV c = 0) : c.fst = 0 ∨ c.fst = 1 ∨ c.fst = 2 ∨ c.fst = 3 ∨ c.fst = 4 ∨ c.fst = 5 ∨ c.fst = 6 ∨ c.fst = 7 := by
  by_cases h0 : c.fst = 0
  · exact .inl h0
  by_cases h1 : c.fst = 1
  · exact .inr (.inl h1)
  by_cases h2 : c.fst = 2
  · exact .inr (.inr (.inl h2))
  by_cases h3 : c.fst = 3
  · exact .inr (.inr (.inr (.inl h3)))
  by_cases h4 : c.fst = 4
  · exact .inr (.inr (.inr (.inr (.inl h4))))
  by_cases h5 : c.fst = 5
  · exact .inr (.inr (.inr (.inr (.inr (.inl h5)))))
  by_cases h6 : c.fst = 6
  · exact .inr (.inr (.inr (.inr (.inr (.inr (.inl h6))))))
  by_cases h7 : c.fst = 7
  · exact .inr (.inr (.inr (.inr (.inr (.inr (.inr h7))))))
  exfalso
  revert h
  unfold cmdV
  simp only [show (c.fst == 0) = false from beq_eq_false_iff_ne.2 h0, show (c.fst == 1) = false from beq_eq_false_iff_ne.2 h1, show (c.fst == 2) = false from beq_eq_false_iff_ne.2 h2, show (c.fst == 3) = false from beq_eq_false_iff_ne.2 h3, show (c.fst == 4) = false from beq_eq_false_iff_ne.2 h4, show (c.fst == 5) = false from beq_eq_false_iff_ne.2 h5, show (c.fst == 6) = false from beq_eq_false_iff_ne.2 h6, show (c.fst == 7) = false from beq_eq_false_iff_ne.2 h7, cond_true, cond_false]
  decide
end Go.Proofs.Ytjplobgambnhjaa
