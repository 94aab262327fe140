/- Term, of a log behind any base: its contract; no statement. -/
import Derived.Test.YtmbekpoelkcceaaRc0
set_option linter.unusedVariables false
set_option linter.unusedSimpArgs false
namespace Go.Proofs.Ytmbekpoelkcceaa
open Go Go.Eng

def termC (bi bt : Int) (x : List rEntry.den) (i : Int) : Int × Bool := if i = bi then (bt, true) else if i ≤ bi then (0, false) else if i - bi > ((x.length : Nat) : Int) then (0, false) else (eTm (x.getD (i - bi - 1).toNat rEntry.dflt), true)
abbrev tupT (p : Int × Bool) : AV := .tup [(false, [.int .u64 p.1]), (false, [.bool p.2])]
theorem term_heap (bi bt i : Int) (bm : List Int) (x : List rEntry.den) (hb : 0 ≤ bi ∧ bi ≤ 2000) (hi : 0 ≤ i ∧ i ≤ 2000) (hx : x.length ≤ 1000) :
    HeapCall Try.prog 17 [.one (.ptr 0 0), vU i] [logC bi bt bm x] (tupT (termC bi bt x i)) [logC bi bt bm x] := by
  by_cases h1 : i = bi
  · have q1 : (i == bi) = true := beq_iff_eq.2 h1
    have e : termC bi bt x i = (bt, true) := by unfold termC; rw [if_pos h1]
    rw [e]
    exact ESam.heap_ok (os := [false, false, false, false, false, false, false, true]) (cs := [((i == bi) == true), ((!true) == false), (false == false), (false == false), (false == false), (false == false), (false == false), (false == false)]) (by kernel_rfl) (allI (by simp only [q1]; rfl))
  · have q1 : (i == bi) = false := beq_eq_false_iff_ne.2 h1
    by_cases h2 : i ≤ bi
    · have q2 : decide (i ≤ bi) = true := decide_eq_true h2
      have e : termC bi bt x i = (0, false) := by unfold termC; rw [if_neg h1, if_pos h2]
      rw [e]
      exact ESam.heap_ok (os := [false, false, false, false, false, false, false, false, true, true, true, true, true, true, true, true, true, true, true, true, true, true, true, true, true]) (cs := [((!false) == true), (true == true), (decide (i ≤ bi) == true), (decide (i ≤ bi) == true), (decide (i ≤ bi) == true), (decide (i ≤ bi) == true), (decide (i ≤ bi) == true), (decide (i ≤ bi) == true), (decide (i ≤ bi) == true), (decide (i ≤ bi) == true), (decide (i ≤ bi) == true), (decide (i ≤ bi) == true), (decide (i ≤ bi) == true), (decide (i ≤ bi) == true), (decide (i ≤ bi) == true), (decide (i ≤ bi) == true), (decide (i ≤ bi) == true), ((i == bi) == false), ((!true) == false), (false == false), (false == false), (false == false), (false == false), (false == false), (false == false)]) (by kernel_rfl) (allI (by simp only [q1, q2]; rfl))
    · have q2 : decide (i ≤ bi) = false := decide_eq_false h2
      have w0 : IntKind.u64.wrap (i - bi) = i - bi := wrapU64 (by omega) (by omega)
      have w1 : IntKind.u64.wrap (i - bi - 1) = i - bi - 1 := wrapU64 (by omega) (by omega)
      have w2 : IntKind.i64.wrap (i - bi - 1) = i - bi - 1 := wrap64 (by omega) (by omega)
      have wl : IntKind.u64.wrap ((x.length : Nat) : Int) = ((x.length : Nat) : Int) := wrapU64 (by omega) (by omega)
      by_cases h3 : i - bi > ((x.length : Nat) : Int)
      · have q3 : decide (IntKind.u64.wrap (i - bi) > IntKind.u64.wrap ((x.length : Nat) : Int)) = true := by rw [w0, wl]; exact decide_eq_true h3
        have e : termC bi bt x i = (0, false) := by unfold termC; rw [if_neg h1, if_neg h2, if_pos h3]
        rw [e]
        exact ESam.heap_ok (os := [false, false, false, false, false, false, false, false, false, false, false, false, false, false, false, false, false, false, false, false, false, false, false, true, true]) (cs := [((!false) == true), (decide (IntKind.u64.wrap (i - bi) > IntKind.u64.wrap ((x.length : Nat) : Int)) == true), (decide (i ≤ bi) == false), (decide (i ≤ bi) == false), (decide (i ≤ bi) == false), (decide (i ≤ bi) == false), (decide (i ≤ bi) == false), (decide (i ≤ bi) == false), (decide (i ≤ bi) == false), (decide (i ≤ bi) == false), (decide (i ≤ bi) == false), (decide (i ≤ bi) == false), (decide (i ≤ bi) == false), (decide (i ≤ bi) == false), (decide (i ≤ bi) == false), (decide (i ≤ bi) == false), (decide (i ≤ bi) == false), ((i == bi) == false), ((!true) == false), (false == false), (false == false), (false == false), (false == false), (false == false), (false == false)]) (by kernel_rfl) (allI (by simp only [q1, q2, q3]; rfl))
      · have q3 : decide (IntKind.u64.wrap (i - bi) > IntKind.u64.wrap ((x.length : Nat) : Int)) = false := by rw [w0, wl]; exact decide_eq_false h3
        have q4 : inB (IntKind.i64.wrap (IntKind.u64.wrap (IntKind.u64.wrap (i - bi) - 1))) x.length = true := by rw [w0, w1, w2]; exact inB_of (by omega) (by omega)
        have e : termC bi bt x i = ((x.getD (IntKind.i64.wrap (IntKind.u64.wrap (IntKind.u64.wrap (i - bi) - 1))).toNat rEntry.dflt).snd.fst, true) := by unfold termC; rw [if_neg h1, if_neg h2, if_neg h3, w0, w1, w2]
        rw [e]
        exact ESam.heap_ok (os := [false, false, false, false, false, false, false, false, false, false, false, false, false, false, false, false, false, false, false, false, false, false, false, false, false]) (cs := [(inB (IntKind.i64.wrap (IntKind.u64.wrap (IntKind.u64.wrap (i - bi) - 1))) x.length), ((!true) == false), (decide (IntKind.u64.wrap (i - bi) > IntKind.u64.wrap ((x.length : Nat) : Int)) == false), (decide (i ≤ bi) == false), (decide (i ≤ bi) == false), (decide (i ≤ bi) == false), (decide (i ≤ bi) == false), (decide (i ≤ bi) == false), (decide (i ≤ bi) == false), (decide (i ≤ bi) == false), (decide (i ≤ bi) == false), (decide (i ≤ bi) == false), (decide (i ≤ bi) == false), (decide (i ≤ bi) == false), (decide (i ≤ bi) == false), (decide (i ≤ bi) == false), (decide (i ≤ bi) == false), (decide (i ≤ bi) == false), ((i == bi) == false), ((!true) == false), (false == false), (false == false), (false == false), (false == false), (false == false), (false == false)]) (by kernel_rfl) (allI (by simp only [q1, q2, q3, q4]; rfl))
end Go.Proofs.Ytmbekpoelkcceaa
