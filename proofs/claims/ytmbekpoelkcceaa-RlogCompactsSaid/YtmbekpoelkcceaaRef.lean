/- Compact of a log without a base; no statement. -/
import Derived.Test.YtmbekpoelkcceaaRee
set_option linter.unusedVariables false
set_option linter.unusedSimpArgs false
namespace Go.Proofs.Ytmbekpoelkcceaa
open Go Go.Eng

theorem cmp_heap (a : Int) (x : List rEntry.den) (hx : x.length ≤ 900) (ha : 0 ≤ a ∧ a ≤ x.length) (hm : (memC a [] x).length ≤ 1000) (he : x.all entFits = true) (hl : 0 < x.length → (x.getD (x.length - 1) rEntry.dflt).1 = x.length) :
    HeapCall Try.prog 16 [.one (.ptr 0 0), vU a] [logC 0 0 [] x] (vI 0) [logC a (termC 0 0 x a).1 (memC a [] x) (x.drop a.toNat)] := by
  have ew : IntKind.u64.wrap (a - 0) = a := by rw [wrapU64 (by omega) (by omega)]; omega
  have eD : (List.drop (IntKind.u64.wrap (a - 0)).toNat (List.take (((x.length : Nat) : Int)).toNat x)) = x.drop a.toNat := by
    rw [ew, show (((x.length : Nat) : Int)).toNat = x.length from rfl, List.take_length]
  have hle : (x.drop a.toNat).length ≤ 900 := by rw [List.length_drop]; omega
  have q1 : Nat.ble ((x.drop a.toNat).length * 264) 140737488355328 = true := by rw [Nat.ble_eq]; omega
  have q2 : (x.drop a.toNat).all entFits = true := List.all_eq_true.2 fun e h => List.all_eq_true.1 he e (List.mem_of_mem_drop h)
  have q3 : decide (0 ≤ a ∧ a ≤ ((x.length : Nat) : Int) ∧ ((x.length : Nat) : Int) ≤ ((x.length : Nat) : Int)) = true := decide_eq_true ⟨ha.1, ha.2, Int.le_refl _⟩
  have q4 : decide (x.length ≤ 1000) = true := decide_eq_true (by omega)
  have q5 : decide ((memC a [] x).length ≤ 1000) = true := decide_eq_true hm
  have q6 : decide (0 ≤ a ∧ a ≤ 2000) = true := decide_eq_true (by omega)
  have q7 : decide (a < 0) = false := decide_eq_false (by omega)
  rcases Nat.eq_zero_or_pos x.length with h0 | h0
  · have d1 : decide (a > 0) = false := decide_eq_false (by omega)
    have d2 : decide (((x.length : Nat) : Int) > 0) = false := decide_eq_false (by omega)
    have key := dullAt 0 (m := .full) (EC1.heap_trim 1 (f := 16) (args := [.one (.ptr 0 0), vU a]) (hp := [logC 0 0 [] x]) (os := [false, false, false, false, false, false, false, false, false, false, false, false, false, false, false, false, false, false, false, false]) (r := vI 0) (hp2 := [logM a (termC 0 0 x a).fst (memC a [] x) (List.drop (IntKind.u64.wrap (a - 0)).toNat (List.take (((x.length : Nat) : Int)).toNat x)) .full]) (hp' := [logM a (termC 0 0 x a).fst (memC a [] x) (List.drop (IntKind.u64.wrap (a - 0)).toNat (List.take (((x.length : Nat) : Int)).toNat x)) .full, .cells [.int .u64 a, .int .u64 (termC 0 0 x a).fst, .sl (.int .i64) (memC a [] x) .shared]]) (cs := [(((List.drop (IntKind.u64.wrap (a - 0)).toNat (List.take (((x.length : Nat) : Int)).toNat x)).length * 264).ble 140737488355328), ((List.drop (IntKind.u64.wrap (a - 0)).toNat (List.take (((x.length : Nat) : Int)).toNat x)).all entFits), (decide (0 ≤ IntKind.u64.wrap (a - 0) ∧ IntKind.u64.wrap (a - 0) ≤ ((x.length : Nat) : Int) ∧ ((x.length : Nat) : Int) ≤ ((x.length : Nat) : Int))), true, (decide (x.length ≤ 1000)), (decide ((memC a [] x).length ≤ 1000)), true, (decide ((0 : Int) ≤ 0 ∧ (0 : Int) ≤ 2000)), (decide (0 ≤ a ∧ a ≤ 2000)), (decide (x.length ≤ 1000)), (decide (a > 0) == false), (decide (a < 0) == false), (decide (a < 0) == false), (decide (a < 0) == false), (decide (a < 0) == false), (decide (((x.length : Nat) : Int) > 0) == false), ((!true) == false), (false == false), (false == false), (false == false), (false == false), (false == false), (false == false), ((!true) == false), (false == false), (false == false), (false == false), (false == false), (false == false), (false == false)]) (by kernel_rfl) (allI (by simp only [eD]; simp only [ew]; simp only [↓q1, ↓q2, ↓q3, ↓q4, ↓q5, ↓q6, ↓q7, ↓d1, ↓d2]; rfl)) (by simp) (by simp [idsV, idsC]) rfl (by simp [idsB, idsC, logM])) rfl
    rw [eD] at key
    exact key
  · have e1 : IntKind.i64.wrap (((x.length : Nat) : Int) - 1) = ((x.length - 1 : Nat) : Int) := by rw [wrap64 (by omega) (by omega)]; omega
    have e2 : (x.getD (((x.length - 1 : Nat) : Int)).toNat rEntry.dflt).fst = ((x.length : Nat) : Int) := by rw [show (((x.length - 1 : Nat) : Int)).toNat = x.length - 1 from rfl]; exact hl h0
    have d1 : decide (a > ((x.length : Nat) : Int)) = false := decide_eq_false (by omega)
    have d2 : decide (((x.length : Nat) : Int) > 0) = true := decide_eq_true (by omega)
    have d3 : inB ((x.length - 1 : Nat) : Int) x.length = true := inB_of (by omega) (by omega)
    have key := dullAt 0 (m := .full) (EC1.heap_trim 1 (f := 16) (args := [.one (.ptr 0 0), vU a]) (hp := [logC 0 0 [] x]) (os := [false, false, false, false, false, false, false, false, false, false, false, false, false, false, true, false, false, false, false, false]) (r := vI 0) (hp2 := [logM a (termC 0 0 x a).fst (memC a [] x) (List.drop (IntKind.u64.wrap (a - 0)).toNat (List.take (((x.length : Nat) : Int)).toNat x)) .full]) (hp' := [logM a (termC 0 0 x a).fst (memC a [] x) (List.drop (IntKind.u64.wrap (a - 0)).toNat (List.take (((x.length : Nat) : Int)).toNat x)) .full, .cells [.int .u64 a, .int .u64 (termC 0 0 x a).fst, .sl (.int .i64) (memC a [] x) .shared]]) (cs := [(((List.drop (IntKind.u64.wrap (a - 0)).toNat (List.take (((x.length : Nat) : Int)).toNat x)).length * 264).ble 140737488355328), ((List.drop (IntKind.u64.wrap (a - 0)).toNat (List.take (((x.length : Nat) : Int)).toNat x)).all entFits), (decide (0 ≤ IntKind.u64.wrap (a - 0) ∧ IntKind.u64.wrap (a - 0) ≤ ((x.length : Nat) : Int) ∧ ((x.length : Nat) : Int) ≤ ((x.length : Nat) : Int))), true, (decide (x.length ≤ 1000)), (decide ((memC a [] x).length ≤ 1000)), true, (decide ((0 : Int) ≤ 0 ∧ (0 : Int) ≤ 2000)), (decide (0 ≤ a ∧ a ≤ 2000)), (decide (x.length ≤ 1000)), (decide (a > (x.getD (IntKind.i64.wrap (((x.length : Nat) : Int) - 1)).toNat rEntry.dflt).fst) == false), (decide (a < 0) == false), (decide (a < 0) == false), (decide (a < 0) == false), (decide (a < 0) == false), (inB (IntKind.i64.wrap (((x.length : Nat) : Int) - 1)) x.length), (inB (IntKind.i64.wrap (((x.length : Nat) : Int) - 1)) x.length), (decide (((x.length : Nat) : Int) > 0) == true), ((!true) == false), (false == false), (false == false), (false == false), (false == false), (false == false), (false == false), ((!true) == false), (false == false), (false == false), (false == false), (false == false), (false == false), (false == false)]) (by kernel_rfl) (allI (by simp only [eD]; simp only [ew, e1]; simp only [e2]; simp only [↓q1, ↓q2, ↓q3, ↓q4, ↓q5, ↓q6, ↓q7, ↓d1, ↓d2, ↓d3]; rfl)) (by simp) (by simp [idsV, idsC]) rfl (by simp [idsB, idsC, logM])) rfl
    rw [eD] at key
    exact key
end Go.Proofs.Ytmbekpoelkcceaa
