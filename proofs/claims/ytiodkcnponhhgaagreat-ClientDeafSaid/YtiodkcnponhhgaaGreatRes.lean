/- Which results may be; no statement. -/
import Derived.Test.YtiodkcnponhhgaaGreatPn
set_option linter.unusedVariables false
namespace Go.Proofs.YtiodkcnponhhgaaGreat
open Go Go.Eng

abbrev rRes : CT := .pair cI (.pair .bool (.pair .str (.pair .str (.pair cU .unit))))
def resOk (e : Int) (row val : ByteArray) (ver : Int) : Bool := decide (e ≥ 0) && (decide (e < 16) && (decide (((row.size : Nat) : Int) ≤ 32) && (decide (((val.size : Nat) : Int) ≤ 65536) && decide (ver ≤ 1099511627776))))
theorem result_pure (e : Int) (f : Bool) (row val : ByteArray) (ver : Int) : PureCall Tryz.prog 74 [.agg [.int .i64 e, .bool f, .str row, .str val, .int .u64 ver]] (vB (resOk e row val ver)) := by
  cases h1 : (decide (e ≥ 0) : Bool) with
  | true =>
    cases h2 : (decide (e < 16) : Bool) with
    | true =>
      cases h3 : (decide (((row.size : Nat) : Int) ≤ 32) : Bool) with
      | true =>
        cases h4 : (decide (((val.size : Nat) : Int) ≤ 65536) : Bool) with
        | true =>
          exact PureCall.res (EPn.pure_ok (os := [true, true, true, true, true, true, true, true, true, true, true, true, true, true, true, true, true]) (r := (.one (.bool (decide (ver ≤ 1099511627776))))) (cs := [decide (((val.size : Nat) : Int) ≤ 65536) == true, decide (((val.size : Nat) : Int) ≤ 65536) == true, decide (((val.size : Nat) : Int) ≤ 65536) == true, decide (((val.size : Nat) : Int) ≤ 65536) == true, decide (((row.size : Nat) : Int) ≤ 32) == true, decide (((row.size : Nat) : Int) ≤ 32) == true, decide (((row.size : Nat) : Int) ≤ 32) == true, decide (((row.size : Nat) : Int) ≤ 32) == true, decide (((row.size : Nat) : Int) ≤ 32) == true, decide (e < 16) == true, decide (e < 16) == true, decide (e < 16) == true, decide (e < 16) == true, decide (e ≥ 0) == true, decide (e ≥ 0) == true, decide (e ≥ 0) == true, decide (e ≥ 0) == true]) (by kernel_rfl) (allI (by simp only [h1, h2, h3, h4]; rfl))) (by simp only [resOk, h1, h2, h3, h4]; rfl)
        | false =>
          exact PureCall.res (EPn.pure_ok (os := [true, true, true, true, true, true, true, true, true, true, true, true, true, false, false, false, false]) (r := (.one (.bool false))) (cs := [decide (((val.size : Nat) : Int) ≤ 65536) == false, decide (((val.size : Nat) : Int) ≤ 65536) == false, decide (((val.size : Nat) : Int) ≤ 65536) == false, decide (((val.size : Nat) : Int) ≤ 65536) == false, decide (((row.size : Nat) : Int) ≤ 32) == true, decide (((row.size : Nat) : Int) ≤ 32) == true, decide (((row.size : Nat) : Int) ≤ 32) == true, decide (((row.size : Nat) : Int) ≤ 32) == true, decide (((row.size : Nat) : Int) ≤ 32) == true, decide (e < 16) == true, decide (e < 16) == true, decide (e < 16) == true, decide (e < 16) == true, decide (e ≥ 0) == true, decide (e ≥ 0) == true, decide (e ≥ 0) == true, decide (e ≥ 0) == true]) (by kernel_rfl) (allI (by simp only [h1, h2, h3, h4]; rfl))) (by simp only [resOk, h1, h2, h3, h4]; rfl)
      | false =>
        exact PureCall.res (EPn.pure_ok (os := [true, true, true, true, true, true, true, true, false, false, false, false, false, false, false, false, false]) (r := (.one (.bool false))) (cs := [false == false, false == false, false == false, false == false, decide (((row.size : Nat) : Int) ≤ 32) == false, decide (((row.size : Nat) : Int) ≤ 32) == false, decide (((row.size : Nat) : Int) ≤ 32) == false, decide (((row.size : Nat) : Int) ≤ 32) == false, decide (((row.size : Nat) : Int) ≤ 32) == false, decide (e < 16) == true, decide (e < 16) == true, decide (e < 16) == true, decide (e < 16) == true, decide (e ≥ 0) == true, decide (e ≥ 0) == true, decide (e ≥ 0) == true, decide (e ≥ 0) == true]) (by kernel_rfl) (allI (by simp only [h1, h2, h3]; rfl))) (by simp only [resOk, h1, h2, h3]; rfl)
    | false =>
      exact PureCall.res (EPn.pure_ok (os := [true, true, true, true, false, false, false, false, false, false, false, false, false, false, false, false, false]) (r := (.one (.bool false))) (cs := [false == false, false == false, false == false, false == false, false == false, false == false, false == false, false == false, false == false, decide (e < 16) == false, decide (e < 16) == false, decide (e < 16) == false, decide (e < 16) == false, decide (e ≥ 0) == true, decide (e ≥ 0) == true, decide (e ≥ 0) == true, decide (e ≥ 0) == true]) (by kernel_rfl) (allI (by simp only [h1, h2]; rfl))) (by simp only [resOk, h1, h2]; rfl)
  | false =>
    exact PureCall.res (EPn.pure_ok (os := [false, false, false, false, false, false, false, false, false, false, false, false, false, false, false, false, false]) (r := (.one (.bool false))) (cs := [false == false, false == false, false == false, false == false, false == false, false == false, false == false, false == false, false == false, false == false, false == false, false == false, false == false, decide (e ≥ 0) == false, decide (e ≥ 0) == false, decide (e ≥ 0) == false, decide (e ≥ 0) == false]) (by kernel_rfl) (allI (by simp only [h1]; rfl))) (by simp only [resOk, h1]; rfl)
noncomputable def ERes : Env Tryz.prog := EPn.addT1 74 [.agg rRes] (fun d => vB (resOk d.1.1 d.1.2.2.1 d.1.2.2.2.1 d.1.2.2.2.2.1)) (fun _ => []) fun d _ => result_pure d.1.1 d.1.2.1 d.1.2.2.1 d.1.2.2.2.1 d.1.2.2.2.2.1
end Go.Proofs.YtiodkcnponhhgaaGreat
