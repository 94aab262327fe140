/- May an entry be; no statement. -/
import Derived.Test.YtjplobgambnhjaaGreatOmay
set_option linter.unusedVariables false
set_option linter.unusedSimpArgs false
namespace Go.Proofs.YtjplobgambnhjaaGreat
open Go Go.Eng

def okC (a : rEntry.den) : Bool := (cmdV (a.2.2.2.1.1, a.2.2.2.1.2.1, a.2.2.2.1.2.2.1, a.2.2.2.1.2.2.2.1, (a.2.2.2.1.2.2.2.2.1.1, a.2.2.2.1.2.2.2.2.1.2.1, a.2.2.2.1.2.2.2.2.1.2.2.1, a.2.2.2.1.2.2.2.2.1.2.2.2.1, a.2.2.2.1.2.2.2.2.1.2.2.2.2.1, a.2.2.2.1.2.2.2.2.1.2.2.2.2.2.1, ()), a.2.2.2.1.2.2.2.2.2.1, a.2.2.2.1.2.2.2.2.2.2.1, a.2.2.2.1.2.2.2.2.2.2.2.1, a.2.2.2.1.2.2.2.2.2.2.2.2.1, a.2.2.2.1.2.2.2.2.2.2.2.2.2.1, (a.2.2.2.1.2.2.2.2.2.2.2.2.2.2.1.1, a.2.2.2.1.2.2.2.2.2.2.2.2.2.2.1.2.1, a.2.2.2.1.2.2.2.2.2.2.2.2.2.2.1.2.2.1, a.2.2.2.1.2.2.2.2.2.2.2.2.2.2.1.2.2.2.1, a.2.2.2.1.2.2.2.2.2.2.2.2.2.2.1.2.2.2.2.1, ()), ()) == 0)
def zC (a : rEntry.den) : Bool := (a.2.2.2.1.1 == 0 && (a.2.2.2.1.2.1 == 0 && (a.2.2.2.1.2.2.1 == 0 && (a.2.2.2.1.2.2.2.1 == 0 && (a.2.2.2.1.2.2.2.2.1.1 == 0 && (a.2.2.2.1.2.2.2.2.1.2.1 == { data := #[] } && (a.2.2.2.1.2.2.2.2.1.2.2.1 == { data := #[] } && (a.2.2.2.1.2.2.2.2.1.2.2.2.1 == { data := #[] } && (a.2.2.2.1.2.2.2.2.1.2.2.2.2.1 == false && (a.2.2.2.1.2.2.2.2.1.2.2.2.2.2.1 == { data := #[] } && true))))) && (a.2.2.2.1.2.2.2.2.2.1 == 0 && (a.2.2.2.1.2.2.2.2.2.2.1 == 0 && (a.2.2.2.1.2.2.2.2.2.2.2.1 == { data := #[] } && (a.2.2.2.1.2.2.2.2.2.2.2.2.1 == { data := #[] } && (a.2.2.2.1.2.2.2.2.2.2.2.2.2.1 == 0 && (a.2.2.2.1.2.2.2.2.2.2.2.2.2.2.1.1 == false && (a.2.2.2.1.2.2.2.2.2.2.2.2.2.2.1.2.1 == 0 && (a.2.2.2.1.2.2.2.2.2.2.2.2.2.2.1.2.2.1 == { data := #[] } && (a.2.2.2.1.2.2.2.2.2.2.2.2.2.2.1.2.2.2.1 == 0 && (a.2.2.2.1.2.2.2.2.2.2.2.2.2.2.1.2.2.2.2.1 == 0 && true)))) && true)))))))))))
def entB (a : rEntry.den) : Bool := bif a.1 == 0 then false else bif a.2.1 == 0 then false else bif a.2.2.1 == 1 then (bif ((a.2.2.2.2.1.length : Nat) : Int) == 0 then okC a else false) else bif a.2.2.1 == 2 then (bif zC a then memV a.2.2.2.2.1 == 0 else false) else false
def entV (a : rEntry.den) : Int := bif entB a then 0 else 2
theorem ent_pure (a : rEntry.den) : PureCall Tryz.prog 17 [.agg (rEntry.cells a)] (vI (entV a)) := by
  cases h1 : (a.1 == 0 : Bool) with
  | true =>
    exact PureCall.res (EOmay0.pure_ok (os := [true, true, true, true, true]) (r := (.one (.int .i64 (2)))) (cs := [true == true, (a.1 == 0) == true, (a.1 == 0) == true, (a.1 == 0) == true, (a.1 == 0) == true]) (by kernel_rfl) (allI (by simp only [h1]; rfl))) (by simp only [entV, entB, h1]; rfl)
  | false =>
    cases h2 : (a.2.1 == 0 : Bool) with
    | true =>
      exact PureCall.res (EOmay0.pure_ok (os := [false, false, false, false, true]) (r := (.one (.int .i64 (2)))) (cs := [(a.2.1 == 0) == true, (a.1 == 0) == false, (a.1 == 0) == false, (a.1 == 0) == false, (a.1 == 0) == false]) (by kernel_rfl) (allI (by simp only [h1, h2]; rfl))) (by simp only [entV, entB, h1, h2]; rfl)
    | false =>
      cases h3 : (a.2.2.1 == 1 : Bool) with
      | true =>
        cases h4 : ((((List.length a.2.2.2.2.1) : Nat) : Int) == 0 : Bool) with
        | true =>
          cases h5 : (okC a : Bool) with
          | true =>
            exact PureCall.res (EOmay0.pure_ok (os := [false, false, false, false, false, true, true, true, true, true, true, true]) (r := (.one (.int .i64 (0)))) (cs := [(okC a) == true, ((((List.length a.2.2.2.2.1) : Nat) : Int) == 0) == true, ((((List.length a.2.2.2.2.1) : Nat) : Int) == 0) == true, ((((List.length a.2.2.2.2.1) : Nat) : Int) == 0) == true, ((((List.length a.2.2.2.2.1) : Nat) : Int) == 0) == true, ((((List.length a.2.2.2.2.1) : Nat) : Int) == 0) == true, (a.2.2.1 == 1) == true, (a.2.1 == 0) == false, (a.1 == 0) == false, (a.1 == 0) == false, (a.1 == 0) == false, (a.1 == 0) == false]) (by kernel_rfl) (allI (by simp only [h1, h2, h3, h4, h5]; rfl))) (by simp only [entV, entB, h1, h2, h3, h4, h5]; rfl)
          | false =>
            exact PureCall.res (EOmay0.pure_ok (os := [false, false, false, false, false, true, true, true, true, true, true, false]) (r := (.one (.int .i64 (2)))) (cs := [(okC a) == false, ((((List.length a.2.2.2.2.1) : Nat) : Int) == 0) == true, ((((List.length a.2.2.2.2.1) : Nat) : Int) == 0) == true, ((((List.length a.2.2.2.2.1) : Nat) : Int) == 0) == true, ((((List.length a.2.2.2.2.1) : Nat) : Int) == 0) == true, ((((List.length a.2.2.2.2.1) : Nat) : Int) == 0) == true, (a.2.2.1 == 1) == true, (a.2.1 == 0) == false, (a.1 == 0) == false, (a.1 == 0) == false, (a.1 == 0) == false, (a.1 == 0) == false]) (by kernel_rfl) (allI (by simp only [h1, h2, h3, h4, h5]; rfl))) (by simp only [entV, entB, h1, h2, h3, h4, h5]; rfl)
        | false =>
          exact PureCall.res (EOmay0.pure_ok (os := [false, false, false, false, false, true, false, false, false, false, false, false]) (r := (.one (.int .i64 (2)))) (cs := [false == false, ((((List.length a.2.2.2.2.1) : Nat) : Int) == 0) == false, ((((List.length a.2.2.2.2.1) : Nat) : Int) == 0) == false, ((((List.length a.2.2.2.2.1) : Nat) : Int) == 0) == false, ((((List.length a.2.2.2.2.1) : Nat) : Int) == 0) == false, ((((List.length a.2.2.2.2.1) : Nat) : Int) == 0) == false, (a.2.2.1 == 1) == true, (a.2.1 == 0) == false, (a.1 == 0) == false, (a.1 == 0) == false, (a.1 == 0) == false, (a.1 == 0) == false]) (by kernel_rfl) (allI (by simp only [h1, h2, h3, h4]; rfl))) (by simp only [entV, entB, h1, h2, h3, h4]; rfl)
      | false =>
        cases h6 : (a.2.2.1 == 2 : Bool) with
        | true =>
          cases h7 : (zC a : Bool) with
          | true =>
            cases h8 : (memV a.2.2.2.2.1 == 0 : Bool) with
            | true =>
              exact PureCall.res (EOmay0.pure_ok (os := [false, false, false, false, false, false, true, true, true, true, true, true, true]) (r := (.one (.int .i64 (0)))) (cs := [(memV a.2.2.2.2.1 == 0) == true, (zC a) == true, (zC a) == true, (zC a) == true, (zC a) == true, (zC a) == true, (a.2.2.1 == 2) == true, (a.2.2.1 == 1) == false, (a.2.1 == 0) == false, (a.1 == 0) == false, (a.1 == 0) == false, (a.1 == 0) == false, (a.1 == 0) == false]) (by kernel_rfl) (allI (by simp only [h1, h2, h3, h6, h7, h8]; rfl))) (by simp only [entV, entB, h1, h2, h3, h6, h7, h8]; rfl)
            | false =>
              exact PureCall.res (EOmay0.pure_ok (os := [false, false, false, false, false, false, true, true, true, true, true, true, false]) (r := (.one (.int .i64 (2)))) (cs := [(memV a.2.2.2.2.1 == 0) == false, (zC a) == true, (zC a) == true, (zC a) == true, (zC a) == true, (zC a) == true, (a.2.2.1 == 2) == true, (a.2.2.1 == 1) == false, (a.2.1 == 0) == false, (a.1 == 0) == false, (a.1 == 0) == false, (a.1 == 0) == false, (a.1 == 0) == false]) (by kernel_rfl) (allI (by simp only [h1, h2, h3, h6, h7, h8]; rfl))) (by simp only [entV, entB, h1, h2, h3, h6, h7, h8]; rfl)
          | false =>
            exact PureCall.res (EOmay0.pure_ok (os := [false, false, false, false, false, false, true, false, false, false, false, false, false]) (r := (.one (.int .i64 (2)))) (cs := [false == false, (zC a) == false, (zC a) == false, (zC a) == false, (zC a) == false, (zC a) == false, (a.2.2.1 == 2) == true, (a.2.2.1 == 1) == false, (a.2.1 == 0) == false, (a.1 == 0) == false, (a.1 == 0) == false, (a.1 == 0) == false, (a.1 == 0) == false]) (by kernel_rfl) (allI (by simp only [h1, h2, h3, h6, h7]; rfl))) (by simp only [entV, entB, h1, h2, h3, h6, h7]; rfl)
        | false =>
          exact PureCall.res (EOmay0.pure_ok (os := [false, false, false, false, false, false, false]) (r := (.one (.int .i64 (2)))) (cs := [(a.2.2.1 == 2) == false, (a.2.2.1 == 1) == false, (a.2.1 == 0) == false, (a.1 == 0) == false, (a.1 == 0) == false, (a.1 == 0) == false, (a.1 == 0) == false]) (by kernel_rfl) (allI (by simp only [h1, h2, h3, h6]; rfl))) (by simp only [entV, entB, h1, h2, h3, h6]; rfl)
theorem rent_pure (a : rEntry.den) (h1 : 0 ≤ (a.1 : Int)) (h2 : 0 ≤ (a.2.1 : Int)) : PureCall Tryz.prog 21 [.agg (rEntry.cells a)] (vI (entV a)) := by
  have g1 : (a.1 == (0 : Int)) = !(decide ((a.1 : Int) > 0)) := by
    by_cases h : (a.1 : Int) > 0
    · rw [decide_eq_true h]; exact beq_false_of_ne (fun e => by rw [e] at h; exact absurd h (by decide))
    · rw [decide_eq_false h]; exact beq_iff_eq.2 (Int.le_antisymm (Int.not_lt.1 h) h1)
  have g2 : (a.2.1 == (0 : Int)) = !(decide ((a.2.1 : Int) > 0)) := by
    by_cases h : (a.2.1 : Int) > 0
    · rw [decide_eq_true h]; exact beq_false_of_ne (fun e => by rw [e] at h; exact absurd h (by decide))
    · rw [decide_eq_false h]; exact beq_iff_eq.2 (Int.le_antisymm (Int.not_lt.1 h) h2)
  cases h1 : (decide (a.1 > 0) : Bool) with
  | true =>
    cases h2 : (a.2.2.1 == 1 : Bool) with
    | true =>
      cases h3 : (decide (a.2.1 > 0) : Bool) with
      | true =>
        cases h4 : (okC a : Bool) with
        | true =>
          cases h5 : ((((List.length a.2.2.2.2.1) : Nat) : Int) == 0 : Bool) with
          | true =>
            exact PureCall.res (EOmay0.pure_ok (os := [true, true, true, true, true, true, true, true, true, true, true, true, true, true, true, false]) (r := (.one (.int .i64 (0)))) (cs := [(!(((List.length a.2.2.2.2.1) : Nat) : Int) == 0) == false, (okC a) == true, (okC a) == true, (okC a) == true, (okC a) == true, (okC a) == true, decide (a.2.1 > 0) == true, decide (a.2.1 > 0) == true, decide (a.2.1 > 0) == true, decide (a.2.1 > 0) == true, decide (a.2.1 > 0) == true, (a.2.2.1 == 1) == true, decide (a.1 > 0) == true, decide (a.1 > 0) == true, decide (a.1 > 0) == true, decide (a.1 > 0) == true]) (by kernel_rfl) (allI (by simp only [h1, h2, h3, h4, h5]; rfl))) (by simp only [entV, entB, g1, g2, Bool.cond_self, h1, h2, h3, h4, h5]; rfl)
          | false =>
            exact PureCall.res (EOmay0.pure_ok (os := [true, true, true, true, true, true, true, true, true, true, true, true, true, true, true, true]) (r := (.one (.int .i64 (2)))) (cs := [(!(((List.length a.2.2.2.2.1) : Nat) : Int) == 0) == true, (okC a) == true, (okC a) == true, (okC a) == true, (okC a) == true, (okC a) == true, decide (a.2.1 > 0) == true, decide (a.2.1 > 0) == true, decide (a.2.1 > 0) == true, decide (a.2.1 > 0) == true, decide (a.2.1 > 0) == true, (a.2.2.1 == 1) == true, decide (a.1 > 0) == true, decide (a.1 > 0) == true, decide (a.1 > 0) == true, decide (a.1 > 0) == true]) (by kernel_rfl) (allI (by simp only [h1, h2, h3, h4, h5]; rfl))) (by simp only [entV, entB, g1, g2, Bool.cond_self, h1, h2, h3, h4, h5]; rfl)
        | false =>
          exact PureCall.res (EOmay0.pure_ok (os := [true, true, true, true, true, true, true, true, true, true, false, false, false, false, false, true]) (r := (.one (.int .i64 (2)))) (cs := [(!false) == true, (okC a) == false, (okC a) == false, (okC a) == false, (okC a) == false, (okC a) == false, decide (a.2.1 > 0) == true, decide (a.2.1 > 0) == true, decide (a.2.1 > 0) == true, decide (a.2.1 > 0) == true, decide (a.2.1 > 0) == true, (a.2.2.1 == 1) == true, decide (a.1 > 0) == true, decide (a.1 > 0) == true, decide (a.1 > 0) == true, decide (a.1 > 0) == true]) (by kernel_rfl) (allI (by simp only [h1, h2, h3, h4]; rfl))) (by simp only [entV, entB, g1, g2, Bool.cond_self, h1, h2, h3, h4]; rfl)
      | false =>
        exact PureCall.res (EOmay0.pure_ok (os := [true, true, true, true, true, false, false, false, false, false, false, false, false, false, false, true]) (r := (.one (.int .i64 (2)))) (cs := [(!false) == true, false == false, false == false, false == false, false == false, false == false, decide (a.2.1 > 0) == false, decide (a.2.1 > 0) == false, decide (a.2.1 > 0) == false, decide (a.2.1 > 0) == false, decide (a.2.1 > 0) == false, (a.2.2.1 == 1) == true, decide (a.1 > 0) == true, decide (a.1 > 0) == true, decide (a.1 > 0) == true, decide (a.1 > 0) == true]) (by kernel_rfl) (allI (by simp only [h1, h2, h3]; rfl))) (by simp only [entV, entB, g1, g2, Bool.cond_self, h1, h2, h3]; rfl)
    | false =>
      cases h6 : (decide (a.2.1 > 0) : Bool) with
      | true =>
        cases h7 : (a.2.2.1 == 2 : Bool) with
        | true =>
          cases h8 : (zC a : Bool) with
          | true =>
            cases h9 : (memV a.2.2.2.2.1 == 0 : Bool) with
            | true =>
              exact PureCall.res (EOmay0.pure_ok (os := [true, true, true, true, false, true, true, true, true, true, true, true, true, true, true, true, true, true, true, false]) (r := (.one (.int .i64 (0)))) (cs := [(!memV a.2.2.2.2.1 == 0) == false, (zC a) == true, (zC a) == true, (zC a) == true, (zC a) == true, (zC a) == true, (a.2.2.1 == 2) == true, (a.2.2.1 == 2) == true, (a.2.2.1 == 2) == true, (a.2.2.1 == 2) == true, (a.2.2.1 == 2) == true, decide (a.2.1 > 0) == true, decide (a.2.1 > 0) == true, decide (a.2.1 > 0) == true, decide (a.2.1 > 0) == true, (a.2.2.1 == 1) == false, decide (a.1 > 0) == true, decide (a.1 > 0) == true, decide (a.1 > 0) == true, decide (a.1 > 0) == true]) (by kernel_rfl) (allI (by simp only [h1, h2, h6, h7, h8, h9]; rfl))) (by simp only [entV, entB, g1, g2, Bool.cond_self, h1, h2, h6, h7, h8, h9]; rfl)
            | false =>
              exact PureCall.res (EOmay0.pure_ok (os := [true, true, true, true, false, true, true, true, true, true, true, true, true, true, true, true, true, true, true, true]) (r := (.one (.int .i64 (2)))) (cs := [(!memV a.2.2.2.2.1 == 0) == true, (zC a) == true, (zC a) == true, (zC a) == true, (zC a) == true, (zC a) == true, (a.2.2.1 == 2) == true, (a.2.2.1 == 2) == true, (a.2.2.1 == 2) == true, (a.2.2.1 == 2) == true, (a.2.2.1 == 2) == true, decide (a.2.1 > 0) == true, decide (a.2.1 > 0) == true, decide (a.2.1 > 0) == true, decide (a.2.1 > 0) == true, (a.2.2.1 == 1) == false, decide (a.1 > 0) == true, decide (a.1 > 0) == true, decide (a.1 > 0) == true, decide (a.1 > 0) == true]) (by kernel_rfl) (allI (by simp only [h1, h2, h6, h7, h8, h9]; rfl))) (by simp only [entV, entB, g1, g2, Bool.cond_self, h1, h2, h6, h7, h8, h9]; rfl)
          | false =>
            exact PureCall.res (EOmay0.pure_ok (os := [true, true, true, true, false, true, true, true, true, true, true, true, true, true, false, false, false, false, false, true]) (r := (.one (.int .i64 (2)))) (cs := [(!false) == true, (zC a) == false, (zC a) == false, (zC a) == false, (zC a) == false, (zC a) == false, (a.2.2.1 == 2) == true, (a.2.2.1 == 2) == true, (a.2.2.1 == 2) == true, (a.2.2.1 == 2) == true, (a.2.2.1 == 2) == true, decide (a.2.1 > 0) == true, decide (a.2.1 > 0) == true, decide (a.2.1 > 0) == true, decide (a.2.1 > 0) == true, (a.2.2.1 == 1) == false, decide (a.1 > 0) == true, decide (a.1 > 0) == true, decide (a.1 > 0) == true, decide (a.1 > 0) == true]) (by kernel_rfl) (allI (by simp only [h1, h2, h6, h7, h8]; rfl))) (by simp only [entV, entB, g1, g2, Bool.cond_self, h1, h2, h6, h7, h8]; rfl)
        | false =>
          exact PureCall.res (EOmay0.pure_ok (os := [true, true, true, true, false, true, true, true, true, false, false, false, false, false, false, false, false, false, false, true]) (r := (.one (.int .i64 (2)))) (cs := [(!false) == true, false == false, false == false, false == false, false == false, false == false, (a.2.2.1 == 2) == false, (a.2.2.1 == 2) == false, (a.2.2.1 == 2) == false, (a.2.2.1 == 2) == false, (a.2.2.1 == 2) == false, decide (a.2.1 > 0) == true, decide (a.2.1 > 0) == true, decide (a.2.1 > 0) == true, decide (a.2.1 > 0) == true, (a.2.2.1 == 1) == false, decide (a.1 > 0) == true, decide (a.1 > 0) == true, decide (a.1 > 0) == true, decide (a.1 > 0) == true]) (by kernel_rfl) (allI (by simp only [h1, h2, h6, h7]; rfl))) (by simp only [entV, entB, g1, g2, Bool.cond_self, h1, h2, h6, h7]; rfl)
      | false =>
        exact PureCall.res (EOmay0.pure_ok (os := [true, true, true, true, false, false, false, false, false, false, false, false, false, false, false, false, false, false, false, true]) (r := (.one (.int .i64 (2)))) (cs := [(!false) == true, false == false, false == false, false == false, false == false, false == false, false == false, false == false, false == false, false == false, false == false, decide (a.2.1 > 0) == false, decide (a.2.1 > 0) == false, decide (a.2.1 > 0) == false, decide (a.2.1 > 0) == false, (a.2.2.1 == 1) == false, decide (a.1 > 0) == true, decide (a.1 > 0) == true, decide (a.1 > 0) == true, decide (a.1 > 0) == true]) (by kernel_rfl) (allI (by simp only [h1, h2, h6]; rfl))) (by simp only [entV, entB, g1, g2, Bool.cond_self, h1, h2, h6]; rfl)
  | false =>
    cases h10 : (a.2.2.1 == 1 : Bool) with
    | true =>
      exact PureCall.res (EOmay0.pure_ok (os := [false, false, false, false, true, false, false, false, false, false, false, false, false, false, false, true]) (r := (.one (.int .i64 (2)))) (cs := [(!false) == true, false == false, false == false, false == false, false == false, false == false, false == false, false == false, false == false, false == false, false == false, (a.2.2.1 == 1) == true, decide (a.1 > 0) == false, decide (a.1 > 0) == false, decide (a.1 > 0) == false, decide (a.1 > 0) == false]) (by kernel_rfl) (allI (by simp only [h1, h10]; rfl))) (by simp only [entV, entB, g1, g2, Bool.cond_self, h1, h10]; rfl)
    | false =>
      exact PureCall.res (EOmay0.pure_ok (os := [false, false, false, false, false, false, false, false, false, false, false, false, false, false, false, false, false, false, false, true]) (r := (.one (.int .i64 (2)))) (cs := [(!false) == true, false == false, false == false, false == false, false == false, false == false, false == false, false == false, false == false, false == false, false == false, false == false, false == false, false == false, false == false, (a.2.2.1 == 1) == false, decide (a.1 > 0) == false, decide (a.1 > 0) == false, decide (a.1 > 0) == false, decide (a.1 > 0) == false]) (by kernel_rfl) (allI (by simp only [h1, h10]; rfl))) (by simp only [entV, entB, g1, g2, Bool.cond_self, h1, h10]; rfl)
end Go.Proofs.YtjplobgambnhjaaGreat
