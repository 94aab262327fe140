/- keys.Cmp: its contract; no statement. -/
import Derived.Test.YtolhkkoakneflaaCmp
set_option linter.unusedVariables false
set_option linter.unusedSimpArgs false
namespace Go.Proofs.Ytolhkkoakneflaa
open Go Go.Eng

/-- The order of cells. -/
def cmpC (a b : rCell.den) : Int := bif cmpB a.1 b.1 != 0 then cmpB a.1 b.1 else bif cmpB a.2.1 b.2.1 != 0 then cmpB a.2.1 b.2.1 else bif decide ((b.2.2.1 : Int) < (a.2.2.1 : Int)) then -1 else bif decide ((b.2.2.1 : Int) > (a.2.2.1 : Int)) then 1 else 0
theorem cmc_pure (a1 a2 a5 b1 b2 b5 : ByteArray) (a3 b3 : Int) (a4 b4 : Bool) : PureCall Try.prog 33 [.agg [.str a1, .str a2, .int .u64 a3, .bool a4, .str a5], .agg [.str b1, .str b2, .int .u64 b3, .bool b4, .str b5]] (vI (cmpC (a1, a2, a3, a4, a5, ()) (b1, b2, b3, b4, b5, ()))) := by
  have q0 : (a3 != a3) = false := by simp
  have q1 : (b3 != b3) = false := by simp
  rcases Bool.eq_false_or_eq_true (decide (b3 < a3)) with h3 | h3
  · rcases Bool.eq_false_or_eq_true (cmpB a1 b1 != 0) with h1 | h1
    · simp only [cmpC, h1, h3, cond_true, cond_false]
      have g1 : (([cmpB a1 b1, cmpB a2 b2, -1] : List Int).getD (Int.toNat 0) (CT.int IntKind.i64).dflt != 0) = true := h1
      exact ECst.pure_ok (os := [false, false, true, true, true]) (r := (.one (.int .i64 ([cmpB a1 b1, cmpB a2 b2, -1].getD 0 (CT.int IntKind.i64).dflt)))) (cs := [(([cmpB a1 b1, cmpB a2 b2, -1].getD (Int.toNat 0) (CT.int IntKind.i64).dflt != 0) == true), (inB (0) 3), (decide (0 < 3) == true), (decide (b3 < a3) == true), ((a3 != a3) == false), ((b3 != b3) == false)]) (by kernel_rfl) (allI (by simp only [h3, g1, q0, q1]; rfl))
    · rcases Bool.eq_false_or_eq_true (cmpB a2 b2 != 0) with h2 | h2
      all_goals
        have g1 : (([cmpB a1 b1, cmpB a2 b2, -1] : List Int).getD (Int.toNat 0) (CT.int IntKind.i64).dflt != 0) = false := h1
      · simp only [cmpC, h1, h2, h3, cond_true, cond_false]
        have g2 : (([cmpB a1 b1, cmpB a2 b2, -1] : List Int).getD (IntKind.i64.wrap (0 + 1)).toNat (CT.int IntKind.i64).dflt != 0) = true := h2
        exact ECst.pure_ok (os := [false, false, true, true, false, true, true]) (r := (.one (.int .i64 ([cmpB a1 b1, cmpB a2 b2, -1].getD 1 (CT.int IntKind.i64).dflt)))) (cs := [(([cmpB a1 b1, cmpB a2 b2, -1].getD (IntKind.i64.wrap (0 + 1)).toNat (CT.int IntKind.i64).dflt != 0) == true), (inB (1) 3), (decide (1 < 3) == true), (([cmpB a1 b1, cmpB a2 b2, -1].getD (Int.toNat 0) (CT.int IntKind.i64).dflt != 0) == false), (inB (0) 3), (decide (0 < 3) == true), (decide (b3 < a3) == true), ((a3 != a3) == false), ((b3 != b3) == false)]) (by kernel_rfl) (allI (by simp only [h3, g1, g2, q0, q1]; rfl))
      · simp only [cmpC, h1, h2, h3, cond_true, cond_false]
        have g2 : (([cmpB a1 b1, cmpB a2 b2, -1] : List Int).getD (IntKind.i64.wrap (0 + 1)).toNat (CT.int IntKind.i64).dflt != 0) = false := h2
        exact ECst.pure_ok (os := [false, false, true, true, false, true, false, true, true]) (r := (.one (.int .i64 (-1)))) (cs := [(true == true), (inB (2) 3), (decide (2 < 3) == true), (([cmpB a1 b1, cmpB a2 b2, -1].getD (IntKind.i64.wrap (0 + 1)).toNat (CT.int IntKind.i64).dflt != 0) == false), (inB (1) 3), (decide (1 < 3) == true), (([cmpB a1 b1, cmpB a2 b2, -1].getD (Int.toNat 0) (CT.int IntKind.i64).dflt != 0) == false), (inB (0) 3), (decide (0 < 3) == true), (decide (b3 < a3) == true), ((a3 != a3) == false), ((b3 != b3) == false)]) (by kernel_rfl) (allI (by simp only [h3, g1, g2, q0, q1]; rfl))
  · rcases Bool.eq_false_or_eq_true (decide (b3 > a3)) with h4 | h4
    · rcases Bool.eq_false_or_eq_true (cmpB a1 b1 != 0) with h1 | h1
      · simp only [cmpC, h1, h3, h4, cond_true, cond_false]
        have g1 : (([cmpB a1 b1, cmpB a2 b2, 1] : List Int).getD (Int.toNat 0) (CT.int IntKind.i64).dflt != 0) = true := h1
        exact ECst.pure_ok (os := [false, false, false, true, true, true]) (r := (.one (.int .i64 ([cmpB a1 b1, cmpB a2 b2, 1].getD 0 (CT.int IntKind.i64).dflt)))) (cs := [(([cmpB a1 b1, cmpB a2 b2, 1].getD (Int.toNat 0) (CT.int IntKind.i64).dflt != 0) == true), (inB (0) 3), (decide (0 < 3) == true), (decide (b3 > a3) == true), (decide (b3 < a3) == false), ((a3 != a3) == false), ((b3 != b3) == false)]) (by kernel_rfl) (allI (by simp only [h3, h4, g1, q0, q1]; rfl))
      · rcases Bool.eq_false_or_eq_true (cmpB a2 b2 != 0) with h2 | h2
        all_goals
          have g1 : (([cmpB a1 b1, cmpB a2 b2, 1] : List Int).getD (Int.toNat 0) (CT.int IntKind.i64).dflt != 0) = false := h1
        · simp only [cmpC, h1, h2, h3, h4, cond_true, cond_false]
          have g2 : (([cmpB a1 b1, cmpB a2 b2, 1] : List Int).getD (IntKind.i64.wrap (0 + 1)).toNat (CT.int IntKind.i64).dflt != 0) = true := h2
          exact ECst.pure_ok (os := [false, false, false, true, true, false, true, true]) (r := (.one (.int .i64 ([cmpB a1 b1, cmpB a2 b2, 1].getD 1 (CT.int IntKind.i64).dflt)))) (cs := [(([cmpB a1 b1, cmpB a2 b2, 1].getD (IntKind.i64.wrap (0 + 1)).toNat (CT.int IntKind.i64).dflt != 0) == true), (inB (1) 3), (decide (1 < 3) == true), (([cmpB a1 b1, cmpB a2 b2, 1].getD (Int.toNat 0) (CT.int IntKind.i64).dflt != 0) == false), (inB (0) 3), (decide (0 < 3) == true), (decide (b3 > a3) == true), (decide (b3 < a3) == false), ((a3 != a3) == false), ((b3 != b3) == false)]) (by kernel_rfl) (allI (by simp only [h3, h4, g1, g2, q0, q1]; rfl))
        · simp only [cmpC, h1, h2, h3, h4, cond_true, cond_false]
          have g2 : (([cmpB a1 b1, cmpB a2 b2, 1] : List Int).getD (IntKind.i64.wrap (0 + 1)).toNat (CT.int IntKind.i64).dflt != 0) = false := h2
          exact ECst.pure_ok (os := [false, false, false, true, true, false, true, false, true, true]) (r := (.one (.int .i64 (1)))) (cs := [(true == true), (inB (2) 3), (decide (2 < 3) == true), (([cmpB a1 b1, cmpB a2 b2, 1].getD (IntKind.i64.wrap (0 + 1)).toNat (CT.int IntKind.i64).dflt != 0) == false), (inB (1) 3), (decide (1 < 3) == true), (([cmpB a1 b1, cmpB a2 b2, 1].getD (Int.toNat 0) (CT.int IntKind.i64).dflt != 0) == false), (inB (0) 3), (decide (0 < 3) == true), (decide (b3 > a3) == true), (decide (b3 < a3) == false), ((a3 != a3) == false), ((b3 != b3) == false)]) (by kernel_rfl) (allI (by simp only [h3, h4, g1, g2, q0, q1]; rfl))
    · rcases Bool.eq_false_or_eq_true (cmpB a1 b1 != 0) with h1 | h1
      · simp only [cmpC, h1, h3, h4, cond_true, cond_false]
        have g1 : (([cmpB a1 b1, cmpB a2 b2, 0] : List Int).getD (Int.toNat 0) (CT.int IntKind.i64).dflt != 0) = true := h1
        exact ECst.pure_ok (os := [false, false, false, false, true, true]) (r := (.one (.int .i64 ([cmpB a1 b1, cmpB a2 b2, 0].getD 0 (CT.int IntKind.i64).dflt)))) (cs := [(([cmpB a1 b1, cmpB a2 b2, 0].getD (Int.toNat 0) (CT.int IntKind.i64).dflt != 0) == true), (inB (0) 3), (decide (0 < 3) == true), (decide (b3 > a3) == false), (decide (b3 < a3) == false), ((a3 != a3) == false), ((b3 != b3) == false)]) (by kernel_rfl) (allI (by simp only [h3, h4, g1, q0, q1]; rfl))
      · rcases Bool.eq_false_or_eq_true (cmpB a2 b2 != 0) with h2 | h2
        all_goals
          have g1 : (([cmpB a1 b1, cmpB a2 b2, 0] : List Int).getD (Int.toNat 0) (CT.int IntKind.i64).dflt != 0) = false := h1
        · simp only [cmpC, h1, h2, h3, h4, cond_true, cond_false]
          have g2 : (([cmpB a1 b1, cmpB a2 b2, 0] : List Int).getD (IntKind.i64.wrap (0 + 1)).toNat (CT.int IntKind.i64).dflt != 0) = true := h2
          exact ECst.pure_ok (os := [false, false, false, false, true, false, true, true]) (r := (.one (.int .i64 ([cmpB a1 b1, cmpB a2 b2, 0].getD 1 (CT.int IntKind.i64).dflt)))) (cs := [(([cmpB a1 b1, cmpB a2 b2, 0].getD (IntKind.i64.wrap (0 + 1)).toNat (CT.int IntKind.i64).dflt != 0) == true), (inB (1) 3), (decide (1 < 3) == true), (([cmpB a1 b1, cmpB a2 b2, 0].getD (Int.toNat 0) (CT.int IntKind.i64).dflt != 0) == false), (inB (0) 3), (decide (0 < 3) == true), (decide (b3 > a3) == false), (decide (b3 < a3) == false), ((a3 != a3) == false), ((b3 != b3) == false)]) (by kernel_rfl) (allI (by simp only [h3, h4, g1, g2, q0, q1]; rfl))
        · simp only [cmpC, h1, h2, h3, h4, cond_true, cond_false]
          have g2 : (([cmpB a1 b1, cmpB a2 b2, 0] : List Int).getD (IntKind.i64.wrap (0 + 1)).toNat (CT.int IntKind.i64).dflt != 0) = false := h2
          exact ECst.pure_ok (os := [false, false, false, false, true, false, true, false, true, false, false]) (r := (.one (.int .i64 (0)))) (cs := [(decide (3 < 3) == false), (false == false), (inB (2) 3), (decide (2 < 3) == true), (([cmpB a1 b1, cmpB a2 b2, 0].getD (IntKind.i64.wrap (0 + 1)).toNat (CT.int IntKind.i64).dflt != 0) == false), (inB (1) 3), (decide (1 < 3) == true), (([cmpB a1 b1, cmpB a2 b2, 0].getD (Int.toNat 0) (CT.int IntKind.i64).dflt != 0) == false), (inB (0) 3), (decide (0 < 3) == true), (decide (b3 > a3) == false), (decide (b3 < a3) == false), ((a3 != a3) == false), ((b3 != b3) == false)]) (by kernel_rfl) (allI (by simp only [h3, h4, g1, g2, q0, q1]; rfl))
noncomputable def ECmc : Env Try.prog := ECst.addT1 33 [.agg rCell, .agg rCell] (fun d => vI (cmpC d.1 d.2.1)) (fun _ => []) fun d _ => cmc_pure _ _ _ _ _ _ _ _ _ _
end Go.Proofs.Ytolhkkoakneflaa
