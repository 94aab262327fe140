/- strings.Compare: its contract; no statement. -/
import Derived.Test.YthdgoefjkfafkaaGreatDoorLjn
import Derived.Lib.Bytealg
import Derived.WalkKit
import Derived.ProofKit
set_option linter.unusedVariables false
set_option linter.unusedSimpArgs false
namespace Go.Proofs.YthdgoefjkfafkaaGreatDoor
open Go Go.Eng Go.Proofs

set_option maxHeartbeats 1000000 in
set_option maxRecDepth 100000 in
theorem cst_calls (a b : ByteArray) (w : World) :
    Calls Tryz.prog 86 #[.string a, .string b] w fun e w' => e = .returned (.int .i64 (Lib.compareBytes a.data.toList b.data.toList)) ∧ w' = w := by
  go_enter Tryz.func86, Tryz.ntmps86
  go_wp2
  rw [run_callFunc_extern Tryz.func101 (by kernel_rfl) (by kernel_rfl) (by kernel_rfl) (e := Extern.BytealgCompare.compare) (by kernel_rfl), Lib.run_compareString]
  simp only [Result.andThen]
  rw [Oper.upon_value]
  go_wp2
  go_ret
  exact ⟨rfl, rfl⟩
open Go Go.Eng

abbrev cmpB (a b : ByteArray) : Int := Lib.compareBytes a.data.toList b.data.toList
theorem cst_pure (a b : ByteArray) : PureCall Tryz.prog 86 [.one (.str a), .one (.str b)] (vI (cmpB a b)) :=
  ⟨⟨_, Tryz.func86, by kernel_rfl, by kernel_rfl⟩, fun X vs hX hv => by
    have h0 := hv.at_ (j := 0) rfl
    have h1 := hv.at_ (j := 1) rfl
    obtain ⟨x, hx, e0⟩ := h0
    obtain ⟨y, hy, e1⟩ := h1
    have e0 : x = .string a := e0
    have e1 : y = .string b := e1
    subst e0; subst e1
    have hvs : vs = [.string a, .string b] := by
      apply List.ext_getElem?
      intro i
      match i with
      | 0 => exact hx
      | 1 => exact hy
      | i + 2 =>
        have := hv.1
        rw [List.getElem?_eq_none (by simp at this; omega)]; rfl
    rw [hvs]
    exact (cst_calls a b X.w).mono fun e w' ⟨he, hw⟩ => ⟨_, X, he, hw.symm, .refl X, hX, rfl, rfl⟩⟩
noncomputable def ECst : Env Tryz.prog := E0.addT1 86 [.one .str, .one .str] (fun d => vI (cmpB d.1 d.2.1)) (fun _ => []) fun d _ => cst_pure d.1 d.2.1
open Go Go.Eng

/-- The order of cells. -/
def cmpC (a b : rCell.den) : Int := bif cmpB a.1 b.1 != 0 then cmpB a.1 b.1 else bif cmpB a.2.1 b.2.1 != 0 then cmpB a.2.1 b.2.1 else bif decide ((b.2.2.1 : Int) < (a.2.2.1 : Int)) then -1 else bif decide ((b.2.2.1 : Int) > (a.2.2.1 : Int)) then 1 else 0
theorem cmc_pure (a1 a2 a5 b1 b2 b5 : ByteArray) (a3 b3 : Int) (a4 b4 : Bool) : PureCall Tryz.prog 52 [.agg [.str a1, .str a2, .int .u64 a3, .bool a4, .str a5], .agg [.str b1, .str b2, .int .u64 b3, .bool b4, .str b5]] (vI (cmpC (a1, a2, a3, a4, a5, ()) (b1, b2, b3, b4, b5, ()))) := by
  have q0 : (a3 != a3) = false := by simp
  have q1 : (b3 != b3) = false := by simp
  rcases Bool.eq_false_or_eq_true (decide (b3 < a3)) with h3 | h3
  · rcases Bool.eq_false_or_eq_true (cmpB a1 b1 != 0) with h1 | h1
    · simp only [cmpC, h1, h3, cond_true, cond_false]
      have g1 : (([cmpB a1 b1, cmpB a2 b2, -1] : List Int).getD (Int.toNat 0) (CT.int IntKind.i64).dflt != 0) = true := h1
      exact ECst.pure_ok (os := [false, false, true, true, true]) (r := (.one (.int .i64 ([cmpB a1 b1, cmpB a2 b2, -1].getD 0 (CT.int IntKind.i64).dflt)))) (cs := [(([cmpB a1 b1, cmpB a2 b2, -1].getD (Int.toNat 0) (CT.int IntKind.i64).dflt != 0) == true), (inB (0) 3), (decide (0 < 3) == true), (decide (b3 < a3) == true), ((a3 != a3) == false), ((b3 != b3) == false)]) (by kernel_rfl) (allI (by simp only [h3, g1, q0, q1]; rfl))
    · rcases Bool.eq_false_or_eq_true (cmpB a2 b2 != 0) with h2 | h2
      all_goals
        have g1 : (([cmpB a1 b1, cmpB a2 b2, -1] : List Int).getD (Int.toNat 0) (CT.int IntKind.i64).dflt != 0) = false := h1
      · simp only [cmpC, h1, h2, h3, cond_true, cond_false]
        have g2 : (([cmpB a1 b1, cmpB a2 b2, -1] : List Int).getD (IntKind.i64.wrap (0 + 1)).toNat (CT.int IntKind.i64).dflt != 0) = true := h2
        exact ECst.pure_ok (os := [false, false, true, true, false, true, true]) (r := (.one (.int .i64 ([cmpB a1 b1, cmpB a2 b2, -1].getD 1 (CT.int IntKind.i64).dflt)))) (cs := [(([cmpB a1 b1, cmpB a2 b2, -1].getD (IntKind.i64.wrap (0 + 1)).toNat (CT.int IntKind.i64).dflt != 0) == true), (inB (1) 3), (decide (1 < 3) == true), (([cmpB a1 b1, cmpB a2 b2, -1].getD (Int.toNat 0) (CT.int IntKind.i64).dflt != 0) == false), (inB (0) 3), (decide (0 < 3) == true), (decide (b3 < a3) == true), ((a3 != a3) == false), ((b3 != b3) == false)]) (by kernel_rfl) (allI (by simp only [h3, g1, g2, q0, q1]; rfl))
      · simp only [cmpC, h1, h2, h3, cond_true, cond_false]
        have g2 : (([cmpB a1 b1, cmpB a2 b2, -1] : List Int).getD (IntKind.i64.wrap (0 + 1)).toNat (CT.int IntKind.i64).dflt != 0) = false := h2
        exact ECst.pure_ok (os := [false, false, true, true, false, true, false, true, true]) (r := (.one (.int .i64 (-1)))) (cs := [(true == true), (inB (2) 3), (decide (2 < 3) == true), (([cmpB a1 b1, cmpB a2 b2, -1].getD (IntKind.i64.wrap (0 + 1)).toNat (CT.int IntKind.i64).dflt != 0) == false), (inB (1) 3), (decide (1 < 3) == true), (([cmpB a1 b1, cmpB a2 b2, -1].getD (Int.toNat 0) (CT.int IntKind.i64).dflt != 0) == false), (inB (0) 3), (decide (0 < 3) == true), (decide (b3 < a3) == true), ((a3 != a3) == false), ((b3 != b3) == false)]) (by kernel_rfl) (allI (by simp only [h3, g1, g2, q0, q1]; rfl))
  · rcases Bool.eq_false_or_eq_true (decide (b3 > a3)) with h4 | h4
    · rcases Bool.eq_false_or_eq_true (cmpB a1 b1 != 0) with h1 | h1
      · simp only [cmpC, h1, h3, h4, cond_true, cond_false]
        have g1 : (([cmpB a1 b1, cmpB a2 b2, 1] : List Int).getD (Int.toNat 0) (CT.int IntKind.i64).dflt != 0) = true := h1
        exact ECst.pure_ok (os := [false, false, false, true, true, true]) (r := (.one (.int .i64 ([cmpB a1 b1, cmpB a2 b2, 1].getD 0 (CT.int IntKind.i64).dflt)))) (cs := [(([cmpB a1 b1, cmpB a2 b2, 1].getD (Int.toNat 0) (CT.int IntKind.i64).dflt != 0) == true), (inB (0) 3), (decide (0 < 3) == true), (decide (b3 > a3) == true), (decide (b3 < a3) == false), ((a3 != a3) == false), ((b3 != b3) == false)]) (by kernel_rfl) (allI (by simp only [h3, h4, g1, q0, q1]; rfl))
      · rcases Bool.eq_false_or_eq_true (cmpB a2 b2 != 0) with h2 | h2
        all_goals
          have g1 : (([cmpB a1 b1, cmpB a2 b2, 1] : List Int).getD (Int.toNat 0) (CT.int IntKind.i64).dflt != 0) = false := h1
        · simp only [cmpC, h1, h2, h3, h4, cond_true, cond_false]
          have g2 : (([cmpB a1 b1, cmpB a2 b2, 1] : List Int).getD (IntKind.i64.wrap (0 + 1)).toNat (CT.int IntKind.i64).dflt != 0) = true := h2
          exact ECst.pure_ok (os := [false, false, false, true, true, false, true, true]) (r := (.one (.int .i64 ([cmpB a1 b1, cmpB a2 b2, 1].getD 1 (CT.int IntKind.i64).dflt)))) (cs := [(([cmpB a1 b1, cmpB a2 b2, 1].getD (IntKind.i64.wrap (0 + 1)).toNat (CT.int IntKind.i64).dflt != 0) == true), (inB (1) 3), (decide (1 < 3) == true), (([cmpB a1 b1, cmpB a2 b2, 1].getD (Int.toNat 0) (CT.int IntKind.i64).dflt != 0) == false), (inB (0) 3), (decide (0 < 3) == true), (decide (b3 > a3) == true), (decide (b3 < a3) == false), ((a3 != a3) == false), ((b3 != b3) == false)]) (by kernel_rfl) (allI (by simp only [h3, h4, g1, g2, q0, q1]; rfl))
        · simp only [cmpC, h1, h2, h3, h4, cond_true, cond_false]
          have g2 : (([cmpB a1 b1, cmpB a2 b2, 1] : List Int).getD (IntKind.i64.wrap (0 + 1)).toNat (CT.int IntKind.i64).dflt != 0) = false := h2
          exact ECst.pure_ok (os := [false, false, false, true, true, false, true, false, true, true]) (r := (.one (.int .i64 (1)))) (cs := [(true == true), (inB (2) 3), (decide (2 < 3) == true), (([cmpB a1 b1, cmpB a2 b2, 1].getD (IntKind.i64.wrap (0 + 1)).toNat (CT.int IntKind.i64).dflt != 0) == false), (inB (1) 3), (decide (1 < 3) == true), (([cmpB a1 b1, cmpB a2 b2, 1].getD (Int.toNat 0) (CT.int IntKind.i64).dflt != 0) == false), (inB (0) 3), (decide (0 < 3) == true), (decide (b3 > a3) == true), (decide (b3 < a3) == false), ((a3 != a3) == false), ((b3 != b3) == false)]) (by kernel_rfl) (allI (by simp only [h3, h4, g1, g2, q0, q1]; rfl))
    · rcases Bool.eq_false_or_eq_true (cmpB a1 b1 != 0) with h1 | h1
      · simp only [cmpC, h1, h3, h4, cond_true, cond_false]
        have g1 : (([cmpB a1 b1, cmpB a2 b2, 0] : List Int).getD (Int.toNat 0) (CT.int IntKind.i64).dflt != 0) = true := h1
        exact ECst.pure_ok (os := [false, false, false, false, true, true]) (r := (.one (.int .i64 ([cmpB a1 b1, cmpB a2 b2, 0].getD 0 (CT.int IntKind.i64).dflt)))) (cs := [(([cmpB a1 b1, cmpB a2 b2, 0].getD (Int.toNat 0) (CT.int IntKind.i64).dflt != 0) == true), (inB (0) 3), (decide (0 < 3) == true), (decide (b3 > a3) == false), (decide (b3 < a3) == false), ((a3 != a3) == false), ((b3 != b3) == false)]) (by kernel_rfl) (allI (by simp only [h3, h4, g1, q0, q1]; rfl))
      · rcases Bool.eq_false_or_eq_true (cmpB a2 b2 != 0) with h2 | h2
        all_goals
          have g1 : (([cmpB a1 b1, cmpB a2 b2, 0] : List Int).getD (Int.toNat 0) (CT.int IntKind.i64).dflt != 0) = false := h1
        · simp only [cmpC, h1, h2, h3, h4, cond_true, cond_false]
          have g2 : (([cmpB a1 b1, cmpB a2 b2, 0] : List Int).getD (IntKind.i64.wrap (0 + 1)).toNat (CT.int IntKind.i64).dflt != 0) = true := h2
          exact ECst.pure_ok (os := [false, false, false, false, true, false, true, true]) (r := (.one (.int .i64 ([cmpB a1 b1, cmpB a2 b2, 0].getD 1 (CT.int IntKind.i64).dflt)))) (cs := [(([cmpB a1 b1, cmpB a2 b2, 0].getD (IntKind.i64.wrap (0 + 1)).toNat (CT.int IntKind.i64).dflt != 0) == true), (inB (1) 3), (decide (1 < 3) == true), (([cmpB a1 b1, cmpB a2 b2, 0].getD (Int.toNat 0) (CT.int IntKind.i64).dflt != 0) == false), (inB (0) 3), (decide (0 < 3) == true), (decide (b3 > a3) == false), (decide (b3 < a3) == false), ((a3 != a3) == false), ((b3 != b3) == false)]) (by kernel_rfl) (allI (by simp only [h3, h4, g1, g2, q0, q1]; rfl))
        · simp only [cmpC, h1, h2, h3, h4, cond_true, cond_false]
          have g2 : (([cmpB a1 b1, cmpB a2 b2, 0] : List Int).getD (IntKind.i64.wrap (0 + 1)).toNat (CT.int IntKind.i64).dflt != 0) = false := h2
          exact ECst.pure_ok (os := [false, false, false, false, true, false, true, false, true, false, false]) (r := (.one (.int .i64 (0)))) (cs := [(decide (3 < 3) == false), (false == false), (inB (2) 3), (decide (2 < 3) == true), (([cmpB a1 b1, cmpB a2 b2, 0].getD (IntKind.i64.wrap (0 + 1)).toNat (CT.int IntKind.i64).dflt != 0) == false), (inB (1) 3), (decide (1 < 3) == true), (([cmpB a1 b1, cmpB a2 b2, 0].getD (Int.toNat 0) (CT.int IntKind.i64).dflt != 0) == false), (inB (0) 3), (decide (0 < 3) == true), (decide (b3 > a3) == false), (decide (b3 < a3) == false), ((a3 != a3) == false), ((b3 != b3) == false)]) (by kernel_rfl) (allI (by simp only [h3, h4, g1, g2, q0, q1]; rfl))
noncomputable def ECmc : Env Tryz.prog := ECst.addT1 52 [.agg rCell, .agg rCell] (fun d => vI (cmpC d.1 d.2.1)) (fun _ => []) fun d _ => cmc_pure _ _ _ _ _ _ _ _ _ _
open Go Go.Eng

def preC (j : Nat) : Int := IntKind.i64.wrap (((j : Nat) : Int) - 1)
theorem preC_eq {j : Nat} (h : 0 < j) (h2 : j ≤ 9223372036854775807) : preC j = ((j - 1 : Nat) : Int) := by unfold preC; rw [wrap64 (by omega) (by omega)]; omega
def swpC (l : List rCell.den) (j : Nat) : List rCell.den := (l.set j (l.getD (j - 1) rCell.dflt)).set (j - 1) (l.getD j rCell.dflt)
def bubC (l : List rCell.den) : Nat → List rCell.den
  | 0 => l
  | j + 1 => if cmpC (l.getD (j + 1) rCell.dflt) (l.getD j rCell.dflt) < 0 then bubC (swpC l (j + 1)) j else l
theorem bubC_pos {l : List rCell.den} {j : Nat} (h : cmpC (l.getD (j + 1) rCell.dflt) (l.getD j rCell.dflt) < 0) : bubC l (j + 1) = bubC (swpC l (j + 1)) j := by rw [bubC]; exact if_pos h
theorem bubC_neg {l : List rCell.den} {j : Nat} (h : ¬ cmpC (l.getD (j + 1) rCell.dflt) (l.getD j rCell.dflt) < 0) : bubC l (j + 1) = l := by rw [bubC]; exact if_neg h
def insC (l : List rCell.den) : Nat → List rCell.den
  | 0 => l
  | k + 1 => bubC (insC l k) (k + 1)
theorem swpC_len (l : List rCell.den) (j : Nat) : (swpC l j).length = l.length := by simp [swpC]
theorem bubC_len : ∀ (j : Nat) (l : List rCell.den), (bubC l j).length = l.length
  | 0, l => rfl
  | j + 1, l => by
    unfold bubC
    split
    · rw [bubC_len j, swpC_len]
    · rfl
theorem insC_len (l : List rCell.den) : ∀ k, (insC l k).length = l.length
  | 0 => rfl
  | k + 1 => by unfold insC; rw [bubC_len, insC_len l k]

noncomputable def lIns : Code := (theLoop Tryz.prog 76 4).getD .skip
theorem lIns_eq : theLoop Tryz.prog 76 4 = some lIns := by kernel_rfl
noncomputable def lSrt : Code := (theLoop Tryz.prog 76 1).getD .skip
theorem lSrt_eq : theLoop Tryz.prog 76 1 = some lSrt := by kernel_rfl

theorem insC_loop (l : List rCell.den) (j : Nat) (hj : j < l.length) (hl : l.length ≤ maxLen) :
    LoopOk Tryz.prog lIns 53 [9] [0, 1, 3] [vI j] [.one (.asl rCell 0 0 l.length l.length), vI 0, .one (.fn 52 [])] [.arr rCell l] (.exit 2) [vX] [.arr rCell (bubC l j)] := by
  unfold maxLen at hl
  generalize hn : l.length = n at *
  refine LoopOk.rounds (S := Nat × List rCell.den) ECmc lIns_eq (by kernel_rfl) (fun s => [vI s.1]) (fun s => [.arr rCell s.2]) (fun s => s.1 < n ∧ s.2.length = n ∧ bubC s.2 s.1 = bubC l j) (fun s => s.1) (j, l) ⟨hj, hn, rfl⟩ ?_ (fun _ _ => rfl)
  intro ⟨j, l⟩ ⟨hj, hlen, hb⟩
  simp only at hj hlen hb
  have i0 : inB ((j : Nat) : Int) n = true := inB_of (by omega) (by omega)
  by_cases h0 : j > 0
  · have hp := preC_eq h0 (by omega)
    have i1 : inB (preC j) n = true := by rw [hp]; exact inB_of (by omega) (by omega)
    have hj0 : decide (((j : Nat) : Int) > 0) = true := decide_eq_true (by omega)
    have e1 : (preC j).toNat = j - 1 := by rw [hp]; simp
    have ej : j - 1 + 1 = j := by omega
    cases hc : decide (cmpC (l.getD j rCell.dflt) (l.getD (j - 1) rCell.dflt) < 0) with
    | true =>
      have hc' : decide (cmpC (l.getD (0 + j) rCell.dflt) (l.getD (0 + (preC j).toNat) rCell.dflt) < 0) = true := by rw [e1, Nat.zero_add, Nat.zero_add]; exact hc
      refine OneRound.go [true, true, true, true, true, true, true, true, true, true, true, true, true, true] (vs := [vI (preC j)]) (hp' := [.arr rCell ((l.set (0 + j) (l.getD (0 + (preC j).toNat) rCell.dflt)).set (0 + (preC j).toNat) (l.getD (0 + j) rCell.dflt))]) (cs := [(inB (preC j) n), (inB ((j : Nat) : Int) n), (inB ((j : Nat) : Int) n), (inB (preC j) n), (decide (cmpC (l.getD (0 + j) rCell.dflt) (l.getD (0 + (preC j).toNat) rCell.dflt) < 0) == true), (decide (((j : Nat) : Int) > 0) == true), (decide (((j : Nat) : Int) > 0) == true), (decide (((j : Nat) : Int) > 0) == true), (decide (((j : Nat) : Int) > 0) == true), (inB (preC j) n), (decide (((j : Nat) : Int) > 0) == true), (decide (((j : Nat) : Int) > 0) == true), (decide (((j : Nat) : Int) > 0) == true), (decide (((j : Nat) : Int) > 0) == true), (decide (((j : Nat) : Int) > 0) == true), (inB ((j : Nat) : Int) n), (decide (((j : Nat) : Int) > 0) == true), (decide (((j : Nat) : Int) > 0) == true), (decide (((j : Nat) : Int) > 0) == true), (decide (((j : Nat) : Int) > 0) == true)]) (fun rest => by kernel_rfl)
        (allI (by simp only [hc', i0, i1, hj0]; rfl)) (j - 1, swpC l j) ⟨by omega, by rw [swpC_len]; exact hlen, ?_⟩ (by simp; omega) ⟨.of_eq ?_, trivial⟩ ?_ (.inl (Nat.le_refl _))
      · rw [← hb]
        have h := bubC_pos (l := l) (j := j - 1) (by rw [ej]; exact of_decide_eq_true hc)
        rw [ej] at h
        exact h.symm
      · show vI (preC j) = _
        rw [hp]
      · rw [e1, Nat.zero_add, Nat.zero_add]; rfl
    | false =>
      have hc' : decide (cmpC (l.getD (0 + j) rCell.dflt) (l.getD (0 + (preC j).toNat) rCell.dflt) < 0) = false := by rw [e1, Nat.zero_add, Nat.zero_add]; exact hc
      refine OneRound.stop [true, true, true, true, true, true, true, true, true, true, true, true, true, false] (vs := [vI ((j : Nat) : Int)]) (hp' := [.arr rCell l]) (cs := [(decide (cmpC (l.getD (0 + j) rCell.dflt) (l.getD (0 + (preC j).toNat) rCell.dflt) < 0) == false), (decide (((j : Nat) : Int) > 0) == true), (decide (((j : Nat) : Int) > 0) == true), (decide (((j : Nat) : Int) > 0) == true), (decide (((j : Nat) : Int) > 0) == true), (inB (preC j) n), (decide (((j : Nat) : Int) > 0) == true), (decide (((j : Nat) : Int) > 0) == true), (decide (((j : Nat) : Int) > 0) == true), (decide (((j : Nat) : Int) > 0) == true), (decide (((j : Nat) : Int) > 0) == true), (inB ((j : Nat) : Int) n), (decide (((j : Nat) : Int) > 0) == true), (decide (((j : Nat) : Int) > 0) == true), (decide (((j : Nat) : Int) > 0) == true), (decide (((j : Nat) : Int) > 0) == true)]) (fun rest => by kernel_rfl)
        (allI (by simp only [hc', i0, i1, hj0]; rfl)) (by simp) ⟨.unk, trivial⟩ ?_ (.inl (Nat.le_refl _))
      have h := bubC_neg (l := l) (j := j - 1) (by rw [ej]; exact of_decide_eq_false hc)
      rw [ej] at h
      rw [← hb, h]; rfl
  · have : j = 0 := by omega
    subst this
    refine OneRound.stop [false, false, false, false, false, false, false, false, false, false, false, false, false, false] (vs := [vI ((0 : Nat) : Int)]) (hp' := [.arr rCell l]) (cs := [(false == false), (decide (((0 : Nat) : Int) > 0) == false), (decide (((0 : Nat) : Int) > 0) == false), (decide (((0 : Nat) : Int) > 0) == false), (decide (((0 : Nat) : Int) > 0) == false), (decide (((0 : Nat) : Int) > 0) == false), (decide (((0 : Nat) : Int) > 0) == false), (decide (((0 : Nat) : Int) > 0) == false), (decide (((0 : Nat) : Int) > 0) == false), (decide (((0 : Nat) : Int) > 0) == false), (decide (((0 : Nat) : Int) > 0) == false), (decide (((0 : Nat) : Int) > 0) == false), (decide (((0 : Nat) : Int) > 0) == false), (decide (((0 : Nat) : Int) > 0) == false)]) (fun rest => by kernel_rfl)
      (allI (by simp)) (by simp) ⟨.unk, trivial⟩ ?_ (.inl (Nat.le_refl _))
    rw [← hb]; rfl

def asC (r : CT) (l : List r.den) : Option (List rCell.den) := if h : r.eqb rCell = true then some (castL r rCell h l) else none
theorem asC_eq {r : CT} {l : List r.den} {x : List rCell.den} (h : asC r l = some x) : r = rCell ∧ HEq l x := by
  unfold asC at h
  split at h
  · rename_i h1
    have e := CT.eq_of_eqb _ _ h1
    subst e
    injection h with h
    exact ⟨rfl, heq_of_eq h⟩
  · cases h
noncomputable def EIns : Env Tryz.prog := ECmc.addL 76 4 lIns_eq 53 [9] [0, 1, 3] (by kernel_rfl)
  (fun vals rov hp os => match vals, rov, hp with
    | [.one (.int .i64 z)], [.one (.asl r1 0 0 n n'), .one (.int .i64 a), .one (.fn 52 [])], [.arr r2 l2] =>
      match asC r2 l2 with
      | some l => if r1.eqb rCell = true then retC (.exit 2, [vX], [.arr rCell (bubC l z.toNat)]) [decide (0 ≤ z), decide (z < n), decide (n = n'), decide (a = 0), decide (n = l.length), decide (l.length ≤ maxLen)] os else none
      | none => none
    | _, _, _ => none)
  (fun vals rov hp os e outs hp' cs os' h hc => by
    split at h
    · rename_i z r1 n n' a r2 l2
      split at h
      · rename_i l e2
        split at h
        · rename_i er
          have er := CT.eq_of_eqb _ _ er
          subst er
          obtain ⟨rfl, e2⟩ := asC_eq e2
          subst e2
          simp only [retC, Option.some.injEq, Prod.mk.injEq] at h
          obtain ⟨⟨rfl, rfl, rfl⟩, rfl, rfl⟩ := h
          obtain ⟨h1, hc⟩ := of_allTc hc
          obtain ⟨h2, hc⟩ := of_allTc hc
          obtain ⟨h3, hc⟩ := of_allTc hc
          obtain ⟨h4, hc⟩ := of_allTc hc
          obtain ⟨h5, hc⟩ := of_allTc hc
          obtain ⟨h6, _⟩ := of_allTc hc
          simp only [decide_eq_true_eq] at h1 h2 h3 h4 h5 h6
          subst h3; subst h4; subst h5
          obtain ⟨n, rfl⟩ : ∃ n : Nat, z = Int.ofNat n := ⟨z.toNat, (Int.toNat_of_nonneg h1).symm⟩
          exact insC_loop _ n (Int.ofNat_lt.1 h2) h6
        · cases h
      · cases h
    · cases h)

theorem srtC_loop (l : List rCell.den) (h0 : 0 < l.length) (hl : l.length ≤ maxLen) :
    LoopOk Tryz.prog lSrt 53 [8] [0, 1, 2, 3] [vI 1] [.one (.asl rCell 0 0 l.length l.length), vI 0, vI l.length, .one (.fn 52 [])] [.arr rCell l] (.exit 0) [vX] [.arr rCell (insC l (l.length - 1))] := by
  unfold maxLen at hl
  generalize hn : l.length = n at *
  refine LoopOk.rounds (S := Nat) EIns lSrt_eq (by kernel_rfl) (fun k => [vI ((k + 1 : Nat) : Int)]) (fun k => [.arr rCell (insC l k)]) (fun k => k + 1 ≤ n) (fun k => n - k) 0 h0 ?_ (fun _ _ => rfl)
  intro k hk
  have hlen : (insC l k).length = n := by rw [insC_len]; exact hn
  by_cases hlt : k + 1 < n
  · refine OneRound.go [true] (vs := [vI (IntKind.i64.wrap (((k + 1 : Nat) : Int) + 1))]) (hp' := [.arr rCell (bubC (insC l k) (k + 1))])
      (cs := [decide ((0 : Int) ≤ ((k + 1 : Nat) : Int)), decide (((k + 1 : Nat) : Int) < (n : Int)), decide (n = n), decide ((0 : Int) = 0), decide (n = (insC l k).length), decide ((insC l k).length ≤ maxLen), decide (((k + 1 : Nat) : Int) < (n : Int)) == true]) (fun rest => by kernel_rfl)
      (allI (by
        have a1 : (0 : Int) ≤ ((k + 1 : Nat) : Int) := by omega
        have a2 : ((k + 1 : Nat) : Int) < (n : Int) := by omega
        have a3 : n ≤ maxLen := hl
        simp only [hlen, decide_eq_true a1, decide_eq_true a2, decide_eq_true a3]; simp)) (k + 1) (by omega) (by omega) ⟨.of_eq ?_, trivial⟩ rfl (.inl (Nat.le_refl _))
    rw [wrap64 (by omega) (by omega)]; rfl
  · have e : k = n - 1 := by omega
    subst e
    refine OneRound.stop [false] (vs := [vI ((n - 1 + 1 : Nat) : Int)]) (hp' := [.arr rCell (insC l (n - 1))]) (cs := [decide (((n - 1 + 1 : Nat) : Int) < (n : Int)) == false]) (fun rest => by kernel_rfl) (allT1 (dF (by omega))) (by simp) ⟨.unk, trivial⟩ rfl (.inl (Nat.le_refl _))
noncomputable def ESr : Env Tryz.prog := EIns.addL 76 1 lSrt_eq 53 [8] [0, 1, 2, 3] (by kernel_rfl)
  (fun vals rov hp os => match vals, rov, hp with
    | [.one (.int .i64 z)], [.one (.asl r1 0 0 n n'), .one (.int .i64 a), .one (.int .i64 m), .one (.fn 52 [])], [.arr r2 l2] =>
      match asC r2 l2 with
      | some l => if r1.eqb rCell = true then retC (.exit 0, [vX], [.arr rCell (insC l (l.length - 1))]) [decide (z = 1), decide (n = n'), decide (a = 0), decide (m = n), decide (n = l.length), decide (0 < l.length), decide (l.length ≤ maxLen)] os else none
      | none => none
    | _, _, _ => none)
  (fun vals rov hp os e outs hp' cs os' h hc => by
    split at h
    · rename_i z r1 n n' a m r2 l2
      split at h
      · rename_i l e2
        split at h
        · rename_i er
          have er := CT.eq_of_eqb _ _ er
          subst er
          obtain ⟨rfl, e2⟩ := asC_eq e2
          subst e2
          simp only [retC, Option.some.injEq, Prod.mk.injEq] at h
          obtain ⟨⟨rfl, rfl, rfl⟩, rfl, rfl⟩ := h
          obtain ⟨h1, hc⟩ := of_allTc hc
          obtain ⟨h2, hc⟩ := of_allTc hc
          obtain ⟨h3, hc⟩ := of_allTc hc
          obtain ⟨h4, hc⟩ := of_allTc hc
          obtain ⟨h5, hc⟩ := of_allTc hc
          obtain ⟨h6, hc⟩ := of_allTc hc
          obtain ⟨h7, _⟩ := of_allTc hc
          simp only [decide_eq_true_eq] at h1 h2 h3 h4 h5 h6 h7
          subst h1; subst h2; subst h3; subst h4; subst h5
          exact srtC_loop _ h6 h7
        · cases h
      · cases h
    · cases h)
open Go Go.Eng

theorem sf_heap (l : List rCell.den) (h0 : 0 < l.length) (h12 : l.length ≤ 12) :
    HeapCall Tryz.prog 51 [.one (.asl rCell 0 0 l.length l.length), .one (.fn 52 [])] [.arr rCell l] (.tup []) [.arr rCell (insC l (l.length - 1))] := by
  generalize hn : l.length = n at *
  have w1 : IntKind.u64.wrap (n : Int) = (n : Int) := wrapU64 (by omega) (by omega)
  have w2 : IntKind.i64.wrap ((n : Int) - 0) = (n : Int) := by rw [wrap64 (by omega) (by omega)]; omega
  have w3 : IntKind.u8.wrap (n : Int) = (n : Int) := by simp [IntKind.wrap, IntKind.bits, IntKind.signed]; omega
  have n1 : decide ((n : Int) ≥ 4294967296) = false := decide_eq_false (by omega)
  have n2 : decide ((n : Int) ≥ 65536) = false := decide_eq_false (by omega)
  have n3 : decide ((n : Int) ≥ 256) = false := decide_eq_false (by omega)
  have n4 : inB (n : Int) 256 = true := inB_of (by omega) (by omega)
  have n5 : decide ((n : Int) ≤ 12) = true := decide_eq_true (by omega)
  have n6 : decide (l.length ≤ maxLen) = true := decide_eq_true (by rw [hn]; unfold maxLen; omega)
  have n7 : decide (0 < l.length) = true := decide_eq_true (by omega)
  have n8 : decide (n = l.length) = true := decide_eq_true hn.symm
  have key := ESr.heap_ok (f := 51) (args := [.one (.asl rCell 0 0 n n), .one (.fn 52 [])]) (hp := [.arr rCell l]) (os := [false, false, false, false, true]) (r := .tup []) (hp' := [.arr rCell (insC l (l.length - 1))])
    (cs := [decide ((1 : Int) = 1), decide (n = n), decide ((0 : Int) = 0), decide ((n : Int) = (n : Int)), decide (n = l.length), decide (0 < l.length), decide (l.length ≤ maxLen), (decide (IntKind.i64.wrap ((n : Int) - 0) ≤ 12) == true), inB (IntKind.u8.wrap (IntKind.u64.wrap (n : Int))) 256,
      (decide (IntKind.u64.wrap (n : Int) ≥ 256) == false), (decide (IntKind.u64.wrap (n : Int) ≥ 65536) == false), (decide (IntKind.u64.wrap (n : Int) ≥ 4294967296) == false), (false == false)]) (by kernel_rfl) (allI (by
    simp only [w1, w2, w3, n1, n2, n3, n4, n5, ↓n6, ↓n7, ↓n8]; simp))
  rw [hn] at key
  exact key
end Go.Proofs.YthdgoefjkfafkaaGreatDoor
