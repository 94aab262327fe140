/- Words of the chapter; no statement. -/
import Derived.Test.YtolhkkoakneflaaBase
import Derived.Lib.Bytealg
import Derived.WalkKit
import Derived.ProofKit
import Derived.Sort.Statements
import Derived.Shelf.SlSortCmp.Insertion
set_option linter.unusedVariables false
set_option linter.unusedSimpArgs false
namespace Go.Proofs.Ytolhkkoakneflaa
open Go Go.Eng

theorem allI {cs : List Bool} (h : (cs.all fun c => c) = true) : ∀ c ∈ cs, c = true := fun c hc => List.all_eq_true.1 h c hc
abbrev rOp : CT := .pair cI (.pair .str (.pair .str (.pair .str (.pair .bool (.pair .str .unit)))))
abbrev rCell : CT := .pair .str (.pair .str (.pair cU (.pair .bool (.pair .str .unit))))
abbrev rRes : CT := .pair cI (.pair .bool (.pair .str (.pair .str (.pair cU .unit))))
theorem works_pure : PureCall Try.prog 15 [] (vB true) := E0.closedP (by kernel_rfl)
noncomputable def ESl : Env Try.prog := E0
open Go Go.Eng Go.Proofs

set_option maxHeartbeats 1000000 in
set_option maxRecDepth 100000 in
theorem cst_calls (a b : ByteArray) (w : World) :
    Calls Try.prog 53 #[.string a, .string b] w fun e w' => e = .returned (.int .i64 (Lib.compareBytes a.data.toList b.data.toList)) ∧ w' = w := by
  go_enter Try.func53, Try.ntmps53
  go_wp2
  rw [run_callFunc_extern Try.func60 (by kernel_rfl) (by kernel_rfl) (by kernel_rfl) (e := Extern.BytealgCompare.compare) (by kernel_rfl), Lib.run_compareString]
  simp only [Result.andThen]
  rw [Oper.upon_value]
  go_wp2
  go_ret
  exact ⟨rfl, rfl⟩
open Go Go.Eng

abbrev cmpB (a b : ByteArray) : Int := Lib.compareBytes a.data.toList b.data.toList
theorem cst_pure (a b : ByteArray) : PureCall Try.prog 53 [.one (.str a), .one (.str b)] (vI (cmpB a b)) :=
  ⟨⟨_, Try.func53, by kernel_rfl, by kernel_rfl⟩, fun X vs hX hv => by
    have h0 := hv.at_ (j := 0) rfl
    have h1 := hv.at_ (j := 1) rfl
    obtain ⟨x, hx, e0⟩ := h0
    obtain ⟨y, hy, e1⟩ := h1
    have e0 : x = .string a := e0
    have e1 : y = .string b := e1
    subst e0; subst e1
    have hvs : vs = [.string a, .string b] := by
      apply List.ext_getElem?
      intro i
      match i with
      | 0 => exact hx
      | 1 => exact hy
      | i + 2 =>
        have := hv.1
        rw [List.getElem?_eq_none (by simp at this; omega)]; rfl
    rw [hvs]
    exact (cst_calls a b X.w).mono fun e w' ⟨he, hw⟩ => ⟨_, X, he, hw.symm, .refl X, hX, rfl, rfl⟩⟩
noncomputable def ECst : Env Try.prog := E0.addT1 53 [.one .str, .one .str] (fun d => vI (cmpB d.1 d.2.1)) (fun _ => []) fun d _ => cst_pure d.1 d.2.1
open Go Go.Eng

/-- The order of cells. -/
def cmpC (a b : rCell.den) : Int := bif cmpB a.1 b.1 != 0 then cmpB a.1 b.1 else bif cmpB a.2.1 b.2.1 != 0 then cmpB a.2.1 b.2.1 else bif decide ((b.2.2.1 : Int) < (a.2.2.1 : Int)) then -1 else bif decide ((b.2.2.1 : Int) > (a.2.2.1 : Int)) then 1 else 0
theorem cmc_pure (a1 a2 a5 b1 b2 b5 : ByteArray) (a3 b3 : Int) (a4 b4 : Bool) : PureCall Try.prog 33 [.agg [.str a1, .str a2, .int .u64 a3, .bool a4, .str a5], .agg [.str b1, .str b2, .int .u64 b3, .bool b4, .str b5]] (vI (cmpC (a1, a2, a3, a4, a5, ()) (b1, b2, b3, b4, b5, ()))) := by
  have q0 : (a3 != a3) = false := by simp
  have q1 : (b3 != b3) = false := by simp
  rcases Bool.eq_false_or_eq_true (decide (b3 < a3)) with h3 | h3
  · rcases Bool.eq_false_or_eq_true (cmpB a1 b1 != 0) with h1 | h1
    · simp only [cmpC, h1, h3, cond_true, cond_false]
      have g1 : (([cmpB a1 b1, cmpB a2 b2, -1] : List Int).getD (Int.toNat 0) (CT.int IntKind.i64).dflt != 0) = true := h1
      exact ECst.pure_ok (os := [false, false, true, true, true]) (r := (.one (.int .i64 ([cmpB a1 b1, cmpB a2 b2, -1].getD 0 (CT.int IntKind.i64).dflt)))) (cs := [(([cmpB a1 b1, cmpB a2 b2, -1].getD (Int.toNat 0) (CT.int IntKind.i64).dflt != 0) == true), (inB (0) 3), (decide (0 < 3) == true), (decide (b3 < a3) == true), ((a3 != a3) == false), ((b3 != b3) == false)]) (by kernel_rfl) (allI (by simp only [h3, g1, q0, q1]; rfl))
    · rcases Bool.eq_false_or_eq_true (cmpB a2 b2 != 0) with h2 | h2
      all_goals
        have g1 : (([cmpB a1 b1, cmpB a2 b2, -1] : List Int).getD (Int.toNat 0) (CT.int IntKind.i64).dflt != 0) = false := h1
      · simp only [cmpC, h1, h2, h3, cond_true, cond_false]
        have g2 : (([cmpB a1 b1, cmpB a2 b2, -1] : List Int).getD (IntKind.i64.wrap (0 + 1)).toNat (CT.int IntKind.i64).dflt != 0) = true := h2
        exact ECst.pure_ok (os := [false, false, true, true, false, true, true]) (r := (.one (.int .i64 ([cmpB a1 b1, cmpB a2 b2, -1].getD 1 (CT.int IntKind.i64).dflt)))) (cs := [(([cmpB a1 b1, cmpB a2 b2, -1].getD (IntKind.i64.wrap (0 + 1)).toNat (CT.int IntKind.i64).dflt != 0) == true), (inB (1) 3), (decide (1 < 3) == true), (([cmpB a1 b1, cmpB a2 b2, -1].getD (Int.toNat 0) (CT.int IntKind.i64).dflt != 0) == false), (inB (0) 3), (decide (0 < 3) == true), (decide (b3 < a3) == true), ((a3 != a3) == false), ((b3 != b3) == false)]) (by kernel_rfl) (allI (by simp only [h3, g1, g2, q0, q1]; rfl))
      · simp only [cmpC, h1, h2, h3, cond_true, cond_false]
        have g2 : (([cmpB a1 b1, cmpB a2 b2, -1] : List Int).getD (IntKind.i64.wrap (0 + 1)).toNat (CT.int IntKind.i64).dflt != 0) = false := h2
        exact ECst.pure_ok (os := [false, false, true, true, false, true, false, true, true]) (r := (.one (.int .i64 (-1)))) (cs := [(true == true), (inB (2) 3), (decide (2 < 3) == true), (([cmpB a1 b1, cmpB a2 b2, -1].getD (IntKind.i64.wrap (0 + 1)).toNat (CT.int IntKind.i64).dflt != 0) == false), (inB (1) 3), (decide (1 < 3) == true), (([cmpB a1 b1, cmpB a2 b2, -1].getD (Int.toNat 0) (CT.int IntKind.i64).dflt != 0) == false), (inB (0) 3), (decide (0 < 3) == true), (decide (b3 < a3) == true), ((a3 != a3) == false), ((b3 != b3) == false)]) (by kernel_rfl) (allI (by simp only [h3, g1, g2, q0, q1]; rfl))
  · rcases Bool.eq_false_or_eq_true (decide (b3 > a3)) with h4 | h4
    · rcases Bool.eq_false_or_eq_true (cmpB a1 b1 != 0) with h1 | h1
      · simp only [cmpC, h1, h3, h4, cond_true, cond_false]
        have g1 : (([cmpB a1 b1, cmpB a2 b2, 1] : List Int).getD (Int.toNat 0) (CT.int IntKind.i64).dflt != 0) = true := h1
        exact ECst.pure_ok (os := [false, false, false, true, true, true]) (r := (.one (.int .i64 ([cmpB a1 b1, cmpB a2 b2, 1].getD 0 (CT.int IntKind.i64).dflt)))) (cs := [(([cmpB a1 b1, cmpB a2 b2, 1].getD (Int.toNat 0) (CT.int IntKind.i64).dflt != 0) == true), (inB (0) 3), (decide (0 < 3) == true), (decide (b3 > a3) == true), (decide (b3 < a3) == false), ((a3 != a3) == false), ((b3 != b3) == false)]) (by kernel_rfl) (allI (by simp only [h3, h4, g1, q0, q1]; rfl))
      · rcases Bool.eq_false_or_eq_true (cmpB a2 b2 != 0) with h2 | h2
        all_goals
          have g1 : (([cmpB a1 b1, cmpB a2 b2, 1] : List Int).getD (Int.toNat 0) (CT.int IntKind.i64).dflt != 0) = false := h1
        · simp only [cmpC, h1, h2, h3, h4, cond_true, cond_false]
          have g2 : (([cmpB a1 b1, cmpB a2 b2, 1] : List Int).getD (IntKind.i64.wrap (0 + 1)).toNat (CT.int IntKind.i64).dflt != 0) = true := h2
          exact ECst.pure_ok (os := [false, false, false, true, true, false, true, true]) (r := (.one (.int .i64 ([cmpB a1 b1, cmpB a2 b2, 1].getD 1 (CT.int IntKind.i64).dflt)))) (cs := [(([cmpB a1 b1, cmpB a2 b2, 1].getD (IntKind.i64.wrap (0 + 1)).toNat (CT.int IntKind.i64).dflt != 0) == true), (inB (1) 3), (decide (1 < 3) == true), (([cmpB a1 b1, cmpB a2 b2, 1].getD (Int.toNat 0) (CT.int IntKind.i64).dflt != 0) == false), (inB (0) 3), (decide (0 < 3) == true), (decide (b3 > a3) == true), (decide (b3 < a3) == false), ((a3 != a3) == false), ((b3 != b3) == false)]) (by kernel_rfl) (allI (by simp only [h3, h4, g1, g2, q0, q1]; rfl))
        · simp only [cmpC, h1, h2, h3, h4, cond_true, cond_false]
          have g2 : (([cmpB a1 b1, cmpB a2 b2, 1] : List Int).getD (IntKind.i64.wrap (0 + 1)).toNat (CT.int IntKind.i64).dflt != 0) = false := h2
          exact ECst.pure_ok (os := [false, false, false, true, true, false, true, false, true, true]) (r := (.one (.int .i64 (1)))) (cs := [(true == true), (inB (2) 3), (decide (2 < 3) == true), (([cmpB a1 b1, cmpB a2 b2, 1].getD (IntKind.i64.wrap (0 + 1)).toNat (CT.int IntKind.i64).dflt != 0) == false), (inB (1) 3), (decide (1 < 3) == true), (([cmpB a1 b1, cmpB a2 b2, 1].getD (Int.toNat 0) (CT.int IntKind.i64).dflt != 0) == false), (inB (0) 3), (decide (0 < 3) == true), (decide (b3 > a3) == true), (decide (b3 < a3) == false), ((a3 != a3) == false), ((b3 != b3) == false)]) (by kernel_rfl) (allI (by simp only [h3, h4, g1, g2, q0, q1]; rfl))
    · rcases Bool.eq_false_or_eq_true (cmpB a1 b1 != 0) with h1 | h1
      · simp only [cmpC, h1, h3, h4, cond_true, cond_false]
        have g1 : (([cmpB a1 b1, cmpB a2 b2, 0] : List Int).getD (Int.toNat 0) (CT.int IntKind.i64).dflt != 0) = true := h1
        exact ECst.pure_ok (os := [false, false, false, false, true, true]) (r := (.one (.int .i64 ([cmpB a1 b1, cmpB a2 b2, 0].getD 0 (CT.int IntKind.i64).dflt)))) (cs := [(([cmpB a1 b1, cmpB a2 b2, 0].getD (Int.toNat 0) (CT.int IntKind.i64).dflt != 0) == true), (inB (0) 3), (decide (0 < 3) == true), (decide (b3 > a3) == false), (decide (b3 < a3) == false), ((a3 != a3) == false), ((b3 != b3) == false)]) (by kernel_rfl) (allI (by simp only [h3, h4, g1, q0, q1]; rfl))
      · rcases Bool.eq_false_or_eq_true (cmpB a2 b2 != 0) with h2 | h2
        all_goals
          have g1 : (([cmpB a1 b1, cmpB a2 b2, 0] : List Int).getD (Int.toNat 0) (CT.int IntKind.i64).dflt != 0) = false := h1
        · simp only [cmpC, h1, h2, h3, h4, cond_true, cond_false]
          have g2 : (([cmpB a1 b1, cmpB a2 b2, 0] : List Int).getD (IntKind.i64.wrap (0 + 1)).toNat (CT.int IntKind.i64).dflt != 0) = true := h2
          exact ECst.pure_ok (os := [false, false, false, false, true, false, true, true]) (r := (.one (.int .i64 ([cmpB a1 b1, cmpB a2 b2, 0].getD 1 (CT.int IntKind.i64).dflt)))) (cs := [(([cmpB a1 b1, cmpB a2 b2, 0].getD (IntKind.i64.wrap (0 + 1)).toNat (CT.int IntKind.i64).dflt != 0) == true), (inB (1) 3), (decide (1 < 3) == true), (([cmpB a1 b1, cmpB a2 b2, 0].getD (Int.toNat 0) (CT.int IntKind.i64).dflt != 0) == false), (inB (0) 3), (decide (0 < 3) == true), (decide (b3 > a3) == false), (decide (b3 < a3) == false), ((a3 != a3) == false), ((b3 != b3) == false)]) (by kernel_rfl) (allI (by simp only [h3, h4, g1, g2, q0, q1]; rfl))
        · simp only [cmpC, h1, h2, h3, h4, cond_true, cond_false]
          have g2 : (([cmpB a1 b1, cmpB a2 b2, 0] : List Int).getD (IntKind.i64.wrap (0 + 1)).toNat (CT.int IntKind.i64).dflt != 0) = false := h2
          exact ECst.pure_ok (os := [false, false, false, false, true, false, true, false, true, false, false]) (r := (.one (.int .i64 (0)))) (cs := [(decide (3 < 3) == false), (false == false), (inB (2) 3), (decide (2 < 3) == true), (([cmpB a1 b1, cmpB a2 b2, 0].getD (IntKind.i64.wrap (0 + 1)).toNat (CT.int IntKind.i64).dflt != 0) == false), (inB (1) 3), (decide (1 < 3) == true), (([cmpB a1 b1, cmpB a2 b2, 0].getD (Int.toNat 0) (CT.int IntKind.i64).dflt != 0) == false), (inB (0) 3), (decide (0 < 3) == true), (decide (b3 > a3) == false), (decide (b3 < a3) == false), ((a3 != a3) == false), ((b3 != b3) == false)]) (by kernel_rfl) (allI (by simp only [h3, h4, g1, g2, q0, q1]; rfl))
noncomputable def ECmc : Env Try.prog := ECst.addT1 33 [.agg rCell, .agg rCell] (fun d => vI (cmpC d.1 d.2.1)) (fun _ => []) fun d _ => cmc_pure _ _ _ _ _ _ _ _ _ _
open Go Go.Eng Go.Sort

/-- A comparison. -/
structure Cmp3 {α : Type} (c : α → α → Int) : Prop where
  anti : ∀ x y, c y x = - c x y
  le : ∀ x y z, c x y ≤ 0 → c y z ≤ 0 → c x z ≤ 0
theorem Cmp3.on {α β : Type} {c : α → α → Int} (h : Cmp3 c) (f : β → α) : Cmp3 (fun x y => c (f x) (f y)) := ⟨fun x y => h.anti _ _, fun x y z => h.le _ _ _⟩
theorem Cmp3.lex {α : Type} {c d : α → α → Int} (h : Cmp3 c) (g : Cmp3 d) : Cmp3 (fun x y => bif c x y != 0 then c x y else d x y) := by
  have e : ∀ x y, (bif c x y != 0 then c x y else d x y) = if c x y = 0 then d x y else c x y := fun x y => by
    by_cases h0 : c x y = 0
    · rw [if_pos h0, h0]; rfl
    · rw [if_neg h0]
      have : (c x y != 0) = true := by simpa using h0
      rw [this]; rfl
  refine ⟨fun x y => ?_, fun x y z h1 h2 => ?_⟩
  · simp only [e]
    have h1 := h.anti x y
    have h2 := g.anti x y
    split <;> split <;> omega
  · simp only [e] at h1 h2 ⊢
    have a1 := h.anti x y
    have a2 := h.anti y z
    have a3 := h.anti x z
    have l1 := h.le x y z
    have l2 := h.le z x y
    have l3 := h.le y z x
    have l4 := g.le x y z
    split at h1 <;> split at h2 <;> split <;> omega
theorem Cmp3.swo {α : Type} {c : α → α → Int} (h : Cmp3 c) : SWO (ltOf c) where
  irrefl x := decide_eq_false (by have := h.anti x x; omega)
  trans x y z h1 h2 := by
    have h1 := of_decide_eq_true h1
    have h2 := of_decide_eq_true h2
    refine decide_eq_true ?_
    have a1 := h.anti x y
    have a2 := h.anti y z
    have a3 := h.anti x z
    have l1 := h.le z x y
    have l2 := h.le x y z
    omega
  ntrans x y z h1 h2 := by
    have h1 := of_decide_eq_false h1
    have h2 := of_decide_eq_false h2
    refine decide_eq_false ?_
    have a1 := h.anti x y
    have a2 := h.anti y z
    have a3 := h.anti x z
    have l1 := h.le z y x
    omega
theorem cmp3_bytes : Cmp3 Lib.compareBytes := by
  have anti : ∀ x y : List UInt8, Lib.compareBytes y x = - Lib.compareBytes x y := fun x => by
    induction x with
    | nil => intro y; cases y <;> rfl
    | cons a x ih =>
      intro y
      cases y with
      | nil => rfl
      | cons b y =>
        simp only [Lib.compareBytes]
        have := ih y
        by_cases h1 : a < b
        · have h2 : ¬ b < a := fun h => by have := UInt8.lt_asymm h1; exact this h
          rw [if_pos h1, if_neg h2, if_pos h1]; rfl
        · by_cases h2 : b < a
          · rw [if_pos h2, if_neg h1, if_pos h2]
          · rw [if_neg h1, if_neg h2, if_neg h1, if_neg h2]; exact this
  refine ⟨anti, fun x => ?_⟩
  induction x with
  | nil =>
    intro y z h1 h2
    cases z with
    | nil => exact Int.le_refl _
    | cons c z => show (-1 : Int) ≤ 0; omega
  | cons a x ih =>
    intro y z h1 h2
    cases y with
    | nil => exact absurd h1 (by show ¬ (1 : Int) ≤ 0; omega)
    | cons b y =>
      cases z with
      | nil => exact absurd h2 (by show ¬ (1 : Int) ≤ 0; omega)
      | cons c z =>
        simp only [Lib.compareBytes] at h1 h2 ⊢
        have := ih y z
        simp only [UInt8.lt_iff_toNat_lt] at h1 h2 ⊢
        split at h1
        · split at h2
          · rw [if_pos (by omega)]; omega
          · split at h2
            · omega
            · rw [if_pos (by omega)]; omega
        · split at h1
          · omega
          · split at h2
            · rw [if_pos (by omega)]; omega
            · split at h2
              · omega
              · rw [if_neg (by omega), if_neg (by omega)]
                exact this h1 h2
theorem cmp3_ver : Cmp3 (fun x y : Int => bif decide (y < x) then (-1 : Int) else bif decide (y > x) then 1 else 0) := by
  have e : ∀ x y : Int, (bif decide (y < x) then (-1 : Int) else bif decide (y > x) then 1 else 0) = if y < x then -1 else if y > x then 1 else 0 := fun x y => by
    by_cases h : y < x
    · rw [decide_eq_true h, if_pos h]; rfl
    · rw [decide_eq_false h, if_neg h]
      by_cases h2 : y > x
      · rw [decide_eq_true h2, if_pos h2]; rfl
      · rw [decide_eq_false h2, if_neg h2]; rfl
  refine ⟨fun x y => ?_, fun x y z h1 h2 => ?_⟩
  · simp only [e]
    split <;> split <;> (try split) <;> omega
  · simp only [e] at h1 h2 ⊢
    split at h1 <;> split at h2 <;> split <;> (try split) <;> (try split at h1) <;> (try split at h2) <;> omega
abbrev byL (b : ByteArray) : List UInt8 := b.data.toList
theorem cmp3_cells : Cmp3 cmpC := (cmp3_bytes.on (fun x : rCell.den => byL x.1)).lex ((cmp3_bytes.on (fun x : rCell.den => byL x.2.1)).lex (cmp3_ver.on (fun x : rCell.den => x.2.2.1)))
end Go.Proofs.Ytolhkkoakneflaa
