/- The document's Meet; no statement. -/
import Derived.Test.YtcigjehfmiiolaaQrm
set_option linter.unusedVariables false
namespace Go.Proofs.Ytcigjehfmiiolaa
open Go Go.Eng

theorem out_loop (l y : List Int) (sl sy : SM) (hl : l.length ≤ 5) (hy : y.length ≤ 5) :
    (outBad l y = true → LoopOk Try.prog lOut 68 [5, 4] [0, 1] [vI 0, vB false] [.one (.sl cI l sl), .one (.sl cI y sy)] [] .ret [vX, vB false] []) ∧
    (outBad l y = false → LoopOk Try.prog lOut 68 [5, 4] [0, 1] [vI 0, vB false] [.one (.sl cI l sl), .one (.sl cI y sy)] [] (.exit 0) [vX, vB false] []) := by
  have h32 : 2 ^ l.length ≤ 32 := by
    have : 2 ^ l.length ≤ 2 ^ 5 := Nat.pow_le_pow_right (by omega) hl
    simpa using this
  have hpw := pw2_eq hl
  refine ⟨fun hf => ?_, fun hf => ?_⟩
  all_goals
    refine LoopOk.rounds (S := Nat) EIn lOut_eq (by kernel_rfl) (fun k => [vI k, vB false]) (fun _ => []) (fun k => k ≤ 2 ^ l.length ∧ ∀ j, j < k → inBad l y j = false) (fun k => 2 ^ l.length - k) 0 ⟨Nat.zero_le _, fun j hj => absurd hj (Nat.not_lt_zero j)⟩ ?_ (fun _ _ => rfl)
    intro x ⟨hk, hb⟩
    by_cases hlt : x < 2 ^ l.length
    · have hlt' : ((x : Nat) : Int) < 2 ^ l.length := by have := Int.ofNat_lt.2 hlt; simpa using this
      have hpk : ((x : Nat) : Int) < pw2 l := by rw [hpw]; exact Int.ofNat_lt.2 hlt
      have hw : IntKind.i64.wrap (((x : Nat) : Int) + 1) = ((x + 1 : Nat) : Int) := by rw [wrap64 (by omega) (by omega)]; rfl
      cases h1 : inBad l y x with
      | true =>
        have hin : outBad l y = true := List.any_eq_true.2 ⟨x, List.mem_range.2 hlt, h1⟩
        first
        | exact Bool.noConfusion (hin.symm.trans hf)
        | exact OneRound.stop [true, true] (vs := [(.one (.int .i64 ((x : Nat) : Int))), (.one (.bool false))]) (hp' := []) (cs := [(decide (0 = 0)), (decide (false = false)), (decide (l.length ≤ 5)), (decide (y.length ≤ 5)), (decide (0 ≤ ((x : Nat) : Int))), (decide (((x : Nat) : Int) < 2 ^ l.length)), true, (inBad l y x == true), (decide (((x : Nat) : Int) < pw2 l) == true)]) (fun rest => by kernel_rfl) (allI (by simp [hl, hy, hlt', hpk, h1])) (by simp) ⟨.unk, .refl, trivial⟩ rfl (.inl (Nat.le_refl _))
      | false =>
        refine OneRound.go [true, false] (vs := [(.one (.int .i64 (IntKind.i64.wrap (((x : Nat) : Int) + 1)))), (.one (.bool false))]) (hp' := []) (cs := [(decide (0 = 0)), (decide (false = false)), (decide (l.length ≤ 5)), (decide (y.length ≤ 5)), (decide (0 ≤ ((x : Nat) : Int))), (decide (((x : Nat) : Int) < 2 ^ l.length)), true, (inBad l y x == false), (decide (((x : Nat) : Int) < pw2 l) == true)]) (fun rest => by kernel_rfl) (allI (by simp [hl, hy, hlt', hpk, h1])) (x + 1) ⟨by omega, fun j hj => ?_⟩ (by omega) ⟨.of_eq (by rw [hw]), .refl, trivial⟩ rfl (.inl (Nat.le_refl _))
        by_cases hjk : j < x
        · exact hb j hjk
        · have : j = x := by omega
          subst this; exact h1
    · have hpk : ¬ ((x : Nat) : Int) < pw2 l := by rw [hpw]; intro h; exact hlt (Int.ofNat_lt.1 h)
      have hin : outBad l y = false := List.any_eq_false.2 fun j hj => by rw [hb j (by have := List.mem_range.1 hj; omega)]; simp
      first
      | exact Bool.noConfusion (hin.symm.trans hf)
      | exact OneRound.stop [false] (vs := [vI x, vB false]) (hp' := []) (cs := [decide (((x : Nat) : Int) < pw2 l) == false]) (fun rest => by kernel_rfl) (allT1 (dF hpk)) (by simp) ⟨.unk, .refl, trivial⟩ rfl (.inl (Nat.le_refl _))

noncomputable def EOut : Env Try.prog := EIn.addLT 24 4 lOut_eq 68 [5, 4] [0, 1] (by kernel_rfl) [.one cI, .one .bool] [.sl cI, .sl cI]
  (fun (z, c, _) ((l, sl), (y, sy), _) hp os => brL (outBad l y) os
    (fun os => retC (.ret, [vX, vB false], []) [decide (z = 0), decide (c = false), decide (l.length ≤ 5), decide (y.length ≤ 5), hp.isEmpty] os)
    (fun os => retC (.exit 0, [vX, vB false], []) [decide (z = 0), decide (c = false), decide (l.length ≤ 5), decide (y.length ≤ 5), hp.isEmpty] os))
  (fun (z, c, _) ((l, sl), (y, sy), _) hp os e outs hp' cs os' h hc => by
    rcases brL_some h hc with ⟨hb, o, c, h, hc⟩ | ⟨hb, o, c, h, hc⟩
    all_goals
      simp only [retC, Option.some.injEq, Prod.mk.injEq] at h
      obtain ⟨⟨rfl, rfl, rfl⟩, rfl, rfl⟩ := h
      obtain ⟨h1, hc⟩ := of_allTc hc
      obtain ⟨h2, hc⟩ := of_allTc hc
      obtain ⟨h3, hc⟩ := of_allTc hc
      obtain ⟨h4, hc⟩ := of_allTc hc
      obtain ⟨h7, _⟩ := of_allTc hc
      have h7 := List.isEmpty_iff.1 h7
      simp only [decide_eq_true_eq] at h1 h2 h3 h4
      subst h1; subst h2; subst h7
      first | exact (out_loop l y sl sy h3 h4).1 hb | exact (out_loop l y sl sy h3 h4).2 hb)
set_option maxRecDepth 100000 in
theorem meet_same_all : (all32.all fun l => all32.all fun y => !mayB l || (!mayB y || (meetI l y == !outBad l y))) = true := by kernel_rfl
end Go.Proofs.Ytcigjehfmiiolaa
