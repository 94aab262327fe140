/- QuorumBack's loop; no statement. -/
import Derived.Test.YtcigjehfmiiolaaQmem
set_option linter.unusedVariables false
namespace Go.Proofs.Ytcigjehfmiiolaa
open Go Go.Eng

noncomputable def lBack : Code := (theLoop Try.prog 7 13).getD .skip
theorem lBack_eq : theLoop Try.prog 7 13 = some lBack := by kernel_rfl
theorem back_loop (l : List Int) (s1 s2 : SM) (hl : l.length ≤ maxLen) :
    LoopOk Try.prog lBack 88 [13, 4] [11, 5] [vI 0, vB false] [.one (.sl cI l s1), .one (.sl cI l s2)] [] (.exit 0) [vX, vB false] [] := by
  unfold maxLen at hl
  refine LoopOk.rounds (S := Nat) E0 lBack_eq (by kernel_rfl) (fun k => [vI k, vB false]) (fun k => []) (fun k => k ≤ l.length) (fun k => l.length - k) 0 (by omega) ?_ (fun _ _ => rfl)
  intro k hk
  by_cases hlt : k < l.length
  · refine OneRound.go [true, false] (vs := [vI (IntKind.i64.wrap (k + 1)), vB false]) (hp' := []) (cs := [(l.getD k 0 != l.getD k 0) == false, inB k l.length, inB k l.length, decide ((k : Int) < l.length) == true])
      (fun rest => by kernel_rfl) (allTc (by simp) (allTc (inB_of (by omega) (by omega)) (allTc (inB_of (by omega) (by omega)) (allT1 (dT (by omega)))))) (k + 1) (by omega) (by omega) ⟨.of_eq ?_, .refl, trivial⟩ rfl (.inl (Nat.le_refl _))
    rw [wrap64 (by omega) (by omega)]; rfl
  · exact OneRound.stop [false] (vs := [vI k, vB false]) (hp' := []) (cs := [decide ((k : Int) < l.length) == false]) (fun rest => by kernel_rfl) (allT1 (dF (by omega))) (by simp) ⟨.unk, .refl, trivial⟩ rfl (.inl (Nat.le_refl _))

noncomputable def EBk : Env Try.prog := EMem.addLT 7 13 lBack_eq 88 [13, 4] [11, 5] (by kernel_rfl) [.one cI, .one .bool] [.sl cI, .sl cI]
  (fun (z, b, _) ((l, sl), (m, sm), _) hp os => retC (.exit 0, [vX, vB false], []) [decide (z = 0), decide (b = false), decide (l = m), decide (m.length ≤ maxLen), hp.isEmpty] os)
  (fun (z, b, _) ((l, sl), (m, sm), _) hp os e outs hp' cs os' h hc => by
    simp only [retC, Option.some.injEq, Prod.mk.injEq] at h
    obtain ⟨⟨rfl, rfl, rfl⟩, rfl, rfl⟩ := h
    obtain ⟨h1, hc⟩ := of_allTc hc
    obtain ⟨h2, hc⟩ := of_allTc hc
    obtain ⟨h3, hc⟩ := of_allTc hc
    obtain ⟨h4, hc⟩ := of_allTc hc
    obtain ⟨h5, _⟩ := of_allTc hc
    have h5 := List.isEmpty_iff.1 h5
    simp only [decide_eq_true_eq] at h1 h2 h3 h4
    subst h1; subst h2; subst h5; subst h3
    exact back_loop l sl sm h4)
end Go.Proofs.Ytcigjehfmiiolaa
