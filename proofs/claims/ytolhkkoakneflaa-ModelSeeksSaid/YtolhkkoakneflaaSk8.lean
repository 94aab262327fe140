/- ModelSeeks: its run; no statement. -/
import Derived.Test.YtolhkkoakneflaaSk7
set_option linter.unusedVariables false
set_option linter.unusedSimpArgs false
namespace Go.Proofs.Ytolhkkoakneflaa
open Go Go.Eng

abbrev lowB (u : Int) : ByteArray := ByteArray.mk #[114] ++ strOfNums [u.tmod 6]
theorem seeks_pure (l : List rAct.den) (u : Int) (hl : ∀ x ∈ l, WF rAct x) (hu : 0 ≤ u ∧ u ≤ 255) : PureCall Try.prog 5 [vL rAct l, .one (.int .u8 u)] (vB true) := by
  have t0 : 0 ≤ Int.tmod u 6 := Int.tmod_nonneg _ hu.1
  have t1 : Int.tmod u 6 < 6 := Int.tmod_lt_of_pos _ (by omega)
  obtain ⟨f, hf⟩ := Int.eq_ofNat_of_zero_le t0
  have hlow : lowB u = rowN f := by unfold lowB rowN; rw [hf]
  have sz : decide ((ByteArray.mk #[114]).size + (strOfNums [u.tmod 6]).size ≤ 9223372036854775807) = true := decide_eq_true (by rw [one_size]; show 1 + 1 ≤ _; omega)
  have R : ∃ n, Reach (opsM l 60) n := by
    rcases Nat.lt_or_ge l.length 60 with h | h
    · rw [opsM_end (k := l.length) (n := 60) (Nat.le_refl _) (by omega)]
      exact ⟨_, reach_ops hl l.length (Nat.le_refl _) (by omega)⟩
    · exact ⟨_, reach_ops hl 60 h (by omega)⟩
  have a0 : ok (([] : MapT) = [] ∧ ∀ (x : rAct.den), x ∈ l → WF rAct x) = true := ok_of ⟨rfl, hl⟩
  have a1 : ok ((∃ n, Reach (opsM l 60) n) ∧ ∃ f, f < 6 ∧ lowB u = rowN f) = true := ok_of ⟨R, f, by omega, hlow⟩
  exact ESb.pure_ok (os := [false]) (cs := [(decide ((0 : Int) = 0)), (ok ((∃ n, Ytolhkkoakneflaa.Reach (opsM l 60) n) ∧ ∃ f, f < 6 ∧ lowB u = rowN f)), (decide ((ByteArray.mk #[114]).size + (strOfNums [u.tmod 6]).size ≤ 9223372036854775807)), (decide ((6 : Int) ≠ 0)), (decide ((0 : Int) = 0)), (ok (([] : MapT) = [] ∧ ∀ (x : rAct.den), x ∈ l → WF rAct x)), (false == false)]) (by kernel_rfl) (allI (by
    simp only [↓a0, ↓a1, sz]
    rfl))
abbrev sSe : List PT := [.one (.sl rAct), .one cB]
theorem seeks_law (d : dens sSe) (h : WFs sSe d) : PureCall Try.prog 5 (encs sSe d) (vB true) := seeks_pure d.1 d.2.1 h.1.2 h.2.1
end Go.Proofs.Ytolhkkoakneflaa
