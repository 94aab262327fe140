/- RlogCompacts: its run, and the law; no statement. -/
import Derived.Test.YtmbekpoelkcceaaReo
set_option linter.unusedVariables false
set_option linter.unusedSimpArgs false
namespace Go.Proofs.Ytmbekpoelkcceaa
open Go Go.Eng

theorem cpt_pure0 (s : Int) (l : List rPc.den) (hs : (0 : Int) ≤ s ∧ s ≤ 255) (hl : l.all pcB = true) :
    PureCall Try.prog 5 [vL cB [], .one (.int .u8 s), vL rPc l] (vB true) := by
  have a3 : ∀ p : Int, Int.tmod p 1 = 0 := Int.tmod_one
  have n1 : ok (0 < ([] : List rEntry.den).length → (([] : List rEntry.den).getD (([] : List rEntry.den).length - 1) rEntry.dflt).1 = ([] : List rEntry.den).length) = true := ok_of fun h => absurd h (by decide)
  have n2 : ok ((0 : Int) = 0 ∧ (termC 0 0 ([] : List rEntry.den) 0).1 = 0 ∧ memC 0 [] ([] : List rEntry.den) = [] ∧ List.drop (0 : Int).toNat ([] : List rEntry.den) = []) = true := ok_of ⟨rfl, rfl, rfl, rfl⟩
  have n3 : ok ((0 : Int) = 0 ∧ (0 : Int) = 0) = true := ok_of ⟨rfl, rfl⟩
  have n4 : ok (([] : List Int) = []) = true := ok_of rfl
  have n5 : decide ((0 : Int) ≤ 0 ∧ (0 : Int) ≤ 0) = true := rfl
  exact ECp4.pure_ok (os := [false, false, false, false, false, false, false, false, false]) (cs := [ok (((IntKind.u64.wrap s).tmod 1) = 0 ∧ ((IntKind.u64.wrap s).tmod 1) = 0),
    decide (false = false ∧ (0 : Int) = 0 ∧ (0 : Int) = 0 ∧ (0 : Int) = 0 ∧ (0 : Int) = 0 ∧ (0 : Int) = 0 ∧ (0 : Int) = 0),
    true,
    true,
    decide ((0 : Int) = 0 ∧ false = false ∧ (0 : Int) = 0 ∧ (0 : Int) = 0 ∧ (0 : Int) = 0 ∧ (0 : Int) = 0),
    true,
    true,
    l.all pcB,
    ok (((IntKind.u64.wrap s).tmod 1) = 0 ∧ (termC 0 0 ([] : List rEntry.den) ((IntKind.u64.wrap s).tmod 1)).1 = 0 ∧ memC ((IntKind.u64.wrap s).tmod 1) [] ([] : List rEntry.den) = [] ∧ List.drop (((IntKind.u64.wrap s).tmod 1)).toNat ([] : List rEntry.den) = []),
    (false == false),
    (false == false),
    (false == false),
    true,
    decide ((0 : Nat) ≤ 900),
    decide (0 ≤ ((IntKind.u64.wrap s).tmod 1) ∧ ((IntKind.u64.wrap s).tmod 1) ≤ 0),
    decide ((memC ((IntKind.u64.wrap s).tmod 1) [] ([] : List rEntry.den)).length ≤ 1000),
    true,
    ok (0 < ([] : List rEntry.den).length → (([] : List rEntry.den).getD (([] : List rEntry.den).length - 1) rEntry.dflt).1 = ([] : List rEntry.den).length),
    (false == false),
    (false == false),
    (false == false),
    decide ((1 : Int) ≠ 0),
    true,
    decide ((0 : Nat) ≤ 1000),
    decide ((0 : Nat) ≤ 1000),
    true,
    (false == false),
    decide ((0 : Int) = 0 ∧ (0 : Int) = 0),
    (decide (((([] : List rEntry.den).length : Nat) : Int) > 0) == false),
    decide ((40 : Int) = 40),
    ok (([] : List Int) = []),
    decide ((0 : Int) = 0),
    ((!true) == false)]) (by kernel_rfl) (allI (by
    rw [a3]
    simp only [↓n1, ↓n2, ↓n3, ↓n4, ↓n5, hl]
    rfl))

abbrev sCpt : List PT := [.one (.sl cB), .one cB, .one (.sl rPc)]
theorem cpt_law (d : dens sCpt) (h : WFs sCpt d) : PureCall Try.prog 5 (encs sCpt d) (vB true) := by
  have hl : List.all d.2.2.1 pcB = true := List.all_eq_true.2 fun p hp => by
    have w := h.2.2.1.2 p hp
    rw [Bool.and_eq_true, decide_eq_true_eq, decide_eq_true_eq]
    exact ⟨w.2.1, w.2.2.1⟩
  rcases Nat.eq_zero_or_pos (ldLen d.1) with h0 | h0
  · have e : d.1 = [] := by
      have : min (List.length d.1) 40 = 0 := h0
      exact List.eq_nil_of_length_eq_zero (by omega)
    have key := cpt_pure0 d.2.1 d.2.2.1 h.2.1 hl
    rw [← e] at key
    exact key
  · exact cpt_pure d.2.1 d.1 d.2.2.1 h.2.1 h.1.2 hl h0
end Go.Proofs.Ytmbekpoelkcceaa
