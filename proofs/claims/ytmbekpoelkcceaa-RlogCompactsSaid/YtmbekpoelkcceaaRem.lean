/- RlogCompacts: its run over a log that is not empty; no statement. -/
import Derived.Test.YtmbekpoelkcceaaRel
set_option linter.unusedVariables false
set_option linter.unusedSimpArgs false
namespace Go.Proofs.Ytmbekpoelkcceaa
open Go Go.Eng

theorem cpt_pure (s : Int) (g : List Int) (l : List rPc.den) (hs : (0 : Int) ≤ s ∧ s ≤ 255) (hg : ∀ x ∈ g, (0 : Int) ≤ x ∧ x ≤ 255) (hl : l.all pcB = true) (h0 : 0 < ldLen g) :
    PureCall Try.prog 5 [vL cB g, .one (.int .u8 s), vL rPc l] (vB true) := by
  have hL : ldLen g ≤ 40 := Nat.min_le_right _ _
  have hgp : ∀ x ∈ g, (0 : Int) ≤ x := fun x hx => (hg x hx).1
  have gb : g.all isByte = true := List.all_eq_true.2 fun x hx => decide_eq_true (hg x hx)
  have eC := CB_eq h0
  have eX : cutL 0 (ldLen g) (comA g (ldLen g)) = comA g (ldLen g) := by
    show List.take _ (List.drop 0 _) = _
    rw [List.drop_zero, List.take_of_length_le (by rw [comA_len]; exact Nat.le_refl _)]
  have w1 : IntKind.i64.wrap (((ldLen g : Nat) : Int) + 1) = ((ldLen g + 1 : Nat) : Int) := by rw [wrap64 (by omega) (by omega)]; omega
  have w2 : IntKind.u64.wrap ((ldLen g + 1 : Nat) : Int) = ((ldLen g + 1 : Nat) : Int) := wrapU64 (by omega) (by omega)
  obtain ⟨p, ep⟩ := nat_of hs.1
  have w3 : IntKind.u64.wrap (p : Int) = (p : Int) := wrapU64 (by omega) (by omega)
  obtain ⟨f, ef, hf⟩ : ∃ f : Nat, Int.tmod (p : Int) ((ldLen g + 1 : Nat) : Int) = (f : Int) ∧ f ≤ ldLen g := ⟨p % (ldLen g + 1), tmod_nat _ _, by have := Nat.mod_lt p (show 0 < ldLen g + 1 by omega); omega⟩
  have n1 : decide (0 < ldLen g) = true := decide_eq_true h0
  have n2 : decide (((ldLen g : Nat) : Int) > 0) = true := decide_eq_true (by omega)
  have n3 : inB 0 (ldLen g) = true := inB_of (by omega) (by omega)
  have n4 : (comA g (ldLen g)).all entFits = true := comA_fits
  have n5 : folW 0 0 (comA g (ldLen g)) = true := by
    have h := comA_fol hgp (L := ldLen g) (f := 0) hL (Nat.zero_le _)
    rw [List.drop_zero] at h
    exact h
  have n6 : decide (ldLen g ≤ 1000) = true := decide_eq_true (by omega)
  have n7 : decide (ldLen g ≤ (comA g (ldLen g)).length) = true := decide_eq_true (by rw [comA_len]; exact Nat.le_refl _)
  have n8 : decide ((comA g (ldLen g)).length ≤ 1000) = true := decide_eq_true (by rw [comA_len]; omega)
  have n9 : decide (((ldLen g + 1 : Nat) : Int) ≠ 0) = true := decide_eq_true (by omega)
  have n10 : ok (0 < (comA g (ldLen g)).length → ((comA g (ldLen g)).getD ((comA g (ldLen g)).length - 1) rEntry.dflt).1 = (comA g (ldLen g)).length) = true := ok_of fun _ => by
    rw [comA_len]
    have h := comA_ix (g := g) (L := ldLen g) (k := ldLen g - 1) (by omega)
    rw [show ((ldLen g - 1 : Nat) : Int) + 1 = (ldLen g : Nat) by omega] at h
    exact h
  have n11 : decide ((memC (f : Int) [] (comA g (ldLen g))).length ≤ 1000) = true := decide_eq_true (by rw [comA_mem f h0]; split <;> simp)
  have n12 : decide (0 ≤ (f : Int) ∧ (f : Int) ≤ (((comA g (ldLen g)).length : Nat) : Int)) = true := decide_eq_true (by rw [comA_len]; omega)
  have n13 : decide ((comA g (ldLen g)).length ≤ 900) = true := decide_eq_true (by rw [comA_len]; omega)
  have tf : (f : Int).toNat = f := Int.toNat_natCast _
  have eT : (termC 0 0 (comA g (ldLen g)) (f : Int)).fst = tmC g f := by
    have h := comA_term (g := g) (L := ldLen g) (b := 0) (i := f) (Nat.zero_le _) hf
    rw [List.drop_zero] at h
    have h : termC 0 0 (comA g (ldLen g)) (f : Int) = _ := h
    rw [h]
  have n14 : ok (CpOk (comA g (ldLen g)) ((comA g (ldLen g)).drop f) (ldLen g) (f : Int) (tmC g f) (memC (f : Int) [] (comA g (ldLen g)))) = true :=
    ok_of ⟨g, f, hgp, hL, h0, hf, rfl, rfl, rfl, rfl, rfl⟩
  exact ECp2.pure_ok (os := [false, true, false, false, false, false, false, false, false, false]) (cs := [decide (((IntKind.u64.wrap s).tmod (IntKind.u64.wrap (IntKind.i64.wrap (((ldLen g : Nat) : Int) + 1)))) = ((IntKind.u64.wrap s).tmod (IntKind.u64.wrap (IntKind.i64.wrap (((ldLen g : Nat) : Int) + 1)))) ∧ ((IntKind.u64.wrap s).tmod (IntKind.u64.wrap (IntKind.i64.wrap (((ldLen g : Nat) : Int) + 1)))) = ((IntKind.u64.wrap s).tmod (IntKind.u64.wrap (IntKind.i64.wrap (((ldLen g : Nat) : Int) + 1)))) ∧ false = false ∧ (0 : Int) = 0 ∧ (0 : Int) = 0 ∧ (0 : Int) = 0 ∧ (0 : Int) = 0),
    true,
    true,
    ok ((CB g) = (CB g) ∧ CpOk (CB g) ((cutL 0 (ldLen g) (CB g)).drop (((IntKind.u64.wrap s).tmod (IntKind.u64.wrap (IntKind.i64.wrap (((ldLen g : Nat) : Int) + 1))))).toNat) (ldLen g) ((IntKind.u64.wrap s).tmod (IntKind.u64.wrap (IntKind.i64.wrap (((ldLen g : Nat) : Int) + 1)))) (termC 0 0 (cutL 0 (ldLen g) (CB g)) ((IntKind.u64.wrap s).tmod (IntKind.u64.wrap (IntKind.i64.wrap (((ldLen g : Nat) : Int) + 1))))).1 (memC ((IntKind.u64.wrap s).tmod (IntKind.u64.wrap (IntKind.i64.wrap (((ldLen g : Nat) : Int) + 1)))) [] (cutL 0 (ldLen g) (CB g)))),
    decide ((0 : Int) = 0 ∧ false = false ∧ (0 : Int) = 0 ∧ (0 : Int) = 0 ∧ (0 : Int) = 0 ∧ (0 : Int) = 0),
    true,
    true,
    l.all pcB,
    ok ((cutL 0 (ldLen g) (CB g)) = (CB g) ∧ CpOk (CB g) ((cutL 0 (ldLen g) (CB g)).drop (((IntKind.u64.wrap s).tmod (IntKind.u64.wrap (IntKind.i64.wrap (((ldLen g : Nat) : Int) + 1))))).toNat) (ldLen g) ((IntKind.u64.wrap s).tmod (IntKind.u64.wrap (IntKind.i64.wrap (((ldLen g : Nat) : Int) + 1)))) (termC 0 0 (cutL 0 (ldLen g) (CB g)) ((IntKind.u64.wrap s).tmod (IntKind.u64.wrap (IntKind.i64.wrap (((ldLen g : Nat) : Int) + 1))))).1 (memC ((IntKind.u64.wrap s).tmod (IntKind.u64.wrap (IntKind.i64.wrap (((ldLen g : Nat) : Int) + 1)))) [] (cutL 0 (ldLen g) (CB g)))),
    (false == false),
    (false == false),
    (false == false),
    true,
    decide ((cutL 0 (ldLen g) (CB g)).length ≤ 900),
    decide (0 ≤ ((IntKind.u64.wrap s).tmod (IntKind.u64.wrap (IntKind.i64.wrap (((ldLen g : Nat) : Int) + 1)))) ∧ ((IntKind.u64.wrap s).tmod (IntKind.u64.wrap (IntKind.i64.wrap (((ldLen g : Nat) : Int) + 1)))) ≤ (((cutL 0 (ldLen g) (CB g)).length : Nat) : Int)),
    decide ((memC ((IntKind.u64.wrap s).tmod (IntKind.u64.wrap (IntKind.i64.wrap (((ldLen g : Nat) : Int) + 1)))) [] (cutL 0 (ldLen g) (CB g))).length ≤ 1000),
    (cutL 0 (ldLen g) (CB g)).all entFits,
    ok (0 < (cutL 0 (ldLen g) (CB g)).length → ((cutL 0 (ldLen g) (CB g)).getD ((cutL 0 (ldLen g) (CB g)).length - 1) rEntry.dflt).1 = (cutL 0 (ldLen g) (CB g)).length),
    (false == false),
    (false == false),
    (false == false),
    decide (IntKind.u64.wrap (IntKind.i64.wrap (((ldLen g : Nat) : Int) + 1)) ≠ 0),
    true,
    decide ((cutL 0 (ldLen g) (CB g)).length ≤ 1000),
    decide (([] : List Int).length ≤ 1000),
    (cutL 0 (ldLen g) (CB g)).all entFits,
    (false == false),
    decide ((0 : Int) = 0 ∧ (0 : Int) = 0),
    decide (ldLen g ≤ (CB g).length),
    decide (ldLen g ≤ 1000),
    folW 0 0 (cutL 0 (ldLen g) (CB g)),
    (cutL 0 (ldLen g) (CB g)).all entFits,
    inB 0 (ldLen g),
    inB 0 (ldLen g),
    (decide (((ldLen g : Nat) : Int) > 0) == true),
    decide ((40 : Int) = 40),
    decide ((0 : Int) = 0),
    g.all isByte,
    decide (0 < ldLen g),
    ((!true) == false)]) (by kernel_rfl) (allI (by
    simp only [eC, eX]
    simp only [ep, w1, w2, w3, ef, tf, eT]
    simp only [↓n1, n2, n3, n4, n5, ↓n6, ↓n7, ↓n8, ↓n9, ↓n10, ↓n11, ↓n12, ↓n13, n14, gb, hl, and_self, true_and, decide_true]
    rfl))
end Go.Proofs.Ytmbekpoelkcceaa
