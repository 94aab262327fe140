/- RlogMatch: its run; no statement. -/
import Derived.Test.YtmbekpoelkcceaaMat
set_option linter.unusedVariables false
set_option linter.unusedSimpArgs false
namespace Go.Proofs.Ytmbekpoelkcceaa
open Go Go.Eng

abbrev sMat : List PT := [.one cB, .one (.sl cB), .one (.sl rPiece)]
theorem min40 (g : List Int) : (if (40 : Int) < ((g.length : Nat) : Int) then (40 : Int) else ((g.length : Nat) : Int)) = ((ldLen g : Nat) : Int) := by
  unfold ldLen
  split
  · rw [Nat.min_eq_right (by omega)]; rfl
  · rw [Nat.min_eq_left (by omega)]
theorem mat_pure (s : Int) (g : List Int) (l : List rPiece.den) (hs : (0 : Int) ≤ s ∧ s ≤ 255) (hg : ∀ x ∈ g, (0 : Int) ≤ x ∧ x ≤ 255) (hl : ∀ p ∈ l, (0 ≤ p.2.1 ∧ p.2.1 ≤ 255) ∧ (0 ≤ p.2.2.1 ∧ p.2.2.1 ≤ 255)) :
    PureCall Try.prog 3 [.one (.int .u8 s), vL cB g, vL rPiece l] (vB true) := by
  have hL : ldLen g ≤ 40 := Nat.min_le_right _ _
  have w1 : IntKind.i64.wrap s = s := wrap64 (by omega) (by omega)
  have w2 : IntKind.i64.wrap (((ldLen g : Nat) : Int) + 1) = ((ldLen g : Nat) : Int) + 1 := wrap64 (by omega) (by omega)
  have b1 : 0 ≤ Int.tmod s (((ldLen g : Nat) : Int) + 1) := Int.tmod_nonneg _ hs.1
  have b2 : Int.tmod s (((ldLen g : Nat) : Int) + 1) < ((ldLen g : Nat) : Int) + 1 := Int.tmod_lt_of_pos _ (by omega)
  have gb : g.all isByte = true := List.all_eq_true.2 fun x hx => decide_eq_true (hg x hx)
  have n1 : decide (((ldLen g : Nat) : Int) + 1 ≠ 0) = true := decide_eq_true (by omega)
  have n2 : decide (0 ≤ Int.tmod s (((ldLen g : Nat) : Int) + 1) ∧ Int.tmod s (((ldLen g : Nat) : Int) + 1) ≤ 40) = true := decide_eq_true ⟨b1, by omega⟩
  have n3 : ok (MatOk l (ldTo (Int.tmod s (((ldLen g : Nat) : Int) + 1)).toNat g ((0 : Int) == 1) (ldLen g)) (ldTo (Int.tmod s (((ldLen g : Nat) : Int) + 1)).toNat g ((1 : Int) == 1) (ldLen g)) ∧ True) = true :=
    ok_of ⟨⟨hl, _, g, ldLen g, fun x hx => (hg x hx).1, hL, rfl, rfl⟩, trivial⟩
  have n5 : decide ((0 : Int) = 0 ∧ (0 : Int) = 0 ∧ (0 : Int) = 0 ∧ (0 : Int) = 0 ∧ (0 : Int) = 0 ∧ true = true) = true := decide_eq_true ⟨rfl, rfl, rfl, rfl, rfl, rfl⟩
  have n6 : decide ((0 : Int) = 0 ∧ (0 : Int) = 0) = true := decide_eq_true ⟨rfl, rfl⟩
  have n7 : decide ((0 : Int) = 0 ∨ (0 : Int) = 1) = true := rfl
  have n8 : decide ((1 : Int) = 0 ∨ (1 : Int) = 1) = true := rfl
  exact EMat.pure_ok (os := [false, false]) (cs := [(decide ((0 : Int) = 0 ∧ (0 : Int) = 0 ∧ (0 : Int) = 0 ∧ (0 : Int) = 0 ∧ (0 : Int) = 0 ∧ true = true)), (ok (MatOk l (ldTo ((IntKind.i64.wrap s).tmod (IntKind.i64.wrap ((if 40 < ((g.length : Nat) : Int) then 40 else ((g.length : Nat) : Int)) + 1))).toNat g ((0 : Int) == 1) (ldLen g)) (ldTo ((IntKind.i64.wrap s).tmod (IntKind.i64.wrap ((if 40 < ((g.length : Nat) : Int) then 40 else ((g.length : Nat) : Int)) + 1))).toNat g ((1 : Int) == 1) (ldLen g)) ∧ ([] : List rEntry.den) = [])), (false == false), (decide ((0 : Int) = 0 ∧ (0 : Int) = 0)), (decide (0 ≤ (IntKind.i64.wrap s).tmod (IntKind.i64.wrap ((if 40 < ((g.length : Nat) : Int) then 40 else ((g.length : Nat) : Int)) + 1)) ∧ (IntKind.i64.wrap s).tmod (IntKind.i64.wrap ((if 40 < ((g.length : Nat) : Int) then 40 else ((g.length : Nat) : Int)) + 1)) ≤ 40)), (decide ((1 : Int) = 0 ∨ (1 : Int) = 1)), (g.all isByte), (decide (0 ≤ (IntKind.i64.wrap s).tmod (IntKind.i64.wrap ((if 40 < ((g.length : Nat) : Int) then 40 else ((g.length : Nat) : Int)) + 1)) ∧ (IntKind.i64.wrap s).tmod (IntKind.i64.wrap ((if 40 < ((g.length : Nat) : Int) then 40 else ((g.length : Nat) : Int)) + 1)) ≤ 40)), (decide ((0 : Int) = 0 ∨ (0 : Int) = 1)), (g.all isByte), (decide (IntKind.i64.wrap ((if 40 < ((g.length : Nat) : Int) then 40 else ((g.length : Nat) : Int)) + 1) ≠ 0)), ((!true) == false)]) (by kernel_rfl) (allI (by
    simp only [min40, w1, w2, ↓n5, ↓n6, ↓n7, ↓n8, gb, n1, n2]
    rw [n3]
    rfl))
theorem mat_law (d : dens sMat) (h : WFs sMat d) : PureCall Try.prog 3 (encs sMat d) (vB true) :=
  mat_pure d.1 d.2.1 d.2.2.1 h.1 h.2.1.2 fun p hp => ⟨(h.2.2.1.2 p hp).2.1, (h.2.2.1.2 p hp).2.2.1⟩
end Go.Proofs.Ytmbekpoelkcceaa
