/- RlogTries: its run; no statement. -/
import Derived.Test.YtmbekpoelkcceaaTri
set_option linter.unusedVariables false
set_option linter.unusedSimpArgs false
namespace Go.Proofs.Ytmbekpoelkcceaa
open Go Go.Eng

abbrev sTri : List PT := [.one cB, .one (.sl cB), .one cB]
theorem min40' (g : List Int) : (if (40 : Int) < ((g.length : Nat) : Int) then (40 : Int) else ((g.length : Nat) : Int)) = ((ldLen g : Nat) : Int) := by
  unfold ldLen
  split
  · rw [Nat.min_eq_right (by omega)]; rfl
  · rw [Nat.min_eq_left (by omega)]
theorem tri_pure (s : Int) (g : List Int) (c : Int) (hs : (0 : Int) ≤ s ∧ s ≤ 255) (hg : ∀ x ∈ g, (0 : Int) ≤ x ∧ x ≤ 255) (hc : (0 : Int) ≤ c ∧ c ≤ 255) :
    PureCall Try.prog 4 [.one (.int .u8 s), vL cB g, .one (.int .u8 c)] (vB true) := by
  have hL : ldLen g ≤ 40 := Nat.min_le_right _ _
  have w1 : IntKind.i64.wrap s = s := wrap64 (by omega) (by omega)
  have w1' : IntKind.i64.wrap c = c := wrap64 (by omega) (by omega)
  have w2 : IntKind.i64.wrap (((ldLen g : Nat) : Int) + 1) = ((ldLen g : Nat) : Int) + 1 := wrap64 (by omega) (by omega)
  have w3 : IntKind.u64.wrap ((ldLen g : Nat) : Int) = ldLen g := wrapU64 (by omega) (by omega)
  have b1 : 0 ≤ Int.tmod s (((ldLen g : Nat) : Int) + 1) := Int.tmod_nonneg _ hs.1
  have b2 : Int.tmod s (((ldLen g : Nat) : Int) + 1) < ((ldLen g : Nat) : Int) + 1 := Int.tmod_lt_of_pos _ (by omega)
  have c1 : 0 ≤ Int.tmod c (((ldLen g : Nat) : Int) + 1) := Int.tmod_nonneg _ hc.1
  have c2 : Int.tmod c (((ldLen g : Nat) : Int) + 1) < ((ldLen g : Nat) : Int) + 1 := Int.tmod_lt_of_pos _ (by omega)
  have gb : g.all isByte = true := List.all_eq_true.2 fun x hx => decide_eq_true (hg x hx)
  have n1 : decide (((ldLen g : Nat) : Int) + 1 ≠ 0) = true := decide_eq_true (by omega)
  have n2 : decide (0 ≤ Int.tmod s (((ldLen g : Nat) : Int) + 1) ∧ Int.tmod s (((ldLen g : Nat) : Int) + 1) ≤ 40) = true := decide_eq_true ⟨b1, by omega⟩
  have n4 : decide ((0 : Int) ≤ 0 ∧ 0 ≤ Int.tmod c (((ldLen g : Nat) : Int) + 1) ∧ Int.tmod c (((ldLen g : Nat) : Int) + 1) ≤ ((ldLen g : Nat) : Int)) = true := decide_eq_true ⟨by omega, by omega, by omega⟩
  have n5 : decide ((0 : Int) = 0 ∧ (0 : Int) = 0 ∧ (0 : Int) = 0 ∧ (0 : Int) = 0 ∧ (0 : Int) = 0 ∧ true = true ∧ false = false) = true := decide_eq_true ⟨rfl, rfl, rfl, rfl, rfl, rfl, rfl⟩
  have n6 : decide ((0 : Int) = 0 ∧ (0 : Int) = 0) = true := decide_eq_true ⟨rfl, rfl⟩
  have n7 : decide ((0 : Int) = 0 ∨ (0 : Int) = 1) = true := rfl
  have n8 : decide ((1 : Int) = 0 ∨ (1 : Int) = 1) = true := rfl
  have m1 : ((0 : Int) == 1) = false := rfl
  have m2 : ((1 : Int) == 1) = true := rfl
  have hgp : ∀ x ∈ g, (0 : Int) ≤ x := fun x hx => (hg x hx).1
  have ll : ∀ ev : Bool, (ldTo (Int.tmod s (((ldLen g : Nat) : Int) + 1)).toNat g ev (ldLen g)).length = ldLen g := fun ev => ldTo_len
  have dz : ∀ y : List rEntry.den, List.drop (Int.toNat 0) y = y := fun y => by rw [Int.toNat_zero, List.drop_zero]
  have tk : List.take (Int.tmod c (((ldLen g : Nat) : Int) + 1)).toNat (ldTo (Int.tmod s (((ldLen g : Nat) : Int) + 1)).toNat g true (ldLen g)) = ldTo (Int.tmod s (((ldLen g : Nat) : Int) + 1)).toNat g true (Int.tmod c (((ldLen g : Nat) : Int) + 1)).toNat := ldTo_take (by omega)
  have n9 : decide ((ldTo (Int.tmod s (((ldLen g : Nat) : Int) + 1)).toNat g true (Int.tmod c (((ldLen g : Nat) : Int) + 1)).toNat).length ≤ 1000) = true := decide_eq_true (by rw [ldTo_len]; omega)
  have n10 : folW 0 0 (ldTo (Int.tmod s (((ldLen g : Nat) : Int) + 1)).toNat g true (Int.tmod c (((ldLen g : Nat) : Int) + 1)).toNat) = true := folW_ld (m := (Int.tmod c (((ldLen g : Nat) : Int) + 1)).toNat) hgp (by omega) _ 0 (Nat.zero_add _)
  have n11 : (ldTo (Int.tmod s (((ldLen g : Nat) : Int) + 1)).toNat g true (Int.tmod c (((ldLen g : Nat) : Int) + 1)).toNat).all entFits = true := ldTo_fits
  have n3 : ok (TriOk (ldTo (Int.tmod s (((ldLen g : Nat) : Int) + 1)).toNat g false (ldLen g)) (ldTo (Int.tmod s (((ldLen g : Nat) : Int) + 1)).toNat g true (Int.tmod c (((ldLen g : Nat) : Int) + 1)).toNat) ∧ True) = true :=
    ok_of ⟨⟨_, g, ldLen g, _, hgp, hL, by omega, rfl, rfl⟩, trivial⟩
  exact ETri.pure_ok (os := [false, false]) (cs := [(decide ((0 : Int) = 0 ∧ (0 : Int) = 0 ∧ (0 : Int) = 0 ∧ (0 : Int) = 0 ∧ (0 : Int) = 0 ∧ true = true ∧ false = false)), (ok (TriOk (ldTo ((IntKind.i64.wrap s).tmod (IntKind.i64.wrap ((if 40 < ((g.length : Nat) : Int) then 40 else ((g.length : Nat) : Int)) + 1))).toNat g ((0 : Int) == 1) (ldLen g)) (List.drop (Int.toNat 0) (List.take ((IntKind.i64.wrap c).tmod (IntKind.i64.wrap ((((ldTo ((IntKind.i64.wrap s).tmod (IntKind.i64.wrap ((if 40 < ((g.length : Nat) : Int) then 40 else ((g.length : Nat) : Int)) + 1))).toNat g ((1 : Int) == 1) (ldLen g)).length : Nat) : Int) + 1))).toNat (ldTo ((IntKind.i64.wrap s).tmod (IntKind.i64.wrap ((if 40 < ((g.length : Nat) : Int) then 40 else ((g.length : Nat) : Int)) + 1))).toNat g ((1 : Int) == 1) (ldLen g)))) ∧ IntKind.u64.wrap (((ldTo ((IntKind.i64.wrap s).tmod (IntKind.i64.wrap ((if 40 < ((g.length : Nat) : Int) then 40 else ((g.length : Nat) : Int)) + 1))).toNat g ((0 : Int) == 1) (ldLen g)).length : Nat) : Int) = (((ldTo ((IntKind.i64.wrap s).tmod (IntKind.i64.wrap ((if 40 < ((g.length : Nat) : Int) then 40 else ((g.length : Nat) : Int)) + 1))).toNat g ((0 : Int) == 1) (ldLen g)).length : Nat) : Int))), (false == false), (decide ((0 : Int) = 0 ∧ (0 : Int) = 0)), (decide ((List.drop (Int.toNat 0) (List.take ((IntKind.i64.wrap c).tmod (IntKind.i64.wrap ((((ldTo ((IntKind.i64.wrap s).tmod (IntKind.i64.wrap ((if 40 < ((g.length : Nat) : Int) then 40 else ((g.length : Nat) : Int)) + 1))).toNat g ((1 : Int) == 1) (ldLen g)).length : Nat) : Int) + 1))).toNat (ldTo ((IntKind.i64.wrap s).tmod (IntKind.i64.wrap ((if 40 < ((g.length : Nat) : Int) then 40 else ((g.length : Nat) : Int)) + 1))).toNat g ((1 : Int) == 1) (ldLen g)))).length ≤ 1000)), (folW 0 0 (List.drop (Int.toNat 0) (List.take ((IntKind.i64.wrap c).tmod (IntKind.i64.wrap ((((ldTo ((IntKind.i64.wrap s).tmod (IntKind.i64.wrap ((if 40 < ((g.length : Nat) : Int) then 40 else ((g.length : Nat) : Int)) + 1))).toNat g ((1 : Int) == 1) (ldLen g)).length : Nat) : Int) + 1))).toNat (ldTo ((IntKind.i64.wrap s).tmod (IntKind.i64.wrap ((if 40 < ((g.length : Nat) : Int) then 40 else ((g.length : Nat) : Int)) + 1))).toNat g ((1 : Int) == 1) (ldLen g))))), ((List.drop (Int.toNat 0) (List.take ((IntKind.i64.wrap c).tmod (IntKind.i64.wrap ((((ldTo ((IntKind.i64.wrap s).tmod (IntKind.i64.wrap ((if 40 < ((g.length : Nat) : Int) then 40 else ((g.length : Nat) : Int)) + 1))).toNat g ((1 : Int) == 1) (ldLen g)).length : Nat) : Int) + 1))).toNat (ldTo ((IntKind.i64.wrap s).tmod (IntKind.i64.wrap ((if 40 < ((g.length : Nat) : Int) then 40 else ((g.length : Nat) : Int)) + 1))).toNat g ((1 : Int) == 1) (ldLen g)))).all entFits), (decide ((0 : Int) ≤ 0 ∧ 0 ≤ (IntKind.i64.wrap c).tmod (IntKind.i64.wrap ((((ldTo ((IntKind.i64.wrap s).tmod (IntKind.i64.wrap ((if 40 < ((g.length : Nat) : Int) then 40 else ((g.length : Nat) : Int)) + 1))).toNat g ((1 : Int) == 1) (ldLen g)).length : Nat) : Int) + 1)) ∧ (IntKind.i64.wrap c).tmod (IntKind.i64.wrap ((((ldTo ((IntKind.i64.wrap s).tmod (IntKind.i64.wrap ((if 40 < ((g.length : Nat) : Int) then 40 else ((g.length : Nat) : Int)) + 1))).toNat g ((1 : Int) == 1) (ldLen g)).length : Nat) : Int) + 1)) ≤ (((ldTo ((IntKind.i64.wrap s).tmod (IntKind.i64.wrap ((if 40 < ((g.length : Nat) : Int) then 40 else ((g.length : Nat) : Int)) + 1))).toNat g ((1 : Int) == 1) (ldLen g)).length : Nat) : Int))), (decide (IntKind.i64.wrap ((((ldTo ((IntKind.i64.wrap s).tmod (IntKind.i64.wrap ((if 40 < ((g.length : Nat) : Int) then 40 else ((g.length : Nat) : Int)) + 1))).toNat g ((1 : Int) == 1) (ldLen g)).length : Nat) : Int) + 1) ≠ 0)), (decide (0 ≤ (IntKind.i64.wrap s).tmod (IntKind.i64.wrap ((if 40 < ((g.length : Nat) : Int) then 40 else ((g.length : Nat) : Int)) + 1)) ∧ (IntKind.i64.wrap s).tmod (IntKind.i64.wrap ((if 40 < ((g.length : Nat) : Int) then 40 else ((g.length : Nat) : Int)) + 1)) ≤ 40)), (decide ((1 : Int) = 0 ∨ (1 : Int) = 1)), (g.all isByte), (decide (0 ≤ (IntKind.i64.wrap s).tmod (IntKind.i64.wrap ((if 40 < ((g.length : Nat) : Int) then 40 else ((g.length : Nat) : Int)) + 1)) ∧ (IntKind.i64.wrap s).tmod (IntKind.i64.wrap ((if 40 < ((g.length : Nat) : Int) then 40 else ((g.length : Nat) : Int)) + 1)) ≤ 40)), (decide ((0 : Int) = 0 ∨ (0 : Int) = 1)), (g.all isByte), (decide (IntKind.i64.wrap ((if 40 < ((g.length : Nat) : Int) then 40 else ((g.length : Nat) : Int)) + 1) ≠ 0)), ((!true) == false)]) (by kernel_rfl) (allI (by
    simp only [min40', w1, w1', w2, m1, m2, ll, w3, dz, tk, ↓n5, ↓n6, ↓n7, ↓n8, ↓n4, gb, n1, n2, n9, n10, n11]
    rw [n3]
    rfl))
theorem tri_law (d : dens sTri) (h : WFs sTri d) : PureCall Try.prog 4 (encs sTri d) (vB true) :=
  tri_pure d.1 d.2.1 d.2.2.1 h.1 h.2.1.2 h.2.2.1
end Go.Proofs.Ytmbekpoelkcceaa
