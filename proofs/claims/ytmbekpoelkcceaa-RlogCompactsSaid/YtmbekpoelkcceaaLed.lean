/- leader: its loop and its contract; no statement. -/
import Derived.Test.YtmbekpoelkcceaaFol
import Derived.Test.YtmbekpoelkcceaaRp
set_option linter.unusedVariables false
set_option linter.unusedSimpArgs false
namespace Go.Proofs.Ytmbekpoelkcceaa
open Go Go.Eng

noncomputable def lLed : Code := (theLoop Try.prog 9 4).getD .skip
theorem lLed_eq : theLoop Try.prog 9 4 = some lLed := by kernel_rfl

abbrev ldLen (g : List Int) : Nat := min g.length 40
abbrev rawE (i t s p : Int) : rEntry.den := (i, t, 1, (0, 0, s, p, (0, (ByteArray.mk #[]), (ByteArray.mk #[]), (ByteArray.mk #[]), false, (ByteArray.mk #[]), ()), 0, 0, (ByteArray.mk #[]), (ByteArray.mk #[]), 0, (false, 0, (ByteArray.mk #[]), 0, 0, ()), ()), [], ())
theorem rawE_ld {n : Nat} {g : List Int} {ev : Bool} {k : Nat} {i t s p : Int} (h1 : i = (k : Int) + 1) (h2 : t = ldTm n g ev (k + 1)) (h3 : s = k) (h4 : p = if k < n then 0 else 1 + evI ev) : rawE i t s p = ldEnt n g ev k := by
  subst h1; subst h2; subst h3; subst h4; rfl

theorem led_loop (g : List Int) (hg : ∀ x ∈ g, (0 : Int) ≤ x ∧ x ≤ 255) (n : Nat) (hn : n ≤ 40) (b : Bool) :
    LoopOk Try.prog lLed 69 [9, 8, 7] [0, 1, 2] [vI 0, vU 1, .one .nils] [vI n, vL cB g, vU (evI b)] [] (.exit 0) [vX, vX, .one (.sl rEntry (ldTo n g b (ldLen g)) (.own 0 (ldLen g)))] [.tok 46 (ldLen g)] := by
  refine LoopOk.coin 46 (vals' := [vI 0, vU 1, .one (.sl rEntry [] (.own 0 0))]) ⟨.refl, .refl, .nils_own rfl, trivial⟩ ?_
  refine LoopOk.rounds (S := Nat) EAll lLed_eq (by kernel_rfl) (fun k => [vI k, vU (ldTm n g b k), .one (.sl rEntry (ldTo n g b k) (.own 0 k))]) (fun k => [.tok 46 k]) (fun k => k ≤ ldLen g) (fun k => ldLen g - k) 0 (Nat.zero_le _) ?_ (fun _ _ => rfl)
  intro k hk
  have hll : ldLen g ≤ 40 := Nat.min_le_right _ _
  have hlg : ldLen g ≤ g.length := Nat.min_le_left _ _
  have hlen : (ldTo n g b k).length = k := ldTo_len
  have hev : evI b = 0 ∨ evI b = 1 := by cases b <;> decide
  by_cases hlt : k < ldLen g
  · have hk1 : (k : Int) < g.length := by omega
    have hk2 : (k : Int) < 40 := by omega
    have hin : inB (k : Int) g.length = true := inB_of (by omega) hk1
    have hgk := hg _ (List.mem_of_getElem? (getD_get (d := (0 : Int)) (l := g) (k := k) (by omega)))
    have hb0 := ldTm_lt (n := n) (g := g) (ev := b) k
    have hp0 := ldTm_pos (n := n) (g := g) (ev := b) (fun x hx => (hg x hx).1) k
    have hb1 : ldTm n g b k ≤ 1 + 4 * k + 3 := by split at hb0 <;> omega
    have m2 : Int.tmod (g.getD k 0) 2 = g.getD k 0 % 2 := Int.tmod_eq_emod_of_nonneg hgk.1
    have m3 : Int.tmod (g.getD k 0) 3 = g.getD k 0 % 3 := Int.tmod_eq_emod_of_nonneg hgk.1
    have w1 : IntKind.i64.wrap ((k : Int) + 1) = (k : Int) + 1 := wrap64 (by omega) (by omega)
    have w2 : IntKind.u64.wrap ((k : Int) + 1) = (k : Int) + 1 := wrapU64 (by omega) (by omega)
    have w3 : IntKind.u64.wrap (k : Int) = k := wrapU64 (by omega) (by omega)
    have wp : IntKind.u64.wrap (1 + evI b) = 1 + evI b := wrapU64 (by omega) (by omega)
    have r2 : 0 ≤ g.getD k 0 % 2 ∧ g.getD k 0 % 2 < 2 := ⟨Int.emod_nonneg _ (by decide), Int.emod_lt_of_pos _ (by decide)⟩
    have r3 : 0 ≤ g.getD k 0 % 3 ∧ g.getD k 0 % 3 < 3 := ⟨Int.emod_nonneg _ (by decide), Int.emod_lt_of_pos _ (by decide)⟩
    have sz1 : Nat.ble ((k + 1) * 264) 140737488355328 = true := by rw [Nat.ble_eq]; omega
    have sz2 : Nat.ble (k + 1) maxLen = true := by rw [Nat.ble_eq]; unfold maxLen; omega
    have d1 : decide ((k : Int) < ((g.length : Nat) : Int)) = true := decide_eq_true hk1
    have d2 : decide ((k : Int) < 40) = true := decide_eq_true hk2
    have hbk : Nat.beq k k = true := by simp
    have hw : vI (IntKind.i64.wrap ((k : Int) + 1)) = vI ((k + 1 : Nat) : Int) := by rw [w1]; rfl
    have up2 : IntKind.u64.wrap (ldTm n g b k + IntKind.u64.wrap (2 * IntKind.u64.wrap (Int.tmod (g.getD k 0) 2))) = ldTm n g b k + 2 * (g.getD k 0 % 2) := by
      rw [m2, wrapU64 (n := g.getD k 0 % 2) (by omega) (by omega), wrapU64 (n := 2 * (g.getD k 0 % 2)) (by omega) (by omega), wrapU64 (by omega) (by omega)]
    have up3 : ∀ t : Int, 0 ≤ t → t < 1000 → IntKind.u64.wrap (t + IntKind.u64.wrap (2 * IntKind.u64.wrap (Int.tmod (g.getD k 0) 3))) = t + 2 * (g.getD k 0 % 3) := fun t h1 h2 => by
      rw [m3, wrapU64 (n := g.getD k 0 % 3) (by omega) (by omega), wrapU64 (n := 2 * (g.getD k 0 % 3)) (by omega) (by omega), wrapU64 (by omega) (by omega)]
    have upn : IntKind.u64.wrap (IntKind.u64.wrap (ldTm n g b k + 2) + evI b) = ldTm n g b k + 2 + evI b := by
      rw [wrapU64 (n := ldTm n g b k + 2) (by omega) (by omega), wrapU64 (by omega) (by omega)]
    by_cases hkn : k < n
    · have d3 : decide ((k : Int) < (n : Int)) = true := decide_eq_true (by omega)
      have d4 : decide ((k : Int) ≥ (n : Int)) = false := decide_eq_false (by omega)
      have et : ldTm n g b (k + 1) = ldTm n g b k + 2 * (g.getD k 0 % 2) := by simp only [ldTm]; rw [if_pos hkn]
      refine OneRound.goT [true, true, true, true, true, false, false] (vs := [vI (IntKind.i64.wrap ((k : Int) + 1)), vU (IntKind.u64.wrap (ldTm n g b k + IntKind.u64.wrap (2 * IntKind.u64.wrap (Int.tmod (g.getD k 0) 2)))), .one (.sl rEntry (ldTo n g b k ++ [rawE (IntKind.u64.wrap (IntKind.i64.wrap (k + 1))) (IntKind.u64.wrap (ldTm n g b k + IntKind.u64.wrap (2 * IntKind.u64.wrap (Int.tmod (g.getD k 0) 2)))) (IntKind.u64.wrap k) 0]) (.own 0 (k + 1)))]) (hp' := [.tok 46 (k + 1)])
        (cs := [Nat.beq k k, Nat.ble (((ldTo n g b k).length + 1) * 264) 140737488355328 && Nat.ble ((ldTo n g b k).length + 1) maxLen, false == false, decide ((k : Int) ≥ (n : Int)) == false, decide ((2 : Int) ≠ 0), inB (k : Int) g.length, decide ((k : Int) < (n : Int)) == true, decide ((k : Int) < 40) == true, decide ((k : Int) < ((g.length : Nat) : Int)) == true, decide ((k : Int) < ((g.length : Nat) : Int)) == true, decide ((k : Int) < ((g.length : Nat) : Int)) == true])
        (fun rest => by kernel_rfl) (allI (by simp only [hbk, hlen, sz1, sz2, hin, d1, d2, d3, d4]; rfl)) (k + 1) (by omega) (by omega) ⟨.of_eq hw, .of_eq ?_, .of_eq ?_, trivial⟩ rfl (by simp [idsLt, idsV, idsC, idsB])
      · rw [up2, et]
      · rw [up2, w1, w2, w3, ldTo_succ, rawE_ld (n := n) (g := g) (ev := b) (k := k) rfl et.symm rfl (by rw [if_pos hkn])]
    · have d3 : decide ((k : Int) < (n : Int)) = false := decide_eq_false (by omega)
      have d4 : decide ((k : Int) ≥ (n : Int)) = true := decide_eq_true (by omega)
      by_cases hkn' : k = n
      · have d5 : ((k : Int) == (n : Int)) = true := beq_iff_eq.2 (by omega)
        have et : ldTm n g b (k + 1) = ldTm n g b k + 2 + evI b + 2 * (g.getD k 0 % 3) := by simp only [ldTm]; rw [if_neg hkn, if_pos hkn']
        have upn2 := up3 (ldTm n g b k + 2 + evI b) (by omega) (by omega)
        refine OneRound.goT [true, true, true, true, false, true, true, false] (vs := [vI (IntKind.i64.wrap ((k : Int) + 1)), vU (IntKind.u64.wrap (IntKind.u64.wrap (IntKind.u64.wrap (ldTm n g b k + 2) + evI b) + IntKind.u64.wrap (2 * IntKind.u64.wrap (Int.tmod (g.getD k 0) 3)))), .one (.sl rEntry (ldTo n g b k ++ [rawE (IntKind.u64.wrap (IntKind.i64.wrap (k + 1))) (IntKind.u64.wrap (IntKind.u64.wrap (IntKind.u64.wrap (ldTm n g b k + 2) + evI b) + IntKind.u64.wrap (2 * IntKind.u64.wrap (Int.tmod (g.getD k 0) 3)))) (IntKind.u64.wrap k) (IntKind.u64.wrap (1 + evI b))]) (.own 0 (k + 1)))]) (hp' := [.tok 46 (k + 1)])
          (cs := [Nat.beq k k, Nat.ble (((ldTo n g b k).length + 1) * 264) 140737488355328 && Nat.ble ((ldTo n g b k).length + 1) maxLen, false == false, decide ((k : Int) ≥ (n : Int)) == true, decide ((3 : Int) ≠ 0), inB (k : Int) g.length, ((k : Int) == (n : Int)) == true, decide ((k : Int) < (n : Int)) == false, decide ((k : Int) < 40) == true, decide ((k : Int) < ((g.length : Nat) : Int)) == true, decide ((k : Int) < ((g.length : Nat) : Int)) == true, decide ((k : Int) < ((g.length : Nat) : Int)) == true])
          (fun rest => by kernel_rfl) (allI (by simp only [hbk, hlen, sz1, sz2, hin, d1, d2, d3, d4, d5]; rfl)) (k + 1) (by omega) (by omega) ⟨.of_eq hw, .of_eq ?_, .of_eq ?_, trivial⟩ rfl (by simp [idsLt, idsV, idsC, idsB])
        · rw [upn, upn2, et]
        · rw [upn, upn2, w1, w2, w3, wp, ldTo_succ, rawE_ld (n := n) (g := g) (ev := b) (k := k) rfl et.symm rfl (by rw [if_neg hkn])]
      · have d5 : ((k : Int) == (n : Int)) = false := beq_eq_false_iff_ne.2 (by omega)
        have et : ldTm n g b (k + 1) = ldTm n g b k + 2 * (g.getD k 0 % 3) := by simp only [ldTm]; rw [if_neg hkn, if_neg hkn']
        have upn2 := up3 (ldTm n g b k) (by omega) (by omega)
        refine OneRound.goT [true, true, true, true, false, false, true, false] (vs := [vI (IntKind.i64.wrap ((k : Int) + 1)), vU (IntKind.u64.wrap (ldTm n g b k + IntKind.u64.wrap (2 * IntKind.u64.wrap (Int.tmod (g.getD k 0) 3)))), .one (.sl rEntry (ldTo n g b k ++ [rawE (IntKind.u64.wrap (IntKind.i64.wrap (k + 1))) (IntKind.u64.wrap (ldTm n g b k + IntKind.u64.wrap (2 * IntKind.u64.wrap (Int.tmod (g.getD k 0) 3)))) (IntKind.u64.wrap k) (IntKind.u64.wrap (1 + evI b))]) (.own 0 (k + 1)))]) (hp' := [.tok 46 (k + 1)])
          (cs := [Nat.beq k k, Nat.ble (((ldTo n g b k).length + 1) * 264) 140737488355328 && Nat.ble ((ldTo n g b k).length + 1) maxLen, false == false, decide ((k : Int) ≥ (n : Int)) == true, decide ((3 : Int) ≠ 0), inB (k : Int) g.length, ((k : Int) == (n : Int)) == false, decide ((k : Int) < (n : Int)) == false, decide ((k : Int) < 40) == true, decide ((k : Int) < ((g.length : Nat) : Int)) == true, decide ((k : Int) < ((g.length : Nat) : Int)) == true, decide ((k : Int) < ((g.length : Nat) : Int)) == true])
          (fun rest => by kernel_rfl) (allI (by simp only [hbk, hlen, sz1, sz2, hin, d1, d2, d3, d4, d5]; rfl)) (k + 1) (by omega) (by omega) ⟨.of_eq hw, .of_eq ?_, .of_eq ?_, trivial⟩ rfl (by simp [idsLt, idsV, idsC, idsB])
        · rw [upn2, et]
        · rw [upn2, w1, w2, w3, wp, ldTo_succ, rawE_ld (n := n) (g := g) (ev := b) (k := k) rfl et.symm rfl (by rw [if_neg hkn])]
  · have hke : k = ldLen g := by omega
    by_cases hgl : g.length ≤ 40
    · have d1 : decide ((k : Int) < ((g.length : Nat) : Int)) = false := decide_eq_false (by have : ldLen g = g.length := Nat.min_eq_left hgl; omega)
      exact OneRound.stopT [false, false, false, false] (vs := [vI k, vU (ldTm n g b k), .one (.sl rEntry (ldTo n g b k) (.own 0 k))]) (hp' := [.tok 46 k]) (cs := [false == false, decide ((k : Int) < ((g.length : Nat) : Int)) == false, decide ((k : Int) < ((g.length : Nat) : Int)) == false, decide ((k : Int) < ((g.length : Nat) : Int)) == false])
        (fun rest => by kernel_rfl) (allI (by simp only [d1]; rfl)) (by simp) ⟨.unk, .unk, .of_eq (by rw [hke]), trivial⟩ (by rw [hke]) (by simp [idsLt, idsV, idsC, idsB])
    · have e40 : ldLen g = 40 := Nat.min_eq_right (by omega)
      have d1 : decide ((k : Int) < ((g.length : Nat) : Int)) = true := decide_eq_true (by omega)
      have d2 : decide ((k : Int) < 40) = false := decide_eq_false (by omega)
      exact OneRound.stopT [true, true, true, false] (vs := [vI k, vU (ldTm n g b k), .one (.sl rEntry (ldTo n g b k) (.own 0 k))]) (hp' := [.tok 46 k]) (cs := [decide ((k : Int) < 40) == false, decide ((k : Int) < ((g.length : Nat) : Int)) == true, decide ((k : Int) < ((g.length : Nat) : Int)) == true, decide ((k : Int) < ((g.length : Nat) : Int)) == true])
        (fun rest => by kernel_rfl) (allI (by simp only [d1, d2]; rfl)) (by simp) ⟨.unk, .unk, .of_eq (by rw [hke]), trivial⟩ (by rw [hke]) (by simp [idsLt, idsV, idsC, idsB])
end Go.Proofs.Ytmbekpoelkcceaa
