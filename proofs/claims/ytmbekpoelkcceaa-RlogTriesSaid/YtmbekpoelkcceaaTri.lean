/- RlogTries: its loop; no statement. -/
import Derived.Test.YtmbekpoelkcceaaHand
set_option linter.unusedVariables false
set_option linter.unusedSimpArgs false
namespace Go.Proofs.Ytmbekpoelkcceaa
open Go Go.Eng

noncomputable def lTri : Code := (theLoop Try.prog 4 12).getD .skip
theorem lTri_eq : theLoop Try.prog 4 12 = some lTri := by kernel_rfl

structure TriOk (a x : List rEntry.den) : Prop where
  ex : ∃ (n : Nat) (g : List Int) (L m : Nat), (∀ x ∈ g, (0 : Int) ≤ x) ∧ L ≤ 40 ∧ m ≤ L ∧ a = ldTo n g false L ∧ x = ldTo n g true m

/-- A follower that does not take what stands behind a place tells an elder one. -/
theorem last_lt {n : Nat} {g : List Int} {m t : Nat} {r : List rEntry.den} (hm : m ≤ 40) (ht : t ≤ 40) (t0 : 0 < t) (c : Int) (h : (folW t c r && hasT (ldTo n g true m) t c) = false) :
    ∃ p : Nat, (putR t c r (ldTo n g true m)).1 = p ∧ p < t := by
  unfold putR
  rw [h]
  show ∃ p : Nat, lastW t (ldTo n g true m) = p ∧ p < t
  unfold lastW
  rw [ldTo_len]
  cases m with
  | zero =>
    have d1 : decide (((0 : Nat) : Int) > 0) = false := rfl
    have d2 : decide ((t : Int) > 0) = true := decide_eq_true (by omega)
    rw [d1, d2]
    exact ⟨0, rfl, t0⟩
  | succ m =>
    have d1 : decide (((m + 1 : Nat) : Int) > 0) = true := decide_eq_true (by omega)
    have w : IntKind.i64.wrap (((m + 1 : Nat) : Int) - 1) = ((m : Nat) : Int) := by rw [wrap64 (by omega) (by omega)]; omega
    have e : ((ldTo n g true (m + 1)).getD m rEntry.dflt).1 = (m : Int) + 1 := by rw [ldTo_getD (by omega)]; rfl
    rw [d1, w, Int.toNat_natCast, e]
    simp only [cond_true]
    by_cases h1 : (t : Int) > (m : Int) + 1
    · rw [decide_eq_true h1]
      exact ⟨m + 1, rfl, by omega⟩
    · rw [decide_eq_false h1]
      have d2 : decide ((t : Int) ≤ 0) = false := decide_eq_false (by omega)
      rw [d2]
      refine ⟨t - 1, ?_, by omega⟩
      show IntKind.u64.wrap ((t : Int) - 1) = _
      rw [wrapU64 (by omega) (by omega)]
      omega

theorem tri_loop (a x : List rEntry.den) (H : TriOk a x) :
    LoopOk Try.prog lTri 97 [14, 13, 6] [8, 11] [vI 0, vU a.length, vB false] [vL rEntry a, .one (.ptr 1 0)] [baB, logB x .shared] .ret [vX, vX, vB true] [baB, logB a .shared] := by
  obtain ⟨n, g, L, m, hg, hL, hmL, ea, ex⟩ := H
  have el : a.length = L := by rw [ea, ldTo_len]
  have xl : x.length ≤ 1000 := by rw [ex, ldTo_len]; omega
  refine LoopOk.rounds (S := Nat × Nat) ESlc lTri_eq (by kernel_rfl) (fun s => [vI s.1, vU s.2, vB false]) (fun _ => [baB, logB x .shared]) (fun s => s.1 ≤ L ∧ s.2 ≤ L - s.1) (fun s => L + 1 - s.1) (0, a.length) ⟨Nat.zero_le _, by rw [el]; exact Nat.le_refl _⟩ ?_ (fun _ _ => rfl)
  intro ⟨i, t⟩ ⟨hi, ht⟩
  simp only at hi ht
  have al : ((a.length : Nat) : Int) = L := by omega
  have w1 : IntKind.i64.wrap ((L : Int) + 2) = (L : Int) + 2 := wrap64 (by omega) (by omega)
  have d0 : decide ((i : Int) < (L : Int) + 2) = true := decide_eq_true (by omega)
  have w3 : IntKind.u64.wrap ((L : Nat) : Int) = L := wrapU64 (by omega) (by omega)
  have k1 : ((t : Nat) : Int).toNat = t := Int.toNat_natCast _
  have k2 : ((L : Nat) : Int).toNat = L := Int.toNat_natCast _
  have k3 : List.take L a = a := by rw [← el, List.take_length]
  have n3 : decide ((0 : Int) ≤ (t : Int) ∧ (t : Int) ≤ (L : Int) ∧ (L : Int) ≤ (L : Int)) = true := decide_eq_true (by omega)
  have n5 : decide ((0 : Int) = 0 ∧ (0 : Int) = 0 ∧ (0 : Int) = 0 ∧ (0 : Int) = 0 ∧ true = true) = true := decide_eq_true ⟨rfl, rfl, rfl, rfl, rfl⟩
  have hok : ∀ c, c = tmAt n g false t → ok ((0 ≤ ((t : Nat) : Int) ∧ ((t : Nat) : Int) ≤ 2000) ∧ x.length ≤ 1000 ∧ ((folW t c (a.drop t) && hasT x t c) = true → ∃ j, PutOk j x (a.drop t))) = true := fun c ec => ok_of ⟨by omega, xl, fun h => by
    subst ec
    rw [Bool.and_eq_true] at h
    rw [ex] at h ⊢
    rw [ea]
    exact ⟨_, putOk_ld (by omega) hL (by omega) (hasT_ld h.2).1⟩⟩
  obtain ⟨q1, q2, ev2, m2, q3, q4, q5, q6⟩ := putR_ld (n := n) (g := g) hg (ev := true) (ev' := false) (m := m) (fr := t) (to := L) hL (by omega)
  rw [← ex, ← ea] at q1 q2 q3 q4
  rw [← ex] at q6
  have hfw : folW t (tmAt n g false t) (a.drop t) = true := by rw [ea]; exact folW_ld hg (by omega) (L - t) t (by omega)
  cases hh : hasT x t (tmAt n g false t) with
  | true =>
    rw [hh] at q1
    have q2 := q2 hh
    obtain ⟨q4, q4'⟩ := q4 hh
    have e2 : m2 = L := by omega
    have q3 : putX t (tmAt n g false t) (a.drop t) x = a := by
      rw [q3, e2]; exact q4'
    have q2b : ((putR t (tmAt n g false t) (a.drop t) x).fst == ((L : Nat) : Int)) = true := beq_iff_eq.2 q2
    have hs : slcX 1 ((L : Nat) : Int) a = a := by
      unfold slcX
      rw [al]
      by_cases hz : L = 0
      · rw [if_pos (by omega)]
        have : a.length = 0 := by omega
        exact (List.eq_nil_of_length_eq_zero this).symm
      · rw [if_neg (by omega)]
        show (a.drop 0).take _ = _
        rw [List.drop_zero, k2, k3]
    have hso : ok (slcX 1 ((L : Nat) : Int) a = a) = true := ok_of hs
    have r4 : a.all entFits = true := by rw [ea]; exact ldTo_fits
    have r5 : decide (((0 : Int) ≤ 1 ∧ (1 : Int) ≤ 2000) ∧ (0 ≤ ((L : Nat) : Int) ∧ ((L : Nat) : Int) ≤ 2000) ∧ a.length ≤ 1000) = true := decide_eq_true ⟨⟨by omega, by omega⟩, ⟨by omega, by omega⟩, by omega⟩
    by_cases hf : t = 0
    · have tm : tmAt n g false t = 0 := if_pos hf
      have d1 : decide (((t : Nat) : Int) > 0) = false := decide_eq_false (by omega)
      rw [tm] at q1 q2b q3 hok
      have hok := hok 0 rfl
      refine OneRound.stopT [true, false, true, true, true, true, true, true, true, true] (vs := [vI i, vU t, vB true]) (hp' := [baB, logB (putX t 0 (List.drop ((t : Nat) : Int).toNat (List.take (((a.length : Nat) : Int)).toNat a)) x) .shared]) (cs := [(((putR (((t : Nat) : Int)) 0 (List.drop t (List.take (((a.length : Nat) : Int)).toNat a)) x).fst == IntKind.u64.wrap ((a.length : Nat) : Int)) == true), (ok (slcX 1 (((a.length : Nat) : Int)) (putX (((t : Nat) : Int)) 0 (List.drop t (List.take (((a.length : Nat) : Int)).toNat a)) x) = a)), (((putR (((t : Nat) : Int)) 0 (List.drop t (List.take (((a.length : Nat) : Int)).toNat a)) x).fst == IntKind.u64.wrap ((a.length : Nat) : Int)) == true), (((putR (((t : Nat) : Int)) 0 (List.drop t (List.take (((a.length : Nat) : Int)).toNat a)) x).fst == IntKind.u64.wrap ((a.length : Nat) : Int)) == true), (decide ((0 : Int) = 0 ∧ (0 : Int) = 0 ∧ (0 : Int) = 0 ∧ (0 : Int) = 0 ∧ true = true)), (decide (((0 : Int) ≤ 1 ∧ (1 : Int) ≤ 2000) ∧ (0 ≤ ((a.length : Nat) : Int) ∧ ((a.length : Nat) : Int) ≤ 2000) ∧ (putX (((t : Nat) : Int)) 0 (List.drop t (List.take (((a.length : Nat) : Int)).toNat a)) x).length ≤ 1000)), ((putX (((t : Nat) : Int)) 0 (List.drop t (List.take (((a.length : Nat) : Int)).toNat a)) x).all entFits), (((putR (((t : Nat) : Int)) 0 (List.drop t (List.take (((a.length : Nat) : Int)).toNat a)) x).fst == IntKind.u64.wrap ((a.length : Nat) : Int)) == true), (((putR (((t : Nat) : Int)) 0 (List.drop t (List.take (((a.length : Nat) : Int)).toNat a)) x).fst == IntKind.u64.wrap ((a.length : Nat) : Int)) == true), (((putR (((t : Nat) : Int)) 0 (List.drop t (List.take (((a.length : Nat) : Int)).toNat a)) x).fst == IntKind.u64.wrap ((a.length : Nat) : Int)) == true), (((putR (((t : Nat) : Int)) 0 (List.drop t (List.take (((a.length : Nat) : Int)).toNat a)) x).fst == IntKind.u64.wrap ((a.length : Nat) : Int)) == true), ((putR (((t : Nat) : Int)) 0 (List.drop t (List.take (((a.length : Nat) : Int)).toNat a)) x).snd.snd == true), (decide ((0 : Int) = 0 ∧ (0 : Int) = 0 ∧ (0 : Int) = 0 ∧ (0 : Int) = 0 ∧ true = true)), (ok ((0 ≤ ((t : Nat) : Int) ∧ ((t : Nat) : Int) ≤ 2000) ∧ x.length ≤ 1000 ∧ ((folW (((t : Nat) : Int)) 0 (List.drop t (List.take (((a.length : Nat) : Int)).toNat a)) && hasT x (((t : Nat) : Int)) 0) = true → ∃ j, PutOk j x (List.drop t (List.take (((a.length : Nat) : Int)).toNat a))))), (decide (0 ≤ ((t : Nat) : Int) ∧ ((t : Nat) : Int) ≤ ((a.length : Nat) : Int) ∧ ((a.length : Nat) : Int) ≤ ((a.length : Nat) : Int))), (decide (((t : Nat) : Int) > 0) == false), (decide (((i : Nat) : Int) < IntKind.i64.wrap (((a.length : Nat) : Int) + 2)) == true)]) (fun rest => by kernel_rfl)
        (allI (by simp only [al, w1, d0, w3, k1, k2, k3, n3, ↓n5, d1, q1, q2b, q3, hok, hso, r4, ↓r5]; rfl)) (by simp) ⟨.unk, .unk, .refl, trivial⟩ (by rw [al, k1, k2, k3, q3]) (by simp [idsLt, idsV, idsC, idsB])
    · have tm : tmAt n g false t = ldTm n g false t := if_neg hf
      have d1 : decide (((t : Nat) : Int) > 0) = true := decide_eq_true (by omega)
      have w9 : IntKind.u64.wrap (((t : Nat) : Int) - 1) = ((t : Nat) : Int) - 1 := wrapU64 (by omega) (by omega)
      have d2 : inB (((t : Nat) : Int) - 1) a.length = true := inB_of (by omega) (by omega)
      have k5 : (((t : Nat) : Int) - 1).toNat = t - 1 := by omega
      have k6 : (a.getD (t - 1) rEntry.dflt).snd.fst = tmAt n g false t := by
        rw [ea, ldTo_getD (by omega), tm]
        show ldTm n g false (t - 1 + 1) = _
        rw [Nat.sub_add_cancel (by omega)]
      have hok := hok _ rfl
      refine OneRound.stopT [true, true, true, true, true, true, true, true, true, true] (vs := [vI i, vU t, vB true]) (hp' := [baB, logB (putX t (a.getD (IntKind.u64.wrap (((t : Nat) : Int) - 1)).toNat rEntry.dflt).snd.fst (List.drop ((t : Nat) : Int).toNat (List.take (((a.length : Nat) : Int)).toNat a)) x) .shared]) (cs := [(((putR (((t : Nat) : Int)) (a.getD (IntKind.u64.wrap (((t : Nat) : Int) - 1)).toNat rEntry.dflt).snd.fst (List.drop t (List.take (((a.length : Nat) : Int)).toNat a)) x).fst == IntKind.u64.wrap ((a.length : Nat) : Int)) == true), (ok (slcX 1 (((a.length : Nat) : Int)) (putX (((t : Nat) : Int)) (a.getD (IntKind.u64.wrap (((t : Nat) : Int) - 1)).toNat rEntry.dflt).snd.fst (List.drop t (List.take (((a.length : Nat) : Int)).toNat a)) x) = a)), (((putR (((t : Nat) : Int)) (a.getD (IntKind.u64.wrap (((t : Nat) : Int) - 1)).toNat rEntry.dflt).snd.fst (List.drop t (List.take (((a.length : Nat) : Int)).toNat a)) x).fst == IntKind.u64.wrap ((a.length : Nat) : Int)) == true), (((putR (((t : Nat) : Int)) (a.getD (IntKind.u64.wrap (((t : Nat) : Int) - 1)).toNat rEntry.dflt).snd.fst (List.drop t (List.take (((a.length : Nat) : Int)).toNat a)) x).fst == IntKind.u64.wrap ((a.length : Nat) : Int)) == true), (decide ((0 : Int) = 0 ∧ (0 : Int) = 0 ∧ (0 : Int) = 0 ∧ (0 : Int) = 0 ∧ true = true)), (decide (((0 : Int) ≤ 1 ∧ (1 : Int) ≤ 2000) ∧ (0 ≤ ((a.length : Nat) : Int) ∧ ((a.length : Nat) : Int) ≤ 2000) ∧ (putX (((t : Nat) : Int)) (a.getD (IntKind.u64.wrap (((t : Nat) : Int) - 1)).toNat rEntry.dflt).snd.fst (List.drop t (List.take (((a.length : Nat) : Int)).toNat a)) x).length ≤ 1000)), ((putX (((t : Nat) : Int)) (a.getD (IntKind.u64.wrap (((t : Nat) : Int) - 1)).toNat rEntry.dflt).snd.fst (List.drop t (List.take (((a.length : Nat) : Int)).toNat a)) x).all entFits), (((putR (((t : Nat) : Int)) (a.getD (IntKind.u64.wrap (((t : Nat) : Int) - 1)).toNat rEntry.dflt).snd.fst (List.drop t (List.take (((a.length : Nat) : Int)).toNat a)) x).fst == IntKind.u64.wrap ((a.length : Nat) : Int)) == true), (((putR (((t : Nat) : Int)) (a.getD (IntKind.u64.wrap (((t : Nat) : Int) - 1)).toNat rEntry.dflt).snd.fst (List.drop t (List.take (((a.length : Nat) : Int)).toNat a)) x).fst == IntKind.u64.wrap ((a.length : Nat) : Int)) == true), (((putR (((t : Nat) : Int)) (a.getD (IntKind.u64.wrap (((t : Nat) : Int) - 1)).toNat rEntry.dflt).snd.fst (List.drop t (List.take (((a.length : Nat) : Int)).toNat a)) x).fst == IntKind.u64.wrap ((a.length : Nat) : Int)) == true), (((putR (((t : Nat) : Int)) (a.getD (IntKind.u64.wrap (((t : Nat) : Int) - 1)).toNat rEntry.dflt).snd.fst (List.drop t (List.take (((a.length : Nat) : Int)).toNat a)) x).fst == IntKind.u64.wrap ((a.length : Nat) : Int)) == true), ((putR (((t : Nat) : Int)) (a.getD (IntKind.u64.wrap (((t : Nat) : Int) - 1)).toNat rEntry.dflt).snd.fst (List.drop t (List.take (((a.length : Nat) : Int)).toNat a)) x).snd.snd == true), (decide ((0 : Int) = 0 ∧ (0 : Int) = 0 ∧ (0 : Int) = 0 ∧ (0 : Int) = 0 ∧ true = true)), (ok ((0 ≤ ((t : Nat) : Int) ∧ ((t : Nat) : Int) ≤ 2000) ∧ x.length ≤ 1000 ∧ ((folW (((t : Nat) : Int)) (a.getD (IntKind.u64.wrap (((t : Nat) : Int) - 1)).toNat rEntry.dflt).snd.fst (List.drop t (List.take (((a.length : Nat) : Int)).toNat a)) && hasT x (((t : Nat) : Int)) (a.getD (IntKind.u64.wrap (((t : Nat) : Int) - 1)).toNat rEntry.dflt).snd.fst) = true → ∃ j, PutOk j x (List.drop t (List.take (((a.length : Nat) : Int)).toNat a))))), (decide (0 ≤ ((t : Nat) : Int) ∧ ((t : Nat) : Int) ≤ ((a.length : Nat) : Int) ∧ ((a.length : Nat) : Int) ≤ ((a.length : Nat) : Int))), (inB (IntKind.u64.wrap (((t : Nat) : Int) - 1)) a.length), (decide (((t : Nat) : Int) > 0) == true), (decide (((i : Nat) : Int) < IntKind.i64.wrap (((a.length : Nat) : Int) + 2)) == true)]) (fun rest => by kernel_rfl)
        (allI (by simp only [al, w1, d0, w3, w9, k1, k2, k3, k5, k6, n3, ↓n5, d1, d2, q1, q2b, q3, hok, hso, r4, ↓r5]; rfl)) (by simp) ⟨.unk, .unk, .refl, trivial⟩ (by rw [al, k1, k2, k3, w9, k5, k6, q3]) (by simp [idsLt, idsV, idsC, idsB])
  | false =>
    rw [hh] at q1
    have t0 : 0 < t := by
      rcases Nat.eq_zero_or_pos t with h0 | h0
      · subst h0
        have : hasT x ((0 : Nat) : Int) (tmAt n g false 0) = true := hasT_zero x
        rw [this] at hh; cases hh
      · exact h0
    have tm : tmAt n g false t = ldTm n g false t := if_neg (by omega)
    have d1 : decide (((t : Nat) : Int) > 0) = true := decide_eq_true (by omega)
    have w9 : IntKind.u64.wrap (((t : Nat) : Int) - 1) = ((t : Nat) : Int) - 1 := wrapU64 (by omega) (by omega)
    have d2 : inB (((t : Nat) : Int) - 1) a.length = true := inB_of (by omega) (by omega)
    have k5 : (((t : Nat) : Int) - 1).toNat = t - 1 := by omega
    have k6 : (a.getD (t - 1) rEntry.dflt).snd.fst = tmAt n g false t := by
      rw [ea, ldTo_getD (by omega), tm]
      show ldTm n g false (t - 1 + 1) = _
      rw [Nat.sub_add_cancel (by omega)]
    have hok := hok _ rfl
    obtain ⟨p, p1, p2⟩ := last_lt (n := n) (g := g) (m := m) (t := t) (r := a.drop t) (by omega) (by omega) t0 (tmAt n g false t) (by rw [← ex, hfw, hh]; rfl)
    rw [← ex] at p1
    have q7 : putX t (tmAt n g false t) (a.drop t) x = x := by
      simp only [putX, hfw, hh]; rfl
    have d3 : decide (((p : Nat) : Int) ≥ ((t : Nat) : Int)) = false := decide_eq_false (by omega)
    have hw : vI (IntKind.i64.wrap ((i : Int) + 1)) = vI ((i + 1 : Nat) : Int) := by rw [wrap64 (by omega) (by omega)]; rfl
    refine OneRound.goT [true, true, false, false] (vs := [vI (IntKind.i64.wrap (i + 1)), vU (putR t (a.getD (IntKind.u64.wrap (((t : Nat) : Int) - 1)).toNat rEntry.dflt).snd.fst (List.drop ((t : Nat) : Int).toNat (List.take (((a.length : Nat) : Int)).toNat a)) x).1, vB false]) (hp' := [baB, logB (putX t (a.getD (IntKind.u64.wrap (((t : Nat) : Int) - 1)).toNat rEntry.dflt).snd.fst (List.drop ((t : Nat) : Int).toNat (List.take (((a.length : Nat) : Int)).toNat a)) x) .shared]) (cs := [(decide ((putR (((t : Nat) : Int)) (a.getD (IntKind.u64.wrap (((t : Nat) : Int) - 1)).toNat rEntry.dflt).snd.fst (List.drop t (List.take (((a.length : Nat) : Int)).toNat a)) x).fst ≥ ((t : Nat) : Int)) == false), ((putR (((t : Nat) : Int)) (a.getD (IntKind.u64.wrap (((t : Nat) : Int) - 1)).toNat rEntry.dflt).snd.fst (List.drop t (List.take (((a.length : Nat) : Int)).toNat a)) x).snd.snd == false), (decide ((0 : Int) = 0 ∧ (0 : Int) = 0 ∧ (0 : Int) = 0 ∧ (0 : Int) = 0 ∧ true = true)), (ok ((0 ≤ ((t : Nat) : Int) ∧ ((t : Nat) : Int) ≤ 2000) ∧ x.length ≤ 1000 ∧ ((folW (((t : Nat) : Int)) (a.getD (IntKind.u64.wrap (((t : Nat) : Int) - 1)).toNat rEntry.dflt).snd.fst (List.drop t (List.take (((a.length : Nat) : Int)).toNat a)) && hasT x (((t : Nat) : Int)) (a.getD (IntKind.u64.wrap (((t : Nat) : Int) - 1)).toNat rEntry.dflt).snd.fst) = true → ∃ j, PutOk j x (List.drop t (List.take (((a.length : Nat) : Int)).toNat a))))), (decide (0 ≤ ((t : Nat) : Int) ∧ ((t : Nat) : Int) ≤ ((a.length : Nat) : Int) ∧ ((a.length : Nat) : Int) ≤ ((a.length : Nat) : Int))), (inB (IntKind.u64.wrap (((t : Nat) : Int) - 1)) a.length), (decide (((t : Nat) : Int) > 0) == true), (decide (((i : Nat) : Int) < IntKind.i64.wrap (((a.length : Nat) : Int) + 2)) == true)]) (fun rest => by kernel_rfl)
      (allI (by simp only [al, w1, d0, w3, w9, k1, k2, k3, k5, k6, n3, ↓n5, d1, d2, d3, q1, p1, hok]; rfl)) (i + 1, p) ⟨by omega, by omega⟩ (by show L + 1 - (i + 1) < L + 1 - i; omega) ⟨.of_eq hw, .of_eq (by rw [al, k1, k2, k3, w9, k5, k6, p1]), .refl, trivial⟩ (by rw [al, k1, k2, k3, w9, k5, k6, q7]) (by simp [idsLt, idsV, idsC, idsB])

noncomputable def ETri : Env Try.prog := ESlc.addL 4 12 lTri_eq 97 [14, 13, 6] [8, 11] (by kernel_rfl)
  (fun vals rov hp os => match vals, rov, hp with
    | [.one (.int .i64 z), .one (.int .u64 t), .one (.bool bo)], [.one (.sl r1 l1 .shared), .one (.ptr 1 0)], [.cells [.int .u64 b0, .int .u64 b1, .nils], .cells [.int .u64 b2, .int .u64 b3, .sl (.int .i64) [] .shared, .sl r4 x4 .shared, .bool mk]] =>
      match asE r1 l1, asE r4 x4 with
      | some a, some x => retC (.ret, [vX, vX, vB true], [baB, logB a .shared]) [decide (z = 0 ∧ b0 = 0 ∧ b1 = 0 ∧ b2 = 0 ∧ b3 = 0 ∧ mk = true ∧ bo = false), ok (TriOk a x ∧ t = a.length)] os
      | _, _ => none
    | _, _, _ => none)
  (fun vals rov hp os e outs hp' cs os' h hc => by
    split at h
    · rename_i z t bo r1 l1 b0 b1 b2 b3 r4 x4 mk
      split at h
      · rename_i a x e1 e4
        obtain ⟨rfl, e1⟩ := asE_eq e1
        obtain ⟨rfl, e4⟩ := asE_eq e4
        subst e1; subst e4
        simp only [retC, Option.some.injEq, Prod.mk.injEq] at h
        obtain ⟨⟨rfl, rfl, rfl⟩, rfl, rfl⟩ := h
        obtain ⟨h1, hc⟩ := of_allTc hc
        obtain ⟨h2, _⟩ := of_allTc hc
        obtain ⟨rfl, rfl, rfl, rfl, rfl, rfl, rfl⟩ := of_decide_eq_true h1
        obtain ⟨H, et⟩ := of_ok h2
        subst et
        exact tri_loop _ _ H
      · cases h
    · cases h)
end Go.Proofs.Ytmbekpoelkcceaa
