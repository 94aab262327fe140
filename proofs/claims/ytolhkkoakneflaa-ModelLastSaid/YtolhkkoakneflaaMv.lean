/- ModelLast: behind the first loop; the second loop; the law; no statement. -/
import Derived.Test.YtolhkkoakneflaaMu
set_option linter.unusedVariables false
set_option linter.unusedSimpArgs false
namespace Go.Proofs.Ytolhkkoakneflaa
open Go Go.Eng

theorem step_inv {l : List rAct.den} (hl : ∀ x ∈ l, WF rAct x) {i : Nat} {M : MapT} {C : Nat → Int} {V : Nat → ByteArray} {W : Nat → Int} (hlt : i < l.length) (h80 : i < 80) (I : MInv M C W V ((i : Nat) : Int)) :
    MInv (lstep l (i, M, C, V, W)).2.1 (lstep l (i, M, C, V, W)).2.2.1 (lstep l (i, M, C, V, W)).2.2.2.2 (lstep l (i, M, C, V, W)).2.2.2.1 ((i + 1 : Nat) : Int) := by
  obtain ⟨k, r, c, hk, hr, hc, ek, er, ea, hrow, hcol⟩ := act_at hl hlt
  have q4 : inB (rI l i) 4 = true := by rw [er]; exact inB_of (by omega) (by omega)
  have q5 : inB (aI l i) 12 = true := by rw [ea]; exact inB_of (by omega) (by omega)
  have hp0 := I.pos r hr
  have eC0 : pkI C (rI l i) 0 3 = C r := by rw [er]; exact pkI_eq C r 3 0 (by omega) (by omega)
  have eW0 : pkI W (aI l i) 0 11 = W (3 * r + c) := by rw [ea]; exact pkI_eq W _ 11 0 (by omega) (by omega)
  have eV0 : pkS V (aI l i) 0 11 = V (3 * r + c) := by rw [ea]; exact pkS_eq V _ 11 0 (by omega) (by omega)
  have ecx : cX C l i = C r + 1 := by unfold cX; rw [eC0, wrapU64 (by omega) (by omega)]
  have eSC : setI C (rI l i) (cX C l i) = fset C r (C r + 1) := by rw [ecx, er, setI_eq]
  have eX : dX C l i = C r + 1 := by unfold dX; rw [eSC, er, pkI_eq _ r 3 0 (by omega) (by omega), fset_same]
  have eSW : setI W (aI l i) (dX C l i) = fset W (3 * r + c) (C r + 1) := by rw [eX, ea, setI_eq]
  have eSW0 : setI (setI W (aI l i) (dX C l i)) (aI l i) 0 = fset W (3 * r + c) 0 := by rw [eSW, ea, setI_eq, fset_two]
  have eSV : setS V (aI l i) (pA l i).2.2.2.1 = fset V (3 * r + c) (pA l i).2.2.2.1 := by rw [ea, setS_eq]
  have wi : IntKind.i64.wrap (((i : Nat) : Int) + 1) = ((i + 1 : Nat) : Int) := by rw [wrap64 (by omega) (by omega)]; omega
  have hcast : ((i + 1 : Nat) : Int) = ((i : Nat) : Int) + 1 := by omega
  have f5 : ((pA l i).fst == 5) = false := beq_eq_false_iff_ne.2 (by show kV (aA l i) ≠ 5; rw [ek]; omega)
  have hkk : k = 0 ∨ k = 1 ∨ k = 2 ∨ k = 3 := by omega
  rcases hkk with rfl | rfl | rfl | rfl
  · have f0 : (pA l i).fst = 1 := ek
    have f1 : ((pA l i).fst == 1) = true := by rw [f0]; rfl
    have f2 : ((pA l i).fst == 2) = false := by rw [f0]; rfl
    have f3 : ((pA l i).fst == 3) = false := by rw [f0]; rfl
    have hp : pA l i = opP 1 r c (strOfNums [Int.tmod (aA l i).2.2.2.1 3]) false e0B := by
      have ek' : kV (aA l i) = 1 := ek
      unfold pA ofV opP; rw [hrow, hcol, ek']; rfl
    have hv : (pA l i).2.2.2.1 = strOfNums [Int.tmod (aA l i).2.2.2.1 3] := by rw [hp]; rfl
    obtain ⟨d1, d2⟩ := do_put I hr hc (by omega) (strOfNums [Int.tmod (aA l i).2.2.2.1 3]) (by rw [one_size]; omega)
    have hR : doR (pA l i) M = (0, false, e0B, e0B, C r + 1, ()) := by rw [hp]; exact d1
    have inv : MInv (doM (pA l i) M) (setI C (rI l i) (cX C l i)) (setI W (aI l i) (dX C l i)) (setS V (aI l i) (pA l i).2.2.2.1) ((i + 1 : Nat) : Int) := by rw [eSC, eSW, eSV, hv, hp, hcast]; exact d2
    rw [show lstep l (i, M, C, V, W) = (i + 1, doM (pA l i) M, (setI C (rI l i) (cX C l i)), (setS V (aI l i) (pA l i).2.2.2.1), (setI W (aI l i) (dX C l i))) from by simp only [lstep, chgV, f1, f2, f3, eW0, eV0, ← bl, f0]; rfl]; exact inv
  · have f0 : (pA l i).fst = 2 := ek
    have f1 : ((pA l i).fst == 1) = false := by rw [f0]; rfl
    have f2 : ((pA l i).fst == 2) = true := by rw [f0]; rfl
    have f3 : ((pA l i).fst == 3) = false := by rw [f0]; rfl
    have hp : pA l i = opP 2 r c e0B false e0B := by
      have ek' : kV (aA l i) = 2 := ek
      unfold pA ofV opP; rw [hrow, hcol, ek']; rfl
    obtain ⟨d1, d2⟩ := do_get I hr hc
    have inv : MInv (doM (pA l i) M) C W V ((i + 1 : Nat) : Int) := by rw [hp, d2, hcast]; exact I.more
    rw [← hp] at d1
    cases hh : (decide (W (3 * r + c) > 0) : Bool) with
    | true =>
      have hR : doR (pA l i) M = (0, true, e0B, V (3 * r + c), W (3 * r + c), ()) := by rw [d1, show decide (0 < W (3 * r + c)) = true from hh]; rfl
      rw [show lstep l (i, M, C, V, W) = (i + 1, doM (pA l i) M, C, V, W) from by simp only [lstep, chgV, f1, f2, f3, eW0, eV0, ← bl, f0]; rfl]; exact inv
    | false =>
      have hR : doR (pA l i) M = (0, false, e0B, e0B, 0, ()) := by rw [d1, show decide (0 < W (3 * r + c)) = false from hh]; rfl
      rw [show lstep l (i, M, C, V, W) = (i + 1, doM (pA l i) M, C, V, W) from by simp only [lstep, chgV, f1, f2, f3, eW0, eV0, ← bl, f0]; rfl]; exact inv
  · have f0 : (pA l i).fst = 3 := ek
    have f1 : ((pA l i).fst == 1) = false := by rw [f0]; rfl
    have f2 : ((pA l i).fst == 2) = false := by rw [f0]; rfl
    have f3 : ((pA l i).fst == 3) = true := by rw [f0]; rfl
    have hp : pA l i = opP 3 r c e0B false e0B := by
      have ek' : kV (aA l i) = 3 := ek
      unfold pA ofV opP; rw [hrow, hcol, ek']; rfl
    have hv : (pA l i).2.2.2.1 = e0B := by rw [hp]; rfl
    obtain ⟨d1, d2⟩ := do_del I hr hc (by omega)
    cases hh : (decide (W (3 * r + c) > 0) : Bool) with
    | true =>
      obtain ⟨g1, g2⟩ := d1 (of_decide_eq_true hh)
      have hR : doR (pA l i) M = (0, true, e0B, e0B, C r + 1, ()) := by rw [hp]; exact g1
      have inv : MInv (doM (pA l i) M) (setI C (rI l i) (cX C l i)) (setI (setI W (aI l i) (dX C l i)) (aI l i) 0) (setS V (aI l i) (pA l i).2.2.2.1) ((i + 1 : Nat) : Int) := by rw [eSC, eSW0, eSV, hv, hp, hcast]; exact g2
      rw [show lstep l (i, M, C, V, W) = (i + 1, doM (pA l i) M, (setI C (rI l i) (cX C l i)), (setS V (aI l i) (pA l i).2.2.2.1), (setI (setI W (aI l i) (dX C l i)) (aI l i) 0)) from by simp only [lstep, chgV, f1, f2, f3, eW0, eV0, ← bl, hh]; rfl]; exact inv
    | false =>
      obtain ⟨g1, g2⟩ := d2 (of_decide_eq_false hh)
      have hR : doR (pA l i) M = (0, false, e0B, e0B, 0, ()) := by rw [hp]; exact g1
      have inv : MInv (doM (pA l i) M) C W V ((i + 1 : Nat) : Int) := by rw [hp, g2, hcast]; exact I.more
      rw [show lstep l (i, M, C, V, W) = (i + 1, doM (pA l i) M, C, V, W) from by simp only [lstep, chgV, f1, f2, f3, eW0, eV0, ← bl, hh]; rfl]; exact inv
  · have f0 : (pA l i).fst = 4 := ek
    have f1 : ((pA l i).fst == 1) = false := by rw [f0]; rfl
    have f2 : ((pA l i).fst == 2) = false := by rw [f0]; rfl
    have f3 : ((pA l i).fst == 3) = false := by rw [f0]; rfl
    obtain ⟨x, h, y, hp, hx, hy, hxy⟩ : ∃ x h y, pA l i = opP 4 r c x h y ∧ x.size ≤ 1 ∧ y.size ≤ 1 ∧ (h = false → y = e0B) := by
      have ek' : kV (aA l i) = 4 := ek
      refine ⟨strOfNums [Int.tmod (aA l i).2.2.2.1 3], (aA l i).2.2.2.2.2.1, bif (aA l i).2.2.2.2.2.1 then strOfNums [Int.tmod (aA l i).2.2.2.2.1 3] else e0B, ?_, by rw [one_size]; omega, ?_, fun e => by rw [e]; rfl⟩
      · unfold pA ofV opP; rw [hrow, hcol, ek']; rfl
      · cases (aA l i).2.2.2.2.2.1
        · exact Nat.zero_le _
        · show (strOfNums _).size ≤ 1; rw [one_size]; omega
    have hv : (pA l i).2.2.2.1 = x := by rw [hp]; rfl
    have hh5 : (pA l i).snd.snd.snd.snd.fst = h := by rw [hp]; rfl
    have hh6 : (pA l i).snd.snd.snd.snd.snd.fst = y := by rw [hp]; rfl
    obtain ⟨d1, d2⟩ := do_chk I hr hc (by omega) x hx h y hy hxy
    have ok (ht : (decide (0 < W (3 * r + c)) == h && (!decide (0 < W (3 * r + c)) || (V (3 * r + c) == y))) = true) : doR (pA l i) M = (0, true, e0B, e0B, C r + 1, ()) ∧ MInv (doM (pA l i) M) (setI C (rI l i) (cX C l i)) (setI W (aI l i) (dX C l i)) (setS V (aI l i) (pA l i).2.2.2.1) ((i + 1 : Nat) : Int) := by
      obtain ⟨g1, g2⟩ := d1 ht
      exact ⟨by rw [hp]; exact g1, by rw [eSC, eSW, eSV, hv, hp, hcast]; exact g2⟩
    have no (ht : (decide (0 < W (3 * r + c)) == h && (!decide (0 < W (3 * r + c)) || (V (3 * r + c) == y))) = false) : doR (pA l i) M = (bif decide (0 < W (3 * r + c)) then (0, false, e0B, V (3 * r + c), W (3 * r + c), ()) else (0, false, e0B, e0B, 0, ())) ∧ MInv (doM (pA l i) M) C W V ((i + 1 : Nat) : Int) := by
      obtain ⟨g1, g2⟩ := d2 ht
      exact ⟨by rw [hp]; exact g1, by rw [hp, g2, hcast]; exact I.more⟩
    cases hh : (decide (W (3 * r + c) > 0) : Bool) with
    | true =>
      have hh' : decide (0 < W (3 * r + c)) = true := hh
      rw [hh'] at ok no
      cases hq : (true == h : Bool) with
      | true =>
        cases hs : ((V (3 * r + c)).toList == y.toList : Bool) with
        | true =>
          obtain ⟨hR, inv⟩ := ok (by rw [hq, ← bl, hs]; rfl)
          rw [show lstep l (i, M, C, V, W) = (i + 1, doM (pA l i) M, (setI C (rI l i) (cX C l i)), (setS V (aI l i) (pA l i).2.2.2.1), (setI W (aI l i) (dX C l i))) from by simp only [lstep, chgV, f1, f2, f3, eW0, eV0, ← bl, hh, hq, hs, hh5, hh6]; rfl]; exact inv
        | false =>
          obtain ⟨hR, inv⟩ := no (by rw [hq, ← bl, hs]; rfl)
          simp only [cond_true] at hR
          rw [show lstep l (i, M, C, V, W) = (i + 1, doM (pA l i) M, C, V, W) from by simp only [lstep, chgV, f1, f2, f3, eW0, eV0, ← bl, hh, hq, hs, hh5, hh6]; rfl]; exact inv
      | false =>
        obtain ⟨hR, inv⟩ := no (by rw [hq]; rfl)
        simp only [cond_true] at hR
        rw [show lstep l (i, M, C, V, W) = (i + 1, doM (pA l i) M, C, V, W) from by simp only [lstep, chgV, f1, f2, f3, eW0, eV0, ← bl, hh, hq, hh5, hh6]; rfl]; exact inv
    | false =>
      have hh' : decide (0 < W (3 * r + c)) = false := hh
      rw [hh'] at ok no
      cases hq : (false == h : Bool) with
      | true =>
        obtain ⟨hR, inv⟩ := ok (by rw [hq]; rfl)
        rw [show lstep l (i, M, C, V, W) = (i + 1, doM (pA l i) M, (setI C (rI l i) (cX C l i)), (setS V (aI l i) (pA l i).2.2.2.1), (setI W (aI l i) (dX C l i))) from by simp only [lstep, chgV, f1, f2, f3, eW0, eV0, ← bl, hh, hq, hh5, hh6]; rfl]; exact inv
      | false =>
        obtain ⟨hR, inv⟩ := no (by rw [hq]; rfl)
        simp only [cond_false] at hR
        rw [show lstep l (i, M, C, V, W) = (i + 1, doM (pA l i) M, C, V, W) from by simp only [lstep, chgV, f1, f2, f3, eW0, eV0, ← bl, hh, hq, hh5, hh6]; rfl]; exact inv
theorem lfin_inv {l : List rAct.den} (hl : ∀ x ∈ l, WF rAct x) : ∀ (f : Nat) (s : LS), s.1 + f = 80 → MInv s.2.1 s.2.2.1 s.2.2.2.2 s.2.2.2.1 ((s.1 : Nat) : Int) → ∃ n : Int, n ≤ 80 ∧ MInv (lfin l f s).2.1 (lfin l f s).2.2.1 (lfin l f s).2.2.2.2 (lfin l f s).2.2.2.1 n
  | 0, s, h, I => ⟨((s.1 : Nat) : Int), by omega, I⟩
  | f + 1, (i, M, C, V, W), h, I => by
    simp only at h I
    rw [lfin]
    by_cases hlt : i < l.length
    · rw [if_pos hlt]
      exact lfin_inv hl f (lstep l (i, M, C, V, W)) (by show i + 1 + f = 80; omega) (step_inv hl hlt (by omega) I)
    · rw [if_neg hlt]
      exact ⟨((i : Nat) : Int), by omega, I⟩
def gA (k : Nat) : rOp.den := (2, (ByteArray.mk #[114]) ++ strOfNums [IntKind.u8.wrap (IntKind.i64.wrap (((k : Nat) : Int).tdiv 3))], (ByteArray.mk #[99]) ++ strOfNums [IntKind.u8.wrap (((k : Nat) : Int).tmod 3)], (ByteArray.mk #[]), false, (ByteArray.mk #[]), ())
theorem gA_eq {k : Nat} (h : k < 12) : gA k = opP 2 (k / 3) (k % 3) e0B false e0B := by
  unfold gA opP rowN colN
  have e1 : IntKind.u8.wrap (IntKind.i64.wrap (((k : Nat) : Int).tdiv 3)) = ((k / 3 : Nat) : Int) := by
    have : ((k : Nat) : Int).tdiv 3 = ((k / 3 : Nat) : Int) := by rw [Int.tdiv_eq_ediv_of_nonneg (by omega)]; omega
    rw [this, wrap64 (by omega) (by omega), wrapU8 (by omega) (by omega)]
  have e2 : IntKind.u8.wrap (((k : Nat) : Int).tmod 3) = ((k % 3 : Nat) : Int) := by
    have : ((k : Nat) : Int).tmod 3 = ((k % 3 : Nat) : Int) := by rw [Int.tmod_eq_emod_of_nonneg (by omega)]; omega
    rw [this, wrapU8 (by omega) (by omega)]
  rw [e1, e2]
noncomputable def lLb : Code := (theLoop Try.prog 4 39).getD .skip
theorem lLb_eq : theLoop Try.prog 4 39 = some lLb := by kernel_rfl
theorem got_loop (M : MapT) (C : Nat → Int) (V : Nat → ByteArray) (W : Nat → Int) {n : Int} (I : MInv M C W V n) :
    LoopOk Try.prog lLb 180 [14] [3, 5, 6] [vI 0] [.one (.ptr 1 0), .one (.ptr 3 0), .one (.ptr 4 0)] (hp5 M C V W) (.exit 3) [vX] (hp5 M C V W) := by
  refine LoopOk.rounds (S := Nat) EMi lLb_eq (by kernel_rfl) (fun k => [vI k]) (fun k => hp5 M C V W) (fun k => k ≤ 12) (fun k => 12 - k) 0 (Nat.zero_le _) ?_ (fun _ _ => rfl)
  intro k hk
  show OneRound EMi _ lLb 180 5 [14] _ _ _ _ _ _ _ _ _
  by_cases h12 : k < 12
  · have q1 : decide (((k : Nat) : Int) < 12) = true := decide_eq_true (by omega)
    have q2 : inB ((k : Nat) : Int) 12 = true := inB_of (by omega) (by omega)
    have hp := gA_eq h12
    obtain ⟨d1, d2⟩ := do_get I (show k / 3 < 4 by omega) (show k % 3 < 3 by omega)
    rw [← hp, show 3 * (k / 3) + k % 3 = k by omega] at d1
    rw [← hp] at d2
    have eW : pkI W ((k : Nat) : Int) 0 11 = W k := pkI_eq W k 11 0 (by omega) (by omega)
    have eV : pkS V ((k : Nat) : Int) 0 11 = V k := pkS_eq V k 11 0 (by omega) (by omega)
    have wi : IntKind.i64.wrap (((k : Nat) : Int) + 1) = ((k + 1 : Nat) : Int) := by rw [wrap64 (by omega) (by omega)]; omega
    have z1 : ∀ n : Int, decide ((ByteArray.mk #[99]).size + (strOfNums [n]).size ≤ 9223372036854775807) = true := fun n => decide_eq_true (by rw [one_size]; show 1 + 1 ≤ _; omega)
    have z2 : ∀ n : Int, decide ((ByteArray.mk #[114]).size + (strOfNums [n]).size ≤ 9223372036854775807) = true := fun n => decide_eq_true (by rw [one_size]; show 1 + 1 ≤ _; omega)
    cases hh : (decide (W k > 0) : Bool) with
    | true =>
      have hR : doR (gA k) M = (0, true, e0B, V k, W k, ()) := by rw [d1, show decide (0 < W k) = true from hh]; rfl
      exact OneRound.goT [true, false, false, false, true, true, true, true, true, true, true, false, false, false, false, false, false, true, false, false, true, false, false] (vs := [vI (IntKind.i64.wrap (((k : Nat) : Int) + 1))]) (hp' := hp5 (doM (gA k) M) C V W) (cs := [((doR (gA k) M).snd.snd.snd.snd.fst != pkI W ((k : Nat) : Int) 0 11) == false, (!(doR (gA k) M).snd.fst == decide ((pkI W ((k : Nat) : Int) 0 11) > 0)) == false, (doR (gA k) M).snd.fst == true, (!(doR (gA k) M).snd.fst == decide ((pkI W ((k : Nat) : Int) 0 11) > 0)) == false, (!ByteArray.toList (doR (gA k) M).snd.snd.snd.fst == (pkS V ((k : Nat) : Int) 0 11).toList) == false, (doR (gA k) M).snd.fst == true, (!ByteArray.toList (doR (gA k) M).snd.snd.snd.fst == (pkS V ((k : Nat) : Int) 0 11).toList) == false, (!ByteArray.toList (doR (gA k) M).snd.snd.snd.fst == (pkS V ((k : Nat) : Int) 0 11).toList) == false, inB (((k : Nat) : Int)) 12, (!ByteArray.toList (doR (gA k) M).snd.snd.snd.fst == (pkS V ((k : Nat) : Int) 0 11).toList) == false, (!ByteArray.toList (doR (gA k) M).snd.snd.snd.fst == (pkS V ((k : Nat) : Int) 0 11).toList) == false, (!ByteArray.toList (doR (gA k) M).snd.snd.snd.fst == (pkS V ((k : Nat) : Int) 0 11).toList) == false, (!ByteArray.toList (doR (gA k) M).snd.snd.snd.fst == (pkS V ((k : Nat) : Int) 0 11).toList) == false, (doR (gA k) M).snd.fst == true, (doR (gA k) M).snd.fst == true, (doR (gA k) M).snd.fst == true, inB (((k : Nat) : Int)) 12, (doR (gA k) M).snd.fst == true, (doR (gA k) M).snd.fst == true, (doR (gA k) M).snd.fst == true, (doR (gA k) M).snd.fst == true, (!(doR (gA k) M).snd.fst == decide ((pkI W ((k : Nat) : Int) 0 11) > 0)) == false, (!(doR (gA k) M).snd.fst == decide ((pkI W ((k : Nat) : Int) 0 11) > 0)) == false, (!(doR (gA k) M).snd.fst == decide ((pkI W ((k : Nat) : Int) 0 11) > 0)) == false, inB (((k : Nat) : Int)) 12, !2 == 5, decide ((ByteArray.mk #[99]).size + (strOfNums [IntKind.u8.wrap ((((k : Nat) : Int)).tmod 3)]).size ≤ 9223372036854775807), decide ((ByteArray.mk #[114]).size + (strOfNums [IntKind.u8.wrap (IntKind.i64.wrap ((((k : Nat) : Int)).tdiv 3))]).size ≤ 9223372036854775807), decide (((k : Nat) : Int) < 12) == true]) (fun rest => by kernel_rfl) (allI (by simp only [q1, q2, eW, eV, hR, hh, z1, z2, baRfl, beq_self_eq_true, bne_self_eq_false]; rfl)) (k + 1) (by show k + 1 ≤ 12; omega) (by show 12 - (k + 1) < 12 - k; omega) ⟨.of_eq (by rw [wi]), trivial⟩ (by rw [d2]) (ids5 _ _ _ _ _)
    | false =>
      have hR : doR (gA k) M = (0, false, e0B, e0B, 0, ()) := by rw [d1, show decide (0 < W k) = false from hh]; rfl
      exact OneRound.goT [true, false, false, false, false, false, false, false, false, false, false, false, false, false, false, false] (vs := [vI (IntKind.i64.wrap (((k : Nat) : Int) + 1))]) (hp' := hp5 (doM (gA k) M) C V W) (cs := [false == false, (!(doR (gA k) M).snd.fst == decide ((pkI W ((k : Nat) : Int) 0 11) > 0)) == false, (doR (gA k) M).snd.fst == false, (!(doR (gA k) M).snd.fst == decide ((pkI W ((k : Nat) : Int) 0 11) > 0)) == false, (doR (gA k) M).snd.fst == false, (doR (gA k) M).snd.fst == false, (doR (gA k) M).snd.fst == false, (doR (gA k) M).snd.fst == false, (doR (gA k) M).snd.fst == false, (doR (gA k) M).snd.fst == false, (doR (gA k) M).snd.fst == false, (doR (gA k) M).snd.fst == false, (!(doR (gA k) M).snd.fst == decide ((pkI W ((k : Nat) : Int) 0 11) > 0)) == false, (!(doR (gA k) M).snd.fst == decide ((pkI W ((k : Nat) : Int) 0 11) > 0)) == false, (!(doR (gA k) M).snd.fst == decide ((pkI W ((k : Nat) : Int) 0 11) > 0)) == false, inB (((k : Nat) : Int)) 12, !2 == 5, decide ((ByteArray.mk #[99]).size + (strOfNums [IntKind.u8.wrap ((((k : Nat) : Int)).tmod 3)]).size ≤ 9223372036854775807), decide ((ByteArray.mk #[114]).size + (strOfNums [IntKind.u8.wrap (IntKind.i64.wrap ((((k : Nat) : Int)).tdiv 3))]).size ≤ 9223372036854775807), decide (((k : Nat) : Int) < 12) == true]) (fun rest => by kernel_rfl) (allI (by simp only [q1, q2, eW, eV, hR, hh, z1, z2, baRfl, beq_self_eq_true, bne_self_eq_false]; rfl)) (k + 1) (by show k + 1 ≤ 12; omega) (by show 12 - (k + 1) < 12 - k; omega) ⟨.of_eq (by rw [wi]), trivial⟩ (by rw [d2]) (ids5 _ _ _ _ _)
  · have q1 : decide (((k : Nat) : Int) < 12) = false := decide_eq_false (by omega)
    exact OneRound.stopT [false] (vs := [vI k]) (hp' := hp5 M C V W) (cs := [decide (((k : Nat) : Int) < 12) == false]) (fun rest => by kernel_rfl) (allI (by simp only [q1]; rfl)) (by simp) ⟨.unk, trivial⟩ rfl (ids5x _ _ _ _)
end Go.Proofs.Ytolhkkoakneflaa
