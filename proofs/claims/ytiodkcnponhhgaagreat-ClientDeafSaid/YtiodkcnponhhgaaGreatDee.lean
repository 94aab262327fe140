/- ClientDeaf: the loop's contract; no statement. -/
import Derived.Test.YtiodkcnponhhgaaGreatDed
set_option linter.unusedVariables false
set_option linter.unusedSimpArgs false
set_option maxRecDepth 100000
namespace Go.Proofs.YtiodkcnponhhgaaGreat
open Go Go.Eng

theorem cDt_all {l : List rPacket.den} {k : Nat} (hl : l.length ≤ maxLen) (hlt : k < l.length) (h50 : k < 50) (hs : szk (pk l k).2.2.1 = true) : (cDt l k).all (fun c => c) = true := by
  have a : inB (k : Int) l.length = true := inB_of (by omega) (by omega)
  have b : decide ((k : Int) < 50) = true := decide_eq_true (by omega)
  have c : decide ((k : Int) < l.length) = true := decide_eq_true (by omega)
  simp only [cDt, List.all_cons, List.all_nil, hs, a, b, c]; rfl
theorem cDn_all {l : List rPacket.den} {k : Nat} (hl : l.length ≤ maxLen) (hlt : k < l.length) (hs : szk (pk l k).2.2.1 = true) (hd : dN (pk l k) = true) : (cDn l k).all (fun c => c) = true := by
  have a : inB (k : Int) l.length = true := inB_of (by omega) (by omega)
  have o : okQ (hX (dmA (pk l k).2.2.1).1 = hX (dmA (pk l k).2.2.1).1) = true := okQ_is rfl
  unfold cDn
  rw [o, hs, hd, a]; rfl
theorem hWl_ids : idsLt 6 [vI 0] hW := ⟨by simp [idsV, idsC], by simp [hW, idsB, idsC]⟩
theorem deaf_loop (l : List rPacket.den) (hl : l.length ≤ maxLen) (hz : ∀ x ∈ l, szk x.2.2.1 = true) :
    LoopOk Tryz.prog lDf 101 [5] [0, 3] [vI 0] [.one (.sl rPacket l .shared), .one (.ptr 2 0)] hW (.exit 0) [vX] hW := by
  have hl' : l.length ≤ maxLen := hl
  unfold maxLen at hl'
  refine LoopOk.rounds (S := Nat) ELd lDf_eq (by kernel_rfl) (fun k => [vI k]) (fun k => hW) (fun k => k ≤ l.length) (fun k => l.length - k) 0 (Nat.zero_le _) ?_ (fun _ _ => rfl)
  intro k hk
  by_cases hlt : k < l.length
  · by_cases h50 : k < 50
    · have hs : szk (pk l k).2.2.1 = true := hz _ (by unfold pk; rw [List.getD_eq_getElem?_getD, List.getElem?_eq_getElem hlt]; exact List.getElem_mem hlt)
      have ct := cDt_all hl hlt h50 hs
      have ib : inB (k : Int) l.length = true := inB_of (by omega) (by omega)
      have go : ∀ (os : List Bool) (cs : List Bool), (∀ rest, rnd0 l k rest os = some (.normal, [vI (IntKind.i64.wrap (k + 1))], hW, cs)) → cs.all (fun c => c) = true →
          OneRound ELd 4 lDf 101 6 [5] (zipT [0, 3] [.one (.sl rPacket l .shared), .one (.ptr 2 0)]) (fun k : Nat => [vI k]) (fun _ => hW) (fun k => k ≤ l.length) (fun k => l.length - k) (.exit 0) [vX] hW k := fun os cs h hc =>
        OneRound.goT os h (allI hc) (k + 1) (by omega) (by omega) ⟨.of_eq (by rw [wrap64 (by omega) (by omega)]; rfl), trivial⟩ rfl ⟨by simp [idsV, idsC], hWl_ids.2⟩
      cases e1 : dq1 (pk l k) with
      | false => exact go _ _ (rn_E l k) (by rw [List.all_append, List.all_append, ct, cDn_all hl hlt hs (dN_of (by rw [e1]; rfl)), rq_all 4 (by rw [e1]; rfl)]; rfl)
      | true =>
        cases e2 : dq2 (pk l k) with
        | false => exact go _ _ (rn_K l k) (by rw [List.all_append, List.all_append, List.all_append, ct, cDn_all hl hlt hs (dN_of (by rw [e1, e2]; rfl)), e1, e2]; rfl)
        | true =>
          cases e3 : dq3 (pk l k) with
          | false => exact go _ _ (rn_S l k) (by simp only [List.all_append]; rw [ct, cDn_all hl hlt hs (dN_of (by rw [e1, e2, e3]; rfl)), e1, e2, e3]; rfl)
          | true =>
            cases e4 : dq4 (pk l k) with
            | false => exact go _ _ (rn_G l k) (by simp only [List.all_append]; rw [ct, cDn_all hl hlt hs (dN_of (by rw [e1, e2, e3, e4]; rfl)), e1, e2, e3, e4]; rfl)
            | true =>
              cases e5 : dq5 (pk l k) with
              | false => exact go _ _ (rn_C l k) (by simp only [List.all_append]; rw [ct, cDn_all hl hlt hs (dN_of (by rw [e1, e2, e3, e4, e5]; rfl)), e1, e2, e3, e4, e5]; rfl)
              | true =>
                cases e6 : dq6 (pk l k) with
                | false => exact go _ _ (rn_T l k) (by simp only [List.all_append, List.all_cons]; rw [ct, cDn_all hl hlt hs (dN_of (by rw [e1, e2, e3, e4, e5, e6]; rfl)), e1, e2, e3, e4, e5, e6, ib]; rfl)
                | true => exact go _ _ (rn_X l k) (by simp only [List.all_append, List.all_cons]; rw [ct, e1, e2, e3, e4, e5, e6, ib]; rfl)
    · exact OneRound.stopT [true, true, true, false] (vs := [vI k]) (hp' := hW) (cs := [decide ((k : Int) < 50) == false, decide ((k : Int) < l.length) == true, decide ((k : Int) < l.length) == true, decide ((k : Int) < l.length) == true]) (fun rest => by kernel_rfl)
        (allI (by rw [decide_eq_false (show ¬ (k : Int) < 50 by omega), decide_eq_true (show (k : Int) < l.length by omega)]; rfl)) (by simp) ⟨.unk, trivial⟩ rfl ⟨by simp [idsV, idsC], hWl_ids.2⟩
  · exact OneRound.stopT [false, false, false] (vs := [vI k]) (hp' := hW) (cs := [decide ((k : Int) < l.length) == false, decide ((k : Int) < l.length) == false, decide ((k : Int) < l.length) == false]) (fun rest => by kernel_rfl)
      (allI (by rw [decide_eq_false (show ¬ (k : Int) < l.length by omega)]; rfl)) (by simp) ⟨.unk, trivial⟩ rfl ⟨by simp [idsV, idsC], hWl_ids.2⟩
end Go.Proofs.YtiodkcnponhhgaaGreat
