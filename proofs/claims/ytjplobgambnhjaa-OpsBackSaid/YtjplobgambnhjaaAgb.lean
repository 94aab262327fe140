/- An entry, a message read of bytes are laid as the same bytes; no statement. -/
import Derived.Test.YtjplobgambnhjaaAga
import Derived.Test.YtjplobgambnhjaaEcx
set_option linter.unusedVariables false
set_option linter.unusedSimpArgs false
set_option maxRecDepth 100000
namespace Go.Proofs.Ytjplobgambnhjaa
open Go Go.Eng

def rdBig : Rd → Bool
  | .n m => decide (m ≤ 18446744073709551615)
  | _ => true
def szR : Rd → Nat
  | .t m => m.toNat + 20
  | _ => 20
def szsR : List Rd → Nat
  | [] => 0
  | r :: l => szR r + szsR l
theorem uOk_in {v : Int} (h0 : 0 ≤ v) (h : v ≤ 18446744073709551615) : uOk v = true := by
  rw [uOk, decide_eq_true (by omega), decide_eq_true (by omega)]; rfl
theorem fits_lay : ∀ (l : List Rd) (vs : List RV), fitsR l vs = true → l.all rdBig = true → vs.all layU = true ∧ laysSz vs ≤ szsR l
  | [], [], _, _ => ⟨rfl, Nat.le_refl _⟩
  | [], _ :: _, h, _ => by cases h
  | _ :: _, [], h, _ => by cases h
  | r :: l, v :: vs, h, hb => by
    have h : (fitR r v && fitsR l vs) = true := h
    rw [Bool.and_eq_true] at h
    rw [List.all_cons, Bool.and_eq_true] at hb
    obtain ⟨h1, h2⟩ := fits_lay l vs h.2 hb.2
    have h3 := h.1
    have hv : layU v = true ∧ laySz v ≤ szR r := by
      cases r with
      | n m =>
        cases v with
        | n v =>
          have h3 := of_decide_eq_true h3
          have hb := of_decide_eq_true hb.1
          exact ⟨uOk_in h3.1 (by omega), Nat.le_refl _⟩
        | t _ => cases h3
        | f _ => cases h3
      | t m =>
        cases v with
        | n _ => cases h3
        | t b =>
          have h3 := of_decide_eq_true h3
          exact ⟨rfl, by show b.size + 20 ≤ m.toNat + 20; omega⟩
        | f _ => cases h3
      | y => cases v <;> first | exact ⟨rfl, Nat.le_refl _⟩ | cases h3
      | g =>
        cases v with
        | n v =>
          have h3 := of_decide_eq_true h3
          exact ⟨uOk_in h3.1 (by omega), Nat.le_refl _⟩
        | t _ => cases h3
        | f _ => cases h3
    refine ⟨by rw [List.all_cons, hv.1, h1]; rfl, ?_⟩
    show laySz v + laysSz vs ≤ szR r + szsR l
    omega
theorem mt_of {s : ByteArray} (h : s.size = 0) : s = ByteArray.mk #[] := by
  obtain ⟨⟨l⟩⟩ := s
  have : l = [] := List.eq_nil_of_length_eq_zero h
  subst this; rfl
theorem entR_wr (s : ByteArray) (M : List Int) : entR (entD (rdsV rEntL s) M) = List.zipWith wr rEntL (rdsR rEntL s) := by kernel_rfl
theorem ent_sgs (s : ByteArray) : sgsK rEntL (rdsR rEntL s) = true := by kernel_rfl
theorem size0 (n : Nat) (h : (bif !true then true else decide (((n : Nat) : Int) > 0)) = false) : n = 0 := by
  have h : decide (((n : Nat) : Int) > 0) = false := h
  have := of_decide_eq_false h
  omega
theorem smI_of {v : Int} (h : 0 ≤ v ∧ v < 5) : smI v = true := decide_eq_true (by omega)
theorem eT_def (t : ByteArray) : eT t = mbS (lmN (eS t)) (nr (eS t)) := by kernel_rfl
theorem eG_def (t : ByteArray) : eG t = mbG (lmN (eS t)) (lmB (rdsG rEntL true t) (eS t)) (nr (eS t)) := by kernel_rfl
theorem eS_def (t : ByteArray) : eS t = rdsS rEntL t := by kernel_rfl
theorem eD_mem (t : ByteArray) : (eD t).2.2.2.2.1 = mbL (lmN (eS t)) (nr (eS t)) := by kernel_rfl
theorem eB2_def (t : ByteArray) : eB2 t = (bif !eG t then true else decide ((((eT t).size : Nat) : Int) > 0)) := by kernel_rfl
theorem eB3_def (t : ByteArray) : eB3 t = (bif eB2 t then true else entV (eD t) != 0) := by kernel_rfl
theorem rEnt_okA : rEntL.all rdOkA = true := by decide
theorem rEnt_big : rEntL.all rdBig = true := by decide
theorem rEnt_sz : szsR rEntL = 459212 := by decide
theorem encE_def (a : rEntry.den) : encE a = encsB (entR a) ++ encsB (memR a.2.2.2.2.1) := encsB_app _ _
/-- An entry that is read is laid as it was. -/
theorem ent_again {t : ByteArray} (ht : szk t = true) (h : (deA t).2 = 0) : (deA t).1 = eD t ∧ encE (eD t) = t ∧ entV (eD t) = 0 ∧ enOk (eD t) = true ∧ fitsR rEntL (rdsR rEntL t) = true := by
  have h3 : eB3 t = false := by
    cases e : eB3 t with
    | false => rfl
    | true => unfold deA at h; rw [e] at h; cases h
  have hd : (deA t).1 = eD t := by unfold deA; rw [h3]; rfl
  rw [eB3_def] at h3
  have h2 : eB2 t = false := by
    cases e : eB2 t with
    | false => rfl
    | true => rw [e] at h3; cases h3
  rw [h2, cond_false] at h3
  have hv : entV (eD t) = 0 := by
    have : ¬ (entV (eD t) ≠ 0) := fun e => by rw [bne_iff_ne.2 e] at h3; cases h3
    exact Classical.not_not.1 this
  rw [eB2_def] at h2
  have hg : eG t = true := by
    cases e : eG t with
    | true => rfl
    | false => rw [e] at h2; cases h2
  rw [hg] at h2
  have hz : (eT t).size = 0 := size0 _ h2
  have hT := mt_of hz
  rw [eG_def] at hg
  obtain ⟨g1, g2, g3⟩ := mem_again hg
  obtain ⟨_, k2, k3⟩ := rds_again rEntL ht rEnt_okA g1
  rw [← eT_def, hT, appMt, ← eD_mem] at g2
  rw [← eS_def] at k2
  have hR : entR (eD t) = rdsR rEntL t := (entR_wr t _).trans (wrs_id _ _ k3 (ent_sgs t))
  have hE : encE (eD t) = t := by
    rw [encE_def, hR, ← g2]
    exact k2.symm
  have hlen : List.length (eD t).2.2.2.2.1 ≤ 5 := by rw [eD_mem, mbL_len]; exact g3
  have hb := ent_eb (eD t) (Nat.le_trans hlen (by decide)) hv
  obtain ⟨l1, l2⟩ := fits_lay _ _ k3 rEnt_big
  rw [rEnt_sz] at l2
  refine ⟨hd, hE, hv, ?_, k3⟩
  have hs : List.all (eD t).2.2.2.2.1 smI = true := List.all_eq_true.2 fun n hn => by
    exact smI_of (hb.mem n hn)
  unfold enOk
  rw [hR, l1, hs, decide_eq_true hlen, decide_eq_true (Nat.le_trans l2 (by decide))]
  rfl
/-- Such an entry comes back. -/
theorem ent_good {t : ByteArray} (ht : szk t = true) (h : (deA t).2 = 0) : goodE (deA t).1 = true ∧ encE (deA t).1 = t := by
  obtain ⟨h1, h2, h3, h4, _⟩ := ent_again ht h
  rw [h1]
  refine ⟨okP_is ⟨?_, h3, h4, ?_, by rw [h2]; exact ht⟩, h2⟩
  · have hB : entB (eD t) = true := by
      unfold entV at h3
      rcases bifO h3 with ⟨h, _⟩ | ⟨_, h'⟩
      · exact h
      · exact absurd h' (by decide)
    unfold entB at hB
    cases hz : ((eD t).1 == (0 : Int)) with
    | true => rw [hz] at hB; cases hB
    | false =>
      have h0 : (0 : Int) ≤ (eD t).1 := numV_ge t
      have hn : ¬ ((eD t).1 = (0 : Int)) := fun e => by rw [e] at hz; cases hz
      rcases Int.lt_or_eq_of_le h0 with h | h
      · exact h
      · exact absurd h.symm hn
  · rw [h2]
    exact Prod.ext h1 h
end Go.Proofs.Ytjplobgambnhjaa
