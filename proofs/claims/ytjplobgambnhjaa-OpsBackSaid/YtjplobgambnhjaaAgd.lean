/- A message read of bytes is laid as the same bytes; no statement. -/
import Derived.Test.YtjplobgambnhjaaAgc
set_option linter.unusedVariables false
set_option linter.unusedSimpArgs false
set_option maxRecDepth 100000
namespace Go.Proofs.Ytjplobgambnhjaa
open Go Go.Eng

theorem sgK_of {v : Int} (h1 : -1 ≤ v) (h2 : v ≤ 4) : sgK v = true := decide_eq_true ⟨h1, h2⟩
theorem blB_of {n m : Int} (h : blB n m = true) : 0 ≤ n ∧ n < m := by
  obtain ⟨h1, h2⟩ := bif_split (show (bif decide (n ≥ 0) then decide (n < m) else false) = true from h)
  exact ⟨of_decide_eq_true h1, of_decide_eq_true h2⟩
theorem hiB_of {n : Int} (hi : -9223372036854775808 ≤ n ∧ n ≤ 9223372036854775807) (h : hiB n = true) : sgK n = true := by
  have h := blB_of h
  by_cases e : n = 9223372036854775807
  · subst e
    have : IntKind.i64.wrap (9223372036854775807 + 1) = -9223372036854775808 := by decide
    rw [this] at h; omega
  · rw [wrap64 (by omega) (by omega)] at h
    exact sgK_of (by omega) (by omega)
theorem ask_sg {a : rAsk.den} (h : askB a = true) : sgK a.2.2.1 = true ∧ sgK a.2.2.2.1 = true := by
  have key : aq3 a = true ∨ ax4 a = true := by
    unfold askB at h
    simp only [cond_eq_ite] at h
    split at h
    · exact .inl h
    · split at h
      · exact .inl h
      · split at h
        · exact .inl h
        · split at h
          · exact .inl h
          · exact .inr h
  rcases key with h | h
  · obtain ⟨h, e1⟩ := bif_split (show (bif aq2 a then _ else false) = true from h)
    obtain ⟨_, e2⟩ := bif_split (show (bif aq1 a then _ else false) = true from h)
    have e1 : a.2.2.2.1 = (-1 : Int) := eq_of_beq e1
    have e2 : a.2.2.1 = (-1 : Int) := eq_of_beq e2
    rw [e1, e2]; exact ⟨rfl, rfl⟩
  · obtain ⟨h, _⟩ := bif_split (show (bif ax3 a then _ else false) = true from h)
    obtain ⟨h, _⟩ := bif_split (show (bif ax2 a then _ else false) = true from h)
    obtain ⟨h1, h2⟩ := bif_split (show (bif ax1 a then _ else false) = true from h)
    obtain ⟨i, hi⟩ : ∃ i : Int, a.2.2.1 = i := ⟨_, rfl⟩
    obtain ⟨o, ho⟩ : ∃ o : Int, a.2.2.2.1 = o := ⟨_, rfl⟩
    have h1 : (!(blB i 5 == blB o 5)) = true := by rw [← hi, ← ho]; exact h1
    have h2 : (bif i == -1 then true else o == -1) = true := by rw [← hi, ← ho]; exact h2
    rw [hi, ho]
    have bneg : blB (-1) 5 = false := rfl
    cases hx : (i == -1 : Bool) with
    | true =>
      have e := eq_of_beq hx
      subst e
      rw [bneg] at h1
      have hb : blB o 5 = true := by cases q : blB o 5 with | true => rfl | false => rw [q] at h1; cases h1
      have := blB_of hb
      exact ⟨rfl, sgK_of (by omega) (by omega)⟩
    | false =>
      rw [hx] at h2
      have e : o = -1 := eq_of_beq h2
      subst e
      rw [bneg] at h1
      have hb : blB i 5 = true := by cases q : blB i 5 with | true => rfl | false => rw [q] at h1; cases h1
      have := blB_of hb
      exact ⟨sgK_of (by omega) (by omega), rfl⟩
def iOkk (v : Int) : Prop := -9223372036854775808 ≤ v ∧ v ≤ 9223372036854775807
theorem mX_hints {d : rMsg.den} (h : msgB d = true) (i1 : iOkk (aP d).2.2.2.1) (i2 : iOkk (aT d).2.2.2.2.1) : sgK (aP d).2.2.2.1 = true ∧ sgK (aA d).2.2.1 = true ∧ sgK (aA d).2.2.2.1 = true ∧ sgK (aT d).2.2.2.2.1 = true := by
  rcases msg_kinds h with ⟨h3, h⟩ | ⟨k, _, h1, h9, h3, hk⟩
  · rw [ms3_form h3 h]
    exact ⟨rfl, rfl, rfl, rfl⟩
  · obtain ⟨_, h2⟩ := chV_true _ (show chV (g0 d) (kdM d k ++ tlM (mXk d k) d 0) = true from hk)
    obtain ⟨e, _⟩ := tlM_mem h2
    have hp := e.rp; have ha := e.ak; have ht := e.to
    have c : k = 1 ∨ k = 2 ∨ k = 4 ∨ k = 5 ∨ k = 6 ∨ k = 7 ∨ k = 8 ∨ k = 9 := by omega
    have zp : aP d = zP → sgK (aP d).2.2.2.1 = true := fun e => by rw [e]; rfl
    have za : aA d = zA → sgK (aA d).2.2.1 = true ∧ sgK (aA d).2.2.2.1 = true := fun e => by rw [e]; exact ⟨rfl, rfl⟩
    have zt : aT d = zT → sgK (aT d).2.2.2.2.1 = true := fun e => by rw [e]; rfl
    rcases c with rfl | rfl | rfl | rfl | rfl | rfl | rfl | rfl
    all_goals first
      | exact ⟨zp hp.symm, (za ha.symm).1, (za ha.symm).2, zt ht.symm⟩
      | exact ⟨hiB_of i1 (h2 (2, hiB (aP d).2.2.2.1) (List.mem_append_left _ (by simp [kdM]))), (za ha.symm).1, (za ha.symm).2, zt ht.symm⟩
      | exact ⟨zp hp.symm, (ask_sg (h2 (2, askB (aA d)) (List.mem_append_left _ (by simp [kdM])))).1, (ask_sg (h2 (2, askB (aA d)) (List.mem_append_left _ (by simp [kdM])))).2, zt ht.symm⟩
      | exact ⟨zp hp.symm, (za ha.symm).1, (za ha.symm).2, hiB_of i2 (h2 (2, hiB (aT d).2.2.2.2.1) (List.mem_append_left _ (by simp [kdM])))⟩
/-! Frames. -/
theorem frB_true : ∀ (k : Nat) (s : ByteArray), frB k true s = true
  | 0, _ => rfl
  | k + 1, s => frB_true k (fr s)
theorem fr_again : ∀ (k : Nat) {g : Bool} {s : ByteArray}, szk s = true → frG k g s = true → frB k false s = false →
    g = true ∧ s = encsB ((frL k s).map fun e => RV.t (encE e)) ++ frS k s ∧ (frL k s).all goodE = true ∧ laysSz ((frL k s).map fun e => RV.t (encE e)) ≤ 1100000 * k
  | 0, g, s, _, h, _ => ⟨h, (emptyApp s).symm, rfl, Nat.zero_le _⟩
  | k + 1, g, s, hs, h, hb => by
    have hb : frB k (bif false then true else (deA (fv s)).2 != 0) (fr s) = false := hb
    have h0 : (deA (fv s)).2 = 0 := by
      cases e : ((deA (fv s)).2 != 0 : Bool) with
      | true => rw [e] at hb; rw [show (bif false then true else true) = true from rfl, frB_true] at hb; cases hb
      | false =>
        have : ¬ ((deA (fv s)).2 ≠ 0) := fun q => by rw [bne_iff_ne.2 q] at e; cases e
        exact Classical.not_not.1 this
    rw [h0] at hb
    obtain ⟨k1, k2, k3, k4⟩ := fr_again k (szk_fr hs) (show frG k (bif g then tb s 1048576 else false) (fr s) = true from h) hb
    obtain ⟨kg, kt⟩ := bif_split k1
    obtain ⟨t1, t2⟩ := tb_again hs (by omega) kt
    have hv : szk (fv s) = true := szk_tv hs
    obtain ⟨g1, g2⟩ := ent_good hv h0
    have e1 : encE (deA (fv s)).1 = fv s := g2
    refine ⟨kg, ?_, by show (goodE _ && _) = true; rw [g1, k3]; rfl, ?_⟩
    · show s = layB (.t (encE (deA (fv s)).1)) ++ encsB ((frL k (fr s)).map fun e => RV.t (encE e)) ++ frS k (fr s)
      rw [ByteArray.append_assoc, ← k2, e1]
      exact t1
    · show (encE (deA (fv s)).1).size + 20 + laysSz ((frL k (fr s)).map fun e => RV.t (encE e)) ≤ 1100000 * (k + 1)
      rw [e1]
      have t2 : (((fv s).size : Nat) : Int) ≤ 1048576 := t2
      omega
/-- The list: the count and the entries. -/
theorem ls_again {g : Bool} {s : ByteArray} (hs : szk s = true) (h : frG (lsK s) (lgB g s) (nr s) = true) (hb : frB (lsK s) false (nr s) = false) :
    g = true ∧ s = encsB (entsR (frL (lsK s) (nr s))) ++ frS (lsK s) (nr s) ∧ (frL (lsK s) (nr s)).all goodE = true ∧ lsK s ≤ 8 ∧ laysSz (entsR (frL (lsK s) (nr s))) ≤ 9000000 := by
  obtain ⟨h1, h2, h3, h4⟩ := fr_again _ (szk_nr hs) h hb
  obtain ⟨k1, k2⟩ := bif_split (show (bif bif g then nb s else false then decide (numV s ≤ 8) else false) = true from h1)
  obtain ⟨k0, k3⟩ := bif_split k1
  have k2 := of_decide_eq_true k2
  have hv := numV_ge s
  have hn : ((lsK s : Nat) : Int) = numV s := by unfold lsK; rw [if_pos k2]; omega
  refine ⟨k0, ?_, h3, by omega, ?_⟩
  · show s = layB (.n (wU (((frL (lsK s) (nr s)).length : Nat) : Int))) ++ encsB ((frL (lsK s) (nr s)).map fun e => RV.t (encE e)) ++ frS (lsK s) (nr s)
    rw [ByteArray.append_assoc, ← h2, frL_len, hn]
    have e : wU (numV s) = numV s := by unfold wU; exact wrapU64 hv (by omega)
    rw [e]
    exact (nb_again k3).1
  · show 20 + laysSz ((frL (lsK s) (nr s)).map fun e => RV.t (encE e)) ≤ 9000000
    omega
end Go.Proofs.Ytjplobgambnhjaa
