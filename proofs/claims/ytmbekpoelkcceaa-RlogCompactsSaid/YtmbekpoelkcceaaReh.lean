/- A leader's log whose first entry names members, and what is left of it behind a place: plain; no statement. -/
import Derived.Test.YtmbekpoelkcceaaReg
set_option linter.unusedVariables false
set_option linter.unusedSimpArgs false
namespace Go.Proofs.Ytmbekpoelkcceaa
open Go Go.Eng

abbrev hdE (e : rEntry.den) : rEntry.den := (e.1, e.2.1, (2 : Int), e.2.2.2.1, [0, 1], ())
def comA (g : List Int) (L : Nat) : List rEntry.den := (ldTo 40 g false L).set 0 (hdE (ldEnt 40 g false 0))
abbrev tmC (g : List Int) (k : Nat) : Int := tmAt 40 g false k

theorem folW_lc {n : Nat} {g : List Int} {ev : Bool} (hg : ∀ x ∈ g, (0 : Int) ≤ x) {m : Nat} (hm : m ≤ 1000) : ∀ (j i : Nat), i + j = m → folW i (tmAt n g ev i) ((ldTo n g ev m).drop i) = true
  | 0, i, h => by rw [ldTo_nil (by omega)]; rfl
  | j + 1, i, h => by
    rw [ldTo_drop (k := m) (i := i) (by omega)]
    have ih := folW_lc (n := n) (ev := ev) (m := m) hg hm j (i + 1) (by omega)
    have hle := ldTm_le (n := n) (ev := ev) hg i
    have hp := ldTm_pos (n := n) (ev := ev) hg (i + 1)
    have e : ((i + 1 : Nat) : Int) = (i : Int) + 1 := by omega
    have et : tmAt n g ev (i + 1) = ldTm n g ev (i + 1) := if_neg (by omega)
    rw [e, et] at ih
    have hb : badE i (tmAt n g ev i) (ldEnt n g ev i) = false := by
      have h1 : (((i : Int) + 1) == 0) = false := beq_eq_false_iff_ne.2 (by omega)
      have h2 : (((i : Int) + 1) != IntKind.u64.wrap ((i : Int) + 1)) = false := by rw [wrapU64 (by omega) (by omega)]; simp
      have h3 : decide (ldTm n g ev (i + 1) < if 1 > tmAt n g ev i then 1 else tmAt n g ev i) = false := decide_eq_false (by
        unfold tmAt
        split <;> split <;> omega)
      show ((((i : Int) + 1) == 0) || ((((i : Int) + 1) != IntKind.u64.wrap ((i : Int) + 1)) || (decide (ldTm n g ev (i + 1) < if 1 > tmAt n g ev i then 1 else tmAt n g ev i) || (((1 : Int) == 2) && _)))) = false
      rw [h1, h2, h3]; rfl
    show (!badE i (tmAt n g ev i) (ldEnt n g ev i) && folW ((i : Int) + 1) (ldTm n g ev (i + 1)) _) = true
    rw [hb, ih]; rfl

theorem entFits_lc {n : Nat} {g : List Int} {ev : Bool} {k : Nat} : entFits (ldEnt n g ev k) = true := rfl
theorem ldTo_fitc {n : Nat} {g : List Int} {ev : Bool} {k : Nat} : (ldTo n g ev k).all entFits = true :=
  List.all_eq_true.2 fun y hy => by
    unfold ldTo at hy
    obtain ⟨i, _, rfl⟩ := List.mem_map.1 hy
    exact entFits_lc

theorem comA_len {g : List Int} {L : Nat} : (comA g L).length = L := by unfold comA; rw [List.length_set, ldTo_len]
theorem comA_get {g : List Int} {L k : Nat} {d : rEntry.den} (h : k < L) : (comA g L).getD k d = if k = 0 then hdE (ldEnt 40 g false 0) else ldEnt 40 g false k := by
  unfold comA
  rw [List.getD_eq_getElem?_getD, List.getElem?_set]
  by_cases hk : k = 0
  · subst hk
    rw [if_pos rfl, if_pos (by rw [ldTo_len]; exact h), if_pos rfl]; rfl
  · rw [if_neg (by omega), ldTo_get, if_pos h, if_neg hk]; rfl
theorem comA_ix {g : List Int} {L k : Nat} (h : k < L) : eIx ((comA g L).getD k rEntry.dflt) = (k : Int) + 1 := by
  rw [comA_get h]
  split
  · subst_vars; rfl
  · rfl
theorem comA_tm {g : List Int} {L k : Nat} (h : k < L) : eTm ((comA g L).getD k rEntry.dflt) = tmC g (k + 1) := by
  rw [comA_get h]
  show _ = ldTm 40 g false (k + 1)
  split
  · subst_vars; rfl
  · rfl
theorem comA_drop {g : List Int} {L f : Nat} (h : 0 < f) : (comA g L).drop f = (ldTo 40 g false L).drop f := by
  unfold comA
  rw [List.drop_set, if_pos h]
theorem drop_getD' {l : List rEntry.den} {f k : Nat} : (l.drop f).getD k rEntry.dflt = l.getD (f + k) rEntry.dflt := by
  rw [List.getD_eq_getElem?_getD, List.getD_eq_getElem?_getD, List.getElem?_drop]
theorem take_getD' {l : List rEntry.den} {m k : Nat} (h : k < m) : (l.take m).getD k rEntry.dflt = l.getD k rEntry.dflt := by
  rw [List.getD_eq_getElem?_getD, List.getD_eq_getElem?_getD, List.getElem?_take_of_lt h]
theorem folW_take {l : List rEntry.den} : ∀ {i t : Int} {k : Nat}, folW i t l = true → folW i t (l.take k) = true := by
  induction l with
  | nil => intro i t k h; rw [List.take_nil]; rfl
  | cons e r ih =>
    intro i t k h
    cases k with
    | zero => rfl
    | succ k =>
      simp only [folW, Bool.and_eq_true] at h
      rw [List.take_succ_cons]
      simp only [folW, Bool.and_eq_true]
      exact ⟨h.1, ih h.2⟩
theorem comA_fol {g : List Int} (hg : ∀ x ∈ g, (0 : Int) ≤ x) {L f : Nat} (hL : L ≤ 40) (hf : f ≤ L) : folW f (tmC g f) ((comA g L).drop f) = true := by
  by_cases h0 : f = 0
  · subst h0
    by_cases hl : L = 0
    · rw [List.drop_of_length_le (by rw [comA_len]; omega)]; rfl
    · have e : (comA g L).drop 0 = hdE (ldEnt 40 g false 0) :: (ldTo 40 g false L).drop 1 := by
        rw [drop_cons (by rw [comA_len]; omega), comA_get (by omega), if_pos rfl, comA_drop (by omega)]
      rw [e]
      simp only [folW, Bool.and_eq_true]
      refine ⟨?_, ?_⟩
      · have hp := ldTm_pos (n := 40) (ev := false) hg 1
        have d : decide ((ldEnt 40 g false 0).2.1 < if 1 > tmC g 0 then 1 else tmC g 0) = false := decide_eq_false (fun h => by
          have h : ldTm 40 g false 1 < 1 := h
          omega)
        show (!(_ || (_ || (decide ((ldEnt 40 g false 0).2.1 < if 1 > tmC g 0 then 1 else tmC g 0) || _)))) = true
        rw [d]; rfl
      · exact folW_lc (n := 40) (ev := false) hg (m := L) (by omega) (L - 1) 1 (by omega)
  · rw [comA_drop (by omega)]
    exact folW_lc (n := 40) (ev := false) hg (m := L) (by omega) (L - f) f (by omega)
theorem comA_fits {g : List Int} {L : Nat} : (comA g L).all entFits = true := List.all_eq_true.2 fun e h => by
  unfold comA at h
  rcases List.mem_or_eq_of_mem_set h with h | rfl
  · exact List.all_eq_true.1 (ldTo_fitc (n := 40) (g := g) (ev := false) (k := L)) e h
  · rfl
theorem comA_term {g : List Int} {L b i : Nat} (hb : b ≤ i) (hi : i ≤ L) : termC b (tmC g b) ((comA g L).drop b) i = (tmC g i, true) := by
  unfold termC
  by_cases h : i = b
  · subst h; rw [if_pos rfl]
  · rw [if_neg (by omega), if_neg (by omega), if_neg (by rw [List.length_drop, comA_len]; omega)]
    have e : ((i : Int) - (b : Int) - 1).toNat = i - b - 1 := by omega
    rw [e, drop_getD', show b + (i - b - 1) = i - 1 by omega, comA_tm (by omega), show i - 1 + 1 = i by omega]
theorem comA_well {g : List Int} (hg : ∀ x ∈ g, (0 : Int) ≤ x) {L b f m : Nat} (hL : L ≤ 40) (hb : b ≤ L) (hf : f ≤ L) (hm : m ≤ L - f) :
    WellC b (tmC g b) ((comA g L).drop b) f (tmC g f) (((comA g L).drop f).take m) := by
  have hlen : (((comA g L).drop f).take m).length = m := by rw [List.length_take, List.length_drop, comA_len]; omega
  have hget : ∀ k, k < m → (((comA g L).drop f).take m).getD k rEntry.dflt = (comA g L).getD (f + k) rEntry.dflt := fun k hk => by
    rw [take_getD' hk, drop_getD']
  refine ⟨by omega, by omega, by rw [List.length_drop, comA_len]; omega, by omega, folW_take (comA_fol hg hL hf), fun h => comA_term (by omega) hf, fun h k hk he => ?_, fun k hk => ?_⟩
  · rw [hlen] at hk
    rw [hget k hk] at he ⊢
    rw [comA_ix (by omega)] at he
    rw [comA_tm (by omega), show f + k + 1 = b by omega]
  · rw [hlen] at hk
    rw [hget k hk, comA_ix (by omega), comA_tm (by omega)]
    refine ⟨by omega, ?_⟩
    by_cases h : f + k + 1 ≤ b
    · left; omega
    · right
      rw [show ((f + k : Nat) : Int) + 1 = ((f + k + 1 : Nat) : Int) by omega]
      exact comA_term (by omega) (by omega)
theorem memC_plain (a : Int) (bm : List Int) {g : List Int} {L : Nat} : ∀ (j f : Nat), f + j = L → memC a bm ((ldTo 40 g false L).drop f) = bm
  | 0, f, h => by rw [ldTo_nil (by omega)]; rfl
  | j + 1, f, h => by
    rw [ldTo_drop (by omega)]
    unfold memC
    split
    · rfl
    · rw [if_neg (show ¬ (ldEnt 40 g false f).2.2.1 = 2 from by show ¬ (1 : Int) = 2; decide)]
      exact memC_plain a bm j (f + 1) (by omega)
theorem comA_mem {g : List Int} {L : Nat} (a : Nat) (hL : 0 < L) : memC a [] (comA g L) = if a = 0 then [] else [0, 1] := by
  have e : comA g L = hdE (ldEnt 40 g false 0) :: (ldTo 40 g false L).drop 1 := by
    have h := drop_cons (x := comA g L) (k := 0) (by rw [comA_len]; omega)
    rw [List.drop_zero, comA_get hL, if_pos rfl, comA_drop (by omega)] at h
    exact h
  rw [e]
  unfold memC
  have h1 : (hdE (ldEnt 40 g false 0)).1 = 1 := rfl
  rw [h1]
  by_cases ha : a = 0
  · rw [if_pos (show (1 : Int) > (a : Int) by omega), if_pos ha]
  · rw [if_neg (show ¬ (1 : Int) > (a : Int) by omega), if_neg ha, if_pos rfl]
    exact memC_plain _ _ (L - 1) 1 (by omega)
theorem comA_mem2 {g : List Int} {L n i : Nat} (hL : 0 < L) (hn : n ≤ i) (hi : i ≤ L) : memC i (memC n [] (comA g L)) ((comA g L).drop n) = memC i [] (comA g L) := by
  by_cases h : n = 0
  · subst h
    rw [comA_mem 0 hL, if_pos rfl, List.drop_zero]
  · rw [comA_mem n hL, comA_mem i hL, if_neg h, if_neg (by omega), comA_drop (by omega)]
    exact memC_plain _ _ (L - n) n (by omega)
theorem comA_slc {g : List Int} {L n i : Nat} (hn : n < i) (hi : i ≤ L) : slcC n ((comA g L).drop n) i 3 = slcC 0 (comA g L) i 3 := by
  unfold slcC
  rw [if_neg (by rw [List.length_drop, comA_len]; omega), if_neg (by rw [comA_len]; omega), List.drop_drop]
  congr 2
  omega
end Go.Proofs.Ytmbekpoelkcceaa
