/- quorum.Check, and what it says; no statement. -/
import Derived.Test.YtcigjehfmiiolaaQeq
set_option linter.unusedVariables false
namespace Go.Proofs.Ytcigjehfmiiolaa
open Go Go.Eng

theorem allI {cs : List Bool} (h : (cs.all fun c => c) = true) : ∀ c ∈ cs, c = true := fun c hc => List.all_eq_true.1 h c hc

def noneI (l : List Int) : Bool := hasI l 0 == false && (hasI l 1 == false && (hasI l 2 == false && (hasI l 3 == false && (hasI l 4 == false && true))))
def lstI (l : List Int) : List Int := listB (hasI l 0) (hasI l 1) (hasI l 2) (hasI l 3) (hasI l 4)
def mayB (l : List Int) : Bool := l.all in5 && (!(noneI l) && decide (lstI l = l))
def chkI (l : List Int) : Int := bif mayB l then 0 else 2

theorem check_pure (l : List Int) : PureCall Try.prog 16 [vL cI l] (vI (chkI l)) := by
  refine PureCall.facts' (by kernel_rfl) fun ⟨X, vs, hX, hv⟩ => ?_
  have hlen : l.length ≤ 9223372036854775807 := len_of hv 0 rfl
  unfold chkI mayB
  cases h1 : l.all in5 with
  | false => exact EEq.pure_ok (os := [false, true]) (cs := [(!false) == true, decide ((0 : Int) = 0), decide ((l.length : Int) = l.length), decide (l.length ≤ maxLen), l.all in5 == false]) (by kernel_rfl) (allI (by simp [h1, maxLen, hlen]))
  | true =>
    cases h2 : noneI l with
    | true => exact EEq.pure_ok (os := [true, false, false, false, false, true, true, true, true, true, true, true]) (cs := [true == true, noneI l == true, noneI l == true, noneI l == true, noneI l == true, noneI l == true, noneI l == true, (!true) == false, (!true) == false, (!true) == false, (!true) == false, decide ((0 : Int) = 0), decide ((l.length : Int) = l.length), decide (l.length ≤ maxLen), l.all in5 == true]) (by kernel_rfl) (allI (by simp [h1, h2, maxLen, hlen]))
    | false =>
      by_cases h3 : lstI l = l
      · rw [decide_eq_true h3]
        exact EEq.pure_ok (os := [true, false, false, false, false, false, false, false, false, false, false, false]) (cs := [(!decide (lstI l = l)) == false, noneI l == false, noneI l == false, noneI l == false, noneI l == false, noneI l == false, noneI l == false, (!true) == false, (!true) == false, (!true) == false, (!true) == false, decide ((0 : Int) = 0), decide ((l.length : Int) = l.length), decide (l.length ≤ maxLen), l.all in5 == true]) (by kernel_rfl) (allI (by simp [h1, h2, h3, maxLen, hlen]))
      · rw [decide_eq_false h3]
        exact EEq.pure_ok (os := [true, false, false, false, false, false, false, false, false, false, false, true]) (cs := [(!decide (lstI l = l)) == true, noneI l == false, noneI l == false, noneI l == false, noneI l == false, noneI l == false, noneI l == false, (!true) == false, (!true) == false, (!true) == false, (!true) == false, decide ((0 : Int) = 0), decide ((l.length : Int) = l.length), decide (l.length ≤ maxLen), l.all in5 == true]) (by kernel_rfl) (allI (by simp [h1, h2, h3, maxLen, hlen]))

/-! ### The lists that may be -/
def sortI : List Int → Bool
  | a :: b :: r => decide (a < b) && sortI (b :: r)
  | _ => true
theorem sortI_tail {a : Int} {r : List Int} (h : sortI (a :: r) = true) : sortI r = true ∧ ∀ x ∈ r, a < x := by
  induction r generalizing a with
  | nil => exact ⟨rfl, fun x hx => by cases hx⟩
  | cons b r ih =>
    simp only [sortI, Bool.and_eq_true, decide_eq_true_eq] at h
    refine ⟨h.2, fun x hx => ?_⟩
    rcases List.mem_cons.1 hx with rfl | hx
    · exact h.1
    · have := (ih h.2).2 x hx; omega
theorem sort_step {a : Int} {l : List Int} (hs : sortI l = true) (h : ∀ x ∈ l, a ≤ x ∧ x < 5) :
    (∃ r, l = a :: r ∧ sortI r = true ∧ ∀ x ∈ r, a + 1 ≤ x ∧ x < 5) ∨ (∀ x ∈ l, a + 1 ≤ x ∧ x < 5) := by
  cases l with
  | nil => exact .inr fun x hx => by cases hx
  | cons b r =>
    obtain ⟨h1, h2⟩ := sortI_tail hs
    by_cases hb : b = a
    · subst hb
      exact .inl ⟨r, rfl, h1, fun x hx => ⟨by have := h2 x hx; omega, (h x (List.mem_cons_of_mem _ hx)).2⟩⟩
    · refine .inr fun x hx => ?_
      have hba := (h b (List.mem_cons_self ..)).1
      rcases List.mem_cons.1 hx with rfl | hx'
      · exact ⟨by omega, (h x hx).2⟩
      · exact ⟨by have := h2 x hx'; omega, (h x hx).2⟩
/-- A rising list of nodes: which ones. -/
theorem sort_list {l : List Int} (hs : sortI l = true) (h : l.all in5 = true) : ∃ p q r s t, l = listB p q r s t := by
  have h0 : ∀ x ∈ l, (0 : Int) ≤ x ∧ x < 5 := fun x hx => by simpa [in5] using List.all_eq_true.1 h x hx
  have last : ∀ {l : List Int}, sortI l = true → (∀ x ∈ l, (0 + 1 + 1 + 1 + 1 + 1 : Int) ≤ x ∧ x < 5) → l = [] := fun {l} _ h => by
    cases l with
    | nil => rfl
    | cons a r => have := h a (List.mem_cons_self ..); omega
  have s4 : ∀ {l : List Int}, sortI l = true → (∀ x ∈ l, (0 + 1 + 1 + 1 + 1 : Int) ≤ x ∧ x < 5) → ∃ t, l = listB false false false false t := fun {l} hs h => by
    rcases sort_step hs h with ⟨r, e, hr, hh⟩ | hh
    · exact ⟨true, by rw [e, last hr hh]; rfl⟩
    · exact ⟨false, by rw [last hs hh]; rfl⟩
  have s3 : ∀ {l : List Int}, sortI l = true → (∀ x ∈ l, (0 + 1 + 1 + 1 : Int) ≤ x ∧ x < 5) → ∃ s t, l = listB false false false s t := fun {l} hs h => by
    rcases sort_step hs h with ⟨r, e, hr, hh⟩ | hh
    · obtain ⟨t, et⟩ := s4 hr hh; exact ⟨true, t, by rw [e, et]; rfl⟩
    · obtain ⟨t, et⟩ := s4 hs hh; exact ⟨false, t, et⟩
  have s2 : ∀ {l : List Int}, sortI l = true → (∀ x ∈ l, (0 + 1 + 1 : Int) ≤ x ∧ x < 5) → ∃ r s t, l = listB false false r s t := fun {l} hs h => by
    rcases sort_step hs h with ⟨r, e, hr, hh⟩ | hh
    · obtain ⟨s, t, et⟩ := s3 hr hh; exact ⟨true, s, t, by rw [e, et]; rfl⟩
    · obtain ⟨s, t, et⟩ := s3 hs hh; exact ⟨false, s, t, et⟩
  have s1 : ∀ {l : List Int}, sortI l = true → (∀ x ∈ l, (0 + 1 : Int) ≤ x ∧ x < 5) → ∃ q r s t, l = listB false q r s t := fun {l} hs h => by
    rcases sort_step hs h with ⟨r, e, hr, hh⟩ | hh
    · obtain ⟨r, s, t, et⟩ := s2 hr hh; exact ⟨true, r, s, t, by rw [e, et]; rfl⟩
    · obtain ⟨r, s, t, et⟩ := s2 hs hh; exact ⟨false, r, s, t, et⟩
  rcases sort_step hs h0 with ⟨r, e, hr, hh⟩ | hh
  · obtain ⟨q, r, s, t, et⟩ := s1 hr hh; exact ⟨true, q, r, s, t, by rw [e, et]; rfl⟩
  · obtain ⟨q, r, s, t, et⟩ := s1 hs hh; exact ⟨false, q, r, s, t, et⟩
def mayR (l : List Int) : Bool := l.all in5 && (sortI l && !l.isEmpty)
theorem mayB_mayR (l : List Int) : mayB l = mayR l := by
  rw [Bool.eq_iff_iff]
  constructor
  · intro h
    simp only [mayB, Bool.and_eq_true, decide_eq_true_eq] at h
    obtain ⟨h1, h2, h3⟩ := h
    unfold mayR
    rw [h1, Bool.true_and]
    unfold noneI at h2
    rw [← h3]
    unfold lstI
    revert h2
    cases hasI l 0 <;> cases hasI l 1 <;> cases hasI l 2 <;> cases hasI l 3 <;> cases hasI l 4 <;> decide
  · intro h
    simp only [mayR, Bool.and_eq_true] at h
    obtain ⟨h1, h2, h3⟩ := h
    obtain ⟨p, q, r, s, t, rfl⟩ := sort_list h2 h1
    revert h3
    cases p <;> cases q <;> cases r <;> cases s <;> cases t <;> decide
/-- One that may be: which nodes. -/
theorem may_list {l : List Int} (h : mayB l = true) : ∃ p q r s t, l = listB p q r s t ∧ (p || q || r || s || t) = true := by
  rw [mayB_mayR] at h
  simp only [mayR, Bool.and_eq_true] at h
  obtain ⟨h1, h2, h3⟩ := h
  obtain ⟨p, q, r, s, t, rfl⟩ := sort_list h2 h1
  refine ⟨p, q, r, s, t, rfl, ?_⟩
  revert h3
  cases p <;> cases q <;> cases r <;> cases s <;> cases t <;> decide
theorem may_len {l : List Int} (h : mayB l = true) : 1 ≤ l.length ∧ l.length ≤ 5 := by
  obtain ⟨p, q, r, s, t, rfl, h⟩ := may_list h
  revert h
  cases p <;> cases q <;> cases r <;> cases s <;> cases t <;> decide

noncomputable def EMay : Env Try.prog := (EEq.addT1 16 [.one (.sl cI)] (fun d => vI (chkI d.1)) (fun _ => []) fun d _ => check_pure d.1).addT1 39 [.one (.sl cI), .one cI] (fun d => vI (idxI d.2.1 d.1 0)) (fun _ => []) fun d _ => index_pure d.1 d.2.1
end Go.Proofs.Ytcigjehfmiiolaa
