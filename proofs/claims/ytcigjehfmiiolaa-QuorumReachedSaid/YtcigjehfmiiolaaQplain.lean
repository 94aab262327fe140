/- What a falling sort tells of majorities: plain lists; no statement. -/
import Derived.Test.YtcigjehfmiiolaaQcom0
set_option linter.unusedVariables false
namespace Go.Proofs.Ytcigjehfmiiolaa
open Go Go.Eng

theorem gD {l : List Int} {k : Nat} (h : k < l.length) : l.getD k 0 = l[k] := by rw [List.getD_eq_getElem?_getD, List.getElem?_eq_getElem h]; rfl
theorem swp_perm {l : List Int} {j : Nat} (h : j + 1 < l.length) : (swp l (j + 1)).Perm l := by
  unfold swp
  rw [Nat.add_sub_cancel, gD (show j < l.length by omega), gD h]
  exact List.set_set_perm h (by omega)
theorem bub_perm : ∀ (j : Nat) (l : List Int), j < l.length → (bub l j).Perm l
  | 0, l, _ => .refl _
  | j + 1, l, h => by
    by_cases hc : l.getD (j + 1) 0 > l.getD j 0
    · rw [bub_pos hc]
      exact (bub_perm j _ (by rw [swp_len]; omega)).trans (swp_perm h)
    · rw [bub_neg hc]
theorem ins_perm (l : List Int) : ∀ k, k < l.length → (ins l k).Perm l
  | 0, _ => .refl _
  | k + 1, h => by
    unfold ins
    exact (bub_perm (k + 1) _ (by rw [ins_len]; exact h)).trans (ins_perm l k (by omega))

theorem swp_get {l : List Int} {j : Nat} (h : j + 1 < l.length) (i : Nat) : (swp l (j + 1)).getD i 0 = if i = j then l.getD (j + 1) 0 else if i = j + 1 then l.getD j 0 else l.getD i 0 := by
  unfold swp
  rw [Nat.add_sub_cancel]
  by_cases h1 : i = j
  · subst h1
    rw [if_pos rfl, List.getD_eq_getElem?_getD, List.getElem?_set_self (by rw [List.length_set]; omega)]; rfl
  · rw [if_neg h1, List.getD_eq_getElem?_getD, List.getElem?_set_ne (fun e => h1 e.symm)]
    by_cases h2 : i = j + 1
    · subst h2
      rw [if_pos rfl, List.getElem?_set_self h]; rfl
    · rw [if_neg h2, List.getElem?_set_ne (fun e => h2 e.symm), ← List.getD_eq_getElem?_getD]

/-- The first ones fall. -/
def FP (l : List Int) (m : Nat) : Prop := ∀ i, i + 1 < m → l.getD (i + 1) 0 ≤ l.getD i 0
theorem FP.le {l : List Int} {m : Nat} (h : FP l m) : ∀ (d i : Nat), i + d < m → l.getD (i + d) 0 ≤ l.getD i 0
  | 0, i, _ => Int.le_refl _
  | d + 1, i, hd => by
    have h1 := FP.le h d i (by omega)
    have h2 := h (i + d) (by omega)
    exact Int.le_trans h2 h1
theorem FP.le' {l : List Int} {m : Nat} (h : FP l m) {i j : Nat} (hij : i ≤ j) (hj : j < m) : l.getD j 0 ≤ l.getD i 0 := by
  have := h.le (j - i) i (by omega)
  rwa [show i + (j - i) = j by omega] at this
theorem bub_above : ∀ (j : Nat) (l : List Int), j < l.length → ∀ i, j < i → (bub l j).getD i 0 = l.getD i 0
  | 0, l, _, i, _ => rfl
  | j + 1, l, h, i, hi => by
    by_cases hc : l.getD (j + 1) 0 > l.getD j 0
    · rw [bub_pos hc, bub_above j _ (by rw [swp_len]; omega) i (by omega), swp_get h, if_neg (by omega), if_neg (by omega)]
    · rw [bub_neg hc]
theorem bub_low : ∀ (j : Nat) (l : List Int) (c : Int), j < l.length → (∀ i, i ≤ j → c ≤ l.getD i 0) → ∀ i, i ≤ j → c ≤ (bub l j).getD i 0
  | 0, l, c, _, hc, i, hi => hc i hi
  | j + 1, l, c, h, hc, i, hi => by
    by_cases hg : l.getD (j + 1) 0 > l.getD j 0
    · rw [bub_pos hg]
      by_cases hij : i ≤ j
      · refine bub_low j _ c (by rw [swp_len]; omega) (fun k hk => ?_) i hij
        rw [swp_get h]
        split
        · exact hc _ (by omega)
        · rw [if_neg (by omega)]; exact hc _ (by omega)
      · rw [bub_above j _ (by rw [swp_len]; omega) i (by omega), swp_get h, if_neg (by omega), if_pos (by omega)]
        exact hc _ (by omega)
    · rw [bub_neg hg]; exact hc i hi
theorem bub_fp : ∀ (j : Nat) (l : List Int), j < l.length → FP l j → FP (bub l j) (j + 1)
  | 0, l, _, _ => fun i hi => by omega
  | j + 1, l, h, hf => by
    by_cases hg : l.getD (j + 1) 0 > l.getD j 0
    · rw [bub_pos hg]
      have hs : FP (swp l (j + 1)) j := fun i hi => by
        rw [swp_get h, swp_get h, if_neg (by omega), if_neg (by omega), if_neg (by omega), if_neg (by omega)]
        exact hf i (by omega)
      have ih := bub_fp j _ (by rw [swp_len]; omega) hs
      intro i hi
      by_cases hij : i + 1 < j + 1
      · exact ih i hij
      · have e : i = j := by omega
        subst e
        rw [bub_above i _ (by rw [swp_len]; omega) (i + 1) (by omega), swp_get h, if_neg (by omega), if_pos rfl]
        refine bub_low i _ _ (by rw [swp_len]; omega) (fun k hk => ?_) i (Nat.le_refl _)
        rw [swp_get h]
        split
        · omega
        · rw [if_neg (by omega)]
          exact hf.le' hk (by omega)
    · rw [bub_neg hg]
      intro i hi
      by_cases hij : i + 1 < j + 1
      · exact hf i hij
      · have e : i = j := by omega
        subst e
        omega
theorem ins_fp (l : List Int) : ∀ k, k < l.length → FP (ins l k) (k + 1)
  | 0, _ => fun i hi => by omega
  | k + 1, h => by
    unfold ins
    exact bub_fp (k + 1) _ (by rw [ins_len]; exact h) (ins_fp l k (by omega))

/-- How many are as great as this. -/
def cge (l : List Int) (v : Int) : Nat := (l.filter fun x => decide (x ≥ v)).length
theorem cge_perm {l m : List Int} (h : l.Perm m) (v : Int) : cge l v = cge m v := (h.filter _).length_eq
theorem cge_app (l m : List Int) (v : Int) : cge (l ++ m) v = cge l v + cge m v := by simp [cge]
theorem cge_all {l : List Int} {v : Int} (h : ∀ x ∈ l, x ≥ v) : cge l v = l.length := by
  unfold cge
  rw [List.filter_eq_self.2 fun x hx => by simpa using h x hx]
theorem cge_none {l : List Int} {v : Int} (h : ∀ x ∈ l, x < v) : cge l v = 0 := by
  unfold cge
  rw [List.filter_eq_nil_iff.2 fun x hx => by have := h x hx; simp; omega]; rfl
theorem mem_getD {l : List Int} {x : Int} (h : x ∈ l) : ∃ k, k < l.length ∧ l.getD k 0 = x := by
  obtain ⟨k, hk⟩ := List.getElem?_of_mem h
  have hl := (List.getElem?_eq_some_iff.1 hk).1
  exact ⟨k, hl, by rw [List.getD_eq_getElem?_getD, hk]; rfl⟩
theorem fall_cge {s : List Int} (hf : FP s s.length) {h : Nat} (h0 : h < s.length) : h + 1 ≤ cge s (s.getD h 0) ∧ ∀ w, w > s.getD h 0 → cge s w ≤ h := by
  constructor
  · have e : s = s.take (h + 1) ++ s.drop (h + 1) := (List.take_append_drop ..).symm
    have a : cge (s.take (h + 1)) (s.getD h 0) = (s.take (h + 1)).length := cge_all fun x hx => by
      obtain ⟨k, hk, rfl⟩ := mem_getD hx
      rw [List.length_take] at hk
      rw [getD_take (by omega)]
      exact hf.le' (by omega) h0
    rw [List.length_take] at a
    have : cge s (s.getD h 0) = cge (s.take (h + 1)) (s.getD h 0) + cge (s.drop (h + 1)) (s.getD h 0) := by rw [← cge_app, List.take_append_drop]
    omega
  · intro w hw
    have a : cge (s.drop h) w = 0 := cge_none fun x hx => by
      obtain ⟨k, hk, rfl⟩ := mem_getD hx
      rw [List.length_drop] at hk
      have : (s.drop h).getD k 0 = s.getD (h + k) 0 := by rw [List.getD_eq_getElem?_getD, List.getElem?_drop, ← List.getD_eq_getElem?_getD]
      rw [this]
      have := hf.le' (i := h) (j := h + k) (by omega) (by omega)
      omega
    have b : cge (s.take h) w ≤ h := by
      refine Nat.le_trans (List.length_filter_le ..) ?_
      rw [List.length_take]; omega
    have : cge s w = cge (s.take h) w + cge (s.drop h) w := by rw [← cge_app, List.take_append_drop]
    omega
/-- The one in the middle of the sorted ones. -/
def midI (r : List Int) : Int := (ins r (r.length - 1)).getD (r.length / 2) 0
theorem mid_cge {r : List Int} (h : 0 < r.length) : r.length / 2 + 1 ≤ cge r (midI r) ∧ ∀ w, w > midI r → cge r w ≤ r.length / 2 := by
  have hp := ins_perm r (r.length - 1) (by omega)
  have hf := ins_fp r (r.length - 1) (by omega)
  have hl := ins_len r (r.length - 1)
  rw [show r.length - 1 + 1 = (ins r (r.length - 1)).length by omega] at hf
  have := fall_cge hf (h := r.length / 2) (by omega)
  rw [cge_perm hp] at this
  exact ⟨this.1, fun w hw => by rw [← cge_perm hp]; exact this.2 w hw⟩
theorem mid_mem {r : List Int} (h : 0 < r.length) : midI r ∈ r := by
  have hp := ins_perm r (r.length - 1) (by omega)
  have hl := ins_len r (r.length - 1)
  refine hp.mem_iff.1 ?_
  unfold midI
  exact List.mem_of_getElem? (getD_get (by omega))

/-- The greatest one of those that may be. -/
def bestF (P : Int → Bool) : List Int → Int → Int
  | [], b => b
  | x :: r, b => bestF P r (bif P x && decide (x > b) then x else b)
theorem best_ge (P : Int → Bool) : ∀ (q : List Int) (b : Int), b ≤ bestF P q b ∧ ∀ x ∈ q, P x = true → x ≤ bestF P q b
  | [], b => ⟨Int.le_refl _, fun x hx => by cases hx⟩
  | x :: r, b => by
    have ih := best_ge P r (bif P x && decide (x > b) then x else b)
    unfold bestF
    cases hp : P x with
    | false =>
      simp only [hp, Bool.false_and, cond_false] at ih ⊢
      refine ⟨ih.1, fun y hy hy' => ?_⟩
      rcases List.mem_cons.1 hy with rfl | hy
      · rw [hp] at hy'; cases hy'
      · exact ih.2 y hy hy'
    | true =>
      simp only [hp, Bool.true_and] at ih ⊢
      by_cases hx : x > b
      · simp only [decide_eq_true hx, cond_true] at ih ⊢
        refine ⟨by omega, fun y hy hy' => ?_⟩
        rcases List.mem_cons.1 hy with rfl | hy
        · exact ih.1
        · exact ih.2 y hy hy'
      · simp only [decide_eq_false hx, cond_false] at ih ⊢
        refine ⟨ih.1, fun y hy hy' => ?_⟩
        rcases List.mem_cons.1 hy with rfl | hy
        · omega
        · exact ih.2 y hy hy'
theorem best_in (P : Int → Bool) : ∀ (q : List Int) (b : Int), bestF P q b = b ∨ ∃ x ∈ q, P x = true ∧ bestF P q b = x
  | [], b => .inl rfl
  | x :: r, b => by
    unfold bestF
    rcases best_in P r (bif P x && decide (x > b) then x else b) with h | ⟨y, h1, h2, h3⟩
    · rw [h]
      cases hp : P x with
      | false => left; simp
      | true =>
        by_cases hx : x > b
        · right; exact ⟨x, List.mem_cons_self .., hp, by simp [hx]⟩
        · left; simp [hx]
    · exact .inr ⟨y, List.mem_cons_of_mem _ h1, h2, h3⟩
theorem best_app (P : Int → Bool) : ∀ (q : List Int) (x b : Int), bestF P (q ++ [x]) b = (bif P x && decide (x > bestF P q b) then x else bestF P q b)
  | [], x, b => rfl
  | y :: r, x, b => by
    show bestF P (r ++ [x]) _ = _
    rw [best_app P r]; rfl

/-- Some of the numbers, the rest naught. -/
def padI (n : Nat) (m : List Int) : List Int := m.take n ++ List.replicate (n - (m.take n).length) 0
theorem pad_len (n : Nat) (m : List Int) : (padI n m).length = n := by
  unfold padI
  rw [List.length_append, List.length_replicate, List.length_take]; omega
theorem pad_cge {n : Nat} {m : List Int} {v : Int} (hv : v > 0) : cge (padI n m) v = cge (m.take n) v := by
  unfold padI
  rw [cge_app, cge_none (l := List.replicate _ _) (fun x hx => by rw [(List.mem_replicate.1 hx).2]; exact hv)]; rfl
theorem commit_same {n : Nat} (hn : 0 < n) {m : List Int} (hm : ∀ x ∈ m, (0 : Int) ≤ x) : midI (padI n m) = bestF (fun x => decide (cge (m.take n) x ≥ n / 2 + 1)) (m.take n) 0 := by
  have hl := pad_len n m
  have hq : ∀ x ∈ m.take n, (0 : Int) ≤ x := fun x hx => hm x (List.mem_of_mem_take hx)
  have hmid := mid_cge (r := padI n m) (by omega)
  have hmem := mid_mem (r := padI n m) (by omega)
  rw [hl] at hmid
  obtain ⟨h1, h2⟩ := best_ge (fun x => decide (cge (m.take n) x ≥ n / 2 + 1)) (m.take n) 0
  have hv0 : (0 : Int) ≤ midI (padI n m) := by
    unfold padI at hmem ⊢
    rcases List.mem_append.1 hmem with h | h
    · exact hq _ h
    · rw [(List.mem_replicate.1 h).2]; exact Int.le_refl _
  refine Int.le_antisymm ?_ ?_
  · by_cases hz : midI (padI n m) = 0
    · rw [hz]; exact h1
    · have hpos : midI (padI n m) > 0 := by omega
      refine h2 _ ?_ (by rw [decide_eq_true_eq, ← pad_cge hpos]; exact hmid.1)
      unfold padI at hmem hpos ⊢
      rcases List.mem_append.1 hmem with h | h
      · exact h
      · have := (List.mem_replicate.1 h).2; omega
  · rcases best_in (fun x => decide (cge (m.take n) x ≥ n / 2 + 1)) (m.take n) 0 with h | ⟨x, hx, hp, h⟩
    · rw [h]; exact hv0
    · rw [h]
      simp only [decide_eq_true_eq] at hp
      by_cases hx0 : x > 0
      · apply Int.not_lt.1
        intro hlt
        have := hmid.2 x hlt
        rw [pad_cge hx0] at this
        omega
      · omega
end Go.Proofs.Ytcigjehfmiiolaa
