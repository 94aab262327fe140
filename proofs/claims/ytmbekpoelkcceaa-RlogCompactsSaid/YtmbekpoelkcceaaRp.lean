/- Two leaders' logs, and what a follower has of them: plain; no statement. -/
import Derived.Test.YtmbekpoelkcceaaRows2
set_option linter.unusedVariables false
set_option linter.unusedSimpArgs false
namespace Go.Proofs.Ytmbekpoelkcceaa
open Go Go.Eng

abbrev eIx (e : rEntry.den) : Int := e.1
abbrev eTm (e : rEntry.den) : Int := e.2.1
abbrev evI (ev : Bool) : Int := if ev then 1 else 0

/-- A leader's term behind so many entries. -/
def ldTm (n : Nat) (g : List Int) (ev : Bool) : Nat → Int
  | 0 => 1
  | k + 1 => if k < n then ldTm n g ev k + 2 * (g.getD k 0 % 2) else (if k = n then ldTm n g ev k + 2 + evI ev else ldTm n g ev k) + 2 * (g.getD k 0 % 3)
def ldCmd (n : Nat) (ev : Bool) (k : Nat) : rCmd.den := (0, 0, (k : Int), (if k < n then (0 : Int) else 1 + evI ev), rCmd.dflt.2.2.2.2)
def ldEnt (n : Nat) (g : List Int) (ev : Bool) (k : Nat) : rEntry.den := ((k : Int) + 1, ldTm n g ev (k + 1), (1 : Int), ldCmd n ev k, [], ())
/-- A leader's first entries. -/
def ldTo (n : Nat) (g : List Int) (ev : Bool) (k : Nat) : List rEntry.den := (List.range k).map (ldEnt n g ev)

theorem ldTo_len {n : Nat} {g : List Int} {ev : Bool} {k : Nat} : (ldTo n g ev k).length = k := by simp [ldTo]
theorem ldTo_get {n : Nat} {g : List Int} {ev : Bool} {k i : Nat} : (ldTo n g ev k)[i]? = if i < k then some (ldEnt n g ev i) else none := by
  unfold ldTo
  rw [List.getElem?_map]
  by_cases h : i < k
  · rw [if_pos h, List.getElem?_range h]; rfl
  · rw [if_neg h, List.getElem?_eq_none (by simp; omega)]; rfl
theorem ldTo_getD {n : Nat} {g : List Int} {ev : Bool} {k i : Nat} {d : rEntry.den} (h : i < k) : (ldTo n g ev k).getD i d = ldEnt n g ev i := by
  rw [List.getD_eq_getElem?_getD, ldTo_get, if_pos h]; rfl
theorem ldTo_succ {n : Nat} {g : List Int} {ev : Bool} {k : Nat} : ldTo n g ev (k + 1) = ldTo n g ev k ++ [ldEnt n g ev k] := by
  simp [ldTo, List.range_succ]
theorem ldTo_take {n : Nat} {g : List Int} {ev : Bool} {k m : Nat} (h : m ≤ k) : (ldTo n g ev k).take m = ldTo n g ev m := by
  apply List.ext_getElem?
  intro i
  rw [List.getElem?_take, ldTo_get, ldTo_get]
  by_cases hi : i < m
  · rw [if_pos hi, if_pos (by omega), if_pos hi]
  · rw [if_neg hi, if_neg hi]
theorem ldTo_drop {n : Nat} {g : List Int} {ev : Bool} {k i : Nat} (h : i < k) : (ldTo n g ev k).drop i = ldEnt n g ev i :: (ldTo n g ev k).drop (i + 1) := by
  have h1 : i < (ldTo n g ev k).length := by rw [ldTo_len]; exact h
  rw [List.drop_eq_getElem_cons h1]
  congr 1
  have := ldTo_get (n := n) (g := g) (ev := ev) (k := k) (i := i)
  rw [if_pos h, List.getElem?_eq_getElem h1] at this
  exact Option.some.inj this

/-! ### Terms -/
theorem ldTm_le {n : Nat} {g : List Int} {ev : Bool} (hg : ∀ x ∈ g, (0 : Int) ≤ x) (k : Nat) : ldTm n g ev k ≤ ldTm n g ev (k + 1) := by
  have : 0 ≤ evI ev := by cases ev <;> decide
  have h2 : 0 ≤ g.getD k 0 % 2 := Int.emod_nonneg _ (by decide)
  have h3 : 0 ≤ g.getD k 0 % 3 := Int.emod_nonneg _ (by decide)
  simp only [ldTm]
  split
  · omega
  · split <;> omega
theorem ldTm_pos {n : Nat} {g : List Int} {ev : Bool} (hg : ∀ x ∈ g, (0 : Int) ≤ x) : ∀ k, 1 ≤ ldTm n g ev k
  | 0 => Int.le_refl _
  | k + 1 => Int.le_trans (ldTm_pos hg k) (ldTm_le hg k)
theorem ldTm_lt {n : Nat} {g : List Int} {ev : Bool} : ∀ k, ldTm n g ev k ≤ 1 + 4 * k + (if n < k then 3 else 0)
  | 0 => by simp [ldTm]
  | k + 1 => by
    have ih := ldTm_lt (n := n) (g := g) (ev := ev) k
    have h2 : g.getD k 0 % 2 < 2 := Int.emod_lt_of_pos _ (by decide)
    have h3 : g.getD k 0 % 3 < 3 := Int.emod_lt_of_pos _ (by decide)
    have h0 : evI ev ≤ 1 := by cases ev <;> decide
    simp only [ldTm]
    split
    · rw [if_neg (by omega)] at ih
      rw [if_neg (by omega)]
      omega
    · rw [if_pos (show n < k + 1 by omega)]
      split
      · subst_vars
        rw [if_neg (by omega)] at ih
        omega
      · rw [if_pos (by omega)] at ih
        omega
/-- Up to the place they share they are the same; behind it, the one's are odd and the other's even. -/
theorem ldTm_shared {n : Nat} {g : List Int} (ev ev' : Bool) : ∀ k, k ≤ n → ldTm n g ev k = ldTm n g ev' k
  | 0, _ => rfl
  | k + 1, h => by
    simp only [ldTm]
    rw [if_pos (by omega), if_pos (by omega), ldTm_shared ev ev' k (by omega)]
theorem ldTm_odd {n : Nat} {g : List Int} {ev : Bool} : ∀ k, ldTm n g ev k % 2 = if n < k then (1 + evI ev) % 2 else 1
  | 0 => by simp [ldTm]
  | k + 1 => by
    have ih := ldTm_odd (n := n) (g := g) (ev := ev) k
    have h0 : evI ev = 0 ∨ evI ev = 1 := by cases ev <;> decide
    simp only [ldTm]
    split
    · rw [if_neg (by omega)] at ih
      rw [if_neg (by omega)]
      omega
    · rw [if_pos (show n < k + 1 by omega)]
      split
      · rw [if_neg (by omega)] at ih
        omega
      · rw [if_pos (by omega)] at ih
        omega
theorem ldTm_meet {n : Nat} {g : List Int} {ev ev' : Bool} {k : Nat} (h : ldTm n g ev k = ldTm n g ev' k) : k ≤ n ∨ ev = ev' := by
  by_cases hk : k ≤ n
  · exact .inl hk
  · right
    have h1 := ldTm_odd (n := n) (g := g) (ev := ev) k
    have h2 := ldTm_odd (n := n) (g := g) (ev := ev') k
    rw [if_pos (by omega)] at h1 h2
    rw [h, h2] at h1
    cases ev <;> cases ev' <;> first | rfl | (revert h1; decide)
theorem ldEnt_same {n : Nat} {g : List Int} {ev ev' : Bool} {k : Nat} (h : k < n ∨ ev = ev') : ldEnt n g ev k = ldEnt n g ev' k := by
  rcases h with h | h
  · simp only [ldEnt, ldCmd, if_pos h]
    rw [ldTm_shared ev ev' (k + 1) (by omega)]
  · rw [h]
theorem ldTo_same {n : Nat} {g : List Int} {ev ev' : Bool} {k : Nat} (h : k ≤ n ∨ ev = ev') : ldTo n g ev k = ldTo n g ev' k := by
  apply List.ext_getElem?
  intro i
  rw [ldTo_get, ldTo_get]
  by_cases hi : i < k
  · rw [if_pos hi, if_pos hi, ldEnt_same (h.imp (fun h => by omega) id)]
  · rw [if_neg hi, if_neg hi]
/-- The same term at a place: the same log up to there. -/
theorem ldTo_agree {n : Nat} {g : List Int} {ev ev' : Bool} {k : Nat} (h : ldTm n g ev k = ldTm n g ev' k) : ldTo n g ev k = ldTo n g ev' k := ldTo_same (ldTm_meet h)

/-! ### What a follower does (its base is zero) -/
/-- Do entries follow a place? -/
def followD (index term : Int) : List rEntry.den → Bool
  | [] => true
  | e :: r => !(decide (e.1 = 0) || decide (e.1 ≠ index + 1) || decide (e.2.1 < max term 1) || (decide (e.2.2.1 = 2) && List.isEmpty e.2.2.2.2.1)) && followD e.1 e.2.1 r
/-- Has a list at an index such a term? -/
def hasT (x : List rEntry.den) (i t : Int) : Bool := if i = 0 then decide (t = 0) else decide (i ≤ x.length) && decide ((x.getD (i.toNat - 1) rEntry.dflt).2.1 = t)
def putL (x : List rEntry.den) : List rEntry.den → List rEntry.den × Int
  | [] => (x, 0)
  | e :: r => if hasT x e.1 e.2.1 then putL x r else (x.take (e.1.toNat - 1) ++ e :: r, e.1)

abbrev tmAt (n : Nat) (g : List Int) (ev : Bool) (k : Nat) : Int := if k = 0 then 0 else ldTm n g ev k

theorem followD_ld (n : Nat) (g : List Int) (ev : Bool) (i : Nat) (t : Int) (r : List rEntry.den) : followD i t (ldEnt n g ev i :: r) =
    (!(decide ((i : Int) + 1 = 0) || decide ((i : Int) + 1 ≠ (i : Int) + 1) || decide (ldTm n g ev (i + 1) < max t 1) || (decide ((1 : Int) = 2) && true)) && followD ((i : Int) + 1) (ldTm n g ev (i + 1)) r) := rfl
theorem ldTo_nil {n : Nat} {g : List Int} {ev : Bool} {m i : Nat} (h : m ≤ i) : (ldTo n g ev m).drop i = [] := List.drop_of_length_le (by rw [ldTo_len]; exact h)
theorem follow_ld {n : Nat} {g : List Int} {ev : Bool} (hg : ∀ x ∈ g, (0 : Int) ≤ x) {m : Nat} : ∀ (j i : Nat), i + j = m → followD i (tmAt n g ev i) ((ldTo n g ev m).drop i) = true
  | 0, i, h => by rw [ldTo_nil (by omega)]; rfl
  | j + 1, i, h => by
    rw [ldTo_drop (k := m) (i := i) (by omega), followD_ld]
    have ih := follow_ld (n := n) (ev := ev) (m := m) hg j (i + 1) (by omega)
    have hle := ldTm_le (n := n) (ev := ev) hg i
    have hp := ldTm_pos (n := n) (ev := ev) hg (i + 1)
    have e : ((i + 1 : Nat) : Int) = (i : Int) + 1 := by omega
    have et : tmAt n g ev (i + 1) = ldTm n g ev (i + 1) := if_neg (by omega)
    rw [e, et] at ih
    rw [ih]
    have h1 : decide ((i : Int) + 1 = 0) = false := decide_eq_false (by omega)
    have h2 : decide ((i : Int) + 1 ≠ (i : Int) + 1) = false := decide_eq_false (fun h => h rfl)
    have h3 : decide (ldTm n g ev (i + 1) < max (tmAt n g ev i) 1) = false := decide_eq_false (by
      unfold tmAt
      split <;> omega)
    rw [h1, h2, h3]
    rfl
theorem hasT_pos {x : List rEntry.den} {i t : Int} (hi : i ≠ 0) : hasT x i t = true ↔ i ≤ (x.length : Int) ∧ eTm (x.getD (i.toNat - 1) rEntry.dflt) = t := by
  unfold hasT
  rw [if_neg hi, Bool.and_eq_true, decide_eq_true_eq, decide_eq_true_eq]
theorem hasT_ldp {n : Nat} {g : List Int} {ev : Bool} {m i : Nat} {t : Int} : hasT (ldTo n g ev m) ((i + 1 : Nat) : Int) t = true ↔ i < m ∧ ldTm n g ev (i + 1) = t := by
  rw [hasT_pos (by omega), ldTo_len]
  have e : (((i + 1 : Nat) : Int)).toNat - 1 = i := by omega
  rw [e]
  constructor
  · intro ⟨h1, h2⟩
    have h1 : i < m := by omega
    rw [ldTo_getD h1] at h2
    exact ⟨h1, h2⟩
  · intro ⟨h1, h2⟩
    rw [ldTo_getD h1]
    exact ⟨by omega, h2⟩
theorem hasT_ld {n : Nat} {g : List Int} {ev ev' : Bool} {m i : Nat} (h : hasT (ldTo n g ev m) i (tmAt n g ev' i) = true) : i ≤ m ∧ ldTo n g ev i = ldTo n g ev' i := by
  cases i with
  | zero => exact ⟨Nat.zero_le _, rfl⟩
  | succ i =>
    obtain ⟨h1, h2⟩ := hasT_ldp.1 h
    rw [show tmAt n g ev' (i + 1) = ldTm n g ev' (i + 1) from if_neg (by omega)] at h2
    exact ⟨h1, ldTo_agree h2⟩

theorem putL_ld (x : List rEntry.den) (n : Nat) (g : List Int) (ev : Bool) (i : Nat) (r : List rEntry.den) : putL x (ldEnt n g ev i :: r) =
    if hasT x ((i + 1 : Nat) : Int) (ldTm n g ev (i + 1)) then putL x r else (x.take ((((i + 1 : Nat) : Int)).toNat - 1) ++ ldEnt n g ev i :: r, ((i + 1 : Nat) : Int)) := rfl
/-- What is put behind a place that agrees: the log stays, being so already, or is the leader's up to there. -/
theorem put_ld {n : Nat} {g : List Int} {ev ev' : Bool} {m to : Nat} : ∀ (j i : Nat), i + j = to → i ≤ m → ldTo n g ev i = ldTo n g ev' i →
    (putL (ldTo n g ev m) ((ldTo n g ev' to).drop i) = (ldTo n g ev m, 0) ∧ to ≤ m ∧ ldTo n g ev to = ldTo n g ev' to) ∨ (∃ f, putL (ldTo n g ev m) ((ldTo n g ev' to).drop i) = (ldTo n g ev' to, f))
  | 0, i, h, him, hag => by
    left
    have : i = to := by omega
    subst this
    rw [ldTo_nil (Nat.le_refl _)]
    exact ⟨rfl, him, hag⟩
  | j + 1, i, h, him, hag => by
    rw [ldTo_drop (k := to) (i := i) (by omega), putL_ld]
    by_cases hh : hasT (ldTo n g ev m) ((i + 1 : Nat) : Int) (ldTm n g ev' (i + 1)) = true
    · rw [if_pos hh]
      obtain ⟨h1, h2⟩ := hasT_ldp.1 hh
      exact put_ld j (i + 1) (by omega) h1 (ldTo_agree h2)
    · rw [if_neg hh]
      right
      refine ⟨((i + 1 : Nat) : Int), ?_⟩
      have e : (((i + 1 : Nat) : Int)).toNat - 1 = i := by omega
      rw [e, ldTo_take him, hag, ← ldTo_drop (k := to) (i := i) (by omega), ← ldTo_take (k := to) (m := i) (by omega), List.take_append_drop]

/-- A log that has a first part of the one leader's or the other's keeps so, and says what that leader's says. -/
theorem put_ld' {n : Nat} {g : List Int} {ev ev' : Bool} {m fr to : Nat} (hft : fr ≤ to) (hag : hasT (ldTo n g ev m) fr (tmAt n g ev' fr) = true) :
    ∃ ev2 m2 f, putL (ldTo n g ev m) ((ldTo n g ev' to).drop fr) = (ldTo n g ev2 m2, f) ∧ to ≤ m2 ∧ ldTo n g ev2 to = ldTo n g ev' to ∧ m2 ≤ max m to := by
  obtain ⟨h1, h2⟩ := hasT_ld hag
  rcases put_ld (to := to) (to - fr) fr (by omega) h1 h2 with ⟨h, h3, h4⟩ | ⟨f, h⟩
  · exact ⟨ev, m, 0, h, h3, h4, by omega⟩
  · exact ⟨ev', to, f, h, Nat.le_refl _, rfl, by omega⟩
theorem hasT_zero (x : List rEntry.den) : hasT x 0 0 = true := by simp [hasT]
end Go.Proofs.Ytmbekpoelkcceaa
