/- The order of cells: plain; no statement. -/
import Derived.Test.YtolhkkoakneflaaCmc
import Derived.Sort.Statements
import Derived.Shelf.SlSortCmp.Insertion
set_option linter.unusedVariables false
set_option linter.unusedSimpArgs false
namespace Go.Proofs.Ytolhkkoakneflaa
open Go Go.Eng Go.Sort

/-- A comparison. -/
structure Cmp3 {α : Type} (c : α → α → Int) : Prop where
  anti : ∀ x y, c y x = - c x y
  le : ∀ x y z, c x y ≤ 0 → c y z ≤ 0 → c x z ≤ 0
theorem Cmp3.on {α β : Type} {c : α → α → Int} (h : Cmp3 c) (f : β → α) : Cmp3 (fun x y => c (f x) (f y)) := ⟨fun x y => h.anti _ _, fun x y z => h.le _ _ _⟩
theorem Cmp3.lex {α : Type} {c d : α → α → Int} (h : Cmp3 c) (g : Cmp3 d) : Cmp3 (fun x y => bif c x y != 0 then c x y else d x y) := by
  have e : ∀ x y, (bif c x y != 0 then c x y else d x y) = if c x y = 0 then d x y else c x y := fun x y => by
    by_cases h0 : c x y = 0
    · rw [if_pos h0, h0]; rfl
    · rw [if_neg h0]
      have : (c x y != 0) = true := by simpa using h0
      rw [this]; rfl
  refine ⟨fun x y => ?_, fun x y z h1 h2 => ?_⟩
  · simp only [e]
    have h1 := h.anti x y
    have h2 := g.anti x y
    split <;> split <;> omega
  · simp only [e] at h1 h2 ⊢
    have a1 := h.anti x y
    have a2 := h.anti y z
    have a3 := h.anti x z
    have l1 := h.le x y z
    have l2 := h.le z x y
    have l3 := h.le y z x
    have l4 := g.le x y z
    split at h1 <;> split at h2 <;> split <;> omega
theorem Cmp3.swo {α : Type} {c : α → α → Int} (h : Cmp3 c) : SWO (ltOf c) where
  irrefl x := decide_eq_false (by have := h.anti x x; omega)
  trans x y z h1 h2 := by
    have h1 := of_decide_eq_true h1
    have h2 := of_decide_eq_true h2
    refine decide_eq_true ?_
    have a1 := h.anti x y
    have a2 := h.anti y z
    have a3 := h.anti x z
    have l1 := h.le z x y
    have l2 := h.le x y z
    omega
  ntrans x y z h1 h2 := by
    have h1 := of_decide_eq_false h1
    have h2 := of_decide_eq_false h2
    refine decide_eq_false ?_
    have a1 := h.anti x y
    have a2 := h.anti y z
    have a3 := h.anti x z
    have l1 := h.le z y x
    omega
theorem cmp3_bytes : Cmp3 Lib.compareBytes := by
  have anti : ∀ x y : List UInt8, Lib.compareBytes y x = - Lib.compareBytes x y := fun x => by
    induction x with
    | nil => intro y; cases y <;> rfl
    | cons a x ih =>
      intro y
      cases y with
      | nil => rfl
      | cons b y =>
        simp only [Lib.compareBytes]
        have := ih y
        by_cases h1 : a < b
        · have h2 : ¬ b < a := fun h => by have := UInt8.lt_asymm h1; exact this h
          rw [if_pos h1, if_neg h2, if_pos h1]; rfl
        · by_cases h2 : b < a
          · rw [if_pos h2, if_neg h1, if_pos h2]
          · rw [if_neg h1, if_neg h2, if_neg h1, if_neg h2]; exact this
  refine ⟨anti, fun x => ?_⟩
  induction x with
  | nil =>
    intro y z h1 h2
    cases z with
    | nil => exact Int.le_refl _
    | cons c z => show (-1 : Int) ≤ 0; omega
  | cons a x ih =>
    intro y z h1 h2
    cases y with
    | nil => exact absurd h1 (by show ¬ (1 : Int) ≤ 0; omega)
    | cons b y =>
      cases z with
      | nil => exact absurd h2 (by show ¬ (1 : Int) ≤ 0; omega)
      | cons c z =>
        simp only [Lib.compareBytes] at h1 h2 ⊢
        have := ih y z
        simp only [UInt8.lt_iff_toNat_lt] at h1 h2 ⊢
        split at h1
        · split at h2
          · rw [if_pos (by omega)]; omega
          · split at h2
            · omega
            · rw [if_pos (by omega)]; omega
        · split at h1
          · omega
          · split at h2
            · rw [if_pos (by omega)]; omega
            · split at h2
              · omega
              · rw [if_neg (by omega), if_neg (by omega)]
                exact this h1 h2
theorem cmp3_ver : Cmp3 (fun x y : Int => bif decide (y < x) then (-1 : Int) else bif decide (y > x) then 1 else 0) := by
  have e : ∀ x y : Int, (bif decide (y < x) then (-1 : Int) else bif decide (y > x) then 1 else 0) = if y < x then -1 else if y > x then 1 else 0 := fun x y => by
    by_cases h : y < x
    · rw [decide_eq_true h, if_pos h]; rfl
    · rw [decide_eq_false h, if_neg h]
      by_cases h2 : y > x
      · rw [decide_eq_true h2, if_pos h2]; rfl
      · rw [decide_eq_false h2, if_neg h2]; rfl
  refine ⟨fun x y => ?_, fun x y z h1 h2 => ?_⟩
  · simp only [e]
    split <;> split <;> (try split) <;> omega
  · simp only [e] at h1 h2 ⊢
    split at h1 <;> split at h2 <;> split <;> (try split) <;> (try split at h1) <;> (try split at h2) <;> omega
abbrev byL (b : ByteArray) : List UInt8 := b.data.toList
theorem cmp3_cells : Cmp3 cmpC := (cmp3_bytes.on (fun x : rCell.den => byL x.1)).lex ((cmp3_bytes.on (fun x : rCell.den => byL x.2.1)).lex (cmp3_ver.on (fun x : rCell.den => x.2.2.1)))
end Go.Proofs.Ytolhkkoakneflaa
