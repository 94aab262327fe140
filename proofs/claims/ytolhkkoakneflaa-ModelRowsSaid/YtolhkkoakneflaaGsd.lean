/- The sorted list is one, whatever order the cells come in; no statement. -/
import Derived.Test.YtolhkkoakneflaaGsc
set_option linter.unusedVariables false
set_option linter.unusedSimpArgs false
namespace Go.Proofs.Ytolhkkoakneflaa
open Go Go.Eng Go.Sort

theorem cmpL_zero : ∀ {a b : List UInt8}, Lib.compareBytes a b = 0 → a = b
  | [], [], _ => rfl
  | [], _ :: _, h => absurd h (by show ¬ (-1 : Int) = 0; omega)
  | _ :: _, [], h => absurd h (by show ¬ (1 : Int) = 0; omega)
  | a :: x, b :: y, h => by
    simp only [Lib.compareBytes] at h
    by_cases h1 : a < b
    · rw [if_pos h1] at h; omega
    · rw [if_neg h1] at h
      by_cases h2 : b < a
      · rw [if_pos h2] at h; omega
      · rw [if_neg h2] at h
        have e : a = b := by
          apply UInt8.toNat_inj.1
          simp only [UInt8.lt_iff_toNat_lt] at h1 h2
          omega
        rw [e, cmpL_zero h]
theorem cmpB_zero {a b : ByteArray} (h : cmpB a b = 0) : a = b := by
  have h2 : a.data.toList = b.data.toList := cmpL_zero h
  have h3 : a.data = b.data := Array.ext' h2
  cases a; cases b
  simp only at h3
  rw [h3]
theorem cmpC_zero {a b : rCell.den} (h : cmpC a b = 0) : a.1 = b.1 ∧ a.2.1 = b.2.1 := by
  unfold cmpC at h
  cases h1 : (cmpB a.1 b.1 != 0) with
  | true =>
    rw [h1] at h
    simp only [cond_true] at h
    rw [h] at h1; cases h1
  | false =>
    rw [h1] at h
    simp only [cond_false] at h
    have e1 : cmpB a.1 b.1 = 0 := by simpa using h1
    cases h2 : (cmpB a.2.1 b.2.1 != 0) with
    | true =>
      rw [h2] at h
      simp only [cond_true] at h
      rw [h] at h2; cases h2
    | false => exact ⟨cmpB_zero e1, cmpB_zero (by simpa using h2)⟩
theorem srtG_pw (l : List rCell.den) : (srtG l).Pairwise fun x y => cmpC x y ≤ 0 := by
  rw [List.pairwise_iff_getElem]
  intro i j hi hj hij
  have h := (srtG_sorts l).2 i j (Nat.zero_le _) hij (by rw [List.size_toArray, ← srtG_len]; exact hj)
  have h := of_decide_eq_false h
  rw [getElem!_pos _ _ (by simpa using hj), getElem!_pos _ _ (by simpa using hi)] at h
  simp only [List.getElem_toArray] at h
  have a := cmp3_cells.anti (srtG l)[i] (srtG l)[j]
  omega
/-- Cells of different places. -/
def PlacesIn (l : List rCell.den) : Prop := ∀ x ∈ l, ∀ y ∈ l, x.1 = y.1 → x.2.1 = y.2.1 → x = y
theorem sorted_one {l q : List rCell.den} (hl : PlacesIn l) (hp : q.Perm l) (hs : q.Pairwise fun x y => cmpC x y ≤ 0) : srtG l = q := by
  refine List.Perm.eq_of_pairwise (le := fun x y => cmpC x y ≤ 0) (fun a b ha hb h1 h2 => ?_) (srtG_pw l) hs ((srtG_perm l).trans hp.symm)
  have h3 := cmp3_cells.anti a b
  obtain ⟨e1, e2⟩ := cmpC_zero (a := a) (b := b) (by omega)
  exact hl a ((srtG_perm l).mem_iff.1 ha) b (hp.mem_iff.1 hb) e1 e2
theorem srtG_inv {l p : List rCell.den} (hl : PlacesIn l) (hp : p.Perm l) : srtG p = srtG l :=
  (sorted_one hl ((srtG_perm p).trans hp) (srtG_pw p)).symm
noncomputable def okp (p : Prop) : Bool := @decide p (Classical.propDecidable p)
theorem of_okp {p : Prop} (h : okp p = true) : p := @of_decide_eq_true p (Classical.propDecidable p) h
theorem okp_of {p : Prop} (h : p) : okp p = true := @decide_eq_true p (Classical.propDecidable p) h
def asG (r : CT) (l : List r.den) : Option (List rCell.den) := if h : r.eqb rCell = true then some (castL r rCell h l) else none
theorem asG_eq {r : CT} {l : List r.den} {x : List rCell.den} (h : asG r l = some x) : r = rCell ∧ HEq l x := by
  unfold asG at h
  split at h
  · rename_i h1
    have e := CT.eq_of_eqb _ _ h1
    subst e
    injection h with h
    exact ⟨rfl, heq_of_eq h⟩
  · cases h
noncomputable def ESfG (E : Env Try.prog) : Env Try.prog := E.addHF 32 (fun args _ => match args with | [.one (.asl _ j _ _ _), _] => [j] | _ => [])
  (fun args hp os => match args, hp with
    | [.one (.asl r1 0 0 n n'), .one (.fn 33 [])], [.arr r2 l2] =>
      match asG r2 l2 with
      | some l => if r1.eqb rCell = true then retC (.tup [], [.arr rCell (srtG l)]) [decide (n = n'), decide (n = l.length), decide (l.length ≤ 1099511627776)] os else none
      | none => none
    | _, _ => none)
  (fun args hp os r hp' cs os' h hc => by
    split at h
    · rename_i r1 n n' r2 l2
      split at h
      · rename_i l e2
        split at h
        · rename_i er
          have er := CT.eq_of_eqb _ _ er
          subst er
          obtain ⟨rfl, e2⟩ := asG_eq e2
          subst e2
          simp only [retC, Option.some.injEq, Prod.mk.injEq] at h
          obtain ⟨⟨rfl, rfl⟩, rfl, rfl⟩ := h
          obtain ⟨h1, hc⟩ := of_allTc hc
          obtain ⟨h2, hc⟩ := of_allTc hc
          obtain ⟨h3, _⟩ := of_allTc hc
          simp only [decide_eq_true_eq] at h1 h2 h3
          subst h1; subst h2
          exact sfG_heap _ (by omega)
        · cases h
      · cases h
    · cases h)
end Go.Proofs.Ytolhkkoakneflaa
