/- ModelEffects, its run; no statement. -/
import Derived.Test.YtolhkkoakneflaaMf
set_option linter.unusedVariables false
set_option linter.unusedSimpArgs false
namespace Go.Proofs.Ytolhkkoakneflaa
open Go Go.Eng

def m60 (l : List rCell.den) : Int := if 60 < ((l.length : Nat) : Int) then 60 else ((l.length : Nat) : Int)
def l60 (l : List rCell.den) : List rCell.den := List.drop (Int.toNat 0) (List.take (m60 l).toNat l)
theorem m60_ok (l : List rCell.den) : 0 ≤ m60 l ∧ m60 l ≤ ((l.length : Nat) : Int) ∧ m60 l ≤ 60 := by unfold m60; split <;> omega
theorem baRfl (a : ByteArray) : (a == a) = true := (Go.MapKept.bytes_beq a a).2 rfl
abbrev sOL : List PT := [.agg rOp, .one (.sl rCell)]
theorem verOk_of {l : List rCell.den} (h : ∀ x ∈ l, WF rCell x) : verOk l = true := by
  refine List.all_eq_true.2 fun x hx => decide_eq_true ?_
  have h1 : (0 : Int) ≤ x.2.2.1 ∧ (x.2.2.1 : Int) ≤ (18446744073709551615 : Int) := (h x hx).2.2.1
  exact ⟨h1.1, Int.lt_of_le_of_lt h1.2 (by decide)⟩
theorem effects_law (d : dens sOL) (h : WFs sOL d) : PureCall Try.prog 3 (encs sOL d) (vB true) := by
  obtain ⟨o, l, _⟩ := d
  have hw : ∀ x ∈ l, WF rCell x := h.2.1.2
  have m := m60_ok l
  have hl : (l60 l).length ≤ 60 := by
    unfold l60; rw [List.length_drop, List.length_take]; omega
  have h1 : ownOk (l60 l) = true := by unfold ownOk; rw [Nat.ble_eq]; omega
  have h2 : verOk (l60 l) = true := verOk_of fun x hx => hw x (List.mem_of_mem_take (List.mem_of_mem_drop hx))
  have h3 : decide ((0 : Int) ≤ 0 ∧ ((0 : Int) ≤ m60 l) ∧ (m60 l) ≤ ((l.length : Nat) : Int)) = true := decide_eq_true (by omega)
  show PureCall Try.prog _ [.agg (rOp.cells o), vL rCell l] _
  exact EMe.pure_ok (os := List.replicate 14 true) (cs := [(sameL (l60 l) (l60 l) == true), (sameL (l60 l) (l60 l) == true), (sameL (effV o (l60 l)).snd (effV o (l60 l)).snd == true), (sameL (effV o (l60 l)).snd (effV o (l60 l)).snd == true), (sameL (effV o (l60 l)).snd (effV o (l60 l)).snd == true), (sameL (effV o (l60 l)).snd (effV o (l60 l)).snd == true), (((effV o (l60 l)).fst.fst == (effV o (l60 l)).fst.fst && ((effV o (l60 l)).fst.snd.fst == (effV o (l60 l)).fst.snd.fst && ((effV o (l60 l)).fst.snd.snd.fst == (effV o (l60 l)).fst.snd.snd.fst && ((effV o (l60 l)).fst.snd.snd.snd.fst == (effV o (l60 l)).fst.snd.snd.snd.fst && ((effV o (l60 l)).fst.snd.snd.snd.snd.fst == (effV o (l60 l)).fst.snd.snd.snd.snd.fst && true))))) == true), (((effV o (l60 l)).fst.fst == (effV o (l60 l)).fst.fst && ((effV o (l60 l)).fst.snd.fst == (effV o (l60 l)).fst.snd.fst && ((effV o (l60 l)).fst.snd.snd.fst == (effV o (l60 l)).fst.snd.snd.fst && ((effV o (l60 l)).fst.snd.snd.snd.fst == (effV o (l60 l)).fst.snd.snd.snd.fst && ((effV o (l60 l)).fst.snd.snd.snd.snd.fst == (effV o (l60 l)).fst.snd.snd.snd.snd.fst && true))))) == true), (((effV o (l60 l)).fst.fst == (effV o (l60 l)).fst.fst && ((effV o (l60 l)).fst.snd.fst == (effV o (l60 l)).fst.snd.fst && ((effV o (l60 l)).fst.snd.snd.fst == (effV o (l60 l)).fst.snd.snd.fst && ((effV o (l60 l)).fst.snd.snd.snd.fst == (effV o (l60 l)).fst.snd.snd.snd.fst && ((effV o (l60 l)).fst.snd.snd.snd.snd.fst == (effV o (l60 l)).fst.snd.snd.snd.snd.fst && true))))) == true), (((effV o (l60 l)).fst.fst == (effV o (l60 l)).fst.fst && ((effV o (l60 l)).fst.snd.fst == (effV o (l60 l)).fst.snd.fst && ((effV o (l60 l)).fst.snd.snd.fst == (effV o (l60 l)).fst.snd.snd.fst && ((effV o (l60 l)).fst.snd.snd.snd.fst == (effV o (l60 l)).fst.snd.snd.snd.fst && ((effV o (l60 l)).fst.snd.snd.snd.snd.fst == (effV o (l60 l)).fst.snd.snd.snd.snd.fst && true))))) == true), ((chkV o == chkV o) == true), ((chkV o == chkV o) == true), ((chkV o == chkV o) == true), ((chkV o == chkV o) == true), (verOk (l60 l)), (ownOk (l60 l)), (decide ((0 : Int) ≤ 0 ∧ ((0 : Int) ≤ m60 l) ∧ (m60 l) ≤ ((l.length : Nat) : Int)))]) (by kernel_rfl) (allI (by simp only [h1, h2, h3, sameL_refl, baRfl, beq_self_eq_true]; rfl))
end Go.Proofs.Ytolhkkoakneflaa
