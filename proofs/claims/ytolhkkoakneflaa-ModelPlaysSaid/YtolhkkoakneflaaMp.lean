/- The chapter's pure contracts; no statement. -/
import Derived.Test.YtolhkkoakneflaaMo
import Derived.Test.YtolhkkoakneflaaMc
set_option linter.unusedVariables false
set_option linter.unusedSimpArgs false
namespace Go.Proofs.Ytolhkkoakneflaa
open Go Go.Eng

def nsw (l : List rCell.den) (r c : ByteArray) : rCell.den × Bool := nst l r c l.length
def newR (l : List rCell.den) (r c : ByteArray) : rCell.den := bif !(nsw l r c).2 then (eB, eB, (0 : Int), true, eB, ()) else (nsw l r c).1
def sameL (l m : List rCell.den) : Bool := Nat.beq l.length m.length && sameK l m l.length
theorem sameL_refl (l : List rCell.den) : sameL l l = true := by
  unfold sameL; rw [sameK_refl, Nat.beq_refl]; rfl
def newA (l : List rCell.den) (r c : ByteArray) : AV := .agg (rCell.cells (nsw l r c).1 ++ [.bool (nsw l r c).2])
theorem newest_pure (l : List rCell.den) (r c : ByteArray) : PureCall Try.prog 23 [vL rCell l, .agg [.str r, .str c]] (newA l r c) := by
  refine PureCall.facts' (by kernel_rfl) fun ⟨X, vs, hX, hv⟩ => ?_
  have hlen := len_of hv 0 rfl
  exact EMn2.pure_ok (os := []) (cs := [decide ((0 : Int) = 0), decide (((l.length : Nat) : Int) = l.length), decide (l.length ≤ maxLen), true, true]) (by kernel_rfl) (allI (by simp [hlen]))
theorem rnewest_pure (l : List rCell.den) (r c : ByteArray) : PureCall Try.prog 27 [vL rCell l, vS r, vS c] (.agg (rCell.cells (newR l r c))) := by
  refine PureCall.facts' (by kernel_rfl) fun ⟨X, vs, hX, hv⟩ => ?_
  have hlen := len_of hv 0 rfl
  unfold newR
  cases h : (!(nsw l r c).2 : Bool) with
  | true => exact EMn2.pure_ok (os := [true]) (cs := [(!(nsw l r c).2) == true, decide ((0 : Int) = 0), !false, decide (l.length ≤ maxLen), true, true]) (by kernel_rfl) (allI (by simp [hlen, h]))
  | false => exact EMn2.pure_ok (os := [false]) (cs := [(!(nsw l r c).2) == false, decide ((0 : Int) = 0), !false, decide (l.length ≤ maxLen), true, true]) (by kernel_rfl) (allI (by simp [hlen, h]))
theorem same_pure (l m : List rCell.den) : PureCall Try.prog 14 [vL rCell l, vL rCell m] (vB (sameL l m)) := by
  refine PureCall.facts' (by kernel_rfl) fun ⟨X, vs, hX, hv⟩ => ?_
  have hlen := len_of hv 0 rfl
  unfold sameL
  by_cases hn : m.length = l.length
  · rw [hn, Nat.beq_refl, Bool.true_and]
    cases h : (sameK l m l.length : Bool) with
    | true => exact EMn2.pure_ok (os := [false, true]) (cs := [decide ((0 : Int) = 0), !false, decide (m.length = l.length), decide (l.length ≤ maxLen), sameK l m l.length == true, (((l.length : Nat) : Int) != ((m.length : Nat) : Int)) == false]) (by kernel_rfl) (allI (by simp [hlen, h, hn]))
    | false => exact EMn2.pure_ok (os := [false, false]) (cs := [decide ((0 : Int) = 0), !false, decide (m.length = l.length), decide (l.length ≤ maxLen), sameK l m l.length == false, (((l.length : Nat) : Int) != ((m.length : Nat) : Int)) == false]) (by kernel_rfl) (allI (by simp [hlen, h, hn]))
  · have e : Nat.beq l.length m.length = false := by
      rw [Bool.eq_false_iff]; intro h; simp only [Nat.beq_eq] at h; exact hn h.symm
    rw [e, Bool.false_and]
    exact EMn2.pure_ok (os := [true]) (cs := [(((l.length : Nat) : Int) != ((m.length : Nat) : Int)) == true]) (by kernel_rfl) (allI (by simp; omega))
def ownOk (l : List rCell.den) : Bool := Nat.ble l.length 1000000
theorem own_pure (l : List rCell.den) (h : ownOk l = true) : PureCall Try.prog 9 [vL rCell l] (vL rCell l) := by
  unfold ownOk at h
  simp only [Nat.ble_eq] at h
  cases he : l.isEmpty with
  | true =>
    have e : l = [] := List.isEmpty_iff.1 he
    subst e
    refine PureCall.resw (EMn2.pure_ok (os := [true]) (r := .one .nils) (cs := [([] : List rCell.den).isEmpty == true]) (by kernel_rfl) (allI rfl)) fun X v hX hv => ?_
    exact Wk.nils (hp := []) X v hX (fun i b hb => by simp at hb) hv
  | false =>
    exact EMn2.pure_ok (os := [false]) (cs := [((([] : List rCell.den).length + l.length) * 64).ble 140737488355328 && (([] : List rCell.den).length + l.length).ble maxLen, l.isEmpty == false]) (by kernel_rfl) (allI (by
      have h1 : ((([] : List rCell.den).length + l.length) * 64).ble 140737488355328 = true := by rw [Nat.ble_eq, List.length_nil]; omega
      have h2 : (([] : List rCell.den).length + l.length).ble maxLen = true := by rw [Nat.ble_eq, List.length_nil]; unfold maxLen; omega
      rw [h1, h2, he]; rfl))
abbrev rP : CT := .pair .str (.pair .str .unit)
noncomputable def EMp : Env Try.prog := (((((EMn2.addT1 23 [.one (.sl rCell), .agg rP] (fun d => newA d.1 d.2.1.1 d.2.1.2.1) (fun _ => []) fun d _ => newest_pure d.1 d.2.1.1 d.2.1.2.1).addT1
  27 [.one (.sl rCell), .one .str, .one .str] (fun d => .agg (rCell.cells (newR d.1 d.2.1 d.2.2.1))) (fun _ => []) fun d _ => rnewest_pure d.1 d.2.1 d.2.2.1).addT1
  14 [.one (.sl rCell), .one (.sl rCell)] (fun d => vB (sameL d.1 d.2.1)) (fun _ => []) fun d _ => same_pure d.1 d.2.1).addT1
  9 [.one (.sl rCell)] (fun d => vL rCell d.1) (fun d => [ownOk d.1]) fun d hc => own_pure d.1 (of_allTc hc).1).addT1
  12 [.agg rOp] (fun d => vI (chkV d.1)) (fun _ => []) fun d _ => check_pure d.1).addT1
  15 [] (fun _ => vB true) (fun _ => []) fun d _ => works_pure
end Go.Proofs.Ytolhkkoakneflaa
