/- The newest cell of a place; equal lists of cells: contracts; no statement. -/
import Derived.Test.YtolhkkoakneflaaMn
import Derived.Test.YtolhkkoakneflaaMcA
import Derived.Test.YtolhkkoakneflaaMcB
import Derived.Test.YtolhkkoakneflaaMm
set_option linter.unusedVariables false
set_option linter.unusedSimpArgs false
namespace Go.Proofs.Ytolhkkoakneflaa
open Go Go.Eng

abbrev eB : ByteArray := ByteArray.mk #[]
theorem emp {s : ByteArray} (h0 : s.size = 0) : s = ByteArray.mk #[] := by
  cases s with
  | mk a => cases a with | mk l => cases l with
    | nil => rfl
    | cons x xs => simp [ByteArray.size] at h0
def isZ5 : List AC → Bool
  | [.str a, .str b, .int .u64 n, .bool g, .str v] => Nat.beq a.size 0 && (Nat.beq b.size 0 && (decide (n = 0) && (!g && Nat.beq v.size 0)))
  | _ => false
def isZ6 : List AC → Bool
  | [.str a, .str b, .int .u64 n, .bool g, .str v, .bool s] => Nat.beq a.size 0 && (Nat.beq b.size 0 && (decide (n = 0) && (!g && (Nat.beq v.size 0 && !s))))
  | _ => false
theorem isZ5_eq {l : List AC} (h : isZ5 l = true) : l = [.str eB, .str eB, .int .u64 0, .bool false, .str eB] := by
  unfold isZ5 at h
  split at h
  · rename_i a b n g v
    simp only [Bool.and_eq_true, Nat.beq_eq, decide_eq_true_eq, Bool.not_eq_true'] at h
    obtain ⟨h1, h2, h3, h4, h5⟩ := h
    rw [emp h1, emp h2, h3, h4, emp h5]
  · cases h
theorem isZ6_eq {l : List AC} (h : isZ6 l = true) : l = [.str eB, .str eB, .int .u64 0, .bool false, .str eB, .bool false] := by
  unfold isZ6 at h
  split at h
  · rename_i a b n g v s
    simp only [Bool.and_eq_true, Nat.beq_eq, decide_eq_true_eq, Bool.not_eq_true'] at h
    obtain ⟨h1, h2, h3, h4, h5, h6⟩ := h
    rw [emp h1, emp h2, h3, h4, emp h5, h6]
  · cases h
noncomputable def EMn0 : Env Try.prog := E0.addL 23 3 lNew_eq 38 [10] [8, 9, 3, 5] (by kernel_rfl)
  (fun vals rov hp os => match vals, rov, hp with
    | [.one (.int .i64 z)], [.one (.sl (.pair .str (.pair .str (.pair (.int .u64) (.pair .bool (.pair .str .unit))))) l .shared), .one (.int .i64 n), .one (.ptr 0 0), .one (.ptr 2 0)], [.cells [.str r, .str c], .cells z1, .cells z2] =>
      retC (.exit 0, [vX], hpN l r c l.length) [decide (z = 0), decide (n = l.length), decide (l.length ≤ maxLen), isZ6 z1, isZ6 z2] os
    | _, _, _ => none)
  (fun vals rov hp os e outs hp' cs os' h hc => by
    split at h
    · rename_i z l n r c z1 z2
      simp only [retC, Option.some.injEq, Prod.mk.injEq] at h
      obtain ⟨⟨rfl, rfl, rfl⟩, rfl, rfl⟩ := h
      obtain ⟨h1, hc⟩ := of_allTc hc
      obtain ⟨h2, hc⟩ := of_allTc hc
      obtain ⟨h3, hc⟩ := of_allTc hc
      obtain ⟨h4, hc⟩ := of_allTc hc
      obtain ⟨h5, _⟩ := of_allTc hc
      simp only [decide_eq_true_eq] at h1 h2 h3
      subst h1; subst h2
      rw [isZ6_eq h4, isZ6_eq h5]
      exact new_loop l h3 r c
    · cases h)
noncomputable def EMn1 : Env Try.prog := EMn0.addL 27 4 lRNew_eq 54 [9, 8] [0, 1, 2, 7] (by kernel_rfl)
  (fun vals rov hp os => match vals, rov, hp with
    | [.one (.int .i64 z), .one (.bool b)], [.one (.sl (.pair .str (.pair .str (.pair (.int .u64) (.pair .bool (.pair .str .unit))))) l .shared), .one (.str r), .one (.str c), .one (.ptr 1 0)], [.cells z1, .cells z2] =>
      retC (.exit 0, [vX, vB (nst l r c l.length).2], hpR l r c l.length) [decide (z = 0), !b, decide (l.length ≤ maxLen), isZ5 z1, isZ5 z2] os
    | _, _, _ => none)
  (fun vals rov hp os e outs hp' cs os' h hc => by
    split at h
    · rename_i z b l r c z1 z2
      simp only [retC, Option.some.injEq, Prod.mk.injEq] at h
      obtain ⟨⟨rfl, rfl, rfl⟩, rfl, rfl⟩ := h
      obtain ⟨h1, hc⟩ := of_allTc hc
      obtain ⟨h2, hc⟩ := of_allTc hc
      obtain ⟨h3, hc⟩ := of_allTc hc
      obtain ⟨h4, hc⟩ := of_allTc hc
      obtain ⟨h5, _⟩ := of_allTc hc
      simp only [decide_eq_true_eq, Bool.not_eq_true'] at h1 h2 h3
      subst h1; subst h2
      rw [isZ5_eq h4, isZ5_eq h5]
      exact rnew_loop l h3 r c
    · cases h)
noncomputable def EMn2 : Env Try.prog := EMn1.addL 14 4 lSm_eq 26 [5, 4] [0, 1] (by kernel_rfl)
  (fun vals rov hp os => match vals, rov, hp with
    | [.one (.int .i64 z), .one (.bool b)], [.one (.sl (.pair .str (.pair .str (.pair (.int .u64) (.pair .bool (.pair .str .unit))))) l .shared), .one (.sl (.pair .str (.pair .str (.pair (.int .u64) (.pair .bool (.pair .str .unit))))) m .shared)], [] =>
      brL (sameK l m l.length) os
        (fun os => retC (.exit 0, [vX, vB false], []) [decide (z = 0), !b, decide (m.length = l.length), decide (l.length ≤ maxLen)] os)
        (fun os => retC (.ret, [vX, vB false], []) [decide (z = 0), !b, decide (m.length = l.length), decide (l.length ≤ maxLen)] os)
    | _, _, _ => none)
  (fun vals rov hp os e outs hp' cs os' h hc => by
    split at h
    · rename_i z b l m
      rcases brL_some h hc with ⟨hb, o, c, h, hc⟩ | ⟨hb, o, c, h, hc⟩
      all_goals
        simp only [retC, Option.some.injEq, Prod.mk.injEq] at h
        obtain ⟨⟨rfl, rfl, rfl⟩, rfl, rfl⟩ := h
        obtain ⟨h1, hc⟩ := of_allTc hc
        obtain ⟨h2, hc⟩ := of_allTc hc
        obtain ⟨h3, hc⟩ := of_allTc hc
        obtain ⟨h4, _⟩ := of_allTc hc
        simp only [decide_eq_true_eq, Bool.not_eq_true'] at h1 h2 h3 h4
        subst h1; subst h2
      · exact (same_loop l m h3 h4).1 hb
      · exact (same_loop l m h3 h4).2 hb
    · cases h)
open Go Go.Eng

theorem toList_len (x : ByteArray) : x.toList.length = x.size := by
  rw [ByteArray.toList_eq, Array.length_toList]; rfl
theorem emp_eq (x : ByteArray) : (ByteArray.toList x == (ByteArray.mk #[]).toList) = !decide (((ByteArray.size x : Nat) : Int) ≥ 1) := by
  have h0 : (ByteArray.mk #[]).toList = [] := by
    apply List.eq_nil_of_length_eq_zero; rw [toList_len]; rfl
  rw [h0]
  cases h : x.toList with
  | nil =>
    have : x.size = 0 := by rw [← toList_len, h]; rfl
    rw [this]; rfl
  | cons a r =>
    have : x.size = r.length + 1 := by rw [← toList_len, h]; rfl
    rw [this, decide_eq_true (by omega)]; rfl
theorem max_gt (a b : Int) : decide ((if a > b then a else b) > 256) = !(decide (b ≤ 256) && decide (a ≤ 256)) := by
  rw [Bool.eq_iff_iff]; simp; split <;> omega
theorem gt16 (a : Int) : decide (a > 16) = !decide (a ≤ 16) := by
  rw [Bool.eq_iff_iff]; simp
set_option maxRecDepth 100000 in
theorem chk_same (o : rOp.den) : chkV o = chkW o := by
  unfold chkV chkW
  simp only [emp_eq, max_gt, gt16]
  generalize q1 o = q1
  generalize q2 o = q2
  generalize q3 o = q3
  generalize q4 o = q4
  generalize o.snd.snd.snd.snd.fst = h
  generalize decide (((ByteArray.size o.snd.fst : Nat) : Int) ≥ 1) = u1
  generalize decide (((ByteArray.size o.snd.fst : Nat) : Int) ≤ 24) = u2
  generalize decide (((ByteArray.size o.snd.fst : Nat) : Int) ≤ 32) = u3
  generalize decide (((ByteArray.size o.snd.snd.fst : Nat) : Int) ≥ 1) = c1
  generalize decide (((ByteArray.size o.snd.snd.fst : Nat) : Int) ≤ 16) = c2
  generalize decide (((ByteArray.size o.snd.snd.snd.fst : Nat) : Int) ≤ 256) = v
  generalize decide (((ByteArray.size o.snd.snd.snd.snd.snd.fst : Nat) : Int) ≤ 256) = x
  generalize o.fst = n
  by_cases h1 : n = 1
  · subst h1; revert q1 q2 q3 q4 h u1 u2 u3 c1 c2 v x; decide +kernel
  by_cases h2 : n = 2
  · subst h2; revert q1 q2 q3 q4 h u1 u2 u3 c1 c2 v x; decide +kernel
  by_cases h3 : n = 3
  · subst h3; revert q1 q2 q3 q4 h u1 u2 u3 c1 c2 v x; decide +kernel
  by_cases h4 : n = 4
  · subst h4; revert q1 q2 q3 q4 h u1 u2 u3 c1 c2 v x; decide +kernel
  by_cases h5 : n = 5
  · subst h5; revert q1 q2 q3 q4 h u1 u2 u3 c1 c2 v x; decide +kernel
  rw [show (n == 1) = false from beq_eq_false_iff_ne.2 h1, show (n == 2) = false from beq_eq_false_iff_ne.2 h2, show (n == 3) = false from beq_eq_false_iff_ne.2 h3, show (n == 4) = false from beq_eq_false_iff_ne.2 h4, show (n == 5) = false from beq_eq_false_iff_ne.2 h5]
  clear h1 h2 h3 h4 h5
  revert q1 q2 q3 q4 h u1 u2 u3 c1 c2 v x; decide +kernel
open Go Go.Eng

def nsw (l : List rCell.den) (r c : ByteArray) : rCell.den × Bool := nst l r c l.length
def newR (l : List rCell.den) (r c : ByteArray) : rCell.den := bif !(nsw l r c).2 then (eB, eB, (0 : Int), true, eB, ()) else (nsw l r c).1
def sameL (l m : List rCell.den) : Bool := Nat.beq l.length m.length && sameK l m l.length
theorem sameL_refl (l : List rCell.den) : sameL l l = true := by
  unfold sameL; rw [sameK_refl, Nat.beq_refl]; rfl
def newA (l : List rCell.den) (r c : ByteArray) : AV := .agg (rCell.cells (nsw l r c).1 ++ [.bool (nsw l r c).2])
theorem newest_pure (l : List rCell.den) (r c : ByteArray) : PureCall Try.prog 23 [vL rCell l, .agg [.str r, .str c]] (newA l r c) := by
  refine PureCall.facts' (by kernel_rfl) fun ⟨X, vs, hX, hv⟩ => ?_
  have hlen := len_of hv 0 rfl
  exact EMn2.pure_ok (os := []) (cs := [decide ((0 : Int) = 0), decide (((l.length : Nat) : Int) = l.length), decide (l.length ≤ maxLen), true, true]) (by kernel_rfl) (allI (by simp [hlen]))
theorem rnewest_pure (l : List rCell.den) (r c : ByteArray) : PureCall Try.prog 27 [vL rCell l, vS r, vS c] (.agg (rCell.cells (newR l r c))) := by
  refine PureCall.facts' (by kernel_rfl) fun ⟨X, vs, hX, hv⟩ => ?_
  have hlen := len_of hv 0 rfl
  unfold newR
  cases h : (!(nsw l r c).2 : Bool) with
  | true => exact EMn2.pure_ok (os := [true]) (cs := [(!(nsw l r c).2) == true, decide ((0 : Int) = 0), !false, decide (l.length ≤ maxLen), true, true]) (by kernel_rfl) (allI (by simp [hlen, h]))
  | false => exact EMn2.pure_ok (os := [false]) (cs := [(!(nsw l r c).2) == false, decide ((0 : Int) = 0), !false, decide (l.length ≤ maxLen), true, true]) (by kernel_rfl) (allI (by simp [hlen, h]))
theorem same_pure (l m : List rCell.den) : PureCall Try.prog 14 [vL rCell l, vL rCell m] (vB (sameL l m)) := by
  refine PureCall.facts' (by kernel_rfl) fun ⟨X, vs, hX, hv⟩ => ?_
  have hlen := len_of hv 0 rfl
  unfold sameL
  by_cases hn : m.length = l.length
  · rw [hn, Nat.beq_refl, Bool.true_and]
    cases h : (sameK l m l.length : Bool) with
    | true => exact EMn2.pure_ok (os := [false, true]) (cs := [decide ((0 : Int) = 0), !false, decide (m.length = l.length), decide (l.length ≤ maxLen), sameK l m l.length == true, (((l.length : Nat) : Int) != ((m.length : Nat) : Int)) == false]) (by kernel_rfl) (allI (by simp [hlen, h, hn]))
    | false => exact EMn2.pure_ok (os := [false, false]) (cs := [decide ((0 : Int) = 0), !false, decide (m.length = l.length), decide (l.length ≤ maxLen), sameK l m l.length == false, (((l.length : Nat) : Int) != ((m.length : Nat) : Int)) == false]) (by kernel_rfl) (allI (by simp [hlen, h, hn]))
  · have e : Nat.beq l.length m.length = false := by
      rw [Bool.eq_false_iff]; intro h; simp only [Nat.beq_eq] at h; exact hn h.symm
    rw [e, Bool.false_and]
    exact EMn2.pure_ok (os := [true]) (cs := [(((l.length : Nat) : Int) != ((m.length : Nat) : Int)) == true]) (by kernel_rfl) (allI (by simp; omega))
def ownOk (l : List rCell.den) : Bool := Nat.ble l.length 1000000
theorem own_pure (l : List rCell.den) (h : ownOk l = true) : PureCall Try.prog 9 [vL rCell l] (vL rCell l) := by
  unfold ownOk at h
  simp only [Nat.ble_eq] at h
  cases he : l.isEmpty with
  | true =>
    have e : l = [] := List.isEmpty_iff.1 he
    subst e
    refine PureCall.resw (EMn2.pure_ok (os := [true]) (r := .one .nils) (cs := [([] : List rCell.den).isEmpty == true]) (by kernel_rfl) (allI rfl)) fun X v hX hv => ?_
    exact Wk.nils (hp := []) X v hX (fun i b hb => by simp at hb) hv
  | false =>
    exact EMn2.pure_ok (os := [false]) (cs := [((([] : List rCell.den).length + l.length) * 64).ble 140737488355328 && (([] : List rCell.den).length + l.length).ble maxLen, l.isEmpty == false]) (by kernel_rfl) (allI (by
      have h1 : ((([] : List rCell.den).length + l.length) * 64).ble 140737488355328 = true := by rw [Nat.ble_eq, List.length_nil]; omega
      have h2 : (([] : List rCell.den).length + l.length).ble maxLen = true := by rw [Nat.ble_eq, List.length_nil]; unfold maxLen; omega
      rw [h1, h2, he]; rfl))
abbrev rP : CT := .pair .str (.pair .str .unit)
noncomputable def EMp : Env Try.prog := ((((((EMn2.addT1 23 [.one (.sl rCell), .agg rP] (fun d => newA d.1 d.2.1.1 d.2.1.2.1) (fun _ => []) fun d _ => newest_pure d.1 d.2.1.1 d.2.1.2.1).addT1
  27 [.one (.sl rCell), .one .str, .one .str] (fun d => .agg (rCell.cells (newR d.1 d.2.1 d.2.2.1))) (fun _ => []) fun d _ => rnewest_pure d.1 d.2.1 d.2.2.1).addT1
  14 [.one (.sl rCell), .one (.sl rCell)] (fun d => vB (sameL d.1 d.2.1)) (fun _ => []) fun d _ => same_pure d.1 d.2.1).addT1
  9 [.one (.sl rCell)] (fun d => vL rCell d.1) (fun d => [ownOk d.1]) fun d hc => own_pure d.1 (of_allTc hc).1).addT1
  12 [.agg rOp] (fun d => vI (chkV d.1)) (fun _ => []) fun d _ => check_pure d.1).addT1
  13 [.agg rOp] (fun d => vI (chkV d.1)) (fun _ => []) fun d _ => by rw [chk_same]; exact rcheck_pure d.1).addT1
  15 [] (fun _ => vB true) (fun _ => []) fun d _ => works_pure
open Go Go.Eng
noncomputable def EMq : Env Try.prog := EMp.addT1 26 [.agg rOp] (fun d => vB (chkV d.1 == 0)) (fun _ => []) fun d _ => by rw [chk_same]; exact may_pure d.1
end Go.Proofs.Ytolhkkoakneflaa
