/- ModelRows: its inner loops; no statement. -/
import Derived.Test.YtolhkkoakneflaaRw1
set_option linter.unusedVariables false
set_option linter.unusedSimpArgs false
namespace Go.Proofs.Ytolhkkoakneflaa
open Go Go.Eng

noncomputable def lRb : Code := (theLoop Try.prog 6 11).getD .skip
theorem lRb_eq : theLoop Try.prog 6 11 = some lRb := by kernel_rfl
noncomputable def lRc : Code := (theLoop Try.prog 6 21).getD .skip
theorem lRc_eq : theLoop Try.prog 6 21 = some lRc := by kernel_rfl

abbrev hpW (M : MapT) (o : rOp.den) (ty k : Nat) (r : rRes.den) : List AB := [.mp rP rCell true true M, .cells [.mref 0], .cells (rOp.cells o), .tok ty k, .cells (rRes.cells r)]
theorem rc_loop (M : MapT) (o : rOp.den) (ty j : Nat) (r : rRes.den) (l : List rCell.den) (hl : l.length ≤ 1000) (a b : rCell.den) :
    LoopOk Try.prog lRc 107 [13, 11] [12, 10] [vI 0, vI 0] [vL rCell l, .one (.sl rCell [a, b] .shared)] (hpW M o ty j r) (.exit 4) [vX, vI ((cn2 a b l : Nat) : Int)] (hpW M o ty j r) := by
  refine LoopOk.rounds (S := Nat) ERb lRc_eq (by kernel_rfl) (fun k => [vI k, vI ((cn2 a b (l.take k) : Nat) : Int)]) (fun k => hpW M o ty j r) (fun k => k ≤ l.length) (fun k => l.length - k) 0 (Nat.zero_le _) ?_ (fun _ _ => rfl)
  intro k hk
  by_cases hlt : k < l.length
  · have hin : inB (k : Int) l.length = true := inB_of (by omega) (by omega)
    have d1 : decide ((k : Int) < ((l.length : Nat) : Int)) = true := decide_eq_true (by omega)
    have hw : vI (IntKind.i64.wrap ((k : Int) + 1)) = vI ((k + 1 : Nat) : Int) := by rw [wrap64 (by omega) (by omega)]; rfl
    have hs := cn2_succ (a := a) (b := b) hlt
    have hb := cn2_le a b (l.take k)
    have hb2 : (l.take k).length ≤ 1000 := by rw [List.length_take]; omega
    generalize hn : cn2 a b (l.take k) = n at *
    have w1 : IntKind.i64.wrap ((n : Int) + 1) = (n : Int) + 1 := wrap64 (by omega) (by omega)
    have w2 : IntKind.i64.wrap ((n : Int) + 1 + 1) = (n : Int) + 1 + 1 := wrap64 (by omega) (by omega)
    cases ha : eqC (l.getD k rCell.dflt) a with
    | true =>
      cases hb : eqC (l.getD k rCell.dflt) b with
      | true =>
        rw [ha, hb] at hs
        refine OneRound.goT [true, true, true, true, true, false] (vs := [vI (IntKind.i64.wrap ((k : Int) + 1)), vI (IntKind.i64.wrap (IntKind.i64.wrap ((n : Int) + 1) + 1))]) (hp' := hpW M o ty j r)
          (cs := [decide ((2 : Int) < 2) == false, eqC (l.getD k rCell.dflt) b == true, inB 1 2, inB (k : Int) l.length, decide ((1 : Int) < 2) == true, eqC (l.getD k rCell.dflt) a == true, inB 0 2, inB (k : Int) l.length, decide ((0 : Int) < 2) == true, decide ((k : Int) < ((l.length : Nat) : Int)) == true]) (fun rest => by kernel_rfl)
          (allI (by rw [ha, hb, hin, d1]; rfl)) (k + 1) (by omega) (by omega) ⟨.of_eq hw, .of_eq ?_, trivial⟩ rfl (by simp [idsLt, idsV, idsC, idsB, rOp, rRes, CT.cells])
        rw [hs, w1, w2]; rfl
      | false =>
        rw [ha, hb] at hs
        refine OneRound.goT [true, true, true, true, false, false] (vs := [vI (IntKind.i64.wrap ((k : Int) + 1)), vI (IntKind.i64.wrap ((n : Int) + 1))]) (hp' := hpW M o ty j r)
          (cs := [decide ((2 : Int) < 2) == false, eqC (l.getD k rCell.dflt) b == false, inB 1 2, inB (k : Int) l.length, decide ((1 : Int) < 2) == true, eqC (l.getD k rCell.dflt) a == true, inB 0 2, inB (k : Int) l.length, decide ((0 : Int) < 2) == true, decide ((k : Int) < ((l.length : Nat) : Int)) == true]) (fun rest => by kernel_rfl)
          (allI (by rw [ha, hb, hin, d1]; rfl)) (k + 1) (by omega) (by omega) ⟨.of_eq hw, .of_eq ?_, trivial⟩ rfl (by simp [idsLt, idsV, idsC, idsB, rOp, rRes, CT.cells])
        rw [hs, w1]; rfl
    | false =>
      cases hb : eqC (l.getD k rCell.dflt) b with
      | true =>
        rw [ha, hb] at hs
        refine OneRound.goT [true, true, false, true, true, false] (vs := [vI (IntKind.i64.wrap ((k : Int) + 1)), vI (IntKind.i64.wrap ((n : Int) + 1))]) (hp' := hpW M o ty j r)
          (cs := [decide ((2 : Int) < 2) == false, eqC (l.getD k rCell.dflt) b == true, inB 1 2, inB (k : Int) l.length, decide ((1 : Int) < 2) == true, eqC (l.getD k rCell.dflt) a == false, inB 0 2, inB (k : Int) l.length, decide ((0 : Int) < 2) == true, decide ((k : Int) < ((l.length : Nat) : Int)) == true]) (fun rest => by kernel_rfl)
          (allI (by rw [ha, hb, hin, d1]; rfl)) (k + 1) (by omega) (by omega) ⟨.of_eq hw, .of_eq ?_, trivial⟩ rfl (by simp [idsLt, idsV, idsC, idsB, rOp, rRes, CT.cells])
        rw [hs, w1]; rfl
      | false =>
        rw [ha, hb] at hs
        refine OneRound.goT [true, true, false, true, false, false] (vs := [vI (IntKind.i64.wrap ((k : Int) + 1)), vI (n : Int)]) (hp' := hpW M o ty j r)
          (cs := [decide ((2 : Int) < 2) == false, eqC (l.getD k rCell.dflt) b == false, inB 1 2, inB (k : Int) l.length, decide ((1 : Int) < 2) == true, eqC (l.getD k rCell.dflt) a == false, inB 0 2, inB (k : Int) l.length, decide ((0 : Int) < 2) == true, decide ((k : Int) < ((l.length : Nat) : Int)) == true]) (fun rest => by kernel_rfl)
          (allI (by rw [ha, hb, hin, d1]; rfl)) (k + 1) (by omega) (by omega) ⟨.of_eq hw, .of_eq ?_, trivial⟩ rfl (by simp [idsLt, idsV, idsC, idsB, rOp, rRes, CT.cells])
        rw [hs]; rfl
  · have d1 : decide ((k : Int) < ((l.length : Nat) : Int)) = false := decide_eq_false (by omega)
    have e : l.take k = l := List.take_of_length_le (by omega)
    exact OneRound.stopT [false] (vs := [vI k, vI ((cn2 a b (l.take k) : Nat) : Int)]) (hp' := hpW M o ty j r) (cs := [decide ((k : Int) < ((l.length : Nat) : Int)) == false]) (fun rest => by kernel_rfl) (allI (by rw [d1]; rfl)) (by simp) ⟨.unk, .of_eq (by rw [e]), trivial⟩ rfl (by simp [idsLt, idsV, idsC, idsB, rOp, rRes, CT.cells])
theorem rc_loop0 (M : MapT) (o : rOp.den) (ty j : Nat) (r : rRes.den) (l : List rCell.den) (hl : l.length ≤ 1000) :
    LoopOk Try.prog lRc 107 [13, 11] [12, 10] [vI 0, vI 0] [vL rCell l, .one (.sl rCell [] .shared)] (hpW M o ty j r) (.exit 4) [vX, vI 0] (hpW M o ty j r) := by
  refine LoopOk.rounds (S := Nat) ERb lRc_eq (by kernel_rfl) (fun k => [vI k, vI 0]) (fun k => hpW M o ty j r) (fun k => k ≤ l.length) (fun k => l.length - k) 0 (Nat.zero_le _) ?_ (fun _ _ => rfl)
  intro k hk
  by_cases hlt : k < l.length
  · have d1 : decide ((k : Int) < ((l.length : Nat) : Int)) = true := decide_eq_true (by omega)
    have hw : vI (IntKind.i64.wrap ((k : Int) + 1)) = vI ((k + 1 : Nat) : Int) := by rw [wrap64 (by omega) (by omega)]; rfl
    exact OneRound.goT [true, false] (vs := [vI (IntKind.i64.wrap ((k : Int) + 1)), vI 0]) (hp' := hpW M o ty j r)
      (cs := [decide ((0 : Int) < 0) == false, decide ((k : Int) < ((l.length : Nat) : Int)) == true]) (fun rest => by kernel_rfl)
      (allI (by rw [d1]; rfl)) (k + 1) (by omega) (by omega) ⟨.of_eq hw, .refl, trivial⟩ rfl (by simp [idsLt, idsV, idsC, idsB, rOp, rRes, CT.cells])
  · have d1 : decide ((k : Int) < ((l.length : Nat) : Int)) = false := decide_eq_false (by omega)
    exact OneRound.stopT [false] (vs := [vI k, vI 0]) (hp' := hpW M o ty j r) (cs := [decide ((k : Int) < ((l.length : Nat) : Int)) == false]) (fun rest => by kernel_rfl) (allI (by rw [d1]; rfl)) (by simp) ⟨.unk, .refl, trivial⟩ rfl (by simp [idsLt, idsV, idsC, idsB, rOp, rRes, CT.cells])

theorem rb_loop (M : MapT) (o : rOp.den) (l : List rCell.den) (hl : l.length ≤ 1000) :
    LoopOk Try.prog lRb 107 [8, 6] [7, 5] [vI 0, .one .nils] [vL rCell l, .one (.ptr 2 0)] [.mp rP rCell true true M, .cells [.mref 0], .cells (rOp.cells o)] (.exit 2)
      [vX, .one (.sl rCell (rowAll o l) (.own 3 (rowAll o l).length))] [.mp rP rCell true true M, .cells [.mref 0], .cells (rOp.cells o), .tok 52 (rowAll o l).length] := by
  refine LoopOk.coin 52 (vals' := [vI 0, .one (.sl rCell [] (.own 3 0))]) ⟨.refl, .nils_own rfl, trivial⟩ ?_
  refine LoopOk.rounds (S := Nat) ERb lRb_eq (by kernel_rfl) (fun k => [vI k, .one (.sl rCell (rowAll o (l.take k)) (.own 3 (rowAll o (l.take k)).length))]) (fun k => [.mp rP rCell true true M, .cells [.mref 0], .cells (rOp.cells o), .tok 52 (rowAll o (l.take k)).length]) (fun k => k ≤ l.length) (fun k => l.length - k) 0 (Nat.zero_le _) ?_ (fun _ _ => rfl)
  intro k hk
  by_cases hlt : k < l.length
  · have hin : inB (k : Int) l.length = true := inB_of (by omega) (by omega)
    have d1 : decide ((k : Int) < ((l.length : Nat) : Int)) = true := decide_eq_true (by omega)
    have hw : vI (IntKind.i64.wrap ((k : Int) + 1)) = vI ((k + 1 : Nat) : Int) := by rw [wrap64 (by omega) (by omega)]; rfl
    have ht : l.take (k + 1) = l.take k ++ [l.getD k rCell.dflt] := by rw [List.take_add_one, getD_get (d := rCell.dflt) hlt]; rfl
    have hle : (rowAll o (l.take k)).length ≤ 1000 := Nat.le_trans (List.length_filter_le _ _) (by rw [List.length_take]; omega)
    have hbl := bl (l.getD k rCell.dflt).1 o.2.1
    cases ha : (l.getD k rCell.dflt).1 == o.2.1 with
    | true =>
      have e : rowAll o (l.take (k + 1)) = rowAll o (l.take k) ++ [l.getD k rCell.dflt] := by
        rw [ht]; unfold rowAll; rw [List.filter_append, List.filter_cons_of_pos (by exact ha)]; rfl
      generalize rowAll o (l.take k) = q at *
      have sz1 : Nat.ble ((q.length + 1) * 64) 140737488355328 = true := by rw [Nat.ble_eq]; omega
      have sz2 : Nat.ble (q.length + 1) maxLen = true := by rw [Nat.ble_eq]; unfold maxLen; omega
      have hbk : Nat.beq q.length q.length = true := by simp
      refine OneRound.goT [true, true] (vs := [vI (IntKind.i64.wrap ((k : Int) + 1)), .one (.sl rCell (q ++ [l.getD k rCell.dflt]) (.own 3 (q.length + 1)))]) (hp' := [.mp rP rCell true true M, .cells [.mref 0], .cells (rOp.cells o), .tok 52 (q.length + 1)])
        (cs := [Nat.beq q.length q.length, Nat.ble ((q.length + 1) * 64) 140737488355328 && Nat.ble (q.length + 1) maxLen, inB (k : Int) l.length, (ByteArray.toList (l.getD k rCell.dflt).1 == ByteArray.toList o.2.1) == true, inB (k : Int) l.length, decide ((k : Int) < ((l.length : Nat) : Int)) == true]) (fun rest => by kernel_rfl)
        (allI (by simp only [hbk, sz1, sz2, hbl, ha, hin, d1]; rfl)) (k + 1) (by omega) (by omega) ⟨.of_eq hw, .of_eq ?_, trivial⟩ ?_ (by simp [idsLt, idsV, idsC, idsB, rOp, rRes, CT.cells])
      · rw [e, List.length_append]; rfl
      · rw [e, List.length_append]; rfl
    | false =>
      have e : rowAll o (l.take (k + 1)) = rowAll o (l.take k) := by
        rw [ht]; unfold rowAll; rw [List.filter_append, List.filter_cons_of_neg (by rw [ha]; exact Bool.false_ne_true)]
        rw [List.filter_nil, List.append_nil]
      generalize rowAll o (l.take k) = q at *
      refine OneRound.goT [true, false] (vs := [vI (IntKind.i64.wrap ((k : Int) + 1)), .one (.sl rCell q (.own 3 q.length))]) (hp' := [.mp rP rCell true true M, .cells [.mref 0], .cells (rOp.cells o), .tok 52 q.length])
        (cs := [(ByteArray.toList (l.getD k rCell.dflt).1 == ByteArray.toList o.2.1) == false, inB (k : Int) l.length, decide ((k : Int) < ((l.length : Nat) : Int)) == true]) (fun rest => by kernel_rfl)
        (allI (by simp only [hbl, ha, hin, d1]; rfl)) (k + 1) (by omega) (by omega) ⟨.of_eq hw, .of_eq ?_, trivial⟩ ?_ (by simp [idsLt, idsV, idsC, idsB, rOp, rRes, CT.cells])
      · rw [e]
      · rw [e]
  · have d1 : decide ((k : Int) < ((l.length : Nat) : Int)) = false := decide_eq_false (by omega)
    have e : l.take k = l := List.take_of_length_le (by omega)
    exact OneRound.stopT [false] (vs := [vI k, .one (.sl rCell (rowAll o (l.take k)) (.own 3 (rowAll o (l.take k)).length))]) (hp' := [.mp rP rCell true true M, .cells [.mref 0], .cells (rOp.cells o), .tok 52 (rowAll o (l.take k)).length]) (cs := [decide ((k : Int) < ((l.length : Nat) : Int)) == false]) (fun rest => by kernel_rfl) (allI (by rw [d1]; rfl)) (by simp) ⟨.unk, .of_eq (by rw [e]), trivial⟩ (by rw [e]) (by simp [idsLt, idsV, idsC, idsB, rOp, rRes, CT.cells])
end Go.Proofs.Ytolhkkoakneflaa
