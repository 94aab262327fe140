/- ModelSeeks: its loops; no statement. -/
import Derived.Test.YtolhkkoakneflaaSk5
set_option linter.unusedVariables false
set_option linter.unusedSimpArgs false
namespace Go.Proofs.Ytolhkkoakneflaa
open Go Go.Eng

noncomputable def lSa : Code := (theLoop Try.prog 5 5).getD .skip
theorem lSa_eq : theLoop Try.prog 5 5 = some lSa := by kernel_rfl
noncomputable def lSc : Code := (theLoop Try.prog 5 15).getD .skip
theorem lSc_eq : theLoop Try.prog 5 15 = some lSc := by kernel_rfl

def opsM (l : List rAct.den) (k : Nat) : MapT := (l.take k).foldl (fun M a => doM (ofV a) M) []
theorem opsM_succ {l : List rAct.den} {k : Nat} (h : k < l.length) : opsM l (k + 1) = doM (ofV (l.getD k rAct.dflt)) (opsM l k) := by
  unfold opsM
  rw [List.take_add_one, List.foldl_append, getD_get (d := rAct.dflt) h]
  rfl
theorem reach_ops {l : List rAct.den} (hl : ∀ x ∈ l, WF rAct x) : ∀ k, k ≤ l.length → k ≤ 100 → Reach (opsM l k) k
  | 0, _, _ => reach0
  | k + 1, h, h2 => by
    rw [opsM_succ (by omega)]
    have := reach_act (reach_ops hl k (by omega) (by omega)) (by omega) (hl _ (List.mem_of_getElem? (getD_get (d := rAct.dflt) (k := k) (by omega))))
    rw [show ((k + 1 : Nat) : Int) = (k : Int) + 1 by omega]
    exact this
theorem opsM_end {l : List rAct.den} {k n : Nat} (h : l.length ≤ k) (h2 : k ≤ n) : opsM l n = opsM l k := by
  unfold opsM
  rw [List.take_of_length_le (by omega), List.take_of_length_le (by omega)]

theorem sa_loop (l : List rAct.den) (hl : ∀ x ∈ l, WF rAct x) :
    LoopOk Try.prog lSa 83 [6] [0, 5] [vI 0] [vL rAct l, .one (.ptr 1 0)] [.mp rP rCell true true [], .cells [.mref 0]] (.exit 0) [vX] [.mp rP rCell true true (opsM l 60), .cells [.mref 0]] := by
  refine LoopOk.rounds (S := Nat) EDo lSa_eq (by kernel_rfl) (fun k => [vI k]) (fun k => [.mp rP rCell true true (opsM l k), .cells [.mref 0]]) (fun k => k ≤ min l.length 60) (fun k => min l.length 60 - k) 0 (Nat.zero_le _) ?_ (fun _ _ => rfl)
  intro k hk
  by_cases hlt : k < l.length
  · by_cases hlt2 : k < 60
    · have hin : inB (k : Int) l.length = true := inB_of (by omega) (by omega)
      have d1 : decide ((k : Int) < ((l.length : Nat) : Int)) = true := decide_eq_true (by omega)
      have d2 : decide ((k : Int) < 60) = true := decide_eq_true (by omega)
      have h5 := kind_act (hl _ (List.mem_of_getElem? (getD_get (d := rAct.dflt) hlt)))
      have hw : vI (IntKind.i64.wrap ((k : Int) + 1)) = vI ((k + 1 : Nat) : Int) := by rw [wrap64 (by omega) (by omega)]; rfl
      exact OneRound.goT [true, true, true, true, false] (vs := [vI (IntKind.i64.wrap (k + 1))]) (hp' := [.mp rP rCell true true (doM (ofV (l.getD k rAct.dflt)) (opsM l k)), .cells [.mref 0]])
        (cs := [((ofV (l.getD k rAct.dflt)).1 == 5) == false, inB (k : Int) l.length, decide ((k : Int) < 60) == true, decide ((k : Int) < ((l.length : Nat) : Int)) == true, decide ((k : Int) < ((l.length : Nat) : Int)) == true, decide ((k : Int) < ((l.length : Nat) : Int)) == true]) (fun rest => by kernel_rfl)
        (allI (by simp only [hin, d1, d2, h5]; rfl)) (k + 1) (by omega) (by omega) ⟨.of_eq hw, trivial⟩ (by rw [opsM_succ hlt]) (by simp [idsLt, idsV, idsC, idsB])
    · have d1 : decide ((k : Int) < ((l.length : Nat) : Int)) = true := decide_eq_true (by omega)
      have e : k = 60 := by omega
      subst e
      exact OneRound.stopT [true, true, true, false] (vs := [vI ((60 : Nat) : Int)]) (hp' := [.mp rP rCell true true (opsM l 60), .cells [.mref 0]]) (cs := [decide (((60 : Nat) : Int) < 60) == false, decide (((60 : Nat) : Int) < ((l.length : Nat) : Int)) == true, decide (((60 : Nat) : Int) < ((l.length : Nat) : Int)) == true, decide (((60 : Nat) : Int) < ((l.length : Nat) : Int)) == true]) (fun rest => by kernel_rfl) (allI (by simp only [d1]; rfl)) (by simp) ⟨.unk, trivial⟩ rfl (by simp [idsLt, idsV, idsC, idsB])
  · have d1 : decide ((k : Int) < ((l.length : Nat) : Int)) = false := decide_eq_false (by omega)
    exact OneRound.stopT [false, false, false, false] (vs := [vI k]) (hp' := [.mp rP rCell true true (opsM l k), .cells [.mref 0]]) (cs := [false == false, decide ((k : Int) < ((l.length : Nat) : Int)) == false, decide ((k : Int) < ((l.length : Nat) : Int)) == false, decide ((k : Int) < ((l.length : Nat) : Int)) == false]) (fun rest => by kernel_rfl) (allI (by simp only [d1]; rfl)) (by simp) ⟨.unk, trivial⟩ (by rw [opsM_end (k := k) (n := 60) (by omega) (by omega)]) (by simp [idsLt, idsV, idsC, idsB])

abbrev rowI (k : Int) : ByteArray := ByteArray.mk #[114] ++ strOfNums [IntKind.u8.wrap k]
abbrev getI (k : Int) (c : Nat) : rOp.den := (2, rowI k, colN c, e0B, false, e0B, ())
theorem rowI_eq {n : Nat} (h : n < 256) : rowI (n : Int) = rowN n := by
  unfold rowI rowN
  rw [wrapU8 (by omega) (by omega)]
theorem sc_loop (M : MapT) {n : Int} (R : Reach M n) (f c : Nat) (hf : f < 6) (hc : c < 3) :
    LoopOk Try.prog lSc 83 [11] [5, 7, 9, 10] [vI 3] [.one (.ptr 1 0), vS (rowN f), vS (colN c), .one (.ptr 2 0)] [.mp rP rCell true true M, .cells [.mref 0], .cells (rRes.cells zR)] (.exit 4) [vX] [.mp rP rCell true true M, .cells [.mref 0], .cells (rRes.cells (seekV M f c))] := by
  rw [← wS_all]
  refine LoopOk.rounds (S := Nat) EDo lSc_eq (by kernel_rfl) (fun j => [vI (3 - (j : Int))]) (fun j => [.mp rP rCell true true M, .cells [.mref 0], .cells (rRes.cells (wS M f c j))]) (fun j => j ≤ 4) (fun j => 4 - j) 0 (Nat.zero_le _) ?_ (fun _ _ => rfl)
  intro j hj
  by_cases hlt : j < 4
  · have ek : (3 - (j : Int)) = ((3 - j : Nat) : Int) := by omega
    have er : rowI (3 - (j : Int)) = rowN (3 - j) := by rw [ek]; exact rowI_eq (by omega)
    obtain ⟨g1, g2⟩ := got_eq R (r := 3 - j) (by omega) hc
    have eg : getI (3 - (j : Int)) c = opP 2 (3 - j) c e0B false e0B := by unfold getI opP; rw [er]
    have g1' : doR (getI (3 - (j : Int)) c) M = gotV M (3 - j) c := by rw [eg]; exact g1
    have g2' : doM (getI (3 - (j : Int)) c) M = M := by rw [eg]; exact g2
    have hw : vI (IntKind.i64.wrap ((3 - (j : Int)) - 1)) = vI (3 - ((j + 1 : Nat) : Int)) := by rw [wrap64 (by omega) (by omega), show (3 - (j : Int)) - 1 = 3 - ((j + 1 : Nat) : Int) by omega]
    have d1 : decide ((3 - (j : Int)) ≥ 0) = true := decide_eq_true (by omega)
    have sz : decide ((ByteArray.mk #[114]).size + (strOfNums [IntKind.u8.wrap (3 - (j : Int))]).size ≤ 9223372036854775807) = true := decide_eq_true (by rw [one_size]; show 1 + 1 ≤ _; omega)
    have hl : Op.bytesLess (ByteArray.toList (rowI (3 - (j : Int)))) (ByteArray.toList (rowN f)) = decide (3 - j < f) := by rw [er]; exact row_less _ (by omega) _ hf
    have hs := wS_step M f c j hlt
    by_cases hb : 3 - j < f
    · rw [decide_eq_true hb] at hl
      rw [decide_eq_false (show ¬ f ≤ 3 - j by omega), Bool.false_and, cond_false] at hs
      exact OneRound.goT [true, false, false, false, false, false] (vs := [vI (IntKind.i64.wrap ((3 - (j : Int)) - 1))]) (hp' := [.mp rP rCell true true (doM (getI (3 - (j : Int)) c) M), .cells [.mref 0], .cells (rRes.cells (wS M f c j))])
        (cs := [false == false, (!Op.bytesLess (ByteArray.toList (rowI (3 - (j : Int)))) (ByteArray.toList (rowN f))) == false, (!Op.bytesLess (ByteArray.toList (rowI (3 - (j : Int)))) (ByteArray.toList (rowN f))) == false, (!Op.bytesLess (ByteArray.toList (rowI (3 - (j : Int)))) (ByteArray.toList (rowN f))) == false, ((2 : Int) == 5) == false, decide ((ByteArray.mk #[114]).size + (strOfNums [IntKind.u8.wrap (3 - (j : Int))]).size ≤ 9223372036854775807), decide ((3 - (j : Int)) ≥ 0) == true]) (fun rest => by kernel_rfl)
        (allI (by rw [hl, sz, d1]; rfl)) (j + 1) (by omega) (by omega) ⟨.of_eq hw, trivial⟩ (by rw [g2', hs]) (by simp [idsLt, idsV, idsC, idsB, rRes, CT.cells])
    · rw [decide_eq_false hb] at hl
      rw [decide_eq_true (show f ≤ 3 - j by omega), Bool.true_and, ← g1'] at hs
      cases hg : (doR (getI (3 - (j : Int)) c) M).2.1 with
      | true =>
        rw [hg, cond_true, ← er] at hs
        exact OneRound.goT [true, false, true, true, true, true] (vs := [vI (IntKind.i64.wrap ((3 - (j : Int)) - 1))]) (hp' := [.mp rP rCell true true (doM (getI (3 - (j : Int)) c) M), .cells [.mref 0], .cells (rRes.cells (0, true, rowI (3 - (j : Int)), (doR (getI (3 - (j : Int)) c) M).2.2.2.1, (doR (getI (3 - (j : Int)) c) M).2.2.2.2.1, ()))])
          (cs := [(doR (getI (3 - (j : Int)) c) M).2.1 == true, (!Op.bytesLess (ByteArray.toList (rowI (3 - (j : Int)))) (ByteArray.toList (rowN f))) == true, (!Op.bytesLess (ByteArray.toList (rowI (3 - (j : Int)))) (ByteArray.toList (rowN f))) == true, (!Op.bytesLess (ByteArray.toList (rowI (3 - (j : Int)))) (ByteArray.toList (rowN f))) == true, ((2 : Int) == 5) == false, decide ((ByteArray.mk #[114]).size + (strOfNums [IntKind.u8.wrap (3 - (j : Int))]).size ≤ 9223372036854775807), decide ((3 - (j : Int)) ≥ 0) == true]) (fun rest => by kernel_rfl)
          (allI (by rw [hl, sz, d1, hg]; rfl)) (j + 1) (by omega) (by omega) ⟨.of_eq hw, trivial⟩ (by rw [g2', hs]) (by simp [idsLt, idsV, idsC, idsB, rRes, CT.cells])
      | false =>
        rw [hg, cond_false] at hs
        exact OneRound.goT [true, false, true, true, true, false] (vs := [vI (IntKind.i64.wrap ((3 - (j : Int)) - 1))]) (hp' := [.mp rP rCell true true (doM (getI (3 - (j : Int)) c) M), .cells [.mref 0], .cells (rRes.cells (wS M f c j))])
          (cs := [(doR (getI (3 - (j : Int)) c) M).2.1 == false, (!Op.bytesLess (ByteArray.toList (rowI (3 - (j : Int)))) (ByteArray.toList (rowN f))) == true, (!Op.bytesLess (ByteArray.toList (rowI (3 - (j : Int)))) (ByteArray.toList (rowN f))) == true, (!Op.bytesLess (ByteArray.toList (rowI (3 - (j : Int)))) (ByteArray.toList (rowN f))) == true, ((2 : Int) == 5) == false, decide ((ByteArray.mk #[114]).size + (strOfNums [IntKind.u8.wrap (3 - (j : Int))]).size ≤ 9223372036854775807), decide ((3 - (j : Int)) ≥ 0) == true]) (fun rest => by kernel_rfl)
          (allI (by rw [hl, sz, d1, hg]; rfl)) (j + 1) (by omega) (by omega) ⟨.of_eq hw, trivial⟩ (by rw [g2', hs]) (by simp [idsLt, idsV, idsC, idsB, rRes, CT.cells])
  · have e : j = 4 := by omega
    subst e
    exact OneRound.stopT [false] (vs := [vI (3 - ((4 : Nat) : Int))]) (hp' := [.mp rP rCell true true M, .cells [.mref 0], .cells (rRes.cells (wS M f c 4))]) (cs := [decide ((3 - ((4 : Nat) : Int)) ≥ 0) == false]) (fun rest => by kernel_rfl) (allI rfl) (by simp) ⟨.unk, trivial⟩ rfl (by simp [idsLt, idsV, idsC, idsB, rRes, CT.cells])

def asAct (r : CT) (l : List r.den) : Option (List rAct.den) := if h : r.eqb rAct = true then some (castL r rAct h l) else none
theorem asAct_eq {r : CT} {l : List r.den} {x : List rAct.den} (h : asAct r l = some x) : r = rAct ∧ HEq l x := by
  unfold asAct at h
  split at h
  · rename_i h1
    have e := CT.eq_of_eqb _ _ h1
    subst e
    injection h with h
    exact ⟨rfl, heq_of_eq h⟩
  · cases h
noncomputable def ESa : Env Try.prog := EDo.addL 5 5 lSa_eq 83 [6] [0, 5] (by kernel_rfl)
  (fun vals rov hp os => match vals, rov, hp with
    | [.one (.int .i64 z)], [.one (.sl r1 l1 .shared), .one (.ptr 1 0)], [.mp (.pair .str (.pair .str .unit)) (.pair .str (.pair .str (.pair (.int .u64) (.pair .bool (.pair .str .unit))))) true true M, .cells [.mref 0]] =>
      match asAct r1 l1 with
      | some l => retC (.exit 0, [vX], [.mp rP rCell true true (opsM l 60), .cells [.mref 0]]) [decide (z = 0), ok (M = [] ∧ ∀ x ∈ l, WF rAct x)] os
      | _ => none
    | _, _, _ => none)
  (fun vals rov hp os e outs hp' cs os' h hc => by
    split at h
    · rename_i z r1 l1 M
      split at h
      · rename_i l e1
        obtain ⟨rfl, e1⟩ := asAct_eq e1
        subst e1
        simp only [retC, Option.some.injEq, Prod.mk.injEq] at h
        obtain ⟨⟨rfl, rfl, rfl⟩, rfl, rfl⟩ := h
        obtain ⟨h1, hc⟩ := of_allTc hc
        obtain ⟨h2, _⟩ := of_allTc hc
        have h1 := of_decide_eq_true h1
        subst h1
        obtain ⟨hM, H⟩ := of_ok h2
        subst hM
        exact sa_loop _ H
      · cases h
    · cases h)
structure ScOk (M : MapT) (low col : ByteArray) (w : rRes.den) : Prop where
  ex : ∃ n, Reach M n
  low : ∃ f, f < 6 ∧ low = rowN f
  col : ∃ c, c < 3 ∧ col = colN c
  w : w = zR
noncomputable def ESc : Env Try.prog := ESa.addL 5 15 lSc_eq 83 [11] [5, 7, 9, 10] (by kernel_rfl)
  (fun vals rov hp os => match vals, rov, hp with
    | [.one (.int .i64 z)], [.one (.ptr 1 0), .one (.str low), .one (.str col), .one (.ptr 2 0)], [.mp (.pair .str (.pair .str .unit)) (.pair .str (.pair .str (.pair (.int .u64) (.pair .bool (.pair .str .unit))))) true true M, .cells [.mref 0], .cells [.int .i64 t0, .bool t1, .str t2, .str t3, .int .u64 t4]] =>
      retC (.exit 4, [vX], [.mp rP rCell true true M, .cells [.mref 0], .cells (rRes.cells (seekV M (fIx low) (cIx col)))]) [decide (z = 3), ok (ScOk M low col (t0, t1, t2, t3, t4, ()))] os
    | _, _, _ => none)
  (fun vals rov hp os e outs hp' cs os' h hc => by
    split at h
    · rename_i z low col M t0 t1 t2 t3 t4
      simp only [retC, Option.some.injEq, Prod.mk.injEq] at h
      obtain ⟨⟨rfl, rfl, rfl⟩, rfl, rfl⟩ := h
      obtain ⟨h1, hc⟩ := of_allTc hc
      obtain ⟨h2, _⟩ := of_allTc hc
      have h1 := of_decide_eq_true h1
      subst h1
      obtain ⟨⟨n, R⟩, ⟨f, hf, rfl⟩, ⟨c, hcc, rfl⟩, hw⟩ := of_ok h2
      rw [fIx_row f hf, cIx_col c hcc]
      have := sc_loop M R f c hf hcc
      rw [← hw] at this
      exact this
    · cases h)
end Go.Proofs.Ytolhkkoakneflaa
