/- RlogMatch: its loop; no statement. -/
import Derived.Test.YtmbekpoelkcceaaHnd
set_option linter.unusedVariables false
set_option linter.unusedSimpArgs false
namespace Go.Proofs.Ytmbekpoelkcceaa
open Go Go.Eng

noncomputable def lMat : Code := (theLoop Try.prog 3 10).getD .skip
theorem lMat_eq : theLoop Try.prog 3 10 = some lMat := by kernel_rfl

structure MatOk (l : List rPiece.den) (a b : List rEntry.den) : Prop where
  hl : ∀ p ∈ l, (0 ≤ p.2.1 ∧ p.2.1 ≤ 255) ∧ (0 ≤ p.2.2.1 ∧ p.2.2.1 ≤ 255)
  ex : ∃ (n : Nat) (g : List Int) (L : Nat), (∀ x ∈ g, (0 : Int) ≤ x) ∧ L ≤ 40 ∧ a = ldTo n g false L ∧ b = ldTo n g true L

theorem mat_loop (l : List rPiece.den) (a b : List rEntry.den) (H : MatOk l a b) :
    LoopOk Try.prog lMat 61 [12] [2, 8, 9, 10] [vI 0] [vL rPiece l, vL rEntry a, vL rEntry b, .one (.ptr 1 0)] [baB, logB [] .shared] (.exit 0) [vX] [baB, logB (matX a b l 100) .shared] := by
  obtain ⟨hl, n, g, L, hg, hL, ea, eb⟩ := H
  refine LoopOk.rounds (S := Nat) EHnd lMat_eq (by kernel_rfl) (fun k => [vI k]) (fun k => [baB, logB (matX a b l k) .shared]) (fun k => k ≤ min l.length 100 ∧ ∃ ev m, m ≤ 40 ∧ matX a b l k = ldTo n g ev m) (fun k => min l.length 100 - k) 0 ⟨Nat.zero_le _, false, 0, Nat.zero_le _, rfl⟩ ?_ (fun _ _ => rfl)
  intro k ⟨hk, ev, m, hm, hx⟩
  by_cases hlt : k < l.length
  · by_cases hlt2 : k < 100
    · have hin : inB (k : Int) l.length = true := inB_of (by omega) (by omega)
      have d1 : decide ((k : Int) < ((l.length : Nat) : Int)) = true := decide_eq_true (by omega)
      have d2 : decide ((k : Int) < 100) = true := decide_eq_true (by omega)
      have n5 : decide ((0 : Int) = 0 ∧ (0 : Int) = 0 ∧ (0 : Int) = 0 ∧ (0 : Int) = 0 ∧ true = true) = true := decide_eq_true ⟨rfl, rfl, rfl, rfl, rfl⟩
      have hp := hl _ (List.mem_of_getElem? (getD_get (d := rPiece.dflt) hlt))
      have hs := matX_succ (a := a) (b := b) hlt
      have hw : vI (IntKind.i64.wrap ((k : Int) + 1)) = vI ((k + 1 : Nat) : Int) := by rw [wrap64 (by omega) (by omega)]; rfl
      have nxt : ∀ ev', ∃ ev2 m2, m2 ≤ 40 ∧ handY (ldTo n g ev' L) (l.getD k rPiece.dflt).2.1 (l.getD k rPiece.dflt).2.2.1 (ldTo n g ev m) = ldTo n g ev2 m2 := fun ev' => by
        rw [handY_ld _ _ hp.1.1 hp.2.1 hL]
        obtain ⟨t1, t2, t3⟩ := hT_ok L _ _ hp.1.1 hp.2.1 hL
        obtain ⟨_, _, ev2, m2, q3, _, q5, _⟩ := putR_ld (n := n) (g := g) hg (ev := ev) (ev' := ev') (m := m) (fr := hF L (l.getD k rPiece.dflt).2.1) (to := hT L (l.getD k rPiece.dflt).2.1 (l.getD k rPiece.dflt).2.2.1) (by omega) t2
        exact ⟨ev2, m2, by omega, q3⟩
      have hok : ∀ ev', ok (HandOk (ldTo n g ev' L) (ldTo n g ev m) (l.getD k rPiece.dflt).2.1 (l.getD k rPiece.dflt).2.2.1) = true := fun ev' => ok_of ⟨hp.1, hp.2, n, g, ev, ev', L, m, hg, hL, hm, rfl, rfl⟩
      cases hf : (l.getD k rPiece.dflt).1 with
      | false =>
        have e : matX a b l (k + 1) = handY a (l.getD k rPiece.dflt).2.1 (l.getD k rPiece.dflt).2.2.1 (matX a b l k) := by
          rw [hs]; unfold matS; rw [hf]; rfl
        have hok := hok false
        obtain ⟨ev2, m2, h2, h3⟩ := nxt false
        rw [← ea, ← hx] at hok h3
        exact OneRound.goT [true, true, true, true, false, false] (vs := [(.one (.int .i64 (IntKind.i64.wrap (((k : Nat) : Int) + 1))))]) (hp' := [(.cells [(.int .u64 (0)), (.int .u64 (0)), .nils]), (.cells [(.int .u64 (0)), (.int .u64 (0)), (.sl (.int .i64) [] .shared), (.sl (.pair (.int .u64) (.pair (.int .u64) (.pair (.int .i64) (.pair (.pair (.int .i64) (.pair (.int .i64) (.pair (.int .u64) (.pair (.int .u64) (.pair (.pair (.int .i64) (.pair .str (.pair .str (.pair .str (.pair .bool (.pair .str .unit)))))) (.pair (.int .u64) (.pair (.int .i64) (.pair .str (.pair .str (.pair (.int .i64) (.pair (.pair .bool (.pair (.int .i64) (.pair .str (.pair (.int .i64) (.pair (.int .i64) .unit))))) .unit))))))))))) (.pair (.sl (.int .i64)) .unit))))) (handY a (l.getD k rPiece.dflt).snd.fst (l.getD k rPiece.dflt).snd.snd.fst (matX a b l k)) .shared), (.bool true)])]) (cs := [((!true) == false), (decide ((0 : Int) = 0 ∧ (0 : Int) = 0 ∧ (0 : Int) = 0 ∧ (0 : Int) = 0 ∧ true = true)), (ok (HandOk a (matX a b l k) (l.getD k rPiece.dflt).snd.fst (l.getD k rPiece.dflt).snd.snd.fst)), (inB (((k : Nat) : Int)) l.length), ((l.getD k rPiece.dflt).fst == false), (inB (((k : Nat) : Int)) l.length), (decide (((k : Nat) : Int) < 100) == true), (decide (((k : Nat) : Int) < ((l.length : Nat) : Int)) == true), (decide (((k : Nat) : Int) < ((l.length : Nat) : Int)) == true), (decide (((k : Nat) : Int) < ((l.length : Nat) : Int)) == true)]) (fun rest => by kernel_rfl) (allI (by simp only [hin, d1, d2, hf, ↓n5, hok]; rfl)) (k + 1) ⟨by omega, ev2, m2, h2, e.trans h3⟩ (by omega) ⟨.of_eq hw, trivial⟩ (by rw [e]) (by simp [idsLt, idsV, idsC, idsB])
      | true =>
        have e : matX a b l (k + 1) = handY b (l.getD k rPiece.dflt).2.1 (l.getD k rPiece.dflt).2.2.1 (matX a b l k) := by
          rw [hs]; unfold matS; rw [hf]; rfl
        have hok := hok true
        obtain ⟨ev2, m2, h2, h3⟩ := nxt true
        rw [← eb, ← hx] at hok h3
        exact OneRound.goT [true, true, true, true, true, false] (vs := [(.one (.int .i64 (IntKind.i64.wrap (((k : Nat) : Int) + 1))))]) (hp' := [(.cells [(.int .u64 (0)), (.int .u64 (0)), .nils]), (.cells [(.int .u64 (0)), (.int .u64 (0)), (.sl (.int .i64) [] .shared), (.sl (.pair (.int .u64) (.pair (.int .u64) (.pair (.int .i64) (.pair (.pair (.int .i64) (.pair (.int .i64) (.pair (.int .u64) (.pair (.int .u64) (.pair (.pair (.int .i64) (.pair .str (.pair .str (.pair .str (.pair .bool (.pair .str .unit)))))) (.pair (.int .u64) (.pair (.int .i64) (.pair .str (.pair .str (.pair (.int .i64) (.pair (.pair .bool (.pair (.int .i64) (.pair .str (.pair (.int .i64) (.pair (.int .i64) .unit))))) .unit))))))))))) (.pair (.sl (.int .i64)) .unit))))) (handY b (l.getD k rPiece.dflt).snd.fst (l.getD k rPiece.dflt).snd.snd.fst (matX a b l k)) .shared), (.bool true)])]) (cs := [((!true) == false), (decide ((0 : Int) = 0 ∧ (0 : Int) = 0 ∧ (0 : Int) = 0 ∧ (0 : Int) = 0 ∧ true = true)), (ok (HandOk b (matX a b l k) (l.getD k rPiece.dflt).snd.fst (l.getD k rPiece.dflt).snd.snd.fst)), (inB (((k : Nat) : Int)) l.length), ((l.getD k rPiece.dflt).fst == true), (inB (((k : Nat) : Int)) l.length), (decide (((k : Nat) : Int) < 100) == true), (decide (((k : Nat) : Int) < ((l.length : Nat) : Int)) == true), (decide (((k : Nat) : Int) < ((l.length : Nat) : Int)) == true), (decide (((k : Nat) : Int) < ((l.length : Nat) : Int)) == true)]) (fun rest => by kernel_rfl) (allI (by simp only [hin, d1, d2, hf, ↓n5, hok]; rfl)) (k + 1) ⟨by omega, ev2, m2, h2, e.trans h3⟩ (by omega) ⟨.of_eq hw, trivial⟩ (by rw [e]) (by simp [idsLt, idsV, idsC, idsB])
    · have d1 : decide ((k : Int) < ((l.length : Nat) : Int)) = true := decide_eq_true (by omega)
      have d2 : decide ((k : Int) < 100) = false := decide_eq_false (by omega)
      have e : k = 100 := by omega
      subst e
      exact OneRound.stopT [true, true, true, false] (vs := [vI ((100 : Nat) : Int)]) (hp' := [baB, logB (matX a b l 100) .shared]) (cs := [decide (((100 : Nat) : Int) < 100) == false, decide (((100 : Nat) : Int) < ((l.length : Nat) : Int)) == true, decide (((100 : Nat) : Int) < ((l.length : Nat) : Int)) == true, decide (((100 : Nat) : Int) < ((l.length : Nat) : Int)) == true]) (fun rest => by kernel_rfl) (allI (by simp only [d1, d2]; rfl)) (by simp) ⟨.unk, trivial⟩ rfl (by simp [idsLt, idsV, idsC, idsB])
  · have d1 : decide ((k : Int) < ((l.length : Nat) : Int)) = false := decide_eq_false (by omega)
    have e : matX a b l 100 = matX a b l k := by
      unfold matX
      rw [List.take_of_length_le (by omega), List.take_of_length_le (by omega)]
    exact OneRound.stopT [false, false, false, false] (vs := [(.one (.int .i64 ((k : Nat) : Int)))]) (hp' := [(.cells [(.int .u64 (0)), (.int .u64 (0)), .nils]), (.cells [(.int .u64 (0)), (.int .u64 (0)), (.sl (.int .i64) [] .shared), (.sl (.pair (.int .u64) (.pair (.int .u64) (.pair (.int .i64) (.pair (.pair (.int .i64) (.pair (.int .i64) (.pair (.int .u64) (.pair (.int .u64) (.pair (.pair (.int .i64) (.pair .str (.pair .str (.pair .str (.pair .bool (.pair .str .unit)))))) (.pair (.int .u64) (.pair (.int .i64) (.pair .str (.pair .str (.pair (.int .i64) (.pair (.pair .bool (.pair (.int .i64) (.pair .str (.pair (.int .i64) (.pair (.int .i64) .unit))))) .unit))))))))))) (.pair (.sl (.int .i64)) .unit))))) (matX a b l k) .shared), (.bool true)])]) (cs := [(false == false), (decide (((k : Nat) : Int) < ((l.length : Nat) : Int)) == false), (decide (((k : Nat) : Int) < ((l.length : Nat) : Int)) == false), (decide (((k : Nat) : Int) < ((l.length : Nat) : Int)) == false)]) (fun rest => by kernel_rfl) (allI (by simp only [d1]; rfl)) (by simp) ⟨.unk, trivial⟩ (by rw [e]) (by simp [idsLt, idsV, idsC, idsB])

def asP (r : CT) (l : List r.den) : Option (List rPiece.den) := if h : r.eqb rPiece = true then some (castL r rPiece h l) else none
theorem asP_eq {r : CT} {l : List r.den} {x : List rPiece.den} (h : asP r l = some x) : r = rPiece ∧ HEq l x := by
  unfold asP at h
  split at h
  · rename_i h1
    have e := CT.eq_of_eqb _ _ h1
    subst e
    injection h with h
    exact ⟨rfl, heq_of_eq h⟩
  · cases h
noncomputable def EMat : Env Try.prog := EHnd.addL 3 10 lMat_eq 61 [12] [2, 8, 9, 10] (by kernel_rfl)
  (fun vals rov hp os => match vals, rov, hp with
    | [.one (.int .i64 z)], [.one (.sl r1 l1 .shared), .one (.sl r2 l2 .shared), .one (.sl r3 l3 .shared), .one (.ptr 1 0)], [.cells [.int .u64 b0, .int .u64 b1, .nils], .cells [.int .u64 b2, .int .u64 b3, .sl (.int .i64) [] .shared, .sl r4 x4 .shared, .bool mk]] =>
      match asP r1 l1, asE r2 l2, asE r3 l3, asE r4 x4 with
      | some l, some a, some b, some x => retC (.exit 0, [vX], [baB, logB (matX a b l 100) .shared]) [decide (z = 0 ∧ b0 = 0 ∧ b1 = 0 ∧ b2 = 0 ∧ b3 = 0 ∧ mk = true), ok (MatOk l a b ∧ x = [])] os
      | _, _, _, _ => none
    | _, _, _ => none)
  (fun vals rov hp os e outs hp' cs os' h hc => by
    split at h
    · rename_i z r1 l1 r2 l2 r3 l3 b0 b1 b2 b3 r4 x4 mk
      split at h
      · rename_i l a b x e1 e2 e3 e4
        obtain ⟨rfl, e1⟩ := asP_eq e1
        obtain ⟨rfl, e2⟩ := asE_eq e2
        obtain ⟨rfl, e3⟩ := asE_eq e3
        obtain ⟨rfl, e4⟩ := asE_eq e4
        subst e1; subst e2; subst e3; subst e4
        simp only [retC, Option.some.injEq, Prod.mk.injEq] at h
        obtain ⟨⟨rfl, rfl, rfl⟩, rfl, rfl⟩ := h
        obtain ⟨h1, hc⟩ := of_allTc hc
        obtain ⟨h2, _⟩ := of_allTc hc
        obtain ⟨rfl, rfl, rfl, rfl, rfl, rfl⟩ := of_decide_eq_true h1
        obtain ⟨H, ex⟩ := of_ok h2
        have := mat_loop _ _ _ H
        rw [← ex] at this
        exact this
      · cases h
    · cases h)
end Go.Proofs.Ytmbekpoelkcceaa
