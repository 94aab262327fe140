/- agrees, of a log behind any base, where it looks for an entry of the base's index; no statement. -/
import Derived.Test.YtmbekpoelkcceaaRcs
set_option linter.unusedVariables false
set_option linter.unusedSimpArgs false
namespace Go.Proofs.Ytmbekpoelkcceaa
open Go Go.Eng

def noneBad (bi bt : Int) (l : List rEntry.den) : Prop := ∀ k, k < l.length → eIx (l.getD k rEntry.dflt) = bi → eTm (l.getD k rEntry.dflt) = bt
noncomputable def lIdx : Code := (theLoop Try.prog 59 2).getD .skip
theorem lIdx_eq : theLoop Try.prog 59 2 = some lIdx := by kernel_rfl
theorem idx_loop (bi bt : Int) (bm : List Int) (x l : List rEntry.den) (hl : l.length ≤ 1000) (H : noneBad bi bt l) :
    LoopOk Try.prog lIdx 19 [8, 4] [0, 1, 7] [vI 0, vI 0] [vL rEntry l, .one (.fn 55 [(1, 0)]), vI l.length] [logC bi bt bm x, .cells [.ptr 0 0]] (.exit 0) [vX, vI 0] [logC bi bt bm x, .cells [.ptr 0 0]] := by
  refine LoopOk.rounds (S := Nat) ESam lIdx_eq (by kernel_rfl) (fun k => [vI k, vI 0]) (fun _ => [logC bi bt bm x, .cells [.ptr 0 0]]) (fun k => k ≤ l.length) (fun k => l.length - k) 0 (Nat.zero_le _) ?_ (fun _ _ => rfl)
  intro k hk
  have hlt : (decide ((k : Int) < ((l.length : Nat) : Int)) : Bool) = true → k < l.length := fun h => by have := of_decide_eq_true h; omega
  have hin : (decide ((k : Int) < ((l.length : Nat) : Int)) : Bool) = true → inB k l.length = true := fun h => inB_of (by omega) (of_decide_eq_true h)
  have hle : (decide ((k : Int) < ((l.length : Nat) : Int)) : Bool) = true → k + 1 ≤ l.length := fun h => hlt h
  have hmu : (decide ((k : Int) < ((l.length : Nat) : Int)) : Bool) = true → l.length - (k + 1) < l.length - k := fun h => by have := hlt h; omega
  have hw : (decide ((k : Int) < ((l.length : Nat) : Int)) : Bool) = true → vI (IntKind.i64.wrap ((k : Int) + 1)) = vI ((k + 1 : Nat) : Int) := fun h => by have := hlt h; rw [wrap64 (by omega) (by omega)]; rfl
  have bad : (decide ((k : Int) < ((l.length : Nat) : Int)) : Bool) = true → ((l.getD k rEntry.dflt).fst == bi : Bool) = true → ((l.getD k rEntry.dflt).snd.fst != bt : Bool) = true → False := fun h h2 h3 => by
    have e := H k (hlt h) (beq_iff_eq.1 h2)
    have e : (l.getD k rEntry.dflt).snd.fst = bt := e
    rw [e] at h3
    simp at h3
  cases h1 : (decide (((k : Nat) : Int) < ((l.length : Nat) : Int)) : Bool) with
  | true =>
    cases h2 : ((l.getD k rEntry.dflt).fst == bi : Bool) with
    | true =>
      cases h3 : ((l.getD k rEntry.dflt).snd.fst != bt : Bool) with
      | true =>
        first | (exfalso; exact bad h1 h2 h3) | exact OneRound.stopT [true, true, true, true, true, true, true, true, true, true, true] (vs := [(.one (.int .i64 ((k : Nat) : Int))), (.one (.int .i64 ((k : Nat) : Int)))]) (hp' := [logC bi bt bm x, .cells [.ptr 0 0]]) (cs := [((l.getD k rEntry.dflt).snd.fst != bt) == true, ((l.getD k rEntry.dflt).fst == bi) == true, ((l.getD k rEntry.dflt).fst == bi) == true, ((l.getD k rEntry.dflt).fst == bi) == true, ((l.getD k rEntry.dflt).fst == bi) == true, ((l.getD k rEntry.dflt).fst == bi) == true, ((l.getD k rEntry.dflt).fst == bi) == true, ((l.getD k rEntry.dflt).fst == bi) == true, ((l.getD k rEntry.dflt).fst == bi) == true, ((l.getD k rEntry.dflt).fst == bi) == true, inB (((k : Nat) : Int)) l.length, decide (((k : Nat) : Int) < ((l.length : Nat) : Int)) == true]) (fun rest => by kernel_rfl) (allI (by simp only [h1, h2, h3]; rfl)) (by simp) ⟨.unk, .refl, trivial⟩ rfl (by simp [idsLt, idsV, idsC, idsB])
      | false =>
        exact OneRound.goT [true, true, true, true, true, true, true, true, true, true, false] (vs := [(.one (.int .i64 (IntKind.i64.wrap (((k : Nat) : Int) + 1)))), (.one (.int .i64 (0)))]) (hp' := [logC bi bt bm x, .cells [.ptr 0 0]]) (cs := [((l.getD k rEntry.dflt).snd.fst != bt) == false, ((l.getD k rEntry.dflt).fst == bi) == true, ((l.getD k rEntry.dflt).fst == bi) == true, ((l.getD k rEntry.dflt).fst == bi) == true, ((l.getD k rEntry.dflt).fst == bi) == true, ((l.getD k rEntry.dflt).fst == bi) == true, ((l.getD k rEntry.dflt).fst == bi) == true, ((l.getD k rEntry.dflt).fst == bi) == true, ((l.getD k rEntry.dflt).fst == bi) == true, ((l.getD k rEntry.dflt).fst == bi) == true, inB (((k : Nat) : Int)) l.length, decide (((k : Nat) : Int) < ((l.length : Nat) : Int)) == true]) (fun rest => by kernel_rfl) (allI (by simp only [hin h1, h1, h2, h3]; rfl)) (k + 1) (hle h1) (hmu h1) ⟨.of_eq (hw h1), .refl, trivial⟩ rfl (by simp [idsLt, idsV, idsC, idsB])
    | false =>
      exact OneRound.goT [true, false, false, false, false, false, false, false, false, false, false] (vs := [(.one (.int .i64 (IntKind.i64.wrap (((k : Nat) : Int) + 1)))), (.one (.int .i64 (0)))]) (hp' := [logC bi bt bm x, .cells [.ptr 0 0]]) (cs := [false == false, ((l.getD k rEntry.dflt).fst == bi) == false, ((l.getD k rEntry.dflt).fst == bi) == false, ((l.getD k rEntry.dflt).fst == bi) == false, ((l.getD k rEntry.dflt).fst == bi) == false, ((l.getD k rEntry.dflt).fst == bi) == false, ((l.getD k rEntry.dflt).fst == bi) == false, ((l.getD k rEntry.dflt).fst == bi) == false, ((l.getD k rEntry.dflt).fst == bi) == false, ((l.getD k rEntry.dflt).fst == bi) == false, inB (((k : Nat) : Int)) l.length, decide (((k : Nat) : Int) < ((l.length : Nat) : Int)) == true]) (fun rest => by kernel_rfl) (allI (by simp only [hin h1, h1, h2]; rfl)) (k + 1) (hle h1) (hmu h1) ⟨.of_eq (hw h1), .refl, trivial⟩ rfl (by simp [idsLt, idsV, idsC, idsB])
  | false =>
    first | (exfalso; exact bad h1 h2 h3) | exact OneRound.stopT [false] (vs := [(.one (.int .i64 ((k : Nat) : Int))), (.one (.int .i64 (0)))]) (hp' := [logC bi bt bm x, .cells [.ptr 0 0]]) (cs := [decide (((k : Nat) : Int) < ((l.length : Nat) : Int)) == false]) (fun rest => by kernel_rfl) (allI (by simp only [h1]; rfl)) (by simp) ⟨.unk, .refl, trivial⟩ rfl (by simp [idsLt, idsV, idsC, idsB])
noncomputable def EIdx : Env Try.prog := ESam.addL 59 2 lIdx_eq 19 [8, 4] [0, 1, 7] (by kernel_rfl)
  (fun vals rov hp os => match vals, rov, hp with
    | [.one (.int .i64 z), .one (.int .i64 z2)], [.one (.sl r1 l1 .shared), .one (.fn g [(1, 0)]), .one (.int .i64 n)], [.cells [.int .u64 bi, .int .u64 bt, .sl (.int .i64) bm .shared, .sl r2 l2 .shared, .bool mk], .cells [.ptr 0 0]] =>
      match asE r1 l1, asE r2 l2 with
      | some l, some x => retC (.exit 0, [vX, vI 0], [logC bi bt bm x, .cells [.ptr 0 0]]) [decide (z = 0 ∧ z2 = 0 ∧ n = l.length ∧ mk = true ∧ g = 55), decide (l.length ≤ 1000), ok (noneBad bi bt l)] os
      | _, _ => none
    | _, _, _ => none)
  (fun vals rov hp os e outs hp' cs os' h hc => by
    split at h
    · rename_i z z2 r1 l1 g n bi bt bm r2 l2 mk
      split at h
      · rename_i l x e1 e2
        obtain ⟨rfl, e1⟩ := asE_eq e1
        obtain ⟨rfl, e2⟩ := asE_eq e2
        subst e1; subst e2
        simp only [retC, Option.some.injEq, Prod.mk.injEq] at h
        obtain ⟨⟨rfl, rfl, rfl⟩, rfl, rfl⟩ := h
        obtain ⟨h1, hc⟩ := of_allTc hc
        obtain ⟨h2, hc⟩ := of_allTc hc
        obtain ⟨h3, _⟩ := of_allTc hc
        obtain ⟨rfl, rfl, rfl, rfl, rfl⟩ := of_decide_eq_true h1
        exact idx_loop _ _ _ _ _ (of_decide_eq_true h2) (of_ok h3)
      · cases h
    · cases h)
end Go.Proofs.Ytmbekpoelkcceaa
