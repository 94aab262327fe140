/- Members, of a log behind any base: its loop; no statement. -/
import Derived.Test.YtmbekpoelkcceaaRct
set_option linter.unusedVariables false
set_option linter.unusedSimpArgs false
namespace Go.Proofs.Ytmbekpoelkcceaa
open Go Go.Eng

def memC (a : Int) : List Int → List rEntry.den → List Int
  | bm, [] => bm
  | bm, e :: r => if e.1 > a then bm else memC a (if e.2.2.1 = 2 then e.2.2.2.2.1 else bm) r
noncomputable def lMem : Code := (theLoop Try.prog 18 5).getD .skip
theorem lMem_eq : theLoop Try.prog 18 5 = some lMem := by kernel_rfl
theorem drop_cons {x : List rEntry.den} {k : Nat} (h : k < x.length) : x.drop k = x.getD k rEntry.dflt :: x.drop (k + 1) := by
  rw [List.drop_eq_getElem_cons h]
  congr 1
  rw [List.getD_eq_getElem?_getD, List.getElem?_eq_getElem h]; rfl
theorem mem_loop (a b1 b2 : Int) (bm0 r b3 : List Int) (x y : List rEntry.den) (hx : x.length ≤ 1000) (hr : memC a bm0 x = r) :
    LoopOk Try.prog lMem 36 [20, 5] [1, 18, 19] [vI 0, vL cI bm0] [vU a, vL rEntry x, vI x.length] [logC b1 b2 b3 y] (.exit 0) [vX, vL cI r] [logC b1 b2 b3 y] := by
  refine LoopOk.rounds (S := Nat × List Int) ESam lMem_eq (by kernel_rfl) (fun s => [vI s.1, vL cI s.2]) (fun _ => [logC b1 b2 b3 y]) (fun s => s.1 ≤ x.length ∧ memC a s.2 (x.drop s.1) = r) (fun s => x.length - s.1) (0, bm0) ⟨Nat.zero_le _, hr⟩ ?_ (fun _ _ => rfl)
  intro ⟨k, bm⟩ ⟨hk, hb⟩
  simp only at hk hb
  have hlt : (decide ((k : Int) < ((x.length : Nat) : Int)) : Bool) = true → k < x.length := fun h => by have := of_decide_eq_true h; omega
  have hin : (decide ((k : Int) < ((x.length : Nat) : Int)) : Bool) = true → inB k x.length = true := fun h => inB_of (by omega) (of_decide_eq_true h)
  have hle : (decide ((k : Int) < ((x.length : Nat) : Int)) : Bool) = true → k + 1 ≤ x.length := fun h => hlt h
  have hmu : (decide ((k : Int) < ((x.length : Nat) : Int)) : Bool) = true → x.length - (k + 1) < x.length - k := fun h => by have := hlt h; omega
  have hw : (decide ((k : Int) < ((x.length : Nat) : Int)) : Bool) = true → vI (IntKind.i64.wrap ((k : Int) + 1)) = vI ((k + 1 : Nat) : Int) := fun h => by have := hlt h; rw [wrap64 (by omega) (by omega)]; rfl
  have goA : (decide ((k : Int) < ((x.length : Nat) : Int)) : Bool) = true → (decide ((x.getD k rEntry.dflt).fst > a) : Bool) = false → ((x.getD k rEntry.dflt).snd.snd.fst == 2 : Bool) = true → memC a (x.getD k rEntry.dflt).2.2.2.2.1 (x.drop (k + 1)) = r := fun h h2 h3 => by
    rw [drop_cons (hlt h)] at hb
    unfold memC at hb
    rw [if_neg (of_decide_eq_false h2), if_pos (beq_iff_eq.1 h3)] at hb
    exact hb
  have goB : (decide ((k : Int) < ((x.length : Nat) : Int)) : Bool) = true → (decide ((x.getD k rEntry.dflt).fst > a) : Bool) = false → ((x.getD k rEntry.dflt).snd.snd.fst == 2 : Bool) = false → memC a bm (x.drop (k + 1)) = r := fun h h2 h3 => by
    rw [drop_cons (hlt h)] at hb
    unfold memC at hb
    rw [if_neg (of_decide_eq_false h2), if_neg (beq_eq_false_iff_ne.1 h3)] at hb
    exact hb
  have brk : (decide ((k : Int) < ((x.length : Nat) : Int)) : Bool) = true → (decide ((x.getD k rEntry.dflt).fst > a) : Bool) = true → bm = r := fun h h2 => by
    rw [drop_cons (hlt h)] at hb
    unfold memC at hb
    rw [if_pos (of_decide_eq_true h2)] at hb
    exact hb
  have end_ : (decide ((k : Int) < ((x.length : Nat) : Int)) : Bool) = false → bm = r := fun h => by
    have := of_decide_eq_false h
    rw [List.drop_of_length_le (by omega)] at hb
    exact hb
  cases h1 : (decide (((k : Nat) : Int) < ((x.length : Nat) : Int)) : Bool) with
  | true =>
    cases h2 : (decide ((x.getD k rEntry.dflt).fst > a) : Bool) with
    | true =>
      first | (have e := end_ h1; subst e; exact OneRound.stopT [true, true] (vs := [(.one (.int .i64 ((k : Nat) : Int))), (.one (.sl (.int .i64) bm .shared))]) (hp' := [logC b1 b2 b3 y]) (cs := [decide ((x.getD k rEntry.dflt).fst > a) == true, inB (((k : Nat) : Int)) x.length, decide (((k : Nat) : Int) < ((x.length : Nat) : Int)) == true]) (fun rest => by kernel_rfl) (allI (by simp only [h1, h2]; rfl)) (by simp) ⟨.unk, .refl, trivial⟩ rfl (by simp [idsLt, idsV, idsC, idsB])) | (have e := brk h1 (by assumption); subst e; exact OneRound.stopT [true, true] (vs := [(.one (.int .i64 ((k : Nat) : Int))), (.one (.sl (.int .i64) bm .shared))]) (hp' := [logC b1 b2 b3 y]) (cs := [decide ((x.getD k rEntry.dflt).fst > a) == true, inB (((k : Nat) : Int)) x.length, decide (((k : Nat) : Int) < ((x.length : Nat) : Int)) == true]) (fun rest => by kernel_rfl) (allI (by simp only [hin h1, h1, h2]; rfl)) (by simp) ⟨.unk, .refl, trivial⟩ rfl (by simp [idsLt, idsV, idsC, idsB]))
    | false =>
      cases h3 : ((x.getD k rEntry.dflt).snd.snd.fst == 2 : Bool) with
      | true =>
        first | exact OneRound.goT [true, false, true] (vs := [(.one (.int .i64 (IntKind.i64.wrap (((k : Nat) : Int) + 1)))), (.one (.sl (.int .i64) ((x.getD k rEntry.dflt).snd.snd.snd.snd.fst) .shared))]) (hp' := [logC b1 b2 b3 y]) (cs := [((x.getD k rEntry.dflt).snd.snd.fst == 2) == true, decide ((x.getD k rEntry.dflt).fst > a) == false, inB (((k : Nat) : Int)) x.length, decide (((k : Nat) : Int) < ((x.length : Nat) : Int)) == true]) (fun rest => by kernel_rfl) (allI (by simp only [hin h1, h1, h2, h3]; rfl)) (k + 1, (x.getD k rEntry.dflt).2.2.2.2.1) ⟨hle h1, goA h1 (by assumption) (by assumption)⟩ (hmu h1) ⟨.of_eq (hw h1), .refl, trivial⟩ rfl (by simp [idsLt, idsV, idsC, idsB]) | exact OneRound.goT [true, false, true] (vs := [(.one (.int .i64 (IntKind.i64.wrap (((k : Nat) : Int) + 1)))), (.one (.sl (.int .i64) ((x.getD k rEntry.dflt).snd.snd.snd.snd.fst) .shared))]) (hp' := [logC b1 b2 b3 y]) (cs := [((x.getD k rEntry.dflt).snd.snd.fst == 2) == true, decide ((x.getD k rEntry.dflt).fst > a) == false, inB (((k : Nat) : Int)) x.length, decide (((k : Nat) : Int) < ((x.length : Nat) : Int)) == true]) (fun rest => by kernel_rfl) (allI (by simp only [hin h1, h1, h2, h3]; rfl)) (k + 1, bm) ⟨hle h1, goB h1 (by assumption) (by assumption)⟩ (hmu h1) ⟨.of_eq (hw h1), .refl, trivial⟩ rfl (by simp [idsLt, idsV, idsC, idsB])
      | false =>
        first | exact OneRound.goT [true, false, false] (vs := [(.one (.int .i64 (IntKind.i64.wrap (((k : Nat) : Int) + 1)))), (.one (.sl (.int .i64) bm .shared))]) (hp' := [logC b1 b2 b3 y]) (cs := [((x.getD k rEntry.dflt).snd.snd.fst == 2) == false, decide ((x.getD k rEntry.dflt).fst > a) == false, inB (((k : Nat) : Int)) x.length, decide (((k : Nat) : Int) < ((x.length : Nat) : Int)) == true]) (fun rest => by kernel_rfl) (allI (by simp only [hin h1, h1, h2, h3]; rfl)) (k + 1, (x.getD k rEntry.dflt).2.2.2.2.1) ⟨hle h1, goA h1 (by assumption) (by assumption)⟩ (hmu h1) ⟨.of_eq (hw h1), .refl, trivial⟩ rfl (by simp [idsLt, idsV, idsC, idsB]) | exact OneRound.goT [true, false, false] (vs := [(.one (.int .i64 (IntKind.i64.wrap (((k : Nat) : Int) + 1)))), (.one (.sl (.int .i64) bm .shared))]) (hp' := [logC b1 b2 b3 y]) (cs := [((x.getD k rEntry.dflt).snd.snd.fst == 2) == false, decide ((x.getD k rEntry.dflt).fst > a) == false, inB (((k : Nat) : Int)) x.length, decide (((k : Nat) : Int) < ((x.length : Nat) : Int)) == true]) (fun rest => by kernel_rfl) (allI (by simp only [hin h1, h1, h2, h3]; rfl)) (k + 1, bm) ⟨hle h1, goB h1 (by assumption) (by assumption)⟩ (hmu h1) ⟨.of_eq (hw h1), .refl, trivial⟩ rfl (by simp [idsLt, idsV, idsC, idsB])
  | false =>
    first | (have e := end_ h1; subst e; exact OneRound.stopT [false] (vs := [(.one (.int .i64 ((k : Nat) : Int))), (.one (.sl (.int .i64) bm .shared))]) (hp' := [logC b1 b2 b3 y]) (cs := [decide (((k : Nat) : Int) < ((x.length : Nat) : Int)) == false]) (fun rest => by kernel_rfl) (allI (by simp only [h1]; rfl)) (by simp) ⟨.unk, .refl, trivial⟩ rfl (by simp [idsLt, idsV, idsC, idsB])) | (have e := brk h1 (by assumption); subst e; exact OneRound.stopT [false] (vs := [(.one (.int .i64 ((k : Nat) : Int))), (.one (.sl (.int .i64) bm .shared))]) (hp' := [logC b1 b2 b3 y]) (cs := [decide (((k : Nat) : Int) < ((x.length : Nat) : Int)) == false]) (fun rest => by kernel_rfl) (allI (by simp only [hin h1, h1]; rfl)) (by simp) ⟨.unk, .refl, trivial⟩ rfl (by simp [idsLt, idsV, idsC, idsB]))
noncomputable def EMem : Env Try.prog := ESam.addL 18 5 lMem_eq 36 [20, 5] [1, 18, 19] (by kernel_rfl)
  (fun vals rov hp os => match vals, rov, hp with
    | [.one (.int .i64 z), .one (.sl (.int .i64) bm .shared)], [.one (.int .u64 a), .one (.sl r1 l1 .shared), .one (.int .i64 n)], [.cells [.int .u64 b1, .int .u64 b2, .sl (.int .i64) b3 .shared, .sl r2 l2 .shared, .bool mk]] =>
      match asE r1 l1, asE r2 l2 with
      | some x, some y => retC (.exit 0, [vX, vL cI (memC a bm x)], [logC b1 b2 b3 y]) [decide (z = 0 ∧ n = x.length ∧ mk = true), decide (x.length ≤ 1000)] os
      | _, _ => none
    | _, _, _ => none)
  (fun vals rov hp os e outs hp' cs os' h hc => by
    split at h
    · rename_i z bm a r1 l1 n b1 b2 b3 r2 l2 mk
      split at h
      · rename_i x y e1 e2
        obtain ⟨rfl, e1⟩ := asE_eq e1
        obtain ⟨rfl, e2⟩ := asE_eq e2
        subst e1; subst e2
        simp only [retC, Option.some.injEq, Prod.mk.injEq] at h
        obtain ⟨⟨rfl, rfl, rfl⟩, rfl, rfl⟩ := h
        obtain ⟨h1, hc⟩ := of_allTc hc
        obtain ⟨h2, _⟩ := of_allTc hc
        obtain ⟨rfl, rfl, rfl⟩ := of_decide_eq_true h1
        exact mem_loop a _ _ _ _ _ _ _ (of_decide_eq_true h2) rfl
      · cases h
    · cases h)
end Go.Proofs.Ytmbekpoelkcceaa
