/- agrees, handed a part of an own array: where it looks for an entry of the base's index; no statement. -/
import Derived.Test.YtmbekpoelkcceaaRce
set_option linter.unusedVariables false
set_option linter.unusedSimpArgs false
namespace Go.Proofs.Ytmbekpoelkcceaa
open Go Go.Eng

/-- A part of a list. -/
abbrev cutL (off n : Nat) (y : List rEntry.den) : List rEntry.den := List.take n (List.drop off y)
theorem cutL_len {off n : Nat} {y : List rEntry.den} (h : off + n ≤ y.length) : (cutL off n y).length = n := by
  rw [List.length_take, List.length_drop]; omega
theorem cutL_getD {off n k : Nat} {y : List rEntry.den} (h : off + n ≤ y.length) (hk : k < n) : (cutL off n y).getD k rEntry.dflt = y.getD (off + k) rEntry.dflt := by
  rw [List.getD_eq_getElem?_getD, List.getD_eq_getElem?_getD, List.getElem?_take_of_lt hk, List.getElem?_drop]
theorem midx_loop (bi bt : Int) (off n : Nat) (bm : List Int) (x y : List rEntry.den) (hn : off + n ≤ y.length) (hl : n ≤ 1000) (H : noneBad bi bt (cutL off n y)) :
    LoopOk Try.prog lIdx 19 [8, 4] [0, 1, 7] [vI 0, vI 0] [.one (.msl rEntry 1 off n), .one (.fn 55 [(2, 0)]), vI n] [logC bi bt bm x, .arr rEntry y, .cells [.ptr 0 0]] (.exit 0) [vX, vI 0] [logC bi bt bm x, .arr rEntry y, .cells [.ptr 0 0]] := by
  refine LoopOk.rounds (S := Nat) ESam lIdx_eq (by kernel_rfl) (fun k => [vI k, vI 0]) (fun _ => [logC bi bt bm x, .arr rEntry y, .cells [.ptr 0 0]]) (fun k => k ≤ n) (fun k => n - k) 0 (Nat.zero_le _) ?_ (fun _ _ => rfl)
  intro k hk
  have hlt : (decide ((k : Int) < ((n : Nat) : Int)) : Bool) = true → k < n := fun h => by have := of_decide_eq_true h; omega
  have hin : (decide ((k : Int) < ((n : Nat) : Int)) : Bool) = true → inB k n = true := fun h => inB_of (by omega) (of_decide_eq_true h)
  have hle : (decide ((k : Int) < ((n : Nat) : Int)) : Bool) = true → k + 1 ≤ n := fun h => hlt h
  have hmu : (decide ((k : Int) < ((n : Nat) : Int)) : Bool) = true → n - (k + 1) < n - k := fun h => by have := hlt h; omega
  have hw : (decide ((k : Int) < ((n : Nat) : Int)) : Bool) = true → vI (IntKind.i64.wrap ((k : Int) + 1)) = vI ((k + 1 : Nat) : Int) := fun h => by have := hlt h; rw [wrap64 (by omega) (by omega)]; rfl
  have bad : (decide ((k : Int) < ((n : Nat) : Int)) : Bool) = true → ((y.getD (off + k) rEntry.dflt).fst == bi : Bool) = true → ((y.getD (off + k) rEntry.dflt).snd.fst != bt : Bool) = true → False := fun h h2 h3 => by
    have e := H k (by rw [cutL_len hn]; exact hlt h) (by rw [cutL_getD hn (hlt h)]; exact beq_iff_eq.1 h2)
    rw [cutL_getD hn (hlt h)] at e
    have e : (y.getD (off + k) rEntry.dflt).snd.fst = bt := e
    rw [e] at h3
    simp at h3
  cases h1 : (decide (((k : Nat) : Int) < ((n : Nat) : Int)) : Bool) with
  | true =>
    cases h2 : ((y.getD (off + k) rEntry.dflt).fst == bi : Bool) with
    | true =>
      cases h3 : ((y.getD (off + k) rEntry.dflt).snd.fst != bt : Bool) with
      | true =>
        first | (exfalso; exact bad h1 h2 h3) | exact OneRound.stopT [true, true, true, true, true, true, true, true, true, true, true] (vs := [(.one (.int .i64 ((k : Nat) : Int))), (.one (.int .i64 ((k : Nat) : Int)))]) (hp' := [logC bi bt bm x, .arr rEntry y, .cells [.ptr 0 0]]) (cs := [((y.getD (off + k) rEntry.dflt).snd.fst != bt) == true, ((y.getD (off + k) rEntry.dflt).fst == bi) == true, ((y.getD (off + k) rEntry.dflt).fst == bi) == true, ((y.getD (off + k) rEntry.dflt).fst == bi) == true, ((y.getD (off + k) rEntry.dflt).fst == bi) == true, ((y.getD (off + k) rEntry.dflt).fst == bi) == true, ((y.getD (off + k) rEntry.dflt).fst == bi) == true, ((y.getD (off + k) rEntry.dflt).fst == bi) == true, ((y.getD (off + k) rEntry.dflt).fst == bi) == true, ((y.getD (off + k) rEntry.dflt).fst == bi) == true, inB (((k : Nat) : Int)) n, decide (((k : Nat) : Int) < ((n : Nat) : Int)) == true]) (fun rest => by kernel_rfl) (allI (by simp only [h1, h2, h3]; rfl)) (by simp) ⟨.unk, .refl, trivial⟩ rfl (by simp [idsLt, idsV, idsC, idsB])
      | false =>
        exact OneRound.goT [true, true, true, true, true, true, true, true, true, true, false] (vs := [(.one (.int .i64 (IntKind.i64.wrap (((k : Nat) : Int) + 1)))), (.one (.int .i64 (0)))]) (hp' := [logC bi bt bm x, .arr rEntry y, .cells [.ptr 0 0]]) (cs := [((y.getD (off + k) rEntry.dflt).snd.fst != bt) == false, ((y.getD (off + k) rEntry.dflt).fst == bi) == true, ((y.getD (off + k) rEntry.dflt).fst == bi) == true, ((y.getD (off + k) rEntry.dflt).fst == bi) == true, ((y.getD (off + k) rEntry.dflt).fst == bi) == true, ((y.getD (off + k) rEntry.dflt).fst == bi) == true, ((y.getD (off + k) rEntry.dflt).fst == bi) == true, ((y.getD (off + k) rEntry.dflt).fst == bi) == true, ((y.getD (off + k) rEntry.dflt).fst == bi) == true, ((y.getD (off + k) rEntry.dflt).fst == bi) == true, inB (((k : Nat) : Int)) n, decide (((k : Nat) : Int) < ((n : Nat) : Int)) == true]) (fun rest => by kernel_rfl) (allI (by simp only [hin h1, h1, h2, h3]; rfl)) (k + 1) (hle h1) (hmu h1) ⟨.of_eq (hw h1), .refl, trivial⟩ rfl (by simp [idsLt, idsV, idsC, idsB])
    | false =>
      exact OneRound.goT [true, false, false, false, false, false, false, false, false, false, false] (vs := [(.one (.int .i64 (IntKind.i64.wrap (((k : Nat) : Int) + 1)))), (.one (.int .i64 (0)))]) (hp' := [logC bi bt bm x, .arr rEntry y, .cells [.ptr 0 0]]) (cs := [false == false, ((y.getD (off + k) rEntry.dflt).fst == bi) == false, ((y.getD (off + k) rEntry.dflt).fst == bi) == false, ((y.getD (off + k) rEntry.dflt).fst == bi) == false, ((y.getD (off + k) rEntry.dflt).fst == bi) == false, ((y.getD (off + k) rEntry.dflt).fst == bi) == false, ((y.getD (off + k) rEntry.dflt).fst == bi) == false, ((y.getD (off + k) rEntry.dflt).fst == bi) == false, ((y.getD (off + k) rEntry.dflt).fst == bi) == false, ((y.getD (off + k) rEntry.dflt).fst == bi) == false, inB (((k : Nat) : Int)) n, decide (((k : Nat) : Int) < ((n : Nat) : Int)) == true]) (fun rest => by kernel_rfl) (allI (by simp only [hin h1, h1, h2]; rfl)) (k + 1) (hle h1) (hmu h1) ⟨.of_eq (hw h1), .refl, trivial⟩ rfl (by simp [idsLt, idsV, idsC, idsB])
  | false =>
    first | (exfalso; exact bad h1 h2 h3) | exact OneRound.stopT [false] (vs := [(.one (.int .i64 ((k : Nat) : Int))), (.one (.int .i64 (0)))]) (hp' := [logC bi bt bm x, .arr rEntry y, .cells [.ptr 0 0]]) (cs := [decide (((k : Nat) : Int) < ((n : Nat) : Int)) == false]) (fun rest => by kernel_rfl) (allI (by simp only [h1]; rfl)) (by simp) ⟨.unk, .refl, trivial⟩ rfl (by simp [idsLt, idsV, idsC, idsB])
noncomputable def EIdxM : Env Try.prog := ESam.addL 59 2 lIdx_eq 19 [8, 4] [0, 1, 7] (by kernel_rfl)
  (fun vals rov hp os => match vals, rov, hp with
    | [.one (.int .i64 z), .one (.int .i64 z2)], [.one (.msl r1 1 off n), .one (.fn g [(2, 0)]), .one (.int .i64 m)], [.cells [.int .u64 bi, .int .u64 bt, .sl (.int .i64) bm .shared, .sl r2 l2 .shared, .bool mk], .arr r3 l3, .cells [.ptr 0 0]] =>
      match asE r2 l2, asE r3 l3 with
      | some x, some y => if r1.eqb rEntry = true then retC (.exit 0, [vX, vI 0], [logC bi bt bm x, .arr rEntry y, .cells [.ptr 0 0]]) [decide (z = 0 ∧ z2 = 0 ∧ m = n ∧ mk = true ∧ g = 55), decide (off + n ≤ y.length), decide (n ≤ 1000), ok (noneBad bi bt (cutL off n y))] os else none
      | _, _ => none
    | _, _, _ => none)
  (fun vals rov hp os e outs hp' cs os' h hc => by
    split at h
    · rename_i z z2 r1 off n g m bi bt bm r2 l2 mk r3 l3
      split at h
      · rename_i x y e2 e3
        split at h
        · rename_i er
          have er := CT.eq_of_eqb _ _ er
          subst er
          obtain ⟨rfl, e2⟩ := asE_eq e2
          obtain ⟨rfl, e3⟩ := asE_eq e3
          subst e2; subst e3
          simp only [retC, Option.some.injEq, Prod.mk.injEq] at h
          obtain ⟨⟨rfl, rfl, rfl⟩, rfl, rfl⟩ := h
          obtain ⟨h1, hc⟩ := of_allTc hc
          obtain ⟨h2, hc⟩ := of_allTc hc
          obtain ⟨h3, hc⟩ := of_allTc hc
          obtain ⟨h4, _⟩ := of_allTc hc
          obtain ⟨rfl, rfl, rfl, rfl, rfl⟩ := of_decide_eq_true h1
          exact midx_loop _ _ _ _ _ _ _ (of_decide_eq_true h2) (of_decide_eq_true h3) (of_ok h4)
        · cases h
      · cases h
    · cases h)
end Go.Proofs.Ytmbekpoelkcceaa
