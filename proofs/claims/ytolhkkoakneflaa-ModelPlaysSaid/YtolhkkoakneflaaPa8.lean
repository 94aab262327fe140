/- An operation done on a model, a seek too: the contract; no statement. -/
import Derived.Test.YtolhkkoakneflaaPa7
set_option linter.unusedVariables false
set_option linter.unusedSimpArgs false
namespace Go.Proofs.Ytolhkkoakneflaa
open Go Go.Eng

noncomputable def kkvE (E : Env Try.prog) (f : Nat) (args : List AV) (hp : List AB) (os : List Bool) : Option (AV × List AB × List Bool) := match E.kk f args hp os with | some (r, hp', cs, _) => some (r, hp', cs) | none => none
theorem kkLeafE {E : Env Try.prog} {f : Nat} {args : List AV} {hp : List AB} {os : List Bool} {r : AV} {hp' : List AB} {cs : List Bool} (h : kkvE E f args hp os = some (r, hp', cs)) (hcs : ∀ c ∈ cs, c = true) (hf : isFn Try.prog f = true := by kernel_rfl) : HeapCall Try.prog f args hp r hp' := by
  unfold kkvE at h
  split at h
  · rename_i r1 hp1 cs1 os1 hk
    simp only [Option.some.injEq, Prod.mk.injEq] at h
    obtain ⟨rfl, rfl, rfl⟩ := h
    exact ⟨isFn_of hf, fun X vs hX hH hv => (E.kk_ok f args hp os _ _ _ _ hk hcs X vs hX hH hv).2⟩
  · cases h
theorem do_five (p : rOp.den) (M : MapT) (I : MapInv M) (h5 : (p.1 == 5) = true) : HeapCall Try.prog 18 [.one (.ptr 1 0), .agg (rOp.cells p)] [.mp rP rCell true true M, .cells [.mref 0]] (.agg (rRes.cells (doRR p M))) [.mp rP rCell true true M, .cells [.mref 0]] := by
  have hN : ∀ l, eN p l = true := fun l => by unfold eN effV; rw [h5, Bool.or_true]; rfl
  have hI : okp (MapInv M) = true := okp_of I
  unfold doRR seekB
  rw [h5, Bool.and_true]
  cases hc : (chkV p == 0 : Bool) with
  | true =>
    exact kkLeafE (E := ESg) (os := [false, false, false, false, false, false, false, true, true, true, true, true]) (cs := [okp (MapInv M), (chkV p == 0) == true, (p.fst == 5) == true, (p.fst == 5) == true, (p.fst == 5) == true, (p.fst == 5) == true, false == false, false == false, false == false, false == false, false == false, false == false, false == false]) (by kernel_rfl) (allI (by simp only [↓hI, h5, hc]; rfl))
  | false =>
    rw [cond_false]
    cases h1 : ((alook (vt := rCell) (kR p) M).isSome : Bool) with
    | true =>
      cases h2 : ((alook (vt := rCell) (kC p) M).isSome : Bool) with
      | true => (simp only [doR, rowV, h1, h2, cond_true, cond_false]; exact kkLeafE (E := ESg) (os := [false, false, false, false, false, false, false, true, true, true, true, false, true, true, false, true, true, false, false, true, false]) (cs := [decide (0 < 0) == false, eN p ([] ++ [xR p M] ++ [xC p M]) == true, decide (2 < 2) == false, true, true && true, false == false, (alook (vt := rCell) (kC p) M).isSome == true, inB (1) 2, decide (1 < 2) == true, true, true && true, false == false, (alook (vt := rCell) (kR p) M).isSome == true, inB (0) 2, decide (0 < 2) == true, decide (0 ≤ 0 ∧ 0 ≤ 2 ∧ 128 ≤ 281474976710656 ∧ 2 ≤ 9223372036854775807), (chkV p == 0) == false, (p.fst == 5) == true, (p.fst == 5) == true, (p.fst == 5) == true, (p.fst == 5) == true, false == false, false == false, false == false, false == false, false == false, false == false, false == false]) (by kernel_rfl) (allI (by simp only [h5, hc, hN, h1, h2]; rfl)))
      | false => (simp only [doR, rowV, h1, h2, cond_true, cond_false]; exact kkLeafE (E := ESg) (os := [false, false, false, false, false, false, false, true, true, true, true, false, true, true, false, true, false, false, true, false]) (cs := [decide (0 < 0) == false, eN p ([] ++ [xR p M]) == true, decide (2 < 2) == false, (alook (vt := rCell) (kC p) M).isSome == false, inB (1) 2, decide (1 < 2) == true, true, true && true, false == false, (alook (vt := rCell) (kR p) M).isSome == true, inB (0) 2, decide (0 < 2) == true, decide (0 ≤ 0 ∧ 0 ≤ 2 ∧ 128 ≤ 281474976710656 ∧ 2 ≤ 9223372036854775807), (chkV p == 0) == false, (p.fst == 5) == true, (p.fst == 5) == true, (p.fst == 5) == true, (p.fst == 5) == true, false == false, false == false, false == false, false == false, false == false, false == false, false == false]) (by kernel_rfl) (allI (by simp only [h5, hc, hN, h1, h2]; rfl)))
    | false =>
      cases h2 : ((alook (vt := rCell) (kC p) M).isSome : Bool) with
      | true => (simp only [doR, rowV, h1, h2, cond_true, cond_false]; exact kkLeafE (E := ESg) (os := [false, false, false, false, false, false, false, true, true, true, true, false, true, false, true, true, false, false, true, false]) (cs := [decide (0 < 0) == false, eN p ([] ++ [xC p M]) == true, decide (2 < 2) == false, true, true && true, false == false, (alook (vt := rCell) (kC p) M).isSome == true, inB (1) 2, decide (1 < 2) == true, (alook (vt := rCell) (kR p) M).isSome == false, inB (0) 2, decide (0 < 2) == true, decide (0 ≤ 0 ∧ 0 ≤ 2 ∧ 128 ≤ 281474976710656 ∧ 2 ≤ 9223372036854775807), (chkV p == 0) == false, (p.fst == 5) == true, (p.fst == 5) == true, (p.fst == 5) == true, (p.fst == 5) == true, false == false, false == false, false == false, false == false, false == false, false == false, false == false]) (by kernel_rfl) (allI (by simp only [h5, hc, hN, h1, h2]; rfl)))
      | false => (simp only [doR, rowV, h1, h2, cond_true, cond_false]; exact kkLeafE (E := ESg) (os := [false, false, false, false, false, false, false, true, true, true, true, false, true, false, true, false, false, true, false]) (cs := [decide (0 < 0) == false, eN p ([]) == true, decide (2 < 2) == false, (alook (vt := rCell) (kC p) M).isSome == false, inB (1) 2, decide (1 < 2) == true, (alook (vt := rCell) (kR p) M).isSome == false, inB (0) 2, decide (0 < 2) == true, decide (0 ≤ 0 ∧ 0 ≤ 2 ∧ 128 ≤ 281474976710656 ∧ 2 ≤ 9223372036854775807), (chkV p == 0) == false, (p.fst == 5) == true, (p.fst == 5) == true, (p.fst == 5) == true, (p.fst == 5) == true, false == false, false == false, false == false, false == false, false == false, false == false, false == false]) (by kernel_rfl) (allI (by simp only [h5, hc, hN, h1, h2]; rfl)))
/-- An operation, any. -/
theorem do_any (p : rOp.den) (M : MapT) (I : MapInv M) : HeapCall Try.prog 18 [.one (.ptr 1 0), .agg (rOp.cells p)] [.mp rP rCell true true M, .cells [.mref 0]] (.agg (rRes.cells (doRR p M))) [.mp rP rCell true true (doM p M), .cells [.mref 0]] := by
  cases h5 : (p.1 == 5 : Bool) with
  | true =>
    rw [do_seek h5]
    exact do_five p M I h5
  | false =>
    have e : doRR p M = doR p M := by unfold doRR seekB; rw [h5, Bool.and_false]; rfl
    rw [e]
    exact do2 p M h5
end Go.Proofs.Ytolhkkoakneflaa
