/- An operation done on a model: the contract, at the blocks of ModelLast; no statement. -/
import Derived.Test.YtolhkkoakneflaaMd
import Derived.Test.YtolhkkoakneflaaEngZ7
set_option linter.unusedVariables false
set_option linter.unusedSimpArgs false
namespace Go.Proofs.Ytolhkkoakneflaa
open Go Go.Eng

noncomputable def kkv (f : Nat) (args : List AV) (hp : List AB) (os : List Bool) : Option (AV × List AB × List Bool) := match EMd.kk f args hp os with | some (r, hp', cs, _) => some (r, hp', cs) | none => none
abbrev MapT := List (rP.den × rCell.den)
def kR (p : rOp.den) : rP.den := (p.2.1, ByteArray.mk #[], ())
def kC (p : rOp.den) : rP.den := (p.2.1, p.2.2.1, ())
def kOf (c : rCell.den) : rP.den := (c.1, c.2.1, ())
def zC : rCell.den := (ByteArray.mk #[], ByteArray.mk #[], 0, false, ByteArray.mk #[], ())
def xR (p : rOp.den) (M : MapT) : rCell.den := (alook (vt := rCell) (kR p) M).getD zC
def xC (p : rOp.den) (M : MapT) : rCell.den := (alook (vt := rCell) (kC p) M).getD zC
def rowV (p : rOp.den) (M : MapT) : List rCell.den :=
  bif (alook (vt := rCell) (kR p) M).isSome then (bif (alook (vt := rCell) (kC p) M).isSome then ([] ++ [xR p M] ++ [xC p M]) else ([] ++ [xR p M]))
  else bif (alook (vt := rCell) (kC p) M).isSome then ([] ++ [xC p M]) else []
def doR (p : rOp.den) (M : MapT) : rRes.den := (effV p (rowV p M)).1
def doM (p : rOp.den) (M : MapT) : MapT := bif eN p (rowV p M) then M else aset (kOf (e1 p (rowV p M))) (e1 p (rowV p M)) (aset (kOf (e0 p (rowV p M))) (e0 p (rowV p M)) M)
theorem isFn_of {f : Nat} (h : isFn Try.prog f = true) : ∃ fn, Try.prog.funcs[f]? = some fn ∧ (fn.name == "runtime.NumGoroutine") = false ∧ fn.body.isNone = false := by
  unfold isFn at h
  split at h
  · rename_i fn hf
    simp only [Bool.and_eq_true, Bool.not_eq_true'] at h
    exact ⟨fn, hf, h.1, h.2⟩
  · cases h
theorem kkLeaf {f : Nat} {args : List AV} {hp : List AB} {os : List Bool} {r : AV} {hp' : List AB} {cs : List Bool} (h : kkv f args hp os = some (r, hp', cs)) (hcs : ∀ c ∈ cs, c = true) (hf : isFn Try.prog f = true := by kernel_rfl) : HeapCall Try.prog f args hp r hp' := by
  unfold kkv at h
  split at h
  · rename_i r1 hp1 cs1 os1 hk
    simp only [Option.some.injEq, Prod.mk.injEq] at h
    obtain ⟨rfl, rfl, rfl⟩ := h
    exact ⟨isFn_of hf, fun X vs hX hH hv => (EMd.kk_ok f args hp os _ _ _ _ hk hcs X vs hX hH hv).2⟩
  · cases h
theorem do2 (p : rOp.den) (M : MapT) (hk5 : (p.1 == 5) = false) : HeapCall Try.prog 18 [.one (.ptr 1 0), .agg (rOp.cells p)] [.mp rP rCell true true M, .cells [.mref 0]] (.agg (rRes.cells (doR p M))) [.mp rP rCell true true (doM p M), .cells [.mref 0]] := by
  cases h1 : ((alook (vt := rCell) (kR p) M).isSome : Bool) with
  | true =>
    cases h2 : ((alook (vt := rCell) (kC p) M).isSome : Bool) with
    | true =>
      cases h3 : (eN p ([] ++ [xR p M] ++ [xC p M]) : Bool) with
      | true =>
        (simp only [doR, doM, rowV, h1, h2, h3, cond_true, cond_false]; exact kkLeaf (os := [false, false, false, false, false, false, false, false, false, false, false, false, true, true, false, true, true, false, false, true, false]) (cs := [decide (0 < 0) == false, eN p ([] ++ [xR p M] ++ [xC p M]) == true, decide (2 < 2) == false, true, true && true, false == false, (alook (vt := rCell) (kC p) M).isSome == true, inB (1) 2, decide (1 < 2) == true, true, true && true, false == false, (alook (vt := rCell) (kR p) M).isSome == true, inB (0) 2, decide (0 < 2) == true, decide (0 ≤ 0 ∧ 0 ≤ 2 ∧ 128 ≤ 281474976710656 ∧ 2 ≤ 9223372036854775807), false == false, (p.fst == 5) == false, (p.fst == 5) == false, (p.fst == 5) == false, (p.fst == 5) == false, false == false, false == false, false == false, false == false, false == false, false == false, false == false]) (by kernel_rfl) (allI (by simp only [hk5, h1, h2, h3]; rfl)))
      | false =>
        (simp only [doR, doM, rowV, h1, h2, h3, cond_true, cond_false]; exact kkLeaf (os := [false, false, false, false, false, false, false, false, false, false, false, false, true, true, false, true, true, false, false, false, true, true, false]) (cs := [decide (2 < 2) == false, inB (1) 2, decide (1 < 2) == true, inB (0) 2, decide (0 < 2) == true, eN p ([] ++ [xR p M] ++ [xC p M]) == false, decide (2 < 2) == false, true, true && true, false == false, (alook (vt := rCell) (kC p) M).isSome == true, inB (1) 2, decide (1 < 2) == true, true, true && true, false == false, (alook (vt := rCell) (kR p) M).isSome == true, inB (0) 2, decide (0 < 2) == true, decide (0 ≤ 0 ∧ 0 ≤ 2 ∧ 128 ≤ 281474976710656 ∧ 2 ≤ 9223372036854775807), false == false, (p.fst == 5) == false, (p.fst == 5) == false, (p.fst == 5) == false, (p.fst == 5) == false, false == false, false == false, false == false, false == false, false == false, false == false, false == false]) (by kernel_rfl) (allI (by simp only [hk5, h1, h2, h3]; rfl)))
    | false =>
      cases h4 : (eN p ([] ++ [xR p M]) : Bool) with
      | true =>
        (simp only [doR, doM, rowV, h1, h2, h4, cond_true, cond_false]; exact kkLeaf (os := [false, false, false, false, false, false, false, false, false, false, false, false, true, true, false, true, false, false, true, false]) (cs := [decide (0 < 0) == false, eN p ([] ++ [xR p M]) == true, decide (2 < 2) == false, (alook (vt := rCell) (kC p) M).isSome == false, inB (1) 2, decide (1 < 2) == true, true, true && true, false == false, (alook (vt := rCell) (kR p) M).isSome == true, inB (0) 2, decide (0 < 2) == true, decide (0 ≤ 0 ∧ 0 ≤ 2 ∧ 128 ≤ 281474976710656 ∧ 2 ≤ 9223372036854775807), false == false, (p.fst == 5) == false, (p.fst == 5) == false, (p.fst == 5) == false, (p.fst == 5) == false, false == false, false == false, false == false, false == false, false == false, false == false, false == false]) (by kernel_rfl) (allI (by simp only [hk5, h1, h2, h4]; rfl)))
      | false =>
        (simp only [doR, doM, rowV, h1, h2, h4, cond_true, cond_false]; exact kkLeaf (os := [false, false, false, false, false, false, false, false, false, false, false, false, true, true, false, true, false, false, false, true, true, false]) (cs := [decide (2 < 2) == false, inB (1) 2, decide (1 < 2) == true, inB (0) 2, decide (0 < 2) == true, eN p ([] ++ [xR p M]) == false, decide (2 < 2) == false, (alook (vt := rCell) (kC p) M).isSome == false, inB (1) 2, decide (1 < 2) == true, true, true && true, false == false, (alook (vt := rCell) (kR p) M).isSome == true, inB (0) 2, decide (0 < 2) == true, decide (0 ≤ 0 ∧ 0 ≤ 2 ∧ 128 ≤ 281474976710656 ∧ 2 ≤ 9223372036854775807), false == false, (p.fst == 5) == false, (p.fst == 5) == false, (p.fst == 5) == false, (p.fst == 5) == false, false == false, false == false, false == false, false == false, false == false, false == false, false == false]) (by kernel_rfl) (allI (by simp only [hk5, h1, h2, h4]; rfl)))
  | false =>
    cases h5 : ((alook (vt := rCell) (kC p) M).isSome : Bool) with
    | true =>
      cases h6 : (eN p ([] ++ [xC p M]) : Bool) with
      | true =>
        (simp only [doR, doM, rowV, h1, h5, h6, cond_true, cond_false]; exact kkLeaf (os := [false, false, false, false, false, false, false, false, false, false, false, false, true, false, true, true, false, false, true, false]) (cs := [decide (0 < 0) == false, eN p ([] ++ [xC p M]) == true, decide (2 < 2) == false, true, true && true, false == false, (alook (vt := rCell) (kC p) M).isSome == true, inB (1) 2, decide (1 < 2) == true, (alook (vt := rCell) (kR p) M).isSome == false, inB (0) 2, decide (0 < 2) == true, decide (0 ≤ 0 ∧ 0 ≤ 2 ∧ 128 ≤ 281474976710656 ∧ 2 ≤ 9223372036854775807), false == false, (p.fst == 5) == false, (p.fst == 5) == false, (p.fst == 5) == false, (p.fst == 5) == false, false == false, false == false, false == false, false == false, false == false, false == false, false == false]) (by kernel_rfl) (allI (by simp only [hk5, h1, h5, h6]; rfl)))
      | false =>
        (simp only [doR, doM, rowV, h1, h5, h6, cond_true, cond_false]; exact kkLeaf (os := [false, false, false, false, false, false, false, false, false, false, false, false, true, false, true, true, false, false, false, true, true, false]) (cs := [decide (2 < 2) == false, inB (1) 2, decide (1 < 2) == true, inB (0) 2, decide (0 < 2) == true, eN p ([] ++ [xC p M]) == false, decide (2 < 2) == false, true, true && true, false == false, (alook (vt := rCell) (kC p) M).isSome == true, inB (1) 2, decide (1 < 2) == true, (alook (vt := rCell) (kR p) M).isSome == false, inB (0) 2, decide (0 < 2) == true, decide (0 ≤ 0 ∧ 0 ≤ 2 ∧ 128 ≤ 281474976710656 ∧ 2 ≤ 9223372036854775807), false == false, (p.fst == 5) == false, (p.fst == 5) == false, (p.fst == 5) == false, (p.fst == 5) == false, false == false, false == false, false == false, false == false, false == false, false == false, false == false]) (by kernel_rfl) (allI (by simp only [hk5, h1, h5, h6]; rfl)))
    | false =>
      cases h7 : (eN p [] : Bool) with
      | true =>
        (simp only [doR, doM, rowV, h1, h5, h7, cond_true, cond_false]; exact kkLeaf (os := [false, false, false, false, false, false, false, false, false, false, false, false, true, false, true, false, false, true, false]) (cs := [decide (0 < 0) == false, eN p [] == true, decide (2 < 2) == false, (alook (vt := rCell) (kC p) M).isSome == false, inB (1) 2, decide (1 < 2) == true, (alook (vt := rCell) (kR p) M).isSome == false, inB (0) 2, decide (0 < 2) == true, decide (0 ≤ 0 ∧ 0 ≤ 2 ∧ 128 ≤ 281474976710656 ∧ 2 ≤ 9223372036854775807), false == false, (p.fst == 5) == false, (p.fst == 5) == false, (p.fst == 5) == false, (p.fst == 5) == false, false == false, false == false, false == false, false == false, false == false, false == false, false == false]) (by kernel_rfl) (allI (by simp only [hk5, h1, h5, h7]; rfl)))
      | false =>
        (simp only [doR, doM, rowV, h1, h5, h7, cond_true, cond_false]; exact kkLeaf (os := [false, false, false, false, false, false, false, false, false, false, false, false, true, false, true, false, false, false, true, true, false]) (cs := [decide (2 < 2) == false, inB (1) 2, decide (1 < 2) == true, inB (0) 2, decide (0 < 2) == true, eN p [] == false, decide (2 < 2) == false, (alook (vt := rCell) (kC p) M).isSome == false, inB (1) 2, decide (1 < 2) == true, (alook (vt := rCell) (kR p) M).isSome == false, inB (0) 2, decide (0 < 2) == true, decide (0 ≤ 0 ∧ 0 ≤ 2 ∧ 128 ≤ 281474976710656 ∧ 2 ≤ 9223372036854775807), false == false, (p.fst == 5) == false, (p.fst == 5) == false, (p.fst == 5) == false, (p.fst == 5) == false, false == false, false == false, false == false, false == false, false == false, false == false, false == false]) (by kernel_rfl) (allI (by simp only [hk5, h1, h5, h7]; rfl)))
end Go.Proofs.Ytolhkkoakneflaa
