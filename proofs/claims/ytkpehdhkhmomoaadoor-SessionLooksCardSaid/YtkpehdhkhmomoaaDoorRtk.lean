/- What the document's taker takes: contracts; no statement. -/
import Derived.Test.YtkpehdhkhmomoaaDoorRev
set_option linter.unusedVariables false
set_option linter.unusedSimpArgs false
namespace Go.Proofs.YtkpehdhkhmomoaaDoor
open Go Go.Eng

def nk (s : ByteArray) (m : Int) : Bool := nb s && !(decide (numV s > m))
def yk (s : ByteArray) : Bool := yb s && !(decide (yv s > 1))
theorem tkn_h (s : ByteArray) (m : Int) (g : Bool) : HeapCall Tryd.prog 57 [.one (.ptr 1 0), vU m] [.cells [.str s], .cells [.ptr 0 0, .bool g]] (vU (bif nk s m then numV s else 0)) [.cells [.str (nr s)], .cells [.ptr 0 0, .bool (bif nk s m then g else true)]] := by
  cases h1 : (nb s : Bool) with
  | true =>
    cases h2 : (decide (numV s > m) : Bool) with
    | true =>
      exact byRead (ERr.heap_ok (os := [false, false, false, false, true]) (r := (.one (.int .u64 (0)))) (hp' := [(.cells [(.str (nr s))]), (.cells [(.ptr 0 0), (.bool true)])]) (cs := [decide (numV s > m) == true, (!nb s) == false, (!nb s) == false, (!nb s) == false, (!nb s) == false]) (by kernel_rfl) (allI (by simp only [h1, h2]; rfl))) (by simp only [nk, h1, h2]; rfl) (by simp only [nk, h1, h2]; rfl)
    | false =>
      exact byRead (ERr.heap_ok (os := [false, false, false, false, false]) (r := (.one (.int .u64 (numV s)))) (hp' := [(.cells [(.str (nr s))]), (.cells [(.ptr 0 0), (.bool g)])]) (cs := [decide (numV s > m) == false, (!nb s) == false, (!nb s) == false, (!nb s) == false, (!nb s) == false]) (by kernel_rfl) (allI (by simp only [h1, h2]; rfl))) (by simp only [nk, h1, h2]; rfl) (by simp only [nk, h1, h2]; rfl)
  | false =>
    exact byRead (ERr.heap_ok (os := [true, true, true, true, true]) (r := (.one (.int .u64 (0)))) (hp' := [(.cells [(.str (nr s))]), (.cells [(.ptr 0 0), (.bool true)])]) (cs := [true == true, (!nb s) == true, (!nb s) == true, (!nb s) == true, (!nb s) == true]) (by kernel_rfl) (allI (by simp only [h1]; rfl))) (by simp only [nk, h1]; rfl) (by simp only [nk, h1]; rfl)
theorem tkt_h (s : ByteArray) (m : Int) (g : Bool) (hm : decide ((0 : Int) ≤ m) = true) (hs : szk s = true) : HeapCall Tryd.prog 56 [.one (.ptr 1 0), vI m] [.cells [.str s], .cells [.ptr 0 0, .bool g]] (vS (tv s m)) [.cells [.str (tr s m)], .cells [.ptr 0 0, .bool (bif tb s m then g else true)]] := by
  cases h1 : (tb s m : Bool) with
  | true =>
    exact byRead (ERr.heap_ok (os := [false]) (r := (.one (.str (tv s m)))) (hp' := [(.cells [(.str (tr s m))]), (.cells [(.ptr 0 0), (.bool g)])]) (cs := [(!tb s m) == false, decide ((0 : Int) ≤ m), szk s]) (by kernel_rfl) (allI (by rw [hm, hs, h1]; rfl))) rfl rfl
  | false =>
    exact byRead (ERr.heap_ok (os := [true]) (r := (.one (.str (tv s m)))) (hp' := [(.cells [(.str (tr s m))]), (.cells [(.ptr 0 0), (.bool true)])]) (cs := [(!tb s m) == true, decide ((0 : Int) ≤ m), szk s]) (by kernel_rfl) (allI (by rw [hm, hs, h1]; rfl))) rfl rfl
theorem tkb_h (s : ByteArray) (g : Bool) : HeapCall Tryd.prog 55 [.one (.ptr 1 0)] [.cells [.str s], .cells [.ptr 0 0, .bool g]] (vB (yv s == 1)) [.cells [.str (yr s)], .cells [.ptr 0 0, .bool (bif yk s then g else true)]] := by
  cases h1 : (yb s : Bool) with
  | true =>
    cases h2 : (decide (yv s > 1) : Bool) with
    | true =>
      exact byRead (ERr.heap_ok (os := [false, false, false, true]) (r := (.one (.bool (yv s == 1)))) (hp' := [(.cells [(.str (yr s))]), (.cells [(.ptr 0 0), (.bool true)])]) (cs := [decide (yv s > 1) == true, (!yb s) == false, (!yb s) == false, (!yb s) == false]) (by kernel_rfl) (allI (by simp only [h1, h2]; rfl))) rfl (by simp only [yk, h1, h2]; rfl)
    | false =>
      exact byRead (ERr.heap_ok (os := [false, false, false, false]) (r := (.one (.bool (yv s == 1)))) (hp' := [(.cells [(.str (yr s))]), (.cells [(.ptr 0 0), (.bool g)])]) (cs := [decide (yv s > 1) == false, (!yb s) == false, (!yb s) == false, (!yb s) == false]) (by kernel_rfl) (allI (by simp only [h1, h2]; rfl))) rfl (by simp only [yk, h1, h2]; rfl)
  | false =>
    exact byRead (ERr.heap_ok (os := [true, true, true, true]) (r := (.one (.bool (yv s == 1)))) (hp' := [(.cells [(.str (yr s))]), (.cells [(.ptr 0 0), (.bool true)])]) (cs := [true == true, (!yb s) == true, (!yb s) == true, (!yb s) == true]) (by kernel_rfl) (allI (by simp only [h1]; rfl))) rfl (by simp only [yk, h1]; rfl)
def selT (args : List AV) (hp : List AB) : List Nat := match args with
  | .one (.ptr i 0) :: _ => match hp[i]? with
    | some (.cells (.ptr r 0 :: _)) => [r, i]
    | _ => []
  | _ => []
noncomputable def ERk : Env Tryd.prog := (((ERr.addHF 57 selT
  (fun args hp os => match args, hp with
    | [.one (.ptr 1 0), .one (.int .u64 m)], [.cells [.str s], .cells [.ptr 0 0, .bool g]] => ret1 (vU (bif nk s m then numV s else 0), [.cells [.str (nr s)], .cells [.ptr 0 0, .bool (bif nk s m then g else true)]]) os
    | _, _ => none)
  (fun args hp os r hp' cs os' h hc => by
    split at h
    · simp only [ret1, Option.some.injEq, Prod.mk.injEq] at h
      obtain ⟨⟨rfl, rfl⟩, rfl, rfl⟩ := h
      exact tkn_h _ _ _
    · cases h)).addHF 55 selT
  (fun args hp os => match args, hp with
    | [.one (.ptr 1 0)], [.cells [.str s], .cells [.ptr 0 0, .bool g]] => ret1 (vB (yv s == 1), [.cells [.str (yr s)], .cells [.ptr 0 0, .bool (bif yk s then g else true)]]) os
    | _, _ => none)
  (fun args hp os r hp' cs os' h hc => by
    split at h
    · simp only [ret1, Option.some.injEq, Prod.mk.injEq] at h
      obtain ⟨⟨rfl, rfl⟩, rfl, rfl⟩ := h
      exact tkb_h _ _
    · cases h)).addHF 56 selT
  (fun args hp os => match args, hp with
    | [.one (.ptr 1 0), .one (.int .i64 m)], [.cells [.str s], .cells [.ptr 0 0, .bool g]] => retC (vS (tv s m), [.cells [.str (tr s m)], .cells [.ptr 0 0, .bool (bif tb s m then g else true)]]) [decide ((0 : Int) ≤ m), szk s] os
    | _, _ => none)
  (fun args hp os r hp' cs os' h hc => by
    split at h
    · simp only [retC, Option.some.injEq, Prod.mk.injEq] at h
      obtain ⟨⟨rfl, rfl⟩, rfl, rfl⟩ := h
      obtain ⟨h1, hc⟩ := of_allTc hc
      exact tkt_h _ _ _ h1 (of_allTc hc).1
    · cases h))
end Go.Proofs.YtkpehdhkhmomoaaDoor
