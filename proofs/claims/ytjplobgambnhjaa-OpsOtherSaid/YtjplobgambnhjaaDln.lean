/- A number taken that is known to be this one; no statement. -/
import Derived.Test.YtjplobgambnhjaaDrs
set_option linter.unusedVariables false
namespace Go.Proofs.Ytjplobgambnhjaa
open Go Go.Eng

theorem nrd_lit (s : ByteArray) (k : Int) (h : numV s = k) : HeapCall Try.prog 92 [.one (.ptr 0 0)] [.cells [.str s]] (tupB (.int .u64 k) (nb s)) [.cells [.str (nr s)]] := h ▸ nrd_heap s
/-- By the choices: as it is (false), or known to be k (true). -/
noncomputable def EDn (k : Int) : Env Try.prog := EDou.addHF 92 selP
  (fun args hp os => match args, hp with
    | [.one (.ptr 0 0)], [.cells [.str s]] => match os with
      | [] => ret1 (tupB (.int .u64 (numV s)) (nb s), [.cells [.str (nr s)]]) []
      | false :: r => ret1 (tupB (.int .u64 (numV s)) (nb s), [.cells [.str (nr s)]]) r
      | true :: r => retC (tupB (.int .u64 k) (nb s), [.cells [.str (nr s)]]) [decide (numV s = k)] r
    | _, _ => none)
  (fun args hp os r hp' cs os' h hc => by
    split at h
    · split at h
      · simp only [ret1, Option.some.injEq, Prod.mk.injEq] at h
        obtain ⟨⟨rfl, rfl⟩, rfl, rfl⟩ := h
        exact nrd_heap _
      · simp only [ret1, Option.some.injEq, Prod.mk.injEq] at h
        obtain ⟨⟨rfl, rfl⟩, rfl, rfl⟩ := h
        exact nrd_heap _
      · simp only [retC, Option.some.injEq, Prod.mk.injEq] at h
        obtain ⟨⟨rfl, rfl⟩, rfl, rfl⟩ := h
        exact nrd_lit _ _ (of_decide_eq_true (of_allTc hc).1)
    · cases h)
end Go.Proofs.Ytjplobgambnhjaa
