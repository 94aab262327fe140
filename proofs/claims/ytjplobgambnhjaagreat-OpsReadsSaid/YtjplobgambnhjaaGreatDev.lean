/- Decoders: the environment; no statement. -/
import Derived.Test.YtjplobgambnhjaaGreatDrd
set_option linter.unusedVariables false
namespace Go.Proofs.YtjplobgambnhjaaGreat
open Go Go.Eng

def selP (args : List AV) (_ : List AB) : List Nat := match args with
  | .one (.ptr i 0) :: _ => [i]
  | _ => []
noncomputable def EDr : Env Tryz.prog := (((EWn.addHF 47 selP
  (fun args hp os => match args, hp with
    | [.one (.ptr 0 0)], [.cells [.str s]] => ret1 (tupB (.int .u64 (numV s)) (nb s), [.cells [.str (nr s)]]) os
    | _, _ => none)
  (fun args hp os r hp' cs os' h hc => by
    split at h
    · simp only [ret1, Option.some.injEq, Prod.mk.injEq] at h
      obtain ⟨⟨rfl, rfl⟩, rfl, rfl⟩ := h
      exact nrd_heap _
    · cases h)).addHF 51 selP
  (fun args hp os => match args, hp with
    | [.one (.ptr 0 0)], [.cells [.str s]] => ret1 (tupB (.int .u8 (yv s)) (yb s), [.cells [.str (yr s)]]) os
    | _, _ => none)
  (fun args hp os r hp' cs os' h hc => by
    split at h
    · simp only [ret1, Option.some.injEq, Prod.mk.injEq] at h
      obtain ⟨⟨rfl, rfl⟩, rfl, rfl⟩ := h
      exact brd_heap _
    · cases h)).addHF 49 selP
  (fun args hp os => match args, hp with
    | [.one (.ptr 0 0), .one (.int .i64 m)], [.cells [.str s]] => retC (tupB (.str (tv s m)) (tb s m), [.cells [.str (tr s m)]]) [decide (0 ≤ m), szk s] os
    | _, _ => none)
  (fun args hp os r hp' cs os' h hc => by
    split at h
    · simp only [retC, Option.some.injEq, Prod.mk.injEq] at h
      obtain ⟨⟨rfl, rfl⟩, rfl, rfl⟩ := h
      obtain ⟨h1, hc⟩ := of_allTc hc
      exact trd_heap _ _ (of_decide_eq_true h1) (of_allTc hc).1
    · cases h)).spec
end Go.Proofs.YtjplobgambnhjaaGreat
