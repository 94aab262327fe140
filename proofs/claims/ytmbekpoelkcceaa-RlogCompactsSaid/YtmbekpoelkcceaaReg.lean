/- Compact in use; no statement. -/
import Derived.Test.YtmbekpoelkcceaaRef
set_option linter.unusedVariables false
set_option linter.unusedSimpArgs false
namespace Go.Proofs.Ytmbekpoelkcceaa
open Go Go.Eng

noncomputable def ECoC (E : Env Try.prog) : Env Try.prog := E.addHF 16 (fun args _ => selL args)
  (fun args hp os => match args, hp with
    | [.one (.ptr 0 0), .one (.int .u64 a)], [.cells [.int .u64 0, .int .u64 0, .sl (.int .i64) [] .shared, .sl r2 l2 .shared, .bool mk]] =>
      match asE r2 l2 with
      | some x => retC (vI 0, [logC a (termC 0 0 x a).1 (memC a [] x) (x.drop a.toNat)]) [mk, decide (x.length ≤ 900), decide (0 ≤ a ∧ a ≤ x.length), decide ((memC a [] x).length ≤ 1000), x.all entFits, ok (0 < x.length → (x.getD (x.length - 1) rEntry.dflt).1 = x.length)] os
      | none => none
    | _, _ => none)
  (fun args hp os r hp' cs os' h hc => by
    split at h
    · rename_i a r2 l2 mk
      split at h
      · rename_i x e2
        obtain ⟨rfl, e2⟩ := asE_eq e2
        subst e2
        simp only [retC, Option.some.injEq, Prod.mk.injEq] at h
        obtain ⟨⟨rfl, rfl⟩, rfl, rfl⟩ := h
        obtain ⟨h1, hc⟩ := of_allTc hc
        obtain ⟨h2, hc⟩ := of_allTc hc
        obtain ⟨h3, hc⟩ := of_allTc hc
        obtain ⟨h4, hc⟩ := of_allTc hc
        obtain ⟨h5, hc⟩ := of_allTc hc
        obtain ⟨h6, _⟩ := of_allTc hc
        subst h1
        exact cmp_heap _ _ (of_decide_eq_true h2) (of_decide_eq_true h3) (of_decide_eq_true h4) h5 (of_ok h6)
      · cases h
    · cases h)
end Go.Proofs.Ytmbekpoelkcceaa
