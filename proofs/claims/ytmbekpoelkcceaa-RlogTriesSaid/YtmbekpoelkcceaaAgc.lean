/- agrees: its contract in use; no statement. -/
import Derived.Test.YtmbekpoelkcceaaAgr
set_option linter.unusedVariables false
set_option linter.unusedSimpArgs false
namespace Go.Proofs.Ytmbekpoelkcceaa
open Go Go.Eng

noncomputable def EAgr : Env Try.prog := EPlo.addH 35
  (fun args hp os => match args, hp with
    | [.one (.ptr 1 0), .one (.int .u64 i), .one (.int .u64 t), .one (.sl r1 l1 .shared)], [.cells [.int .u64 b0, .int .u64 b1, .nils], .cells [.int .u64 b2, .int .u64 b3, .sl (.int .i64) [] .shared, .sl r3 x3 .shared, .bool mk]] =>
      match asE r1 l1, asE r3 x3 with
      | some l, some x => retC (vB (folW i t l && hasT x i t), [baB, logB x .shared]) [decide (b0 = 0 ∧ b1 = 0 ∧ b2 = 0 ∧ b3 = 0 ∧ mk = true), decide (0 ≤ i ∧ i ≤ 2000), decide (x.length ≤ 1000)] os
      | _, _ => none
    | _, _ => none)
  (fun args hp os r hp' cs os' h hc => by
    split at h
    · rename_i i t r1 l1 b0 b1 b2 b3 r3 x3 mk
      split at h
      · rename_i l x e1 e3
        obtain ⟨rfl, e1⟩ := asE_eq e1
        obtain ⟨rfl, e3⟩ := asE_eq e3
        subst e1; subst e3
        simp only [retC, Option.some.injEq, Prod.mk.injEq] at h
        obtain ⟨⟨rfl, rfl⟩, rfl, rfl⟩ := h
        obtain ⟨h1, hc⟩ := of_allTc hc
        obtain ⟨h2, hc⟩ := of_allTc hc
        obtain ⟨h3, _⟩ := of_allTc hc
        obtain ⟨rfl, rfl, rfl, rfl, rfl⟩ := of_decide_eq_true h1
        exact agr_heap i t _ _ (of_decide_eq_true h2) (of_decide_eq_true h3)
      · cases h
    · cases h)
end Go.Proofs.Ytmbekpoelkcceaa
