/- A log behind any base: contracts in use; no statement. -/
import Derived.Test.YtmbekpoelkcceaaRcq
set_option linter.unusedVariables false
set_option linter.unusedSimpArgs false
namespace Go.Proofs.Ytmbekpoelkcceaa
open Go Go.Eng

def selL (args : List AV) : List Nat := match args with
  | .one (.ptr i 0) :: _ => [i]
  | _ => []
noncomputable def ETmC (E : Env Try.prog) : Env Try.prog := E.addHK 17 selL
  (fun args hp os => match args, hp with
    | [.one (.ptr 0 0), .one (.int .u64 i)], [.cells [.int .u64 bi, .int .u64 bt, .sl (.int .i64) bm .shared, .sl r2 l2 .shared, .bool mk]] =>
      match asE r2 l2 with
      | some x => retC (tupT (termC bi bt x i), [logC bi bt bm x]) [mk, decide (0 ≤ bi ∧ bi ≤ 2000), decide (0 ≤ i ∧ i ≤ 2000), decide (x.length ≤ 1000)] os
      | none => none
    | _, _ => none)
  (fun args hp os r hp' cs os' h hc => by
    split at h
    · rename_i i bi bt bm r2 l2 mk
      split at h
      · rename_i x e2
        obtain ⟨rfl, e2⟩ := asE_eq e2
        subst e2
        simp only [retC, Option.some.injEq, Prod.mk.injEq] at h
        obtain ⟨⟨rfl, rfl⟩, rfl, rfl⟩ := h
        obtain ⟨h1, hc⟩ := of_allTc hc
        obtain ⟨h2, hc⟩ := of_allTc hc
        obtain ⟨h3, hc⟩ := of_allTc hc
        obtain ⟨h4, _⟩ := of_allTc hc
        subst h1
        exact term_heap _ _ _ _ _ (of_decide_eq_true h2) (of_decide_eq_true h3) (of_decide_eq_true h4)
      · cases h
    · cases h)
noncomputable def EMmC (E : Env Try.prog) : Env Try.prog := E.addHK 18 selL
  (fun args hp os => match args, hp with
    | [.one (.ptr 0 0), .one (.int .u64 a)], [.cells [.int .u64 bi, .int .u64 bt, .sl (.int .i64) bm .shared, .sl r2 l2 .shared, .bool mk]] =>
      match asE r2 l2 with
      | some x => retC (vL cI (memC a bm x), [logC bi bt bm x]) [mk, decide (x.length ≤ 1000), decide ((memC a bm x).length ≤ 1000)] os
      | none => none
    | _, _ => none)
  (fun args hp os r hp' cs os' h hc => by
    split at h
    · rename_i a bi bt bm r2 l2 mk
      split at h
      · rename_i x e2
        obtain ⟨rfl, e2⟩ := asE_eq e2
        subst e2
        simp only [retC, Option.some.injEq, Prod.mk.injEq] at h
        obtain ⟨⟨rfl, rfl⟩, rfl, rfl⟩ := h
        obtain ⟨h1, hc⟩ := of_allTc hc
        obtain ⟨h2, hc⟩ := of_allTc hc
        obtain ⟨h3, _⟩ := of_allTc hc
        subst h1
        exact memc_heap _ _ _ _ _ (of_decide_eq_true h2) (of_decide_eq_true h3)
      · cases h
    · cases h)
noncomputable def ESlC (E : Env Try.prog) : Env Try.prog := E.addHK 14 selL
  (fun args hp os => match args, hp with
    | [.one (.ptr 0 0), .one (.int .u64 a), .one (.int .i64 b)], [.cells [.int .u64 bi, .int .u64 bt, .sl (.int .i64) bm .shared, .sl r2 l2 .shared, .bool mk]] =>
      match asE r2 l2 with
      | some x => retC (vL rEntry (slcC bi x a b), [logC bi bt bm x]) [mk, decide (0 ≤ bi ∧ bi ≤ 2000), decide (0 ≤ a ∧ a ≤ 2000), decide (0 ≤ b ∧ b ≤ 2000), decide (x.length ≤ 1000), x.all entFits] os
      | none => none
    | _, _ => none)
  (fun args hp os r hp' cs os' h hc => by
    split at h
    · rename_i a b bi bt bm r2 l2 mk
      split at h
      · rename_i x e2
        obtain ⟨rfl, e2⟩ := asE_eq e2
        subst e2
        simp only [retC, Option.some.injEq, Prod.mk.injEq] at h
        obtain ⟨⟨rfl, rfl⟩, rfl, rfl⟩ := h
        obtain ⟨h1, hc⟩ := of_allTc hc
        obtain ⟨h2, hc⟩ := of_allTc hc
        obtain ⟨h3, hc⟩ := of_allTc hc
        obtain ⟨h4, hc⟩ := of_allTc hc
        obtain ⟨h5, hc⟩ := of_allTc hc
        obtain ⟨h6, _⟩ := of_allTc hc
        subst h1
        exact slcc_heap _ _ _ _ _ _ (of_decide_eq_true h2) (of_decide_eq_true h3) (of_decide_eq_true h4) (of_decide_eq_true h5) h6
      · cases h
    · cases h)
noncomputable def EPtC (E : Env Try.prog) : Env Try.prog := E.addHK 12 selL
  (fun args hp os => match args, hp with
    | [.one (.ptr 0 0), .one (.int .u64 i), .one (.int .u64 t), .one (.sl r1 l1 .shared)], [.cells [.int .u64 bi, .int .u64 bt, .sl (.int .i64) bm .shared, .sl r2 l2 .shared, .bool mk]] =>
      match asE r1 l1, asE r2 l2 with
      | some l, some x => retC (.tup [(false, [.int .u64 (i + ((l.length : Nat) : Int))]), (false, [.int .u64 0]), (false, [.bool true])], [logC bi bt bm x]) [mk, ok (WellC bi bt x i t l)] os
      | _, _ => none
    | _, _ => none)
  (fun args hp os r hp' cs os' h hc => by
    split at h
    · rename_i i t r1 l1 bi bt bm r2 l2 mk
      split at h
      · rename_i l x e1 e2
        obtain ⟨rfl, e1⟩ := asE_eq e1
        obtain ⟨rfl, e2⟩ := asE_eq e2
        subst e1; subst e2
        simp only [retC, Option.some.injEq, Prod.mk.injEq] at h
        obtain ⟨⟨rfl, rfl⟩, rfl, rfl⟩ := h
        obtain ⟨h1, hc⟩ := of_allTc hc
        obtain ⟨h2, _⟩ := of_allTc hc
        subst h1
        exact putc_heap _ _ _ _ _ _ _ (of_ok h2)
      · cases h
    · cases h)
noncomputable def ECpC (E : Env Try.prog) : Env Try.prog := E.addHF 15 (fun args _ => selL args)
  (fun args hp os => match args, hp with
    | [.one (.ptr 0 0)], [.cells [.int .u64 bi, .int .u64 bt, .sl (.int .i64) bm .shared, .sl r2 l2 .shared, .bool mk]] =>
      match asE r2 l2 with
      | some x => retC (.one (.ptr 1 0), [logC bi bt bm x, logC bi bt bm x]) [mk, decide (x.length ≤ 1000), decide (bm.length ≤ 1000), x.all entFits] os
      | none => none
    | _, _ => none)
  (fun args hp os r hp' cs os' h hc => by
    split at h
    · rename_i bi bt bm r2 l2 mk
      split at h
      · rename_i x e2
        obtain ⟨rfl, e2⟩ := asE_eq e2
        subst e2
        simp only [retC, Option.some.injEq, Prod.mk.injEq] at h
        obtain ⟨⟨rfl, rfl⟩, rfl, rfl⟩ := h
        obtain ⟨h1, hc⟩ := of_allTc hc
        obtain ⟨h2, hc⟩ := of_allTc hc
        obtain ⟨h3, hc⟩ := of_allTc hc
        obtain ⟨h4, _⟩ := of_allTc hc
        subst h1
        exact copyc_heap _ _ _ _ (of_decide_eq_true h2) (of_decide_eq_true h3) h4
      · cases h
    · cases h)
noncomputable def EC1 : Env Try.prog := EPtC (ESlC (EMmC (ETmC (ECpC ESam))))
end Go.Proofs.Ytmbekpoelkcceaa
