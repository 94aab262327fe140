/- New of an own array; no statement. -/
import Derived.Test.YtmbekpoelkcceaaRec
set_option linter.unusedVariables false
set_option linter.unusedSimpArgs false
namespace Go.Proofs.Ytmbekpoelkcceaa
open Go Go.Eng

theorem newm_heap (n : Nat) (y : List rEntry.den) (hn : n ≤ y.length) (hl : n ≤ 1000) (hf : folW 0 0 (cutL 0 n y) = true) (he : (cutL 0 n y).all entFits = true) :
    HeapCall Try.prog 10 [.agg [.int .u64 0, .int .u64 0, .nils], .one (.msl rEntry 0 0 n)] [.arr rEntry y] (.tup [(false, [.ptr 2 0]), (false, [.int .i64 0])]) [.arr rEntry y, baB, logB (cutL 0 n y) .shared] := by
  have q0 : decide (0 + n ≤ y.length) = true := decide_eq_true (by omega)
  have q1 : decide (n ≤ 1000) = true := decide_eq_true hl
  exact (EAlM ESam).heap_ok (f := 10) (args := [.agg [.int .u64 0, .int .u64 0, .nils], .one (.msl rEntry 0 0 n)]) (hp := [.arr rEntry y]) (os := [true, true, true, true, true, true, true, true, true, true, true, true, true, true, true, true, true, false, false, false, false, false, false, false, false, false]) (r := (.tup [(false, [(.ptr 2 0)]), (false, [(.int .i64 (0))])])) (hp' := [(.arr (.pair (.int .u64) (.pair (.int .u64) (.pair (.int .i64) (.pair (.pair (.int .i64) (.pair (.int .i64) (.pair (.int .u64) (.pair (.int .u64) (.pair (.pair (.int .i64) (.pair .str (.pair .str (.pair .str (.pair .bool (.pair .str .unit)))))) (.pair (.int .u64) (.pair (.int .i64) (.pair .str (.pair .str (.pair (.int .i64) (.pair (.pair .bool (.pair (.int .i64) (.pair .str (.pair (.int .i64) (.pair (.int .i64) .unit))))) .unit))))))))))) (.pair (.sl (.int .i64)) .unit))))) y), (.cells [(.int .u64 (0)), (.int .u64 (0)), .nils]), (.cells [(.int .u64 (0)), (.int .u64 (0)), (.sl (.int .i64) [] .shared), (.sl (.pair (.int .u64) (.pair (.int .u64) (.pair (.int .i64) (.pair (.pair (.int .i64) (.pair (.int .i64) (.pair (.int .u64) (.pair (.int .u64) (.pair (.pair (.int .i64) (.pair .str (.pair .str (.pair .str (.pair .bool (.pair .str .unit)))))) (.pair (.int .u64) (.pair (.int .i64) (.pair .str (.pair .str (.pair (.int .i64) (.pair (.pair .bool (.pair (.int .i64) (.pair .str (.pair (.int .i64) (.pair (.int .i64) .unit))))) .unit))))))))))) (.pair (.sl (.int .i64)) .unit))))) (cutL 0 n y) .shared), (.bool true)])]) (cs := [(decide (0 + n ≤ y.length)), (decide (n ≤ 1000)), ((cutL 0 n y).all entFits), true, true, ((!folW 0 0 (List.take n (List.drop 0 y))) == false), ((!true) == false), ((!true) == false), ((!true) == false), ((!true) == false), ((!true) == false), ((!true) == false), ((!true) == false), ((!true) == false), ((0 == 0) == true), ((0 == 0) == true), ((0 == 0) == true), ((0 == 0) == true), ((0 == 0) == true), ((0 == 0) == true), ((0 == 0) == true), ((0 == 0) == true), ((0 == 0) == true), ((0 == 0) == true), ((0 == 0) == true), ((0 == 0) == true), ((0 == 0) == true), ((0 == 0) == true), ((0 == 0) == true), ((0 == 0) == true), ((0 == 0) == true)]) (by kernel_rfl) (allI (by simp only [↓q0, ↓q1, hf, he]; rfl))
/-- New in use, of a whole own array too. -/
noncomputable def ENwM (E : Env Try.prog) : Env Try.prog := E.addHF 10 (fun args _ => match args with | [_, .one (.msl _ j _ _)] => [j] | _ => [])
  (fun args hp os => match args, hp with
    | [.agg [.int .u64 b0, .int .u64 b1, .nils], .one (.msl r1 0 0 n)], [.arr r3 l3] =>
      match asE r3 l3 with
      | some y => if r1.eqb rEntry = true then retC (.tup [(false, [.ptr 2 0]), (false, [.int .i64 0])], [.arr rEntry y, baB, logB (cutL 0 n y) .shared]) [decide (b0 = 0 ∧ b1 = 0), decide (n ≤ y.length), decide (n ≤ 1000), folW 0 0 (cutL 0 n y), (cutL 0 n y).all entFits] os else none
      | _ => none
    | _, _ => none)
  (fun args hp os r hp' cs os' h hc => by
    split at h
    · rename_i b0 b1 r1 n r3 l3
      split at h
      · rename_i y e3
        split at h
        · rename_i er
          have er := CT.eq_of_eqb _ _ er
          subst er
          obtain ⟨rfl, e3⟩ := asE_eq e3
          subst e3
          simp only [retC, Option.some.injEq, Prod.mk.injEq] at h
          obtain ⟨⟨rfl, rfl⟩, rfl, rfl⟩ := h
          obtain ⟨h0, hc⟩ := of_allTc hc
          obtain ⟨h1, hc⟩ := of_allTc hc
          obtain ⟨h2, hc⟩ := of_allTc hc
          obtain ⟨h3, hc⟩ := of_allTc hc
          obtain ⟨h4, _⟩ := of_allTc hc
          obtain ⟨rfl, rfl⟩ := of_decide_eq_true h0
          exact newm_heap _ _ (of_decide_eq_true h1) (of_decide_eq_true h2) h3 h4
        · cases h
      · cases h
    · cases h)
end Go.Proofs.Ytmbekpoelkcceaa
