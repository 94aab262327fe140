/- rlog.all, handed an own array: in use; no statement. -/
import Derived.Test.YtmbekpoelkcceaaReb
set_option linter.unusedVariables false
set_option linter.unusedSimpArgs false
namespace Go.Proofs.Ytmbekpoelkcceaa
open Go Go.Eng

noncomputable def EAlM (E : Env Try.prog) : Env Try.prog := E.addHF 33 (fun args _ => match args with | [.one (.msl _ j _ _)] => [j] | _ => [])
  (fun args hp os => match args, hp with
    | [.one (.msl r1 0 off n)], [.arr r3 l3] =>
      match asE r3 l3 with
      | some y => if r1.eqb rEntry = true then retC (vL rEntry (cutL off n y), [.arr rEntry y]) [decide (off + n ≤ y.length), decide (n ≤ 1000), (cutL off n y).all entFits] os else none
      | _ => none
    | _, _ => none)
  (fun args hp os r hp' cs os' h hc => by
    split at h
    · rename_i r1 off n r3 l3
      split at h
      · rename_i y e3
        split at h
        · rename_i er
          have er := CT.eq_of_eqb _ _ er
          subst er
          obtain ⟨rfl, e3⟩ := asE_eq e3
          subst e3
          simp only [retC, Option.some.injEq, Prod.mk.injEq] at h
          obtain ⟨⟨rfl, rfl⟩, rfl, rfl⟩ := h
          obtain ⟨h1, hc⟩ := of_allTc hc
          obtain ⟨h2, hc⟩ := of_allTc hc
          obtain ⟨h3, _⟩ := of_allTc hc
          exact alm_heap _ _ _ (of_decide_eq_true h1) (of_decide_eq_true h2) h3
        · cases h
      · cases h
    · cases h)
end Go.Proofs.Ytmbekpoelkcceaa
