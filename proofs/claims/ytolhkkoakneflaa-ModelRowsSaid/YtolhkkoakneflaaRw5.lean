/- ModelRows: its run; no statement. -/
import Derived.Test.YtolhkkoakneflaaRw4
set_option linter.unusedVariables false
set_option linter.unusedSimpArgs false
namespace Go.Proofs.Ytolhkkoakneflaa
open Go Go.Eng

def asAct (r : CT) (l : List r.den) : Option (List rAct.den) := if h : r.eqb rAct = true then some (castL r rAct h l) else none
theorem asAct_eq {r : CT} {l : List r.den} {x : List rAct.den} (h : asAct r l = some x) : r = rAct ∧ HEq l x := by
  unfold asAct at h
  split at h
  · rename_i h1
    have e := CT.eq_of_eqb _ _ h1
    subst e
    injection h with h
    exact ⟨rfl, heq_of_eq h⟩
  · cases h
noncomputable def ERe : Env Try.prog := ERd.addL 6 5 lRa_eq 107 [4] [0, 3] (by kernel_rfl)
  (fun vals rov hp os => match vals, rov, hp with
    | [.one (.int .i64 z)], [.one (.sl r1 l1 .shared), .one (.ptr 1 0)], [.mp (.pair .str (.pair .str .unit)) (.pair .str (.pair .str (.pair (.int .u64) (.pair .bool (.pair .str .unit))))) true true M, .cells [.mref 0]] =>
      match asAct r1 l1 with
      | some l => retC (.exit 0, [vX], [.mp rP rCell true true (opsM l 40), .cells [.mref 0]]) [decide (z = 0), okp (M = [] ∧ ∀ x ∈ l, WF rAct x)] os
      | _ => none
    | _, _, _ => none)
  (fun vals rov hp os e outs hp' cs os' h hc => by
    split at h
    · rename_i z r1 l1 M
      split at h
      · rename_i l e1
        obtain ⟨rfl, e1⟩ := asAct_eq e1
        subst e1
        simp only [retC, Option.some.injEq, Prod.mk.injEq] at h
        obtain ⟨⟨rfl, rfl, rfl⟩, rfl, rfl⟩ := h
        obtain ⟨h1, hc⟩ := of_allTc hc
        obtain ⟨h2, _⟩ := of_allTc hc
        have h1 := of_decide_eq_true h1
        subst h1
        obtain ⟨hM, H⟩ := of_okp h2
        subst hM
        exact ra_loop _ H
      · cases h
    · cases h)
theorem rows_pure (l : List rAct.den) (hl : ∀ x ∈ l, WF rAct x) : PureCall Try.prog 6 [vL rAct l] (vB true) := by
  have a0 : okp (([] : MapT) = [] ∧ ∀ (x : rAct.den), x ∈ l → WF rAct x) = true := okp_of ⟨rfl, hl⟩
  exact ERe.pure_ok (os := [false]) (cs := [decide ((0 : Int) = 0), okp (([] : MapT) = [] ∧ ∀ (x : rAct.den), x ∈ l → WF rAct x), false == false]) (by kernel_rfl) (allI (by
    simp only [↓a0]
    rfl))
abbrev sRw : List PT := [.one (.sl rAct)]
theorem rows_law (d : dens sRw) (h : WFs sRw d) : PureCall Try.prog 6 (encs sRw d) (vB true) := rows_pure d.1 h.1.2
end Go.Proofs.Ytolhkkoakneflaa
