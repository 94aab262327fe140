/- Cells: the cells in order, whatever order the entries come in; no statement. -/
import Derived.Test.YtolhkkoakneflaaGc1
set_option linter.unusedVariables false
set_option linter.unusedSimpArgs false
namespace Go.Proofs.Ytolhkkoakneflaa
open Go Go.Eng

noncomputable def cCl : Code := (Try.f20.body).getD .skip
abbrev clD (l : List (rPl.den × rCell.den)) (acc : List rCell.den) : XE × List AV × List AB := (.exit 0, [.one (.asl rCell 2 0 acc.length l.length)], hpCl l.length acc (.iter 0 l.length false) (.mp rPl rCell true true l))
noncomputable def fnCl (l : List (rPl.den × rCell.den)) (acc : List rCell.den) (v r : List AV) (h : List AB) (os : List Bool) : Option ((XE × List AV × List AB) × List Bool × List Bool) :=
  some (clD l acc, [okp (v = [.one (.asl rCell 2 0 0 l.length)] ∧ r = [.one (.ptr 3 0)] ∧ h = hpCl l.length [] (.iter 0 l.length true) (.mp rPl rCell true true l))], os)
noncomputable def ECx : Env Try.prog := ESfG ECmc
noncomputable def runCl (l : List (rPl.den × rCell.den)) (acc : List rCell.den) (os : List Bool) : Option (AV × List AB × List Bool × List Bool) :=
  runF Try.prog ECx.kp ECx.kx ECx.kk (lcD (ECx.lcs 20) 5 (spT 30 (dstsC lCl) [3] [18] (fnCl l acc))) rounds0 Try.f20 cCl [.one (.ptr 1 0)] [.mp rPl rCell true true l, .cells [.mref 0]] os
end Go.Proofs.Ytolhkkoakneflaa
