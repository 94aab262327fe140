/- A seek: what it finds, whatever order the entries come in; no statement. -/
import Derived.Test.YtolhkkoakneflaaSl1
set_option linter.unusedVariables false
set_option linter.unusedSimpArgs false
namespace Go.Proofs.Ytolhkkoakneflaa
open Go Go.Eng

abbrev zRs : rRes.den := rRes.dflt
abbrev skF (o : rOp.den) (l : List (rPl.den × rCell.den)) : rRes.den := l.foldl (fun out q => skStep o out q.1 q.2) zRs
def SlInv (o : rOp.den) (l : List (rPl.den × rCell.den)) (out : rRes.den) (rem : List (rPl.den × rCell.den)) : Prop := ∃ dn, (dn ++ rem).Perm l ∧ out = skF o dn
theorem sl_loop (o : rOp.den) (l : List (rPl.den × rCell.den)) : LoopOkN Try.prog lSk 25 [] [14, 6] [] rvS (hpS o zRs zRs (.iter 0 l.length true) (.mp rPl rCell true true l)) (δ := { out // SlInv o l out [] })
    (fun d => (.exit 0, [], hpS o zRs d.1 (.iter 0 l.length false) (.mp rPl rCell true true l))) := by
  refine LoopOkN.range ESr lSk_eq msSk_eq (by kernel_rfl) (i := 5) (j := 0) (m := 6) (by decide) l (.inl rfl) (.inl rfl) (fun _ => []) (hpS o zRs) (fun t a b => ⟨rfl, rfl⟩) (fun t a b c => ⟨rfl, rfl⟩) (fun t a b => rfl)
    (SlInv o l) zRs ⟨[], List.Perm.refl _, rfl⟩ (fun t rest hp => by kernel_rfl) ?_ (fun t _ => sk_end o zRs t)
  rintro out A p B ⟨dn, h1, rfl⟩
  refine ⟨skStep o (skF o dn) p.1 p.2, ⟨dn ++ [p], ?_, by simp only [skF, List.foldl_append, List.foldl_cons, List.foldl_nil]⟩, sk_go o zRs _ p.1 p.2⟩
  refine List.Perm.trans ?_ h1
  rw [List.append_assoc]
  exact List.Perm.append_left dn (show (p :: (A ++ B)).Perm _ from List.perm_middle.symm)

noncomputable def cSk : Code := (Try.f31.body).getD .skip
noncomputable def fnSk (o : rOp.den) (l : List (rPl.den × rCell.den)) (out : rRes.den) (v r : List AV) (h : List AB) (os : List Bool) : Option ((XE × List AV × List AB) × List Bool × List Bool) :=
  some ((.exit 0, [], hpS o zRs out (.iter 0 l.length false) (.mp rPl rCell true true l)), [ok' (v = [] ∧ r = rvS ∧ h = hpS o zRs zRs (.iter 0 l.length true) (.mp rPl rCell true true l))], os)
noncomputable def runSk (o : rOp.den) (l : List (rPl.den × rCell.den)) (out : rRes.den) (os : List Bool) : Option (AV × List AB × List Bool × List Bool) :=
  runF Try.prog ECx.kp ECx.kx ECx.kk (lcD (ECx.lcs 31) 4 (spT 25 (dstsC lSk) [] [14, 6] (fnSk o l out))) rounds0 Try.f31 cSk [.one (.ptr 1 0), .agg (rOp.cells o)] [.mp rPl rCell true true l, .cells [.mref 0]] os
end Go.Proofs.Ytolhkkoakneflaa
