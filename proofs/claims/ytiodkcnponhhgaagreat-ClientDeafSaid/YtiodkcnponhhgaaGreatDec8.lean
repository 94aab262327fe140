/- ClientDeaf: the environment of a round; no statement. -/
import Derived.Test.YtiodkcnponhhgaaGreatDeb
set_option linter.unusedVariables false
set_option linter.unusedSimpArgs false
set_option maxRecDepth 100000
namespace Go.Proofs.YtiodkcnponhhgaaGreat
open Go Go.Eng

noncomputable def okQ (p : Prop) : Bool := @decide p (Classical.propDecidable p)
theorem okQ_of {p : Prop} (h : okQ p = true) : p := @of_decide_eq_true p (Classical.propDecidable p) h
theorem okQ_is {p : Prop} (h : p) : okQ p = true := @decide_eq_true p (Classical.propDecidable p) h
def dN (p : rPacket.den) : Bool := hT p || h4 p
noncomputable def hdF (args : List AV) (hp : List AB) (os : List Bool) : Option ((AV × List AB) × List Bool × List Bool) := match args, hp with
  | [.one (.ptr 2 0), .agg [.int .i64 a, .int .i64 b, .str s]], [x0, x1, x2, x3, x4, x5, x6] => retC (.one .nils, [x0, x1, x2, x3, x4, x5, x6]) [okQ ([x0, x1, x2, x3, x4, x5, x6] = hX (dmA s).1), szk s, dN (a, b, s, ())] os
  | _, _ => none
noncomputable def ELd : Env Tryz.prog := EDf.addHF 12 (fun _ _ => []) hdF
  (fun args hp os r' hp' cs os' h hc => by
    unfold hdF at h
    split at h
    · rename_i a b s x0 x1 x2 x3 x4 x5 x6
      simp only [retC, Option.some.injEq, Prod.mk.injEq] at h
      obtain ⟨⟨rfl, rfl⟩, rfl, rfl⟩ := h
      obtain ⟨g1, hc⟩ := of_allTc hc
      obtain ⟨g2, hc⟩ := of_allTc hc
      obtain ⟨g3, _⟩ := of_allTc hc
      have g1 := okQ_of g1
      rw [g1]
      exact handle_h (a, b, s, ()) _ g2 (by
        have g3 : (hT (a, b, s, ()) || h4 (a, b, s, ())) = true := g3
        rw [Bool.or_eq_true] at g3; exact g3)
    · cases h)
end Go.Proofs.YtiodkcnponhhgaaGreat
