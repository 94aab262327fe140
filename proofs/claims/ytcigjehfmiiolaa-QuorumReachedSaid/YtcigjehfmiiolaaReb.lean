/- QuorumReached: its loops as contracts; no statement. -/
import Derived.Test.YtcigjehfmiiolaaRea
set_option linter.unusedVariables false
namespace Go.Proofs.Ytcigjehfmiiolaa
open Go Go.Eng

noncomputable def ERa : Env Try.prog := ECou.addL 4 4 lRa_eq 105 [8, 9] [4, 7] (by kernel_rfl)
  (fun vals rov hp os => match vals, rov, hp with
    | [.one .nils, .one (.int .i64 z)], [.one (.ptr i off), .one (.sl (.int .i64) a .shared)], [.cells [.int .u64 m0, .int .u64 m1, .int .u64 m2, .int .u64 m3, .int .u64 m4]] =>
      retC (.exit 0, [.one (.msl cU 1 0 ((mm5 m0 m1 m2 m3 m4).take a.length).length), vX], [cM m0 m1 m2 m3 m4, .arr cU ((mm5 m0 m1 m2 m3 m4).take a.length)]) [decide (z = 0), decide (i = 0 ∧ off = 0), decide (0 < a.length ∧ a.length ≤ 5)] os
    | _, _, _ => none)
  (fun vals rov hp os e outs hp' cs os' h hc => by
    split at h
    · rename_i z i off a m0 m1 m2 m3 m4
      simp only [retC, Option.some.injEq, Prod.mk.injEq] at h
      obtain ⟨⟨rfl, rfl, rfl⟩, rfl, rfl⟩ := h
      obtain ⟨h1, hc⟩ := of_allTc hc
      obtain ⟨h2, hc⟩ := of_allTc hc
      obtain ⟨h3, _⟩ := of_allTc hc
      simp only [decide_eq_true_eq] at h1 h2 h3
      obtain ⟨rfl, rfl⟩ := h2
      subst h1
      exact ra_loop m0 m1 m2 m3 m4 a h3.1 h3.2
    · cases h)
noncomputable def ERb : Env Try.prog := ERa.addL 4 10 lRb_eq 105 [11, 12, 13] [7, 8, 10] (by kernel_rfl)
  (fun vals rov hp os => match vals, rov, hp with
    | [.one .nils, .one .nils, .one (.int .i64 z)], [.one (.sl (.int .i64) a .shared), .one (.msl (.int .u64) i off n), .one (.int .u64 c)], [.cells [.int .u64 m0, .int .u64 m1, .int .u64 m2, .int .u64 m3, .int .u64 m4], .arr (.int .u64) l] =>
      retC (.exit 2, [.one (.sl cI (selI (geC c) l a a.length) .shared), .one (.sl cI (selI (gtC c) l a a.length) .shared), vX], tk2 m0 m1 m2 m3 m4 l (selI (geC c) l a a.length) (selI (gtC c) l a a.length)) [decide (z = 0), decide (i = 1 ∧ off = 0 ∧ n = l.length), decide (l.length = a.length ∧ a.length ≤ 5)] os
    | _, _, _ => none)
  (fun vals rov hp os e outs hp' cs os' h hc => by
    split at h
    · rename_i z a i off n c m0 m1 m2 m3 m4 l
      simp only [retC, Option.some.injEq, Prod.mk.injEq] at h
      obtain ⟨⟨rfl, rfl, rfl⟩, rfl, rfl⟩ := h
      obtain ⟨h1, hc⟩ := of_allTc hc
      obtain ⟨h2, hc⟩ := of_allTc hc
      obtain ⟨h3, _⟩ := of_allTc hc
      simp only [decide_eq_true_eq] at h1 h2 h3
      obtain ⟨rfl, rfl, rfl⟩ := h2
      subst h1
      exact rb_loop m0 m1 m2 m3 m4 c l a h3.1 h3.2
    · cases h)
noncomputable def ERc : Env Try.prog := ERb.addT1 10 [.one (.sl cI), .one (.sl cU)] (fun d => vU (comI d.1 d.2.1)) (fun _ => []) fun d _ => commit_pure d.1 d.2.1
abbrev cA5 : CT := .pair cU (.pair cU (.pair cU (.pair cU (.pair cU .unit))))
abbrev sRea : List PT := [.one cB, .agg cA5, .one cB]
end Go.Proofs.Ytcigjehfmiiolaa
