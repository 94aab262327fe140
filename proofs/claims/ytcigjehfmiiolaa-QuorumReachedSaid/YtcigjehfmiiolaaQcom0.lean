/- Sort's contracts; no statement. -/
import Derived.Test.YtcigjehfmiiolaaQsort
set_option linter.unusedVariables false
namespace Go.Proofs.Ytcigjehfmiiolaa
open Go Go.Eng
def lenU (n : Int) : Int := bif decide (n = 0) then 0 else bif decide (n = 1) then 1 else bif decide (n ≤ 3) then 2 else 3
theorem len_runs : ([0, 1, 2, 3, 4, 5].all fun n => match E0.pureRun 38 [.one (.int .u64 n)] [] with | some (.one (.int .i64 r), cs) => (r == lenU n) && cs.all (fun c => c) | _ => false) = true := by kernel_rfl
theorem len_pure (n : Int) (h0 : 0 ≤ n) (h1 : n ≤ 5) : PureCall Try.prog 38 [.one (.int .u64 n)] (vI (lenU n)) := by
  have hm : n ∈ [(0 : Int), 1, 2, 3, 4, 5] := by
    have : n = 0 ∨ n = 1 ∨ n = 2 ∨ n = 3 ∨ n = 4 ∨ n = 5 := by omega
    rcases this with rfl | rfl | rfl | rfl | rfl | rfl <;> decide
  have h := List.all_eq_true.1 len_runs n hm
  split at h
  · rename_i r cs hr
    simp only [Bool.and_eq_true, beq_iff_eq, List.all_eq_true] at h
    obtain ⟨rfl, h⟩ := h
    exact E0.pure_ok hr h
  · cases h
noncomputable def ESrt : Env Try.prog := (EIns.addL 40 1 lSrt_eq 53 [8] [0, 1, 2, 3] (by kernel_rfl)
  (fun vals rov hp os => match vals, rov, hp with
    | [.one (.int .i64 z)], [.one (.asl (.int .u64) 0 0 n n'), .one (.int .i64 a), .one (.int .i64 b), .one (.fn 29 [])], [.arr (.int .u64) l] =>
      retC (.exit 0, [vX], [.arr cU (ins l (n - 1))]) [decide (z = 1), decide (b = n), decide (n = n'), decide (a = 0), decide (n = l.length), decide (0 < n), decide (n ≤ maxLen)] os
    | _, _, _ => none)
  (fun vals rov hp os e outs hp' cs os' h hc => by
    split at h
    · rename_i z n n' a b l
      simp only [retC, Option.some.injEq, Prod.mk.injEq] at h
      obtain ⟨⟨rfl, rfl, rfl⟩, rfl, rfl⟩ := h
      obtain ⟨h1, hc⟩ := of_allTc hc
      obtain ⟨h2, hc⟩ := of_allTc hc
      obtain ⟨h3, hc⟩ := of_allTc hc
      obtain ⟨h4, hc⟩ := of_allTc hc
      obtain ⟨h5, hc⟩ := of_allTc hc
      obtain ⟨h6, hc⟩ := of_allTc hc
      obtain ⟨h7, _⟩ := of_allTc hc
      simp only [decide_eq_true_eq] at h1 h2 h3 h4 h5 h6 h7
      subst h3; subst h4; subst h5; subst h1; subst h2
      exact srt_loop l h6 h7
    · cases h)).addT1 38 [.one cU] (fun d => vI (lenU d.1)) (fun d => [decide (0 ≤ d.1), decide (d.1 ≤ 5)]) fun d hc => by
    obtain ⟨h1, hc⟩ := of_allTc hc
    obtain ⟨h2, _⟩ := of_allTc hc
    exact len_pure d.1 (of_decide_eq_true h1) (of_decide_eq_true h2)
end Go.Proofs.Ytcigjehfmiiolaa
