/- ClientDeaf: the law's environment; no statement. -/
import Derived.Test.YtiodkcnponhhgaaGreatDee
import Derived.Test.YtiodkcnponhhgaaGreatCke
set_option linter.unusedVariables false
set_option linter.unusedSimpArgs false
set_option maxRecDepth 100000
namespace Go.Proofs.YtiodkcnponhhgaaGreat
open Go Go.Eng

theorem works28 : PureCall Tryz.prog 5 [] (vB true) := Ec25.closedPu (by kernel_rfl)
noncomputable def ELf : Env Tryz.prog := (Ec27.addT1 5 [] (fun _ => vB true) (fun _ => []) fun _ _ => works28).addL 4 8 lDf_eq 101 [5] [0, 3] (by kernel_rfl)
  (fun vals rov hp os => match vals, rov, hp with
    | [.one (.int .i64 z)], [.one (.sl (.pair (.int .i64) (.pair (.int .i64) (.pair .str .unit))) l .shared), .one (.ptr 2 0)], [x0, x1, x2, x3, x4, x5] =>
      retC (.exit 0, [vX], hW) [decide (z = 0), okQ ([x0, x1, x2, x3, x4, x5] = hW), decide (l.length ≤ maxLen), okQ (∀ x ∈ l, szk x.2.2.1 = true)] os
    | _, _, _ => none)
  (fun vals rov hp os e outs hp' cs os' h hc => by
    split at h
    · rename_i z l x0 x1 x2 x3 x4 x5
      simp only [retC, Option.some.injEq, Prod.mk.injEq] at h
      obtain ⟨⟨rfl, rfl, rfl⟩, rfl, rfl⟩ := h
      obtain ⟨h1, hc⟩ := of_allTc hc
      obtain ⟨h2, hc⟩ := of_allTc hc
      obtain ⟨h3, hc⟩ := of_allTc hc
      obtain ⟨h4, _⟩ := of_allTc hc
      have h1 := of_decide_eq_true h1
      subst h1
      rw [okQ_of h2]
      exact deaf_loop l (of_decide_eq_true h3) (okQ_of h4)
    · cases h)
open Go Go.Eng

theorem deaf_run (l : List rPacket.den) : ELf.pureRun 4 [.one (.sl rPacket l .shared)] [] = some (vB true, List.replicate 7 true ++ ([decide ((0 : Int) = 0), okQ (hW = hW), decide (l.length ≤ maxLen), okQ (∀ x ∈ l, szk x.2.2.1 = true)] ++ [true, true, true])) := by kernel_rfl
theorem deaf_law (d : dens [.one (.sl rPacket)]) (h : WFs [.one (.sl rPacket)] d) : PureCall Tryz.prog 4 (encs [.one (.sl rPacket)] d) (vB true) := by
  obtain ⟨l, _⟩ := d
  have hw : l.length * rPacket.bytes ≤ reachBytes ∧ ∀ x ∈ l, WF rPacket x := h.1
  have hz : ∀ x ∈ l, szk x.2.2.1 = true := fun x hx => by
    have h1 := (hw.2 x hx).2.2.1
    simp only [WF] at h1
    exact decide_eq_true (Nat.le_trans h1 (by decide +kernel))
  have hb : rPacket.bytes = 32 := by decide
  have hr : reachBytes ≤ 140737488355328 := by decide +kernel
  have hl : l.length ≤ maxLen := by
    have := hw.1
    rw [hb] at this
    unfold maxLen; omega
  refine ELf.pure_ok (deaf_run l) (allI ?_)
  rw [List.all_append, List.all_append]
  have o1 : okQ (hW = hW) = true := okQ_is rfl
  have o2 : okQ (∀ x ∈ l, szk x.2.2.1 = true) = true := okQ_is hz
  rw [List.all_cons, List.all_cons, List.all_cons, List.all_cons, o1, o2, decide_eq_true hl]
  rfl
end Go.Proofs.YtiodkcnponhhgaaGreat
