/- ModelRows: its inner loops' contracts; no statement. -/
import Derived.Test.YtolhkkoakneflaaRw2
set_option linter.unusedVariables false
set_option linter.unusedSimpArgs false
namespace Go.Proofs.Ytolhkkoakneflaa
open Go Go.Eng

noncomputable def ERc : Env Try.prog := ERb.addL 6 11 lRb_eq 107 [8, 6] [7, 5] (by kernel_rfl)
  (fun vals rov hp os => match vals, rov, hp with
    | [.one (.int .i64 z), .one .nils], [.one (.sl r1 l1 .shared), .one (.ptr 2 0)], [.mp (.pair .str (.pair .str .unit)) (.pair .str (.pair .str (.pair (.int .u64) (.pair .bool (.pair .str .unit))))) true true M, .cells [.mref 0], .cells [.int .i64 o0, .str o1, .str o2, .str o3, .bool o4, .str o5]] =>
      match asG r1 l1 with
      | some l => retC (.exit 2, [vX, .one (.sl rCell (rowAll (o0, o1, o2, o3, o4, o5, ()) l) (.own 3 (rowAll (o0, o1, o2, o3, o4, o5, ()) l).length))], [.mp rP rCell true true M, .cells [.mref 0], .cells (rOp.cells (o0, o1, o2, o3, o4, o5, ())), .tok 52 (rowAll (o0, o1, o2, o3, o4, o5, ()) l).length]) [decide (z = 0), okp (l.length ≤ 1000)] os
      | _ => none
    | _, _, _ => none)
  (fun vals rov hp os e outs hp' cs os' h hc => by
    split at h
    · rename_i z r1 l1 M o0 o1 o2 o3 o4 o5
      split at h
      · rename_i l e1
        obtain ⟨rfl, e1⟩ := asG_eq e1
        subst e1
        simp only [retC, Option.some.injEq, Prod.mk.injEq] at h
        obtain ⟨⟨rfl, rfl, rfl⟩, rfl, rfl⟩ := h
        obtain ⟨h1, hc⟩ := of_allTc hc
        obtain ⟨h2, _⟩ := of_allTc hc
        have h1 := of_decide_eq_true h1
        subst h1
        exact rb_loop M (o0, o1, o2, o3, o4, o5, ()) _ (of_okp h2)
      · cases h
    · cases h)
noncomputable def ERd : Env Try.prog := ERc.addL 6 21 lRc_eq 107 [13, 11] [12, 10] (by kernel_rfl)
  (fun vals rov hp os => match vals, rov, hp with
    | [.one (.int .i64 z), .one (.int .i64 n)], [.one (.sl r1 l1 .shared), .one (.sl r2 l2 .shared)], [.mp (.pair .str (.pair .str .unit)) (.pair .str (.pair .str (.pair (.int .u64) (.pair .bool (.pair .str .unit))))) true true M, .cells [.mref 0], .cells [.int .i64 o0, .str o1, .str o2, .str o3, .bool o4, .str o5], .tok ty j, .cells [.int .i64 t0, .bool t1, .str t2, .str t3, .int .u64 t4]] =>
      match asG r1 l1, asG r2 l2 with
      | some l, some [] => retC (.exit 4, [vX, vI 0], hpW M (o0, o1, o2, o3, o4, o5, ()) ty j (t0, t1, t2, t3, t4, ())) [decide (z = 0), decide (n = 0), okp (l.length ≤ 1000)] os
      | some l, some [a, b] => retC (.exit 4, [vX, vI ((cn2 a b l : Nat) : Int)], hpW M (o0, o1, o2, o3, o4, o5, ()) ty j (t0, t1, t2, t3, t4, ())) [decide (z = 0), decide (n = 0), okp (l.length ≤ 1000)] os
      | _, _ => none
    | _, _, _ => none)
  (fun vals rov hp os e outs hp' cs os' h hc => by
    split at h
    · rename_i z n r1 l1 r2 l2 M o0 o1 o2 o3 o4 o5 ty j t0 t1 t2 t3 t4
      split at h
      · rename_i l e1 e2
        obtain ⟨rfl, e1⟩ := asG_eq e1
        obtain ⟨rfl, e2⟩ := asG_eq e2
        subst e1
        subst e2
        simp only [retC, Option.some.injEq, Prod.mk.injEq] at h
        obtain ⟨⟨rfl, rfl, rfl⟩, rfl, rfl⟩ := h
        obtain ⟨h1, hc⟩ := of_allTc hc
        obtain ⟨h2, hc⟩ := of_allTc hc
        obtain ⟨h3, _⟩ := of_allTc hc
        have h1 := of_decide_eq_true h1
        have h2 := of_decide_eq_true h2
        subst h1; subst h2
        exact rc_loop0 M (o0, o1, o2, o3, o4, o5, ()) ty j (t0, t1, t2, t3, t4, ()) _ (of_okp h3)
      · rename_i l a b e1 e2
        obtain ⟨rfl, e1⟩ := asG_eq e1
        obtain ⟨rfl, e2⟩ := asG_eq e2
        subst e1
        subst e2
        simp only [retC, Option.some.injEq, Prod.mk.injEq] at h
        obtain ⟨⟨rfl, rfl, rfl⟩, rfl, rfl⟩ := h
        obtain ⟨h1, hc⟩ := of_allTc hc
        obtain ⟨h2, hc⟩ := of_allTc hc
        obtain ⟨h3, _⟩ := of_allTc hc
        have h1 := of_decide_eq_true h1
        have h2 := of_decide_eq_true h2
        subst h1; subst h2
        exact rc_loop M (o0, o1, o2, o3, o4, o5, ()) ty j (t0, t1, t2, t3, t4, ()) _ (of_okp h3) a b
      · cases h
    · cases h)
end Go.Proofs.Ytolhkkoakneflaa
