/- A seek: its loop's contract in use; no statement. -/
import Derived.Test.YtolhkkoakneflaaSk2
set_option linter.unusedVariables false
set_option linter.unusedSimpArgs false
namespace Go.Proofs.Ytolhkkoakneflaa
open Go Go.Eng

noncomputable def ok (p : Prop) : Bool := @decide p (Classical.propDecidable p)
theorem of_ok {p : Prop} (h : ok p = true) : p := @of_decide_eq_true p (Classical.propDecidable p) h
theorem ok_of {p : Prop} (h : p) : ok p = true := @decide_eq_true p (Classical.propDecidable p) h

def fIx (a : ByteArray) : Nat := ((List.range 6).find? fun n => a == rowN n).getD 0
def cIx (a : ByteArray) : Nat := ((List.range 3).find? fun n => a == colN n).getD 0
theorem fIx_row : ∀ f, f < 6 → fIx (rowN f) = f := by decide +kernel
theorem cIx_col : ∀ c, c < 3 → cIx (colN c) = c := by decide +kernel
structure SkOk (M : MapT) (n : Nat) (o : rOp.den) (out : rRes.den) : Prop where
  key : MK M
  ex : ∃ f c, f < 6 ∧ c < 3 ∧ o = opP 5 f c e0B false e0B
  out : out = zR
  len : n = M.length
noncomputable def ESk : Env Try.prog := EMi.addL 31 4 lSk_eq 25 [] [14, 6] (by kernel_rfl)
  (fun vals rov hp os => match vals, rov, hp with
    | [], [.one (.ptr 5 0), .one (.fn 37 [(2, 0), (4, 0)])], [.mp (.pair .str (.pair .str .unit)) (.pair .str (.pair .str (.pair (.int .u64) (.pair .bool (.pair .str .unit))))) true true M, .cells [.mref 0], .cells [.int .i64 o0, .str o1, .str o2, .str o3, .bool o4, .str o5], .cells [.int .i64 z0, .bool z1, .str z2, .str z3, .int .u64 z4], .cells [.int .i64 t0, .bool t1, .str t2, .str t3, .int .u64 t4], .iter 0 n true] =>
      retC (.exit msSk.ie, [], hpS (o0, o1, o2, o3, o4, o5, ()) (z0, z1, z2, z3, z4, ()) (seekV M (fIx o1) (cIx o2)) (.iter 0 M.length false) (.mp rP rCell true true M)) [ok (SkOk M n (o0, o1, o2, o3, o4, o5, ()) (t0, t1, t2, t3, t4, ()))] os
    | _, _, _ => none)
  (fun vals rov hp os e outs hp' cs os' h hc => by
    split at h
    · rename_i M o0 o1 o2 o3 o4 o5 z0 z1 z2 z3 z4 t0 t1 t2 t3 t4 n
      simp only [retC, Option.some.injEq, Prod.mk.injEq] at h
      obtain ⟨⟨rfl, rfl, rfl⟩, rfl, rfl⟩ := h
      obtain ⟨K, ⟨f, c, hf, hcc, ho⟩, hout, hn⟩ := of_ok (of_allTc hc).1
      have := sk_loop M K f c hf hcc (z0, z1, z2, z3, z4, ())
      rw [← ho, ← hout, ← hn] at this
      have e1 : o1 = rowN f := by injection ho with _ ho; injection ho with ho _
      have e2 : o2 = colN c := by injection ho with _ ho; injection ho with _ ho; injection ho with ho _
      rw [e1, e2, fIx_row f hf, cIx_col c hcc, ← hn, ← e1, ← e2]
      exact this
    · cases h)
theorem chk_seek (ρ γ : Nat) : chkV (opP 5 ρ γ e0B false e0B) = 0 := by
  have s1 := rowN_size ρ
  have s2 := colN_size γ
  unfold chkV q1 q2 q3 q4 opP
  simp [s1, s2, baRfl, isE_c, isE_r, es0]
end Go.Proofs.Ytolhkkoakneflaa
