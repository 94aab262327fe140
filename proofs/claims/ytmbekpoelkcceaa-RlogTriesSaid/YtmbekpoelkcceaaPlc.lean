/- Put: its loop's contract in use; no statement. -/
import Derived.Test.YtmbekpoelkcceaaPlo
set_option linter.unusedVariables false
set_option linter.unusedSimpArgs false
namespace Go.Proofs.Ytmbekpoelkcceaa
open Go Go.Eng

theorem putL_all {x : List rEntry.den} : ∀ {l : List rEntry.den}, l.all (hasE x) = true → putL x l = (x, 0)
  | [], _ => rfl
  | e :: r, h => by
    rw [List.all_cons, Bool.and_eq_true] at h
    rw [putL_cons, if_pos h.1]
    exact putL_all h.2

noncomputable def EPlo : Env Try.prog := ESam.addL 12 12 lPut_eq 115 [58, 8, 9, 10] [0, 3, 56, 57] (by kernel_rfl)
  (fun vals rov hp os => match vals, rov, hp with
    | [.one (.int .i64 z), .one (.int .u64 last), .one (.int .u64 fr), .one (.bool b)], [.one (.ptr 1 0), .one (.sl r1 l1 .shared), .one (.sl r2 l2 .shared), .one (.int .i64 n)], [.cells [.int .u64 b0, .int .u64 b1, .nils], .cells [.int .u64 b2, .int .u64 b3, .sl (.int .i64) [] .shared, .sl r3 x3 .shared, .bool mk]] =>
      match asE r1 l1, asE r2 l2, asE r3 x3 with
      | some l, some m, some x => brL (l.all (hasE x)) os
        (fun os => retC (.exit 1, [vX, vU last, vU 0, vB false], [baB, logB (putL x l).1 .shared]) [decide (z = 0 ∧ fr = 0 ∧ b = false ∧ n = l.length ∧ b0 = 0 ∧ b1 = 0 ∧ b2 = 0 ∧ b3 = 0 ∧ mk = true), ok (l = m ∧ ∃ i, PutOk i x l)] os)
        (fun os => retC (.ret, [vX, vU last, vU (putL x l).2, vB true], [baB, logB (putL x l).1 .shared]) [decide (z = 0 ∧ fr = 0 ∧ b = false ∧ n = l.length ∧ b0 = 0 ∧ b1 = 0 ∧ b2 = 0 ∧ b3 = 0 ∧ mk = true), ok (l = m ∧ ∃ i, PutOk i x l)] os)
      | _, _, _ => none
    | _, _, _ => none)
  (fun vals rov hp os e outs hp' cs os' h hc => by
    split at h
    · rename_i z last fr b r1 l1 r2 l2 n b0 b1 b2 b3 r3 x3 mk
      split at h
      · rename_i l m x e1 e2 e3
        obtain ⟨rfl, e1⟩ := asE_eq e1
        obtain ⟨rfl, e2⟩ := asE_eq e2
        obtain ⟨rfl, e3⟩ := asE_eq e3
        subst e1; subst e2; subst e3
        rcases brL_some h hc with ⟨hb, o, c, h, hc⟩ | ⟨hb, o, c, h, hc⟩
        all_goals
          simp only [retC, Option.some.injEq, Prod.mk.injEq] at h
          obtain ⟨⟨rfl, rfl, rfl⟩, rfl, rfl⟩ := h
          obtain ⟨h1, hc⟩ := of_allTc hc
          obtain ⟨h2, _⟩ := of_allTc hc
          obtain ⟨rfl, rfl, rfl, rfl, rfl, rfl, rfl, rfl, rfl⟩ := of_decide_eq_true h1
          obtain ⟨rfl, i, H⟩ := of_ok h2
          first | exact put_loop i _ _ last H true hb | exact put_loop i _ _ last H false hb
      · cases h
    · cases h)
end Go.Proofs.Ytmbekpoelkcceaa
