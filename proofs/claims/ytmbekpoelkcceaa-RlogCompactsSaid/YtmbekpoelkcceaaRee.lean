/- leader's list as an own array; no statement. -/
import Derived.Test.YtmbekpoelkcceaaRed
import Derived.Test.YtmbekpoelkcceaaEngZ10
set_option linter.unusedVariables false
set_option linter.unusedSimpArgs false
namespace Go.Proofs.Ytmbekpoelkcceaa
open Go Go.Eng

theorem ld_bare {n : Nat} {g : List Int} {ev : Bool} {k : Nat} : rEntry.bareP (ldEnt n g ev k) := by
  simp [rEntry, CT.bareP, ldEnt]
theorem ldTo_bare {n : Nat} {g : List Int} {ev : Bool} {k : Nat} : ∀ x ∈ ldTo n g ev k, rEntry.bareP x := fun x hx => by
  simp only [ldTo, List.mem_map] at hx
  obtain ⟨j, _, rfl⟩ := hx
  exact ld_bare
theorem ledm_heap (n : Int) (g : List Int) (ev : Int) (h3 : 0 ≤ n ∧ n ≤ 40) (h4 : ev = 0 ∨ ev = 1) (h5 : g.all isByte = true) (hpos : 0 < ldLen g) :
    HeapCall Try.prog 9 [vI n, vL cB g, vU ev] [] (.one (.msl rEntry 0 0 (ldLen g))) [.arr rEntry (ldTo n.toNat g (ev == 1) (ldLen g))] := by
  have h := ELed1.heap_ok (f := 9) (args := [vI n, vL cB g, vU ev]) (hp := []) (os := []) (r := .one (.sl rEntry (ldTo n.toNat g (ev == 1) (ldLen g)) (.own 0 (ldLen g)))) (hp' := [.tok 46 (ldLen g)])
    (cs := [decide ((0 : Int) = 0), decide ((1 : Int) = 1), decide (0 ≤ n ∧ n ≤ 40), decide (ev = 0 ∨ ev = 1), g.all isByte]) (by kernel_rfl) (allI (by rw [h5, decide_eq_true h3, decide_eq_true h4]; rfl))
  have hl : (ldTo n.toNat g (ev == 1) (ldLen g)).length = ldLen g := ldTo_len
  have t := h.thaw (args := [vI n, vL cB g, vU ev]) (by rfl) ldTo_bare (by rw [hl]; exact hpos)
  rw [hl] at t
  exact t
noncomputable def ELdM (E : Env Try.prog) : Env Try.prog := E.addHF 9 (fun _ _ => [])
  (fun args hp os => match args, hp with
    | [.one (.int .i64 n), .one (.sl (.int .u8) g .shared), .one (.int .u64 ev)], [] => brL (decide (0 < ldLen g)) os
      (fun os => retC (.one (.msl rEntry 0 0 (ldLen g)), [.arr rEntry (ldTo n.toNat g (ev == 1) (ldLen g))]) [decide (0 ≤ n ∧ n ≤ 40), decide (ev = 0 ∨ ev = 1), g.all isByte] os)
      (fun os => none)
    | _, _ => none)
  (fun args hp os r hp' cs os' h hc => by
    split at h
    · rename_i n g ev
      rcases brL_some h hc with ⟨hb, o, c, h, hc⟩ | ⟨hb, o, c, h, hc⟩
      · simp only [retC, Option.some.injEq, Prod.mk.injEq] at h
        obtain ⟨⟨rfl, rfl⟩, rfl, rfl⟩ := h
        obtain ⟨h1, hc⟩ := of_allTc hc
        obtain ⟨h2, hc⟩ := of_allTc hc
        obtain ⟨h3, _⟩ := of_allTc hc
        exact ledm_heap _ _ _ (of_decide_eq_true h1) (of_decide_eq_true h2) h3 (of_decide_eq_true hb)
      · cases h
    · cases h)
end Go.Proofs.Ytmbekpoelkcceaa
