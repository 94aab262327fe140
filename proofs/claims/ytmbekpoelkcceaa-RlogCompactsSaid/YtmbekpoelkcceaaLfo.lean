/- follow, leader: their contracts; no statement. -/
import Derived.Test.YtmbekpoelkcceaaLed
set_option linter.unusedVariables false
set_option linter.unusedSimpArgs false
namespace Go.Proofs.Ytmbekpoelkcceaa
open Go Go.Eng

theorem fol_pure (i t : Int) (l : List rEntry.den) : PureCall Try.prog 31 [vU i, vU t, vL rEntry l] (vB (folW i t l)) := by
  refine PureCall.facts' (by kernel_rfl) fun ⟨X, vs, hX, hv⟩ => ?_
  have hlen : l.length ≤ 9223372036854775807 := len_of hv 2 rfl
  cases h : folW i t l with
  | true => exact EFol1.pure_ok (os := [true]) (cs := [(decide (0 = 0)), (decide (false = false)), (decide (((l.length : Nat) : Int) = ((l.length : Nat) : Int))), (decide (l.length ≤ 9223372036854775807)), true, (folW i t l == true)]) (by kernel_rfl) (allI (by simp [h, hlen]))
  | false => exact EFol1.pure_ok (os := [false]) (cs := [(decide (0 = 0)), (decide (false = false)), (decide (((l.length : Nat) : Int) = ((l.length : Nat) : Int))), (decide (l.length ≤ 9223372036854775807)), true, (folW i t l == false)]) (by kernel_rfl) (allI (by simp [h, hlen]))
noncomputable def EFol : Env Try.prog := EAll.addT1 31 [.one cU, .one cU, .one (.sl rEntry)] (fun d => vB (folW d.1 d.2.1 d.2.2.1)) (fun _ => []) fun d _ => fol_pure d.1 d.2.1 d.2.2.1

def isByte (x : Int) : Bool := decide (0 ≤ x ∧ x ≤ 255)
noncomputable def ELed1 : Env Try.prog := EAll.addL 9 4 lLed_eq 69 [9, 8, 7] [0, 1, 2] (by kernel_rfl)
  (fun vals rov hp os => match vals, rov, hp with
    | [.one (.int .i64 z), .one (.int .u64 t), .one .nils], [.one (.int .i64 n), .one (.sl (.int .u8) g .shared), .one (.int .u64 ev)], [] =>
      retC (.exit 0, [vX, vX, .one (.sl rEntry (ldTo n.toNat g (ev == 1) (ldLen g)) (.own 0 (ldLen g)))], [.tok 46 (ldLen g)]) [decide (z = 0), decide (t = 1), decide (0 ≤ n ∧ n ≤ 40), decide (ev = 0 ∨ ev = 1), g.all isByte] os
    | _, _, _ => none)
  (fun vals rov hp os e outs hp' cs os' h hc => by
    split at h
    · rename_i z t n g ev
      simp only [retC, Option.some.injEq, Prod.mk.injEq] at h
      obtain ⟨⟨rfl, rfl, rfl⟩, rfl, rfl⟩ := h
      obtain ⟨h1, hc⟩ := of_allTc hc
      obtain ⟨h2, hc⟩ := of_allTc hc
      obtain ⟨h3, hc⟩ := of_allTc hc
      obtain ⟨h4, hc⟩ := of_allTc hc
      obtain ⟨h5, _⟩ := of_allTc hc
      simp only [decide_eq_true_eq] at h1 h2 h3 h4
      subst h1; subst h2
      have hg : ∀ x ∈ g, (0 : Int) ≤ x ∧ x ≤ 255 := fun x hx => of_decide_eq_true (List.all_eq_true.1 h5 x hx)
      have := led_loop g hg n.toNat (by omega) (ev == 1)
      have e1 : ((n.toNat : Nat) : Int) = n := Int.toNat_of_nonneg h3.1
      have e2 : evI (ev == 1) = ev := by rcases h4 with rfl | rfl <;> rfl
      rw [e1, e2] at this
      exact this
    · cases h)

theorem led_pure (n : Int) (g : List Int) (ev : Int) (h3 : 0 ≤ n ∧ n ≤ 40) (h4 : ev = 0 ∨ ev = 1) (h5 : g.all isByte = true) : PureCall Try.prog 9 [vI n, vL cB g, vU ev] (vL rEntry (ldTo n.toNat g (ev == 1) (ldLen g))) :=
  ELed1.pure_ok (os := []) (cs := [decide ((0 : Int) = 0), decide ((1 : Int) = 1), decide (0 ≤ n ∧ n ≤ 40), decide (ev = 0 ∨ ev = 1), g.all isByte]) (by kernel_rfl) (allI (by rw [h5, decide_eq_true h3, decide_eq_true h4]; rfl))
noncomputable def ELed : Env Try.prog := EFol.addT1 9 [.one cI, .one (.sl cB), .one cU] (fun d => vL rEntry (ldTo d.1.toNat d.2.1 (d.2.2.1 == 1) (ldLen d.2.1))) (fun d => [decide (0 ≤ d.1 ∧ d.1 ≤ 40), decide (d.2.2.1 = 0 ∨ d.2.2.1 = 1), List.all d.2.1 isByte])
  fun d hc => by
    obtain ⟨h1, hc⟩ := of_allTc hc
    obtain ⟨h2, hc⟩ := of_allTc hc
    obtain ⟨h3, _⟩ := of_allTc hc
    exact led_pure d.1 d.2.1 d.2.2.1 (of_decide_eq_true h1) (of_decide_eq_true h2) h3

set_option maxRecDepth 100000 in
theorem works_pure : PureCall Try.prog 8 [] (vB true) := EAll.closedP (by kernel_rfl)
noncomputable def EWks : Env Try.prog := ELed.addT1 8 [] (fun _ => vB true) (fun _ => []) fun _ _ => works_pure
end Go.Proofs.Ytmbekpoelkcceaa
