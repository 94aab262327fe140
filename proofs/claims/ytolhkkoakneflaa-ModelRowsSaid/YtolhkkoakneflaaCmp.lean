/- keys.Cmp: its contract; no statement. -/
import Derived.Test.YtolhkkoakneflaaCst
set_option linter.unusedVariables false
set_option linter.unusedSimpArgs false
namespace Go.Proofs.Ytolhkkoakneflaa
open Go Go.Eng

abbrev cmpB (a b : ByteArray) : Int := Lib.compareBytes a.data.toList b.data.toList
theorem cst_pure (a b : ByteArray) : PureCall Try.prog 53 [.one (.str a), .one (.str b)] (vI (cmpB a b)) :=
  ⟨⟨_, Try.func53, by kernel_rfl, by kernel_rfl⟩, fun X vs hX hv => by
    have h0 := hv.at_ (j := 0) rfl
    have h1 := hv.at_ (j := 1) rfl
    obtain ⟨x, hx, e0⟩ := h0
    obtain ⟨y, hy, e1⟩ := h1
    have e0 : x = .string a := e0
    have e1 : y = .string b := e1
    subst e0; subst e1
    have hvs : vs = [.string a, .string b] := by
      apply List.ext_getElem?
      intro i
      match i with
      | 0 => exact hx
      | 1 => exact hy
      | i + 2 =>
        have := hv.1
        rw [List.getElem?_eq_none (by simp at this; omega)]; rfl
    rw [hvs]
    exact (cst_calls a b X.w).mono fun e w' ⟨he, hw⟩ => ⟨_, X, he, hw.symm, .refl X, hX, rfl, rfl⟩⟩
noncomputable def ECst : Env Try.prog := E0.addT1 53 [.one .str, .one .str] (fun d => vI (cmpB d.1 d.2.1)) (fun _ => []) fun d _ => cst_pure d.1 d.2.1
end Go.Proofs.Ytolhkkoakneflaa
