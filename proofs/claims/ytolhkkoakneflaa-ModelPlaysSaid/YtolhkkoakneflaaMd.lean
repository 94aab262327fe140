/- What an operation leaves: none or two cells; no statement. -/
import Derived.Test.YtolhkkoakneflaaMf
set_option linter.unusedVariables false
set_option linter.unusedSimpArgs false
namespace Go.Proofs.Ytolhkkoakneflaa
open Go Go.Eng

def e0 (o : rOp.den) (l : List rCell.den) : rCell.den := (effV o l).2.getD 0 rCell.dflt
def e1 (o : rOp.den) (l : List rCell.den) : rCell.den := (effV o l).2.getD 1 rCell.dflt
def eN (o : rOp.den) (l : List rCell.den) : Bool := (effV o l).2.isEmpty
theorem eff_rows (o : rOp.den) (l : List rCell.den) : (effV o l).2 = [] ∨ ∃ a b, (effV o l).2 = [a, b] := by
  unfold effV
  generalize (chkV o != 0 || o.1 == 5) = b1
  cases b1 with
  | true => exact .inl rfl
  | false =>
    generalize (o.1 == 2) = b2
    cases b2 with
    | true => exact .inl rfl
    | false =>
      generalize (bif o.1 == 1 then false else bif o.1 == 3 then !hereV o l else !(hereV o l == o.2.2.2.2.1) || (o.2.2.2.2.1 && !((nsw l o.2.1 o.2.2.1).1.2.2.2.2.1 == o.2.2.2.2.2.1))) = b3
      cases b3 with
      | true => exact .inl rfl
      | false =>
        generalize decide ((nsw l o.2.1 (ByteArray.mk #[])).1.2.2.1 ≥ 1099511627776) = b4
        cases b4 with
        | true => exact .inl rfl
        | false => exact .inr ⟨_, _, rfl⟩
theorem eff_nil {o : rOp.den} {l : List rCell.den} (h : eN o l = true) : (effV o l).2 = [] := List.isEmpty_iff.1 h
theorem eff_two {o : rOp.den} {l : List rCell.den} (h : eN o l = false) : (effV o l).2 = [e0 o l, e1 o l] := by
  unfold e0 e1
  rcases eff_rows o l with e | ⟨a, b, e⟩
  · unfold eN at h; rw [e] at h; cases h
  · rw [e]; rfl
noncomputable def EMd : Env Try.prog := EMe.addT 10 [.agg rOp, .one (.sl rCell)]
  (fun d os => brL (eN d.1 d.2.1) os
    (fun os => some (effA ((effV d.1 d.2.1).1, []), [], os))
    (fun os => some (effA ((effV d.1 d.2.1).1, [e0 d.1 d.2.1, e1 d.1 d.2.1]), [], os)))
  fun d os r cs os' h hc => by
    rcases brL_some h hc with ⟨hb, o, c, h, hc⟩ | ⟨hb, o, c, h, hc⟩
    · simp only [Option.some.injEq, Prod.mk.injEq] at h
      obtain ⟨rfl, rfl, _⟩ := h
      rw [← eff_nil hb]
      exact eff_pure d.1 d.2.1
    · simp only [Option.some.injEq, Prod.mk.injEq] at h
      obtain ⟨rfl, rfl, _⟩ := h
      rw [← eff_two hb]
      exact eff_pure d.1 d.2.1
end Go.Proofs.Ytolhkkoakneflaa
