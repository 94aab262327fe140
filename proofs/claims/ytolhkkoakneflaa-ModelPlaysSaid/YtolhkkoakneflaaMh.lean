/- An operation done on a model: the contract in use; no statement. -/
import Derived.Test.YtolhkkoakneflaaMg
set_option linter.unusedVariables false
set_option linter.unusedSimpArgs false
namespace Go.Proofs.Ytolhkkoakneflaa
open Go Go.Eng

theorem un_cells : ∀ (t : CT) (cs : List AC) (v : t.den) (r : List AC), t.flat = true → t.un cs = some (v, r) → cs = t.cells v ++ r
  | .int k, cs, v, r, _, h => by
    match cs, h with
    | .int k' n :: r', h =>
      simp only [CT.un] at h
      split at h
      · rename_i e
        have e' := CT.eq_of_eqb _ _ e
        injection e' with e'
        subst e'
        simp only [Option.some.injEq, Prod.mk.injEq] at h
        obtain ⟨rfl, rfl⟩ := h
        rfl
      · cases h
  | .bool, cs, v, r, _, h => by
    match cs, h with
    | .bool b :: r', h => simp only [CT.un, Option.some.injEq, Prod.mk.injEq] at h; obtain ⟨rfl, rfl⟩ := h; rfl
  | .str, cs, v, r, _, h => by
    match cs, h with
    | .str b :: r', h => simp only [CT.un, Option.some.injEq, Prod.mk.injEq] at h; obtain ⟨rfl, rfl⟩ := h; rfl
  | .sl _, _, _, _, hf, _ => by cases hf
  | .unit, cs, v, r, _, h => by simp only [CT.un, Option.some.injEq, Prod.mk.injEq] at h; obtain ⟨_, rfl⟩ := h; rfl
  | .pair a b, cs, v, r, hf, h => by
    simp only [CT.flat, Bool.and_eq_true] at hf
    simp only [CT.un] at h
    split at h
    · rename_i x r' h1
      split at h
      · rename_i y r'' h2
        simp only [Option.some.injEq, Prod.mk.injEq] at h
        obtain ⟨rfl, rfl⟩ := h
        rw [un_cells a cs x r' hf.1 h1, un_cells b r' y r'' hf.2 h2, CT.cells, List.append_assoc]
      · cases h
    · cases h
theorem un_cells0 {t : CT} {cs : List AC} {v : t.den} (hf : t.flat = true) (h : t.un cs = some (v, [])) : cs = t.cells v := by
  have := un_cells t cs v [] hf h
  rwa [List.append_nil] at this
end Go.Proofs.Ytolhkkoakneflaa
