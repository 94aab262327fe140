/- An operation done on a model: the contract in use; no statement. -/
import Derived.Test.YtolhkkoakneflaaMg
set_option linter.unusedVariables false
set_option linter.unusedSimpArgs false
namespace Go.Proofs.Ytolhkkoakneflaa
open Go Go.Eng

theorem un_cells : ∀ (t : CT) (cs : List AC) (v : t.den) (r : List AC), t.flat = true → t.un cs = some (v, r) → cs = t.cells v ++ r
  | .int k, cs, v, r, _, h => by
    match cs, h with
    | .int k' n :: r', h =>
      simp only [CT.un] at h
      split at h
      · rename_i e
        have e' := CT.eq_of_eqb _ _ e
        injection e' with e'
        subst e'
        simp only [Option.some.injEq, Prod.mk.injEq] at h
        obtain ⟨rfl, rfl⟩ := h
        rfl
      · cases h
  | .bool, cs, v, r, _, h => by
    match cs, h with
    | .bool b :: r', h => simp only [CT.un, Option.some.injEq, Prod.mk.injEq] at h; obtain ⟨rfl, rfl⟩ := h; rfl
  | .str, cs, v, r, _, h => by
    match cs, h with
    | .str b :: r', h => simp only [CT.un, Option.some.injEq, Prod.mk.injEq] at h; obtain ⟨rfl, rfl⟩ := h; rfl
  | .sl _, _, _, _, hf, _ => by cases hf
  | .unit, cs, v, r, _, h => by simp only [CT.un, Option.some.injEq, Prod.mk.injEq] at h; obtain ⟨_, rfl⟩ := h; rfl
  | .pair a b, cs, v, r, hf, h => by
    simp only [CT.flat, Bool.and_eq_true] at hf
    simp only [CT.un] at h
    split at h
    · rename_i x r' h1
      split at h
      · rename_i y r'' h2
        simp only [Option.some.injEq, Prod.mk.injEq] at h
        obtain ⟨rfl, rfl⟩ := h
        rw [un_cells a cs x r' hf.1 h1, un_cells b r' y r'' hf.2 h2, CT.cells, List.append_assoc]
      · cases h
    · cases h
theorem un_cells0 {t : CT} {cs : List AC} {v : t.den} (hf : t.flat = true) (h : t.un cs = some (v, [])) : cs = t.cells v := by
  have := un_cells t cs v [] hf h
  rwa [List.append_nil] at this
noncomputable def klDo : KL := fun f args H os => if Nat.beq f 18 then match args, H 0, H 1 with
    | [.one (.ptr 1 0), .agg cs], some (.mp (.pair .str (.pair .str .unit)) (.pair .str (.pair .str (.pair (.int .u64) (.pair .bool (.pair .str .unit))))) true true M), some (.cells [.mref 0]) => match rOp.un cs with
      | some (p, []) => some (.agg (rRes.cells (doR p M)), [(0, .mp rP rCell true true (doM p M))], [!(p.1 == 5)], os)
      | _ => none
    | _, _, _ => none
  else none
theorem klDo_ok : KLok Try.prog klDo := by
  refine ⟨fun f args H H' os u hh h => ?_, fun f args os v u cs os' X hX h hc vs hv => ?_⟩
  · unfold klDo at h ⊢
    split at h
    · rename_i hf
      rw [if_pos hf]
      split at h
      · rename_i a0 x0 y0 cs0 M e0 e1
        rw [hh 0 _ e0, hh 1 _ e1]
        exact h
      · cases h
    · cases h
  · unfold klDo at h
    split at h
    · rename_i hf
      simp only [Nat.beq_eq] at hf
      subst hf
      split at h
      · rename_i a0 x0 y0 cs0 M e0 e1
        split at h
        · rename_i p hp
          simp only [Option.some.injEq, Prod.mk.injEq] at h
          obtain ⟨rfl, rfl, rfl, rfl⟩ := h
          have h5 : (p.1 == 5) = false := by simpa using (of_allTc hc).1
          have ec := un_cells0 (t := rOp) rfl hp
          subst ec
          exact local_map rfl rfl (do2 p M h5) hX e0 e1 hv
        · cases h
      · cases h
    · cases h
noncomputable def EMh : Env Try.prog := (EMd.addK 18 klDo klDo_ok).addH 18
  (fun args hp os => match args, hp with
    | [.one (.ptr 1 0), .agg cs], [.mp (.pair .str (.pair .str .unit)) (.pair .str (.pair .str (.pair (.int .u64) (.pair .bool (.pair .str .unit))))) true true M, .cells [.mref 0], .cells [.int .u64 c0, .int .u64 c1, .int .u64 c2, .int .u64 c3], .cells [.str v0, .str v1, .str v2, .str v3, .str v4, .str v5, .str v6, .str v7, .str v8, .str v9, .str v10, .str v11], .cells [.int .u64 w0, .int .u64 w1, .int .u64 w2, .int .u64 w3, .int .u64 w4, .int .u64 w5, .int .u64 w6, .int .u64 w7, .int .u64 w8, .int .u64 w9, .int .u64 w10, .int .u64 w11]] => match rOp.un cs with
      | some (p, []) => retC (.agg (rRes.cells (doR p M)), [.mp (.pair .str (.pair .str .unit)) (.pair .str (.pair .str (.pair (.int .u64) (.pair .bool (.pair .str .unit))))) true true (doM p M), .cells [.mref 0], .cells [.int .u64 c0, .int .u64 c1, .int .u64 c2, .int .u64 c3], .cells [.str v0, .str v1, .str v2, .str v3, .str v4, .str v5, .str v6, .str v7, .str v8, .str v9, .str v10, .str v11], .cells [.int .u64 w0, .int .u64 w1, .int .u64 w2, .int .u64 w3, .int .u64 w4, .int .u64 w5, .int .u64 w6, .int .u64 w7, .int .u64 w8, .int .u64 w9, .int .u64 w10, .int .u64 w11]]) [!(p.1 == 5)] os
      | _ => none
    | _, _ => none)
  (fun args hp os r hp' cs os' h hc => by
    split at h
    · rename_i cs0 M c0 c1 c2 c3 v0 v1 v2 v3 v4 v5 v6 v7 v8 v9 v10 v11 w0 w1 w2 w3 w4 w5 w6 w7 w8 w9 w10 w11
      split at h
      · rename_i p h1
        simp only [retC, Option.some.injEq, Prod.mk.injEq] at h
        obtain ⟨⟨rfl, rfl⟩, rfl, rfl⟩ := h
        have h5 := (of_allTc hc).1
        rw [un_cells0 rfl h1]
        exact do5 p _ (fun k => [c0, c1, c2, c3].getD k 0) (fun k => [w0, w1, w2, w3, w4, w5, w6, w7, w8, w9, w10, w11].getD k 0) (fun k => [v0, v1, v2, v3, v4, v5, v6, v7, v8, v9, v10, v11].getD k eB) (by simpa using h5)
      · cases h
    · cases h)
end Go.Proofs.Ytolhkkoakneflaa
