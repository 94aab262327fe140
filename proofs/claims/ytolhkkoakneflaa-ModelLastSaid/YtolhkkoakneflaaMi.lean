/- An operation done on a model: the contract in use; no statement. -/
import Derived.Test.YtolhkkoakneflaaMg
set_option linter.unusedVariables false
set_option linter.unusedSimpArgs false
namespace Go.Proofs.Ytolhkkoakneflaa
open Go Go.Eng

theorem un_cells : ∀ (t : CT) (cs : List AC) (v : t.den) (r : List AC), t.flat = true → t.un cs = some (v, r) → cs = t.cells v ++ r
  | .int k, cs, v, r, _, h => by
    match cs, h with
    | .int k' n :: r', h =>
      simp only [CT.un] at h
      split at h
      · rename_i e
        have e' := CT.eq_of_eqb _ _ e
        injection e' with e'
        subst e'
        simp only [Option.some.injEq, Prod.mk.injEq] at h
        obtain ⟨rfl, rfl⟩ := h
        rfl
      · cases h
  | .bool, cs, v, r, _, h => by
    match cs, h with
    | .bool b :: r', h => simp only [CT.un, Option.some.injEq, Prod.mk.injEq] at h; obtain ⟨rfl, rfl⟩ := h; rfl
  | .str, cs, v, r, _, h => by
    match cs, h with
    | .str b :: r', h => simp only [CT.un, Option.some.injEq, Prod.mk.injEq] at h; obtain ⟨rfl, rfl⟩ := h; rfl
  | .sl _, _, _, _, hf, _ => by cases hf
  | .unit, cs, v, r, _, h => by simp only [CT.un, Option.some.injEq, Prod.mk.injEq] at h; obtain ⟨_, rfl⟩ := h; rfl
  | .pair a b, cs, v, r, hf, h => by
    simp only [CT.flat, Bool.and_eq_true] at hf
    simp only [CT.un] at h
    split at h
    · rename_i x r' h1
      split at h
      · rename_i y r'' h2
        simp only [Option.some.injEq, Prod.mk.injEq] at h
        obtain ⟨rfl, rfl⟩ := h
        rw [un_cells a cs x r' hf.1 h1, un_cells b r' y r'' hf.2 h2, CT.cells, List.append_assoc]
      · cases h
    · cases h
theorem un_cells0 {t : CT} {cs : List AC} {v : t.den} (hf : t.flat = true) (h : t.un cs = some (v, [])) : cs = t.cells v := by
  have := un_cells t cs v [] hf h
  rwa [List.append_nil] at this
noncomputable def klDo : KL := fun f args H os => if Nat.beq f 18 then match args, H 0, H 1 with
    | [.one (.ptr 1 0), .agg cs], some (.mp (.pair .str (.pair .str .unit)) (.pair .str (.pair .str (.pair (.int .u64) (.pair .bool (.pair .str .unit))))) true true M), some (.cells [.mref 0]) => match rOp.un cs with
      | some (p, []) => some (.agg (rRes.cells (doR p M)), [(0, .mp rP rCell true true (doM p M))], [!(p.1 == 5)], os)
      | _ => none
    | _, _, _ => none
  else none
theorem klDo_ok : KLok Try.prog klDo := by
  refine ⟨fun f args H H' os u hh h => ?_, fun f args os v u cs os' X hX h hc vs hv => ?_⟩
  · unfold klDo at h ⊢
    split at h
    · rename_i hf
      rw [if_pos hf]
      split at h
      · rename_i a0 x0 y0 cs0 M e0 e1
        rw [hh 0 _ e0, hh 1 _ e1]
        exact h
      · cases h
    · cases h
  · unfold klDo at h
    split at h
    · rename_i hf
      simp only [Nat.beq_eq] at hf
      subst hf
      split at h
      · rename_i a0 x0 y0 cs0 M e0 e1
        split at h
        · rename_i p hp
          simp only [Option.some.injEq, Prod.mk.injEq] at h
          obtain ⟨rfl, rfl, rfl, rfl⟩ := h
          have h5 : (p.1 == 5) = false := by simpa using (of_allTc hc).1
          have ec := un_cells0 (t := rOp) rfl hp
          subst ec
          exact local_map rfl rfl (do2 p M h5) hX e0 e1 hv
        · cases h
      · cases h
    · cases h
noncomputable def EMh : Env Try.prog := (EMd.addK 18 klDo klDo_ok).addH 18
  (fun args hp os => match args, hp with
    | [.one (.ptr 1 0), .agg cs], [.mp (.pair .str (.pair .str .unit)) (.pair .str (.pair .str (.pair (.int .u64) (.pair .bool (.pair .str .unit))))) true true M, .cells [.mref 0], .cells [.int .u64 c0, .int .u64 c1, .int .u64 c2, .int .u64 c3], .cells [.str v0, .str v1, .str v2, .str v3, .str v4, .str v5, .str v6, .str v7, .str v8, .str v9, .str v10, .str v11], .cells [.int .u64 w0, .int .u64 w1, .int .u64 w2, .int .u64 w3, .int .u64 w4, .int .u64 w5, .int .u64 w6, .int .u64 w7, .int .u64 w8, .int .u64 w9, .int .u64 w10, .int .u64 w11]] => match rOp.un cs with
      | some (p, []) => retC (.agg (rRes.cells (doR p M)), [.mp (.pair .str (.pair .str .unit)) (.pair .str (.pair .str (.pair (.int .u64) (.pair .bool (.pair .str .unit))))) true true (doM p M), .cells [.mref 0], .cells [.int .u64 c0, .int .u64 c1, .int .u64 c2, .int .u64 c3], .cells [.str v0, .str v1, .str v2, .str v3, .str v4, .str v5, .str v6, .str v7, .str v8, .str v9, .str v10, .str v11], .cells [.int .u64 w0, .int .u64 w1, .int .u64 w2, .int .u64 w3, .int .u64 w4, .int .u64 w5, .int .u64 w6, .int .u64 w7, .int .u64 w8, .int .u64 w9, .int .u64 w10, .int .u64 w11]]) [!(p.1 == 5)] os
      | _ => none
    | _, _ => none)
  (fun args hp os r hp' cs os' h hc => by
    split at h
    · rename_i cs0 M c0 c1 c2 c3 v0 v1 v2 v3 v4 v5 v6 v7 v8 v9 v10 v11 w0 w1 w2 w3 w4 w5 w6 w7 w8 w9 w10 w11
      split at h
      · rename_i p h1
        simp only [retC, Option.some.injEq, Prod.mk.injEq] at h
        obtain ⟨⟨rfl, rfl⟩, rfl, rfl⟩ := h
        have h5 := (of_allTc hc).1
        rw [un_cells0 rfl h1]
        exact do5 p _ (fun k => [c0, c1, c2, c3].getD k 0) (fun k => [w0, w1, w2, w3, w4, w5, w6, w7, w8, w9, w10, w11].getD k 0) (fun k => [v0, v1, v2, v3, v4, v5, v6, v7, v8, v9, v10, v11].getD k eB) (by simpa using h5)
      · cases h
    · cases h)
open Go Go.Eng

abbrev rAct : CT := .pair cB (.pair cB (.pair cB (.pair cB (.pair cB (.pair .bool .unit)))))
def kV (a : rAct.den) : Int := IntKind.i64.wrap (1 + IntKind.i64.wrap (Int.tmod a.1 4))
def rwS (r : Int) : ByteArray := ByteArray.mk #[114] ++ strOfNums [Int.tmod r 4]
def clS (c : Int) : ByteArray := ByteArray.mk #[99] ++ strOfNums [Int.tmod c 3]
def ofV (a : rAct.den) : rOp.den := (kV a, rwS a.2.1, clS a.2.2.1, bif kV a == 1 then strOfNums [Int.tmod a.2.2.2.1 3] else bif kV a == 4 then strOfNums [Int.tmod a.2.2.2.1 3] else ByteArray.mk #[], bif kV a == 4 then a.2.2.2.2.2.1 else false, bif kV a == 4 then (bif a.2.2.2.2.2.1 then strOfNums [Int.tmod a.2.2.2.2.1 3] else ByteArray.mk #[]) else ByteArray.mk #[], ())
theorem one_size (n : Int) : (strOfNums [n]).size = 1 := by simp [strOfNums, ByteArray.size]
theorem of_pure (a : rAct.den) : PureCall Try.prog 17 [.agg (rAct.cells a)] (.agg (rOp.cells (ofV a))) := by
  have z1 : decide ((ByteArray.mk #[99]).size + (strOfNums [Int.tmod a.2.2.1 3]).size ≤ 9223372036854775807) = true := decide_eq_true (by rw [one_size]; show 1 + 1 ≤ _; omega)
  have z2 : decide ((ByteArray.mk #[114]).size + (strOfNums [Int.tmod a.2.1 4]).size ≤ 9223372036854775807) = true := decide_eq_true (by rw [one_size]; show 1 + 1 ≤ _; omega)
  cases h1 : (kV a == 1 : Bool) with
  | true =>
    cases h2 : (kV a == 4 : Bool) with
    | true =>
      cases h3 : (a.snd.snd.snd.snd.snd.fst : Bool) with
      | true =>
        exact PureCall.res (EMh.pure_ok (os := [true, true, true, true, true, true, true, true, true]) (r := (.agg [(.int .i64 (kV a)), (.str ((ByteArray.mk #[114]) ++ strOfNums [Int.tmod a.snd.fst 4])), (.str ((ByteArray.mk #[99]) ++ strOfNums [Int.tmod a.snd.snd.fst 3])), (.str (strOfNums [Int.tmod a.snd.snd.snd.fst 3])), (.bool true), (.str (strOfNums [Int.tmod a.snd.snd.snd.snd.fst 3]))])) (cs := [a.snd.snd.snd.snd.snd.fst == true, (kV a == 4) == true, (kV a == 4) == true, (kV a == 4) == true, true == true, (kV a == 1) == true, (kV a == 1) == true, (kV a == 1) == true, (kV a == 1) == true, decide ((ByteArray.mk #[99]).size + (strOfNums [Int.tmod a.snd.snd.fst 3]).size ≤ 9223372036854775807), decide ((ByteArray.mk #[114]).size + (strOfNums [Int.tmod a.snd.fst 4]).size ≤ 9223372036854775807)]) (by kernel_rfl) (allI (by simp only [z1, z2, h1, h2, h3]; rfl))) (by simp only [ofV, h1, h2, h3]; rfl)
      | false =>
        exact PureCall.res (EMh.pure_ok (os := [true, true, true, true, true, true, true, true, false]) (r := (.agg [(.int .i64 (kV a)), (.str ((ByteArray.mk #[114]) ++ strOfNums [Int.tmod a.snd.fst 4])), (.str ((ByteArray.mk #[99]) ++ strOfNums [Int.tmod a.snd.snd.fst 3])), (.str (strOfNums [Int.tmod a.snd.snd.snd.fst 3])), (.bool false), (.str ((ByteArray.mk #[])))])) (cs := [a.snd.snd.snd.snd.snd.fst == false, (kV a == 4) == true, (kV a == 4) == true, (kV a == 4) == true, true == true, (kV a == 1) == true, (kV a == 1) == true, (kV a == 1) == true, (kV a == 1) == true, decide ((ByteArray.mk #[99]).size + (strOfNums [Int.tmod a.snd.snd.fst 3]).size ≤ 9223372036854775807), decide ((ByteArray.mk #[114]).size + (strOfNums [Int.tmod a.snd.fst 4]).size ≤ 9223372036854775807)]) (by kernel_rfl) (allI (by simp only [z1, z2, h1, h2, h3]; rfl))) (by simp only [ofV, h1, h2, h3]; rfl)
    | false =>
      exact PureCall.res (EMh.pure_ok (os := [true, true, true, true, true, false, false, false, false]) (r := (.agg [(.int .i64 (kV a)), (.str ((ByteArray.mk #[114]) ++ strOfNums [Int.tmod a.snd.fst 4])), (.str ((ByteArray.mk #[99]) ++ strOfNums [Int.tmod a.snd.snd.fst 3])), (.str (strOfNums [Int.tmod a.snd.snd.snd.fst 3])), (.bool false), (.str ((ByteArray.mk #[])))])) (cs := [false == false, (kV a == 4) == false, (kV a == 4) == false, (kV a == 4) == false, true == true, (kV a == 1) == true, (kV a == 1) == true, (kV a == 1) == true, (kV a == 1) == true, decide ((ByteArray.mk #[99]).size + (strOfNums [Int.tmod a.snd.snd.fst 3]).size ≤ 9223372036854775807), decide ((ByteArray.mk #[114]).size + (strOfNums [Int.tmod a.snd.fst 4]).size ≤ 9223372036854775807)]) (by kernel_rfl) (allI (by simp only [z1, z2, h1, h2]; rfl))) (by simp only [ofV, h1, h2]; rfl)
  | false =>
    cases h4 : (kV a == 4 : Bool) with
    | true =>
      cases h5 : (a.snd.snd.snd.snd.snd.fst : Bool) with
      | true =>
        exact PureCall.res (EMh.pure_ok (os := [false, false, false, false, true, true, true, true, true]) (r := (.agg [(.int .i64 (kV a)), (.str ((ByteArray.mk #[114]) ++ strOfNums [Int.tmod a.snd.fst 4])), (.str ((ByteArray.mk #[99]) ++ strOfNums [Int.tmod a.snd.snd.fst 3])), (.str (strOfNums [Int.tmod a.snd.snd.snd.fst 3])), (.bool true), (.str (strOfNums [Int.tmod a.snd.snd.snd.snd.fst 3]))])) (cs := [a.snd.snd.snd.snd.snd.fst == true, (kV a == 4) == true, (kV a == 4) == true, (kV a == 4) == true, (kV a == 4) == true, (kV a == 1) == false, (kV a == 1) == false, (kV a == 1) == false, (kV a == 1) == false, decide ((ByteArray.mk #[99]).size + (strOfNums [Int.tmod a.snd.snd.fst 3]).size ≤ 9223372036854775807), decide ((ByteArray.mk #[114]).size + (strOfNums [Int.tmod a.snd.fst 4]).size ≤ 9223372036854775807)]) (by kernel_rfl) (allI (by simp only [z1, z2, h1, h4, h5]; rfl))) (by simp only [ofV, h1, h4, h5]; rfl)
      | false =>
        exact PureCall.res (EMh.pure_ok (os := [false, false, false, false, true, true, true, true, false]) (r := (.agg [(.int .i64 (kV a)), (.str ((ByteArray.mk #[114]) ++ strOfNums [Int.tmod a.snd.fst 4])), (.str ((ByteArray.mk #[99]) ++ strOfNums [Int.tmod a.snd.snd.fst 3])), (.str (strOfNums [Int.tmod a.snd.snd.snd.fst 3])), (.bool false), (.str ((ByteArray.mk #[])))])) (cs := [a.snd.snd.snd.snd.snd.fst == false, (kV a == 4) == true, (kV a == 4) == true, (kV a == 4) == true, (kV a == 4) == true, (kV a == 1) == false, (kV a == 1) == false, (kV a == 1) == false, (kV a == 1) == false, decide ((ByteArray.mk #[99]).size + (strOfNums [Int.tmod a.snd.snd.fst 3]).size ≤ 9223372036854775807), decide ((ByteArray.mk #[114]).size + (strOfNums [Int.tmod a.snd.fst 4]).size ≤ 9223372036854775807)]) (by kernel_rfl) (allI (by simp only [z1, z2, h1, h4, h5]; rfl))) (by simp only [ofV, h1, h4, h5]; rfl)
    | false =>
      exact PureCall.res (EMh.pure_ok (os := [false, false, false, false, false, false, false, false, false]) (r := (.agg [(.int .i64 (kV a)), (.str ((ByteArray.mk #[114]) ++ strOfNums [Int.tmod a.snd.fst 4])), (.str ((ByteArray.mk #[99]) ++ strOfNums [Int.tmod a.snd.snd.fst 3])), (.str ((ByteArray.mk #[]))), (.bool false), (.str ((ByteArray.mk #[])))])) (cs := [false == false, (kV a == 4) == false, (kV a == 4) == false, (kV a == 4) == false, (kV a == 4) == false, (kV a == 1) == false, (kV a == 1) == false, (kV a == 1) == false, (kV a == 1) == false, decide ((ByteArray.mk #[99]).size + (strOfNums [Int.tmod a.snd.snd.fst 3]).size ≤ 9223372036854775807), decide ((ByteArray.mk #[114]).size + (strOfNums [Int.tmod a.snd.fst 4]).size ≤ 9223372036854775807)]) (by kernel_rfl) (allI (by simp only [z1, z2, h1, h4]; rfl))) (by simp only [ofV, h1, h4]; rfl)
noncomputable def EMi : Env Try.prog := EMh.addT1 17 [.agg rAct] (fun d => .agg (rOp.cells (ofV d.1))) (fun _ => []) fun d _ => of_pure d.1
end Go.Proofs.Ytolhkkoakneflaa
