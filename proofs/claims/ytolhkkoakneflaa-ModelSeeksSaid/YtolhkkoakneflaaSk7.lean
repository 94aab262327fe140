/- ModelSeeks: its outer loop; no statement. -/
import Derived.Test.YtolhkkoakneflaaSk6
set_option linter.unusedVariables false
set_option linter.unusedSimpArgs false
namespace Go.Proofs.Ytolhkkoakneflaa
open Go Go.Eng

noncomputable def lSb : Code := (theLoop Try.prog 5 10).getD .skip
theorem lSb_eq : theLoop Try.prog 5 10 = some lSb := by kernel_rfl
abbrev colI (k : Int) : ByteArray := ByteArray.mk #[99] ++ strOfNums [IntKind.u8.wrap k]
theorem colI_eq {n : Nat} (h : n < 256) : colI (n : Int) = colN n := by
  unfold colI colN
  rw [wrapU8 (by omega) (by omega)]
theorem sb_loop (M : MapT) {n : Int} (R : Reach M n) (f : Nat) (hf : f < 6) :
    LoopOk Try.prog lSb 83 [8] [5, 7] [vI 0] [.one (.ptr 1 0), vS (rowN f)] [.mp rP rCell true true M, .cells [.mref 0]] (.exit 2) [vX] [.mp rP rCell true true M, .cells [.mref 0]] := by
  refine LoopOk.rounds (S := Nat) ESc lSb_eq (by kernel_rfl) (fun k => [vI k]) (fun _ => [.mp rP rCell true true M, .cells [.mref 0]]) (fun k => k ≤ 3) (fun k => 3 - k) 0 (Nat.zero_le _) ?_ (fun _ _ => rfl)
  intro k hk
  by_cases hlt : k < 3
  · have d1 : decide ((k : Int) < 3) = true := decide_eq_true (by omega)
    have hc : colI k = colN k := colI_eq (by omega)
    have sz : decide ((ByteArray.mk #[99]).size + (strOfNums [IntKind.u8.wrap ((k : Nat) : Int)]).size ≤ 9223372036854775807) = true := decide_eq_true (by rw [one_size]; show 1 + 1 ≤ _; omega)
    have a1 : ok (ScOk M (rowN f) (colI k) (0, false, (ByteArray.mk #[]), (ByteArray.mk #[]), 0, ())) = true := ok_of ⟨⟨n, R⟩, ⟨f, hf, rfl⟩, ⟨k, hlt, hc⟩, rfl⟩
    have a2 : ok (SkDo M (5, rowN f, colI k, (ByteArray.mk #[]), false, (ByteArray.mk #[]), ())) = true := ok_of ⟨R.key, f, k, hf, hlt, by rw [hc]; rfl⟩
    have hw : vI (IntKind.i64.wrap ((k : Int) + 1)) = vI ((k + 1 : Nat) : Int) := by rw [wrap64 (by omega) (by omega)]; rfl
    exact OneRound.goT [true, true, false] (vs := [(.one (.int .i64 (IntKind.i64.wrap (((k : Nat) : Int) + 1))))]) (hp' := [.mp rP rCell true true M, .cells [.mref 0]]) (cs := [((!((seekV M (fIx (rowN f)) (cIx (colI k))).fst == (seekV M (fIx (rowN f)) (cIx (colI k))).fst && ((seekV M (fIx (rowN f)) (cIx (colI k))).snd.fst == (seekV M (fIx (rowN f)) (cIx (colI k))).snd.fst && ((seekV M (fIx (rowN f)) (cIx (colI k))).snd.snd.fst == (seekV M (fIx (rowN f)) (cIx (colI k))).snd.snd.fst && ((seekV M (fIx (rowN f)) (cIx (colI k))).snd.snd.snd.fst == (seekV M (fIx (rowN f)) (cIx (colI k))).snd.snd.snd.fst && ((seekV M (fIx (rowN f)) (cIx (colI k))).snd.snd.snd.snd.fst == (seekV M (fIx (rowN f)) (cIx (colI k))).snd.snd.snd.snd.fst && true)))))) == false), (ok (SkDo M (5, rowN f, colI k, (ByteArray.mk #[]), false, (ByteArray.mk #[]), ()))), (((5 : Int) == 5) == true), (decide ((3 : Int) = 3)), (ok (ScOk M (rowN f) (colI k) (0, false, (ByteArray.mk #[]), (ByteArray.mk #[]), 0, ()))), (decide ((ByteArray.mk #[99]).size + (strOfNums [IntKind.u8.wrap ((k : Nat) : Int)]).size ≤ 9223372036854775807)), (decide (((k : Nat) : Int) < 3) == true)]) (fun rest => by kernel_rfl)
      (allI (by simp only [d1, a1, a2, sz, beq_self_eq_true, baRfl, Bool.and_self, Bool.not_true]; rfl)) (k + 1) (by omega) (by omega) ⟨.of_eq hw, trivial⟩ rfl (by simp [idsLt, idsV, idsC, idsB])
  · have e : k = 3 := by omega
    subst e
    exact OneRound.stopT [false] (vs := [vI ((3 : Nat) : Int)]) (hp' := [.mp rP rCell true true M, .cells [.mref 0]]) (cs := [decide (((3 : Nat) : Int) < 3) == false]) (fun rest => by kernel_rfl) (allI rfl) (by simp) ⟨.unk, trivial⟩ rfl (by simp [idsLt, idsV, idsC, idsB])
noncomputable def ESb : Env Try.prog := ESc.addL 5 10 lSb_eq 83 [8] [5, 7] (by kernel_rfl)
  (fun vals rov hp os => match vals, rov, hp with
    | [.one (.int .i64 z)], [.one (.ptr 1 0), .one (.str low)], [.mp (.pair .str (.pair .str .unit)) (.pair .str (.pair .str (.pair (.int .u64) (.pair .bool (.pair .str .unit))))) true true M, .cells [.mref 0]] =>
      retC ((.exit 2), [vX], [.mp rP rCell true true M, .cells [.mref 0]]) [decide (z = 0), ok ((∃ n, Reach M n) ∧ ∃ f, f < 6 ∧ low = rowN f)] os
    | _, _, _ => none)
  (fun vals rov hp os e outs hp' cs os' h hc => by
    split at h
    · rename_i z low M
      simp only [retC, Option.some.injEq, Prod.mk.injEq] at h
      obtain ⟨⟨rfl, rfl, rfl⟩, rfl, rfl⟩ := h
      obtain ⟨h1, hc⟩ := of_allTc hc
      obtain ⟨h2, _⟩ := of_allTc hc
      have h1 := of_decide_eq_true h1
      subst h1
      obtain ⟨⟨n, R⟩, f, hf, rfl⟩ := of_ok h2
      exact sb_loop M R f hf
    · cases h)
end Go.Proofs.Ytolhkkoakneflaa
