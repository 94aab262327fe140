/- Put, to a log behind any base, of what it has: its loop; no statement. -/
import Derived.Test.YtmbekpoelkcceaaRca
set_option linter.unusedVariables false
set_option linter.unusedSimpArgs false
namespace Go.Proofs.Ytmbekpoelkcceaa
open Go Go.Eng

noncomputable def lPut : Code := (theLoop Try.prog 12 12).getD .skip
theorem lPut_eq : theLoop Try.prog 12 12 = some lPut := by kernel_rfl
theorem putc_loop (i t bi bt last : Int) (bm : List Int) (x l : List rEntry.den) (W : WellC bi bt x i t l) :
    LoopOk Try.prog lPut 115 [58, 8, 9, 10] [0, 3, 56, 57] [vI 0, vU last, vU 0, vB false] [.one (.ptr 0 0), vL rEntry l, vL rEntry l, vI l.length] [logC bi bt bm x] (.exit 1) [vX, vU last, vU 0, vB false] [logC bi bt bm x] := by
  have hb := W.hb; have hi := W.hi; have hx := W.hx; have hl := W.hl
  refine LoopOk.rounds (S := Nat) ESam lPut_eq (by kernel_rfl) (fun k => [vI k, vU last, vU 0, vB false]) (fun _ => [logC bi bt bm x]) (fun k => k ≤ l.length) (fun k => l.length - k) 0 (Nat.zero_le _) ?_ (fun _ _ => rfl)
  intro k hk
  by_cases hlt : k < l.length
  · have hin : inB (k : Int) l.length = true := inB_of (by omega) (by omega)
    have dk : decide ((k : Int) < ((l.length : Nat) : Int)) = true := decide_eq_true (by omega)
    have hw : vI (IntKind.i64.wrap ((k : Int) + 1)) = vI ((k + 1 : Nat) : Int) := by rw [wrap64 (by omega) (by omega)]; rfl
    obtain ⟨hix, hh⟩ := W.has k hlt
    have hix : (l.getD k rEntry.dflt).fst = i + k + 1 := hix
    have hh : (l.getD k rEntry.dflt).fst ≤ bi ∨ termC bi bt x (l.getD k rEntry.dflt).fst = ((l.getD k rEntry.dflt).snd.fst, true) := hh
    by_cases hle : (l.getD k rEntry.dflt).fst ≤ bi
    · have d1 : decide ((l.getD k rEntry.dflt).fst ≤ bi) = true := decide_eq_true hle
      exact OneRound.goT [true, true] (vs := [vI (IntKind.i64.wrap (k + 1)), vU last, vU 0, vB false]) (hp' := [logC bi bt bm x]) (cs := [(decide ((l.getD k rEntry.dflt).fst ≤ bi) == true), (inB (((k : Nat) : Int)) l.length), (decide (((k : Nat) : Int) < ((l.length : Nat) : Int)) == true)]) (fun rest => by kernel_rfl)
          (allI (by simp only [dk, hin, d1]; rfl)) (k + 1) hlt (by omega) ⟨.of_eq hw, .refl, .refl, .refl, trivial⟩ rfl (by simp [idsLt, idsV, idsC, idsB])
    · have d1 : decide ((l.getD k rEntry.dflt).fst ≤ bi) = false := decide_eq_false hle
      have ht := hh.resolve_left hle
      obtain ⟨E, hE⟩ : ∃ E : Int, (l.getD k rEntry.dflt).fst = E := ⟨_, rfl⟩
      have hE' : E = i + k + 1 := hE.symm.trans hix
      have hnle : ¬ E ≤ bi := fun hc => hle (by rw [hE]; exact hc)
      have d2 : (E == bi) = false := beq_eq_false_iff_ne.2 (by omega)
      rw [hE] at ht d1
      have w0 : IntKind.u64.wrap (E - bi) = E - bi := wrapU64 (by omega) (by omega)
      have w1 : IntKind.u64.wrap (E - bi - 1) = E - bi - 1 := wrapU64 (by omega) (by omega)
      have w2 : IntKind.i64.wrap (E - bi - 1) = E - bi - 1 := wrap64 (by omega) (by omega)
      have wl : IntKind.u64.wrap ((x.length : Nat) : Int) = ((x.length : Nat) : Int) := wrapU64 (by omega) (by omega)
      have hne : ¬ E = bi := by omega
      have hr : ¬ E - bi > ((x.length : Nat) : Int) := fun hc => by
        unfold termC at ht
        rw [if_neg hne, if_neg hnle, if_pos hc] at ht
        exact Bool.false_ne_true (Prod.mk.inj ht).2
      have d3 : decide (IntKind.u64.wrap (E - bi) > IntKind.u64.wrap ((x.length : Nat) : Int)) = false := by rw [w0, wl]; exact decide_eq_false hr
      have d4 : inB (IntKind.i64.wrap (IntKind.u64.wrap (IntKind.u64.wrap (E - bi) - 1))) x.length = true := by rw [w0, w1, w2]; exact inB_of (by omega) (by omega)
      have d5 : ((x.getD (IntKind.i64.wrap (IntKind.u64.wrap (IntKind.u64.wrap (E - bi) - 1))).toNat rEntry.dflt).snd.fst == (l.getD k rEntry.dflt).snd.fst) = true := by
        unfold termC at ht
        rw [if_neg hne, if_neg hnle, if_neg hr] at ht
        rw [w0, w1, w2]
        exact beq_iff_eq.2 (Prod.mk.inj ht).1
      subst hE
      exact OneRound.goT [true, false, false, false, false, false, false, false, false, false, false, false, false, false, false, false, false, false, false, false, false, false, false, false, false, false, false, true, true, true, true, true, true] (vs := [vI (IntKind.i64.wrap (k + 1)), vU last, vU 0, vB false]) (hp' := [logC bi bt bm x]) (cs := [(((x.getD (IntKind.i64.wrap (IntKind.u64.wrap (IntKind.u64.wrap ((l.getD k rEntry.dflt).fst - bi) - 1))).toNat rEntry.dflt).snd.fst == (l.getD k rEntry.dflt).snd.fst) == true), (true == true), (true == true), (true == true), (true == true), (true == true), (inB (IntKind.i64.wrap (IntKind.u64.wrap (IntKind.u64.wrap ((l.getD k rEntry.dflt).fst - bi) - 1))) x.length), ((!true) == false), (decide (IntKind.u64.wrap ((l.getD k rEntry.dflt).fst - bi) > IntKind.u64.wrap ((x.length : Nat) : Int)) == false), (decide ((l.getD k rEntry.dflt).fst ≤ bi) == false), (decide ((l.getD k rEntry.dflt).fst ≤ bi) == false), (decide ((l.getD k rEntry.dflt).fst ≤ bi) == false), (decide ((l.getD k rEntry.dflt).fst ≤ bi) == false), (decide ((l.getD k rEntry.dflt).fst ≤ bi) == false), (decide ((l.getD k rEntry.dflt).fst ≤ bi) == false), (decide ((l.getD k rEntry.dflt).fst ≤ bi) == false), (decide ((l.getD k rEntry.dflt).fst ≤ bi) == false), (decide ((l.getD k rEntry.dflt).fst ≤ bi) == false), (decide ((l.getD k rEntry.dflt).fst ≤ bi) == false), (decide ((l.getD k rEntry.dflt).fst ≤ bi) == false), (decide ((l.getD k rEntry.dflt).fst ≤ bi) == false), (decide ((l.getD k rEntry.dflt).fst ≤ bi) == false), (decide ((l.getD k rEntry.dflt).fst ≤ bi) == false), (decide ((l.getD k rEntry.dflt).fst ≤ bi) == false), (((l.getD k rEntry.dflt).fst == bi) == false), ((!true) == false), (false == false), (false == false), (false == false), (false == false), (false == false), (false == false), (decide ((l.getD k rEntry.dflt).fst ≤ bi) == false), (inB (((k : Nat) : Int)) l.length), (decide (((k : Nat) : Int) < ((l.length : Nat) : Int)) == true)]) (fun rest => by kernel_rfl)
          (allI (by simp only [dk, hin, d1, d2, d3, d4, d5]; rfl)) (k + 1) hlt (by omega) ⟨.of_eq hw, .refl, .refl, .refl, trivial⟩ rfl (by simp [idsLt, idsV, idsC, idsB])
  · have dk : decide ((k : Int) < ((l.length : Nat) : Int)) = false := decide_eq_false (by omega)
    exact OneRound.stopT [false] (vs := [vI k, vU last, vU 0, vB false]) (hp' := [logC bi bt bm x]) (cs := [(decide (((k : Nat) : Int) < ((l.length : Nat) : Int)) == false)]) (fun rest => by kernel_rfl) (allI (by simp only [dk]; rfl)) (by simp) ⟨.unk, .refl, .refl, .refl, trivial⟩ rfl (by simp [idsLt, idsV, idsC, idsB])
noncomputable def EPlC : Env Try.prog := EAgC.addL 12 12 lPut_eq 115 [58, 8, 9, 10] [0, 3, 56, 57] (by kernel_rfl)
  (fun vals rov hp os => match vals, rov, hp with
    | [.one (.int .i64 z), .one (.int .u64 last), .one (.int .u64 fr), .one (.bool b)], [.one (.ptr 0 0), .one (.sl r1 l1 .shared), .one (.sl r2 l2 .shared), .one (.int .i64 n)], [.cells [.int .u64 bi, .int .u64 bt, .sl (.int .i64) bm .shared, .sl r3 x3 .shared, .bool mk]] =>
      match asE r1 l1, asE r2 l2, asE r3 x3 with
      | some l, some m, some x => retC (.exit 1, [vX, vU last, vU 0, vB false], [logC bi bt bm x]) [decide (z = 0 ∧ fr = 0 ∧ b = false ∧ n = l.length ∧ mk = true), ok (l = m ∧ ∃ i t, WellC bi bt x i t l)] os
      | _, _, _ => none
    | _, _, _ => none)
  (fun vals rov hp os e outs hp' cs os' h hc => by
    split at h
    · rename_i z last fr b r1 l1 r2 l2 n bi bt bm r3 x3 mk
      split at h
      · rename_i l m x e1 e2 e3
        obtain ⟨rfl, e1⟩ := asE_eq e1
        obtain ⟨rfl, e2⟩ := asE_eq e2
        obtain ⟨rfl, e3⟩ := asE_eq e3
        subst e1; subst e2; subst e3
        simp only [retC, Option.some.injEq, Prod.mk.injEq] at h
        obtain ⟨⟨rfl, rfl, rfl⟩, rfl, rfl⟩ := h
        obtain ⟨h1, hc⟩ := of_allTc hc
        obtain ⟨h2, _⟩ := of_allTc hc
        obtain ⟨rfl, rfl, rfl, rfl, rfl⟩ := of_decide_eq_true h1
        obtain ⟨rfl, i, t, W⟩ := of_ok h2
        exact putc_loop i t _ _ _ _ _ _ W
      · cases h
    · cases h)
end Go.Proofs.Ytmbekpoelkcceaa
