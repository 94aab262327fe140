/- agrees, of a log behind any base, where all is well; no statement. -/
import Derived.Test.YtmbekpoelkcceaaRci
set_option linter.unusedVariables false
set_option linter.unusedSimpArgs false
namespace Go.Proofs.Ytmbekpoelkcceaa
open Go Go.Eng

/-- What a leader sends that a log has, or has behind its base. -/
structure WellC (bi bt : Int) (x : List rEntry.den) (i t : Int) (l : List rEntry.den) : Prop where
  hb : 0 ≤ bi ∧ bi ≤ 2000
  hi : 0 ≤ i ∧ i ≤ 1000
  hx : x.length ≤ 1000
  hl : l.length ≤ 900
  fol : folW i t l = true
  at_ : bi ≤ i → termC bi bt x i = (t, true)
  low : i < bi → noneBad bi bt l
  has : ∀ k, k < l.length → eIx (l.getD k rEntry.dflt) = i + k + 1 ∧ (eIx (l.getD k rEntry.dflt) ≤ bi ∨ termC bi bt x (eIx (l.getD k rEntry.dflt)) = (eTm (l.getD k rEntry.dflt), true))
theorem agrc_heap (i t bi bt : Int) (bm : List Int) (x l : List rEntry.den) (W : WellC bi bt x i t l) :
    HeapCall Try.prog 35 [.one (.ptr 0 0), vU i, vU t, vL rEntry l] [logC bi bt bm x] (vB true) [logC bi bt bm x] := by
  have hi := W.hi; have hb := W.hb; have hx := W.hx; have hf := W.fol; have hl := W.hl
  by_cases hge : bi ≤ i
  · have q1 : decide (i ≥ bi) = true := decide_eq_true hge
    have ht := W.at_ hge
    by_cases he : i = bi
    · have q2 : (i == bi) = true := beq_iff_eq.2 he
      have q3 : (bt == t) = true := by
        unfold termC at ht
        rw [if_pos he] at ht
        exact beq_iff_eq.2 (Prod.mk.inj ht).1
      have key := EIdx.heap_trim 1 (f := 35) (args := [.one (.ptr 0 0), vU i, vU t, vL rEntry l]) (hp := [logC bi bt bm x]) (hp2 := [logC bi bt bm x]) (os := [false, true, false, false, false, false, false, false, false, true, true, true, true, true]) (r := (.one (.bool (bt == t)))) (hp' := [(.cells [(.int .u64 bi), (.int .u64 bt), (.sl (.int .i64) bm .shared), (.sl (.pair (.int .u64) (.pair (.int .u64) (.pair (.int .i64) (.pair (.pair (.int .i64) (.pair (.int .i64) (.pair (.int .u64) (.pair (.int .u64) (.pair (.pair (.int .i64) (.pair .str (.pair .str (.pair .str (.pair .bool (.pair .str .unit)))))) (.pair (.int .u64) (.pair (.int .i64) (.pair .str (.pair .str (.pair (.int .i64) (.pair (.pair .bool (.pair (.int .i64) (.pair .str (.pair (.int .i64) (.pair (.int .i64) .unit))))) .unit))))))))))) (.pair (.sl (.int .i64)) .unit))))) x .shared), (.bool true)]), (.cells [(.ptr 0 0)])]) (cs := [(true == true), (true == true), (true == true), (true == true), ((i == bi) == true), ((!true) == false), (false == false), (false == false), (false == false), (false == false), (false == false), (false == false), (decide (i ≥ bi) == true), ((!folW i t l) == false)]) (by kernel_rfl) (allI (by simp only [hf, q1, q2]; rfl)) (Nat.le_refl _) (by simp [idsV, idsC]) rfl (by simp [idsB, idsC])
      rw [q3] at key
      exact key
    · have q2 : (i == bi) = false := beq_eq_false_iff_ne.2 he
      have q3 : decide (i ≤ bi) = false := decide_eq_false (by omega)
      have w0 : IntKind.u64.wrap (i - bi) = i - bi := wrapU64 (by omega) (by omega)
      have w1 : IntKind.u64.wrap (i - bi - 1) = i - bi - 1 := wrapU64 (by omega) (by omega)
      have w2 : IntKind.i64.wrap (i - bi - 1) = i - bi - 1 := wrap64 (by omega) (by omega)
      have wl : IntKind.u64.wrap ((x.length : Nat) : Int) = ((x.length : Nat) : Int) := wrapU64 (by omega) (by omega)
      have hr : ¬ i - bi > ((x.length : Nat) : Int) := fun hc => by
        unfold termC at ht
        rw [if_neg he, if_neg (by omega), if_pos hc] at ht
        cases ht
      have q4 : decide (IntKind.u64.wrap (i - bi) > IntKind.u64.wrap ((x.length : Nat) : Int)) = false := by rw [w0, wl]; exact decide_eq_false hr
      have q5 : inB (IntKind.i64.wrap (IntKind.u64.wrap (IntKind.u64.wrap (i - bi) - 1))) x.length = true := by rw [w0, w1, w2]; exact inB_of (by omega) (by omega)
      have q6 : ((x.getD (IntKind.i64.wrap (IntKind.u64.wrap (IntKind.u64.wrap (i - bi) - 1))).toNat rEntry.dflt).snd.fst == t) = true := by
        unfold termC at ht
        rw [if_neg he, if_neg (by omega), if_neg hr] at ht
        rw [w0, w1, w2]
        exact beq_iff_eq.2 (Prod.mk.inj ht).1
      have key := EIdx.heap_trim 1 (f := 35) (args := [.one (.ptr 0 0), vU i, vU t, vL rEntry l]) (hp := [logC bi bt bm x]) (hp2 := [logC bi bt bm x]) (os := [false, true, false, false, false, false, false, false, false, false, false, false, false, false, false, false, false, false, false, false, false, false, false, false, false, false, false, true, true, true, true]) (r := (.one (.bool ((x.getD (IntKind.i64.wrap (IntKind.u64.wrap (IntKind.u64.wrap (i - bi) - 1))).toNat rEntry.dflt).snd.fst == t)))) (hp' := [(.cells [(.int .u64 bi), (.int .u64 bt), (.sl (.int .i64) bm .shared), (.sl (.pair (.int .u64) (.pair (.int .u64) (.pair (.int .i64) (.pair (.pair (.int .i64) (.pair (.int .i64) (.pair (.int .u64) (.pair (.int .u64) (.pair (.pair (.int .i64) (.pair .str (.pair .str (.pair .str (.pair .bool (.pair .str .unit)))))) (.pair (.int .u64) (.pair (.int .i64) (.pair .str (.pair .str (.pair (.int .i64) (.pair (.pair .bool (.pair (.int .i64) (.pair .str (.pair (.int .i64) (.pair (.int .i64) .unit))))) .unit))))))))))) (.pair (.sl (.int .i64)) .unit))))) x .shared), (.bool true)]), (.cells [(.ptr 0 0)])]) (cs := [(true == true), (true == true), (true == true), (true == true), (inB (IntKind.i64.wrap (IntKind.u64.wrap (IntKind.u64.wrap (i - bi) - 1))) x.length), ((!true) == false), (decide (IntKind.u64.wrap (i - bi) > IntKind.u64.wrap ((x.length : Nat) : Int)) == false), (decide (i ≤ bi) == false), (decide (i ≤ bi) == false), (decide (i ≤ bi) == false), (decide (i ≤ bi) == false), (decide (i ≤ bi) == false), (decide (i ≤ bi) == false), (decide (i ≤ bi) == false), (decide (i ≤ bi) == false), (decide (i ≤ bi) == false), (decide (i ≤ bi) == false), (decide (i ≤ bi) == false), (decide (i ≤ bi) == false), (decide (i ≤ bi) == false), (decide (i ≤ bi) == false), (decide (i ≤ bi) == false), ((i == bi) == false), ((!true) == false), (false == false), (false == false), (false == false), (false == false), (false == false), (false == false), (decide (i ≥ bi) == true), ((!folW i t l) == false)]) (by kernel_rfl) (allI (by simp only [hf, q1, q2, q3, q4, q5]; rfl)) (Nat.le_refl _) (by simp [idsV, idsC]) rfl (by simp [idsB, idsC])
      rw [q6] at key
      exact key
  · have q1 : decide (i ≥ bi) = false := decide_eq_false (by omega)
    have q2 : ok (noneBad bi bt l) = true := ok_of (W.low (by omega))
    have q3 : decide (l.length ≤ 1000) = true := decide_eq_true (by omega)
    exact EIdx.heap_trim 1 (os := [false, false]) (r := vB true) (hp' := [(.cells [(.int .u64 bi), (.int .u64 bt), (.sl (.int .i64) bm .shared), (.sl (.pair (.int .u64) (.pair (.int .u64) (.pair (.int .i64) (.pair (.pair (.int .i64) (.pair (.int .i64) (.pair (.int .u64) (.pair (.int .u64) (.pair (.pair (.int .i64) (.pair .str (.pair .str (.pair .str (.pair .bool (.pair .str .unit)))))) (.pair (.int .u64) (.pair (.int .i64) (.pair .str (.pair .str (.pair (.int .i64) (.pair (.pair .bool (.pair (.int .i64) (.pair .str (.pair (.int .i64) (.pair (.int .i64) .unit))))) .unit))))))))))) (.pair (.sl (.int .i64)) .unit))))) x .shared), (.bool true)]), (.cells [(.ptr 0 0)])]) (cs := [(decide ((0 : Int) = 0 ∧ (0 : Int) = 0 ∧ ((l.length : Nat) : Int) = ((l.length : Nat) : Int) ∧ true = true ∧ 55 = 55)), (decide (l.length ≤ 1000)), (ok (noneBad bi bt l)), (decide (i ≥ bi) == false), ((!folW i t l) == false)]) (by kernel_rfl) (allI (by simp only [hf, q1, q2, q3]; rfl)) (Nat.le_refl _) (by simp [idsV, idsC]) rfl (by simp [idsB, idsC])
noncomputable def EAgC : Env Try.prog := ESam.addHF 35 (fun args _ => match args with | .one (.ptr i 0) :: _ => [i] | _ => [])
  (fun args hp os => match args, hp with
    | [.one (.ptr 0 0), .one (.int .u64 i), .one (.int .u64 t), .one (.sl r1 l1 .shared)], [.cells [.int .u64 bi, .int .u64 bt, .sl (.int .i64) bm .shared, .sl r2 l2 .shared, .bool mk]] =>
      match asE r1 l1, asE r2 l2 with
      | some l, some x => retC (vB true, [logC bi bt bm x]) [mk, ok (WellC bi bt x i t l)] os
      | _, _ => none
    | _, _ => none)
  (fun args hp os r hp' cs os' h hc => by
    split at h
    · rename_i i t r1 l1 bi bt bm r2 l2 mk
      split at h
      · rename_i l x e1 e2
        obtain ⟨rfl, e1⟩ := asE_eq e1
        obtain ⟨rfl, e2⟩ := asE_eq e2
        subst e1; subst e2
        simp only [retC, Option.some.injEq, Prod.mk.injEq] at h
        obtain ⟨⟨rfl, rfl⟩, rfl, rfl⟩ := h
        obtain ⟨h1, hc⟩ := of_allTc hc
        obtain ⟨h2, _⟩ := of_allTc hc
        subst h1
        exact agrc_heap _ _ _ _ _ _ _ (of_ok h2)
      · cases h
    · cases h)
end Go.Proofs.Ytmbekpoelkcceaa
