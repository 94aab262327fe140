/- Slice, of a log behind any base: its contract; no statement. -/
import Derived.Test.YtmbekpoelkcceaaRcm
set_option linter.unusedVariables false
set_option linter.unusedSimpArgs false
namespace Go.Proofs.Ytmbekpoelkcceaa
open Go Go.Eng

theorem HeapCall.resw {P : Program} {f : Nat} {args : List AV} {hp : List AB} {r r' : AV} {hp' : List AB} (h : HeapCall P f args hp r hp') (hw : ∀ X v, HRel X → VR X r v → VR X r' v) : HeapCall P f args hp r' hp' :=
  ⟨h.1, fun X vs hX hH hv => (h.2 X vs hX hH hv).mono fun e w' ⟨val, X', h1, h2, h3, h4, h5, h6⟩ => ⟨val, X', h1, h2, h3, h4, h5, hw X' val h4 h6⟩⟩
theorem nils_sh {X : Ctx} {row : CT} {v : Value} (h : VR X (.one .nils) v) : VR X (.one (.sl row [] .shared)) v :=
  ⟨none, 0, 0, h, rfl, Nat.le_refl _, Nat.zero_le _, .inl rfl, trivial⟩
theorem full_sh {X : Ctx} {row : CT} {l : List row.den} {m : SM} {v : Value} (h : VR X (.one (.sl row l m)) v) : VR X (.one (.sl row l .shared)) v := by
  obtain ⟨A, n, cap, h1, h2, h3, h4, h5, _⟩ := h
  exact ⟨A, n, cap, h1, h2, h3, h4, h5, trivial⟩

/-- Some entries from an index on. -/
def slcC (bi : Int) (x : List rEntry.den) (a b : Int) : List rEntry.den := if b < 1 ∨ a ≤ bi ∨ a - bi > x.length then [] else (x.drop ((a - bi).toNat - 1)).take b.toNat

theorem slcc_heap (a b bi bt : Int) (bm : List Int) (x : List rEntry.den) (hbi : 0 ≤ bi ∧ bi ≤ 2000) (ha : 0 ≤ a ∧ a ≤ 2000) (hb : 0 ≤ b ∧ b ≤ 2000) (hx : x.length ≤ 1000) (he : x.all entFits = true) :
    HeapCall Try.prog 14 [.one (.ptr 0 0), vU a, vI b] [logC bi bt bm x] (vL rEntry (slcC bi x a b)) [logC bi bt bm x] := by
  have wl : IntKind.u64.wrap ((x.length : Nat) : Int) = ((x.length : Nat) : Int) := wrapU64 (by omega) (by omega)
  by_cases h1 : b < 1
  · have d1 : decide (b < 1) = true := decide_eq_true h1
    have e : slcC bi x a b = [] := if_pos (.inl h1)
    rw [e]
    exact HeapCall.resw (r := .one .nils) (EMem.heap_trim 1 (os := [false, false, false, false, false, false, false, false, false, true]) (r := (.one .nils)) (hp' := [(.cells [(.int .u64 bi), (.int .u64 bt), (.sl (.int .i64) bm .shared), (.sl (.pair (.int .u64) (.pair (.int .u64) (.pair (.int .i64) (.pair (.pair (.int .i64) (.pair (.int .i64) (.pair (.int .u64) (.pair (.int .u64) (.pair (.pair (.int .i64) (.pair .str (.pair .str (.pair .str (.pair .bool (.pair .str .unit)))))) (.pair (.int .u64) (.pair (.int .i64) (.pair .str (.pair .str (.pair (.int .i64) (.pair (.pair .bool (.pair (.int .i64) (.pair .str (.pair (.int .i64) (.pair (.int .i64) .unit))))) .unit))))))))))) (.pair (.sl (.int .i64)) .unit))))) x .shared), (.bool true)])]) (cs := [(decide (b < 1) == true), ((!true) == false), ((!true) == false), ((!true) == false), (false == false), (false == false), (false == false), (false == false), (false == false), (false == false)]) (by kernel_rfl) (allI (by simp only [d1]; rfl)) (Nat.le_refl _) (by simp [idsV, idsC]) rfl (by simp [idsB, idsC])) fun X v _ h => nils_sh h
  · have d1 : decide (b < 1) = false := decide_eq_false h1
    by_cases h2 : a ≤ bi
    · have d2 : decide (a ≤ bi) = true := decide_eq_true h2
      have e : slcC bi x a b = [] := if_pos (.inr (.inl h2))
      rw [e]
      exact HeapCall.resw (r := .one .nils) (EMem.heap_trim 1 (os := [false, false, false, false, false, false, false, false, false, false, true, true, true, true, true, true, true, true, true, true, true, true, true, true, true, true, true]) (r := (.one .nils)) (hp' := [(.cells [(.int .u64 bi), (.int .u64 bt), (.sl (.int .i64) bm .shared), (.sl (.pair (.int .u64) (.pair (.int .u64) (.pair (.int .i64) (.pair (.pair (.int .i64) (.pair (.int .i64) (.pair (.int .u64) (.pair (.int .u64) (.pair (.pair (.int .i64) (.pair .str (.pair .str (.pair .str (.pair .bool (.pair .str .unit)))))) (.pair (.int .u64) (.pair (.int .i64) (.pair .str (.pair .str (.pair (.int .i64) (.pair (.pair .bool (.pair (.int .i64) (.pair .str (.pair (.int .i64) (.pair (.int .i64) .unit))))) .unit))))))))))) (.pair (.sl (.int .i64)) .unit))))) x .shared), (.bool true)])]) (cs := [((!false) == true), (true == true), (decide (a ≤ bi) == true), (decide (a ≤ bi) == true), (decide (a ≤ bi) == true), (decide (a ≤ bi) == true), (decide (a ≤ bi) == true), (decide (a ≤ bi) == true), (decide (a ≤ bi) == true), (decide (a ≤ bi) == true), (decide (a ≤ bi) == true), (decide (a ≤ bi) == true), (decide (a ≤ bi) == true), (decide (a ≤ bi) == true), (decide (a ≤ bi) == true), (decide (a ≤ bi) == true), (decide (a ≤ bi) == true), (decide (b < 1) == false), ((!true) == false), ((!true) == false), ((!true) == false), (false == false), (false == false), (false == false), (false == false), (false == false), (false == false)]) (by kernel_rfl) (allI (by simp only [d1, d2]; rfl)) (Nat.le_refl _) (by simp [idsV, idsC]) rfl (by simp [idsB, idsC])) fun X v _ h => nils_sh h
    · have d2 : decide (a ≤ bi) = false := decide_eq_false h2
      have w0 : IntKind.u64.wrap (a - bi) = a - bi := wrapU64 (by omega) (by omega)
      by_cases h3 : a - bi > ((x.length : Nat) : Int)
      · have d3 : decide (a - bi > ((x.length : Nat) : Int)) = true := decide_eq_true h3
        have e : slcC bi x a b = [] := if_pos (.inr (.inr h3))
        rw [e]
        exact HeapCall.resw (r := .one .nils) (EMem.heap_trim 1 (os := [false, false, false, false, false, false, false, false, false, false, false, false, false, false, false, false, false, false, false, false, false, false, false, false, false, true, true]) (r := (.one .nils)) (hp' := [(.cells [(.int .u64 bi), (.int .u64 bt), (.sl (.int .i64) bm .shared), (.sl (.pair (.int .u64) (.pair (.int .u64) (.pair (.int .i64) (.pair (.pair (.int .i64) (.pair (.int .i64) (.pair (.int .u64) (.pair (.int .u64) (.pair (.pair (.int .i64) (.pair .str (.pair .str (.pair .str (.pair .bool (.pair .str .unit)))))) (.pair (.int .u64) (.pair (.int .i64) (.pair .str (.pair .str (.pair (.int .i64) (.pair (.pair .bool (.pair (.int .i64) (.pair .str (.pair (.int .i64) (.pair (.int .i64) .unit))))) .unit))))))))))) (.pair (.sl (.int .i64)) .unit))))) x .shared), (.bool true)])]) (cs := [((!false) == true), (decide (IntKind.u64.wrap (a - bi) > IntKind.u64.wrap ((x.length : Nat) : Int)) == true), (decide (a ≤ bi) == false), (decide (a ≤ bi) == false), (decide (a ≤ bi) == false), (decide (a ≤ bi) == false), (decide (a ≤ bi) == false), (decide (a ≤ bi) == false), (decide (a ≤ bi) == false), (decide (a ≤ bi) == false), (decide (a ≤ bi) == false), (decide (a ≤ bi) == false), (decide (a ≤ bi) == false), (decide (a ≤ bi) == false), (decide (a ≤ bi) == false), (decide (a ≤ bi) == false), (decide (a ≤ bi) == false), (decide (b < 1) == false), ((!true) == false), ((!true) == false), ((!true) == false), (false == false), (false == false), (false == false), (false == false), (false == false), (false == false)]) (by kernel_rfl) (allI (by simp only [d1, d2, w0, wl, d3]; rfl)) (Nat.le_refl _) (by simp [idsV, idsC]) rfl (by simp [idsB, idsC])) fun X v _ h => nils_sh h
      · have d3 : decide (a - bi > ((x.length : Nat) : Int)) = false := decide_eq_false h3
        have w1 : IntKind.u64.wrap (a - bi - 1) = a - bi - 1 := wrapU64 (by omega) (by omega)
        have w2 : IntKind.i64.wrap (a - bi - 1) = a - bi - 1 := wrap64 (by omega) (by omega)
        have w3 : IntKind.i64.wrap (((x.length : Nat) : Int) - (a - bi - 1)) = ((x.length : Nat) : Int) - (a - bi - 1) := wrap64 (by omega) (by omega)
        have tn : (a - bi - 1).toNat = (a - bi).toNat - 1 := by omega
        have lt : List.take (((x.length : Nat) : Int)).toNat x = x := by rw [Int.toNat_natCast, List.take_length]
        have dz : ∀ y : List rEntry.den, List.drop (Int.toNat 0) y = y := fun y => by rw [Int.toNat_zero, List.drop_zero]
        have hm : ∃ m : Int, (if ((x.length : Nat) : Int) - (a - bi - 1) < b then ((x.length : Nat) : Int) - (a - bi - 1) else b) = m ∧ 0 ≤ m ∧ m ≤ ((x.length : Nat) : Int) - (a - bi - 1) ∧ (x.drop ((a - bi).toNat - 1)).take m.toNat = (x.drop ((a - bi).toNat - 1)).take b.toNat := by
          refine ⟨_, rfl, ?_⟩
          split
          · rename_i hlt
            refine ⟨by omega, by omega, ?_⟩
            rw [List.take_of_length_le (by rw [List.length_drop]; omega), List.take_of_length_le (by rw [List.length_drop]; omega)]
          · exact ⟨by omega, by omega, rfl⟩
        obtain ⟨m, hm, m0, m1, m2⟩ := hm
        have e : slcC bi x a b = (x.drop ((a - bi).toNat - 1)).take m.toNat := by
          rw [m2]; exact if_neg (by omega)
        have hld : (List.take m.toNat (List.drop ((a - bi).toNat - 1) x)).length ≤ 1000 := Nat.le_trans (List.length_take_le' _ _) (by rw [List.length_drop]; omega)
        have z1 : Nat.ble ((List.take m.toNat (List.drop ((a - bi).toNat - 1) x)).length * 264) 140737488355328 = true := by rw [Nat.ble_eq]; omega
        have z2 : (List.take m.toNat (List.drop ((a - bi).toNat - 1) x)).all entFits = true := List.all_eq_true.2 fun y hy => List.all_eq_true.1 he y (List.mem_of_mem_drop (List.mem_of_mem_take hy))
        rw [e]
        have key := EMem.heap_trim 1 (f := 14) (args := [.one (.ptr 0 0), vU a, vI b]) (hp := [logC bi bt bm x]) (hp2 := [logC bi bt bm x]) (os := [false, false, false, false, false, false, false, false, false, false, false, false, false, false, false, false, false, false, false, false, false, false, false, false, false, false, false]) (r := .one (.sl rEntry (List.drop (Int.toNat 0) (List.take (if IntKind.i64.wrap (((x.length : Nat) : Int) - IntKind.i64.wrap (IntKind.u64.wrap (IntKind.u64.wrap (a - bi) - 1))) < b then IntKind.i64.wrap (((x.length : Nat) : Int) - IntKind.i64.wrap (IntKind.u64.wrap (IntKind.u64.wrap (a - bi) - 1))) else b).toNat (List.drop (IntKind.i64.wrap (IntKind.u64.wrap (IntKind.u64.wrap (a - bi) - 1))).toNat (List.take (((x.length : Nat) : Int)).toNat x)))) .full)) (hp' := [(.cells [(.int .u64 bi), (.int .u64 bt), (.sl (.int .i64) bm .shared), (.sl (.pair (.int .u64) (.pair (.int .u64) (.pair (.int .i64) (.pair (.pair (.int .i64) (.pair (.int .i64) (.pair (.int .u64) (.pair (.int .u64) (.pair (.pair (.int .i64) (.pair .str (.pair .str (.pair .str (.pair .bool (.pair .str .unit)))))) (.pair (.int .u64) (.pair (.int .i64) (.pair .str (.pair .str (.pair (.int .i64) (.pair (.pair .bool (.pair (.int .i64) (.pair .str (.pair (.int .i64) (.pair (.int .i64) .unit))))) .unit))))))))))) (.pair (.sl (.int .i64)) .unit))))) x .shared), (.bool true)])]) (cs := [(((List.drop (Int.toNat 0) (List.take (if IntKind.i64.wrap (((x.length : Nat) : Int) - IntKind.i64.wrap (IntKind.u64.wrap (IntKind.u64.wrap (a - bi) - 1))) < b then IntKind.i64.wrap (((x.length : Nat) : Int) - IntKind.i64.wrap (IntKind.u64.wrap (IntKind.u64.wrap (a - bi) - 1))) else b).toNat (List.drop (IntKind.i64.wrap (IntKind.u64.wrap (IntKind.u64.wrap (a - bi) - 1))).toNat (List.take (((x.length : Nat) : Int)).toNat x)))).length * 264).ble 140737488355328), ((List.drop (Int.toNat 0) (List.take (if IntKind.i64.wrap (((x.length : Nat) : Int) - IntKind.i64.wrap (IntKind.u64.wrap (IntKind.u64.wrap (a - bi) - 1))) < b then IntKind.i64.wrap (((x.length : Nat) : Int) - IntKind.i64.wrap (IntKind.u64.wrap (IntKind.u64.wrap (a - bi) - 1))) else b).toNat (List.drop (IntKind.i64.wrap (IntKind.u64.wrap (IntKind.u64.wrap (a - bi) - 1))).toNat (List.take (((x.length : Nat) : Int)).toNat x)))).all entFits), (decide ((0 : Int) ≤ 0 ∧ (0 ≤ if IntKind.i64.wrap (((x.length : Nat) : Int) - IntKind.i64.wrap (IntKind.u64.wrap (IntKind.u64.wrap (a - bi) - 1))) < b then IntKind.i64.wrap (((x.length : Nat) : Int) - IntKind.i64.wrap (IntKind.u64.wrap (IntKind.u64.wrap (a - bi) - 1))) else b) ∧ (if IntKind.i64.wrap (((x.length : Nat) : Int) - IntKind.i64.wrap (IntKind.u64.wrap (IntKind.u64.wrap (a - bi) - 1))) < b then IntKind.i64.wrap (((x.length : Nat) : Int) - IntKind.i64.wrap (IntKind.u64.wrap (IntKind.u64.wrap (a - bi) - 1))) else b) ≤ (((List.drop (IntKind.i64.wrap (IntKind.u64.wrap (IntKind.u64.wrap (a - bi) - 1))).toNat (List.take (((x.length : Nat) : Int)).toNat x)).length : Nat) : Int))), (decide (0 ≤ IntKind.i64.wrap (IntKind.u64.wrap (IntKind.u64.wrap (a - bi) - 1)) ∧ IntKind.i64.wrap (IntKind.u64.wrap (IntKind.u64.wrap (a - bi) - 1)) ≤ ((x.length : Nat) : Int) ∧ ((x.length : Nat) : Int) ≤ ((x.length : Nat) : Int))), ((!true) == false), (decide (IntKind.u64.wrap (a - bi) > IntKind.u64.wrap ((x.length : Nat) : Int)) == false), (decide (a ≤ bi) == false), (decide (a ≤ bi) == false), (decide (a ≤ bi) == false), (decide (a ≤ bi) == false), (decide (a ≤ bi) == false), (decide (a ≤ bi) == false), (decide (a ≤ bi) == false), (decide (a ≤ bi) == false), (decide (a ≤ bi) == false), (decide (a ≤ bi) == false), (decide (a ≤ bi) == false), (decide (a ≤ bi) == false), (decide (a ≤ bi) == false), (decide (a ≤ bi) == false), (decide (a ≤ bi) == false), (decide (b < 1) == false), ((!true) == false), ((!true) == false), ((!true) == false), (false == false), (false == false), (false == false), (false == false), (false == false), (false == false)]) (by kernel_rfl) ?_ (Nat.le_refl _) (by simp [idsV, idsC]) rfl (by simp [idsB, idsC])
        · simp only [w0, w1, w2, w3, lt, dz, tn, hm] at key
          exact HeapCall.resw key fun X v _ h => full_sh h
        · refine allI ?_
          simp only [d1, d2, w0, wl, d3, w1, w2, w3, lt, dz, tn, hm, z1, z2]
          simp only [List.all_cons, List.all_nil, Bool.and_true, beq_self_eq_true, Bool.true_and, Bool.not_true, Bool.not_false]
          simp only [List.length_drop, Bool.and_eq_true, decide_eq_true_eq]
          omega
end Go.Proofs.Ytmbekpoelkcceaa
