/- Put, Members, Copy of a log behind any base: contracts; no statement. -/
import Derived.Test.YtmbekpoelkcceaaRcp
import Derived.Test.YtmbekpoelkcceaaEngZ10
set_option linter.unusedVariables false
set_option linter.unusedSimpArgs false
namespace Go.Proofs.Ytmbekpoelkcceaa
open Go Go.Eng

abbrev logM (bi bt : Int) (bm : List Int) (x : List rEntry.den) (m : SM) : AB := .cells [.int .u64 bi, .int .u64 bt, .sl (.int .i64) bm .shared, .sl rEntry x m, .bool true]
/-- Less is known of a log's array. -/
theorem dullAt {P : Program} {f : Nat} {args : List AV} {hp : List AB} {r : AV} {hp' : List AB} (k : Nat) {bi bt : Int} {bm : List Int} {x : List rEntry.den} {m : SM} (h : HeapCall P f args hp r hp') (hk : hp'[k]? = some (logM bi bt bm x m)) :
    HeapCall P f args hp r (hp'.set k (logC bi bt bm x)) :=
  ⟨h.1, fun X vs hX hH hv => (h.2 X vs hX hH hv).mono fun e w' ⟨val, X', h1, h2, h3, h4, h5, h6⟩ => by
    have hb : X'.H k = some (logM bi bt bm x m) := by rw [h5]; exact hk
    have hle := setH_le (b := logC bi bt bm x) hb rfl rfl (fun _ _ e => by cases e)
    refine ⟨val, X'.setH k (logC bi bt bm x), h1, h2, h3.trans hle, setH_rel hb rfl rfl h4 (fun _ _ e => by cases e) ?_, ?_, VR.mono hle _ _ h6⟩
    · obtain ⟨c, t, g1, g2⟩ := h4.blk k _ hb
      refine ⟨c, t, g1, g2.1, fun j d y hd hy => ?_⟩
      match j, hd with
      | 0, hd => exact VRc.mono hle _ _ (g2.2 0 d y hd hy)
      | 1, hd => exact VRc.mono hle _ _ (g2.2 1 d y hd hy)
      | 2, hd => exact VRc.mono hle _ _ (g2.2 2 d y hd hy)
      | 3, hd =>
        have h0 := VRc.mono hle _ _ (g2.2 3 (.sl rEntry x m) y rfl hy)
        simp only [List.getElem?_cons_succ, List.getElem?_cons_zero, Option.some.injEq] at hd
        subst hd
        obtain ⟨A, n, cap, k1, k2, k3, k4, k5, _⟩ := h0
        exact ⟨A, n, cap, k1, k2, k3, k4, k5, trivial⟩
      | 4, hd => exact VRc.mono hle _ _ (g2.2 4 d y hd hy)
      | j + 5, hd => simp at hd
    · funext i
      have hlt : k < hp'.length := (List.getElem?_eq_some_iff.1 hk).1
      simp only [Ctx.setH, upd, h5]
      by_cases e : i = k
      · subst e; simp [hlt]
      · rw [if_neg e, List.getElem?_set_ne (fun h => e h.symm)]⟩

theorem putc_heap (i t bi bt : Int) (bm : List Int) (x l : List rEntry.den) (W : WellC bi bt x i t l) :
    HeapCall Try.prog 12 [.one (.ptr 0 0), vU i, vU t, vL rEntry l] [logC bi bt bm x] (.tup [(false, [.int .u64 (i + ((l.length : Nat) : Int))]), (false, [.int .u64 0]), (false, [.bool true])]) [logC bi bt bm x] := by
  have hi := W.hi; have hl := W.hl
  have q1 : ok (WellC bi bt x i t l) = true := ok_of W
  have q2 : ok (l = l ∧ ∃ i t, WellC bi bt x i t l) = true := ok_of ⟨rfl, i, t, W⟩
  have q3 : decide ((0 : Int) = 0 ∧ (0 : Int) = 0 ∧ false = false ∧ ((l.length : Nat) : Int) = ((l.length : Nat) : Int) ∧ true = true) = true := decide_eq_true ⟨rfl, rfl, rfl, rfl, rfl⟩
  have wl : IntKind.u64.wrap ((l.length : Nat) : Int) = ((l.length : Nat) : Int) := wrapU64 (by omega) (by omega)
  have w2 : IntKind.u64.wrap (i + ((l.length : Nat) : Int)) = i + ((l.length : Nat) : Int) := wrapU64 (by omega) (by omega)
  have key := EPlC.heap_ok (f := 12) (args := [.one (.ptr 0 0), vU i, vU t, vL rEntry l]) (hp := [logC bi bt bm x]) (os := [false, false, false, false, false, false, false, false]) (r := (.tup [(false, [(.int .u64 (IntKind.u64.wrap (i + IntKind.u64.wrap ((l.length : Nat) : Int))))]), (false, [(.int .u64 (0))]), (false, [(.bool true)])])) (hp' := [logC bi bt bm x]) (cs := [(decide ((0 : Int) = 0 ∧ (0 : Int) = 0 ∧ false = false ∧ ((l.length : Nat) : Int) = ((l.length : Nat) : Int) ∧ true = true)), (ok (l = l ∧ ∃ i t, WellC bi bt x i t l)), ((!true) == false), true, (ok (WellC bi bt x i t l)), ((!true) == false), (false == false), (false == false), (false == false), (false == false), (false == false), (false == false)]) (by kernel_rfl) (allI (by simp only [↓q1, ↓q2, ↓q3]; rfl))
  rw [wl, w2] at key
  exact key
theorem memc_heap (a bi bt : Int) (bm : List Int) (x : List rEntry.den) (hx : x.length ≤ 1000) (hm : (memC a bm x).length ≤ 1000) :
    HeapCall Try.prog 18 [.one (.ptr 0 0), vU a] [logC bi bt bm x] (vL cI (memC a bm x)) [logC bi bt bm x] := by
  have q1 : decide (x.length ≤ 1000) = true := decide_eq_true hx
  have q2 : ((memC a bm x).length * 8).ble 140737488355328 = true := by rw [Nat.ble_eq]; omega
  have q3 : (memC a bm x).length.ble maxLen = true := by rw [Nat.ble_eq]; unfold maxLen; omega
  have q4 : decide ((0 : Int) = 0 ∧ ((x.length : Nat) : Int) = ((x.length : Nat) : Int) ∧ true = true) = true := decide_eq_true ⟨rfl, rfl, rfl⟩
  exact EMem.heap_ok (os := [false, false, false, false, false, false, false]) (hp' := [logC bi bt bm x]) (cs := [(((memC a bm x).length * 8).ble 140737488355328), ((memC a bm x).length.ble maxLen), (decide ((0 : Int) = 0 ∧ ((x.length : Nat) : Int) = ((x.length : Nat) : Int) ∧ true = true)), (decide (x.length ≤ 1000)), ((!true) == false), (false == false), (false == false), (false == false), (false == false), (false == false), (false == false)]) (by kernel_rfl) (allI (by simp only [q1, q2, q3, ↓q4]; rfl))
theorem copyc_heap (bi bt : Int) (bm : List Int) (x : List rEntry.den) (hx : x.length ≤ 1000) (hm : bm.length ≤ 1000) (he : x.all entFits = true) :
    HeapCall Try.prog 15 [.one (.ptr 0 0)] [logC bi bt bm x] (.one (.ptr 1 0)) [logC bi bt bm x, logC bi bt bm x] := by
  have q1 : (x.length * 264).ble 140737488355328 = true := by rw [Nat.ble_eq]; omega
  have q2 : (bm.length * 8).ble 140737488355328 = true := by rw [Nat.ble_eq]; omega
  have q3 : bm.length.ble maxLen = true := by rw [Nat.ble_eq]; unfold maxLen; omega
  exact dullAt 1 (m := .full) (ESam.heap_trim 2 (os := [false, false, false, false, false, false, false]) (r := .one (.ptr 1 0)) (hp' := [(.cells [(.int .u64 bi), (.int .u64 bt), (.sl (.int .i64) bm .shared), (.sl (.pair (.int .u64) (.pair (.int .u64) (.pair (.int .i64) (.pair (.pair (.int .i64) (.pair (.int .i64) (.pair (.int .u64) (.pair (.int .u64) (.pair (.pair (.int .i64) (.pair .str (.pair .str (.pair .str (.pair .bool (.pair .str .unit)))))) (.pair (.int .u64) (.pair (.int .i64) (.pair .str (.pair .str (.pair (.int .i64) (.pair (.pair .bool (.pair (.int .i64) (.pair .str (.pair (.int .i64) (.pair (.int .i64) .unit))))) .unit))))))))))) (.pair (.sl (.int .i64)) .unit))))) x .shared), (.bool true)]), (.cells [(.int .u64 bi), (.int .u64 bt), (.sl (.int .i64) bm .shared), (.sl (.pair (.int .u64) (.pair (.int .u64) (.pair (.int .i64) (.pair (.pair (.int .i64) (.pair (.int .i64) (.pair (.int .u64) (.pair (.int .u64) (.pair (.pair (.int .i64) (.pair .str (.pair .str (.pair .str (.pair .bool (.pair .str .unit)))))) (.pair (.int .u64) (.pair (.int .i64) (.pair .str (.pair .str (.pair (.int .i64) (.pair (.pair .bool (.pair (.int .i64) (.pair .str (.pair (.int .i64) (.pair (.int .i64) .unit))))) .unit))))))))))) (.pair (.sl (.int .i64)) .unit))))) x .full), (.bool true)])]) (hp2 := [logC bi bt bm x, logM bi bt bm x .full]) (cs := [((x.length * 264).ble 140737488355328), (x.all entFits), ((bm.length * 8).ble 140737488355328), (bm.length.ble maxLen), ((!true) == false), (false == false), (false == false), (false == false), (false == false), (false == false), (false == false)]) (by kernel_rfl) (allI (by simp only [q1, q2, q3, he]; rfl)) (by simp) (by simp [idsV, idsC]) rfl (by simp [idsB, idsC])) rfl
end Go.Proofs.Ytmbekpoelkcceaa
