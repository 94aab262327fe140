/- An operation taken of bytes; no statement. -/
import Derived.Test.YtjplobgambnhjaaDev
set_option linter.unusedVariables false
set_option linter.unusedSimpArgs false
set_option maxRecDepth 100000
namespace Go.Proofs.Ytjplobgambnhjaa
open Go Go.Eng

theorem taut1 (b : Bool) : (!b || (b == true)) = true := by cases b <;> rfl
theorem taut2 (b : Bool) : (!(b == true) || (b == true)) = true := by cases b <;> rfl
theorem szk_ext {s : ByteArray} {a b : Nat} (h : szk s = true) : szk (s.extract a b) = true := by
  have h := of_decide_eq_true h
  refine decide_eq_true ?_
  rw [ByteArray.size_extract]; omega
theorem szk_nr {s : ByteArray} (h : szk s = true) : szk (nr s) = true := szk_ext h
theorem szk_tr {s : ByteArray} {m : Int} (h : szk s = true) : szk (tr s m) = true := by
  unfold tr; cases tb s m
  · exact h
  · exact szk_ext h
theorem szk_yr {s : ByteArray} (h : szk s = true) : szk (yr s) = true := by
  unfold yr; cases yb s
  · exact h
  · exact szk_ext h
def selTk (args : List AV) (hp : List AB) : List Nat := match args with
  | [.agg [.fn _ [(x, 0), (y, 0)], _, _], .one (.ptr i _)] => match hp[x]?, hp[y]? with
    | some (.cells [.ptr r 0]), some (.cells [.ptr q 0]) => [r, q, x, y, i]
    | _, _ => []
  | _ => []
def oc1 (s : ByteArray) : ByteArray := nr s
def od1 (g : Bool) (s : ByteArray) : Bool := bif bif g then nb s else false then decide (numV s ≤ 1073741824) else false
theorem oz1 {s : ByteArray} (h : szk s = true) : szk (oc1 s) = true := szk_nr h
def oc2 (s : ByteArray) : ByteArray := tr (oc1 s) 65536
def od2 (g : Bool) (s : ByteArray) : Bool := bif od1 g s then tb (oc1 s) 65536 else false
theorem oz2 {s : ByteArray} (h : szk s = true) : szk (oc2 s) = true := szk_tr (oz1 h)
def oc3 (s : ByteArray) : ByteArray := tr (oc2 s) 65536
def od3 (g : Bool) (s : ByteArray) : Bool := bif od2 g s then tb (oc2 s) 65536 else false
theorem oz3 {s : ByteArray} (h : szk s = true) : szk (oc3 s) = true := szk_tr (oz2 h)
def oc4 (s : ByteArray) : ByteArray := tr (oc3 s) 65536
def od4 (g : Bool) (s : ByteArray) : Bool := bif od3 g s then tb (oc3 s) 65536 else false
theorem oz4 {s : ByteArray} (h : szk s = true) : szk (oc4 s) = true := szk_tr (oz3 h)
def oc5 (s : ByteArray) : ByteArray := yr (oc4 s)
def od5 (g : Bool) (s : ByteArray) : Bool := bif bif od4 g s then yb (oc4 s) else false then decide (yv (oc4 s) ≤ 1) else false
theorem oz5 {s : ByteArray} (h : szk s = true) : szk (oc5 s) = true := szk_yr (oz4 h)
def oc6 (s : ByteArray) : ByteArray := tr (oc5 s) 65536
def od6 (g : Bool) (s : ByteArray) : Bool := bif od5 g s then tb (oc5 s) 65536 else false
theorem oz6 {s : ByteArray} (h : szk s = true) : szk (oc6 s) = true := szk_tr (oz5 h)
theorem dop_h (ix tm kd ck cl sq ep ok pr st gr wg wi wo : Int) (r c v x key val wk s : ByteArray) (has mv g : Bool) (hs : szk s = true) : HeapCall Try.prog 88 [.agg [.fn 91 [(2,0), (3,0)], .fn 93 [(2,0), (3,0)], .fn 95 [(2,0), (3,0)]], .one (.ptr 4 7)] [.cells [.str s], .cells [.bool g], .cells [.ptr 0 0], .cells [.ptr 1 0], .cells [.int .u64 ix, .int .u64 tm, .int .i64 kd, .int .i64 ck, .int .i64 cl, .int .u64 sq, .int .u64 ep, .int .i64 ok, .str r, .str c, .str v, .bool has, .str x, .int .u64 pr, .int .i64 st, .str key, .str val, .int .i64 gr, .bool mv, .int .i64 wg, .str wk, .int .i64 wi, .int .i64 wo, .nils]] (.tup []) [.cells [.str (oc6 s)], .cells [.bool (od6 g s)], .cells [.ptr 0 0], .cells [.ptr 1 0], .cells [.int .u64 ix, .int .u64 tm, .int .i64 kd, .int .i64 ck, .int .i64 cl, .int .u64 sq, .int .u64 ep, .int .i64 (IntKind.i64.wrap (numV s)), .str (tv (oc1 s) 65536), .str (tv (oc2 s) 65536), .str (tv (oc3 s) 65536), .bool (yv (oc4 s) == 1), .str (tv (oc5 s) 65536), .int .u64 pr, .int .i64 st, .str key, .str val, .int .i64 gr, .bool mv, .int .i64 wg, .str wk, .int .i64 wi, .int .i64 wo, .nils]] := by
  have z1 := oz1 hs
  have z2 := oz2 hs
  have z3 := oz3 hs
  have z4 := oz4 hs
  have z5 := oz5 hs
  have z6 := oz6 hs
  exact EDr.heap_cut 5 (os := []) (hp2 := [.cells [.str (oc6 s)], .cells [.bool (od6 g s)], .cells [.ptr 0 0], .cells [.ptr 1 0], .cells [.int .u64 ix, .int .u64 tm, .int .i64 kd, .int .i64 ck, .int .i64 cl, .int .u64 sq, .int .u64 ep, .int .i64 (IntKind.i64.wrap (numV s)), .str (tv (oc1 s) 65536), .str (tv (oc2 s) 65536), .str (tv (oc3 s) 65536), .bool (yv (oc4 s) == 1), .str (tv (oc5 s) 65536), .int .u64 pr, .int .i64 st, .str key, .str val, .int .i64 gr, .bool mv, .int .i64 wg, .str wk, .int .i64 wi, .int .i64 wo, .nils]]) (cs := [((fun q => (!od5 g s) || q) ((od5 g s) == true)), (decide ((0 : Int) ≤ 65536)), (szk (oc5 s)), ((fun q => (!bif od4 g s then yb (oc4 s) else false) || q) ((bif od4 g s then yb (oc4 s) else false) == true)), ((fun q => !(bif od4 g s then yb (oc4 s) else false) == true || q) ((bif od4 g s then yb (oc4 s) else false) == true)), ((fun q => (!od4 g s) || q) ((od4 g s) == true)), ((fun q => (!od3 g s) || q) ((od3 g s) == true)), (decide ((0 : Int) ≤ 65536)), (szk (oc3 s)), ((fun q => (!od2 g s) || q) ((od2 g s) == true)), (decide ((0 : Int) ≤ 65536)), (szk (oc2 s)), ((fun q => (!od1 g s) || q) ((od1 g s) == true)), (decide ((0 : Int) ≤ 65536)), (szk (oc1 s)), ((fun q => (!bif g then nb s else false) || q) ((bif g then nb s else false) == true)), ((fun q => !(bif g then nb s else false) == true || q) ((bif g then nb s else false) == true)), ((fun q => !(bif g then nb s else false) == true || q) ((bif g then nb s else false) == true)), ((fun q => !g || q) (g == true))]) (by kernel_rfl : EDr.run 88 [.agg [.fn 91 [(2,0), (3,0)], .fn 93 [(2,0), (3,0)], .fn 95 [(2,0), (3,0)]], .one (.ptr 4 7)] [.cells [.str s], .cells [.bool g], .cells [.ptr 0 0], .cells [.ptr 1 0], .cells [.int .u64 ix, .int .u64 tm, .int .i64 kd, .int .i64 ck, .int .i64 cl, .int .u64 sq, .int .u64 ep, .int .i64 ok, .str r, .str c, .str v, .bool has, .str x, .int .u64 pr, .int .i64 st, .str key, .str val, .int .i64 gr, .bool mv, .int .i64 wg, .str wk, .int .i64 wi, .int .i64 wo, .nils]] [] = some (.tup [], [(.cells [(.str (oc6 s))]), (.cells [(.bool (od6 g s))]), (.cells [(.ptr 0 0)]), (.cells [(.ptr 1 0)]), (.cells [(.int .u64 ix), (.int .u64 tm), (.int .i64 kd), (.int .i64 ck), (.int .i64 cl), (.int .u64 sq), (.int .u64 ep), (.int .i64 (IntKind.i64.wrap (numV s))), (.str (tv (oc1 s) 65536)), (.str (tv (oc2 s) 65536)), (.str (tv (oc3 s) 65536)), (.bool (yv (oc4 s) == 1)), (.str (tv (oc5 s) 65536)), (.int .u64 pr), (.int .i64 st), (.str key), (.str val), (.int .i64 gr), (.bool mv), (.int .i64 wg), (.str wk), (.int .i64 wi), (.int .i64 wo), .nils]), (.cells [(.fn 91 [(2, 0), (3, 0)]), (.fn 93 [(2, 0), (3, 0)]), (.fn 95 [(2, 0), (3, 0)])])], [((fun q => (!od5 g s) || q) ((od5 g s) == true)), (decide ((0 : Int) ≤ 65536)), (szk (oc5 s)), ((fun q => (!bif od4 g s then yb (oc4 s) else false) || q) ((bif od4 g s then yb (oc4 s) else false) == true)), ((fun q => !(bif od4 g s then yb (oc4 s) else false) == true || q) ((bif od4 g s then yb (oc4 s) else false) == true)), ((fun q => (!od4 g s) || q) ((od4 g s) == true)), ((fun q => (!od3 g s) || q) ((od3 g s) == true)), (decide ((0 : Int) ≤ 65536)), (szk (oc3 s)), ((fun q => (!od2 g s) || q) ((od2 g s) == true)), (decide ((0 : Int) ≤ 65536)), (szk (oc2 s)), ((fun q => (!od1 g s) || q) ((od1 g s) == true)), (decide ((0 : Int) ≤ 65536)), (szk (oc1 s)), ((fun q => (!bif g then nb s else false) || q) ((bif g then nb s else false) == true)), ((fun q => !(bif g then nb s else false) == true || q) ((bif g then nb s else false) == true)), ((fun q => !(bif g then nb s else false) == true || q) ((bif g then nb s else false) == true)), ((fun q => !g || q) (g == true))])) (allI (by
    simp only [taut1, taut2, hs, z1, z2, z3, z4, z5, z6, List.all_cons, List.all_nil, Bool.and_true]
    try rfl)) (by simp) (by simp [idsV]) rfl (by simp [idsB, idsC])
noncomputable def EDop : Env Try.prog := EDr.addHF 88 selTk
  (fun args hp os => match args, hp with
    | [.agg [.fn f1 [(2, 0), (3, 0)], .fn f2 [(2, 0), (3, 0)], .fn f3 [(2, 0), (3, 0)]], .one (.ptr 4 7)], [.cells [.str s], .cells [.bool g], .cells [.ptr 0 0], .cells [.ptr 1 0], .cells [.int .u64 ix, .int .u64 tm, .int .i64 kd, .int .i64 ck, .int .i64 cl, .int .u64 sq, .int .u64 ep, .int .i64 ok, .str r, .str c, .str v, .bool has, .str x, .int .u64 pr, .int .i64 st, .str key, .str val, .int .i64 gr, .bool mv, .int .i64 wg, .str wk, .int .i64 wi, .int .i64 wo, .nils]] =>
      retC (.tup [], [.cells [.str (oc6 s)], .cells [.bool (od6 g s)], .cells [.ptr 0 0], .cells [.ptr 1 0], .cells [.int .u64 ix, .int .u64 tm, .int .i64 kd, .int .i64 ck, .int .i64 cl, .int .u64 sq, .int .u64 ep, .int .i64 (IntKind.i64.wrap (numV s)), .str (tv (oc1 s) 65536), .str (tv (oc2 s) 65536), .str (tv (oc3 s) 65536), .bool (yv (oc4 s) == 1), .str (tv (oc5 s) 65536), .int .u64 pr, .int .i64 st, .str key, .str val, .int .i64 gr, .bool mv, .int .i64 wg, .str wk, .int .i64 wi, .int .i64 wo, .nils]]) [decide (f1 = 91 ∧ f2 = 93 ∧ f3 = 95), szk s] os
    | _, _ => none)
  (fun args hp os r' hp' cs os' h hc => by
    split at h
    · simp only [retC, Option.some.injEq, Prod.mk.injEq] at h
      obtain ⟨⟨rfl, rfl⟩, rfl, rfl⟩ := h
      obtain ⟨h1, hc⟩ := of_allTc hc
      obtain ⟨h2, _⟩ := of_allTc hc
      obtain ⟨rfl, rfl, rfl⟩ := of_decide_eq_true h1
      exact dop_h _ _ _ _ _ _ _ _ _ _ _ _ _ _ _ _ _ _ _ _ _ _ _ _ _ h2
    · cases h)
end Go.Proofs.Ytjplobgambnhjaa
