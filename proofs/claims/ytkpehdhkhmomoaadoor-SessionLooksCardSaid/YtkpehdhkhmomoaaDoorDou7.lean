/- A result taken of bytes; no statement. -/
import Derived.Test.YtkpehdhkhmomoaaDoorDev
set_option linter.unusedVariables false
set_option linter.unusedSimpArgs false
set_option maxRecDepth 100000
namespace Go.Proofs.YtkpehdhkhmomoaaDoor
open Go Go.Eng

theorem taut1 (b : Bool) : (!b || (b == true)) = true := by cases b <;> rfl
theorem taut2 (b : Bool) : (!(b == true) || (b == true)) = true := by cases b <;> rfl
theorem szk_ext {s : ByteArray} {a b : Nat} (h : szk s = true) : szk (s.extract a b) = true := by
  have h := of_decide_eq_true h
  refine decide_eq_true ?_
  rw [ByteArray.size_extract]; omega
theorem szk_nr {s : ByteArray} (h : szk s = true) : szk (nr s) = true := szk_ext h
theorem szk_tr {s : ByteArray} {m : Int} (h : szk s = true) : szk (tr s m) = true := by
  unfold tr; cases tb s m
  · exact h
  · exact szk_ext h
theorem szk_yr {s : ByteArray} (h : szk s = true) : szk (yr s) = true := by
  unfold yr; cases yb s
  · exact h
  · exact szk_ext h
def selTk (args : List AV) (hp : List AB) : List Nat := match args with
  | [.agg [.fn _ [(x, 0), (y, 0)], _, _], .one (.ptr i _)] => match hp[x]?, hp[y]? with
    | some (.cells [.ptr r 0]), some (.cells [.ptr q 0]) => [r, q, x, y, i]
    | _, _ => []
  | _ => []
def uc1 (s : ByteArray) : ByteArray := nr s
def ud1 (g : Bool) (s : ByteArray) : Bool := bif bif g then nb s else false then decide (numV s ≤ 1073741824) else false
theorem uz1 {s : ByteArray} (h : szk s = true) : szk (uc1 s) = true := szk_nr h
def uc2 (s : ByteArray) : ByteArray := yr (uc1 s)
def ud2 (g : Bool) (s : ByteArray) : Bool := bif bif ud1 g s then yb (uc1 s) else false then decide (yv (uc1 s) ≤ 1) else false
theorem uz2 {s : ByteArray} (h : szk s = true) : szk (uc2 s) = true := szk_yr (uz1 h)
def uc3 (s : ByteArray) : ByteArray := tr (uc2 s) 65536
def ud3 (g : Bool) (s : ByteArray) : Bool := bif ud2 g s then tb (uc2 s) 65536 else false
theorem uz3 {s : ByteArray} (h : szk s = true) : szk (uc3 s) = true := szk_tr (uz2 h)
def uc4 (s : ByteArray) : ByteArray := tr (uc3 s) 65536
def ud4 (g : Bool) (s : ByteArray) : Bool := bif ud3 g s then tb (uc3 s) 65536 else false
theorem uz4 {s : ByteArray} (h : szk s = true) : szk (uc4 s) = true := szk_tr (uz3 h)
def uc5 (s : ByteArray) : ByteArray := nr (uc4 s)
def ud5 (g : Bool) (s : ByteArray) : Bool := bif bif ud4 g s then nb (uc4 s) else false then decide (numV (uc4 s) ≤ 1099511627776) else false
theorem uz5 {s : ByteArray} (h : szk s = true) : szk (uc5 s) = true := szk_nr (uz4 h)
theorem dou_h (er ver : Int) (r val s : ByteArray) (fo g : Bool) (hs : szk s = true) : HeapCall Tryd.prog 28 [.agg [.fn 49 [(2,0), (3,0)], .fn 50 [(2,0), (3,0)], .fn 52 [(2,0), (3,0)]], .one (.ptr 4 0)] [.cells [.str s], .cells [.bool g], .cells [.ptr 0 0], .cells [.ptr 1 0], .cells [.int .i64 er, .bool fo, .str r, .str val, .int .u64 ver]] (.tup []) [.cells [.str (uc5 s)], .cells [.bool (ud5 g s)], .cells [.ptr 0 0], .cells [.ptr 1 0], .cells [.int .i64 (IntKind.i64.wrap (numV s)), .bool (yv (uc1 s) == 1), .str (tv (uc2 s) 65536), .str (tv (uc3 s) 65536), .int .u64 (numV (uc4 s))]] := by
  have z1 := uz1 hs
  have z2 := uz2 hs
  have z3 := uz3 hs
  have z4 := uz4 hs
  have z5 := uz5 hs
  exact EDr.heap_cut 5 (os := []) (hp2 := [.cells [.str (uc5 s)], .cells [.bool (ud5 g s)], .cells [.ptr 0 0], .cells [.ptr 1 0], .cells [.int .i64 (IntKind.i64.wrap (numV s)), .bool (yv (uc1 s) == 1), .str (tv (uc2 s) 65536), .str (tv (uc3 s) 65536), .int .u64 (numV (uc4 s))]]) (cs := [((fun q => (!bif ud4 g s then nb (uc4 s) else false) || q) ((bif ud4 g s then nb (uc4 s) else false) == true)), ((fun q => !(bif ud4 g s then nb (uc4 s) else false) == true || q) ((bif ud4 g s then nb (uc4 s) else false) == true)), ((fun q => !(bif ud4 g s then nb (uc4 s) else false) == true || q) ((bif ud4 g s then nb (uc4 s) else false) == true)), ((fun q => (!ud4 g s) || q) ((ud4 g s) == true)), ((fun q => (!ud3 g s) || q) ((ud3 g s) == true)), (decide ((0 : Int) ≤ 65536)), (szk (uc3 s)), ((fun q => (!ud2 g s) || q) ((ud2 g s) == true)), (decide ((0 : Int) ≤ 65536)), (szk (uc2 s)), ((fun q => (!bif ud1 g s then yb (uc1 s) else false) || q) ((bif ud1 g s then yb (uc1 s) else false) == true)), ((fun q => !(bif ud1 g s then yb (uc1 s) else false) == true || q) ((bif ud1 g s then yb (uc1 s) else false) == true)), ((fun q => (!ud1 g s) || q) ((ud1 g s) == true)), ((fun q => (!bif g then nb s else false) || q) ((bif g then nb s else false) == true)), ((fun q => !(bif g then nb s else false) == true || q) ((bif g then nb s else false) == true)), ((fun q => !(bif g then nb s else false) == true || q) ((bif g then nb s else false) == true)), ((fun q => !g || q) (g == true))]) (by kernel_rfl : EDr.run 28 [.agg [.fn 49 [(2,0), (3,0)], .fn 50 [(2,0), (3,0)], .fn 52 [(2,0), (3,0)]], .one (.ptr 4 0)] [.cells [.str s], .cells [.bool g], .cells [.ptr 0 0], .cells [.ptr 1 0], .cells [.int .i64 er, .bool fo, .str r, .str val, .int .u64 ver]] [] = some (.tup [], [(.cells [(.str (uc5 s))]), (.cells [(.bool (ud5 g s))]), (.cells [(.ptr 0 0)]), (.cells [(.ptr 1 0)]), (.cells [(.int .i64 (IntKind.i64.wrap (numV s))), (.bool (yv (uc1 s) == 1)), (.str (tv (uc2 s) 65536)), (.str (tv (uc3 s) 65536)), (.int .u64 (numV (uc4 s)))]), (.cells [(.fn 49 [(2, 0), (3, 0)]), (.fn 50 [(2, 0), (3, 0)]), (.fn 52 [(2, 0), (3, 0)])])], [((fun q => (!bif ud4 g s then nb (uc4 s) else false) || q) ((bif ud4 g s then nb (uc4 s) else false) == true)), ((fun q => !(bif ud4 g s then nb (uc4 s) else false) == true || q) ((bif ud4 g s then nb (uc4 s) else false) == true)), ((fun q => !(bif ud4 g s then nb (uc4 s) else false) == true || q) ((bif ud4 g s then nb (uc4 s) else false) == true)), ((fun q => (!ud4 g s) || q) ((ud4 g s) == true)), ((fun q => (!ud3 g s) || q) ((ud3 g s) == true)), (decide ((0 : Int) ≤ 65536)), (szk (uc3 s)), ((fun q => (!ud2 g s) || q) ((ud2 g s) == true)), (decide ((0 : Int) ≤ 65536)), (szk (uc2 s)), ((fun q => (!bif ud1 g s then yb (uc1 s) else false) || q) ((bif ud1 g s then yb (uc1 s) else false) == true)), ((fun q => !(bif ud1 g s then yb (uc1 s) else false) == true || q) ((bif ud1 g s then yb (uc1 s) else false) == true)), ((fun q => (!ud1 g s) || q) ((ud1 g s) == true)), ((fun q => (!bif g then nb s else false) || q) ((bif g then nb s else false) == true)), ((fun q => !(bif g then nb s else false) == true || q) ((bif g then nb s else false) == true)), ((fun q => !(bif g then nb s else false) == true || q) ((bif g then nb s else false) == true)), ((fun q => !g || q) (g == true))])) (allI (by
    simp only [taut1, taut2, hs, z1, z2, z3, z4, z5, List.all_cons, List.all_nil, Bool.and_true]
    try rfl)) (by simp) (by simp [idsV]) rfl (by simp [idsB, idsC])
noncomputable def EDou : Env Tryd.prog := EDr.addHF 28 selTk
  (fun args hp os => match args, hp with
    | [.agg [.fn f1 [(2, 0), (3, 0)], .fn f2 [(2, 0), (3, 0)], .fn f3 [(2, 0), (3, 0)]], .one (.ptr 4 0)], [.cells [.str s], .cells [.bool g], .cells [.ptr 0 0], .cells [.ptr 1 0], .cells [.int .i64 er, .bool fo, .str r, .str val, .int .u64 ver]] =>
      retC (.tup [], [.cells [.str (uc5 s)], .cells [.bool (ud5 g s)], .cells [.ptr 0 0], .cells [.ptr 1 0], .cells [.int .i64 (IntKind.i64.wrap (numV s)), .bool (yv (uc1 s) == 1), .str (tv (uc2 s) 65536), .str (tv (uc3 s) 65536), .int .u64 (numV (uc4 s))]]) [decide (f1 = 49 ∧ f2 = 50 ∧ f3 = 52), szk s] os
    | _, _ => none)
  (fun args hp os r' hp' cs os' h hc => by
    split at h
    · simp only [retC, Option.some.injEq, Prod.mk.injEq] at h
      obtain ⟨⟨rfl, rfl⟩, rfl, rfl⟩ := h
      obtain ⟨h1, hc⟩ := of_allTc hc
      obtain ⟨h2, _⟩ := of_allTc hc
      obtain ⟨rfl, rfl, rfl⟩ := of_decide_eq_true h1
      exact dou_h _ _ _ _ _ _ _ h2
    · cases h)
end Go.Proofs.YtkpehdhkhmomoaaDoor
