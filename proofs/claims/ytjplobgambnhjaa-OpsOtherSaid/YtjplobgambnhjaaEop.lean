/- An operation's bytes; no statement. -/
import Derived.Test.YtjplobgambnhjaaEnw
set_option linter.unusedVariables false
set_option linter.unusedSimpArgs false
namespace Go.Proofs.Ytjplobgambnhjaa
open Go Go.Eng

theorem wrapBack {n : Int} (h1 : -9223372036854775808 ≤ n) (h2 : n ≤ 9223372036854775807) : IntKind.i64.wrap (IntKind.u64.wrap n) = n := by
  simp only [IntKind.wrap, IntKind.signed, IntKind.bits, Bool.true_and, Bool.false_and]
  simp only [Bool.false_eq_true, if_false]
  split <;> simp_all <;> omega
def iOk (n : Int) : Bool := decide (-9223372036854775808 ≤ n ∧ n ≤ 9223372036854775807)
theorem wB {n : Int} (h : iOk n = true) : IntKind.i64.wrap (IntKind.u64.wrap n) = n := wrapBack (of_decide_eq_true h).1 (of_decide_eq_true h).2
/-- An operation's bytes, a command's. -/
def opB (ok : Int) (r c v : ByteArray) (has : Bool) (x : ByteArray) : ByteArray := nS (wU ok) ++ (tS r ++ (tS c ++ (tS v ++ (fS has ++ tS x))))
theorem opB_size (ok : Int) (r c v : ByteArray) (has : Bool) (x : ByteArray) : (opB ok r c v has x).size ≤ r.size + c.size + v.size + x.size + 60 := by
  have n1 := nS_size (wU ok); have t1 := tS_size r; have t2 := tS_size c; have t3 := tS_size v; have t4 := tS_size x; have y1 := fS_size has
  simp only [opB, ByteArray.size_append]; omega
def cmdB (ck cl sq ep : Int) (o : ByteArray) (pr st : Int) (key val : ByteArray) (gr : Int) (mv : Bool) (wg : Int) (wk : ByteArray) (wi wo : Int) : ByteArray :=
  nS (wU ck) ++ (nS (wU cl) ++ (nS sq ++ (nS ep ++ (o ++ (nS pr ++ (nS (wU st) ++ (tS key ++ (tS val ++ (nS (wU gr) ++ (fS mv ++ (nS (wU wg) ++ (tS wk ++ (nS (wU wi) ++ nS (wU wo))))))))))))))
theorem cmdB_size (ck cl sq ep : Int) (o : ByteArray) (pr st : Int) (key val : ByteArray) (gr : Int) (mv : Bool) (wg : Int) (wk : ByteArray) (wi wo : Int) : (cmdB ck cl sq ep o pr st key val gr mv wg wk wi wo).size ≤ o.size + key.size + val.size + wk.size + 160 := by
  have n1 := nS_size (wU ck); have n2 := nS_size (wU cl); have n3 := nS_size sq; have n4 := nS_size ep; have n5 := nS_size pr; have n6 := nS_size (wU st); have n7 := nS_size (wU gr); have n8 := nS_size (wU wg); have n9 := nS_size (wU wi); have n10 := nS_size (wU wo)
  have t1 := tS_size key; have t2 := tS_size val; have t3 := tS_size wk; have y1 := fS_size mv
  simp only [cmdB, ByteArray.size_append]; omega

theorem byte1 : (ByteArray.mk #[1]) = yS 1 := rfl
theorem byte0 : (ByteArray.mk #[0]) = yS 0 := rfl
theorem op_ht (ix tm kd ck cl sq ep ok pr st gr wg wi wo : Int) (b r c v x key val wk : ByteArray) (mv : Bool) (l : List Int) (hi : iOk ok = true) (hb : room b (r.size + c.size + v.size + x.size + 200) = true) : HeapCall Try.prog 88 [.agg [.fn 73 [(1,0)], .fn 75 [(1,0)], .fn 77 [(1,0)]], .one (.ptr 2 7)] [.cells [.str (b)], .cells [.ptr 0 0], .cells [.int .u64 ix, .int .u64 tm, .int .i64 kd, .int .i64 ck, .int .i64 cl, .int .u64 sq, .int .u64 ep, .int .i64 ok, .str r, .str c, .str v, .bool true, .str x, .int .u64 pr, .int .i64 st, .str key, .str val, .int .i64 gr, .bool mv, .int .i64 wg, .str wk, .int .i64 wi, .int .i64 wo, .sl cI l .shared]] (.tup []) [.cells [.str (b ++ opB ok r c v true x)], .cells [.ptr 0 0], .cells [.int .u64 ix, .int .u64 tm, .int .i64 kd, .int .i64 ck, .int .i64 cl, .int .u64 sq, .int .u64 ep, .int .i64 ok, .str r, .str c, .str v, .bool true, .str x, .int .u64 pr, .int .i64 st, .str key, .str val, .int .i64 gr, .bool mv, .int .i64 wg, .str wk, .int .i64 wi, .int .i64 wo, .sl cI l .shared]] := by
  have hb' := room_le hb
  have f0 := wB hi
  have f1 := nS_size (IntKind.u64.wrap ok)
  have f2 := tS_size r
  have f3 := tS_size c
  have f4 := tS_size v
  have f5 := tS_size x
  have f6 := yS_size 1
  have f7 := yS_size 0
  have h := EWn.heap_cut 3 (os := [true]) (hp2 := [.cells [.str (b ++ nS (wU ok) ++ tS r ++ tS c ++ tS v ++ yS 1 ++ tS x)], .cells [.ptr 0 0], .cells [.int .u64 ix, .int .u64 tm, .int .i64 kd, .int .i64 ck, .int .i64 cl, .int .u64 sq, .int .u64 ep, .int .i64 (IntKind.i64.wrap (IntKind.u64.wrap ok)), .str r, .str c, .str v, .bool true, .str x, .int .u64 pr, .int .i64 st, .str key, .str val, .int .i64 gr, .bool mv, .int .i64 wg, .str wk, .int .i64 wi, .int .i64 wo, .sl cI l .shared]]) (cs := [(room (b ++ nS (IntKind.u64.wrap ok) ++ tS r ++ tS c ++ tS v ++ yS 1) (x.size + 20)), (room (b ++ nS (IntKind.u64.wrap ok) ++ tS r ++ tS c ++ tS v) 20), (true == true), (room (b ++ nS (IntKind.u64.wrap ok) ++ tS r ++ tS c) (v.size + 20)), (room (b ++ nS (IntKind.u64.wrap ok) ++ tS r) (c.size + 20)), (room (b ++ nS (IntKind.u64.wrap ok)) (r.size + 20)), (uOk (IntKind.u64.wrap ok)), (room b 20)]) (by kernel_rfl : EWn.run 88 [.agg [.fn 73 [(1,0)], .fn 75 [(1,0)], .fn 77 [(1,0)]], .one (.ptr 2 7)] [.cells [.str (b)], .cells [.ptr 0 0], .cells [.int .u64 ix, .int .u64 tm, .int .i64 kd, .int .i64 ck, .int .i64 cl, .int .u64 sq, .int .u64 ep, .int .i64 ok, .str r, .str c, .str v, .bool true, .str x, .int .u64 pr, .int .i64 st, .str key, .str val, .int .i64 gr, .bool mv, .int .i64 wg, .str wk, .int .i64 wi, .int .i64 wo, .sl cI l .shared]] [true] = some (.tup [], [(.cells [(.str (b ++ nS (IntKind.u64.wrap ok) ++ tS r ++ tS c ++ tS v ++ yS 1 ++ tS x))]), (.cells [(.ptr 0 0)]), (.cells [(.int .u64 ix), (.int .u64 tm), (.int .i64 kd), (.int .i64 ck), (.int .i64 cl), (.int .u64 sq), (.int .u64 ep), (.int .i64 (IntKind.i64.wrap (IntKind.u64.wrap ok))), (.str r), (.str c), (.str v), (.bool true), (.str x), (.int .u64 pr), (.int .i64 st), (.str key), (.str val), (.int .i64 gr), (.bool mv), (.int .i64 wg), (.str wk), (.int .i64 wi), (.int .i64 wo), (.sl (.int .i64) l .shared)]), (.cells [(.fn 73 [(1, 0)]), (.fn 75 [(1, 0)]), (.fn 77 [(1, 0)])])], [(room (b ++ nS (IntKind.u64.wrap ok) ++ tS r ++ tS c ++ tS v ++ yS 1) (x.size + 20)), (room (b ++ nS (IntKind.u64.wrap ok) ++ tS r ++ tS c ++ tS v) 20), (true == true), (room (b ++ nS (IntKind.u64.wrap ok) ++ tS r ++ tS c) (v.size + 20)), (room (b ++ nS (IntKind.u64.wrap ok) ++ tS r) (c.size + 20)), (room (b ++ nS (IntKind.u64.wrap ok)) (r.size + 20)), (uOk (IntKind.u64.wrap ok)), (room b 20)])) (allI (by
    simp only [uOk_wrap, f0,  room, List.all_cons, List.all_nil, Bool.and_true, Bool.and_eq_true, decide_eq_true_eq, ByteArray.size_append]
    and_intros <;> (first | exact True.intro | rfl | omega))) (by simp) (by simp [idsV]) rfl (by simp [idsB, idsC])
  have e : [.cells [.str (b ++ nS (wU ok) ++ tS r ++ tS c ++ tS v ++ yS 1 ++ tS x)], .cells [.ptr 0 0], .cells [.int .u64 ix, .int .u64 tm, .int .i64 kd, .int .i64 ck, .int .i64 cl, .int .u64 sq, .int .u64 ep, .int .i64 (IntKind.i64.wrap (IntKind.u64.wrap ok)), .str r, .str c, .str v, .bool true, .str x, .int .u64 pr, .int .i64 st, .str key, .str val, .int .i64 gr, .bool mv, .int .i64 wg, .str wk, .int .i64 wi, .int .i64 wo, .sl cI l .shared]] = ([.cells [.str (b ++ opB ok r c v true x)], .cells [.ptr 0 0], .cells [.int .u64 ix, .int .u64 tm, .int .i64 kd, .int .i64 ck, .int .i64 cl, .int .u64 sq, .int .u64 ep, .int .i64 ok, .str r, .str c, .str v, .bool true, .str x, .int .u64 pr, .int .i64 st, .str key, .str val, .int .i64 gr, .bool mv, .int .i64 wg, .str wk, .int .i64 wi, .int .i64 wo, .sl cI l .shared]] : List AB) := by
    simp only [f0,  wU, opB, cmdB, fS, yS, cond_true, cond_false, ByteArray.append_assoc]
  rw [← e]
  exact h
theorem pop_ht (ok : Int) (b r c v x : ByteArray) (hb : room b (r.size + c.size + v.size + x.size + 200) = true) : HeapCall Try.prog 101 [.one (.ptr 0 0), .agg [.int .i64 ok, .str r, .str c, .str v, .bool true, .str x]] [.cells [.str b]] (.tup []) [.cells [.str (b ++ opB ok r c v true x)]] := by
  have hb' := room_le hb
  have f0 := nS_size (IntKind.u64.wrap ok)
  have f1 := tS_size r
  have f2 := tS_size c
  have f3 := tS_size v
  have f4 := tS_size x
  have f5 := yS_size 1
  have f6 := yS_size 0
  have h := EWn.heap_cut 1 (os := [true]) (hp2 := [.cells [.str (b ++ nS (wU ok) ++ tS r ++ tS c ++ tS v ++ (ByteArray.mk #[1]) ++ tS x)]]) (cs := [(room (b ++ nS (IntKind.u64.wrap ok) ++ tS r ++ tS c ++ tS v ++ (ByteArray.mk #[1])) (x.size + 20)), (decide (ByteArray.size (b ++ nS (IntKind.u64.wrap ok) ++ tS r ++ tS c ++ tS v) + (ByteArray.mk #[1]).size ≤ 9223372036854775807)), (true == true), (room (b ++ nS (IntKind.u64.wrap ok) ++ tS r ++ tS c) (v.size + 20)), (room (b ++ nS (IntKind.u64.wrap ok) ++ tS r) (c.size + 20)), (room (b ++ nS (IntKind.u64.wrap ok)) (r.size + 20)), (uOk (IntKind.u64.wrap ok)), (room b 20)]) (by kernel_rfl : EWn.run 101 [.one (.ptr 0 0), .agg [.int .i64 ok, .str r, .str c, .str v, .bool true, .str x]] [.cells [.str b]] [true] = some (.tup [], [(.cells [(.str (b ++ nS (IntKind.u64.wrap ok) ++ tS r ++ tS c ++ tS v ++ (ByteArray.mk #[1]) ++ tS x))]), (.cells [(.int .i64 ok), (.str r), (.str c), (.str v), (.bool true), (.str x)])], [(room (b ++ nS (IntKind.u64.wrap ok) ++ tS r ++ tS c ++ tS v ++ (ByteArray.mk #[1])) (x.size + 20)), (decide (ByteArray.size (b ++ nS (IntKind.u64.wrap ok) ++ tS r ++ tS c ++ tS v) + (ByteArray.mk #[1]).size ≤ 9223372036854775807)), (true == true), (room (b ++ nS (IntKind.u64.wrap ok) ++ tS r ++ tS c) (v.size + 20)), (room (b ++ nS (IntKind.u64.wrap ok) ++ tS r) (c.size + 20)), (room (b ++ nS (IntKind.u64.wrap ok)) (r.size + 20)), (uOk (IntKind.u64.wrap ok)), (room b 20)])) (allI (by
    simp only [uOk_wrap, byte1,  room, List.all_cons, List.all_nil, Bool.and_true, Bool.and_eq_true, decide_eq_true_eq, ByteArray.size_append]
    and_intros <;> (first | exact True.intro | rfl | omega))) (by simp) (by simp [idsV]) rfl (by simp [idsB, idsC])
  have e : [.cells [.str (b ++ nS (wU ok) ++ tS r ++ tS c ++ tS v ++ (ByteArray.mk #[1]) ++ tS x)]] = ([.cells [.str (b ++ opB ok r c v true x)]] : List AB) := by
    simp only [byte1,  wU, opB, cmdB, fS, yS, cond_true, cond_false, ByteArray.append_assoc]
  rw [← e]
  exact h
theorem op_hf (ix tm kd ck cl sq ep ok pr st gr wg wi wo : Int) (b r c v x key val wk : ByteArray) (mv : Bool) (l : List Int) (hi : iOk ok = true) (hb : room b (r.size + c.size + v.size + x.size + 200) = true) : HeapCall Try.prog 88 [.agg [.fn 73 [(1,0)], .fn 75 [(1,0)], .fn 77 [(1,0)]], .one (.ptr 2 7)] [.cells [.str (b)], .cells [.ptr 0 0], .cells [.int .u64 ix, .int .u64 tm, .int .i64 kd, .int .i64 ck, .int .i64 cl, .int .u64 sq, .int .u64 ep, .int .i64 ok, .str r, .str c, .str v, .bool false, .str x, .int .u64 pr, .int .i64 st, .str key, .str val, .int .i64 gr, .bool mv, .int .i64 wg, .str wk, .int .i64 wi, .int .i64 wo, .sl cI l .shared]] (.tup []) [.cells [.str (b ++ opB ok r c v false x)], .cells [.ptr 0 0], .cells [.int .u64 ix, .int .u64 tm, .int .i64 kd, .int .i64 ck, .int .i64 cl, .int .u64 sq, .int .u64 ep, .int .i64 ok, .str r, .str c, .str v, .bool false, .str x, .int .u64 pr, .int .i64 st, .str key, .str val, .int .i64 gr, .bool mv, .int .i64 wg, .str wk, .int .i64 wi, .int .i64 wo, .sl cI l .shared]] := by
  have hb' := room_le hb
  have f0 := wB hi
  have f1 := nS_size (IntKind.u64.wrap ok)
  have f2 := tS_size r
  have f3 := tS_size c
  have f4 := tS_size v
  have f5 := tS_size x
  have f6 := yS_size 1
  have f7 := yS_size 0
  have h := EWn.heap_cut 3 (os := [false]) (hp2 := [.cells [.str (b ++ nS (wU ok) ++ tS r ++ tS c ++ tS v ++ yS 0 ++ tS x)], .cells [.ptr 0 0], .cells [.int .u64 ix, .int .u64 tm, .int .i64 kd, .int .i64 ck, .int .i64 cl, .int .u64 sq, .int .u64 ep, .int .i64 (IntKind.i64.wrap (IntKind.u64.wrap ok)), .str r, .str c, .str v, .bool false, .str x, .int .u64 pr, .int .i64 st, .str key, .str val, .int .i64 gr, .bool mv, .int .i64 wg, .str wk, .int .i64 wi, .int .i64 wo, .sl cI l .shared]]) (cs := [(room (b ++ nS (IntKind.u64.wrap ok) ++ tS r ++ tS c ++ tS v ++ yS 0) (x.size + 20)), (room (b ++ nS (IntKind.u64.wrap ok) ++ tS r ++ tS c ++ tS v) 20), (false == false), (room (b ++ nS (IntKind.u64.wrap ok) ++ tS r ++ tS c) (v.size + 20)), (room (b ++ nS (IntKind.u64.wrap ok) ++ tS r) (c.size + 20)), (room (b ++ nS (IntKind.u64.wrap ok)) (r.size + 20)), (uOk (IntKind.u64.wrap ok)), (room b 20)]) (by kernel_rfl : EWn.run 88 [.agg [.fn 73 [(1,0)], .fn 75 [(1,0)], .fn 77 [(1,0)]], .one (.ptr 2 7)] [.cells [.str (b)], .cells [.ptr 0 0], .cells [.int .u64 ix, .int .u64 tm, .int .i64 kd, .int .i64 ck, .int .i64 cl, .int .u64 sq, .int .u64 ep, .int .i64 ok, .str r, .str c, .str v, .bool false, .str x, .int .u64 pr, .int .i64 st, .str key, .str val, .int .i64 gr, .bool mv, .int .i64 wg, .str wk, .int .i64 wi, .int .i64 wo, .sl cI l .shared]] [false] = some (.tup [], [(.cells [(.str (b ++ nS (IntKind.u64.wrap ok) ++ tS r ++ tS c ++ tS v ++ yS 0 ++ tS x))]), (.cells [(.ptr 0 0)]), (.cells [(.int .u64 ix), (.int .u64 tm), (.int .i64 kd), (.int .i64 ck), (.int .i64 cl), (.int .u64 sq), (.int .u64 ep), (.int .i64 (IntKind.i64.wrap (IntKind.u64.wrap ok))), (.str r), (.str c), (.str v), (.bool false), (.str x), (.int .u64 pr), (.int .i64 st), (.str key), (.str val), (.int .i64 gr), (.bool mv), (.int .i64 wg), (.str wk), (.int .i64 wi), (.int .i64 wo), (.sl (.int .i64) l .shared)]), (.cells [(.fn 73 [(1, 0)]), (.fn 75 [(1, 0)]), (.fn 77 [(1, 0)])])], [(room (b ++ nS (IntKind.u64.wrap ok) ++ tS r ++ tS c ++ tS v ++ yS 0) (x.size + 20)), (room (b ++ nS (IntKind.u64.wrap ok) ++ tS r ++ tS c ++ tS v) 20), (false == false), (room (b ++ nS (IntKind.u64.wrap ok) ++ tS r ++ tS c) (v.size + 20)), (room (b ++ nS (IntKind.u64.wrap ok) ++ tS r) (c.size + 20)), (room (b ++ nS (IntKind.u64.wrap ok)) (r.size + 20)), (uOk (IntKind.u64.wrap ok)), (room b 20)])) (allI (by
    simp only [uOk_wrap, f0,  room, List.all_cons, List.all_nil, Bool.and_true, Bool.and_eq_true, decide_eq_true_eq, ByteArray.size_append]
    and_intros <;> (first | exact True.intro | rfl | omega))) (by simp) (by simp [idsV]) rfl (by simp [idsB, idsC])
  have e : [.cells [.str (b ++ nS (wU ok) ++ tS r ++ tS c ++ tS v ++ yS 0 ++ tS x)], .cells [.ptr 0 0], .cells [.int .u64 ix, .int .u64 tm, .int .i64 kd, .int .i64 ck, .int .i64 cl, .int .u64 sq, .int .u64 ep, .int .i64 (IntKind.i64.wrap (IntKind.u64.wrap ok)), .str r, .str c, .str v, .bool false, .str x, .int .u64 pr, .int .i64 st, .str key, .str val, .int .i64 gr, .bool mv, .int .i64 wg, .str wk, .int .i64 wi, .int .i64 wo, .sl cI l .shared]] = ([.cells [.str (b ++ opB ok r c v false x)], .cells [.ptr 0 0], .cells [.int .u64 ix, .int .u64 tm, .int .i64 kd, .int .i64 ck, .int .i64 cl, .int .u64 sq, .int .u64 ep, .int .i64 ok, .str r, .str c, .str v, .bool false, .str x, .int .u64 pr, .int .i64 st, .str key, .str val, .int .i64 gr, .bool mv, .int .i64 wg, .str wk, .int .i64 wi, .int .i64 wo, .sl cI l .shared]] : List AB) := by
    simp only [f0,  wU, opB, cmdB, fS, yS, cond_true, cond_false, ByteArray.append_assoc]
  rw [← e]
  exact h
theorem pop_hf (ok : Int) (b r c v x : ByteArray) (hb : room b (r.size + c.size + v.size + x.size + 200) = true) : HeapCall Try.prog 101 [.one (.ptr 0 0), .agg [.int .i64 ok, .str r, .str c, .str v, .bool false, .str x]] [.cells [.str b]] (.tup []) [.cells [.str (b ++ opB ok r c v false x)]] := by
  have hb' := room_le hb
  have f0 := nS_size (IntKind.u64.wrap ok)
  have f1 := tS_size r
  have f2 := tS_size c
  have f3 := tS_size v
  have f4 := tS_size x
  have f5 := yS_size 1
  have f6 := yS_size 0
  have h := EWn.heap_cut 1 (os := [false]) (hp2 := [.cells [.str (b ++ nS (wU ok) ++ tS r ++ tS c ++ tS v ++ (ByteArray.mk #[0]) ++ tS x)]]) (cs := [(room (b ++ nS (IntKind.u64.wrap ok) ++ tS r ++ tS c ++ tS v ++ (ByteArray.mk #[0])) (x.size + 20)), (decide (ByteArray.size (b ++ nS (IntKind.u64.wrap ok) ++ tS r ++ tS c ++ tS v) + (ByteArray.mk #[0]).size ≤ 9223372036854775807)), (false == false), (room (b ++ nS (IntKind.u64.wrap ok) ++ tS r ++ tS c) (v.size + 20)), (room (b ++ nS (IntKind.u64.wrap ok) ++ tS r) (c.size + 20)), (room (b ++ nS (IntKind.u64.wrap ok)) (r.size + 20)), (uOk (IntKind.u64.wrap ok)), (room b 20)]) (by kernel_rfl : EWn.run 101 [.one (.ptr 0 0), .agg [.int .i64 ok, .str r, .str c, .str v, .bool false, .str x]] [.cells [.str b]] [false] = some (.tup [], [(.cells [(.str (b ++ nS (IntKind.u64.wrap ok) ++ tS r ++ tS c ++ tS v ++ (ByteArray.mk #[0]) ++ tS x))]), (.cells [(.int .i64 ok), (.str r), (.str c), (.str v), (.bool false), (.str x)])], [(room (b ++ nS (IntKind.u64.wrap ok) ++ tS r ++ tS c ++ tS v ++ (ByteArray.mk #[0])) (x.size + 20)), (decide (ByteArray.size (b ++ nS (IntKind.u64.wrap ok) ++ tS r ++ tS c ++ tS v) + (ByteArray.mk #[0]).size ≤ 9223372036854775807)), (false == false), (room (b ++ nS (IntKind.u64.wrap ok) ++ tS r ++ tS c) (v.size + 20)), (room (b ++ nS (IntKind.u64.wrap ok) ++ tS r) (c.size + 20)), (room (b ++ nS (IntKind.u64.wrap ok)) (r.size + 20)), (uOk (IntKind.u64.wrap ok)), (room b 20)])) (allI (by
    simp only [uOk_wrap, byte0,  room, List.all_cons, List.all_nil, Bool.and_true, Bool.and_eq_true, decide_eq_true_eq, ByteArray.size_append]
    and_intros <;> (first | exact True.intro | rfl | omega))) (by simp) (by simp [idsV]) rfl (by simp [idsB, idsC])
  have e : [.cells [.str (b ++ nS (wU ok) ++ tS r ++ tS c ++ tS v ++ (ByteArray.mk #[0]) ++ tS x)]] = ([.cells [.str (b ++ opB ok r c v false x)]] : List AB) := by
    simp only [byte0,  wU, opB, cmdB, fS, yS, cond_true, cond_false, ByteArray.append_assoc]
  rw [← e]
  exact h
theorem op_h (ix tm kd ck cl sq ep ok pr st gr wg wi wo : Int) (b r c v x key val wk : ByteArray) (has mv : Bool) (l : List Int) (hi : iOk ok = true) (hb : room b (r.size + c.size + v.size + x.size + 200) = true) : HeapCall Try.prog 88 [.agg [.fn 73 [(1,0)], .fn 75 [(1,0)], .fn 77 [(1,0)]], .one (.ptr 2 7)] [.cells [.str (b)], .cells [.ptr 0 0], .cells [.int .u64 ix, .int .u64 tm, .int .i64 kd, .int .i64 ck, .int .i64 cl, .int .u64 sq, .int .u64 ep, .int .i64 ok, .str r, .str c, .str v, .bool has, .str x, .int .u64 pr, .int .i64 st, .str key, .str val, .int .i64 gr, .bool mv, .int .i64 wg, .str wk, .int .i64 wi, .int .i64 wo, .sl cI l .shared]] (.tup []) [.cells [.str (b ++ opB ok r c v has x)], .cells [.ptr 0 0], .cells [.int .u64 ix, .int .u64 tm, .int .i64 kd, .int .i64 ck, .int .i64 cl, .int .u64 sq, .int .u64 ep, .int .i64 ok, .str r, .str c, .str v, .bool has, .str x, .int .u64 pr, .int .i64 st, .str key, .str val, .int .i64 gr, .bool mv, .int .i64 wg, .str wk, .int .i64 wi, .int .i64 wo, .sl cI l .shared]] := by
  cases has
  · exact op_hf ix tm kd ck cl sq ep ok pr st gr wg wi wo b r c v x key val wk mv l hi hb
  · exact op_ht ix tm kd ck cl sq ep ok pr st gr wg wi wo b r c v x key val wk mv l hi hb
theorem pop_h (ok : Int) (b r c v : ByteArray) (has : Bool) (x : ByteArray) (hb : room b (r.size + c.size + v.size + x.size + 200) = true) : HeapCall Try.prog 101 [.one (.ptr 0 0), .agg [.int .i64 ok, .str r, .str c, .str v, .bool has, .str x]] [.cells [.str b]] (.tup []) [.cells [.str (b ++ opB ok r c v has x)]] := by
  cases has
  · exact pop_hf ok b r c v x hb
  · exact pop_ht ok b r c v x hb
def selLay (args : List AV) (hp : List AB) : List Nat := match args with
  | [.agg [.fn _ [(x, 0)], _, _], .one (.ptr i _)] => match hp[x]? with
    | some (.cells [.ptr y 0]) => [y, x, i]
    | _ => []
  | _ => []
noncomputable def EOp : Env Try.prog := (EWn.addHF 88 selLay
  (fun args hp os => match args, hp with
    | [.agg [.fn f1 [(1, 0)], .fn f2 [(1, 0)], .fn f3 [(1, 0)]], .one (.ptr 2 7)], [.cells [.str b], .cells [.ptr 0 0], .cells [.int .u64 ix, .int .u64 tm, .int .i64 kd, .int .i64 ck, .int .i64 cl, .int .u64 sq, .int .u64 ep, .int .i64 ok, .str r, .str c, .str v, .bool has, .str x, .int .u64 pr, .int .i64 st, .str key, .str val, .int .i64 gr, .bool mv, .int .i64 wg, .str wk, .int .i64 wi, .int .i64 wo, .sl (.int .i64) l .shared]] =>
      retC (.tup [], [.cells [.str (b ++ opB ok r c v has x)], .cells [.ptr 0 0], .cells [.int .u64 ix, .int .u64 tm, .int .i64 kd, .int .i64 ck, .int .i64 cl, .int .u64 sq, .int .u64 ep, .int .i64 ok, .str r, .str c, .str v, .bool has, .str x, .int .u64 pr, .int .i64 st, .str key, .str val, .int .i64 gr, .bool mv, .int .i64 wg, .str wk, .int .i64 wi, .int .i64 wo, .sl cI l .shared]]) [decide (f1 = 73 ∧ f2 = 75 ∧ f3 = 77), iOk ok, room b (r.size + c.size + v.size + x.size + 200)] os
    | _, _ => none)
  (fun args hp os r' hp' cs os' h hc => by
    split at h
    · simp only [retC, Option.some.injEq, Prod.mk.injEq] at h
      obtain ⟨⟨rfl, rfl⟩, rfl, rfl⟩ := h
      obtain ⟨h1, hc⟩ := of_allTc hc
      obtain ⟨h2, hc⟩ := of_allTc hc
      obtain ⟨h3, _⟩ := of_allTc hc
      obtain ⟨rfl, rfl, rfl⟩ := of_decide_eq_true h1
      exact op_h _ _ _ _ _ _ _ _ _ _ _ _ _ _ _ _ _ _ _ _ _ _ _ _ _ h2 h3
    · cases h)).addHF 101 (fun args _ => match args with
    | [.one (.ptr i 0), _] => [i]
    | _ => [])
  (fun args hp os => match args, hp with
    | [.one (.ptr 0 0), .agg [.int .i64 ok, .str r, .str c, .str v, .bool has, .str x]], [.cells [.str b]] => retC (.tup [], [.cells [.str (b ++ opB ok r c v has x)]]) [room b (r.size + c.size + v.size + x.size + 200)] os
    | _, _ => none)
  (fun args hp os r' hp' cs os' h hc => by
    split at h
    · simp only [retC, Option.some.injEq, Prod.mk.injEq] at h
      obtain ⟨⟨rfl, rfl⟩, rfl, rfl⟩ := h
      exact pop_h _ _ _ _ _ _ _ (of_allTc hc).1
    · cases h)
end Go.Proofs.Ytjplobgambnhjaa
