/- A session's bytes; no statement. -/
import Derived.Test.YtkpehdhkhmomoaaEnc
set_option linter.unusedVariables false
namespace Go.Proofs.Ytkpehdhkhmomoaa
open Go Go.Eng

def bE (n : Int) : ByteArray := ({ data := #[] } : ByteArray) ++ strOfNums (numB n.toNat)
theorem bE_size (n : Int) : (bE n).size ≤ 11 := by
  unfold bE; rw [emptyApp, strOfNums_size]; exact numB_len _
theorem encV_size (e : Int) (f : Bool) (row val : ByteArray) (ver : Int) : (encV e f row val ver).size ≤ 65613 := by
  unfold encV
  cases h : resOk e row val ver with
  | false => exact Nat.zero_le _
  | true =>
    have := encB_size e f row val ver
    have := resOk_bounds h
    rw [cond_true]; omega
def putE (n e : Int) (f : Bool) (row val : ByteArray) (ver : Int) : Int := bif decide (n ≥ 1) then (bif !decide (n ≤ 1099511627776) then 2 else bif encE e row val ver != 0 then 2 else bif decide ((((bE n ++ encV e f row val ver).size : Nat) : Int) > 65536) then 3 else 0) else 2
def putV (n e : Int) (f : Bool) (row val : ByteArray) (ver : Int) : ByteArray := bif decide (n ≥ 1) then (bif !decide (n ≤ 1099511627776) then ByteArray.mk #[] else bif encE e row val ver != 0 then ByteArray.mk #[] else bif decide ((((bE n ++ encV e f row val ver).size : Nat) : Int) > 65536) then ByteArray.mk #[] else bE n ++ encV e f row val ver) else ByteArray.mk #[]
theorem put_pure (n e : Int) (f : Bool) (row val : ByteArray) (ver : Int) (hn : uOk n = true) (hv : uOk ver = true) : PureCall Try.prog 6 [vU n, .agg [.int .i64 e, .bool f, .str row, .str val, .int .u64 ver]] (tupS (putV n e f row val ver) (putE n e f row val ver)) := by
  have g1 : decide ((bE n).size + (encV e f row val ver).size ≤ 9223372036854775807) = true := decide_eq_true (by have := bE_size n; have := encV_size e f row val ver; omega)
  cases h1 : (decide (n ≥ 1) : Bool) with
  | true =>
    cases h2 : (decide (n ≤ 1099511627776) : Bool) with
    | true =>
      cases h3 : (encE e row val ver != 0 : Bool) with
      | true =>
        exact PureCall.res (EEnc.pure_ok (os := [true, true, true, false, false, false, true]) (r := (.tup [(false, [(.str ((ByteArray.mk #[])))]), (false, [(.int .i64 (2))])])) (cs := [(encE e row val ver != 0) == true, (!decide (n ≤ 1099511627776)) == false, (!decide (n ≤ 1099511627776)) == false, (!decide (n ≤ 1099511627776)) == false, decide (n ≥ 1) == true, decide (n ≥ 1) == true, decide (n ≥ 1) == true, uOk ver]) (by kernel_rfl) (allI (by simp only [h1, h2, h3, hn, hv, g1]; rfl))) (by simp only [putV, putE, h1, h2, h3]; rfl)
      | false =>
        cases h4 : (decide ((((bE n ++ encV e f row val ver).size : Nat) : Int) > 65536) : Bool) with
        | true =>
          exact PureCall.res (EEnc.pure_ok (os := [true, true, true, false, false, false, false, true]) (r := (.tup [(false, [(.str ((ByteArray.mk #[])))]), (false, [(.int .i64 (3))])])) (cs := [decide ((((bE n ++ encV e f row val ver).size : Nat) : Int) > 65536) == true, decide ((bE n).size + (encV e f row val ver).size ≤ 9223372036854775807), uOk n, decide ((ByteArray.mk #[]).size + 20 ≤ 140737488355328), (encE e row val ver != 0) == false, (!decide (n ≤ 1099511627776)) == false, (!decide (n ≤ 1099511627776)) == false, (!decide (n ≤ 1099511627776)) == false, decide (n ≥ 1) == true, decide (n ≥ 1) == true, decide (n ≥ 1) == true, uOk ver]) (by kernel_rfl) (allI (by simp only [h1, h2, h3, h4, hn, hv, g1]; rfl))) (by simp only [putV, putE, h1, h2, h3, h4]; rfl)
        | false =>
          exact PureCall.res (EEnc.pure_ok (os := [true, true, true, false, false, false, false, false]) (r := (.tup [(false, [(.str (bE n ++ encV e f row val ver))]), (false, [(.int .i64 (0))])])) (cs := [decide ((((bE n ++ encV e f row val ver).size : Nat) : Int) > 65536) == false, decide ((bE n).size + (encV e f row val ver).size ≤ 9223372036854775807), uOk n, decide ((ByteArray.mk #[]).size + 20 ≤ 140737488355328), (encE e row val ver != 0) == false, (!decide (n ≤ 1099511627776)) == false, (!decide (n ≤ 1099511627776)) == false, (!decide (n ≤ 1099511627776)) == false, decide (n ≥ 1) == true, decide (n ≥ 1) == true, decide (n ≥ 1) == true, uOk ver]) (by kernel_rfl) (allI (by simp only [h1, h2, h3, h4, hn, hv, g1]; rfl))) (by simp only [putV, putE, h1, h2, h3, h4]; rfl)
    | false =>
      exact PureCall.res (EEnc.pure_ok (os := [true, true, true, true, true, true, true]) (r := (.tup [(false, [(.str ((ByteArray.mk #[])))]), (false, [(.int .i64 (2))])])) (cs := [true == true, (!decide (n ≤ 1099511627776)) == true, (!decide (n ≤ 1099511627776)) == true, (!decide (n ≤ 1099511627776)) == true, decide (n ≥ 1) == true, decide (n ≥ 1) == true, decide (n ≥ 1) == true, uOk ver]) (by kernel_rfl) (allI (by simp only [h1, h2, hn, hv, g1]; rfl))) (by simp only [putV, putE, h1, h2]; rfl)
  | false =>
    exact PureCall.res (EEnc.pure_ok (os := [false, false, false, true]) (r := (.tup [(false, [(.str ((ByteArray.mk #[])))]), (false, [(.int .i64 (2))])])) (cs := [(!false) == true, decide (n ≥ 1) == false, decide (n ≥ 1) == false, decide (n ≥ 1) == false, uOk ver]) (by kernel_rfl) (allI (by simp only [h1, hn, hv, g1]; rfl))) (by simp only [putV, putE, h1]; rfl)
theorem rput_pure (n e : Int) (f : Bool) (row val : ByteArray) (ver : Int) (hn : uOk n = true) (hv : uOk ver = true) : PureCall Try.prog 7 [vU n, .agg [.int .i64 e, .bool f, .str row, .str val, .int .u64 ver]] (tupS (putV n e f row val ver) (putE n e f row val ver)) := by
  have g1 : decide ((bE n).size + (encV e f row val ver).size ≤ 9223372036854775807) = true := decide_eq_true (by have := bE_size n; have := encV_size e f row val ver; omega)
  have g2 : decide ((ByteArray.mk #[]).size + (strOfNums (numB n.toNat)).size ≤ 9223372036854775807) = true := decide_eq_true (by rw [strOfNums_size]; have := numB_len n.toNat; have : (ByteArray.mk #[]).size = 0 := rfl; omega)
  cases h1 : (decide (n ≥ 1) : Bool) with
  | true =>
    cases h2 : (decide (n ≤ 1099511627776) : Bool) with
    | true =>
      cases h3 : (encE e row val ver != 0 : Bool) with
      | true =>
        exact PureCall.res (EEnc.pure_ok (os := [true, true, true, false, false, false, true]) (r := (.tup [(false, [(.str ((ByteArray.mk #[])))]), (false, [(.int .i64 (2))])])) (cs := [(encE e row val ver != 0) == true, (!decide (n ≤ 1099511627776)) == false, (!decide (n ≤ 1099511627776)) == false, (!decide (n ≤ 1099511627776)) == false, decide (n ≥ 1) == true, decide (n ≥ 1) == true, decide (n ≥ 1) == true, uOk ver]) (by kernel_rfl) (allI (by simp only [h1, h2, h3, hn, hv, g1, g2]; rfl))) (by simp only [putV, putE, h1, h2, h3]; rfl)
      | false =>
        cases h4 : (decide ((((bE n ++ encV e f row val ver).size : Nat) : Int) > 65536) : Bool) with
        | true =>
          exact PureCall.res (EEnc.pure_ok (os := [true, true, true, false, false, false, false, true]) (r := (.tup [(false, [(.str ((ByteArray.mk #[])))]), (false, [(.int .i64 (3))])])) (cs := [decide ((((bE n ++ encV e f row val ver).size : Nat) : Int) > 65536) == true, decide ((bE n).size + (encV e f row val ver).size ≤ 9223372036854775807), decide ((ByteArray.mk #[]).size + (strOfNums (numB n.toNat)).size ≤ 9223372036854775807), uOk n, (encE e row val ver != 0) == false, (!decide (n ≤ 1099511627776)) == false, (!decide (n ≤ 1099511627776)) == false, (!decide (n ≤ 1099511627776)) == false, decide (n ≥ 1) == true, decide (n ≥ 1) == true, decide (n ≥ 1) == true, uOk ver]) (by kernel_rfl) (allI (by simp only [h1, h2, h3, h4, hn, hv, g1, g2]; rfl))) (by simp only [putV, putE, h1, h2, h3, h4]; rfl)
        | false =>
          exact PureCall.res (EEnc.pure_ok (os := [true, true, true, false, false, false, false, false]) (r := (.tup [(false, [(.str (bE n ++ encV e f row val ver))]), (false, [(.int .i64 (0))])])) (cs := [decide ((((bE n ++ encV e f row val ver).size : Nat) : Int) > 65536) == false, decide ((bE n).size + (encV e f row val ver).size ≤ 9223372036854775807), decide ((ByteArray.mk #[]).size + (strOfNums (numB n.toNat)).size ≤ 9223372036854775807), uOk n, (encE e row val ver != 0) == false, (!decide (n ≤ 1099511627776)) == false, (!decide (n ≤ 1099511627776)) == false, (!decide (n ≤ 1099511627776)) == false, decide (n ≥ 1) == true, decide (n ≥ 1) == true, decide (n ≥ 1) == true, uOk ver]) (by kernel_rfl) (allI (by simp only [h1, h2, h3, h4, hn, hv, g1, g2]; rfl))) (by simp only [putV, putE, h1, h2, h3, h4]; rfl)
    | false =>
      exact PureCall.res (EEnc.pure_ok (os := [true, true, true, true, true, true, true]) (r := (.tup [(false, [(.str ((ByteArray.mk #[])))]), (false, [(.int .i64 (2))])])) (cs := [true == true, (!decide (n ≤ 1099511627776)) == true, (!decide (n ≤ 1099511627776)) == true, (!decide (n ≤ 1099511627776)) == true, decide (n ≥ 1) == true, decide (n ≥ 1) == true, decide (n ≥ 1) == true, uOk ver]) (by kernel_rfl) (allI (by simp only [h1, h2, hn, hv, g1, g2]; rfl))) (by simp only [putV, putE, h1, h2]; rfl)
  | false =>
    exact PureCall.res (EEnc.pure_ok (os := [false, false, false, true]) (r := (.tup [(false, [(.str ((ByteArray.mk #[])))]), (false, [(.int .i64 (2))])])) (cs := [(!false) == true, decide (n ≥ 1) == false, decide (n ≥ 1) == false, decide (n ≥ 1) == false, uOk ver]) (by kernel_rfl) (allI (by simp only [h1, hn, hv, g1, g2]; rfl))) (by simp only [putV, putE, h1]; rfl)
noncomputable def EPut : Env Try.prog := (EEnc.addT1 6 [.one cU, .agg rRes] (fun d => tupS (putV d.1 d.2.1.1 d.2.1.2.1 d.2.1.2.2.1 d.2.1.2.2.2.1 d.2.1.2.2.2.2.1) (putE d.1 d.2.1.1 d.2.1.2.1 d.2.1.2.2.1 d.2.1.2.2.2.1 d.2.1.2.2.2.2.1)) (fun d => [uOk d.1, uOk d.2.1.2.2.2.2.1])
  fun d hc => put_pure d.1 d.2.1.1 d.2.1.2.1 d.2.1.2.2.1 d.2.1.2.2.2.1 d.2.1.2.2.2.2.1 (of_allTc hc).1 (of_allTc (of_allTc hc).2).1).addT1
  7 [.one cU, .agg rRes] (fun d => tupS (putV d.1 d.2.1.1 d.2.1.2.1 d.2.1.2.2.1 d.2.1.2.2.2.1 d.2.1.2.2.2.2.1) (putE d.1 d.2.1.1 d.2.1.2.1 d.2.1.2.2.1 d.2.1.2.2.2.1 d.2.1.2.2.2.2.1)) (fun d => [uOk d.1, uOk d.2.1.2.2.2.2.1])
  fun d hc => rput_pure d.1 d.2.1.1 d.2.1.2.1 d.2.1.2.2.1 d.2.1.2.2.2.1 d.2.1.2.2.2.2.1 (of_allTc hc).1 (of_allTc (of_allTc hc).2).1
theorem works_pure : PureCall Try.prog 8 [] (vB true) := E0.closedP (by kernel_rfl)
noncomputable def EPutW : Env Try.prog := EPut.addT1 8 [] (fun _ => vB true) (fun _ => []) fun d _ => works_pure
end Go.Proofs.Ytkpehdhkhmomoaa
