/- A result's bytes; no statement. -/
import Derived.Test.YtkpehdhkhmomoaaRes
set_option linter.unusedVariables false
namespace Go.Proofs.Ytkpehdhkhmomoaa
open Go Go.Eng

theorem apE (a b : ByteArray) : ByteArray.append a b = a ++ b := rfl
theorem emptyApp (x : ByteArray) : ({ data := #[] } : ByteArray) ++ x = x := by
  apply ByteArray.ext
  simp [ByteArray.data_append]
theorem emptySize : ({ data := #[] } : ByteArray).size = 0 := rfl
theorem oneSize (a : UInt8) : ({ data := #[a] } : ByteArray).size = 1 := rfl
theorem uOk_wrap (n : Int) : uOk (IntKind.u64.wrap n) = true := by
  have h : IntKind.u64.wrap n = n % 18446744073709551616 := by
    simp only [IntKind.wrap, IntKind.signed, IntKind.bits, Bool.false_and]
    simp
  rw [h, uOk, decide_eq_true (by omega), decide_eq_true (by omega)]; rfl
/-- A number's bytes, a text's. -/
def nS (v : Int) : ByteArray := strOfNums (numB v.toNat)
def tS (b : ByteArray) : ByteArray := nS (IntKind.u64.wrap ((b.size : Nat) : Int)) ++ b
theorem nS_size (v : Int) : (nS v).size ≤ 11 := by unfold nS; rw [strOfNums_size]; exact numB_len _
def encB (e : Int) (f : Bool) (row val : ByteArray) (ver : Int) : ByteArray := nS (IntKind.u64.wrap e) ++ strOfNums [bif f then 1 else 0] ++ tS row ++ tS val ++ nS ver
theorem encB_size (e : Int) (f : Bool) (row val : ByteArray) (ver : Int) : (encB e f row val ver).size ≤ row.size + val.size + 45 := by
  have h1 := nS_size (IntKind.u64.wrap e)
  have h2 := nS_size (IntKind.u64.wrap ((row.size : Nat) : Int))
  have h3 := nS_size (IntKind.u64.wrap ((val.size : Nat) : Int))
  have h4 := nS_size ver
  simp only [encB, tS, ByteArray.size_append, strOfNums_size, List.length_cons, List.length_nil]
  omega
theorem resOk_bounds {e : Int} {row val : ByteArray} {ver : Int} (h : resOk e row val ver = true) : row.size ≤ 32 ∧ val.size ≤ 65536 := by
  simp only [resOk, Bool.and_eq_true, decide_eq_true_eq] at h
  omega
abbrev tupS (s : ByteArray) (c : Int) : AV := .tup [(false, [.str s]), (false, [.int .i64 c])]
def encV (e : Int) (f : Bool) (row val : ByteArray) (ver : Int) : ByteArray := bif resOk e row val ver then encB e f row val ver else { data := #[] }
def encE (e : Int) (row val : ByteArray) (ver : Int) : Int := bif resOk e row val ver then 0 else 2

theorem enc_pure (e : Int) (f : Bool) (row val : ByteArray) (ver : Int) (hv : uOk ver = true) : PureCall Try.prog 10 [.agg [.int .i64 e, .bool f, .str row, .str val, .int .u64 ver]] (tupS (encV e f row val ver) (encE e row val ver)) := by
  unfold encV encE
  have u1 := uOk_wrap e
  have u2 := uOk_wrap ((row.size : Nat) : Int)
  have u3 := uOk_wrap ((val.size : Nat) : Int)
  have n1 := nS_size (IntKind.u64.wrap e)
  have n2 := nS_size (IntKind.u64.wrap ((row.size : Nat) : Int))
  have n3 := nS_size (IntKind.u64.wrap ((val.size : Nat) : Int))
  have n4 := nS_size ver
  have v1 := numB_len (IntKind.u64.wrap e).toNat
  have v2 := numB_len (IntKind.u64.wrap ((row.size : Nat) : Int)).toNat
  have v3 := numB_len (IntKind.u64.wrap ((val.size : Nat) : Int)).toNat
  have v4 := numB_len ver.toNat
  cases h : resOk e row val ver with
  | false => exact ERes.pure_ok (os := [true]) (r := tupS { data := #[] } 2) (cs := [((!resOk e row val ver) == true)]) (by kernel_rfl) (allI (by rw [h]; rfl))
  | true =>
    obtain ⟨b1, b2⟩ := resOk_bounds h
    cases f with
    | true =>
      refine PureCall.res (ERes.pure_ok (os := [false, true, false]) (r := (.tup [(false, [(.str ((((strOfNums (bytesOf ((ByteArray.mk #[]).append (strOfNums (numB (IntKind.u64.wrap e).toNat))) ++ [1])).append (strOfNums (numB (IntKind.u64.wrap ((row.size : Nat) : Int)).toNat)) ++ row).append (strOfNums (numB (IntKind.u64.wrap ((val.size : Nat) : Int)).toNat)) ++ val).append (strOfNums (numB ver.toNat))))]), (false, [(.int .i64 (0))])])) (cs := (fun f : Bool => [(uOk ver), (decide ((((strOfNums (bytesOf ((ByteArray.mk #[]).append (strOfNums (numB (IntKind.u64.wrap e).toNat))) ++ [1])).append (strOfNums (numB (IntKind.u64.wrap ((row.size : Nat) : Int)).toNat)) ++ row).append (strOfNums (numB (IntKind.u64.wrap ((val.size : Nat) : Int)).toNat)) ++ val).size + 20 ≤ 140737488355328)), (decide ((((strOfNums (bytesOf ((ByteArray.mk #[]).append (strOfNums (numB (IntKind.u64.wrap e).toNat))) ++ [1])).append (strOfNums (numB (IntKind.u64.wrap ((row.size : Nat) : Int)).toNat)) ++ row).append (strOfNums (numB (IntKind.u64.wrap ((val.size : Nat) : Int)).toNat))).size + val.size ≤ 9223372036854775807)), (uOk (IntKind.u64.wrap ((val.size : Nat) : Int))), (decide (((strOfNums (bytesOf ((ByteArray.mk #[]).append (strOfNums (numB (IntKind.u64.wrap e).toNat))) ++ [1])).append (strOfNums (numB (IntKind.u64.wrap ((row.size : Nat) : Int)).toNat)) ++ row).size + 20 ≤ 140737488355328)), (decide (((strOfNums (bytesOf ((ByteArray.mk #[]).append (strOfNums (numB (IntKind.u64.wrap e).toNat))) ++ [1])).append (strOfNums (numB (IntKind.u64.wrap ((row.size : Nat) : Int)).toNat))).size + row.size ≤ 9223372036854775807)), (uOk (IntKind.u64.wrap ((row.size : Nat) : Int))), (decide ((strOfNums (bytesOf ((ByteArray.mk #[]).append (strOfNums (numB (IntKind.u64.wrap e).toNat))) ++ [1])).size + 20 ≤ 140737488355328)), true, ((((bytesOf ((ByteArray.mk #[]).append (strOfNums (numB (IntKind.u64.wrap e).toNat)))).length + [1].length) * 1).ble 140737488355328 && ((bytesOf ((ByteArray.mk #[]).append (strOfNums (numB (IntKind.u64.wrap e).toNat)))).length + [1].length).ble maxLen), (false == false), (((ByteArray.mk #[]).append (strOfNums (numB (IntKind.u64.wrap e).toNat))).size.ble maxLen), (f == true), (uOk (IntKind.u64.wrap e)), (decide ((ByteArray.mk #[]).size + 20 ≤ 140737488355328)), ((!resOk e row val ver) == false)]) true) (by kernel_rfl) (allI ?_)) ?_
      · simp only [h, u1, u2, u3, hv, List.all_cons, List.all_nil, Bool.and_true, Bool.and_eq_true, decide_eq_true_eq, Nat.ble_eq, apE, ByteArray.size_append, strOfNums_size, bytesOf_len, List.length_cons, List.length_nil, List.length_append, maxLen, emptySize]
        and_intros <;> (first | exact True.intro | omega | rfl)
      · simp only [cond_true, encB, tS, nS, apE, emptyApp, strApp, strBytes, ByteArray.append_assoc]
    | false =>
      refine PureCall.res (ERes.pure_ok (os := [false, false, false]) (r := (.tup [(false, [(.str ((((strOfNums (bytesOf ((ByteArray.mk #[]).append (strOfNums (numB (IntKind.u64.wrap e).toNat))) ++ [0])).append (strOfNums (numB (IntKind.u64.wrap ((row.size : Nat) : Int)).toNat)) ++ row).append (strOfNums (numB (IntKind.u64.wrap ((val.size : Nat) : Int)).toNat)) ++ val).append (strOfNums (numB ver.toNat))))]), (false, [(.int .i64 (0))])])) (cs := (fun f : Bool => [(uOk ver), (decide ((((strOfNums (bytesOf ((ByteArray.mk #[]).append (strOfNums (numB (IntKind.u64.wrap e).toNat))) ++ [0])).append (strOfNums (numB (IntKind.u64.wrap ((row.size : Nat) : Int)).toNat)) ++ row).append (strOfNums (numB (IntKind.u64.wrap ((val.size : Nat) : Int)).toNat)) ++ val).size + 20 ≤ 140737488355328)), (decide ((((strOfNums (bytesOf ((ByteArray.mk #[]).append (strOfNums (numB (IntKind.u64.wrap e).toNat))) ++ [0])).append (strOfNums (numB (IntKind.u64.wrap ((row.size : Nat) : Int)).toNat)) ++ row).append (strOfNums (numB (IntKind.u64.wrap ((val.size : Nat) : Int)).toNat))).size + val.size ≤ 9223372036854775807)), (uOk (IntKind.u64.wrap ((val.size : Nat) : Int))), (decide (((strOfNums (bytesOf ((ByteArray.mk #[]).append (strOfNums (numB (IntKind.u64.wrap e).toNat))) ++ [0])).append (strOfNums (numB (IntKind.u64.wrap ((row.size : Nat) : Int)).toNat)) ++ row).size + 20 ≤ 140737488355328)), (decide (((strOfNums (bytesOf ((ByteArray.mk #[]).append (strOfNums (numB (IntKind.u64.wrap e).toNat))) ++ [0])).append (strOfNums (numB (IntKind.u64.wrap ((row.size : Nat) : Int)).toNat))).size + row.size ≤ 9223372036854775807)), (uOk (IntKind.u64.wrap ((row.size : Nat) : Int))), (decide ((strOfNums (bytesOf ((ByteArray.mk #[]).append (strOfNums (numB (IntKind.u64.wrap e).toNat))) ++ [0])).size + 20 ≤ 140737488355328)), true, ((((bytesOf ((ByteArray.mk #[]).append (strOfNums (numB (IntKind.u64.wrap e).toNat)))).length + [0].length) * 1).ble 140737488355328 && ((bytesOf ((ByteArray.mk #[]).append (strOfNums (numB (IntKind.u64.wrap e).toNat)))).length + [0].length).ble maxLen), (false == false), (((ByteArray.mk #[]).append (strOfNums (numB (IntKind.u64.wrap e).toNat))).size.ble maxLen), (f == false), (uOk (IntKind.u64.wrap e)), (decide ((ByteArray.mk #[]).size + 20 ≤ 140737488355328)), ((!resOk e row val ver) == false)]) false) (by kernel_rfl) (allI ?_)) ?_
      · simp only [h, u1, u2, u3, hv, List.all_cons, List.all_nil, Bool.and_true, Bool.and_eq_true, decide_eq_true_eq, Nat.ble_eq, apE, ByteArray.size_append, strOfNums_size, bytesOf_len, List.length_cons, List.length_nil, List.length_append, maxLen, emptySize]
        and_intros <;> (first | exact True.intro | omega | rfl)
      · simp only [cond_true, cond_false, encB, tS, nS, apE, emptyApp, strApp, strBytes, ByteArray.append_assoc]
theorem renc_pure (e : Int) (f : Bool) (row val : ByteArray) (ver : Int) (hv : uOk ver = true) : PureCall Try.prog 13 [.agg [.int .i64 e, .bool f, .str row, .str val, .int .u64 ver]] (tupS (encV e f row val ver) (encE e row val ver)) := by
  unfold encV encE
  have u1 := uOk_wrap e
  have u2 := uOk_wrap ((row.size : Nat) : Int)
  have u3 := uOk_wrap ((val.size : Nat) : Int)
  have v1 := numB_len (IntKind.u64.wrap e).toNat
  have v2 := numB_len (IntKind.u64.wrap ((row.size : Nat) : Int)).toNat
  have v3 := numB_len (IntKind.u64.wrap ((val.size : Nat) : Int)).toNat
  have v4 := numB_len ver.toNat
  cases h : resOk e row val ver with
  | false => exact ERes.pure_ok (os := [true]) (r := tupS { data := #[] } 2) (cs := [((!resOk e row val ver) == true)]) (by kernel_rfl) (allI (by rw [h]; rfl))
  | true =>
    obtain ⟨b1, b2⟩ := resOk_bounds h
    cases f with
    | true =>
      refine PureCall.res (ERes.pure_ok (os := [false, true, true]) (r := (.tup [(false, [(.str ((ByteArray.mk #[]) ++ strOfNums (numB (IntKind.u64.wrap e).toNat) ++ (ByteArray.mk #[1]) ++ (strOfNums (numB (IntKind.u64.wrap ((row.size : Nat) : Int)).toNat) ++ row) ++ (strOfNums (numB (IntKind.u64.wrap ((val.size : Nat) : Int)).toNat) ++ val) ++ strOfNums (numB ver.toNat)))]), (false, [(.int .i64 (0))])])) (cs := (fun f : Bool => [(decide (((ByteArray.mk #[]) ++ strOfNums (numB (IntKind.u64.wrap e).toNat) ++ (ByteArray.mk #[1]) ++ (strOfNums (numB (IntKind.u64.wrap ((row.size : Nat) : Int)).toNat) ++ row) ++ (strOfNums (numB (IntKind.u64.wrap ((val.size : Nat) : Int)).toNat) ++ val)).size + (strOfNums (numB ver.toNat)).size ≤ 9223372036854775807)), (uOk ver), (decide (((ByteArray.mk #[]) ++ strOfNums (numB (IntKind.u64.wrap e).toNat) ++ (ByteArray.mk #[1]) ++ (strOfNums (numB (IntKind.u64.wrap ((row.size : Nat) : Int)).toNat) ++ row)).size + (strOfNums (numB (IntKind.u64.wrap ((val.size : Nat) : Int)).toNat) ++ val).size ≤ 9223372036854775807)), (decide ((strOfNums (numB (IntKind.u64.wrap ((val.size : Nat) : Int)).toNat)).size + val.size ≤ 9223372036854775807)), (uOk (IntKind.u64.wrap ((val.size : Nat) : Int))), (decide (((ByteArray.mk #[]) ++ strOfNums (numB (IntKind.u64.wrap e).toNat) ++ (ByteArray.mk #[1])).size + (strOfNums (numB (IntKind.u64.wrap ((row.size : Nat) : Int)).toNat) ++ row).size ≤ 9223372036854775807)), (decide ((strOfNums (numB (IntKind.u64.wrap ((row.size : Nat) : Int)).toNat)).size + row.size ≤ 9223372036854775807)), (uOk (IntKind.u64.wrap ((row.size : Nat) : Int))), (decide (((ByteArray.mk #[]) ++ strOfNums (numB (IntKind.u64.wrap e).toNat)).size + (ByteArray.mk #[1]).size ≤ 9223372036854775807)), (f == true), (decide ((ByteArray.mk #[]).size + (strOfNums (numB (IntKind.u64.wrap e).toNat)).size ≤ 9223372036854775807)), (uOk (IntKind.u64.wrap e)), ((!resOk e row val ver) == false)]) true) (by kernel_rfl) (allI ?_)) ?_
      · simp only [h, u1, u2, u3, hv, List.all_cons, List.all_nil, Bool.and_true, Bool.and_eq_true, decide_eq_true_eq, Nat.ble_eq, apE, ByteArray.size_append, strOfNums_size, bytesOf_len, List.length_cons, List.length_nil, List.length_append, maxLen, emptySize, oneSize]
        and_intros <;> (first | exact True.intro | omega | rfl)
      · have e1 : ({ data := #[1] } : ByteArray) = strOfNums [1] := rfl
        simp only [cond_true, encB, tS, nS, apE, emptyApp, e1, ByteArray.append_assoc]
    | false =>
      refine PureCall.res (ERes.pure_ok (os := [false, false, false]) (r := (.tup [(false, [(.str ((ByteArray.mk #[]) ++ strOfNums (numB (IntKind.u64.wrap e).toNat) ++ (ByteArray.mk #[0]) ++ (strOfNums (numB (IntKind.u64.wrap ((row.size : Nat) : Int)).toNat) ++ row) ++ (strOfNums (numB (IntKind.u64.wrap ((val.size : Nat) : Int)).toNat) ++ val) ++ strOfNums (numB ver.toNat)))]), (false, [(.int .i64 (0))])])) (cs := (fun f : Bool => [(decide (((ByteArray.mk #[]) ++ strOfNums (numB (IntKind.u64.wrap e).toNat) ++ (ByteArray.mk #[0]) ++ (strOfNums (numB (IntKind.u64.wrap ((row.size : Nat) : Int)).toNat) ++ row) ++ (strOfNums (numB (IntKind.u64.wrap ((val.size : Nat) : Int)).toNat) ++ val)).size + (strOfNums (numB ver.toNat)).size ≤ 9223372036854775807)), (uOk ver), (decide (((ByteArray.mk #[]) ++ strOfNums (numB (IntKind.u64.wrap e).toNat) ++ (ByteArray.mk #[0]) ++ (strOfNums (numB (IntKind.u64.wrap ((row.size : Nat) : Int)).toNat) ++ row)).size + (strOfNums (numB (IntKind.u64.wrap ((val.size : Nat) : Int)).toNat) ++ val).size ≤ 9223372036854775807)), (decide ((strOfNums (numB (IntKind.u64.wrap ((val.size : Nat) : Int)).toNat)).size + val.size ≤ 9223372036854775807)), (uOk (IntKind.u64.wrap ((val.size : Nat) : Int))), (decide (((ByteArray.mk #[]) ++ strOfNums (numB (IntKind.u64.wrap e).toNat) ++ (ByteArray.mk #[0])).size + (strOfNums (numB (IntKind.u64.wrap ((row.size : Nat) : Int)).toNat) ++ row).size ≤ 9223372036854775807)), (decide ((strOfNums (numB (IntKind.u64.wrap ((row.size : Nat) : Int)).toNat)).size + row.size ≤ 9223372036854775807)), (uOk (IntKind.u64.wrap ((row.size : Nat) : Int))), (decide (((ByteArray.mk #[]) ++ strOfNums (numB (IntKind.u64.wrap e).toNat)).size + (ByteArray.mk #[0]).size ≤ 9223372036854775807)), (f == false), (decide ((ByteArray.mk #[]).size + (strOfNums (numB (IntKind.u64.wrap e).toNat)).size ≤ 9223372036854775807)), (uOk (IntKind.u64.wrap e)), ((!resOk e row val ver) == false)]) false) (by kernel_rfl) (allI ?_)) ?_
      · simp only [h, u1, u2, u3, hv, List.all_cons, List.all_nil, Bool.and_true, Bool.and_eq_true, decide_eq_true_eq, Nat.ble_eq, apE, ByteArray.size_append, strOfNums_size, bytesOf_len, List.length_cons, List.length_nil, List.length_append, maxLen, emptySize, oneSize]
        and_intros <;> (first | exact True.intro | omega | rfl)
      · have e1 : ({ data := #[0] } : ByteArray) = strOfNums [0] := rfl
        simp only [cond_true, cond_false, encB, tS, nS, apE, emptyApp, e1, ByteArray.append_assoc]
noncomputable def EEnc : Env Try.prog := (ERes.addT1 10 [.agg rRes] (fun d => tupS (encV d.1.1 d.1.2.1 d.1.2.2.1 d.1.2.2.2.1 d.1.2.2.2.2.1) (encE d.1.1 d.1.2.2.1 d.1.2.2.2.1 d.1.2.2.2.2.1)) (fun d => [uOk d.1.2.2.2.2.1])
  fun d hc => enc_pure d.1.1 d.1.2.1 d.1.2.2.1 d.1.2.2.2.1 d.1.2.2.2.2.1 (of_allTc hc).1).addT1
  13 [.agg rRes] (fun d => tupS (encV d.1.1 d.1.2.1 d.1.2.2.1 d.1.2.2.2.1 d.1.2.2.2.2.1) (encE d.1.1 d.1.2.2.1 d.1.2.2.2.1 d.1.2.2.2.2.1)) (fun d => [uOk d.1.2.2.2.2.1])
  fun d hc => renc_pure d.1.1 d.1.2.1 d.1.2.2.1 d.1.2.2.2.1 d.1.2.2.2.2.1 (of_allTc hc).1
end Go.Proofs.Ytkpehdhkhmomoaa
