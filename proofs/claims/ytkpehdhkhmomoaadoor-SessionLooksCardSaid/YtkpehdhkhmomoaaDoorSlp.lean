/- A session's bytes, of a result that may be; the environments of both Looks; no statement. -/
import Derived.Test.YtkpehdhkhmomoaaDoorSle
set_option linter.unusedVariables false
set_option linter.unusedSimpArgs false
namespace Go.Proofs.YtkpehdhkhmomoaaDoor
open Go Go.Eng
def maySeq (n : Int) : Bool := bif decide (n ≥ 1) then decide (n ≤ 1099511627776) else false
theorem maySeq_of {n : Int} (h : maySeq n = true) : 1 ≤ n ∧ n ≤ 1099511627776 := by
  obtain ⟨a, b⟩ := bif_split h
  exact ⟨of_decide_eq_true a, of_decide_eq_true b⟩
theorem resBy_size {er : Int} {fo : Bool} {row val : ByteArray} {ver : Int} (h : resOk er row val ver = true) : (resBy er fo row val ver).size ≤ 65700 := by
  obtain ⟨b1, b2, b3, b4⟩ := resOk_b h
  have f1 := nS_size (wU er); have f2 := tS_size row; have f3 := tS_size val; have f4 := nS_size ver; have f5 := fS_size fo
  simp only [resBy, ByteArray.size_append]; omega
theorem rput_good (n er : Int) (fo : Bool) (row val : ByteArray) (ver : Int) (hv : uOk ver = true) (h : resOk er row val ver = true) (hn : maySeq n = true) (hz : decide ((nS n ++ resBy er fo row val ver).size ≤ 65536) = true) : PureCall Tryd.prog 25 [vU n, .agg [.int .i64 er, .bool fo, .str row, .str val, .int .u64 ver]] (tupS (nS n ++ resBy er fo row val ver) 0) := by
  obtain ⟨n1, n2⟩ := maySeq_of hn
  have hz := of_decide_eq_true hz
  have q1 : decide (n ≥ 1) = true := decide_eq_true n1
  have q2 : decide (n ≤ 1099511627776) = true := decide_eq_true n2
  have q3 : uOk n = true := by rw [uOk, decide_eq_true (show 0 ≤ n by omega), decide_eq_true (show n < 18446744073709551616 by omega)]; rfl
  have f1 := nS_size n; have f2 := resBy_size (fo := fo) h
  refine PureCall.res (ESl0.pure_ok (os := [true, true, true, false, false, false, false, false]) (r := (.tup [(false, [(.str ((ByteArray.mk #[]) ++ nS n ++ resBy er fo row val ver))]), (false, [(.int .i64 (0))])])) (cs := [(decide (((((ByteArray.mk #[]) ++ nS n ++ resBy er fo row val ver).size : Nat) : Int) > 65536) == false), (decide (ByteArray.size ((ByteArray.mk #[]) ++ nS n) + (resBy er fo row val ver).size ≤ 9223372036854775807)), (uOk n), true, (false == false), ((!decide (n ≤ 1099511627776)) == false), ((!decide (n ≤ 1099511627776)) == false), ((!decide (n ≤ 1099511627776)) == false), (decide (n ≥ 1) == true), (decide (n ≥ 1) == true), (decide (n ≥ 1) == true), (uOk ver), (resOk er row val ver)]) (by kernel_rfl) (allI ?_)) ?_
  · rw [ByteArray.size_append] at hz
    have q4 : decide (((((ByteArray.mk #[]) ++ nS n ++ resBy er fo row val ver).size : Nat) : Int) > 65536) = false := decide_eq_false (by rw [emptyAppX, ByteArray.size_append]; omega)
    have q5 : decide (ByteArray.size ((ByteArray.mk #[]) ++ nS n) + (resBy er fo row val ver).size ≤ 9223372036854775807) = true := decide_eq_true (by rw [emptyAppX]; omega)
    have q6 : room (ByteArray.mk #[]) 20 = true := rfl
    simp only [q1, q2, q3, q4, q5, q6, h, hv]; rfl
  · rw [emptyAppX]
theorem rput_bad (n er : Int) (fo : Bool) (row val : ByteArray) (ver : Int) (hv : uOk ver = true) (h : resOk er row val ver = true) (hn : maySeq n = false) : PureCall Tryd.prog 25 [vU n, .agg [.int .i64 er, .bool fo, .str row, .str val, .int .u64 ver]] (tupS (ByteArray.mk #[]) 2) := by
  unfold maySeq at hn
  cases q1 : decide (n ≥ 1) with
  | true =>
    rw [q1] at hn
    have q2 : decide (n ≤ 1099511627776) = false := hn
    exact ESl0.pure_ok (os := [true, true, true, true, true, true, true]) (cs := [(true == true), ((!decide (n ≤ 1099511627776)) == true), ((!decide (n ≤ 1099511627776)) == true), ((!decide (n ≤ 1099511627776)) == true), (decide (n ≥ 1) == true), (decide (n ≥ 1) == true), (decide (n ≥ 1) == true), (uOk ver), (resOk er row val ver)]) (by kernel_rfl) (allI (by simp only [q1, q2, h, hv]; rfl))
  | false => exact ESl0.pure_ok (os := [false, false, false, true]) (cs := [((!false) == true), (decide (n ≥ 1) == false), (decide (n ≥ 1) == false), (decide (n ≥ 1) == false), (uOk ver), (resOk er row val ver)]) (by kernel_rfl) (allI (by simp only [q1, h, hv]; rfl))
/-- The program's. -/
noncomputable def ELp : Env Tryd.prog := ({ EDr with sp := false } : Env Tryd.prog).addT 22 [.one .str]
  (fun d os => brL (resB d.1) os (fun os => some (tupR rZ 4, [szk d.1], os)) (fun os => some (tupR (drV d.1) 0, [szk d.1], os)))
  fun d os r cs os' h hc => by
    rcases brL_some h hc with ⟨hb, o, c, h, hc⟩ | ⟨hb, o, c, h, hc⟩
    · simp only [Option.some.injEq, Prod.mk.injEq] at h
      obtain ⟨rfl, rfl, _⟩ := h
      have := dres_pure d.1 (of_allTc hc).1
      rw [drT_bad hb] at this; exact this
    · simp only [Option.some.injEq, Prod.mk.injEq] at h
      obtain ⟨rfl, rfl, _⟩ := h
      have := dres_pure d.1 (of_allTc hc).1
      rw [drT_good hb] at this; exact this
/-- The document's. -/
noncomputable def ESr : Env Tryd.prog := ((ESl0.addT1 23 [.one .str] (fun d => tupN (numV d.1) (numN d.1)) (fun _ => []) fun d _ => take_number d.1).addT 24 [.one .str]
  (fun d os => brL (resB d.1) os (fun os => some (tupR rZ 4, [szk d.1], os)) (fun os => some (tupR (drV d.1) 0, [szk d.1], os)))
  fun d os r cs os' h hc => by
    rcases brL_some h hc with ⟨hb, o, c, h, hc⟩ | ⟨hb, o, c, h, hc⟩
    · simp only [Option.some.injEq, Prod.mk.injEq] at h
      obtain ⟨rfl, rfl, _⟩ := h
      have := rdres_pure d.1 (of_allTc hc).1
      rw [drT_bad hb] at this; exact this
    · simp only [Option.some.injEq, Prod.mk.injEq] at h
      obtain ⟨rfl, rfl, _⟩ := h
      have := rdres_pure d.1 (of_allTc hc).1
      rw [drT_good hb] at this; exact this).addT 25 [.one cU, .agg rRes]
  (fun d os => brL (maySeq d.1) os
    (fun os => some (tupS (nS d.1 ++ resBy d.2.1.1 d.2.1.2.1 d.2.1.2.2.1 d.2.1.2.2.2.1 d.2.1.2.2.2.2.1) 0, [uOk d.2.1.2.2.2.2.1, resOk d.2.1.1 d.2.1.2.2.1 d.2.1.2.2.2.1 d.2.1.2.2.2.2.1, decide ((nS d.1 ++ resBy d.2.1.1 d.2.1.2.1 d.2.1.2.2.1 d.2.1.2.2.2.1 d.2.1.2.2.2.2.1).size ≤ 65536)], os))
    (fun os => some (tupS (ByteArray.mk #[]) 2, [uOk d.2.1.2.2.2.2.1, resOk d.2.1.1 d.2.1.2.2.1 d.2.1.2.2.2.1 d.2.1.2.2.2.2.1], os)))
  fun d os r cs os' h hc => by
    rcases brL_some h hc with ⟨hb, o, c, h, hc⟩ | ⟨hb, o, c, h, hc⟩
    · simp only [Option.some.injEq, Prod.mk.injEq] at h
      obtain ⟨rfl, rfl, _⟩ := h
      obtain ⟨h1, hc⟩ := of_allTc hc
      obtain ⟨h2, hc⟩ := of_allTc hc
      exact rput_good d.1 d.2.1.1 d.2.1.2.1 d.2.1.2.2.1 d.2.1.2.2.2.1 d.2.1.2.2.2.2.1 h1 h2 hb (of_allTc hc).1
    · simp only [Option.some.injEq, Prod.mk.injEq] at h
      obtain ⟨rfl, rfl, _⟩ := h
      obtain ⟨h1, hc⟩ := of_allTc hc
      exact rput_bad d.1 d.2.1.1 d.2.1.2.1 d.2.1.2.2.1 d.2.1.2.2.2.1 d.2.1.2.2.2.2.1 h1 (of_allTc hc).1 hb
end Go.Proofs.YtkpehdhkhmomoaaDoor
