/- The document's bytes of a result that may be; no statement. -/
import Derived.Test.YtkpehdhkhmomoaaDoorRrs
set_option linter.unusedVariables false
set_option linter.unusedSimpArgs false
namespace Go.Proofs.YtkpehdhkhmomoaaDoor
open Go Go.Eng

theorem resOk_b {er : Int} {row val : ByteArray} {ver : Int} (h : resOk er row val ver = true) : (0 ≤ er ∧ er < 16) ∧ row.size ≤ 32 ∧ val.size ≤ 65536 ∧ ver ≤ 1099511627776 := by
  simp only [resOk, Bool.and_eq_true, decide_eq_true_eq] at h
  omega
theorem emptyAppX (x : ByteArray) : (ByteArray.mk #[]) ++ x = x := emptyApp x
theorem strOne : (ByteArray.mk #[1]) = strOfNums [1] := rfl
theorem strZero : (ByteArray.mk #[0]) = strOfNums [0] := rfl
abbrev tupS (s : ByteArray) (c : Int) : AV := .tup [(false, [.str s]), (false, [.int .i64 c])]
theorem rencr_pure (er : Int) (fo : Bool) (row val : ByteArray) (ver : Int) (hv : uOk ver = true) (h : resOk er row val ver = true) : PureCall Tryd.prog 38 [.agg [.int .i64 er, .bool fo, .str row, .str val, .int .u64 ver]] (tupS (resBy er fo row val ver) 0) := by
  obtain ⟨b1, b2, b3, b4⟩ := resOk_b h
  have f1 := nS_size (IntKind.u64.wrap er); have f2 := tS_size row; have f3 := tS_size val; have f4 := nS_size ver; have f5 := yS_size 1; have f6 := yS_size 0; have z0 : (ByteArray.mk #[]).size = 0 := rfl
  have z1 : (ByteArray.mk #[1]).size = 1 := rfl; have z2 : (ByteArray.mk #[0]).size = 1 := rfl
  cases fo with
  | true =>
    refine PureCall.res (EWn.pure_ok (os := [false, true, true]) (r := (.tup [(false, [(.str ((ByteArray.mk #[]) ++ nS (IntKind.u64.wrap er) ++ (ByteArray.mk #[1]) ++ tS row ++ tS val ++ nS ver))]), (false, [(.int .i64 (0))])])) (cs := [(uOk ver), (room ((ByteArray.mk #[]) ++ nS (IntKind.u64.wrap er) ++ (ByteArray.mk #[1]) ++ tS row ++ tS val) 20), (room ((ByteArray.mk #[]) ++ nS (IntKind.u64.wrap er) ++ (ByteArray.mk #[1]) ++ tS row) (val.size + 20)), (room ((ByteArray.mk #[]) ++ nS (IntKind.u64.wrap er) ++ (ByteArray.mk #[1])) (row.size + 20)), (decide (ByteArray.size ((ByteArray.mk #[]) ++ nS (IntKind.u64.wrap er)) + (ByteArray.mk #[1]).size ≤ 9223372036854775807)), (true == true), (uOk (IntKind.u64.wrap er)), true, ((!resOk er row val ver) == false)]) (by kernel_rfl) (allI ?_)) ?_
    · simp only [h, hv, uOk_wrap, room, List.all_cons, List.all_nil, Bool.and_true, Bool.and_eq_true, decide_eq_true_eq, ByteArray.size_append]
      and_intros <;> (first | exact True.intro | rfl | omega)
    · show tupS _ _ = tupS _ _
      congr 1
      simp only [resBy, fS, yS, cond_true, emptyAppX, ByteArray.append_assoc, wU, strOne]
  | false =>
    refine PureCall.res (EWn.pure_ok (os := [false, false, false]) (r := (.tup [(false, [(.str ((ByteArray.mk #[]) ++ nS (IntKind.u64.wrap er) ++ (ByteArray.mk #[0]) ++ tS row ++ tS val ++ nS ver))]), (false, [(.int .i64 (0))])])) (cs := [(uOk ver), (room ((ByteArray.mk #[]) ++ nS (IntKind.u64.wrap er) ++ (ByteArray.mk #[0]) ++ tS row ++ tS val) 20), (room ((ByteArray.mk #[]) ++ nS (IntKind.u64.wrap er) ++ (ByteArray.mk #[0]) ++ tS row) (val.size + 20)), (room ((ByteArray.mk #[]) ++ nS (IntKind.u64.wrap er) ++ (ByteArray.mk #[0])) (row.size + 20)), (decide (ByteArray.size ((ByteArray.mk #[]) ++ nS (IntKind.u64.wrap er)) + (ByteArray.mk #[0]).size ≤ 9223372036854775807)), (false == false), (uOk (IntKind.u64.wrap er)), true, ((!resOk er row val ver) == false)]) (by kernel_rfl) (allI ?_)) ?_
    · simp only [h, hv, uOk_wrap, room, List.all_cons, List.all_nil, Bool.and_true, Bool.and_eq_true, decide_eq_true_eq, ByteArray.size_append]
      and_intros <;> (first | exact True.intro | rfl | omega)
    · show tupS _ _ = tupS _ _
      congr 1
      simp only [resBy, fS, yS, cond_false, emptyAppX, ByteArray.append_assoc, wU, strZero]
noncomputable def ESl0 : Env Tryd.prog := EWn.addT1 38 [.agg rRes] (fun d => tupS (resBy d.1.1 d.1.2.1 d.1.2.2.1 d.1.2.2.2.1 d.1.2.2.2.2.1) 0) (fun d => [uOk d.1.2.2.2.2.1, resOk d.1.1 d.1.2.2.1 d.1.2.2.2.1 d.1.2.2.2.2.1])
  fun d hc => rencr_pure d.1.1 d.1.2.1 d.1.2.2.1 d.1.2.2.2.1 d.1.2.2.2.2.1 (of_allTc hc).1 (of_allTc (of_allTc hc).2).1
end Go.Proofs.YtkpehdhkhmomoaaDoor
