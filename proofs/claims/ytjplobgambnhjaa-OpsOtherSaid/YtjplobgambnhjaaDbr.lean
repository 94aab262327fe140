/- A result comes back of its bytes, and no bytes more or fewer are its; no statement. -/
import Derived.Test.YtjplobgambnhjaaDbe
set_option linter.unusedVariables false
set_option linter.unusedSimpArgs false
namespace Go.Proofs.Ytjplobgambnhjaa
open Go Go.Eng

def encRB (er : Int) (fo : Bool) (row val : ByteArray) (ver : Int) : ByteArray := nS (wU er) ++ (fS fo ++ (tS row ++ (tS val ++ nS ver)))
theorem resOk_b {er : Int} {row val : ByteArray} {ver : Int} (h : resOk er row val ver = true) : (0 ≤ er ∧ er < 16) ∧ row.size ≤ 32 ∧ val.size ≤ 65536 ∧ ver ≤ 1099511627776 := by
  simp only [resOk, Bool.and_eq_true, decide_eq_true_eq] at h
  omega
theorem encr_pure (er : Int) (fo : Bool) (row val : ByteArray) (ver : Int) (hv : uOk ver = true) (h : resOk er row val ver = true) : PureCall Try.prog 25 [.agg [.int .i64 er, .bool fo, .str row, .str val, .int .u64 ver]] (tupS (encRB er fo row val ver) 0) := by
  obtain ⟨b1, b2, b3, b4⟩ := resOk_b h
  have wb : IntKind.i64.wrap (IntKind.u64.wrap er) = er := wrapBack (by omega) (by omega)
  have f1 := nS_size (IntKind.u64.wrap er); have f2 := tS_size row; have f3 := tS_size val; have f4 := nS_size ver; have f5 := yS_size 1; have f6 := yS_size 0; have z0 : (ByteArray.mk #[]).size = 0 := rfl
  cases fo with
  | true =>
    refine PureCall.res (EWn.pure_ok (os := [false, true]) (r := (.tup [(false, [(.str ((ByteArray.mk #[]) ++ nS (IntKind.u64.wrap er) ++ yS 1 ++ tS row ++ tS val ++ nS ver))]), (false, [(.int .i64 (0))])])) (cs := [(uOk ver), (room ((ByteArray.mk #[]) ++ nS (IntKind.u64.wrap er) ++ yS 1 ++ tS row ++ tS val) 20), (room ((ByteArray.mk #[]) ++ nS (IntKind.u64.wrap er) ++ yS 1 ++ tS row) (val.size + 20)), (room ((ByteArray.mk #[]) ++ nS (IntKind.u64.wrap er) ++ yS 1) (row.size + 20)), (room ((ByteArray.mk #[]) ++ nS (IntKind.u64.wrap er)) 20), (true == true), (uOk (IntKind.u64.wrap er)), true, ((!resOk er row val ver) == false)]) (by kernel_rfl) (allI ?_)) ?_
    · simp only [h, hv, uOk_wrap, room, List.all_cons, List.all_nil, Bool.and_true, Bool.and_eq_true, decide_eq_true_eq, ByteArray.size_append]
      and_intros <;> (first | exact True.intro | rfl | omega)
    · show tupS _ _ = tupS _ _
      congr 1
      simp only [encRB, fS, yS, cond_true, emptyApp', ByteArray.append_assoc, wU]
  | false =>
    refine PureCall.res (EWn.pure_ok (os := [false, false]) (r := (.tup [(false, [(.str ((ByteArray.mk #[]) ++ nS (IntKind.u64.wrap er) ++ yS 0 ++ tS row ++ tS val ++ nS ver))]), (false, [(.int .i64 (0))])])) (cs := [(uOk ver), (room ((ByteArray.mk #[]) ++ nS (IntKind.u64.wrap er) ++ yS 0 ++ tS row ++ tS val) 20), (room ((ByteArray.mk #[]) ++ nS (IntKind.u64.wrap er) ++ yS 0 ++ tS row) (val.size + 20)), (room ((ByteArray.mk #[]) ++ nS (IntKind.u64.wrap er) ++ yS 0) (row.size + 20)), (room ((ByteArray.mk #[]) ++ nS (IntKind.u64.wrap er)) 20), (false == false), (uOk (IntKind.u64.wrap er)), true, ((!resOk er row val ver) == false)]) (by kernel_rfl) (allI ?_)) ?_
    · simp only [h, hv, uOk_wrap, room, List.all_cons, List.all_nil, Bool.and_true, Bool.and_eq_true, decide_eq_true_eq, ByteArray.size_append]
      and_intros <;> (first | exact True.intro | rfl | omega)
    · show tupS _ _ = tupS _ _
      congr 1
      simp only [encRB, fS, yS, cond_false, emptyApp', ByteArray.append_assoc, wU]
theorem encr_none (er : Int) (fo : Bool) (row val : ByteArray) (ver : Int) (h : resOk er row val ver = false) : PureCall Try.prog 25 [.agg [.int .i64 er, .bool fo, .str row, .str val, .int .u64 ver]] (tupS (ByteArray.mk #[]) 2) := by
  refine EWn.pure_ok (os := [true]) (cs := [((!resOk er row val ver) == true)]) (by kernel_rfl) (allI ?_)
  rw [h]; rfl
theorem drV_back {er : Int} {fo : Bool} {row val : ByteArray} {ver : Int} {t S : ByteArray} (B : uBk er fo row val ver t S) : drV S = (er, fo, row, val, ver, ()) := by
  obtain ⟨_, _, a1, a2, a3, a4, a5⟩ := B
  unfold drV
  rw [a1, a2, a3, a4, a5]
theorem decr_facts (er : Int) (fo : Bool) (row val : ByteArray) (ver : Int) (hv : uOk ver = true) (h : resOk er row val ver = true) :
    PureCall Try.prog 33 [vS (encRB er fo row val ver)] (tupR (er, fo, row, val, ver, ()) 0) ∧ PureCall Try.prog 33 [vS (encRB er fo row val ver ++ (ByteArray.mk #[0]))] (tupR rZ 4) ∧
    PureCall Try.prog 33 [vS ((encRB er fo row val ver).extract 0 ((encRB er fo row val ver).size - 1))] (tupR rZ 4) ∧ 0 < (encRB er fo row val ver).size ∧ (encRB er fo row val ver).size ≤ 1000000 := by
  obtain ⟨b1, b2, b3, b4⟩ := resOk_b h
  have f1 := nS_size (wU er); have f2 := tS_size row; have f3 := tS_size val; have f4 := nS_size ver; have f5 := fS_size fo; have f6 := nS_pos (wU er)
  have hsz : (encRB er fo row val ver).size ≤ 1000000 := by
    simp only [encRB, ByteArray.size_append]; omega
  have hpos : 0 < (encRB er fo row val ver).size := by
    unfold encRB; rw [ByteArray.size_append]; omega
  refine ⟨?_, ?_, ?_, hpos, hsz⟩
  · generalize hS : encRB er fo row val ver = S at hsz
    have hz : szk S = true := szk_le (by omega)
    have B := u_back er fo row val ver (ByteArray.mk #[]) S (by omega) (by omega) (by omega) ⟨hv, b4⟩ (by rw [← hS]; simp only [encRB, appEmpty]) hz
    have hB : resB S = false := by
      unfold resB resA
      rw [B.good, B.rest, B.v_er, B.v_row, B.v_val, B.v_ver, h]; rfl
    have hh := dres_pure S hz
    rw [drT_good hB, drV_back B] at hh
    exact hh
  · generalize hS : encRB er fo row val ver ++ (ByteArray.mk #[0]) = S
    have hz : szk S = true := by
      rw [← hS]; exact szk_le (by rw [ByteArray.size_append, show (ByteArray.mk #[0]).size = 1 from rfl]; omega)
    have B := u_back er fo row val ver (ByteArray.mk #[0]) S (by omega) (by omega) (by omega) ⟨hv, b4⟩ (by rw [← hS]; simp only [encRB, ByteArray.append_assoc]) hz
    have hB : resB S = true := by
      unfold resB resA
      rw [B.good, B.rest]; rfl
    have hh := dres_pure S hz
    rw [drT_bad hB] at hh
    exact hh
  · obtain ⟨z, hz1, hz2⟩ := nS_cut ver
    have hcut : encRB er fo row val ver = (nS (wU er) ++ (fS fo ++ (tS row ++ (tS val ++ cutB ver)))) ++ z := by
      unfold encRB; rw [hz2]; simp only [ByteArray.append_assoc]
    have hzz : szk (nS (wU er) ++ (fS fo ++ (tS row ++ (tS val ++ cutB ver)))) = true := by
      have := hsz
      rw [hcut, ByteArray.size_append] at this
      exact szk_le (by omega)
    rw [hcut, cut_last hz1]
    generalize hS : nS (wU er) ++ (fS fo ++ (tS row ++ (tS val ++ cutB ver))) = S at hzz
    have B := w_back er fo row val (cutB ver) S (by omega) (by omega) (by omega) hS.symm hzz
    have hB : resB S = true := by
      unfold resB resA ud5
      rw [B.rest, cutB_nb]
      cases ud4 true S <;> rfl
    have hh := dres_pure S hzz
    rw [drT_bad hB] at hh
    exact hh
end Go.Proofs.Ytjplobgambnhjaa
