/- SessionBack, its run; no statement. -/
import Derived.Test.YtkpehdhkhmomoaaBk
set_option linter.unusedVariables false
namespace Go.Proofs.Ytkpehdhkhmomoaa
open Go Go.Eng

def mnn (c : Int) (b : ByteArray) : Int := if c < ((b.size : Nat) : Int) then c else ((b.size : Nat) : Int)
theorem mnn_ok {c : Int} (hc : 0 ≤ c) (b : ByteArray) : 0 ≤ mnn c b ∧ mnn c b ≤ ((b.size : Nat) : Int) ∧ mnn c b ≤ c := by unfold mnn; split <;> omega
def nn (n : Int) : Int := IntKind.u64.wrap (1 + n.tmod 1099511627776)
def rW (row : ByteArray) : ByteArray := row.extract (Int.toNat 0) (mnn 32 row).toNat
def vL (val : ByteArray) : ByteArray := val.extract (Int.toNat 0) (mnn 300 val).toNat
def vR (ver : Int) : Int := ver.tmod 1099511627776
def eP (e : Int) : Int := e.tmod 16
def eN (e : Int) : Int := IntKind.i64.wrap (0 - e.tmod 16)
def pS (n e : Int) (f : Bool) (row val : ByteArray) (ver : Int) : ByteArray := putV (nn n) e f (rW row) (vL val) (vR ver)
def pE (n e : Int) (f : Bool) (row val : ByteArray) (ver : Int) : Int := putE (nn n) e f (rW row) (vL val) (vR ver)
def zB : ByteArray := ByteArray.mk #[0]
def cS (s : ByteArray) : ByteArray := s.extract (Int.toNat 0) (IntKind.i64.wrap (((s.size : Nat) : Int) - 1)).toNat
theorem tmod_pos {n m : Int} (h : 0 ≤ n) (hm : 0 < m) : 0 ≤ n.tmod m ∧ n.tmod m < m := by
  rw [Int.tmod_eq_emod_of_nonneg h]; exact ⟨Int.emod_nonneg _ (by omega), Int.emod_lt_of_pos _ hm⟩
theorem nn_ok {n : Int} (h : 0 ≤ n) : nn n = 1 + n.tmod 1099511627776 ∧ 1 ≤ nn n ∧ nn n ≤ 1099511627776 := by
  have := tmod_pos (m := 1099511627776) h (by omega)
  unfold nn; rw [wrapU64 (by omega) (by omega)]; omega
theorem vR_ok {n : Int} (h : 0 ≤ n) : 0 ≤ vR n ∧ vR n < 1099511627776 := tmod_pos h (by omega)
theorem rW_size (row : ByteArray) : (rW row).size ≤ 32 := by
  have := mnn_ok (show (0 : Int) ≤ 32 by decide) row
  unfold rW; rw [ByteArray.size_extract]; omega
theorem vL_size (val : ByteArray) : (vL val).size ≤ 300 := by
  have := mnn_ok (show (0 : Int) ≤ 300 by decide) val
  unfold vL; rw [ByteArray.size_extract]; omega
theorem cS_eq (a z : ByteArray) (hz : z.size = 1) (h : a.size ≤ 1000000) : cS (a ++ z) = a := by
  unfold cS
  have e : (IntKind.i64.wrap ((((a ++ z).size : Nat) : Int) - 1)).toNat = a.size := by
    rw [ByteArray.size_append, hz, wrap64 (by omega) (by omega)]; omega
  rw [e]; exact ext_left _ _ _ rfl
theorem rR_nS {v : Int} (h0 : 0 ≤ v) (h : v < 18446744073709551616) (rest : ByteArray) : rR (nS v ++ rest) = rest := by
  unfold rR
  rw [nS_s1 h0 h, zS_eq]
  have := ext_left rest (ByteArray.mk #[]) rest.size rfl
  rw [appEmpty] at this; exact this
theorem lookF_nS {v : Int} (h0 : 1 ≤ v) (h : v ≤ 1099511627776) (rest : ByteArray) (hs : rest.size ≤ 60000) : lookF (nS v ++ rest) = true := by
  unfold lookF nOk
  rw [nS_V (by omega) (by omega), nS_N (by omega) (by omega), ByteArray.size_append]
  have := nS_pos v
  have := nS_size v
  simp only [Bool.and_eq_true, Bool.not_eq_true', beq_eq_false_iff_ne, decide_eq_true_eq, ne_eq]
  omega
/-- All that the run takes for granted. -/
structure Back (n e : Int) (f : Bool) (row val : ByteArray) (ver : Int) (s : ByteArray) : Prop where
  x1 : decG (rR s) = true
  x2 : numV s = nn n
  x3 : lookF s = true
  x4 : IntKind.i64.wrap (numV (rR s)) = e
  x5 : (byteAt (tH (s1 (rR s))) (Int.toNat 0) == 1) = f
  x6 : tX (s2 (rR s)) = rW row
  x7 : tX (s3 (rR s)) = vL val
  x8 : numV (s4 (rR s)) = vR ver
  y1 : decG (rR (s ++ zB)) = false
  y2 : decL (rR (s ++ zB)) = true
  y3 : lookF (s ++ zB) = true
  z1 : decG (rR (cS s)) = false
  z2 : decC (rR (cS s)) = true
  z3 : lookF (cS s) = true
  k1 : 1 ≤ s.size
  k2 : s.size ≤ 60000
theorem back {n e : Int} (f : Bool) (row val : ByteArray) {ver : Int} (hn : 0 ≤ n) (hv : 0 ≤ ver) (h0 : 0 ≤ e) (h1 : e ≤ 15) : pE n e f row val ver = 0 ∧ Back n e f row val ver (pS n e f row val ver) := by
  have n1 := nn_ok hn
  have g1 := vR_ok hv
  have r1 := rW_size row
  have l1 := vL_size val
  have hR : resOk e (rW row) (vL val) (vR ver) = true := by
    simp only [resOk, Bool.and_eq_true, decide_eq_true_eq]; omega
  have a1 : decide (nn n ≥ 1) = true := decide_eq_true n1.2.1
  have a2 : (!decide (nn n ≤ 1099511627776)) = false := by rw [decide_eq_true n1.2.2]; rfl
  have a3 : encE e (rW row) (vL val) (vR ver) = 0 := by unfold encE; rw [hR]; rfl
  have a4 : encV e f (rW row) (vL val) (vR ver) = encT e f (rW row) (vL val) (nS (vR ver)) := by unfold encV; rw [hR, cond_true]; exact encB_eq h0 (by omega) _ _ _ _
  have hN : bE (nn n) = nS (nn n) := by unfold bE nS; exact emptyApp _
  have sz := nS_size (nn n)
  have sp := nS_pos (nn n)
  have s0 : ∀ t : ByteArray, (encT e f (rW row) (vL val) t).size ≤ 400 + t.size := by
    intro t
    unfold encT
    simp only [ByteArray.size_append]
    have := nS_size e; have := bB_size f; have := tS_size (rW row); have := tS_size (vL val)
    omega
  have sv := nS_size (vR ver)
  have st := s0 (nS (vR ver))
  have a5 : decide ((((bE (nn n) ++ encV e f (rW row) (vL val) (vR ver)).size : Nat) : Int) > 65536) = false := decide_eq_false (by
    rw [a4, hN, ByteArray.size_append]; omega)
  have eS : pS n e f row val ver = nS (nn n) ++ encT e f (rW row) (vL val) (nS (vR ver)) := by
    unfold pS putV
    rw [a1, a2, a3, a5, a4, hN]; rfl
  have eE : pE n e f row val ver = 0 := by
    unfold pE putE
    rw [a1, a2, a3, a5]; rfl
  refine ⟨eE, ?_⟩
  rw [eS]
  have hb : nn n < 18446744073709551616 := by omega
  have hb0 : 0 ≤ nn n := by omega
  obtain ⟨d1, d2⟩ := dec_of_good (f := f) h0 (by omega) (show (rW row).size ≤ 65536 by omega) (show (vL val).size ≤ 65536 by omega) g1.1 (by omega) hR
  obtain ⟨p1, p2, p3, p4, p5, p6⟩ := parts (f := f) h0 (by omega) (show (rW row).size ≤ 65536 by omega) (show (vL val).size ≤ 65536 by omega) (tail := nS (vR ver)) (by omega)
  obtain ⟨l2, l3⟩ := dec_of_long (f := f) zB h0 (by omega) (show (rW row).size ≤ 65536 by omega) (show (vL val).size ≤ 65536 by omega) g1.1 (by omega) rfl
  obtain ⟨c1, c2⟩ := dec_of_cut (f := f) (ver := vR ver) h0 (by omega) (show (rW row).size ≤ 65536 by omega) (show (vL val).size ≤ 65536 by omega)
  have el : nS (nn n) ++ encT e f (rW row) (vL val) (nS (vR ver)) ++ zB = nS (nn n) ++ encT e f (rW row) (vL val) (nS (vR ver) ++ zB) := by
    unfold encT; simp only [ByteArray.append_assoc]
  obtain ⟨z, hz, ez⟩ := nS_cut (vR ver)
  have hc : (cutB (vR ver)).size ≤ 10 := by unfold cutB; rw [strOfNums_size]; exact varP_len _ _
  have sc := s0 (cutB (vR ver))
  have sl := s0 (nS (vR ver) ++ zB)
  have zb : zB.size = 1 := rfl
  rw [ByteArray.size_append, zb] at sl
  have ec : cS (nS (nn n) ++ encT e f (rW row) (vL val) (nS (vR ver))) = nS (nn n) ++ encT e f (rW row) (vL val) (cutB (vR ver)) := by
    have : nS (nn n) ++ encT e f (rW row) (vL val) (nS (vR ver)) = (nS (nn n) ++ encT e f (rW row) (vL val) (cutB (vR ver))) ++ z := by
      rw [ez]; unfold encT; simp only [ByteArray.append_assoc]
    rw [this]; exact cS_eq _ z hz (by rw [ByteArray.size_append]; omega)
  refine ⟨by rw [rR_nS hb0 hb]; exact d1, nS_V hb0 hb _, lookF_nS n1.2.1 n1.2.2 _ (by omega), by rw [rR_nS hb0 hb, p2]; exact wrapSmall h0 (by omega), by rw [rR_nS hb0 hb]; exact p3, by rw [rR_nS hb0 hb]; exact p4, by rw [rR_nS hb0 hb]; exact p5, by rw [rR_nS hb0 hb]; exact d2,
    by rw [el, rR_nS hb0 hb]; exact l2, by rw [el, rR_nS hb0 hb]; exact l3, by rw [el]; exact lookF_nS n1.2.1 n1.2.2 _ (by omega),
    by rw [ec, rR_nS hb0 hb]; exact c1, by rw [ec, rR_nS hb0 hb]; exact c2, by rw [ec]; exact lookF_nS n1.2.1 n1.2.2 _ (by omega),
    by rw [ByteArray.size_append]; omega, by rw [ByteArray.size_append]; omega⟩
theorem baBeq (b : ByteArray) : (b == b) = true := by
  first | exact beq_self_eq_true b | exact decide_eq_true rfl | (cases b; exact beq_self_eq_true (α := Array UInt8) _)
abbrev sUR' : List PT := [.one cU, .agg rRes]
theorem uOk_in {v : Int} (h0 : 0 ≤ v) (h1 : v < 18446744073709551616) : uOk v = true := by rw [uOk, decide_eq_true h0, decide_eq_true h1]; rfl
theorem back_run (n e : Int) (f : Bool) (row val : ByteArray) (ver : Int) (hn : 0 ≤ n) (hv : 0 ≤ ver) : PureCall Try.prog 5 [vU n, .agg [.int .i64 e, .bool f, .str row, .str val, .int .u64 ver]] (vB true) := by
  have n1 := nn_ok hn
  have g1 := vR_ok hv
  have m1 := mnn_ok (show (0 : Int) ≤ 300 by decide) val
  have m2 := mnn_ok (show (0 : Int) ≤ 32 by decide) row
  have he : -16 < e.tmod 16 ∧ e.tmod 16 < 16 := ⟨by have := Int.lt_tmod_of_pos e (show (0 : Int) < 16 by decide); omega, Int.tmod_lt_of_pos e (by decide)⟩
  have b1 : decide ((0 : Int) ≤ 0 ∧ ((0 : Int) ≤ mnn 300 val) ∧ (mnn 300 val) ≤ ((val.size : Nat) : Int)) = true := decide_eq_true (by omega)
  have b2 : decide ((0 : Int) ≤ 0 ∧ ((0 : Int) ≤ mnn 32 row) ∧ (mnn 32 row) ≤ ((row.size : Nat) : Int)) = true := decide_eq_true (by omega)
  have b3 : uOk (vR ver) = true := uOk_in g1.1 (by omega)
  have b4 : uOk (nn n) = true := uOk_in (by omega) (by omega)
  have b5 : decide (nn n ≤ 1099511627776) = true := decide_eq_true n1.2.2
  have b6 : decide (nn n ≥ 1) = true := decide_eq_true n1.2.1
  have nB : (ByteArray.mk #[0]).size = 1 := rfl
  by_cases hs : e.tmod 16 < 0
  · have b7 : decide (eP e < 0) = true := decide_eq_true hs
    have ev : eN e = -(e.tmod 16) := by unfold eN; rw [wrap64 (by omega) (by omega)]; omega
    obtain ⟨o1, ⟨x1, x2, x3, x4, x5, x6, x7, x8, y1, y2, y3, z1, z2, z3, k1, k2⟩⟩ := back (n := n) (e := eN e) f row val (ver := ver) hn hv (by omega) (by omega)
    have c1 : decide ((pS n (eN e) f row val ver).size + (ByteArray.mk #[0]).size ≤ 9223372036854775807) = true := decide_eq_true (by rw [nB]; omega)
    have c2 : decide ((0 : Int) ≤ 0 ∧ 0 ≤ IntKind.i64.wrap ((((pS n (eN e) f row val ver).size : Nat) : Int) - 1) ∧ IntKind.i64.wrap ((((pS n (eN e) f row val ver).size : Nat) : Int) - 1) ≤ (((pS n (eN e) f row val ver).size : Nat) : Int)) = true := decide_eq_true (by rw [wrap64 (by omega) (by omega)]; omega)
    have c3 : ((((pS n (eN e) f row val ver).size : Nat) : Int) == 0) = false := beq_eq_false_iff_ne.2 (by omega)
    by_cases hg : nn n > 1
    · have e1 : decide (nn n > 1) = true := decide_eq_true hg
      have w0 : IntKind.u64.wrap (nn n - 1) = nn n - 1 := wrapU64 (by omega) (by omega)
      have w1 : (IntKind.u64.wrap (nn n - 1) == nn n) = false := beq_eq_false_iff_ne.2 (by rw [w0]; omega)
      have w2 : decide (IntKind.u64.wrap (nn n - 1) < nn n) = true := decide_eq_true (by rw [w0]; omega)
      have w3 : decide (IntKind.u64.wrap (nn n - 1) ≤ 1099511627776) = true := decide_eq_true (by rw [w0]; omega)
      have w4 : decide (IntKind.u64.wrap (nn n - 1) ≥ 1) = true := decide_eq_true (by rw [w0]; omega)
      exact ELk.pure_ok (os := (List.replicate 3 true ++ List.replicate 21 false ++ List.replicate 2 true ++ List.replicate 1 false ++ List.replicate 3 true)) (cs := [((12 == 12) == true), ((12 == 12) == true), (decide (IntKind.u64.wrap (nn n - 1) ≥ 1)), (decide (IntKind.u64.wrap (nn n - 1) ≤ 1099511627776)), (lookF (pS n (eN e) f row val ver)), (decide (IntKind.u64.wrap (nn n - 1) < numV (pS n (eN e) f row val ver)) == true), ((IntKind.u64.wrap (nn n - 1) == numV (pS n (eN e) f row val ver)) == false), (decG (rR (pS n (eN e) f row val ver)) == true), (decide (nn n > 1) == true), (false == false), (false == false), (false == false), (false == false), (decide (nn n ≥ 1)), (decide (nn n ≤ 1099511627776)), (lookF (cS (pS n (eN e) f row val ver))), (decL (rR (cS (pS n (eN e) f row val ver))) || decC (rR (cS (pS n (eN e) f row val ver)))), (decG (rR (cS (pS n (eN e) f row val ver))) == false), (decide ((0 : Int) ≤ 0 ∧ 0 ≤ IntKind.i64.wrap ((((pS n (eN e) f row val ver).size : Nat) : Int) - 1) ∧ IntKind.i64.wrap ((((pS n (eN e) f row val ver).size : Nat) : Int) - 1) ≤ (((pS n (eN e) f row val ver).size : Nat) : Int))), (decide (nn n ≥ 1)), (decide (nn n ≤ 1099511627776)), (lookF (pS n (eN e) f row val ver ++ zB)), (decL (rR (pS n (eN e) f row val ver ++ zB)) || decC (rR (pS n (eN e) f row val ver ++ zB))), (decG (rR (pS n (eN e) f row val ver ++ zB)) == false), (decide ((pS n (eN e) f row val ver).size + (ByteArray.mk #[0]).size ≤ 9223372036854775807)), (((((pS n (eN e) f row val ver).size : Nat) : Int) == 0) == false), ((!(IntKind.i64.wrap (numV (rR (pS n (eN e) f row val ver))) == eN e && ((byteAt (tH (s1 (rR (pS n (eN e) f row val ver)))) (Int.toNat 0) == 1) == f && (tX (s2 (rR (pS n (eN e) f row val ver))) == rW row && (tX (s3 (rR (pS n (eN e) f row val ver))) == vL val && (numV (s4 (rR (pS n (eN e) f row val ver))) == vR ver && true)))))) == false), ((!(IntKind.i64.wrap (numV (rR (pS n (eN e) f row val ver))) == eN e && ((byteAt (tH (s1 (rR (pS n (eN e) f row val ver)))) (Int.toNat 0) == 1) == f && (tX (s2 (rR (pS n (eN e) f row val ver))) == rW row && (tX (s3 (rR (pS n (eN e) f row val ver))) == vL val && (numV (s4 (rR (pS n (eN e) f row val ver))) == vR ver && true)))))) == false), ((!(IntKind.i64.wrap (numV (rR (pS n (eN e) f row val ver))) == eN e && ((byteAt (tH (s1 (rR (pS n (eN e) f row val ver)))) (Int.toNat 0) == 1) == f && (tX (s2 (rR (pS n (eN e) f row val ver))) == rW row && (tX (s3 (rR (pS n (eN e) f row val ver))) == vL val && (numV (s4 (rR (pS n (eN e) f row val ver))) == vR ver && true)))))) == false), ((!(IntKind.i64.wrap (numV (rR (pS n (eN e) f row val ver))) == eN e && ((byteAt (tH (s1 (rR (pS n (eN e) f row val ver)))) (Int.toNat 0) == 1) == f && (tX (s2 (rR (pS n (eN e) f row val ver))) == rW row && (tX (s3 (rR (pS n (eN e) f row val ver))) == vL val && (numV (s4 (rR (pS n (eN e) f row val ver))) == vR ver && true)))))) == false), ((!true) == false), ((!true) == false), ((!true) == false), ((!true) == false), (false == false), (false == false), (false == false), ((pE n (eN e) f row val ver != 0) == false), ((pE n (eN e) f row val ver != 0) == false), ((pE n (eN e) f row val ver != 0) == false), (decide (nn n ≥ 1)), (decide (nn n ≤ 1099511627776)), (lookF (pS n (eN e) f row val ver)), ((nn n == numV (pS n (eN e) f row val ver)) == true), (decG (rR (pS n (eN e) f row val ver)) == true), (uOk (nn n)), (uOk (vR ver)), (decide (eP e < 0) == true), (decide ((0 : Int) ≤ 0 ∧ ((0 : Int) ≤ mnn 32 row) ∧ (mnn 32 row) ≤ ((row.size : Nat) : Int))), (decide ((0 : Int) ≤ 0 ∧ ((0 : Int) ≤ mnn 300 val) ∧ (mnn 300 val) ≤ ((val.size : Nat) : Int)))]) (by kernel_rfl) (allI (by simp only [b1, b2, b3, b4, b5, b6, b7, o1, x1, x2, x3, x4, x5, x6, x7, x8, y1, y2, y3, z1, z2, z3, c1, c2, c3, e1, w1, w2, w3, w4, baBeq, Bool.or_true, Bool.true_or, beq_self_eq_true, bne_self_eq_false]; rfl))
    · have e1 : decide (nn n > 1) = false := decide_eq_false hg
      exact ELk.pure_ok (os := (List.replicate 1 true ++ List.replicate 2 true ++ List.replicate 22 false ++ List.replicate 2 true)) (cs := [((12 == 12) == true), ((12 == 12) == true), (decide (nn n > 1) == false), (false == false), (false == false), (false == false), (false == false), (decide (nn n ≥ 1)), (decide (nn n ≤ 1099511627776)), (lookF (cS (pS n (eN e) f row val ver))), (decL (rR (cS (pS n (eN e) f row val ver))) || decC (rR (cS (pS n (eN e) f row val ver)))), (decG (rR (cS (pS n (eN e) f row val ver))) == false), (decide ((0 : Int) ≤ 0 ∧ 0 ≤ IntKind.i64.wrap ((((pS n (eN e) f row val ver).size : Nat) : Int) - 1) ∧ IntKind.i64.wrap ((((pS n (eN e) f row val ver).size : Nat) : Int) - 1) ≤ (((pS n (eN e) f row val ver).size : Nat) : Int))), (decide (nn n ≥ 1)), (decide (nn n ≤ 1099511627776)), (lookF (pS n (eN e) f row val ver ++ zB)), (decL (rR (pS n (eN e) f row val ver ++ zB)) || decC (rR (pS n (eN e) f row val ver ++ zB))), (decG (rR (pS n (eN e) f row val ver ++ zB)) == false), (decide ((pS n (eN e) f row val ver).size + (ByteArray.mk #[0]).size ≤ 9223372036854775807)), (((((pS n (eN e) f row val ver).size : Nat) : Int) == 0) == false), ((!(IntKind.i64.wrap (numV (rR (pS n (eN e) f row val ver))) == eN e && ((byteAt (tH (s1 (rR (pS n (eN e) f row val ver)))) (Int.toNat 0) == 1) == f && (tX (s2 (rR (pS n (eN e) f row val ver))) == rW row && (tX (s3 (rR (pS n (eN e) f row val ver))) == vL val && (numV (s4 (rR (pS n (eN e) f row val ver))) == vR ver && true)))))) == false), ((!(IntKind.i64.wrap (numV (rR (pS n (eN e) f row val ver))) == eN e && ((byteAt (tH (s1 (rR (pS n (eN e) f row val ver)))) (Int.toNat 0) == 1) == f && (tX (s2 (rR (pS n (eN e) f row val ver))) == rW row && (tX (s3 (rR (pS n (eN e) f row val ver))) == vL val && (numV (s4 (rR (pS n (eN e) f row val ver))) == vR ver && true)))))) == false), ((!(IntKind.i64.wrap (numV (rR (pS n (eN e) f row val ver))) == eN e && ((byteAt (tH (s1 (rR (pS n (eN e) f row val ver)))) (Int.toNat 0) == 1) == f && (tX (s2 (rR (pS n (eN e) f row val ver))) == rW row && (tX (s3 (rR (pS n (eN e) f row val ver))) == vL val && (numV (s4 (rR (pS n (eN e) f row val ver))) == vR ver && true)))))) == false), ((!(IntKind.i64.wrap (numV (rR (pS n (eN e) f row val ver))) == eN e && ((byteAt (tH (s1 (rR (pS n (eN e) f row val ver)))) (Int.toNat 0) == 1) == f && (tX (s2 (rR (pS n (eN e) f row val ver))) == rW row && (tX (s3 (rR (pS n (eN e) f row val ver))) == vL val && (numV (s4 (rR (pS n (eN e) f row val ver))) == vR ver && true)))))) == false), ((!true) == false), ((!true) == false), ((!true) == false), ((!true) == false), (false == false), (false == false), (false == false), ((pE n (eN e) f row val ver != 0) == false), ((pE n (eN e) f row val ver != 0) == false), ((pE n (eN e) f row val ver != 0) == false), (decide (nn n ≥ 1)), (decide (nn n ≤ 1099511627776)), (lookF (pS n (eN e) f row val ver)), ((nn n == numV (pS n (eN e) f row val ver)) == true), (decG (rR (pS n (eN e) f row val ver)) == true), (uOk (nn n)), (uOk (vR ver)), (decide (eP e < 0) == true), (decide ((0 : Int) ≤ 0 ∧ ((0 : Int) ≤ mnn 32 row) ∧ (mnn 32 row) ≤ ((row.size : Nat) : Int))), (decide ((0 : Int) ≤ 0 ∧ ((0 : Int) ≤ mnn 300 val) ∧ (mnn 300 val) ≤ ((val.size : Nat) : Int)))]) (by kernel_rfl) (allI (by simp only [b1, b2, b3, b4, b5, b6, b7, o1, x1, x2, x3, x4, x5, x6, x7, x8, y1, y2, y3, z1, z2, z3, c1, c2, c3, e1, baBeq, Bool.or_true, Bool.true_or, beq_self_eq_true, bne_self_eq_false]; rfl))
  · have b7 : decide (eP e < 0) = false := decide_eq_false hs
    have ev : eP e = e.tmod 16 := rfl
    obtain ⟨o1, ⟨x1, x2, x3, x4, x5, x6, x7, x8, y1, y2, y3, z1, z2, z3, k1, k2⟩⟩ := back (n := n) (e := eP e) f row val (ver := ver) hn hv (by omega) (by omega)
    have c1 : decide ((pS n (eP e) f row val ver).size + (ByteArray.mk #[0]).size ≤ 9223372036854775807) = true := decide_eq_true (by rw [nB]; omega)
    have c2 : decide ((0 : Int) ≤ 0 ∧ 0 ≤ IntKind.i64.wrap ((((pS n (eP e) f row val ver).size : Nat) : Int) - 1) ∧ IntKind.i64.wrap ((((pS n (eP e) f row val ver).size : Nat) : Int) - 1) ≤ (((pS n (eP e) f row val ver).size : Nat) : Int)) = true := decide_eq_true (by rw [wrap64 (by omega) (by omega)]; omega)
    have c3 : ((((pS n (eP e) f row val ver).size : Nat) : Int) == 0) = false := beq_eq_false_iff_ne.2 (by omega)
    by_cases hg : nn n > 1
    · have e1 : decide (nn n > 1) = true := decide_eq_true hg
      have w0 : IntKind.u64.wrap (nn n - 1) = nn n - 1 := wrapU64 (by omega) (by omega)
      have w1 : (IntKind.u64.wrap (nn n - 1) == nn n) = false := beq_eq_false_iff_ne.2 (by rw [w0]; omega)
      have w2 : decide (IntKind.u64.wrap (nn n - 1) < nn n) = true := decide_eq_true (by rw [w0]; omega)
      have w3 : decide (IntKind.u64.wrap (nn n - 1) ≤ 1099511627776) = true := decide_eq_true (by rw [w0]; omega)
      have w4 : decide (IntKind.u64.wrap (nn n - 1) ≥ 1) = true := decide_eq_true (by rw [w0]; omega)
      exact ELk.pure_ok (os := (List.replicate 1 false ++ List.replicate 2 true ++ List.replicate 21 false ++ List.replicate 2 true ++ List.replicate 1 false ++ List.replicate 3 true)) (cs := [((12 == 12) == true), ((12 == 12) == true), (decide (IntKind.u64.wrap (nn n - 1) ≥ 1)), (decide (IntKind.u64.wrap (nn n - 1) ≤ 1099511627776)), (lookF (pS n (eP e) f row val ver)), (decide (IntKind.u64.wrap (nn n - 1) < numV (pS n (eP e) f row val ver)) == true), ((IntKind.u64.wrap (nn n - 1) == numV (pS n (eP e) f row val ver)) == false), (decG (rR (pS n (eP e) f row val ver)) == true), (decide (nn n > 1) == true), (false == false), (false == false), (false == false), (false == false), (decide (nn n ≥ 1)), (decide (nn n ≤ 1099511627776)), (lookF (cS (pS n (eP e) f row val ver))), (decL (rR (cS (pS n (eP e) f row val ver))) || decC (rR (cS (pS n (eP e) f row val ver)))), (decG (rR (cS (pS n (eP e) f row val ver))) == false), (decide ((0 : Int) ≤ 0 ∧ 0 ≤ IntKind.i64.wrap ((((pS n (eP e) f row val ver).size : Nat) : Int) - 1) ∧ IntKind.i64.wrap ((((pS n (eP e) f row val ver).size : Nat) : Int) - 1) ≤ (((pS n (eP e) f row val ver).size : Nat) : Int))), (decide (nn n ≥ 1)), (decide (nn n ≤ 1099511627776)), (lookF (pS n (eP e) f row val ver ++ zB)), (decL (rR (pS n (eP e) f row val ver ++ zB)) || decC (rR (pS n (eP e) f row val ver ++ zB))), (decG (rR (pS n (eP e) f row val ver ++ zB)) == false), (decide ((pS n (eP e) f row val ver).size + (ByteArray.mk #[0]).size ≤ 9223372036854775807)), (((((pS n (eP e) f row val ver).size : Nat) : Int) == 0) == false), ((!(IntKind.i64.wrap (numV (rR (pS n (eP e) f row val ver))) == eP e && ((byteAt (tH (s1 (rR (pS n (eP e) f row val ver)))) (Int.toNat 0) == 1) == f && (tX (s2 (rR (pS n (eP e) f row val ver))) == rW row && (tX (s3 (rR (pS n (eP e) f row val ver))) == vL val && (numV (s4 (rR (pS n (eP e) f row val ver))) == vR ver && true)))))) == false), ((!(IntKind.i64.wrap (numV (rR (pS n (eP e) f row val ver))) == eP e && ((byteAt (tH (s1 (rR (pS n (eP e) f row val ver)))) (Int.toNat 0) == 1) == f && (tX (s2 (rR (pS n (eP e) f row val ver))) == rW row && (tX (s3 (rR (pS n (eP e) f row val ver))) == vL val && (numV (s4 (rR (pS n (eP e) f row val ver))) == vR ver && true)))))) == false), ((!(IntKind.i64.wrap (numV (rR (pS n (eP e) f row val ver))) == eP e && ((byteAt (tH (s1 (rR (pS n (eP e) f row val ver)))) (Int.toNat 0) == 1) == f && (tX (s2 (rR (pS n (eP e) f row val ver))) == rW row && (tX (s3 (rR (pS n (eP e) f row val ver))) == vL val && (numV (s4 (rR (pS n (eP e) f row val ver))) == vR ver && true)))))) == false), ((!(IntKind.i64.wrap (numV (rR (pS n (eP e) f row val ver))) == eP e && ((byteAt (tH (s1 (rR (pS n (eP e) f row val ver)))) (Int.toNat 0) == 1) == f && (tX (s2 (rR (pS n (eP e) f row val ver))) == rW row && (tX (s3 (rR (pS n (eP e) f row val ver))) == vL val && (numV (s4 (rR (pS n (eP e) f row val ver))) == vR ver && true)))))) == false), ((!true) == false), ((!true) == false), ((!true) == false), ((!true) == false), (false == false), (false == false), (false == false), ((pE n (eP e) f row val ver != 0) == false), ((pE n (eP e) f row val ver != 0) == false), ((pE n (eP e) f row val ver != 0) == false), (decide (nn n ≥ 1)), (decide (nn n ≤ 1099511627776)), (lookF (pS n (eP e) f row val ver)), ((nn n == numV (pS n (eP e) f row val ver)) == true), (decG (rR (pS n (eP e) f row val ver)) == true), (uOk (nn n)), (uOk (vR ver)), (decide (eP e < 0) == false), (decide ((0 : Int) ≤ 0 ∧ ((0 : Int) ≤ mnn 32 row) ∧ (mnn 32 row) ≤ ((row.size : Nat) : Int))), (decide ((0 : Int) ≤ 0 ∧ ((0 : Int) ≤ mnn 300 val) ∧ (mnn 300 val) ≤ ((val.size : Nat) : Int)))]) (by kernel_rfl) (allI (by simp only [b1, b2, b3, b4, b5, b6, b7, o1, x1, x2, x3, x4, x5, x6, x7, x8, y1, y2, y3, z1, z2, z3, c1, c2, c3, e1, w1, w2, w3, w4, baBeq, Bool.or_true, Bool.true_or, beq_self_eq_true, bne_self_eq_false]; rfl))
    · have e1 : decide (nn n > 1) = false := decide_eq_false hg
      exact ELk.pure_ok (os := (List.replicate 1 false ++ List.replicate 2 true ++ List.replicate 22 false ++ List.replicate 2 true)) (cs := [((12 == 12) == true), ((12 == 12) == true), (decide (nn n > 1) == false), (false == false), (false == false), (false == false), (false == false), (decide (nn n ≥ 1)), (decide (nn n ≤ 1099511627776)), (lookF (cS (pS n (eP e) f row val ver))), (decL (rR (cS (pS n (eP e) f row val ver))) || decC (rR (cS (pS n (eP e) f row val ver)))), (decG (rR (cS (pS n (eP e) f row val ver))) == false), (decide ((0 : Int) ≤ 0 ∧ 0 ≤ IntKind.i64.wrap ((((pS n (eP e) f row val ver).size : Nat) : Int) - 1) ∧ IntKind.i64.wrap ((((pS n (eP e) f row val ver).size : Nat) : Int) - 1) ≤ (((pS n (eP e) f row val ver).size : Nat) : Int))), (decide (nn n ≥ 1)), (decide (nn n ≤ 1099511627776)), (lookF (pS n (eP e) f row val ver ++ zB)), (decL (rR (pS n (eP e) f row val ver ++ zB)) || decC (rR (pS n (eP e) f row val ver ++ zB))), (decG (rR (pS n (eP e) f row val ver ++ zB)) == false), (decide ((pS n (eP e) f row val ver).size + (ByteArray.mk #[0]).size ≤ 9223372036854775807)), (((((pS n (eP e) f row val ver).size : Nat) : Int) == 0) == false), ((!(IntKind.i64.wrap (numV (rR (pS n (eP e) f row val ver))) == eP e && ((byteAt (tH (s1 (rR (pS n (eP e) f row val ver)))) (Int.toNat 0) == 1) == f && (tX (s2 (rR (pS n (eP e) f row val ver))) == rW row && (tX (s3 (rR (pS n (eP e) f row val ver))) == vL val && (numV (s4 (rR (pS n (eP e) f row val ver))) == vR ver && true)))))) == false), ((!(IntKind.i64.wrap (numV (rR (pS n (eP e) f row val ver))) == eP e && ((byteAt (tH (s1 (rR (pS n (eP e) f row val ver)))) (Int.toNat 0) == 1) == f && (tX (s2 (rR (pS n (eP e) f row val ver))) == rW row && (tX (s3 (rR (pS n (eP e) f row val ver))) == vL val && (numV (s4 (rR (pS n (eP e) f row val ver))) == vR ver && true)))))) == false), ((!(IntKind.i64.wrap (numV (rR (pS n (eP e) f row val ver))) == eP e && ((byteAt (tH (s1 (rR (pS n (eP e) f row val ver)))) (Int.toNat 0) == 1) == f && (tX (s2 (rR (pS n (eP e) f row val ver))) == rW row && (tX (s3 (rR (pS n (eP e) f row val ver))) == vL val && (numV (s4 (rR (pS n (eP e) f row val ver))) == vR ver && true)))))) == false), ((!(IntKind.i64.wrap (numV (rR (pS n (eP e) f row val ver))) == eP e && ((byteAt (tH (s1 (rR (pS n (eP e) f row val ver)))) (Int.toNat 0) == 1) == f && (tX (s2 (rR (pS n (eP e) f row val ver))) == rW row && (tX (s3 (rR (pS n (eP e) f row val ver))) == vL val && (numV (s4 (rR (pS n (eP e) f row val ver))) == vR ver && true)))))) == false), ((!true) == false), ((!true) == false), ((!true) == false), ((!true) == false), (false == false), (false == false), (false == false), ((pE n (eP e) f row val ver != 0) == false), ((pE n (eP e) f row val ver != 0) == false), ((pE n (eP e) f row val ver != 0) == false), (decide (nn n ≥ 1)), (decide (nn n ≤ 1099511627776)), (lookF (pS n (eP e) f row val ver)), ((nn n == numV (pS n (eP e) f row val ver)) == true), (decG (rR (pS n (eP e) f row val ver)) == true), (uOk (nn n)), (uOk (vR ver)), (decide (eP e < 0) == false), (decide ((0 : Int) ≤ 0 ∧ ((0 : Int) ≤ mnn 32 row) ∧ (mnn 32 row) ≤ ((row.size : Nat) : Int))), (decide ((0 : Int) ≤ 0 ∧ ((0 : Int) ≤ mnn 300 val) ∧ (mnn 300 val) ≤ ((val.size : Nat) : Int)))]) (by kernel_rfl) (allI (by simp only [b1, b2, b3, b4, b5, b6, b7, o1, x1, x2, x3, x4, x5, x6, x7, x8, y1, y2, y3, z1, z2, z3, c1, c2, c3, e1, baBeq, Bool.or_true, Bool.true_or, beq_self_eq_true, bne_self_eq_false]; rfl))
theorem back_law (d : dens sUR') (h : WFs sUR' d) : PureCall Try.prog 5 (encs sUR' d) (vB true) := by
  obtain ⟨n, ⟨e, f, row, val, ver, _⟩, _⟩ := d
  have hn : (0 : Int) ≤ n := h.1.1
  have hv : (0 : Int) ≤ ver := h.2.1.2.2.2.2.1.1
  show PureCall Try.prog _ [vU n, .agg [.int .i64 e, .bool f, .str row, .str val, .int .u64 ver]] _
  exact back_run n e f row val ver hn hv
end Go.Proofs.Ytkpehdhkhmomoaa
