/- What is read of a result's bytes, of longer and of cut ones; no statement. -/
import Derived.Test.YtkpehdhkhmomoaaLkc
set_option linter.unusedVariables false
namespace Go.Proofs.Ytkpehdhkhmomoaa
open Go Go.Eng

theorem appEmpty (x : ByteArray) : x ++ (ByteArray.mk #[]) = x := by
  apply ByteArray.ext
  simp [ByteArray.data_append]
theorem numD_cut (pre : ByteArray) : ∀ (f k v w : Nat), pre.size = k → (numD (pre ++ strOfNums (varP f w)) f k v).2 = 0
  | 0, _, _, _, _ => rfl
  | f + 1, k, v, w, hp => by
    have hpl : pre.data.toList.length = k := by rw [Array.length_toList]; exact hp
    by_cases hw' : w < 128
    · rw [varP_lo hw']
      unfold numD
      rw [if_neg (by rw [ByteArray.size_append, strOfNums_size, hp]; simp)]
    · rw [varP_hi hw']
      have hget : bN (pre ++ strOfNums (((w % 128 + 128 : Nat) : Int) :: varP f (w / 128))) k = w % 128 + 128 := by
        rw [getD_data, data_app, strOfNums_list, List.getD_eq_getElem?_getD, List.getElem?_append_right (by omega), hpl, Nat.sub_self]
        simp only [List.map_cons, List.getElem?_cons_zero, Option.getD_some]
        rw [UInt8.toNat_ofNat']; omega
      unfold numD
      rw [hget]
      split
      · split
        · rfl
        · rw [if_pos (by omega)]
          have e2 : pre ++ strOfNums (((w % 128 + 128 : Nat) : Int) :: varP f (w / 128)) = pre ++ strOfNums [((w % 128 + 128 : Nat) : Int)] ++ strOfNums (varP f (w / 128)) := by
            rw [show ((w % 128 + 128 : Nat) : Int) :: varP f (w / 128) = [((w % 128 + 128 : Nat) : Int)] ++ varP f (w / 128) from rfl, strApp]
            simp only [ByteArray.append_assoc]
          rw [e2]
          exact numD_cut _ f (k + 1) _ (w / 128) (by rw [ByteArray.size_append, strOfNums_size, hp]; rfl)
      · rfl
/-- A number's bytes without the last one. -/
def cutB (v : Int) : ByteArray := strOfNums (varP 10 v.toNat)
theorem cutB_N (v : Int) : numN (cutB v) = 0 := by
  have := numD_cut (ByteArray.mk #[]) 10 0 0 v.toNat rfl
  rw [emptyApp] at this
  unfold numN cutB
  rw [this]; rfl
theorem nS_cut (v : Int) : ∃ z : ByteArray, z.size = 1 ∧ nS v = cutB v ++ z := ⟨strOfNums [IntKind.u8.wrap ((varE 10 v.toNat : Nat) : Int)], by rw [strOfNums_size]; rfl, by unfold nS numB cutB; rw [strApp]⟩
def bB (f : Bool) : ByteArray := strOfNums [bif f then 1 else 0]
def encT (e : Int) (f : Bool) (row val tail : ByteArray) : ByteArray := nS e ++ (bB f ++ (tS row ++ (tS val ++ tail)))
theorem bB_size (f : Bool) : (bB f).size = 1 := by unfold bB; rw [strOfNums_size]; rfl
theorem bB_at (f : Bool) : byteAt (bB f) (Int.toNat 0) = bif f then 1 else 0 := by cases f <;> rfl
theorem tS_size (b : ByteArray) : (tS b).size ≤ 11 + b.size := by
  unfold tS; rw [ByteArray.size_append]; have := nS_size (IntKind.u64.wrap ((b.size : Nat) : Int)); omega
structure Parts (e : Int) (f : Bool) (row val tail : ByteArray) : Prop where
  p1 : frontOk (encT e f row val tail) = true
  p2 : numV (encT e f row val tail) = e
  p3 : (byteAt (tH (s1 (encT e f row val tail))) (Int.toNat 0) == 1) = f
  p4 : tX (s2 (encT e f row val tail)) = row
  p5 : tX (s3 (encT e f row val tail)) = val
  p6 : s4 (encT e f row val tail) = tail
theorem parts {e : Int} {f : Bool} {row val tail : ByteArray} (h0 : 0 ≤ e) (h1 : e ≤ 1073741824) (hr : row.size ≤ 65536) (hv : val.size ≤ 65536) (ht : tail.size ≤ 65536) : Parts e f row val tail := by
  have hs1 : s1 (encT e f row val tail) = bB f ++ (tS row ++ (tS val ++ tail)) := nS_s1 h0 (by omega) _
  have hs2 : s2 (encT e f row val tail) = tS row ++ (tS val ++ tail) := by
    unfold s2; rw [hs1]; exact ext_right _ _ _ (bB_size f).symm
  obtain ⟨r1, r2, r3⟩ := tS_facts hr (tS val ++ tail)
  have hs3 : s3 (encT e f row val tail) = tS val ++ tail := by unfold s3; rw [hs2]; exact r3
  obtain ⟨v1, v2, v3⟩ := tS_facts hv tail
  have hs4 : s4 (encT e f row val tail) = tail := by unfold s4; rw [hs3]; exact v3
  have hH : tH (s1 (encT e f row val tail)) = bB f := by unfold tH; rw [hs1]; exact ext_left _ _ _ (bB_size f).symm
  have hV : numV (encT e f row val tail) = e := nS_V h0 (by omega) _
  have hN : numN (encT e f row val tail) = (((nS e).size : Nat) : Int) := nS_N h0 (by omega) _
  have hp := nS_pos e
  have hz := nS_size e
  have z1 := tS_size row
  have z2 := tS_size val
  have z3 := bB_size f
  refine ⟨?_, hV, ?_, by rw [hs2]; exact r2, by rw [hs3]; exact v2, hs4⟩
  · unfold frontOk nOk
    rw [hV, hN, hH, hs1, hs2, hs3, r1, v1, bB_at]
    have hsz : (encT e f row val tail).size = (nS e).size + ((bB f).size + ((tS row).size + ((tS val).size + tail.size))) := by unfold encT; simp only [ByteArray.size_append]
    rw [hsz, ByteArray.size_append]
    have g1 : decide ((bif f then (1 : Int) else 0) ≤ 1) = true := by cases f <;> rfl
    rw [g1]
    simp only [Bool.and_eq_true, Bool.not_eq_true', beq_eq_false_iff_ne, decide_eq_true_eq, ne_eq, Bool.true_and, and_true, true_and]
    omega
  · rw [hH, bB_at]; cases f <;> rfl
theorem wrapSmall {e : Int} (h0 : 0 ≤ e) (h1 : e ≤ 1073741824) : IntKind.i64.wrap e = e := wrap64 (by omega) (by omega)
theorem encB_eq {e : Int} (h0 : 0 ≤ e) (h1 : e ≤ 1073741824) (f : Bool) (row val : ByteArray) (ver : Int) : encB e f row val ver = encT e f row val (nS ver) := by
  unfold encB encT bB
  rw [wrapU64 (by omega) (by omega)]; simp only [ByteArray.append_assoc]
theorem dec_of_good {e : Int} {f : Bool} {row val : ByteArray} {ver : Int} (h0 : 0 ≤ e) (h1 : e ≤ 1073741824) (hr : row.size ≤ 65536) (hv : val.size ≤ 65536) (g0 : 0 ≤ ver) (g1 : ver ≤ 1099511627776) (hR : resOk e row val ver = true) :
    decG (encT e f row val (nS ver)) = true ∧ numV (s4 (encT e f row val (nS ver))) = ver := by
  have hz := nS_size ver
  obtain ⟨p1, p2, p3, p4, p5, p6⟩ := parts (f := f) h0 h1 hr hv (tail := nS ver) (by omega)
  have e1 : nS ver = nS ver ++ (ByteArray.mk #[]) := (appEmpty _).symm
  have hV : numV (nS ver) = ver := by rw [e1]; exact nS_V g0 (by omega) _
  have hN : numN (nS ver) = (((nS ver).size : Nat) : Int) := by
    have := nS_N g0 (show ver < 18446744073709551616 by omega) (ByteArray.mk #[])
    rw [appEmpty] at this; exact this
  have hp := nS_pos ver
  have h5 : s5 (encT e f row val (nS ver)) = ByteArray.mk #[] := by
    unfold s5; rw [p6, hN]
    have := ext_right (nS ver) (ByteArray.mk #[]) (nS ver).size rfl
    rw [appEmpty] at this; exact this
  refine ⟨?_, by rw [p6]; exact hV⟩
  unfold decG nOk resG
  rw [p1, p2, p4, p5, p6, hV, hN, h5, wrapSmall h0 h1, hR]
  simp only [Bool.and_eq_true, Bool.not_eq_true', beq_eq_false_iff_ne, decide_eq_true_eq, ne_eq, Bool.true_and, and_true, true_and]
  exact ⟨⟨by omega, g1⟩, rfl⟩
theorem dec_of_long {e : Int} {f : Bool} {row val : ByteArray} {ver : Int} (z : ByteArray) (h0 : 0 ≤ e) (h1 : e ≤ 1073741824) (hr : row.size ≤ 65536) (hv : val.size ≤ 65536) (g0 : 0 ≤ ver) (g1 : ver ≤ 1099511627776) (hz : z.size = 1) :
    decG (encT e f row val (nS ver ++ z)) = false ∧ decL (encT e f row val (nS ver ++ z)) = true := by
  have hn := nS_size ver
  obtain ⟨p1, p2, p3, p4, p5, p6⟩ := parts (f := f) h0 h1 hr hv (tail := nS ver ++ z) (by rw [ByteArray.size_append]; omega)
  have hV : numV (nS ver ++ z) = ver := nS_V g0 (by omega) _
  have hN : numN (nS ver ++ z) = (((nS ver).size : Nat) : Int) := nS_N g0 (by omega) z
  have hp := nS_pos ver
  have h5 : s5 (encT e f row val (nS ver ++ z)) = z := by
    unfold s5; rw [p6, hN]; exact ext_right (nS ver) z _ rfl
  refine ⟨?_, ?_⟩
  · unfold decG
    rw [h5, hz]; simp
  · unfold decL nOk
    rw [p1, p6, hV, hN, h5, hz]
    simp only [Bool.and_eq_true, Bool.not_eq_true', beq_eq_false_iff_ne, decide_eq_true_eq, ne_eq, Bool.true_and, and_true, true_and]
    exact ⟨⟨by omega, g1⟩, by omega⟩
theorem dec_of_cut {e : Int} {f : Bool} {row val : ByteArray} {ver : Int} (h0 : 0 ≤ e) (h1 : e ≤ 1073741824) (hr : row.size ≤ 65536) (hv : val.size ≤ 65536) :
    decG (encT e f row val (cutB ver)) = false ∧ decC (encT e f row val (cutB ver)) = true := by
  have hn : (cutB ver).size ≤ 10 := by unfold cutB; rw [strOfNums_size]; exact varP_len _ _
  obtain ⟨p1, p2, p3, p4, p5, p6⟩ := parts (f := f) h0 h1 hr hv (tail := cutB ver) (by omega)
  have hN := cutB_N ver
  refine ⟨?_, ?_⟩
  · unfold decG nOk
    rw [p6, hN]; simp
  · unfold decC
    rw [p1, p6, hN]; rfl
end Go.Proofs.Ytkpehdhkhmomoaa
