/- What is read of bytes is laid as these bytes (plain); no statement. -/
import Derived.Test.YtjplobgambnhjaaDrd
set_option linter.unusedVariables false
namespace Go.Proofs.Ytjplobgambnhjaa
open Go Go.Eng

theorem extract_cons {s : ByteArray} {k n : Nat} (hk : k < s.size) (hn : k < n) : s.extract k n = strOfNums [((bN s k : Nat) : Int)] ++ s.extract (k + 1) n := by
  apply ByteArray.ext
  apply Array.ext'
  have hl : k < s.data.toList.length := by rw [Array.length_toList]; exact hk
  have e0 : (strOfNums [((bN s k : Nat) : Int)]).data.toList = [s.data.toList[k]] := by
    rw [strOfNums_list]
    simp only [List.map_cons, List.map_nil, Int.toNat_natCast, bN]
    congr 1
    rw [List.getD_eq_getElem?_getD, List.getElem?_eq_getElem hl, Option.getD_some]
    exact UInt8.ofNat_toNat
  rw [data_app, e0]
  simp only [ByteArray.data_extract, Array.toList_extract, List.extract_eq_take_drop]
  rw [List.drop_eq_getElem_cons hl]
  have : n - k = (n - (k + 1)) + 1 := by omega
  rw [this, List.take_succ_cons]; rfl
theorem numD_again (s : ByteArray) : ∀ (f k v : Nat), k + f = 10 → (numD s f k v).2 ≠ 0 → ∃ w, (numD s f k v).1 = v + w * 128 ^ k ∧ (0 < k → 0 < w) ∧ w * 128 ^ k + 128 ^ k ≤ 18446744073709551616 ∧ (numD s f k v).2 = k + (varP f w).length + 1 ∧ s.extract k (numD s f k v).2 = strOfNums (varP f w ++ [((varE f w : Nat) : Int)])
  | 0, k, v, _, h => absurd rfl h
  | f + 1, k, v, hk, h => by
    unfold numD at h ⊢
    have b256 := bN_lt s k
    split at h
    · rename_i hsz
      split at h
      · exact absurd rfl h
      · rename_i h9
        split at h
        · rename_i hb
          have ih := numD_again s f (k + 1) (v + (bN s k - 128) * 128 ^ k) (by omega) h
          obtain ⟨w', e1, p1, bd, e2, e3⟩ := ih
          have hw' : 0 < w' := p1 (by omega)
          rw [if_pos hsz, if_neg h9, if_pos hb]
          have q1 : ((bN s k - 128) + 128 * w') % 128 + 128 = bN s k := by omega
          have q2 : ((bN s k - 128) + 128 * w') / 128 = w' := by omega
          have q3 : ¬ (bN s k - 128) + 128 * w' < 128 := by omega
          have pe : 128 ^ (k + 1) = 128 ^ k * 128 := Nat.pow_succ ..
          refine ⟨(bN s k - 128) + 128 * w', ?_, fun _ => by omega, ?_, ?_, ?_⟩
          · rw [e1, pe, Nat.add_mul, Nat.add_assoc]; congr 2
            rw [Nat.mul_comm (128 ^ k) 128, ← Nat.mul_assoc, Nat.mul_comm w' 128]
          · rw [pe] at bd
            have : ((bN s k - 128) + 128 * w') * 128 ^ k + 128 ^ k ≤ w' * (128 ^ k * 128) + 128 ^ k * 128 := by
              have a1 : ((bN s k - 128) + 128 * w') * 128 ^ k + 128 ^ k = ((bN s k - 128) + 1) * 128 ^ k + w' * (128 ^ k * 128) := by
                rw [Nat.add_mul, Nat.add_mul, Nat.one_mul, Nat.mul_comm (128 ^ k) 128, ← Nat.mul_assoc, Nat.mul_comm w' 128]; omega
              have a2 : ((bN s k - 128) + 1) * 128 ^ k ≤ 128 * 128 ^ k := Nat.mul_le_mul_right _ (by omega)
              rw [a1, Nat.mul_comm (128 ^ k) 128]
              rw [Nat.mul_comm (128 ^ k) 128] at *
              omega
            omega
          · rw [e2, varP_hi q3, q2, List.length_cons]; omega
          · rw [varP_hi q3, varE_hi q3, q1, q2, extract_cons hsz (by rw [e2]; omega), e3, List.cons_append, ← strApp]; rfl
        · rename_i hb
          split at h
          · exact absurd rfl h
          · rename_i h0
            rw [if_pos hsz, if_neg h9, if_neg hb, if_neg h0]
            have q : bN s k < 128 := by omega
            refine ⟨bN s k, rfl, fun hk0 => by omega, ?_, ?_, ?_⟩
            · have hk9 : k ≤ 9 := by omega
              by_cases hk' : k = 9
              · have : bN s k ≤ 1 := by omega
                subst hk'
                have e : (128 : Nat) ^ 9 = 9223372036854775808 := by decide
                rw [e]; omega
              · have a1 : bN s k * 128 ^ k + 128 ^ k ≤ 128 * 128 ^ k := by
                  have := Nat.mul_le_mul_right (128 ^ k) (show bN s k + 1 ≤ 128 by omega)
                  rw [Nat.add_mul, Nat.one_mul] at this; exact this
                have a2 : 128 * 128 ^ k ≤ 128 ^ 9 := by
                  rw [Nat.mul_comm, ← Nat.pow_succ]; exact Nat.pow_le_pow_right (by omega) (by omega)
                have e : (128 : Nat) ^ 9 = 9223372036854775808 := by decide
                omega
            · rw [varP_lo q]; rfl
            · rw [varP_lo q, varE_lo q, List.nil_append, extract_cons hsz (by omega)]
              have : s.extract (k + 1) (k + 1) = ByteArray.mk #[] := by
                apply ByteArray.ext; simp
              rw [this]
              apply ByteArray.ext; simp [ByteArray.data_append]
    · exact absurd rfl h
theorem ext_join {s : ByteArray} {n : Nat} (h : n ≤ s.size) : s.extract 0 n ++ s.extract n s.size = s := by
  rw [ByteArray.extract_append_extract, Nat.min_eq_left (Nat.zero_le _), Nat.max_eq_right h, ByteArray.extract_zero_size]
theorem ext_join2 {s : ByteArray} {a b : Nat} (h1 : a ≤ b) (h2 : b ≤ s.size) : s.extract a b ++ s.extract b s.size = s.extract a s.size := by
  rw [ByteArray.extract_append_extract, Nat.min_eq_left h1, Nat.max_eq_right h2]
theorem nb_again {s : ByteArray} (h : nb s = true) : s = nS (numV s) ++ nr s ∧ uOk (numV s) = true := by
  have h : numN s ≠ 0 := by
    unfold nb at h; simpa using h
  have h' : (numD s 10 0 0).2 ≠ 0 := fun e => h (by unfold numN; rw [e]; rfl)
  obtain ⟨w, e1, _, bd, e2, e3⟩ := numD_again s 10 0 0 rfl h'
  rw [Nat.pow_zero, Nat.mul_one, Nat.zero_add] at e1
  rw [Nat.pow_zero, Nat.mul_one] at bd
  have hv : numV s = ((w : Nat) : Int) := by unfold numV; rw [e1]
  refine ⟨?_, by rw [hv, uOk, decide_eq_true (by omega), decide_eq_true (by omega)]; rfl⟩
  have hn : (numN s).toNat = (numD s 10 0 0).2 := Int.toNat_natCast _
  unfold nr nS
  rw [hv, Int.toNat_natCast, numB_eq (by omega), ← e3, hn]
  exact (ext_join (numD_le s 10 0 0)).symm
theorem tb_again {s : ByteArray} {m : Int} (hs : szk s = true) (hm : 0 ≤ m ∧ m ≤ 1073741824) (h : tb s m = true) : s = tS (tv s m) ++ tr s m ∧ (((tv s m).size : Nat) : Int) ≤ m := by
  have hsz := of_decide_eq_true hs
  have hb := h
  unfold tb at hb
  simp only [Bool.and_eq_true, Bool.not_eq_true', decide_eq_false_iff_not] at hb
  obtain ⟨h1, h2, h3⟩ := hb
  have g1 := numN_ge s; have g2 := numN_le s; have g3 := numV_ge s
  rw [wrap64 (by omega) (by omega)] at h3
  rw [wrapU64 (by omega) (by omega)] at h2
  rw [wrapU64 (by omega) (by omega)] at h3
  have hx : (tv s m).size = (numV s).toNat := by
    unfold tv; rw [h, cond_true, ByteArray.size_extract]; omega
  constructor
  · have hj : tv s m ++ tr s m = nr s := by
      unfold tv tr nr; rw [h, cond_true, cond_true]
      exact ext_join2 (by omega) (by omega)
    unfold tS
    rw [ByteArray.append_assoc, hj, hx]
    have : wU (((numV s).toNat : Nat) : Int) = numV s := by
      unfold wU; rw [wrapU64 (by omega) (by omega)]; omega
    rw [this]
    exact (nb_again h1).1
  · rw [hx]; omega
theorem fb_again {s : ByteArray} (h : yb s = true) (h1 : yv s ≤ 1) : s = fS (yv s == 1) ++ yr s := by
  have hb := h
  unfold yb at hb
  simp only [Bool.not_eq_true', decide_eq_false_iff_not] at hb
  have hlt : 0 < s.size := by omega
  have hv : yv s = ((bN s 0 : Nat) : Int) := by
    unfold yv; rw [h, cond_true, byteAt_bN]
    congr 1
    unfold bN
    simp only [ByteArray.data_extract, Array.toList_extract, List.extract_eq_take_drop]
    simp only [List.getD_eq_getElem?_getD]
    congr 2
    show ((s.data.toList.drop 0).take 1)[0]? = _
    simp
  unfold yr; rw [h, cond_true]
  have e : fS (yv s == 1) = strOfNums [((bN s 0 : Nat) : Int)] := by
    unfold fS
    rw [hv] at h1 ⊢
    have : bN s 0 = 0 ∨ bN s 0 = 1 := by omega
    rcases this with e | e <;> rw [e] <;> rfl
  rw [e]
  have := extract_cons (s := s) (k := 0) (n := s.size) hlt hlt
  rw [ByteArray.extract_zero_size] at this
  exact this
end Go.Proofs.Ytjplobgambnhjaa
