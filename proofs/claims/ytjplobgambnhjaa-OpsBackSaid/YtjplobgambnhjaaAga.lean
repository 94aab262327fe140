/- What is read of bytes is laid as these bytes (plain); no statement. -/
import Derived.Test.YtjplobgambnhjaaDrd
import Derived.Test.YtjplobgambnhjaaLyg
set_option linter.unusedVariables false
set_option linter.unusedSimpArgs false
namespace Go.Proofs.Ytjplobgambnhjaa
open Go Go.Eng

theorem extract_cons {s : ByteArray} {k n : Nat} (hk : k < s.size) (hn : k < n) : s.extract k n = strOfNums [((bN s k : Nat) : Int)] ++ s.extract (k + 1) n := by
  apply ByteArray.ext
  apply Array.ext'
  have hl : k < s.data.toList.length := by rw [Array.length_toList]; exact hk
  have e0 : (strOfNums [((bN s k : Nat) : Int)]).data.toList = [s.data.toList[k]] := by
    rw [strOfNums_list]
    simp only [List.map_cons, List.map_nil, Int.toNat_natCast, bN]
    congr 1
    rw [List.getD_eq_getElem?_getD, List.getElem?_eq_getElem hl, Option.getD_some]
    exact UInt8.ofNat_toNat
  rw [data_app, e0]
  simp only [ByteArray.data_extract, Array.toList_extract, List.extract_eq_take_drop]
  rw [List.drop_eq_getElem_cons hl]
  have : n - k = (n - (k + 1)) + 1 := by omega
  rw [this, List.take_succ_cons]; rfl
theorem numD_again (s : ByteArray) : ∀ (f k v : Nat), k + f = 10 → (numD s f k v).2 ≠ 0 → ∃ w, (numD s f k v).1 = v + w * 128 ^ k ∧ (0 < k → 0 < w) ∧ w * 128 ^ k + 128 ^ k ≤ 18446744073709551616 ∧ (numD s f k v).2 = k + (varP f w).length + 1 ∧ s.extract k (numD s f k v).2 = strOfNums (varP f w ++ [((varE f w : Nat) : Int)])
  | 0, k, v, _, h => absurd rfl h
  | f + 1, k, v, hk, h => by
    unfold numD at h ⊢
    have b256 := bN_lt s k
    split at h
    · rename_i hsz
      split at h
      · exact absurd rfl h
      · rename_i h9
        split at h
        · rename_i hb
          have ih := numD_again s f (k + 1) (v + (bN s k - 128) * 128 ^ k) (by omega) h
          obtain ⟨w', e1, p1, bd, e2, e3⟩ := ih
          have hw' : 0 < w' := p1 (by omega)
          rw [if_pos hsz, if_neg h9, if_pos hb]
          have q1 : ((bN s k - 128) + 128 * w') % 128 + 128 = bN s k := by omega
          have q2 : ((bN s k - 128) + 128 * w') / 128 = w' := by omega
          have q3 : ¬ (bN s k - 128) + 128 * w' < 128 := by omega
          have pe : 128 ^ (k + 1) = 128 ^ k * 128 := Nat.pow_succ ..
          refine ⟨(bN s k - 128) + 128 * w', ?_, fun _ => by omega, ?_, ?_, ?_⟩
          · rw [e1, pe, Nat.add_mul, Nat.add_assoc]; congr 2
            rw [Nat.mul_comm (128 ^ k) 128, ← Nat.mul_assoc, Nat.mul_comm w' 128]
          · rw [pe] at bd
            have : ((bN s k - 128) + 128 * w') * 128 ^ k + 128 ^ k ≤ w' * (128 ^ k * 128) + 128 ^ k * 128 := by
              have a1 : ((bN s k - 128) + 128 * w') * 128 ^ k + 128 ^ k = ((bN s k - 128) + 1) * 128 ^ k + w' * (128 ^ k * 128) := by
                rw [Nat.add_mul, Nat.add_mul, Nat.one_mul, Nat.mul_comm (128 ^ k) 128, ← Nat.mul_assoc, Nat.mul_comm w' 128]; omega
              have a2 : ((bN s k - 128) + 1) * 128 ^ k ≤ 128 * 128 ^ k := Nat.mul_le_mul_right _ (by omega)
              rw [a1, Nat.mul_comm (128 ^ k) 128]
              rw [Nat.mul_comm (128 ^ k) 128] at *
              omega
            omega
          · rw [e2, varP_hi q3, q2, List.length_cons]; omega
          · rw [varP_hi q3, varE_hi q3, q1, q2, extract_cons hsz (by rw [e2]; omega), e3, List.cons_append, ← strApp]; rfl
        · rename_i hb
          split at h
          · exact absurd rfl h
          · rename_i h0
            rw [if_pos hsz, if_neg h9, if_neg hb, if_neg h0]
            have q : bN s k < 128 := by omega
            refine ⟨bN s k, rfl, fun hk0 => by omega, ?_, ?_, ?_⟩
            · have hk9 : k ≤ 9 := by omega
              by_cases hk' : k = 9
              · have : bN s k ≤ 1 := by omega
                subst hk'
                have e : (128 : Nat) ^ 9 = 9223372036854775808 := by decide
                rw [e]; omega
              · have a1 : bN s k * 128 ^ k + 128 ^ k ≤ 128 * 128 ^ k := by
                  have := Nat.mul_le_mul_right (128 ^ k) (show bN s k + 1 ≤ 128 by omega)
                  rw [Nat.add_mul, Nat.one_mul] at this; exact this
                have a2 : 128 * 128 ^ k ≤ 128 ^ 9 := by
                  rw [Nat.mul_comm, ← Nat.pow_succ]; exact Nat.pow_le_pow_right (by omega) (by omega)
                have e : (128 : Nat) ^ 9 = 9223372036854775808 := by decide
                omega
            · rw [varP_lo q]; rfl
            · rw [varP_lo q, varE_lo q, List.nil_append, extract_cons hsz (by omega)]
              have : s.extract (k + 1) (k + 1) = ByteArray.mk #[] := by
                apply ByteArray.ext; simp
              rw [this]
              apply ByteArray.ext; simp [ByteArray.data_append]
    · exact absurd rfl h
theorem ext_join {s : ByteArray} {n : Nat} (h : n ≤ s.size) : s.extract 0 n ++ s.extract n s.size = s := by
  rw [ByteArray.extract_append_extract, Nat.min_eq_left (Nat.zero_le _), Nat.max_eq_right h, ByteArray.extract_zero_size]
theorem ext_join2 {s : ByteArray} {a b : Nat} (h1 : a ≤ b) (h2 : b ≤ s.size) : s.extract a b ++ s.extract b s.size = s.extract a s.size := by
  rw [ByteArray.extract_append_extract, Nat.min_eq_left h1, Nat.max_eq_right h2]
theorem nb_again {s : ByteArray} (h : nb s = true) : s = nS (numV s) ++ nr s ∧ uOk (numV s) = true := by
  have h : numN s ≠ 0 := by
    unfold nb at h; simpa using h
  have h' : (numD s 10 0 0).2 ≠ 0 := fun e => h (by unfold numN; rw [e]; rfl)
  obtain ⟨w, e1, _, bd, e2, e3⟩ := numD_again s 10 0 0 rfl h'
  rw [Nat.pow_zero, Nat.mul_one, Nat.zero_add] at e1
  rw [Nat.pow_zero, Nat.mul_one] at bd
  have hv : numV s = ((w : Nat) : Int) := by unfold numV; rw [e1]
  refine ⟨?_, by rw [hv, uOk, decide_eq_true (by omega), decide_eq_true (by omega)]; rfl⟩
  have hn : (numN s).toNat = (numD s 10 0 0).2 := Int.toNat_natCast _
  unfold nr nS
  rw [hv, Int.toNat_natCast, numB_eq (by omega), ← e3, hn]
  exact (ext_join (numD_le s 10 0 0)).symm
theorem tb_again {s : ByteArray} {m : Int} (hs : szk s = true) (hm : 0 ≤ m ∧ m ≤ 1073741824) (h : tb s m = true) : s = tS (tv s m) ++ tr s m ∧ (((tv s m).size : Nat) : Int) ≤ m := by
  have hsz := of_decide_eq_true hs
  have hb := h
  unfold tb at hb
  simp only [Bool.and_eq_true, Bool.not_eq_true', decide_eq_false_iff_not] at hb
  obtain ⟨h1, h2, h3⟩ := hb
  have g1 := numN_ge s; have g2 := numN_le s; have g3 := numV_ge s
  rw [wrap64 (by omega) (by omega)] at h3
  rw [wrapU64 (by omega) (by omega)] at h2
  rw [wrapU64 (by omega) (by omega)] at h3
  have hx : (tv s m).size = (numV s).toNat := by
    unfold tv; rw [h, cond_true, ByteArray.size_extract]; omega
  constructor
  · have hj : tv s m ++ tr s m = nr s := by
      unfold tv tr nr; rw [h, cond_true, cond_true]
      exact ext_join2 (by omega) (by omega)
    unfold tS
    rw [ByteArray.append_assoc, hj, hx]
    have : wU (((numV s).toNat : Nat) : Int) = numV s := by
      unfold wU; rw [wrapU64 (by omega) (by omega)]; omega
    rw [this]
    exact (nb_again h1).1
  · rw [hx]; omega
theorem fb_again {s : ByteArray} (h : yb s = true) (h1 : yv s ≤ 1) : s = fS (yv s == 1) ++ yr s := by
  have hb := h
  unfold yb at hb
  simp only [Bool.not_eq_true', decide_eq_false_iff_not] at hb
  have hlt : 0 < s.size := by omega
  have hv : yv s = ((bN s 0 : Nat) : Int) := by
    unfold yv; rw [h, cond_true, byteAt_bN]
    congr 1
    unfold bN
    simp only [ByteArray.data_extract, Array.toList_extract, List.extract_eq_take_drop]
    simp only [List.getD_eq_getElem?_getD]
    congr 2
    show ((s.data.toList.drop 0).take 1)[0]? = _
    simp
  unfold yr; rw [h, cond_true]
  have e : fS (yv s == 1) = strOfNums [((bN s 0 : Nat) : Int)] := by
    unfold fS
    rw [hv] at h1 ⊢
    have : bN s 0 = 0 ∨ bN s 0 = 1 := by omega
    rcases this with e | e <;> rw [e] <;> rfl
  rw [e]
  have := extract_cons (s := s) (k := 0) (n := s.size) hlt hlt
  rw [ByteArray.extract_zero_size] at this
  exact this
open Go Go.Eng

theorem bif_split {a b : Bool} (h : (bif a then b else false) = true) : a = true ∧ b = true := by
  cases a
  · cases h
  · exact ⟨rfl, h⟩
/-- A value as it was read. -/
def rdR : Rd → ByteArray → RV
  | .n _, s => .n (numV s)
  | .t m, s => .t (tv s m)
  | .y, s => .f (yv s == 1)
  | .g, s => .n (numV s)
def rdsR : List Rd → ByteArray → List RV
  | [], _ => []
  | r :: l, s => rdR r s :: rdsR l (rdS r s)
def fitR : Rd → RV → Bool
  | .n m, .n v => decide (0 ≤ v ∧ v ≤ m)
  | .t m, .t b => decide ((((b.size : Nat) : Int)) ≤ m)
  | .y, .f _ => true
  | .g, .n v => decide (0 ≤ v ∧ v ≤ 1073741824)
  | _, _ => false
def fitsR : List Rd → List RV → Bool
  | [], [] => true
  | r :: l, v :: vs => fitR r v && fitsR l vs
  | _, _ => false
def rdOkA : Rd → Bool
  | .t m => decide (0 ≤ m ∧ m ≤ 1073741824)
  | _ => true
theorem rd_again (r : Rd) {g : Bool} {s : ByteArray} (hs : szk s = true) (hr : rdOkA r = true) (h : rdG r g s = true) : g = true ∧ s = layB (rdR r s) ++ rdS r s ∧ fitR r (rdR r s) = true := by
  cases r with
  | n m =>
    obtain ⟨h1, h2⟩ := bif_split (show (bif bif g then nb s else false then decide (numV s ≤ m) else false) = true from h)
    obtain ⟨h0, h3⟩ := bif_split h1
    exact ⟨h0, (nb_again h3).1, decide_eq_true ⟨numV_ge s, of_decide_eq_true h2⟩⟩
  | t m =>
    obtain ⟨h0, h1⟩ := bif_split (show (bif g then tb s m else false) = true from h)
    have := tb_again hs (of_decide_eq_true hr) h1
    exact ⟨h0, this.1, decide_eq_true this.2⟩
  | y =>
    obtain ⟨h1, h2⟩ := bif_split (show (bif bif g then yb s else false then decide (yv s ≤ 1) else false) = true from h)
    obtain ⟨h0, h3⟩ := bif_split h1
    exact ⟨h0, fb_again h3 (of_decide_eq_true h2), rfl⟩
  | g =>
    obtain ⟨h1, h2⟩ := bif_split (show (bif bif g then nb s else false then decide (numV s ≤ 1073741824) else false) = true from h)
    obtain ⟨h0, h3⟩ := bif_split h1
    exact ⟨h0, (nb_again h3).1, decide_eq_true ⟨numV_ge s, of_decide_eq_true h2⟩⟩
theorem rds_again : ∀ (l : List Rd) {g : Bool} {s : ByteArray}, szk s = true → l.all rdOkA = true → rdsG l g s = true → g = true ∧ s = encsB (rdsR l s) ++ rdsS l s ∧ fitsR l (rdsR l s) = true
  | [], g, s, _, _, h => ⟨h, (emptyApp s).symm, rfl⟩
  | r :: l, g, s, hs, hr, h => by
    rw [List.all_cons, Bool.and_eq_true] at hr
    obtain ⟨h1, h2, h3⟩ := rds_again l (szk_rdS r hs) hr.2 (show rdsG l (rdG r g s) (rdS r s) = true from h)
    obtain ⟨k1, k2, k3⟩ := rd_again r hs hr.1 h1
    refine ⟨k1, ?_, by show (fitR r _ && fitsR l _) = true; rw [k3, h3]; rfl⟩
    show s = layB (rdR r s) ++ encsB (rdsR l (rdS r s)) ++ rdsS l (rdS r s)
    rw [ByteArray.append_assoc, ← h2]
    exact k2
/-- Counts, as they come back from int. -/
def wr : Rd → RV → RV
  | .n m, .n v => .n (if m = 1073741824 then wU (IntKind.i64.wrap v) else v)
  | .g, .n v => .n (zg (sgV v))
  | _, v => v
theorem wU_wrap {v : Int} (h0 : 0 ≤ v) (h : v ≤ 1073741824) : wU (IntKind.i64.wrap v) = v := by
  unfold wU
  rw [wrap64 (by omega) (by omega), wrapU64 (by omega) (by omega)]
theorem bv_one (k : Nat) : (BitVec.ofInt 64 ((k : Nat) : Int) &&& BitVec.ofInt 64 1).toNat = k % 2 := by
  have e : BitVec.ofInt 64 1 = BitVec.ofNat 64 1 := rfl
  rw [BitVec.ofInt_natCast, e, BitVec.toNat_and, BitVec.toNat_ofNat, BitVec.toNat_ofNat]
  have : (1 : Nat) % 2 ^ 64 = 1 := rfl
  rw [this, Nat.and_one_is_mod]
  omega
theorem sgO_eq {v : Int} (h0 : 0 ≤ v) (h : v ≤ 1073741824) : sgO v = decide (v % 2 = 1) := by
  obtain ⟨k, rfl⟩ := Int.eq_ofNat_of_zero_le h0
  unfold sgO
  have e := bv_one k
  have eb : IntKind.u64.bits = 64 := rfl
  rw [eb]
  have e1 : BitVec.ofInt 64 ((k : Nat) : Int) &&& BitVec.ofInt 64 1 = BitVec.ofInt 64 ((k : Nat) : Int) &&& BitVec.ofInt 64 1 := rfl
  rw [e, wrapU64 (by omega) (by omega)]
  rw [Bool.eq_iff_iff, beq_iff_eq, decide_eq_true_eq]
  omega
theorem sgH_eq {v : Int} (h0 : 0 ≤ v) (h : v ≤ 1073741824) : sgH v = v / 2 := by
  unfold sgH
  have e : (2 : Int) ^ min (Int.toNat 1) IntKind.u64.bits = 2 := rfl
  rw [e, Int.fdiv_eq_ediv_of_nonneg _ (by omega), wrap64 (by omega) (by omega)]
theorem sgV_eq {v : Int} (h0 : 0 ≤ v) (h : v ≤ 1073741824) : sgV v = if v % 2 = 1 then - (v / 2) - 1 else v / 2 := by
  unfold sgV
  rw [sgO_eq h0 h, sgH_eq h0 h]
  by_cases e : v % 2 = 1
  · rw [decide_eq_true e, if_pos e, cond_true, wrap64 (n := 0 - v / 2) (by omega) (by omega), wrap64 (by omega) (by omega)]; omega
  · rw [decide_eq_false e, if_neg e, cond_false]
theorem zg_sgV {v : Int} (h0 : 0 ≤ v) (h : v ≤ 1073741824) (hk : sgK (sgV v) = true) : zg (sgV v) = v := by
  have hk := of_decide_eq_true hk
  rw [sgV_eq h0 h] at hk ⊢
  unfold zg
  split at hk <;> split <;> omega
/-- Is each number with a sign a hint? -/
def sgsK : List Rd → List RV → Bool
  | .g :: l, .n v :: vs => sgK (sgV v) && sgsK l vs
  | _ :: l, _ :: vs => sgsK l vs
  | _, _ => true
theorem wr_id (r : Rd) (v : RV) (h : fitR r v = true) (hk : ∀ x, r = .g → v = .n x → sgK (sgV x) = true) : wr r v = v := by
  cases r with
  | n m =>
    cases v with
    | n v =>
      have h := of_decide_eq_true h
      simp only [wr]
      split
      · rename_i e; subst e; rw [wU_wrap h.1 h.2]
      · rfl
    | t _ => rfl
    | f _ => rfl
  | t m => cases v <;> rfl
  | y => cases v <;> rfl
  | g =>
    cases v with
    | n v =>
      have h := of_decide_eq_true h
      simp only [wr]
      rw [zg_sgV h.1 h.2 (hk v rfl rfl)]
    | t _ => rfl
    | f _ => rfl
theorem wrs_id : ∀ (l : List Rd) (vs : List RV), fitsR l vs = true → sgsK l vs = true → List.zipWith wr l vs = vs
  | [], [], _, _ => rfl
  | [], _ :: _, h, _ => by cases h
  | _ :: _, [], h, _ => by cases h
  | r :: l, v :: vs, h, hk => by
    have h : (fitR r v && fitsR l vs) = true := h
    rw [Bool.and_eq_true] at h
    have hk2 : sgsK l vs = true := by
      cases r <;> cases v <;> first | exact hk | (have hk' := hk; simp only [sgsK, Bool.and_eq_true] at hk'; exact hk'.2)
    rw [List.zipWith_cons_cons, wrs_id l vs h.2 hk2, wr_id r v h.1 fun x e1 e2 => by
      subst e1; subst e2
      have hk' := hk
      simp only [sgsK, Bool.and_eq_true] at hk'
      exact hk'.1]
theorem mb_again : ∀ (k : Nat) {g : Bool} {s : ByteArray}, mbG k g s = true → g = true ∧ s = encsB ((mbL k s).map fun v => RV.n (wU v)) ++ mbS k s
  | 0, g, s, h => ⟨h, (emptyApp s).symm⟩
  | k + 1, g, s, h => by
    obtain ⟨h1, h2⟩ := mb_again k (show mbG k (cgB g s) (nr s) = true from h)
    obtain ⟨k1, k2⟩ := bif_split (show (bif bif g then nb s else false then decide (numV s ≤ 1073741824) else false) = true from h1)
    obtain ⟨k0, k3⟩ := bif_split k1
    refine ⟨k0, ?_⟩
    show s = layB (.n (wU (IntKind.i64.wrap (numV s)))) ++ encsB ((mbL k (nr s)).map fun v => RV.n (wU v)) ++ mbS k (nr s)
    rw [ByteArray.append_assoc, ← h2, wU_wrap (numV_ge s) (of_decide_eq_true k2)]
    exact (nb_again k3).1
theorem mbL_len : ∀ k s, (mbL k s).length = k
  | 0, _ => rfl
  | k + 1, s => by simp [mbL, mbL_len k]
/-- Members taken: the count and the numbers. -/
theorem mem_again {g : Bool} {s : ByteArray} (h : mbG (lmN s) (lmB g s) (nr s) = true) : g = true ∧ s = encsB (memR (mbL (lmN s) (nr s))) ++ mbS (lmN s) (nr s) ∧ lmN s ≤ 5 := by
  obtain ⟨h1, h2⟩ := mb_again _ h
  obtain ⟨k1, k2⟩ := bif_split (show (bif bif g then nb s else false then decide (numV s ≤ 5) else false) = true from h1)
  obtain ⟨k0, k3⟩ := bif_split k1
  have k2 := of_decide_eq_true k2
  have hv := numV_ge s
  have hn : ((lmN s : Nat) : Int) = numV s := by unfold lmN; rw [if_pos k2]; omega
  refine ⟨k0, ?_, by omega⟩
  show s = layB (.n (wU (((mbL (lmN s) (nr s)).length : Nat) : Int))) ++ encsB ((mbL (lmN s) (nr s)).map fun v => RV.n (wU v)) ++ mbS (lmN s) (nr s)
  rw [ByteArray.append_assoc, ← h2, mbL_len, hn]
  have e : wU (numV s) = numV s := by unfold wU; exact wrapU64 hv (by omega)
  rw [e]
  exact (nb_again k3).1
end Go.Proofs.Ytjplobgambnhjaa
