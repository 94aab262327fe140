/- A number taken from bytes: the contract; the way back; no statement. -/
import Derived.Test.YtjplobgambnhjaaGreatDtk
set_option linter.unusedVariables false
namespace Go.Proofs.YtjplobgambnhjaaGreat
open Go Go.Eng

noncomputable def ETk0 : Env Tryz.prog := E0.addLT 91 3 lTk_eq 50 [9, 4, 2, 3] [0, 7, 8] (by kernel_rfl) [.one cI, .one cU, .one cU, .one cI] [.one .str, .one .str, .one cI]
  (fun (k, v, a, b, _) (s, s', n, _) hp os => brL (decide ((numD s 10 0 0).2 = 0)) os
    (fun os => retC (.exit 0, [vX, vX, vU 0, vI 0], []) [decide (k = 0), decide (v = 0), decide (a = 0), decide (b = 0), decide (s'.data = s.data), decide (n = s.size), hp.isEmpty] os)
    (fun os => retC (.ret, [vX, vX, vU (numD s 10 0 0).1, vI (numD s 10 0 0).2], []) [decide (k = 0), decide (v = 0), decide (a = 0), decide (b = 0), decide (s'.data = s.data), decide (n = s.size), hp.isEmpty] os))
  (fun (k, v, a, b, _) (s, s', n, _) hp os e outs hp' cs os' h hc => by
    rcases brL_some h hc with ⟨hb, o, c, h, hc⟩ | ⟨hb, o, c, h, hc⟩
    all_goals
      simp only [retC, Option.some.injEq, Prod.mk.injEq] at h
      obtain ⟨⟨rfl, rfl, rfl⟩, rfl, rfl⟩ := h
      obtain ⟨h1, hc⟩ := of_allTc hc
      obtain ⟨h2, hc⟩ := of_allTc hc
      obtain ⟨h3, hc⟩ := of_allTc hc
      obtain ⟨h4, hc⟩ := of_allTc hc
      obtain ⟨h5, hc⟩ := of_allTc hc
      obtain ⟨h6, hc⟩ := of_allTc hc
      obtain ⟨h7, _⟩ := of_allTc hc
      have h7 := List.isEmpty_iff.1 h7
      simp only [decide_eq_true_eq] at h1 h2 h3 h4 h5 h6
      have h5 : s' = s := ByteArray.ext h5
      subst h1; subst h2; subst h3; subst h4; subst h5; subst h6; subst h7
      first | exact (tk_loop s').2 (of_decide_eq_true hb) | exact (tk_loop s').1 (of_decide_eq_false hb))
def numV (s : ByteArray) : Int := (numD s 10 0 0).1
def numN (s : ByteArray) : Int := (numD s 10 0 0).2
abbrev tupN (v n : Int) : AV := .tup [(false, [.int .u64 v]), (false, [.int .i64 n])]
theorem numD_zero (s : ByteArray) : ∀ f k v, (numD s f k v).2 = 0 → (numD s f k v).1 = 0
  | 0, _, _, _ => rfl
  | f + 1, k, v, h => by
    unfold numD at h ⊢
    split at h
    · split at h
      · rw [if_pos (by assumption), if_pos (by assumption)]
      · split at h
        · rw [if_pos (by assumption), if_neg (by assumption), if_pos (by assumption)]
          exact numD_zero s f _ _ h
        · split at h
          · rw [if_pos (by assumption), if_neg (by assumption), if_neg (by assumption), if_pos (by assumption)]
          · exact absurd h (by simp)
    · rw [if_neg (by assumption)]
theorem number_take (s : ByteArray) : PureCall Tryz.prog 91 [vS s] (tupN (numV s) (numN s)) := by
  unfold numV numN
  by_cases h : (numD s 10 0 0).2 = 0
  · refine PureCall.res (ETk0.pure_ok (os := [true]) (r := tupN 0 0) (cs := [decide ((0 : Int) = 0), decide ((0 : Int) = 0), decide ((0 : Int) = 0), decide ((0 : Int) = 0), decide (s.data = s.data), decide (((s.size : Nat) : Int) = s.size), true, decide ((numD s 10 0 0).2 = 0) == true]) (by kernel_rfl) (allI (by simp [h]))) ?_
    rw [h, numD_zero s 10 0 0 h]; rfl
  · exact ETk0.pure_ok (os := [false]) (cs := [decide ((0 : Int) = 0), decide ((0 : Int) = 0), decide ((0 : Int) = 0), decide ((0 : Int) = 0), decide (s.data = s.data), decide (((s.size : Nat) : Int) = s.size), true, decide ((numD s 10 0 0).2 = 0) == false]) (by kernel_rfl) (allI (by simp [h]))
noncomputable def ETk : Env Tryz.prog := EWn.addT1 91 [.one .str] (fun d => tupN (numV d.1) (numN d.1)) (fun _ => []) fun d _ => number_take d.1

/-- The way back: a list of bytes read as a number. -/
theorem getD_data (s : ByteArray) (k : Nat) : bN s k = (s.data.toList.getD k 0).toNat := rfl
theorem data_app (a b : ByteArray) : (a ++ b).data.toList = a.data.toList ++ b.data.toList := by rw [ByteArray.data_append, Array.toList_append]
theorem strOfNums_list (l : List Int) : (strOfNums l).data.toList = l.map fun n => UInt8.ofNat n.toNat := by simp [strOfNums]
theorem numD_back (pre rest : ByteArray) : ∀ (f k v w : Nat), pre.size = k → w < 128 ^ f → k + f = 10 → 0 < f → (k = 0 ∨ 0 < w) → v + w * 128 ^ k < 18446744073709551616 →
    numD (pre ++ (strOfNums (varP f w ++ [((varE f w : Nat) : Int)]) ++ rest)) f k v = (v + w * 128 ^ k, k + (varP f w).length + 1)
  | 0, _, _, _, _, _, _, h, _, _ => by omega
  | f + 1, k, v, w, hp, hw, hk, _, h0, hb => by
    have hpl : pre.data.toList.length = k := by rw [Array.length_toList]; exact hp
    have hget : ∀ (x : Int) (l : List Int), 0 ≤ x → x < 256 → bN (pre ++ (strOfNums (x :: l) ++ rest)) k = x.toNat := by
      intro x l h1 h2
      rw [getD_data, data_app, data_app, strOfNums_list, List.getD_eq_getElem?_getD, List.getElem?_append_right (by omega), hpl, Nat.sub_self]
      simp only [List.map_cons, List.cons_append, List.getElem?_cons_zero, Option.getD_some]
      rw [UInt8.toNat_ofNat']; omega
    have hsz : ∀ (x : Int) (l : List Int), k < (pre ++ (strOfNums (x :: l) ++ rest)).size := by
      intro x l
      rw [ByteArray.size_append, ByteArray.size_append, strOfNums_size, hp]; simp only [List.length_cons]; omega
    by_cases hw' : w < 128
    · rw [varP_lo hw', varE_lo hw', List.nil_append]
      unfold numD
      rw [if_pos (hsz _ _), hget _ _ (by omega) (by omega), Int.toNat_natCast]
      have n9 : ¬ (k = 9 ∧ 1 < w) := by
        intro ⟨h9, h1⟩
        subst h9
        have e : (128 : Nat) ^ 9 = 9223372036854775808 := by decide
        rw [e] at hb; omega
      rw [if_neg n9, if_neg (by omega), if_neg (by omega)]; rfl
    · rw [varP_hi hw', varE_hi hw', List.cons_append]
      have hf : 0 < f := by
        rcases Nat.eq_zero_or_pos f with h | h
        · subst h; simp at hw; omega
        · exact h
      unfold numD
      rw [if_pos (hsz _ _), hget _ _ (by omega) (by omega), Int.toNat_natCast]
      have n9 : ¬ (k = 9 ∧ 1 < w % 128 + 128) := by intro ⟨h9, _⟩; omega
      rw [if_neg n9, if_pos (by omega)]
      have hw2 : w / 128 < 128 ^ f := by
        rw [Nat.pow_succ] at hw
        exact Nat.div_lt_of_lt_mul (by rw [Nat.mul_comm]; exact hw)
      have e1 : v + (w % 128 + 128 - 128) * 128 ^ k + w / 128 * 128 ^ (k + 1) = v + w * 128 ^ k := by
        rw [Nat.pow_succ, Nat.add_sub_cancel, Nat.mul_comm (128 ^ k) 128, ← Nat.mul_assoc, Nat.add_assoc, ← Nat.add_mul]
        have : w % 128 + w / 128 * 128 = w := by have := Nat.mod_add_div w 128; omega
        rw [this]
      have ih := numD_back (pre ++ strOfNums [((w % 128 + 128 : Nat) : Int)]) rest f (k + 1) (v + (w % 128 + 128 - 128) * 128 ^ k) (w / 128) (by rw [ByteArray.size_append, strOfNums_size, hp]; rfl) hw2 (by omega) hf (.inr (Nat.div_pos (by omega) (by omega))) (by rw [e1]; exact hb)
      rw [e1] at ih
      have e2 : pre ++ (strOfNums (((w % 128 + 128 : Nat) : Int) :: (varP f (w / 128) ++ [((varE f (w / 128) : Nat) : Int)])) ++ rest) = pre ++ strOfNums [((w % 128 + 128 : Nat) : Int)] ++ (strOfNums (varP f (w / 128) ++ [((varE f (w / 128) : Nat) : Int)]) ++ rest) := by
        rw [show ((w % 128 + 128 : Nat) : Int) :: (varP f (w / 128) ++ [((varE f (w / 128) : Nat) : Int)]) = [((w % 128 + 128 : Nat) : Int)] ++ (varP f (w / 128) ++ [((varE f (w / 128) : Nat) : Int)]) from rfl, strApp]
        simp only [ByteArray.append_assoc]
      rw [e2, ih]
      simp only [List.length_cons, Prod.mk.injEq, true_and]; omega
theorem numB_eq {v : Nat} (h : v < 18446744073709551616) : numB v = varP 10 v ++ [((varE 10 v : Nat) : Int)] := by
  unfold numB
  have := varE_lt (u64_pow h) (by omega)
  rw [wrapU8 (by omega) (by omega)]
theorem num_back {v : Nat} (h : v < 18446744073709551616) (rest : ByteArray) : numD (strOfNums (numB v) ++ rest) 10 0 0 = (v, (numB v).length) := by
  have := numD_back (ByteArray.mk #[]) rest 10 0 0 v rfl (u64_pow h) rfl (by omega) (.inl rfl) (by simpa using h)
  rw [numB_eq h]
  have e : (ByteArray.mk #[]) ++ (strOfNums (varP 10 v ++ [((varE 10 v : Nat) : Int)]) ++ rest) = strOfNums (varP 10 v ++ [((varE 10 v : Nat) : Int)]) ++ rest := emptyApp _
  rw [e] at this
  rw [this]
  simp
end Go.Proofs.YtjplobgambnhjaaGreat
