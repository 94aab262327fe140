/- The document's TakeNumber is the number at the beginning; no statement. -/
import Derived.Test.YtjplobgambnhjaaGreatDtn
import Derived.Test.YtjplobgambnhjaaGreatDrd
set_option linter.unusedVariables false
namespace Go.Proofs.YtjplobgambnhjaaGreat
open Go Go.Eng

/-- The value of so many bytes, the lowest first. -/
def vP (s : ByteArray) : Nat → Nat → Nat
  | _, 0 => 0
  | k, m + 1 => bN s k % 128 + 128 * vP s (k + 1) m
/-- As the loop does it: from the highest. -/
def vD (s : ByteArray) : Nat → Nat → Nat
  | 0, v => v
  | i + 1, v => vD s i (v * 128 % 18446744073709551616 + bN s i % 128)
theorem vP_snoc (s : ByteArray) : ∀ m k, vP s k (m + 1) = vP s k m + bN s (k + m) % 128 * 128 ^ m
  | 0, k => by simp [vP]
  | m + 1, k => by
    rw [vP, vP_snoc s m (k + 1), vP, Nat.mul_add, Nat.pow_succ, Nat.add_assoc k 1 m, Nat.add_comm 1 m]
    have : 128 * (bN s (k + (m + 1)) % 128 * 128 ^ m) = bN s (k + (m + 1)) % 128 * (128 ^ m * 128) := by
      rw [Nat.mul_left_comm, Nat.mul_comm 128 (128 ^ m)]
    omega
theorem vD_eq (s : ByteArray) : ∀ i v, v < 18446744073709551616 → vD s i v = (v * 128 ^ i + vP s 0 i) % 18446744073709551616
  | 0, v, h => by rw [vD, vP, Nat.pow_zero, Nat.mul_one, Nat.add_zero, Nat.mod_eq_of_lt h]
  | i + 1, v, h => by
    rw [vD, vD_eq s i _ (by omega), vP_snoc, Nat.zero_add]
    have a : (v * 128 % 18446744073709551616 + bN s i % 128) * 128 ^ i + vP s 0 i = v * 128 % 18446744073709551616 * 128 ^ i + (bN s i % 128 * 128 ^ i + vP s 0 i) := by rw [Nat.add_mul]; omega
    have b : v * 128 ^ (i + 1) + (vP s 0 i + bN s i % 128 * 128 ^ i) = v * 128 * 128 ^ i + (bN s i % 128 * 128 ^ i + vP s 0 i) := by rw [Nat.pow_succ, Nat.mul_comm (128 ^ i) 128, ← Nat.mul_assoc]; omega
    rw [a, b, Nat.add_mod, Nat.mod_mul_mod, ← Nat.add_mod]
theorem numD_vP (s : ByteArray) : ∀ (f k v : Nat), k + f = 10 → (numD s f k v).2 ≠ 0 → ∃ m, (numD s f k v).2 = k + m + 1 ∧ k + m + 1 ≤ 10 ∧ (numD s f k v).1 = v + vP s k (m + 1) * 128 ^ k ∧ (∀ i, k ≤ i → i < k + m → 128 ≤ bN s i) ∧ bN s (k + m) < 128
  | 0, k, v, _, h => absurd rfl h
  | f + 1, k, v, hk, h => by
    unfold numD at h ⊢
    have b256 := bN_lt s k
    split at h
    · rename_i hsz
      split at h
      · exact absurd rfl h
      · rename_i h9
        split at h
        · rename_i hb
          obtain ⟨m, e1, e2, e3, e4, e5⟩ := numD_vP s f (k + 1) (v + (bN s k - 128) * 128 ^ k) (by omega) h
          rw [if_pos hsz, if_neg h9, if_pos hb]
          refine ⟨m + 1, by omega, by omega, ?_, ?_, ?_⟩
          · rw [e3, vP.eq_2 s k (m + 1), Nat.pow_succ, Nat.add_mul]
            have : bN s k - 128 = bN s k % 128 := by omega
            rw [this, Nat.mul_comm (128 ^ k) 128, ← Nat.mul_assoc, Nat.mul_comm (vP s (k + 1) (m + 1)) 128]; omega
          · intro i h1 h2
            by_cases hi : i = k
            · subst hi; exact hb
            · exact e4 i (by omega) (by omega)
          · have : k + (m + 1) = k + 1 + m := by omega
            rw [this]; exact e5
        · rename_i hb
          split at h
          · exact absurd rfl h
          · rename_i h0
            rw [if_pos hsz, if_neg h9, if_neg hb, if_neg h0]
            refine ⟨0, rfl, by omega, ?_, fun i _ _ => by omega, by show bN s k < 128; omega⟩
            have : bN s k % 128 = bN s k := by omega
            simp only [vP, Nat.mul_zero, Nat.add_zero, this]
    · exact absurd rfl h
def orS (v b : Int) : Int := IntKind.u64.wrap (((BitVec.ofInt IntKind.u64.bits (IntKind.u64.wrap (v * 2 ^ min (Int.toNat 7) IntKind.u64.bits)) ||| BitVec.ofInt IntKind.u64.bits (IntKind.u64.wrap (b.tmod 128))).toNat : Nat) : Int)
theorem orS_eq {v b : Nat} (hv : v < 18446744073709551616) (hb : b < 256) : orS ((v : Nat) : Int) ((b : Nat) : Int) = ((v * 128 % 18446744073709551616 + b % 128 : Nat) : Int) := by
  unfold orS
  have e1 : min (Int.toNat 7) IntKind.u64.bits = 7 := rfl
  rw [e1, show IntKind.u64.bits = 64 from rfl]
  have e2 : ((v : Nat) : Int) * 2 ^ 7 = ((v * 128 : Nat) : Int) := by push_cast; rfl
  have e3 : (((b : Nat) : Int)).tmod 128 = ((b % 128 : Nat) : Int) := by
    rw [Int.tmod_eq_emod_of_nonneg (by omega)]; omega
  have wu : ∀ n : Int, IntKind.u64.wrap n = n % 18446744073709551616 := by
    intro n
    simp only [IntKind.wrap, IntKind.signed, IntKind.bits, Bool.false_and]
    simp
  rw [e2, e3, wu ((v * 128 : Nat) : Int), wu ((b % 128 : Nat) : Int)]
  have e4 : ((v * 128 : Nat) : Int) % 18446744073709551616 = ((v * 128 % 18446744073709551616 : Nat) : Int) := by omega
  have e5 : ((b % 128 : Nat) : Int) % 18446744073709551616 = ((b % 128 : Nat) : Int) := by omega
  rw [e4, e5]
  obtain ⟨q, hq⟩ : ∃ q, v * 128 % 18446744073709551616 = q * 128 := ⟨v * 128 % 18446744073709551616 / 128, by omega⟩
  have hy : v * 128 % 18446744073709551616 < 18446744073709551616 := Nat.mod_lt _ (by decide)
  have hx : b % 128 < 128 := Nat.mod_lt _ (by decide)
  generalize v * 128 % 18446744073709551616 = y at *
  generalize b % 128 = x at *
  subst hq
  rw [BitVec.ofInt_natCast, BitVec.ofInt_natCast, BitVec.toNat_or, BitVec.toNat_ofNat, BitVec.toNat_ofNat, Nat.mod_eq_of_lt (show q * 128 < 2 ^ 64 from hy), Nat.mod_eq_of_lt (show x < 2 ^ 64 by omega)]
  have e6 : q * 128 ||| x = q * 128 + x := by
    have h := Nat.shiftLeft_add_eq_or_of_lt (i := 7) (b := x) hx q
    rw [Nat.shiftLeft_eq] at h
    exact h.symm
  rw [e6, wu]; omega

noncomputable def lTi : Code := (theLoop Tryz.prog 102 7).getD .skip
theorem lTi_eq : theLoop Tryz.prog 102 7 = some lTi := by kernel_rfl
theorem ti_loop (s : ByteArray) (i : Int) (h0 : -1 ≤ i) (h1 : i < ((s.size : Nat) : Int)) (h9 : i ≤ 9) :
    LoopOk Tryz.prog lTi 44 [5, 6] [0] [vU 0, vI i] [vS s] [] (.exit 2) [vU (vD s (i + 1).toNat 0 : Nat), vX] [] := by
  generalize hr : vD s (i + 1).toNat 0 = r
  refine LoopOk.rounds (S := Nat × Int) E0 lTi_eq (by kernel_rfl) (fun t => [vU t.1, vI t.2]) (fun _ => []) (fun t => -1 ≤ t.2 ∧ t.2 < ((s.size : Nat) : Int) ∧ t.2 ≤ 9 ∧ t.1 < 18446744073709551616 ∧ vD s (t.2 + 1).toNat t.1 = r) (fun t => (t.2 + 1).toNat) (0, i) ⟨h0, h1, h9, by simp, hr⟩ ?_ (fun _ _ => rfl)
  intro ⟨v, i⟩ ⟨h0, h1, h9, hv, hD⟩
  simp only at h0 h1 h9 hv hD
  by_cases hi : i ≥ 0
  · have q1 : decide (i ≥ 0) = true := decide_eq_true hi
    have q2 : inB i s.size = true := inB_of (by omega) (by omega)
    have hn : (i + 1).toNat = i.toNat + 1 := by omega
    rw [hn] at hD
    refine OneRound.go [true] (vs := [vU (orS v (byteAt s i.toNat)), vI (IntKind.i64.wrap (i - 1))]) (hp' := []) (cs := [decide ((128 : Int) ≠ 0), inB i s.size, decide ((0 : Int) ≤ 7), decide (i ≥ 0) == true]) (fun rest => by kernel_rfl) (allI (by rw [q1, q2]; rfl)) (v * 128 % 18446744073709551616 + bN s i.toNat % 128, i - 1) ⟨by show -1 ≤ i - 1; omega, by show i - 1 < _; omega, by show i - 1 ≤ 9; omega, by show _ % 18446744073709551616 + _ % 128 < 18446744073709551616; omega, by show vD s (i - 1 + 1).toNat _ = r; rw [show (i - 1 + 1).toNat = i.toNat by omega]; exact hD⟩ (by show (i - 1 + 1).toNat < (i + 1).toNat; omega) ⟨.of_eq ?_, .of_eq ?_, trivial⟩ rfl (.inl (Nat.le_refl _))
    · rw [byteAt_bN, orS_eq hv (bN_lt s _)]
    · rw [wrap64 (by omega) (by omega)]
  · have q1 : decide (i ≥ 0) = false := decide_eq_false hi
    have hn : (i + 1).toNat = 0 := by omega
    rw [hn] at hD
    exact OneRound.stop [false] (vs := [vU v, vI i]) (hp' := []) (cs := [decide (i ≥ 0) == false]) (fun rest => by kernel_rfl) (allI (by rw [q1]; rfl)) (by simp) ⟨.of_eq (by rw [← hD]; rfl), .unk, trivial⟩ rfl (.inl (Nat.le_refl _))
abbrev VOk (V : ByteArray → Int → Nat) : Prop := ∀ (s : ByteArray) (i : Int), -1 ≤ i → i < ((s.size : Nat) : Int) → i ≤ 9 → LoopOk Tryz.prog lTi 44 [5, 6] [0] [vU 0, vI i] [vS s] [] (.exit 2) [vU (V s i : Nat), vX] []
abbrev WOk (W : Int → ByteArray) : Prop := ∀ v : Int, uOk v = true → PureCall Tryz.prog 112 [vU v] (vS (W v))
/-- Over any such functions: so that no run unfolds them. -/
noncomputable def ETi (V : ByteArray → Int → Nat) (hV : VOk V) (W : Int → ByteArray) (hW : WOk W) : Env Tryz.prog := ((E0.addLT 102 7 lTi_eq 44 [5, 6] [0] (by kernel_rfl) [.one cU, .one cI] [.one .str]
  (fun (v, i, _) (s, _) hp os => retC (.exit 2, [vU (V s i : Nat), vX], []) [decide (v = 0), decide ((-1 : Int) ≤ i ∧ (i : Int) < ((s.size : Nat) : Int) ∧ (i : Int) ≤ 9), hp.isEmpty] os)
  (fun (v, i, _) (s, _) hp os e outs hp' cs os' h hc => by
    simp only [retC, Option.some.injEq, Prod.mk.injEq] at h
    obtain ⟨⟨rfl, rfl, rfl⟩, rfl, rfl⟩ := h
    obtain ⟨h1, hc⟩ := of_allTc hc
    obtain ⟨h2, hc⟩ := of_allTc hc
    obtain ⟨h3, _⟩ := of_allTc hc
    have h3 := List.isEmpty_iff.1 h3
    simp only [decide_eq_true_eq] at h1 h2
    subst h1; subst h3
    exact hV s i h2.1 h2.2.1 h2.2.2)).addT1 112 [.one cU] (fun d => vS (W d.1)) (fun d => [uOk d.1]) fun d hc => hW d.1 (of_allTc hc).1)
open Go Go.Eng

theorem extract_cons {s : ByteArray} {k n : Nat} (hk : k < s.size) (hn : k < n) : s.extract k n = strOfNums [((bN s k : Nat) : Int)] ++ s.extract (k + 1) n := by
  apply ByteArray.ext
  apply Array.ext'
  have hl : k < s.data.toList.length := by rw [Array.length_toList]; exact hk
  have e0 : (strOfNums [((bN s k : Nat) : Int)]).data.toList = [s.data.toList[k]] := by
    rw [strOfNums_list]
    simp only [List.map_cons, List.map_nil, Int.toNat_natCast, bN]
    congr 1
    rw [List.getD_eq_getElem?_getD, List.getElem?_eq_getElem hl, Option.getD_some]
    exact UInt8.ofNat_toNat
  rw [data_app, e0]
  simp only [ByteArray.data_extract, Array.toList_extract, List.extract_eq_take_drop]
  rw [List.drop_eq_getElem_cons hl]
  have : n - k = (n - (k + 1)) + 1 := by omega
  rw [this, List.take_succ_cons]; rfl
theorem numD_again (s : ByteArray) : ∀ (f k v : Nat), k + f = 10 → (numD s f k v).2 ≠ 0 → ∃ w, (numD s f k v).1 = v + w * 128 ^ k ∧ (0 < k → 0 < w) ∧ w * 128 ^ k + 128 ^ k ≤ 18446744073709551616 ∧ (numD s f k v).2 = k + (varP f w).length + 1 ∧ s.extract k (numD s f k v).2 = strOfNums (varP f w ++ [((varE f w : Nat) : Int)])
  | 0, k, v, _, h => absurd rfl h
  | f + 1, k, v, hk, h => by
    unfold numD at h ⊢
    have b256 := bN_lt s k
    split at h
    · rename_i hsz
      split at h
      · exact absurd rfl h
      · rename_i h9
        split at h
        · rename_i hb
          have ih := numD_again s f (k + 1) (v + (bN s k - 128) * 128 ^ k) (by omega) h
          obtain ⟨w', e1, p1, bd, e2, e3⟩ := ih
          have hw' : 0 < w' := p1 (by omega)
          rw [if_pos hsz, if_neg h9, if_pos hb]
          have q1 : ((bN s k - 128) + 128 * w') % 128 + 128 = bN s k := by omega
          have q2 : ((bN s k - 128) + 128 * w') / 128 = w' := by omega
          have q3 : ¬ (bN s k - 128) + 128 * w' < 128 := by omega
          have pe : 128 ^ (k + 1) = 128 ^ k * 128 := Nat.pow_succ ..
          refine ⟨(bN s k - 128) + 128 * w', ?_, fun _ => by omega, ?_, ?_, ?_⟩
          · rw [e1, pe, Nat.add_mul, Nat.add_assoc]; congr 2
            rw [Nat.mul_comm (128 ^ k) 128, ← Nat.mul_assoc, Nat.mul_comm w' 128]
          · rw [pe] at bd
            have : ((bN s k - 128) + 128 * w') * 128 ^ k + 128 ^ k ≤ w' * (128 ^ k * 128) + 128 ^ k * 128 := by
              have a1 : ((bN s k - 128) + 128 * w') * 128 ^ k + 128 ^ k = ((bN s k - 128) + 1) * 128 ^ k + w' * (128 ^ k * 128) := by
                rw [Nat.add_mul, Nat.add_mul, Nat.one_mul, Nat.mul_comm (128 ^ k) 128, ← Nat.mul_assoc, Nat.mul_comm w' 128]; omega
              have a2 : ((bN s k - 128) + 1) * 128 ^ k ≤ 128 * 128 ^ k := Nat.mul_le_mul_right _ (by omega)
              rw [a1, Nat.mul_comm (128 ^ k) 128]
              rw [Nat.mul_comm (128 ^ k) 128] at *
              omega
            omega
          · rw [e2, varP_hi q3, q2, List.length_cons]; omega
          · rw [varP_hi q3, varE_hi q3, q1, q2, extract_cons hsz (by rw [e2]; omega), e3, List.cons_append, ← strApp]; rfl
        · rename_i hb
          split at h
          · exact absurd rfl h
          · rename_i h0
            rw [if_pos hsz, if_neg h9, if_neg hb, if_neg h0]
            have q : bN s k < 128 := by omega
            refine ⟨bN s k, rfl, fun hk0 => by omega, ?_, ?_, ?_⟩
            · have hk9 : k ≤ 9 := by omega
              by_cases hk' : k = 9
              · have : bN s k ≤ 1 := by omega
                subst hk'
                have e : (128 : Nat) ^ 9 = 9223372036854775808 := by decide
                rw [e]; omega
              · have a1 : bN s k * 128 ^ k + 128 ^ k ≤ 128 * 128 ^ k := by
                  have := Nat.mul_le_mul_right (128 ^ k) (show bN s k + 1 ≤ 128 by omega)
                  rw [Nat.add_mul, Nat.one_mul] at this; exact this
                have a2 : 128 * 128 ^ k ≤ 128 ^ 9 := by
                  rw [Nat.mul_comm, ← Nat.pow_succ]; exact Nat.pow_le_pow_right (by omega) (by omega)
                have e : (128 : Nat) ^ 9 = 9223372036854775808 := by decide
                omega
            · rw [varP_lo q]; rfl
            · rw [varP_lo q, varE_lo q, List.nil_append, extract_cons hsz (by omega)]
              have : s.extract (k + 1) (k + 1) = ByteArray.mk #[] := by
                apply ByteArray.ext; simp
              rw [this]
              apply ByteArray.ext; simp [ByteArray.data_append]
    · exact absurd rfl h
open Go Go.Eng

def wNr (v : Int) : ByteArray := strOfNums (numB v.toNat)
def vI0 (s : ByteArray) (i : Int) : Nat := vD s (i + 1).toNat 0
theorem vok : VOk vI0 := fun s i h0 h1 h9 => ti_loop s i h0 h1 h9
theorem wok : WOk wNr := fun v h => number_pure v h
def fo (s : ByteArray) : Bool := (List.range 10).any fun m => decide (m < s.size) && decide (bN s m < 128)
theorem fo_iff {s : ByteArray} : fo s = true ↔ ∃ m, m < 10 ∧ m < s.size ∧ bN s m < 128 := by
  unfold fo
  rw [List.any_eq_true]
  constructor
  · rintro ⟨m, h1, h2⟩
    rw [Bool.and_eq_true, decide_eq_true_eq, decide_eq_true_eq] at h2
    exact ⟨m, List.mem_range.1 h1, h2.1, h2.2⟩
  · rintro ⟨m, h1, h2, h3⟩
    exact ⟨m, List.mem_range.2 h1, by rw [decide_eq_true h2, decide_eq_true h3]; rfl⟩
theorem toList_inj {a b : ByteArray} (h : a.toList = b.toList) : a = b := by
  rw [ByteArray.toList_eq, ByteArray.toList_eq] at h
  exact ByteArray.ext (Array.ext' h)
theorem tk_len {s : ByteArray} {m n : Nat} (hall : ∀ i, i + 1 < n → 128 ≤ bN s i) (hn : 1 ≤ n) (hlt : bN s (n - 1) < 128) (e4 : ∀ i, 0 ≤ i → i < 0 + m → 128 ≤ bN s i) (e5 : bN s (0 + m) < 128) : n = m + 1 := by
  rw [Nat.zero_add] at e4 e5
  rcases Nat.lt_trichotomy (n - 1) m with h | h | h
  · exact absurd (e4 (n - 1) (by omega) h) (by omega)
  · omega
  · exact absurd (hall m (by omega)) (by omega)
theorem tk_val (s : ByteArray) (n : Nat) (hn : 1 ≤ n) (h10 : n ≤ 10) (hs : n ≤ s.size) (hall : ∀ i, i + 1 < n → 128 ≤ bN s i) (hlt : bN s (n - 1) < 128) :
    (wNr ((vD s n 0 : Nat) : Int) = s.extract 0 n → numD s 10 0 0 = (vD s n 0, n)) ∧ (wNr ((vD s n 0 : Nat) : Int) ≠ s.extract 0 n → numD s 10 0 0 = (0, 0)) := by
  have hv : vD s n 0 < 18446744073709551616 := by
    rw [vD_eq s n 0 (by decide)]; exact Nat.mod_lt _ (by decide)
  constructor
  · intro h
    have e : s = wNr ((vD s n 0 : Nat) : Int) ++ s.extract n s.size := by
      rw [h, ByteArray.extract_append_extract, Nat.min_eq_left (Nat.zero_le _), Nat.max_eq_right hs, ByteArray.extract_zero_size]
    unfold wNr at e h
    rw [Int.toNat_natCast] at e h
    have hb := num_back hv (s.extract n s.size)
    rw [← e] at hb
    rw [hb]
    congr 1
    have := congrArg ByteArray.size h
    rw [strOfNums_size, ByteArray.size_extract] at this
    omega
  · intro h
    by_cases h0 : (numD s 10 0 0).2 = 0
    · exact Prod.ext (numD_zero s 10 0 0 h0) h0
    · exfalso
      apply h
      obtain ⟨m, e1, e2, e3, e4, e5⟩ := numD_vP s 10 0 0 rfl h0
      obtain ⟨w, a1, _, a3, a4, a5⟩ := numD_again s 10 0 0 rfl h0
      have hm : n = m + 1 := tk_len hall hn hlt e4 e5
      rw [Nat.pow_zero, Nat.mul_one, Nat.zero_add] at e3 a1
      rw [Nat.pow_zero, Nat.mul_one] at a3
      have hw : vD s n 0 = w := by
        rw [vD_eq s n 0 (by decide), Nat.zero_mul, Nat.zero_add, hm, ← e3, a1, Nat.mod_eq_of_lt (by omega)]
      rw [hw]
      unfold wNr
      rw [Int.toNat_natCast, numB_eq (by omega), ← a5, e1, hm, Nat.zero_add]
noncomputable def lTo : Code := (theLoop Tryz.prog 102 2).getD .skip
theorem lTo_eq : theLoop Tryz.prog 102 2 = some lTo := by kernel_rfl
theorem to_loop (V : ByteArray → Int → Nat) (hV : VOk V) (W : Int → ByteArray) (hW : WOk W) (s : ByteArray) (hVV : ∀ n : Nat, V s ((n : Int) - 1) = vD s n 0) (hWW : ∀ v, W v = wNr v) :
    (fo s = true → LoopOk Tryz.prog lTo 44 [4, 2, 3] [0] [vI 1, vU 0, vI 0] [vS s] [] .ret [vX, vU (numD s 10 0 0).1, vI (numD s 10 0 0).2] []) ∧
    (fo s = false → LoopOk Tryz.prog lTo 44 [4, 2, 3] [0] [vI 1, vU 0, vI 0] [vS s] [] (.exit 0) [vX, vU 0, vI 0] []) := by
  refine ⟨fun hf => ?_, fun hf => ?_⟩
  all_goals
    refine LoopOk.rounds (S := Nat) (ETi V hV W hW) lTo_eq (by kernel_rfl) (fun n => [vI n, vU 0, vI 0]) (fun _ => []) (fun n => 1 ≤ n ∧ n ≤ 11 ∧ n ≤ s.size + 1 ∧ ∀ i, i + 1 < n → 128 ≤ bN s i) (fun n => 11 - n) 1 ⟨by decide, by decide, by omega, fun i h => by omega⟩ ?_ (fun _ _ => rfl)
    intro n ⟨hn, h11, hsz, hall⟩
    by_cases h10 : n ≤ 10
    · have q1 : decide (((n : Nat) : Int) ≤ 10) = true := decide_eq_true (by omega)
      by_cases hs : n ≤ s.size
      · have q2 : decide (((n : Nat) : Int) ≤ ((s.size : Nat) : Int)) = true := decide_eq_true (by omega)
        have wn : IntKind.i64.wrap (((n : Nat) : Int) - 1) = ((n : Nat) : Int) - 1 := wrap64 (by omega) (by omega)
        have tn : (((n : Nat) : Int) - 1).toNat = n - 1 := by omega
        have q3 : inB (IntKind.i64.wrap (((n : Nat) : Int) - 1)) s.size = true := by rw [wn]; exact inB_of (by omega) (by omega)
        by_cases hb : 128 ≤ bN s (n - 1)
        · have q4 : decide (byteAt s (IntKind.i64.wrap (((n : Nat) : Int) - 1)).toNat ≥ 128) = true := decide_eq_true (by rw [wn, tn, byteAt_bN]; omega)
          refine OneRound.go [true, true, true, true, true, true, true] (vs := [vI (IntKind.i64.wrap (((n : Nat) : Int) + 1)), vU 0, vI 0]) (hp' := []) (cs := [decide (byteAt s (IntKind.i64.wrap (((n : Nat) : Int) - 1)).toNat ≥ 128) == true, inB (IntKind.i64.wrap (((n : Nat) : Int) - 1)) s.size, decide (((n : Nat) : Int) ≤ ((s.size : Nat) : Int)) == true, decide (((n : Nat) : Int) ≤ 10) == true, decide (((n : Nat) : Int) ≤ 10) == true, decide (((n : Nat) : Int) ≤ 10) == true, decide (((n : Nat) : Int) ≤ 10) == true, decide (((n : Nat) : Int) ≤ 10) == true]) (fun rest => by kernel_rfl) (allI (by rw [q1, q2, q3, q4]; rfl)) (n + 1) ⟨by omega, by omega, by omega, fun i hi => ?_⟩ (by omega) ⟨.of_eq ?_, .refl, .refl, trivial⟩ rfl (.inl (Nat.le_refl _))
          · by_cases he : i = n - 1
            · subst he; exact hb
            · exact hall i (by omega)
          · rw [wrap64 (by omega) (by omega)]; rfl
        · have q4 : decide (byteAt s (IntKind.i64.wrap (((n : Nat) : Int) - 1)).toNat ≥ 128) = false := decide_eq_false (by rw [wn, tn, byteAt_bN]; omega)
          have hfo : fo s = true := fo_iff.2 ⟨n - 1, by omega, by omega, by omega⟩
          have q5 : decide ((-1 : Int) ≤ IntKind.i64.wrap (((n : Nat) : Int) - 1) ∧ IntKind.i64.wrap (((n : Nat) : Int) - 1) < ((s.size : Nat) : Int) ∧ IntKind.i64.wrap (((n : Nat) : Int) - 1) ≤ 9) = true := by rw [wn]; exact decide_eq_true (by omega)
          have hv : vD s n 0 < 18446744073709551616 := by
            rw [vD_eq s n 0 (by decide)]; exact Nat.mod_lt _ (by decide)
          have ev : V s (IntKind.i64.wrap (((n : Nat) : Int) - 1)) = vD s n 0 := by rw [wn]; exact hVV n
          have q6 : uOk (V s (IntKind.i64.wrap (((n : Nat) : Int) - 1)) : Nat) = true := by rw [ev, uOk, decide_eq_true (by omega), decide_eq_true (by omega)]; rfl
          have q7 : decide ((0 : Int) ≤ 0 ∧ (0 : Int) ≤ ((n : Nat) : Int) ∧ ((n : Nat) : Int) ≤ ((s.size : Nat) : Int)) = true := decide_eq_true (by omega)
          have hval := tk_val s n hn h10 hs hall (by omega)
          rw [← ev, ← hWW] at hval
          have et : s.extract (Int.toNat 0) (((n : Nat) : Int)).toNat = s.extract 0 n := by rw [Int.toNat_natCast]; rfl
          cases hc : (!((W (V s (IntKind.i64.wrap (((n : Nat) : Int) - 1)) : Nat)).toList == (s.extract (Int.toNat 0) (((n : Nat) : Int)).toNat).toList)) with
          | true =>
            have hne : W (V s (IntKind.i64.wrap (((n : Nat) : Int) - 1)) : Nat) ≠ s.extract 0 n := by
              intro he; rw [he, et, beq_self_eq_true] at hc; cases hc
            have hr := hval.2 hne
            first
              | exact absurd (hfo.symm.trans hf) (by decide)
              | exact OneRound.stop [true, true, true, true, true, true, false, true] (vs := [vI n, vU 0, vI 0]) (hp' := []) (cs := [(!((W (V s (IntKind.i64.wrap (((n : Nat) : Int) - 1)) : Nat)).toList == (s.extract (Int.toNat 0) (((n : Nat) : Int)).toNat).toList)) == true, decide ((0 : Int) ≤ 0 ∧ (0 : Int) ≤ ((n : Nat) : Int) ∧ ((n : Nat) : Int) ≤ ((s.size : Nat) : Int)), uOk (V s (IntKind.i64.wrap (((n : Nat) : Int) - 1)) : Nat), decide ((0 : Int) = 0), decide ((-1 : Int) ≤ IntKind.i64.wrap (((n : Nat) : Int) - 1) ∧ IntKind.i64.wrap (((n : Nat) : Int) - 1) < ((s.size : Nat) : Int) ∧ IntKind.i64.wrap (((n : Nat) : Int) - 1) ≤ 9), true, decide (byteAt s (IntKind.i64.wrap (((n : Nat) : Int) - 1)).toNat ≥ 128) == false, inB (IntKind.i64.wrap (((n : Nat) : Int) - 1)) s.size, decide (((n : Nat) : Int) ≤ ((s.size : Nat) : Int)) == true, decide (((n : Nat) : Int) ≤ 10) == true, decide (((n : Nat) : Int) ≤ 10) == true, decide (((n : Nat) : Int) ≤ 10) == true, decide (((n : Nat) : Int) ≤ 10) == true, decide (((n : Nat) : Int) ≤ 10) == true]) (fun rest => by kernel_rfl) (allI (by rw [hc, q1, q2, q3, q4, q5, q6, q7]; rfl)) (by simp) ⟨.unk, .of_eq (by rw [hr]; rfl), .of_eq (by rw [hr]; rfl), trivial⟩ rfl (.inl (Nat.le_refl _))
          | false =>
            have heq : W (V s (IntKind.i64.wrap (((n : Nat) : Int) - 1)) : Nat) = s.extract 0 n := by
              rw [et] at hc
              have : ((W (V s (IntKind.i64.wrap (((n : Nat) : Int) - 1)) : Nat)).toList == (s.extract 0 n).toList) = true := by
                cases hx : ((W (V s (IntKind.i64.wrap (((n : Nat) : Int) - 1)) : Nat)).toList == (s.extract 0 n).toList) with
                | true => rfl
                | false => rw [hx] at hc; cases hc
              exact toList_inj (eq_of_beq this)
            have hr := hval.1 heq
            first
              | exact absurd (hfo.symm.trans hf) (by decide)
              | exact OneRound.stop [true, true, true, true, true, true, false, false] (vs := [vI n, vU (V s (IntKind.i64.wrap (((n : Nat) : Int) - 1)) : Nat), vI n]) (hp' := []) (cs := [(!((W (V s (IntKind.i64.wrap (((n : Nat) : Int) - 1)) : Nat)).toList == (s.extract (Int.toNat 0) (((n : Nat) : Int)).toNat).toList)) == false, decide ((0 : Int) ≤ 0 ∧ (0 : Int) ≤ ((n : Nat) : Int) ∧ ((n : Nat) : Int) ≤ ((s.size : Nat) : Int)), uOk (V s (IntKind.i64.wrap (((n : Nat) : Int) - 1)) : Nat), decide ((0 : Int) = 0), decide ((-1 : Int) ≤ IntKind.i64.wrap (((n : Nat) : Int) - 1) ∧ IntKind.i64.wrap (((n : Nat) : Int) - 1) < ((s.size : Nat) : Int) ∧ IntKind.i64.wrap (((n : Nat) : Int) - 1) ≤ 9), true, decide (byteAt s (IntKind.i64.wrap (((n : Nat) : Int) - 1)).toNat ≥ 128) == false, inB (IntKind.i64.wrap (((n : Nat) : Int) - 1)) s.size, decide (((n : Nat) : Int) ≤ ((s.size : Nat) : Int)) == true, decide (((n : Nat) : Int) ≤ 10) == true, decide (((n : Nat) : Int) ≤ 10) == true, decide (((n : Nat) : Int) ≤ 10) == true, decide (((n : Nat) : Int) ≤ 10) == true, decide (((n : Nat) : Int) ≤ 10) == true]) (fun rest => by kernel_rfl) (allI (by rw [hc, q1, q2, q3, q4, q5, q6, q7]; rfl)) (by simp) ⟨.unk, .of_eq (by rw [hr]), .of_eq (by rw [hr]), trivial⟩ rfl (.inl (Nat.le_refl _))
      · have q2 : decide (((n : Nat) : Int) ≤ ((s.size : Nat) : Int)) = false := decide_eq_false (by omega)
        have hno : fo s = false := by
          cases hx : fo s with
          | false => rfl
          | true =>
            obtain ⟨m, m1, m2, m3⟩ := fo_iff.1 hx
            exact absurd (hall m (by omega)) (by omega)
        first
          | exact absurd (hf.symm.trans hno) (by decide)
          | exact OneRound.stop [true, true, true, true, true, false] (vs := [vI n, vU 0, vI 0]) (hp' := []) (cs := [decide (((n : Nat) : Int) ≤ ((s.size : Nat) : Int)) == false, decide (((n : Nat) : Int) ≤ 10) == true, decide (((n : Nat) : Int) ≤ 10) == true, decide (((n : Nat) : Int) ≤ 10) == true, decide (((n : Nat) : Int) ≤ 10) == true, decide (((n : Nat) : Int) ≤ 10) == true]) (fun rest => by kernel_rfl) (allI (by rw [q1, q2]; rfl)) (by simp) ⟨.unk, .refl, .refl, trivial⟩ rfl (.inl (Nat.le_refl _))
    · have q1 : decide (((n : Nat) : Int) ≤ 10) = false := decide_eq_false (by omega)
      have hno : fo s = false := by
        cases hx : fo s with
        | false => rfl
        | true =>
          obtain ⟨m, m1, m2, m3⟩ := fo_iff.1 hx
          exact absurd (hall m (by omega)) (by omega)
      first
        | exact absurd (hf.symm.trans hno) (by decide)
        | exact OneRound.stop [false, false, false, false, false] (vs := [vI n, vU 0, vI 0]) (hp' := []) (cs := [decide (((n : Nat) : Int) ≤ 10) == false, decide (((n : Nat) : Int) ≤ 10) == false, decide (((n : Nat) : Int) ≤ 10) == false, decide (((n : Nat) : Int) ≤ 10) == false, decide (((n : Nat) : Int) ≤ 10) == false]) (fun rest => by kernel_rfl) (allI (by rw [q1]; rfl)) (by simp) ⟨.unk, .refl, .refl, trivial⟩ rfl (.inl (Nat.le_refl _))
noncomputable def ETo : Env Tryz.prog := E0.addLT 102 2 lTo_eq 44 [4, 2, 3] [0] (by kernel_rfl) [.one cI, .one cU, .one cI] [.one .str]
  (fun (n, v, i, _) (s, _) hp os => brL (fo s) os
    (fun os => retC (.ret, [vX, vU (numV s), vI (numN s)], []) [decide (n = 1), decide (v = 0), decide (i = 0), hp.isEmpty] os)
    (fun os => retC (.exit 0, [vX, vU 0, vI 0], []) [decide (n = 1), decide (v = 0), decide (i = 0), hp.isEmpty] os))
  (fun (n, v, i, _) (s, _) hp os e outs hp' cs os' h hc => by
    have hL := to_loop vI0 vok wNr wok s (fun n => by unfold vI0; congr 1; omega) (fun v => rfl)
    rcases brL_some h hc with ⟨hb, o, c, h, hc⟩ | ⟨hb, o, c, h, hc⟩
    all_goals
      simp only [retC, Option.some.injEq, Prod.mk.injEq] at h
      obtain ⟨⟨rfl, rfl, rfl⟩, rfl, rfl⟩ := h
      obtain ⟨h1, hc⟩ := of_allTc hc
      obtain ⟨h2, hc⟩ := of_allTc hc
      obtain ⟨h3, hc⟩ := of_allTc hc
      obtain ⟨h4, _⟩ := of_allTc hc
      have h4 := List.isEmpty_iff.1 h4
      simp only [decide_eq_true_eq] at h1 h2 h3
      subst h1; subst h2; subst h3; subst h4
      first | exact hL.1 hb | exact hL.2 hb)
theorem take_number (s : ByteArray) : PureCall Tryz.prog 102 [vS s] (tupN (numV s) (numN s)) := by
  cases h : fo s with
  | true => exact ETo.pure_ok (os := [true]) (cs := [decide ((1 : Int) = 1), decide ((0 : Int) = 0), decide ((0 : Int) = 0), true, fo s == true]) (by kernel_rfl) (allI (by rw [h]; rfl))
  | false =>
    refine PureCall.res (ETo.pure_ok (os := [false]) (r := tupN 0 0) (cs := [decide ((1 : Int) = 1), decide ((0 : Int) = 0), decide ((0 : Int) = 0), true, fo s == false]) (by kernel_rfl) (allI (by rw [h]; rfl))) ?_
    have h0 : (numD s 10 0 0).2 = 0 := by
      by_cases hx : (numD s 10 0 0).2 = 0
      · exact hx
      · obtain ⟨m, e1, e2, _, _, e5⟩ := numD_vP s 10 0 0 rfl hx
        have := numD_le s 10 0 0
        rw [Nat.zero_add] at e5
        exact absurd (fo_iff.2 ⟨m, by omega, by omega, e5⟩) (by rw [h]; decide)
    unfold numV numN
    rw [h0, numD_zero s 10 0 0 h0]; rfl
end Go.Proofs.YtjplobgambnhjaaGreat
