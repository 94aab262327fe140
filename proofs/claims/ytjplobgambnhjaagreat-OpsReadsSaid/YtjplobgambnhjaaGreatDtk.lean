/- A number taken from bytes: the loop's contract; no statement. -/
import Derived.Test.YtjplobgambnhjaaGreatEnw
set_option linter.unusedVariables false
namespace Go.Proofs.YtjplobgambnhjaaGreat
open Go Go.Eng

def bN (s : ByteArray) (k : Nat) : Nat := (s.data.toList.getD k 0).toNat
theorem bN_lt (s : ByteArray) (k : Nat) : bN s k < 256 := UInt8.toNat_lt _
theorem byteAt_bN (s : ByteArray) (k : Nat) : byteAt s k = ((bN s k : Nat) : Int) := rfl
/-- The number at the beginning, and how many bytes it takes. -/
def numD (s : ByteArray) : Nat → Nat → Nat → Nat × Nat
  | 0, _, _ => (0, 0)
  | f + 1, k, v => if k < s.size then
      (if k = 9 ∧ 1 < bN s k then (0, 0) else if 128 ≤ bN s k then numD s f (k + 1) (v + (bN s k - 128) * 128 ^ k) else if bN s k = 0 ∧ 0 < k then (0, 0) else (v + bN s k * 128 ^ k, k + 1))
    else (0, 0)
def orV (v k : Nat) (x : Int) : Int := IntKind.u64.wrap (((BitVec.ofInt IntKind.u64.bits ((v : Nat) : Int) ||| BitVec.ofInt IntKind.u64.bits (IntKind.u64.wrap (IntKind.u64.wrap x * 2 ^ min (IntKind.i64.wrap (7 * ((k : Nat) : Int))).toNat IntKind.u64.bits))).toNat : Nat) : Int)
theorem pow7 (k : Nat) : 2 ^ (7 * k) = 128 ^ k := by rw [Nat.pow_mul]
theorem pow9 {k : Nat} (h : k ≤ 9) : 128 ^ k ≤ 128 ^ 9 := Nat.pow_le_pow_right (by omega) h
theorem pow8 {k : Nat} (h : k ≤ 8) : 128 ^ k ≤ 128 ^ 8 := Nat.pow_le_pow_right (by omega) h
theorem mul_lt64 {k x : Nat} (hk : k ≤ 9) (hx : x < 128) (h9 : k = 9 → x ≤ 1) : x * 128 ^ k ≤ 9223372036854775808 := by
  by_cases h : k = 9
  · subst h
    have := h9 rfl
    have e : (128 : Nat) ^ 9 = 9223372036854775808 := by decide
    rw [e]; omega
  · have h1 := pow8 (show k ≤ 8 by omega)
    have e : (128 : Nat) ^ 8 = 72057594037927936 := by decide
    rw [e] at h1
    have := Nat.mul_le_mul (show x ≤ 128 by omega) h1
    omega
theorem orV_eq {v k x : Nat} (hk : k ≤ 9) (hv : v < 128 ^ k) (hx : x < 128) (h9 : k = 9 → x ≤ 1) : orV v k ((x : Nat) : Int) = ((v + x * 128 ^ k : Nat) : Int) := by
  have hm := mul_lt64 hk hx h9
  have hp := pow9 hk
  have e9 : (128 : Nat) ^ 9 = 9223372036854775808 := by decide
  rw [e9] at hp
  unfold orV
  rw [wrap64 (by omega) (by omega), wrapU64 (n := ((x : Nat) : Int)) (by omega) (by omega)]
  have e1 : min (7 * ((k : Nat) : Int)).toNat IntKind.u64.bits = 7 * k := by
    have : (7 * ((k : Nat) : Int)).toNat = 7 * k := by omega
    rw [this, show IntKind.u64.bits = 64 from rfl]; omega
  rw [e1]
  have e2 : ((x : Nat) : Int) * 2 ^ (7 * k) = ((x * 128 ^ k : Nat) : Int) := by
    rw [← pow7]; push_cast; rfl
  rw [e2, wrapU64 (n := ((x * 128 ^ k : Nat) : Int)) (by omega) (by omega), show IntKind.u64.bits = 64 from rfl]
  rw [BitVec.ofInt_natCast, BitVec.ofInt_natCast, BitVec.toNat_or, BitVec.toNat_ofNat, BitVec.toNat_ofNat, Nat.mod_eq_of_lt (by omega), Nat.mod_eq_of_lt (by omega)]
  have e3 : v ||| x * 128 ^ k = v + x * 128 ^ k := by
    have h := Nat.shiftLeft_add_eq_or_of_lt (i := 7 * k) (b := v) (by rw [pow7]; exact hv) x
    rw [Nat.shiftLeft_eq, pow7] at h
    rw [Nat.or_comm, ← h, Nat.add_comm]
  rw [e3]
  have e4 : v + x * 128 ^ k < 18446744073709551616 := by omega
  exact wrapU64 (by omega) (by omega)
theorem step_lt {v k x : Nat} (hv : v < 128 ^ k) (hx : x < 128) : v + x * 128 ^ k < 128 ^ (k + 1) := by
  have h : (x + 1) * 128 ^ k ≤ 128 * 128 ^ k := Nat.mul_le_mul_right _ (by omega)
  rw [Nat.add_mul, Nat.one_mul] at h
  rw [Nat.pow_succ, Nat.mul_comm (128 ^ k) 128]
  omega

noncomputable def lTk : Code := (theLoop Tryz.prog 91 3).getD .skip
theorem lTk_eq : theLoop Tryz.prog 91 3 = some lTk := by kernel_rfl

theorem tk_loop (s : ByteArray) :
    ((numD s 10 0 0).2 ≠ 0 → LoopOk Tryz.prog lTk 50 [9, 4, 2, 3] [0, 7, 8] [vI 0, vU 0, vU 0, vI 0] [vS s, vS s, vI s.size] [] .ret [vX, vX, vU (numD s 10 0 0).1, vI (numD s 10 0 0).2] []) ∧
    ((numD s 10 0 0).2 = 0 → LoopOk Tryz.prog lTk 50 [9, 4, 2, 3] [0, 7, 8] [vI 0, vU 0, vU 0, vI 0] [vS s, vS s, vI s.size] [] (.exit 0) [vX, vX, vU 0, vI 0] []) := by
  refine ⟨fun hf => ?_, fun hf => ?_⟩
  all_goals
    generalize hr : numD s 10 0 0 = r at hf ⊢
    refine LoopOk.rounds (S := Nat × Nat) E0 lTk_eq (by kernel_rfl) (fun t => [vI t.1, vU t.2, vU 0, vI 0]) (fun _ => []) (fun t => t.1 ≤ 9 ∧ t.2 < 128 ^ t.1 ∧ numD s (10 - t.1) t.1 t.2 = r) (fun t => 10 - t.1) (0, 0) ⟨by simp, by simp, hr⟩ ?_ (fun _ _ => rfl)
    intro ⟨k, v⟩ ⟨hk, hv, hD⟩
    simp only at hk hv hD
    have hb := bN_lt s k
    obtain ⟨g, hg⟩ : ∃ g, 10 - k = g + 1 := ⟨9 - k, by omega⟩
    have hg' : 10 - (k + 1) = g := by omega
    rw [hg] at hD
    have c7 : decide (Int.ofNat 0 ≤ IntKind.i64.wrap (Int.ofNat 7 * ((k : Nat) : Int))) = true := decide_eq_true (by
      have e : Int.ofNat 7 * ((k : Nat) : Int) = 7 * (k : Int) := rfl
      rw [e, wrap64 (by omega) (by omega)]; show (0 : Int) ≤ _; omega)
    unfold numD at hD
    by_cases hlt : k < s.size
    · have q1 : decide (((k : Nat) : Int) < ((s.size : Nat) : Int)) = true := decide_eq_true (by omega)
      have q2 : inB ((k : Nat) : Int) s.size = true := inB_of (by omega) (by omega)
      rw [if_pos hlt] at hD
      by_cases h9 : k = 9
      · have q3 : (((k : Nat) : Int) == Int.ofNat 9) = true := by subst h9; rfl
        by_cases hb1 : 1 < bN s k
        · have q4 : decide (byteAt s k > 1) = true := decide_eq_true (by rw [byteAt_bN]; omega)
          rw [if_pos ⟨h9, hb1⟩] at hD
          first
            | exact OneRound.stop [true, true, true, true, true] (vs := [vI k, vU v, vU 0, vI 0]) (hp' := []) (cs := [decide (byteAt s k > 1) == true, (((k : Nat) : Int) == Int.ofNat 9) == true, (((k : Nat) : Int) == Int.ofNat 9) == true, (((k : Nat) : Int) == Int.ofNat 9) == true, inB ((k : Nat) : Int) s.size, decide (((k : Nat) : Int) < ((s.size : Nat) : Int)) == true]) (fun rest => by kernel_rfl) (allI (by rw [q1, q2, q3, q4]; rfl)) (by simp) ⟨.unk, .unk, .refl, .refl, trivial⟩ rfl (.inl (Nat.le_refl _))
            | exact absurd (show r.2 = 0 by rw [← hD]) hf
        · have q4 : decide (byteAt s k > 1) = false := decide_eq_false (by rw [byteAt_bN]; omega)
          rw [if_neg (fun h => hb1 h.2), if_neg (by omega)] at hD
          have q5 : decide (byteAt s k ≥ Int.ofNat 128) = false := decide_eq_false (by rw [byteAt_bN]; show ¬ ((bN s k : Nat) : Int) ≥ 128; omega)
          by_cases h0 : bN s k = 0
          · have q6 : (byteAt s k == Int.ofNat 0) = true := by rw [byteAt_bN, h0]; rfl
            have q7 : decide (((k : Nat) : Int) > 0) = true := decide_eq_true (by omega)
            rw [if_pos ⟨h0, by omega⟩] at hD
            first
              | exact OneRound.stop [true, true, true, true, false, false, true, true, true, true] (vs := [vI k, vU v, vU 0, vI 0]) (hp' := []) (cs := [decide (((k : Nat) : Int) > 0) == true, (byteAt s k == Int.ofNat 0) == true, (byteAt s k == Int.ofNat 0) == true, (byteAt s k == Int.ofNat 0) == true, decide (byteAt s k ≥ Int.ofNat 128) == false, decide (byteAt s k > 1) == false, (((k : Nat) : Int) == Int.ofNat 9) == true, (((k : Nat) : Int) == Int.ofNat 9) == true, (((k : Nat) : Int) == Int.ofNat 9) == true, inB ((k : Nat) : Int) s.size, decide (((k : Nat) : Int) < ((s.size : Nat) : Int)) == true]) (fun rest => by kernel_rfl) (allI (by rw [q1, q2, q3, q4, q5, q6, q7]; rfl)) (by simp) ⟨.unk, .unk, .refl, .refl, trivial⟩ rfl (.inl (Nat.le_refl _))
              | exact absurd (show r.2 = 0 by rw [← hD]) hf
          · have q6 : (byteAt s k == Int.ofNat 0) = false := beq_eq_false_iff_ne.2 (by rw [byteAt_bN]; intro h; exact h0 (Int.ofNat.inj h))
            rw [if_neg (fun h => h0 h.1)] at hD
            first
              | refine OneRound.stop [true, true, true, true, false, false, false, false, false, false] (vs := [vI k, vU v, vU (orV v k (byteAt s k)), vI (IntKind.i64.wrap (((k : Nat) : Int) + Int.ofNat 1))]) (hp' := []) (cs := [decide (Int.ofNat 0 ≤ IntKind.i64.wrap (Int.ofNat 7 * ((k : Nat) : Int))), false == false, (byteAt s k == Int.ofNat 0) == false, (byteAt s k == Int.ofNat 0) == false, (byteAt s k == Int.ofNat 0) == false, decide (byteAt s k ≥ Int.ofNat 128) == false, decide (byteAt s k > 1) == false, (((k : Nat) : Int) == Int.ofNat 9) == true, (((k : Nat) : Int) == Int.ofNat 9) == true, (((k : Nat) : Int) == Int.ofNat 9) == true, inB ((k : Nat) : Int) s.size, decide (((k : Nat) : Int) < ((s.size : Nat) : Int)) == true]) (fun rest => by kernel_rfl) (allI (by rw [c7, q1, q2, q3, q4, q5, q6]; rfl)) (by simp) ⟨.unk, .unk, .of_eq ?_, .of_eq ?_, trivial⟩ rfl (.inl (Nat.le_refl _))
                · rw [byteAt_bN, orV_eq hk hv (by omega) (fun _ => by omega), ← hD]
                · rw [← hD]; show vI (IntKind.i64.wrap (((k : Nat) : Int) + 1)) = _; rw [wrap64 (by omega) (by omega)]; rfl
              | exact absurd hf (by rw [← hD]; simp)
      · have q3 : (((k : Nat) : Int) == Int.ofNat 9) = false := beq_eq_false_iff_ne.2 (fun h => h9 (Int.ofNat.inj h))
        rw [if_neg (fun h => h9 h.1)] at hD
        by_cases h128 : 128 ≤ bN s k
        · have q5 : decide (byteAt s k ≥ Int.ofNat 128) = true := decide_eq_true (by rw [byteAt_bN]; show ((bN s k : Nat) : Int) ≥ 128; omega)
          rw [if_pos h128] at hD
          refine OneRound.go [true, false, false, false, false, true] (vs := [vI (IntKind.i64.wrap (((k : Nat) : Int) + Int.ofNat 1)), vU (orV v k (IntKind.u8.wrap (byteAt s k - 128))), vU 0, vI 0]) (hp' := []) (cs := [decide (Int.ofNat 0 ≤ IntKind.i64.wrap (Int.ofNat 7 * ((k : Nat) : Int))), decide (byteAt s k ≥ Int.ofNat 128) == true, false == false, (((k : Nat) : Int) == Int.ofNat 9) == false, (((k : Nat) : Int) == Int.ofNat 9) == false, (((k : Nat) : Int) == Int.ofNat 9) == false, inB ((k : Nat) : Int) s.size, decide (((k : Nat) : Int) < ((s.size : Nat) : Int)) == true]) (fun rest => by kernel_rfl) (allI (by rw [c7, q1, q2, q3, q5]; rfl)) (k + 1, v + (bN s k - 128) * 128 ^ k) ⟨by show k + 1 ≤ 9; omega, step_lt hv (by omega), by show numD s (10 - (k + 1)) (k + 1) _ = _; rw [hg']; exact hD⟩ (by show 10 - (k + 1) < 10 - k; omega) ⟨.of_eq ?_, .of_eq ?_, .refl, .refl, trivial⟩ rfl (.inl (Nat.le_refl _))
          · show vI (IntKind.i64.wrap (((k : Nat) : Int) + 1)) = _; rw [wrap64 (by omega) (by omega)]; rfl
          · have e : IntKind.u8.wrap (byteAt s k - 128) = ((bN s k - 128 : Nat) : Int) := by rw [byteAt_bN, wrapU8 (by omega) (by omega)]; omega
            rw [e, orV_eq hk hv (by omega) (fun h => absurd h h9)]
        · have q5 : decide (byteAt s k ≥ Int.ofNat 128) = false := decide_eq_false (by rw [byteAt_bN]; show ¬ ((bN s k : Nat) : Int) ≥ 128; omega)
          rw [if_neg h128] at hD
          by_cases h0 : bN s k = 0
          · have q6 : (byteAt s k == Int.ofNat 0) = true := by rw [byteAt_bN, h0]; rfl
            by_cases hk0 : 0 < k
            · have q7 : decide (((k : Nat) : Int) > 0) = true := decide_eq_true (by omega)
              rw [if_pos ⟨h0, by omega⟩] at hD
              first
                | exact OneRound.stop [true, false, false, false, false, false, true, true, true, true] (vs := [vI k, vU v, vU 0, vI 0]) (hp' := []) (cs := [decide (((k : Nat) : Int) > 0) == true, (byteAt s k == Int.ofNat 0) == true, (byteAt s k == Int.ofNat 0) == true, (byteAt s k == Int.ofNat 0) == true, decide (byteAt s k ≥ Int.ofNat 128) == false, false == false, (((k : Nat) : Int) == Int.ofNat 9) == false, (((k : Nat) : Int) == Int.ofNat 9) == false, (((k : Nat) : Int) == Int.ofNat 9) == false, inB ((k : Nat) : Int) s.size, decide (((k : Nat) : Int) < ((s.size : Nat) : Int)) == true]) (fun rest => by kernel_rfl) (allI (by rw [q1, q2, q3, q5, q6, q7]; rfl)) (by simp) ⟨.unk, .unk, .refl, .refl, trivial⟩ rfl (.inl (Nat.le_refl _))
                | exact absurd (show r.2 = 0 by rw [← hD]) hf
            · have q7 : decide (((k : Nat) : Int) > 0) = false := decide_eq_false (by omega)
              rw [if_neg (fun h => hk0 h.2)] at hD
              first
                | refine OneRound.stop [true, false, false, false, false, false, true, true, true, false] (vs := [vI k, vU v, vU (orV v k (byteAt s k)), vI (IntKind.i64.wrap (((k : Nat) : Int) + Int.ofNat 1))]) (hp' := []) (cs := [decide (Int.ofNat 0 ≤ IntKind.i64.wrap (Int.ofNat 7 * ((k : Nat) : Int))), decide (((k : Nat) : Int) > 0) == false, (byteAt s k == Int.ofNat 0) == true, (byteAt s k == Int.ofNat 0) == true, (byteAt s k == Int.ofNat 0) == true, decide (byteAt s k ≥ Int.ofNat 128) == false, false == false, (((k : Nat) : Int) == Int.ofNat 9) == false, (((k : Nat) : Int) == Int.ofNat 9) == false, (((k : Nat) : Int) == Int.ofNat 9) == false, inB ((k : Nat) : Int) s.size, decide (((k : Nat) : Int) < ((s.size : Nat) : Int)) == true]) (fun rest => by kernel_rfl) (allI (by rw [c7, q1, q2, q3, q5, q6, q7]; rfl)) (by simp) ⟨.unk, .unk, .of_eq ?_, .of_eq ?_, trivial⟩ rfl (.inl (Nat.le_refl _))
                  · rw [byteAt_bN, orV_eq hk hv (by omega) (fun _ => by omega), ← hD]
                  · rw [← hD]; show vI (IntKind.i64.wrap (((k : Nat) : Int) + 1)) = _; rw [wrap64 (by omega) (by omega)]; rfl
                | exact absurd hf (by rw [← hD]; simp)
          · have q6 : (byteAt s k == Int.ofNat 0) = false := beq_eq_false_iff_ne.2 (by rw [byteAt_bN]; intro h; exact h0 (Int.ofNat.inj h))
            rw [if_neg (fun h => h0 h.1)] at hD
            first
              | refine OneRound.stop [true, false, false, false, false, false, false, false, false, false] (vs := [vI k, vU v, vU (orV v k (byteAt s k)), vI (IntKind.i64.wrap (((k : Nat) : Int) + Int.ofNat 1))]) (hp' := []) (cs := [decide (Int.ofNat 0 ≤ IntKind.i64.wrap (Int.ofNat 7 * ((k : Nat) : Int))), false == false, (byteAt s k == Int.ofNat 0) == false, (byteAt s k == Int.ofNat 0) == false, (byteAt s k == Int.ofNat 0) == false, decide (byteAt s k ≥ Int.ofNat 128) == false, false == false, (((k : Nat) : Int) == Int.ofNat 9) == false, (((k : Nat) : Int) == Int.ofNat 9) == false, (((k : Nat) : Int) == Int.ofNat 9) == false, inB ((k : Nat) : Int) s.size, decide (((k : Nat) : Int) < ((s.size : Nat) : Int)) == true]) (fun rest => by kernel_rfl) (allI (by rw [c7, q1, q2, q3, q5, q6]; rfl)) (by simp) ⟨.unk, .unk, .of_eq ?_, .of_eq ?_, trivial⟩ rfl (.inl (Nat.le_refl _))
                · rw [byteAt_bN, orV_eq hk hv (by omega) (fun _ => by omega), ← hD]
                · rw [← hD]; show vI (IntKind.i64.wrap (((k : Nat) : Int) + 1)) = _; rw [wrap64 (by omega) (by omega)]; rfl
              | exact absurd hf (by rw [← hD]; simp)
    · rw [if_neg hlt] at hD
      have q1 : decide (((k : Nat) : Int) < ((s.size : Nat) : Int)) = false := decide_eq_false (by omega)
      first
        | exact OneRound.stop [false] (vs := [vI k, vU v, vU 0, vI 0]) (hp' := []) (cs := [decide (((k : Nat) : Int) < ((s.size : Nat) : Int)) == false]) (fun rest => by kernel_rfl) (allI (by rw [q1]; rfl)) (by simp) ⟨.unk, .unk, .refl, .refl, trivial⟩ rfl (.inl (Nat.le_refl _))
        | exact absurd (show r.2 = 0 by rw [← hD]) hf
end Go.Proofs.YtjplobgambnhjaaGreat
