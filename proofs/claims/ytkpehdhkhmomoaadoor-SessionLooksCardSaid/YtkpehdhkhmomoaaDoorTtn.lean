/- The document's TakeNumber is the number at the beginning; no statement. -/
import Derived.Test.YtkpehdhkhmomoaaDoorDtn
set_option linter.unusedVariables false
namespace Go.Proofs.YtkpehdhkhmomoaaDoor
open Go Go.Eng

/-- The value of so many bytes, the lowest first. -/
def vP (s : ByteArray) : Nat → Nat → Nat
  | _, 0 => 0
  | k, m + 1 => bN s k % 128 + 128 * vP s (k + 1) m
/-- As the loop does it: from the highest. -/
def vD (s : ByteArray) : Nat → Nat → Nat
  | 0, v => v
  | i + 1, v => vD s i (v * 128 % 18446744073709551616 + bN s i % 128)
theorem vP_snoc (s : ByteArray) : ∀ m k, vP s k (m + 1) = vP s k m + bN s (k + m) % 128 * 128 ^ m
  | 0, k => by simp [vP]
  | m + 1, k => by
    rw [vP, vP_snoc s m (k + 1), vP, Nat.mul_add, Nat.pow_succ, Nat.add_assoc k 1 m, Nat.add_comm 1 m]
    have : 128 * (bN s (k + (m + 1)) % 128 * 128 ^ m) = bN s (k + (m + 1)) % 128 * (128 ^ m * 128) := by
      rw [Nat.mul_left_comm, Nat.mul_comm 128 (128 ^ m)]
    omega
theorem vD_eq (s : ByteArray) : ∀ i v, v < 18446744073709551616 → vD s i v = (v * 128 ^ i + vP s 0 i) % 18446744073709551616
  | 0, v, h => by rw [vD, vP, Nat.pow_zero, Nat.mul_one, Nat.add_zero, Nat.mod_eq_of_lt h]
  | i + 1, v, h => by
    rw [vD, vD_eq s i _ (by omega), vP_snoc, Nat.zero_add]
    have a : (v * 128 % 18446744073709551616 + bN s i % 128) * 128 ^ i + vP s 0 i = v * 128 % 18446744073709551616 * 128 ^ i + (bN s i % 128 * 128 ^ i + vP s 0 i) := by rw [Nat.add_mul]; omega
    have b : v * 128 ^ (i + 1) + (vP s 0 i + bN s i % 128 * 128 ^ i) = v * 128 * 128 ^ i + (bN s i % 128 * 128 ^ i + vP s 0 i) := by rw [Nat.pow_succ, Nat.mul_comm (128 ^ i) 128, ← Nat.mul_assoc]; omega
    rw [a, b, Nat.add_mod, Nat.mod_mul_mod, ← Nat.add_mod]
theorem numD_vP (s : ByteArray) : ∀ (f k v : Nat), k + f = 10 → (numD s f k v).2 ≠ 0 → ∃ m, (numD s f k v).2 = k + m + 1 ∧ k + m + 1 ≤ 10 ∧ (numD s f k v).1 = v + vP s k (m + 1) * 128 ^ k ∧ (∀ i, k ≤ i → i < k + m → 128 ≤ bN s i) ∧ bN s (k + m) < 128
  | 0, k, v, _, h => absurd rfl h
  | f + 1, k, v, hk, h => by
    unfold numD at h ⊢
    have b256 := bN_lt s k
    split at h
    · rename_i hsz
      split at h
      · exact absurd rfl h
      · rename_i h9
        split at h
        · rename_i hb
          obtain ⟨m, e1, e2, e3, e4, e5⟩ := numD_vP s f (k + 1) (v + (bN s k - 128) * 128 ^ k) (by omega) h
          rw [if_pos hsz, if_neg h9, if_pos hb]
          refine ⟨m + 1, by omega, by omega, ?_, ?_, ?_⟩
          · rw [e3, vP.eq_2 s k (m + 1), Nat.pow_succ, Nat.add_mul]
            have : bN s k - 128 = bN s k % 128 := by omega
            rw [this, Nat.mul_comm (128 ^ k) 128, ← Nat.mul_assoc, Nat.mul_comm (vP s (k + 1) (m + 1)) 128]; omega
          · intro i h1 h2
            by_cases hi : i = k
            · subst hi; exact hb
            · exact e4 i (by omega) (by omega)
          · have : k + (m + 1) = k + 1 + m := by omega
            rw [this]; exact e5
        · rename_i hb
          split at h
          · exact absurd rfl h
          · rename_i h0
            rw [if_pos hsz, if_neg h9, if_neg hb, if_neg h0]
            refine ⟨0, rfl, by omega, ?_, fun i _ _ => by omega, by show bN s k < 128; omega⟩
            have : bN s k % 128 = bN s k := by omega
            simp only [vP, Nat.mul_zero, Nat.add_zero, this]
    · exact absurd rfl h
def orS (v b : Int) : Int := IntKind.u64.wrap (((BitVec.ofInt IntKind.u64.bits (IntKind.u64.wrap (v * 2 ^ min (Int.toNat 7) IntKind.u64.bits)) ||| BitVec.ofInt IntKind.u64.bits (IntKind.u64.wrap (b.tmod 128))).toNat : Nat) : Int)
theorem orS_eq {v b : Nat} (hv : v < 18446744073709551616) (hb : b < 256) : orS ((v : Nat) : Int) ((b : Nat) : Int) = ((v * 128 % 18446744073709551616 + b % 128 : Nat) : Int) := by
  unfold orS
  have e1 : min (Int.toNat 7) IntKind.u64.bits = 7 := rfl
  rw [e1, show IntKind.u64.bits = 64 from rfl]
  have e2 : ((v : Nat) : Int) * 2 ^ 7 = ((v * 128 : Nat) : Int) := by push_cast; rfl
  have e3 : (((b : Nat) : Int)).tmod 128 = ((b % 128 : Nat) : Int) := by
    rw [Int.tmod_eq_emod_of_nonneg (by omega)]; omega
  have wu : ∀ n : Int, IntKind.u64.wrap n = n % 18446744073709551616 := by
    intro n
    simp only [IntKind.wrap, IntKind.signed, IntKind.bits, Bool.false_and]
    simp
  rw [e2, e3, wu ((v * 128 : Nat) : Int), wu ((b % 128 : Nat) : Int)]
  have e4 : ((v * 128 : Nat) : Int) % 18446744073709551616 = ((v * 128 % 18446744073709551616 : Nat) : Int) := by omega
  have e5 : ((b % 128 : Nat) : Int) % 18446744073709551616 = ((b % 128 : Nat) : Int) := by omega
  rw [e4, e5]
  obtain ⟨q, hq⟩ : ∃ q, v * 128 % 18446744073709551616 = q * 128 := ⟨v * 128 % 18446744073709551616 / 128, by omega⟩
  have hy : v * 128 % 18446744073709551616 < 18446744073709551616 := Nat.mod_lt _ (by decide)
  have hx : b % 128 < 128 := Nat.mod_lt _ (by decide)
  generalize v * 128 % 18446744073709551616 = y at *
  generalize b % 128 = x at *
  subst hq
  rw [BitVec.ofInt_natCast, BitVec.ofInt_natCast, BitVec.toNat_or, BitVec.toNat_ofNat, BitVec.toNat_ofNat, Nat.mod_eq_of_lt (show q * 128 < 2 ^ 64 from hy), Nat.mod_eq_of_lt (show x < 2 ^ 64 by omega)]
  have e6 : q * 128 ||| x = q * 128 + x := by
    have h := Nat.shiftLeft_add_eq_or_of_lt (i := 7) (b := x) hx q
    rw [Nat.shiftLeft_eq] at h
    exact h.symm
  rw [e6, wu]; omega

noncomputable def lTi : Code := (theLoop Tryd.prog 23 7).getD .skip
theorem lTi_eq : theLoop Tryd.prog 23 7 = some lTi := by kernel_rfl
theorem ti_loop (s : ByteArray) (i : Int) (h0 : -1 ≤ i) (h1 : i < ((s.size : Nat) : Int)) (h9 : i ≤ 9) :
    LoopOk Tryd.prog lTi 44 [5, 6] [0] [vU 0, vI i] [vS s] [] (.exit 2) [vU (vD s (i + 1).toNat 0 : Nat), vX] [] := by
  generalize hr : vD s (i + 1).toNat 0 = r
  refine LoopOk.rounds (S := Nat × Int) E0 lTi_eq (by kernel_rfl) (fun t => [vU t.1, vI t.2]) (fun _ => []) (fun t => -1 ≤ t.2 ∧ t.2 < ((s.size : Nat) : Int) ∧ t.2 ≤ 9 ∧ t.1 < 18446744073709551616 ∧ vD s (t.2 + 1).toNat t.1 = r) (fun t => (t.2 + 1).toNat) (0, i) ⟨h0, h1, h9, by simp, hr⟩ ?_ (fun _ _ => rfl)
  intro ⟨v, i⟩ ⟨h0, h1, h9, hv, hD⟩
  simp only at h0 h1 h9 hv hD
  by_cases hi : i ≥ 0
  · have q1 : decide (i ≥ 0) = true := decide_eq_true hi
    have q2 : inB i s.size = true := inB_of (by omega) (by omega)
    have hn : (i + 1).toNat = i.toNat + 1 := by omega
    rw [hn] at hD
    refine OneRound.go [true] (vs := [vU (orS v (byteAt s i.toNat)), vI (IntKind.i64.wrap (i - 1))]) (hp' := []) (cs := [decide ((128 : Int) ≠ 0), inB i s.size, decide ((0 : Int) ≤ 7), decide (i ≥ 0) == true]) (fun rest => by kernel_rfl) (allI (by rw [q1, q2]; rfl)) (v * 128 % 18446744073709551616 + bN s i.toNat % 128, i - 1) ⟨by show -1 ≤ i - 1; omega, by show i - 1 < _; omega, by show i - 1 ≤ 9; omega, by show _ % 18446744073709551616 + _ % 128 < 18446744073709551616; omega, by show vD s (i - 1 + 1).toNat _ = r; rw [show (i - 1 + 1).toNat = i.toNat by omega]; exact hD⟩ (by show (i - 1 + 1).toNat < (i + 1).toNat; omega) ⟨.of_eq ?_, .of_eq ?_, trivial⟩ rfl (.inl (Nat.le_refl _))
    · rw [byteAt_bN, orS_eq hv (bN_lt s _)]
    · rw [wrap64 (by omega) (by omega)]
  · have q1 : decide (i ≥ 0) = false := decide_eq_false hi
    have hn : (i + 1).toNat = 0 := by omega
    rw [hn] at hD
    exact OneRound.stop [false] (vs := [vU v, vI i]) (hp' := []) (cs := [decide (i ≥ 0) == false]) (fun rest => by kernel_rfl) (allI (by rw [q1]; rfl)) (by simp) ⟨.of_eq (by rw [← hD]; rfl), .unk, trivial⟩ rfl (.inl (Nat.le_refl _))
abbrev VOk (V : ByteArray → Int → Nat) : Prop := ∀ (s : ByteArray) (i : Int), -1 ≤ i → i < ((s.size : Nat) : Int) → i ≤ 9 → LoopOk Tryd.prog lTi 44 [5, 6] [0] [vU 0, vI i] [vS s] [] (.exit 2) [vU (V s i : Nat), vX] []
abbrev WOk (W : Int → ByteArray) : Prop := ∀ v : Int, uOk v = true → PureCall Tryd.prog 33 [vU v] (vS (W v))
/-- Over any such functions: so that no run unfolds them. -/
noncomputable def ETi (V : ByteArray → Int → Nat) (hV : VOk V) (W : Int → ByteArray) (hW : WOk W) : Env Tryd.prog := ((E0.addLT 23 7 lTi_eq 44 [5, 6] [0] (by kernel_rfl) [.one cU, .one cI] [.one .str]
  (fun (v, i, _) (s, _) hp os => retC (.exit 2, [vU (V s i : Nat), vX], []) [decide (v = 0), decide ((-1 : Int) ≤ i ∧ (i : Int) < ((s.size : Nat) : Int) ∧ (i : Int) ≤ 9), hp.isEmpty] os)
  (fun (v, i, _) (s, _) hp os e outs hp' cs os' h hc => by
    simp only [retC, Option.some.injEq, Prod.mk.injEq] at h
    obtain ⟨⟨rfl, rfl, rfl⟩, rfl, rfl⟩ := h
    obtain ⟨h1, hc⟩ := of_allTc hc
    obtain ⟨h2, hc⟩ := of_allTc hc
    obtain ⟨h3, _⟩ := of_allTc hc
    have h3 := List.isEmpty_iff.1 h3
    simp only [decide_eq_true_eq] at h1 h2
    subst h1; subst h3
    exact hV s i h2.1 h2.2.1 h2.2.2)).addT1 33 [.one cU] (fun d => vS (W d.1)) (fun d => [uOk d.1]) fun d hc => hW d.1 (of_allTc hc).1)
end Go.Proofs.YtkpehdhkhmomoaaDoor
