/- A result read of bytes: the runs; no statement. -/
import Derived.Test.YtkpehdhkhmomoaaTkn
set_option linter.unusedVariables false
namespace Go.Proofs.Ytkpehdhkhmomoaa
open Go Go.Eng

def zS (s : ByteArray) : Nat := (((s.size : Nat) : Int)).toNat
theorem zS_eq (s : ByteArray) : zS s = s.size := rfl
def tL (s : ByteArray) : Int := IntKind.i64.wrap (numN s + IntKind.i64.wrap (numV s))
def tT (s : ByteArray) : ByteArray := s.extract (Int.toNat 0) (tL s).toNat
def tX (s : ByteArray) : ByteArray := (tT s).extract (numN s).toNat (zS (tT s))
def tH (s : ByteArray) : ByteArray := s.extract (Int.toNat 0) (Int.toNat 1)
def s1 (s : ByteArray) : ByteArray := s.extract (numN s).toNat (zS s)
def s2 (s : ByteArray) : ByteArray := (s1 s).extract (Int.toNat 1) (zS (s1 s))
def s3 (s : ByteArray) : ByteArray := (s2 s).extract (tL (s2 s)).toNat (zS (s2 s))
def s4 (s : ByteArray) : ByteArray := (s3 s).extract (tL (s3 s)).toNat (zS (s3 s))
def s5 (s : ByteArray) : ByteArray := (s4 s).extract (numN (s4 s)).toNat (zS (s4 s))
theorem numD_le (s : ByteArray) : ∀ f k v, (numD s f k v).2 ≤ s.size
  | 0, _, _ => Nat.zero_le _
  | f + 1, k, v => by
    unfold numD
    split
    · split
      · exact Nat.zero_le _
      · split
        · exact numD_le s f _ _
        · split
          · exact Nat.zero_le _
          · simp only; omega
    · exact Nat.zero_le _
theorem numN_ge (s : ByteArray) : 0 ≤ numN s := Int.natCast_nonneg _
theorem numN_le (s : ByteArray) : numN s ≤ ((s.size : Nat) : Int) := Int.ofNat_le.2 (numD_le s 10 0 0)
theorem numV_ge (s : ByteArray) : 0 ≤ numV s := Int.natCast_nonneg _
/-- A number is there, of so much at most. -/
def nOk (s : ByteArray) (m : Int) : Bool := (!(numN s == 0)) && decide (numV s ≤ m)
/-- A text is there. -/
def tOk (s : ByteArray) : Bool := (!(numN s == 0)) && (decide (numV s ≤ 65536) && decide (numN s + numV s ≤ ((s.size : Nat) : Int)))
structure TF (s : ByteArray) : Prop where
  a1 : (numN s == 0) = false
  a2 : decide (numV s > IntKind.u64.wrap 65536) = false
  a3 : decide (numV s > IntKind.u64.wrap (IntKind.i64.wrap (((s.size : Nat) : Int) - numN s))) = false
  a4 : decide (tL s < 0) = false
  a5 : decide (tL s > ((s.size : Nat) : Int)) = false
  a6 : decide ((0 : Int) ≤ 0 ∧ 0 ≤ tL s ∧ tL s ≤ ((s.size : Nat) : Int)) = true
  a7 : decide (0 ≤ tL s ∧ tL s ≤ ((s.size : Nat) : Int) ∧ ((s.size : Nat) : Int) ≤ ((s.size : Nat) : Int)) = true
  a8 : decide (0 ≤ numN s ∧ numN s ≤ (((tT s).size : Nat) : Int) ∧ (((tT s).size : Nat) : Int) ≤ (((tT s).size : Nat) : Int)) = true
theorem tL_eq {s : ByteArray} (h2 : numV s ≤ 65536) (hs : s.size ≤ 1000000) : tL s = numN s + numV s := by
  have := numN_ge s; have := numN_le s; have := numV_ge s
  unfold tL
  rw [wrap64 (n := numV s) (by omega) (by omega), wrap64 (by omega) (by omega)]
theorem TF.of {s : ByteArray} (h : tOk s = true) (hs : s.size ≤ 1000000) : TF s := by
  simp only [tOk, Bool.and_eq_true, Bool.not_eq_true', decide_eq_true_eq] at h
  obtain ⟨h1, h2, h3⟩ := h
  have hg := numN_ge s; have hl := numN_le s; have hv := numV_ge s
  have e := tL_eq h2 hs
  have ez : (tT s).size = (tL s).toNat := by
    unfold tT
    rw [ByteArray.size_extract]
    have : (tL s).toNat ≤ s.size := by rw [e]; omega
    have : Int.toNat 0 = 0 := rfl
    omega
  refine ⟨h1, ?_, ?_, ?_, ?_, ?_, ?_, ?_⟩
  · exact decide_eq_false (by rw [wrapU64 (by omega) (by omega)]; omega)
  · exact decide_eq_false (by rw [wrap64 (by omega) (by omega), wrapU64 (by omega) (by omega)]; omega)
  all_goals first | exact decide_eq_false (by omega) | exact decide_eq_true (by omega)
structure NF (s : ByteArray) : Prop where
  b1 : decide (numN s < 0) = false
  b2 : decide (numN s > ((s.size : Nat) : Int)) = false
  b3 : decide ((0 : Int) ≤ 0 ∧ 0 ≤ numN s ∧ numN s ≤ ((s.size : Nat) : Int)) = true
  b4 : decide (0 ≤ numN s ∧ numN s ≤ ((s.size : Nat) : Int) ∧ ((s.size : Nat) : Int) ≤ ((s.size : Nat) : Int)) = true
theorem NF.all (s : ByteArray) : NF s := by
  have hg := numN_ge s; have hl := numN_le s
  exact ⟨decide_eq_false (by omega), decide_eq_false (by omega), decide_eq_true (by omega), decide_eq_true (by omega)⟩
structure BF (s : ByteArray) : Prop where
  c1 : decide ((1 : Int) > ((s.size : Nat) : Int)) = false
  c2 : decide ((0 : Int) ≤ 0 ∧ (0 : Int) ≤ 1 ∧ (1 : Int) ≤ ((s.size : Nat) : Int)) = true
  c3 : decide ((0 : Int) ≤ 1 ∧ (1 : Int) ≤ ((s.size : Nat) : Int) ∧ ((s.size : Nat) : Int) ≤ ((s.size : Nat) : Int)) = true
  c4 : inB 0 (tH s).size = true
theorem BF.of {s : ByteArray} (h : 1 ≤ s.size) : BF s := by
  have e : (tH s).size = 1 := by
    unfold tH
    rw [ByteArray.size_extract]
    have : Int.toNat 0 = 0 := rfl
    have : Int.toNat 1 = 1 := rfl
    omega
  exact ⟨decide_eq_false (by omega), decide_eq_true (by omega), decide_eq_true (by omega), by rw [e]; rfl⟩
end Go.Proofs.Ytkpehdhkhmomoaa
