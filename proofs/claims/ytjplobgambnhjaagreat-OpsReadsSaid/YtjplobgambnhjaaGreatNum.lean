/- Numbers as bytes: the loops; no statement. -/
import Derived.Test.YtjplobgambnhjaaGreatVar
set_option linter.unusedVariables false
namespace Go.Proofs.YtjplobgambnhjaaGreat
open Go Go.Eng

def orB (v : Nat) : Int := IntKind.u8.wrap (((BitVec.ofInt IntKind.u8.bits (IntKind.u8.wrap ((v : Nat) : Int)) ||| BitVec.ofInt IntKind.u8.bits 128).toNat : Nat) : Int)
def shB (v : Nat) : Int := (((v : Nat) : Int)).fdiv (2 ^ min (Int.toNat 7) IntKind.u64.bits)
def addB (v : Nat) : Int := IntKind.u8.wrap (IntKind.u64.wrap ((((v : Nat) : Int)).tmod 128 + 128))
def quB (v : Nat) : Int := IntKind.u64.wrap ((((v : Nat) : Int)).tdiv 128)
theorem or128 : ∀ x : Fin 256, ((BitVec.ofInt 8 ((x.val : Nat) : Int)) ||| BitVec.ofInt 8 128).toNat = x.val % 128 + 128 := by decide +kernel
theorem wrapB (v : Nat) : IntKind.u8.wrap ((v : Nat) : Int) = ((v % 256 : Nat) : Int) := by
  simp only [IntKind.wrap, IntKind.signed, IntKind.bits, Bool.false_and]
  simp
theorem orB_eq (v : Nat) : orB v = ((v % 128 + 128 : Nat) : Int) := by
  unfold orB
  rw [wrapB v]
  have h := or128 ⟨v % 256, by omega⟩
  simp only at h
  rw [show IntKind.u8.bits = 8 from rfl, h, wrapU8 (by omega) (by omega)]
  omega
theorem shB_eq (v : Nat) : shB v = ((v / 128 : Nat) : Int) := by
  unfold shB
  rw [show (2 : Int) ^ min (Int.toNat 7) IntKind.u64.bits = 128 by decide, Int.fdiv_eq_ediv_of_nonneg _ (by omega)]
  omega
theorem addB_eq {v : Nat} (h : v < 18446744073709551616) : addB v = ((v % 128 + 128 : Nat) : Int) := by
  unfold addB
  have e : ((v : Nat) : Int).tmod 128 = ((v % 128 : Nat) : Int) := by rw [Int.tmod_eq_emod_of_nonneg (by omega)]; omega
  rw [e, wrapU64 (by omega) (by omega), wrapU8 (by omega) (by omega)]; omega
theorem quB_eq {v : Nat} (h : v < 18446744073709551616) : quB v = ((v / 128 : Nat) : Int) := by
  unfold quB
  have e : ((v : Nat) : Int).tdiv 128 = ((v / 128 : Nat) : Int) := by rw [Int.tdiv_eq_ediv_of_nonneg (by omega)]; omega
  rw [e, wrapU64 (by omega) (by omega)]

noncomputable def lPut : Code := (theLoop Tryz.prog 107 2).getD .skip
theorem lPut_eq : theLoop Tryz.prog 107 2 = some lPut := by kernel_rfl
noncomputable def lNum : Code := (theLoop Tryz.prog 112 2).getD .skip
theorem lNum_eq : theLoop Tryz.prog 112 2 = some lNum := by kernel_rfl
theorem u64_pow {v : Nat} (h : v < 18446744073709551616) : v < 128 ^ 10 := Nat.lt_of_lt_of_le h (by decide)

theorem put_loop (l : List Int) (v : Nat) (hv : v < 18446744073709551616) (hl : l.length + 10 ≤ 140737488355328) :
    LoopOk Tryz.prog lPut 24 [5, 1] [] [.one (.sl cB l (.own 0 0)), vU v] [] [.tok 5 0] (.exit 0) [.one (.sl cB (l ++ varP 10 v) (.own 0 (varP 10 v).length)), vU (varE 10 v)] [.tok 5 (varP 10 v).length] := by
  refine LoopOk.rounds (S := Nat × List Int × Nat × Nat) E0 lPut_eq (by kernel_rfl) (fun s => [.one (.sl cB s.2.1 (.own 0 s.2.2.2)), vU s.2.2.1]) (fun s => [.tok 5 s.2.2.2])
    (fun s => 0 < s.1 ∧ s.2.2.1 < 128 ^ s.1 ∧ s.2.2.1 < 18446744073709551616 ∧ s.2.1 ++ varP s.1 s.2.2.1 = l ++ varP 10 v ∧ varE s.1 s.2.2.1 = varE 10 v ∧ s.2.2.2 + (varP s.1 s.2.2.1).length = (varP 10 v).length) (fun s => s.1) (10, l, v, 0)
    ⟨Nat.zero_lt_succ 9, u64_pow hv, hv, rfl, rfl, Nat.zero_add _⟩ ?_ (fun _ _ => rfl)
  intro ⟨f, l', v', w⟩ ⟨h0, h1, h2, h3, h4, h5⟩
  simp only at h0 h1 h2 h3 h4 h5
  obtain ⟨f, rfl⟩ : ∃ g, f = g + 1 := ⟨f - 1, by omega⟩
  have hlen : l'.length + (varP (f + 1) v').length ≤ l.length + 10 := by
    have := congrArg List.length h3
    have h10 := varP_len 10 v
    simp only [List.length_append] at this
    omega
  by_cases hv' : v' < 128
  · rw [varP_lo hv'] at h3 h5
    rw [varE_lo hv'] at h4
    rw [List.append_nil] at h3
    simp only [List.length_nil, Nat.add_zero] at h5
    refine OneRound.stop [false] (vs := [.one (.sl cB l' (.own 0 w)), vU v']) (hp' := [.tok 5 w]) (cs := [decide (((v' : Nat) : Int) ≥ 128) == false]) (fun rest => by kernel_rfl) (allT1 (dF (by omega))) (by simp) ⟨.of_eq (by rw [h3, h5]), .of_eq (by rw [h4]), trivial⟩ ?_ (.inl (Nat.le_refl _))
    rw [h5]; rfl
  · have hf : f ≠ 0 := fun e => by subst e; simp at h1; omega
    rw [varP_hi hv'] at h3 h5 hlen
    rw [varE_hi hv'] at h4
    simp only [List.length_cons] at h5 hlen
    refine OneRound.go [true, false] (vs := (fun l v w => [(.one (.sl (.int .u8) (l ++ [orB v]) (.own 0 (w + 1)))), (.one (.int .u64 (shB v)))]) l' v' w) (hp' := [.tok 5 (w + 1)]) (cs := (fun (l : List Int) (v w : Nat) => [decide ((0 : Int) ≤ 7), Nat.beq w w, Nat.ble ((l.length + 1) * 1) 140737488355328 && Nat.ble (l.length + 1) maxLen, false == false, decide (((v : Nat) : Int) ≥ 128) == true]) l' v' w) (fun rest => by kernel_rfl) (allI ?_) (f, l' ++ [((v' % 128 + 128 : Nat) : Int)], v' / 128, w + 1) (show 0 < f ∧ v' / 128 < 128 ^ f ∧ v' / 128 < 18446744073709551616 ∧ (l' ++ [((v' % 128 + 128 : Nat) : Int)]) ++ varP f (v' / 128) = l ++ varP 10 v ∧ varE f (v' / 128) = varE 10 v ∧ (w + 1) + (varP f (v' / 128)).length = (varP 10 v).length from ⟨by omega, ?_, by omega, ?_, h4, by omega⟩) (by simp) ⟨.of_eq ?_, .of_eq ?_, trivial⟩ rfl (.inl (Nat.le_refl _))
    · have g1 : ((v' : Nat) : Int) ≥ 128 := by omega
      have g2 : (Nat.ble ((l'.length + 1) * 1) 140737488355328 && Nat.ble (l'.length + 1) maxLen) = true := by
        simp only [Bool.and_eq_true, Nat.ble_eq, maxLen]; omega
      have g3 : Nat.beq w w = true := Nat.beq_refl w
      simp only [g2, g3, decide_eq_true g1]; rfl
    · rw [Nat.pow_succ] at h1
      exact Nat.div_lt_of_lt_mul (by rw [Nat.mul_comm]; exact h1)
    · simp only [List.append_assoc, List.singleton_append]; exact h3
    · simp only [orB_eq]
    · simp only [shB_eq]
theorem num_loop (v : Nat) (hv : v < 18446744073709551616) :
    LoopOk Tryz.prog lNum 22 [3, 0] [] [vS ByteArray.empty, vU v] [] [] (.exit 0) [vS (strOfNums (varP 10 v)), vU (varE 10 v)] [] := by
  refine LoopOk.rounds (S := Nat × List Int × Nat) E0 lNum_eq (by kernel_rfl) (fun s => [vS (strOfNums s.2.1), vU s.2.2]) (fun s => [])
    (fun s => 0 < s.1 ∧ s.2.2 < 128 ^ s.1 ∧ s.2.2 < 18446744073709551616 ∧ s.2.1 ++ varP s.1 s.2.2 = varP 10 v ∧ varE s.1 s.2.2 = varE 10 v) (fun s => s.1) (10, [], v)
    ⟨Nat.zero_lt_succ 9, u64_pow hv, hv, rfl, rfl⟩ ?_ (fun _ _ => rfl)
  intro ⟨f, l', v'⟩ ⟨h0, h1, h2, h3, h4⟩
  simp only at h0 h1 h2 h3 h4
  obtain ⟨f, rfl⟩ : ∃ g, f = g + 1 := ⟨f - 1, by omega⟩
  have hlen : l'.length + (varP (f + 1) v').length ≤ 10 := by
    have := congrArg List.length h3
    have h10 := varP_len 10 v
    simp only [List.length_append] at this
    omega
  by_cases hv' : v' < 128
  · rw [varP_lo hv'] at h3
    rw [varE_lo hv'] at h4
    rw [List.append_nil] at h3
    exact OneRound.stop [false] (vs := [vS (strOfNums l'), vU v']) (hp' := []) (cs := [decide (((v' : Nat) : Int) ≥ 128) == false]) (fun rest => by kernel_rfl) (allT1 (dF (by omega))) (by simp) ⟨.of_eq (by rw [h3]), .of_eq (by rw [h4]), trivial⟩ rfl (.inl (Nat.le_refl _))
  · have hf : f ≠ 0 := fun e => by subst e; simp at h1; omega
    rw [varP_hi hv'] at h3 hlen
    rw [varE_hi hv'] at h4
    simp only [List.length_cons] at hlen
    refine OneRound.goT [true] (vs := (fun s v => [(.one (.str (s ++ strOfNums [addB v]))), (.one (.int .u64 (quB v)))]) (strOfNums l') v') (hp' := []) (cs := (fun (s : ByteArray) (v : Nat) => [(decide (s.size + 1 ≤ 9223372036854775807)), (decide (128 ≠ 0)), (decide (((v : Nat) : Int) ≥ 128) == true)]) (strOfNums l') v') (fun rest => by kernel_rfl) (allI ?_) (f, l' ++ [((v' % 128 + 128 : Nat) : Int)], v' / 128) (show 0 < f ∧ v' / 128 < 128 ^ f ∧ v' / 128 < 18446744073709551616 ∧ (l' ++ [((v' % 128 + 128 : Nat) : Int)]) ++ varP f (v' / 128) = varP 10 v ∧ varE f (v' / 128) = varE 10 v from ⟨by omega, ?_, by omega, ?_, h4⟩) (by simp) ⟨.of_eq ?_, .of_eq ?_, trivial⟩ rfl ⟨by simp [idsV, idsC], by simp [idsB]⟩
    · have g1 : ((v' : Nat) : Int) ≥ 128 := by omega
      have g2 : (strOfNums l').size + 1 ≤ 9223372036854775807 := by rw [strOfNums_size]; omega
      simp only [decide_eq_true g1, decide_eq_true g2]; rfl
    · rw [Nat.pow_succ] at h1
      exact Nat.div_lt_of_lt_mul (by rw [Nat.mul_comm]; exact h1)
    · simp only [List.append_assoc, List.singleton_append]; exact h3
    · simp only [addB_eq h2, strApp]
    · simp only [quB_eq h2]
end Go.Proofs.YtjplobgambnhjaaGreat
