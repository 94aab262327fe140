/- members of bits; no statement. -/
import Derived.Test.YtcigjehfmiiolaaQown
set_option linter.unusedVariables false
namespace Go.Proofs.Ytcigjehfmiiolaa
open Go Go.Eng

def bitI (n i : Nat) : Bool := Nat.beq (n / 2 ^ i % 2) 1
def lstM (m : Int) : List Int := listB (bitI (1 + m.toNat % 31) 0) (bitI (1 + m.toNat % 31) 1) (bitI (1 + m.toNat % 31) 2) (bitI (1 + m.toNat % 31) 3) (bitI (1 + m.toNat % 31) 4)
def all256 : List Int := (List.range 256).map fun (n : Nat) => Int.ofNat n
theorem mem256 {m : Int} (h0 : 0 ≤ m) (h1 : m ≤ 255) : m ∈ all256 := by
  unfold all256
  rw [List.mem_map]
  exact ⟨m.toNat, List.mem_range.2 (by omega), Int.toNat_of_nonneg h0⟩
def byteB (m : Int) : Bool := decide (0 ≤ m) && decide (m ≤ 255)
theorem byteB_mem {m : Int} (h : byteB m = true) : m ∈ all256 := by
  simp only [byteB, Bool.and_eq_true, decide_eq_true_eq] at h
  exact mem256 h.1 h.2
set_option maxRecDepth 100000 in
theorem members_runs : (all256.all fun m => cameL (E0.pureRun 14 [vY m] []) (lstM m)) = true := by kernel_rfl
theorem members_pure (m : Int) (h : byteB m = true) : PureCall Try.prog 14 [vY m] (vL cI (lstM m)) :=
  cameL_ok E0 (List.all_eq_true.1 members_runs m (byteB_mem h))
set_option maxRecDepth 100000 in
theorem members_may : (all256.all fun m => mayB (lstM m)) = true := by kernel_rfl
theorem lstM_may {m : Int} (h : byteB m = true) : mayB (lstM m) = true := List.all_eq_true.1 members_may m (byteB_mem h)
noncomputable def EMem : Env Try.prog := EOwn.addT1 14 [.one cB] (fun d => vL cI (lstM d.1)) (fun d => [byteB d.1]) fun d hc => members_pure d.1 (hc _ (List.mem_singleton.2 rfl))
end Go.Proofs.Ytcigjehfmiiolaa
