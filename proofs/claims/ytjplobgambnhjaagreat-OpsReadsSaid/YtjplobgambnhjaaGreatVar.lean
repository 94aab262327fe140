/- The seat's program under the engine; no statement. -/
import Derived.Test.YtjplobgambnhjaaGreatChecked
import Derived.Test.YtjplobgambnhjaaGreatEngZ11
import Derived.KernelRfl
set_option linter.unusedVariables false
namespace Go.Proofs.YtjplobgambnhjaaGreat
open Go Go.Eng

theorem mixed : Tryz.prog.follows .mixedOrders = true := by kernel_rfl
noncomputable def E0 : Env Tryz.prog := Env.base mixed
open Go Go.Eng

theorem allI {cs : List Bool} (h : (cs.all fun c => c) = true) : ∀ c ∈ cs, c = true := fun c hc => List.all_eq_true.1 h c hc
theorem bltT {a b : Nat} (h : a < b) : Nat.blt a b = true := by rw [Nat.blt_eq]; exact h
theorem bltF {a b : Nat} (h : ¬ a < b) : Nat.blt a b = false := by rw [Bool.eq_false_iff]; intro e; rw [Nat.blt_eq] at e; exact h e
def varP : Nat → Nat → List Int
  | 0, _ => []
  | f + 1, v => bif Nat.blt v 128 then [] else ((v % 128 + 128 : Nat) : Int) :: varP f (v / 128)
def varE : Nat → Nat → Nat
  | 0, v => v
  | f + 1, v => bif Nat.blt v 128 then v else varE f (v / 128)
theorem varP_lo {f v : Nat} (h : v < 128) : varP (f + 1) v = [] := by unfold varP; rw [bltT h]; rfl
theorem varE_lo {f v : Nat} (h : v < 128) : varE (f + 1) v = v := by unfold varE; rw [bltT h]; rfl
theorem varP_hi {f v : Nat} (h : ¬ v < 128) : varP (f + 1) v = ((v % 128 + 128 : Nat) : Int) :: varP f (v / 128) := by
  conv => lhs; unfold varP
  rw [bltF h]; rfl
theorem varE_hi {f v : Nat} (h : ¬ v < 128) : varE (f + 1) v = varE f (v / 128) := by
  conv => lhs; unfold varE
  rw [bltF h]; rfl
theorem varE_lt : ∀ {f v : Nat}, v < 128 ^ f → 0 < f → varE f v < 128
  | 0, v, _, h0 => by omega
  | f + 1, v, h, _ => by
    by_cases hv : v < 128
    · rw [varE_lo hv]; exact hv
    · rw [varE_hi hv]
      by_cases hf : f = 0
      · subst hf; simp at h; omega
      · refine varE_lt ?_ (by omega)
        rw [Nat.pow_succ] at h
        exact Nat.div_lt_of_lt_mul (by rw [Nat.mul_comm]; exact h)
theorem varP_len : ∀ (f v : Nat), (varP f v).length ≤ f
  | 0, v => Nat.le_refl _
  | f + 1, v => by
    by_cases hv : v < 128
    · rw [varP_lo hv]; simp
    · rw [varP_hi hv]
      have := varP_len f (v / 128)
      simp only [List.length_cons]; omega

theorem strApp (a b : List Int) : strOfNums (a ++ b) = strOfNums a ++ strOfNums b := by
  apply ByteArray.ext
  simp [strOfNums, ByteArray.data_append]
theorem strBytes (b : ByteArray) : strOfNums (bytesOf b) = b := by
  apply ByteArray.ext
  apply Array.ext'
  simp [strOfNums, bytesOf, List.map_map]
  have : ((fun n => UInt8.ofNat n.toNat) ∘ fun (b : UInt8) => (b.toNat : Int)) = id := by
    funext x; simp
  rw [this]; simp
end Go.Proofs.YtjplobgambnhjaaGreat
