/- Numbers as bytes: the contracts; no statement. -/
import Derived.Test.YtkpehdhkhmomoaaDoorPn0
set_option linter.unusedVariables false
namespace Go.Proofs.YtkpehdhkhmomoaaDoor
open Go Go.Eng

/-- A number's bytes. -/
def numB (v : Nat) : List Int := varP 10 v ++ [IntKind.u8.wrap ((varE 10 v : Nat) : Int)]
theorem numB_len (v : Nat) : (numB v).length ≤ 11 := by have := varP_len 10 v; simp [numB]; omega
def uOk (v : Int) : Bool := decide (0 ≤ v) && decide (v < 18446744073709551616)
theorem bytesOf_len (b : ByteArray) : (bytesOf b).length = b.size := by unfold bytesOf; rw [List.length_map, Array.length_toList]; rfl
theorem number_pure (v : Int) (h : uOk v = true) : PureCall Tryd.prog 33 [vU v] (vS (strOfNums (numB v.toNat))) := by
  simp only [uOk, Bool.and_eq_true, decide_eq_true_eq] at h
  have hp := varP_len 10 v.toNat
  refine PureCall.res (EPn0.pure_ok (os := []) (r := vS (strOfNums (varP 10 v.toNat) ++ strOfNums [IntKind.u8.wrap ((varE 10 v.toNat : Nat) : Int)])) (cs := [decide ((strOfNums (varP 10 v.toNat)).size + 1 ≤ 9223372036854775807), decide (0 ≤ v), decide (v < 18446744073709551616), true]) (by kernel_rfl) (allI ?_)) (by rw [← strApp]; rfl)
  rw [decide_eq_true h.1, decide_eq_true h.2, strOfNums_size]
  simp only [List.all_cons, List.all_nil, Bool.and_true, decide_eq_true_eq]
  omega
theorem putnum_pure (b : ByteArray) (v : Int) (h : uOk v = true) (hb : b.size + 20 ≤ 140737488355328) : PureCall Tryd.prog 17 [vS b, vU v] (vS (b ++ strOfNums (numB v.toNat))) := by
  simp only [uOk, Bool.and_eq_true, decide_eq_true_eq] at h
  have hp := varP_len 10 v.toNat
  have hl := bytesOf_len b
  refine PureCall.res (EPn0.pure_ok (os := [false]) (r := vS (strOfNums (bytesOf b ++ varP 10 v.toNat ++ [IntKind.u8.wrap ((varE 10 v.toNat : Nat) : Int)]))) (cs := [Nat.beq (varP 10 v.toNat).length (varP 10 v.toNat).length, Nat.ble (((bytesOf b ++ varP 10 v.toNat).length + 1) * 1) 140737488355328 && Nat.ble ((bytesOf b ++ varP 10 v.toNat).length + 1) maxLen, false == false, decide (0 ≤ v), decide (v < 18446744073709551616), decide ((bytesOf b).length + 10 ≤ 140737488355328), Nat.ble b.size maxLen]) (by kernel_rfl) (allI ?_)) (by
      show vS _ = vS _
      rw [List.append_assoc, strApp, strBytes]; rfl)
  have g1 : (Nat.ble (((bytesOf b ++ varP 10 v.toNat).length + 1) * 1) 140737488355328 && Nat.ble ((bytesOf b ++ varP 10 v.toNat).length + 1) maxLen) = true := by
    simp only [Bool.and_eq_true, Nat.ble_eq, List.length_append, maxLen]; omega
  have g2 : Nat.ble b.size maxLen = true := by simp only [Nat.ble_eq, maxLen]; omega
  rw [g1, g2, decide_eq_true h.1, decide_eq_true h.2, Nat.beq_refl, decide_eq_true (show (bytesOf b).length + 10 ≤ 140737488355328 by omega)]
  rfl
noncomputable def EPn : Env Tryd.prog := (E0.addT1 17 [.one .str, .one cU] (fun d => vS (ByteArray.append d.1 (strOfNums (numB d.2.1.toNat)))) (fun d => [uOk d.2.1, decide (ByteArray.size d.1 + 20 ≤ 140737488355328)]) fun d hc => by
    obtain ⟨h1, hc⟩ := of_allTc hc
    exact putnum_pure d.1 d.2.1 h1 (of_decide_eq_true (of_allTc hc).1)).addT1
  33 [.one cU] (fun d => vS (strOfNums (numB d.1.toNat))) (fun d => [uOk d.1]) fun d hc => number_pure d.1 (of_allTc hc).1
end Go.Proofs.YtkpehdhkhmomoaaDoor
