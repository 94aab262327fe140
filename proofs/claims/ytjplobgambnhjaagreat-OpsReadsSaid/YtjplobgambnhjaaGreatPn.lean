/- Numbers as bytes: the loops' contracts; no statement. -/
import Derived.Test.YtjplobgambnhjaaGreatNum
set_option linter.unusedVariables false
namespace Go.Proofs.YtjplobgambnhjaaGreat
open Go Go.Eng

noncomputable def EPn0 : Env Tryz.prog := (E0.addL 107 2 lPut_eq 24 [5, 1] [] (by kernel_rfl)
  (fun vals rov hp os => match vals, rov, hp with
    | [.one (.sl (.int .u8) l (.own 0 0)), .one (.int .u64 v)], [], [.tok 5 0] =>
      retC (.exit 0, [.one (.sl cB (l ++ varP 10 v.toNat) (.own 0 (varP 10 v.toNat).length)), vU (varE 10 v.toNat)], [.tok 5 (varP 10 v.toNat).length]) [decide (0 ≤ v), decide (v < 18446744073709551616), decide (l.length + 10 ≤ 140737488355328)] os
    | _, _, _ => none)
  (fun vals rov hp os e outs hp' cs os' h hc => by
    split at h
    · rename_i l v
      simp only [retC, Option.some.injEq, Prod.mk.injEq] at h
      obtain ⟨⟨rfl, rfl, rfl⟩, rfl, rfl⟩ := h
      obtain ⟨h1, hc⟩ := of_allTc hc
      obtain ⟨h2, hc⟩ := of_allTc hc
      obtain ⟨h3, _⟩ := of_allTc hc
      simp only [decide_eq_true_eq] at h1 h2 h3
      obtain ⟨n, rfl⟩ : ∃ n : Nat, v = Int.ofNat n := ⟨v.toNat, (Int.toNat_of_nonneg h1).symm⟩
      exact put_loop l n (Int.ofNat_lt.1 h2) h3
    · cases h)).addL 112 2 lNum_eq 22 [3, 0] [] (by kernel_rfl)
  (fun vals rov hp os => match vals, rov, hp with
    | [.one (.str s), .one (.int .u64 v)], [], [] => retC (.exit 0, [vS (strOfNums (varP 10 v.toNat)), vU (varE 10 v.toNat)], []) [decide (0 ≤ v), decide (v < 18446744073709551616), Nat.beq s.size 0] os
    | _, _, _ => none)
  (fun vals rov hp os e outs hp' cs os' h hc => by
    split at h
    · rename_i s v
      simp only [retC, Option.some.injEq, Prod.mk.injEq] at h
      obtain ⟨⟨rfl, rfl, rfl⟩, rfl, rfl⟩ := h
      obtain ⟨h1, hc⟩ := of_allTc hc
      obtain ⟨h2, hc⟩ := of_allTc hc
      obtain ⟨h3, _⟩ := of_allTc hc
      simp only [decide_eq_true_eq, Nat.beq_eq] at h1 h2 h3
      obtain ⟨n, rfl⟩ : ∃ n : Nat, v = Int.ofNat n := ⟨v.toNat, (Int.toNat_of_nonneg h1).symm⟩
      have e : s = ByteArray.empty := by
        apply ByteArray.ext
        exact Array.eq_empty_of_size_eq_zero h3
      subst e
      exact num_loop n (Int.ofNat_lt.1 h2)
    · cases h)
open Go Go.Eng

/-- A number's bytes. -/
def numB (v : Nat) : List Int := varP 10 v ++ [IntKind.u8.wrap ((varE 10 v : Nat) : Int)]
theorem numB_len (v : Nat) : (numB v).length ≤ 11 := by have := varP_len 10 v; simp [numB]; omega
def uOk (v : Int) : Bool := decide (0 ≤ v) && decide (v < 18446744073709551616)
theorem bytesOf_len (b : ByteArray) : (bytesOf b).length = b.size := by unfold bytesOf; rw [List.length_map, Array.length_toList]; rfl
theorem number_pure (v : Int) (h : uOk v = true) : PureCall Tryz.prog 112 [vU v] (vS (strOfNums (numB v.toNat))) := by
  simp only [uOk, Bool.and_eq_true, decide_eq_true_eq] at h
  have hp := varP_len 10 v.toNat
  refine PureCall.res (EPn0.pure_ok (os := []) (r := vS (strOfNums (varP 10 v.toNat) ++ strOfNums [IntKind.u8.wrap ((varE 10 v.toNat : Nat) : Int)])) (cs := [decide ((strOfNums (varP 10 v.toNat)).size + 1 ≤ 9223372036854775807), decide (0 ≤ v), decide (v < 18446744073709551616), true]) (by kernel_rfl) (allI ?_)) (by rw [← strApp]; rfl)
  rw [decide_eq_true h.1, decide_eq_true h.2, strOfNums_size]
  simp only [List.all_cons, List.all_nil, Bool.and_true, decide_eq_true_eq]
  omega
theorem putnum_pure (b : ByteArray) (v : Int) (h : uOk v = true) (hb : b.size + 20 ≤ 140737488355328) : PureCall Tryz.prog 107 [vS b, vU v] (vS (b ++ strOfNums (numB v.toNat))) := by
  simp only [uOk, Bool.and_eq_true, decide_eq_true_eq] at h
  have hp := varP_len 10 v.toNat
  have hl := bytesOf_len b
  refine PureCall.res (EPn0.pure_ok (os := [false]) (r := vS (strOfNums (bytesOf b ++ varP 10 v.toNat ++ [IntKind.u8.wrap ((varE 10 v.toNat : Nat) : Int)]))) (cs := [Nat.beq (varP 10 v.toNat).length (varP 10 v.toNat).length, Nat.ble (((bytesOf b ++ varP 10 v.toNat).length + 1) * 1) 140737488355328 && Nat.ble ((bytesOf b ++ varP 10 v.toNat).length + 1) maxLen, false == false, decide (0 ≤ v), decide (v < 18446744073709551616), decide ((bytesOf b).length + 10 ≤ 140737488355328), Nat.ble b.size maxLen]) (by kernel_rfl) (allI ?_)) (by
      show vS _ = vS _
      rw [List.append_assoc, strApp, strBytes]; rfl)
  have g1 : (Nat.ble (((bytesOf b ++ varP 10 v.toNat).length + 1) * 1) 140737488355328 && Nat.ble ((bytesOf b ++ varP 10 v.toNat).length + 1) maxLen) = true := by
    simp only [Bool.and_eq_true, Nat.ble_eq, List.length_append, maxLen]; omega
  have g2 : Nat.ble b.size maxLen = true := by simp only [Nat.ble_eq, maxLen]; omega
  rw [g1, g2, decide_eq_true h.1, decide_eq_true h.2, Nat.beq_refl, decide_eq_true (show (bytesOf b).length + 10 ≤ 140737488355328 by omega)]
  rfl
noncomputable def EPn : Env Tryz.prog := (E0.addT1 107 [.one .str, .one cU] (fun d => vS (ByteArray.append d.1 (strOfNums (numB d.2.1.toNat)))) (fun d => [uOk d.2.1, decide (ByteArray.size d.1 + 20 ≤ 140737488355328)]) fun d hc => by
    obtain ⟨h1, hc⟩ := of_allTc hc
    exact putnum_pure d.1 d.2.1 h1 (of_decide_eq_true (of_allTc hc).1)).addT1
  112 [.one cU] (fun d => vS (strOfNums (numB d.1.toNat))) (fun d => [uOk d.1]) fun d hc => number_pure d.1 (of_allTc hc).1
end Go.Proofs.YtjplobgambnhjaaGreat
