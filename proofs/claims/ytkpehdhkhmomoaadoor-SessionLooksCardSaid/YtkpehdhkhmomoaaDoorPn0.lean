/- Numbers as bytes: the loops' contracts; no statement. -/
import Derived.Test.YtkpehdhkhmomoaaDoorNum
set_option linter.unusedVariables false
namespace Go.Proofs.YtkpehdhkhmomoaaDoor
open Go Go.Eng

noncomputable def EPn0 : Env Tryd.prog := (E0.addL 17 2 lPut_eq 24 [5, 1] [] (by kernel_rfl)
  (fun vals rov hp os => match vals, rov, hp with
    | [.one (.sl (.int .u8) l (.own 0 0)), .one (.int .u64 v)], [], [.tok 5 0] =>
      retC (.exit 0, [.one (.sl cB (l ++ varP 10 v.toNat) (.own 0 (varP 10 v.toNat).length)), vU (varE 10 v.toNat)], [.tok 5 (varP 10 v.toNat).length]) [decide (0 ≤ v), decide (v < 18446744073709551616), decide (l.length + 10 ≤ 140737488355328)] os
    | _, _, _ => none)
  (fun vals rov hp os e outs hp' cs os' h hc => by
    split at h
    · rename_i l v
      simp only [retC, Option.some.injEq, Prod.mk.injEq] at h
      obtain ⟨⟨rfl, rfl, rfl⟩, rfl, rfl⟩ := h
      obtain ⟨h1, hc⟩ := of_allTc hc
      obtain ⟨h2, hc⟩ := of_allTc hc
      obtain ⟨h3, _⟩ := of_allTc hc
      simp only [decide_eq_true_eq] at h1 h2 h3
      obtain ⟨n, rfl⟩ : ∃ n : Nat, v = Int.ofNat n := ⟨v.toNat, (Int.toNat_of_nonneg h1).symm⟩
      exact put_loop l n (Int.ofNat_lt.1 h2) h3
    · cases h)).addL 33 2 lNum_eq 22 [3, 0] [] (by kernel_rfl)
  (fun vals rov hp os => match vals, rov, hp with
    | [.one (.str s), .one (.int .u64 v)], [], [] => retC (.exit 0, [vS (strOfNums (varP 10 v.toNat)), vU (varE 10 v.toNat)], []) [decide (0 ≤ v), decide (v < 18446744073709551616), Nat.beq s.size 0] os
    | _, _, _ => none)
  (fun vals rov hp os e outs hp' cs os' h hc => by
    split at h
    · rename_i s v
      simp only [retC, Option.some.injEq, Prod.mk.injEq] at h
      obtain ⟨⟨rfl, rfl, rfl⟩, rfl, rfl⟩ := h
      obtain ⟨h1, hc⟩ := of_allTc hc
      obtain ⟨h2, hc⟩ := of_allTc hc
      obtain ⟨h3, _⟩ := of_allTc hc
      simp only [decide_eq_true_eq, Nat.beq_eq] at h1 h2 h3
      obtain ⟨n, rfl⟩ : ∃ n : Nat, v = Int.ofNat n := ⟨v.toNat, (Int.toNat_of_nonneg h1).symm⟩
      have e : s = ByteArray.empty := by
        apply ByteArray.ext
        exact Array.eq_empty_of_size_eq_zero h3
      subst e
      exact num_loop n (Int.ofNat_lt.1 h2)
    · cases h)
end Go.Proofs.YtkpehdhkhmomoaaDoor
