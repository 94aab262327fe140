/- The newest cell of a place; equal lists of cells: contracts; no statement. -/
import Derived.Test.YtolhkkoakneflaaMn
set_option linter.unusedVariables false
set_option linter.unusedSimpArgs false
namespace Go.Proofs.Ytolhkkoakneflaa
open Go Go.Eng

abbrev eB : ByteArray := ByteArray.mk #[]
theorem emp {s : ByteArray} (h0 : s.size = 0) : s = ByteArray.mk #[] := by
  cases s with
  | mk a => cases a with | mk l => cases l with
    | nil => rfl
    | cons x xs => simp [ByteArray.size] at h0
def isZ5 : List AC → Bool
  | [.str a, .str b, .int .u64 n, .bool g, .str v] => Nat.beq a.size 0 && (Nat.beq b.size 0 && (decide (n = 0) && (!g && Nat.beq v.size 0)))
  | _ => false
def isZ6 : List AC → Bool
  | [.str a, .str b, .int .u64 n, .bool g, .str v, .bool s] => Nat.beq a.size 0 && (Nat.beq b.size 0 && (decide (n = 0) && (!g && (Nat.beq v.size 0 && !s))))
  | _ => false
theorem isZ5_eq {l : List AC} (h : isZ5 l = true) : l = [.str eB, .str eB, .int .u64 0, .bool false, .str eB] := by
  unfold isZ5 at h
  split at h
  · rename_i a b n g v
    simp only [Bool.and_eq_true, Nat.beq_eq, decide_eq_true_eq, Bool.not_eq_true'] at h
    obtain ⟨h1, h2, h3, h4, h5⟩ := h
    rw [emp h1, emp h2, h3, h4, emp h5]
  · cases h
theorem isZ6_eq {l : List AC} (h : isZ6 l = true) : l = [.str eB, .str eB, .int .u64 0, .bool false, .str eB, .bool false] := by
  unfold isZ6 at h
  split at h
  · rename_i a b n g v s
    simp only [Bool.and_eq_true, Nat.beq_eq, decide_eq_true_eq, Bool.not_eq_true'] at h
    obtain ⟨h1, h2, h3, h4, h5, h6⟩ := h
    rw [emp h1, emp h2, h3, h4, emp h5, h6]
  · cases h
noncomputable def EMn0 : Env Try.prog := E0.addL 23 3 lNew_eq 38 [10] [8, 9, 3, 5] (by kernel_rfl)
  (fun vals rov hp os => match vals, rov, hp with
    | [.one (.int .i64 z)], [.one (.sl (.pair .str (.pair .str (.pair (.int .u64) (.pair .bool (.pair .str .unit))))) l .shared), .one (.int .i64 n), .one (.ptr 0 0), .one (.ptr 2 0)], [.cells [.str r, .str c], .cells z1, .cells z2] =>
      retC (.exit 0, [vX], hpN l r c l.length) [decide (z = 0), decide (n = l.length), decide (l.length ≤ maxLen), isZ6 z1, isZ6 z2] os
    | _, _, _ => none)
  (fun vals rov hp os e outs hp' cs os' h hc => by
    split at h
    · rename_i z l n r c z1 z2
      simp only [retC, Option.some.injEq, Prod.mk.injEq] at h
      obtain ⟨⟨rfl, rfl, rfl⟩, rfl, rfl⟩ := h
      obtain ⟨h1, hc⟩ := of_allTc hc
      obtain ⟨h2, hc⟩ := of_allTc hc
      obtain ⟨h3, hc⟩ := of_allTc hc
      obtain ⟨h4, hc⟩ := of_allTc hc
      obtain ⟨h5, _⟩ := of_allTc hc
      simp only [decide_eq_true_eq] at h1 h2 h3
      subst h1; subst h2
      rw [isZ6_eq h4, isZ6_eq h5]
      exact new_loop l h3 r c
    · cases h)
noncomputable def EMn1 : Env Try.prog := EMn0.addL 27 4 lRNew_eq 54 [9, 8] [0, 1, 2, 7] (by kernel_rfl)
  (fun vals rov hp os => match vals, rov, hp with
    | [.one (.int .i64 z), .one (.bool b)], [.one (.sl (.pair .str (.pair .str (.pair (.int .u64) (.pair .bool (.pair .str .unit))))) l .shared), .one (.str r), .one (.str c), .one (.ptr 1 0)], [.cells z1, .cells z2] =>
      retC (.exit 0, [vX, vB (nst l r c l.length).2], hpR l r c l.length) [decide (z = 0), !b, decide (l.length ≤ maxLen), isZ5 z1, isZ5 z2] os
    | _, _, _ => none)
  (fun vals rov hp os e outs hp' cs os' h hc => by
    split at h
    · rename_i z b l r c z1 z2
      simp only [retC, Option.some.injEq, Prod.mk.injEq] at h
      obtain ⟨⟨rfl, rfl, rfl⟩, rfl, rfl⟩ := h
      obtain ⟨h1, hc⟩ := of_allTc hc
      obtain ⟨h2, hc⟩ := of_allTc hc
      obtain ⟨h3, hc⟩ := of_allTc hc
      obtain ⟨h4, hc⟩ := of_allTc hc
      obtain ⟨h5, _⟩ := of_allTc hc
      simp only [decide_eq_true_eq, Bool.not_eq_true'] at h1 h2 h3
      subst h1; subst h2
      rw [isZ5_eq h4, isZ5_eq h5]
      exact rnew_loop l h3 r c
    · cases h)
noncomputable def EMn2 : Env Try.prog := EMn1.addL 14 4 lSm_eq 26 [5, 4] [0, 1] (by kernel_rfl)
  (fun vals rov hp os => match vals, rov, hp with
    | [.one (.int .i64 z), .one (.bool b)], [.one (.sl (.pair .str (.pair .str (.pair (.int .u64) (.pair .bool (.pair .str .unit))))) l .shared), .one (.sl (.pair .str (.pair .str (.pair (.int .u64) (.pair .bool (.pair .str .unit))))) m .shared)], [] =>
      brL (sameK l m l.length) os
        (fun os => retC (.exit 0, [vX, vB false], []) [decide (z = 0), !b, decide (m.length = l.length), decide (l.length ≤ maxLen)] os)
        (fun os => retC (.ret, [vX, vB false], []) [decide (z = 0), !b, decide (m.length = l.length), decide (l.length ≤ maxLen)] os)
    | _, _, _ => none)
  (fun vals rov hp os e outs hp' cs os' h hc => by
    split at h
    · rename_i z b l m
      rcases brL_some h hc with ⟨hb, o, c, h, hc⟩ | ⟨hb, o, c, h, hc⟩
      all_goals
        simp only [retC, Option.some.injEq, Prod.mk.injEq] at h
        obtain ⟨⟨rfl, rfl, rfl⟩, rfl, rfl⟩ := h
        obtain ⟨h1, hc⟩ := of_allTc hc
        obtain ⟨h2, hc⟩ := of_allTc hc
        obtain ⟨h3, hc⟩ := of_allTc hc
        obtain ⟨h4, _⟩ := of_allTc hc
        simp only [decide_eq_true_eq, Bool.not_eq_true'] at h1 h2 h3 h4
        subst h1; subst h2
      · exact (same_loop l m h3 h4).1 hb
      · exact (same_loop l m h3 h4).2 hb
    · cases h)
end Go.Proofs.Ytolhkkoakneflaa
