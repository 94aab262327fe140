/- A number taken from bytes: the contract; the way back; no statement. -/
import Derived.Test.YtiodkcnponhhgaaGreatDtk
set_option linter.unusedVariables false
namespace Go.Proofs.YtiodkcnponhhgaaGreat
open Go Go.Eng

noncomputable def ETk0 : Env Tryz.prog := E0.addLT 103 3 lTk_eq 50 [9, 4, 2, 3] [0, 7, 8] (by kernel_rfl) [.one cI, .one cU, .one cU, .one cI] [.one .str, .one .str, .one cI]
  (fun (k, v, a, b, _) (s, s', n, _) hp os => brL (decide ((numD s 10 0 0).2 = 0)) os
    (fun os => retC (.exit 0, [vX, vX, vU 0, vI 0], []) [decide (k = 0), decide (v = 0), decide (a = 0), decide (b = 0), decide (s'.data = s.data), decide (n = s.size), hp.isEmpty] os)
    (fun os => retC (.ret, [vX, vX, vU (numD s 10 0 0).1, vI (numD s 10 0 0).2], []) [decide (k = 0), decide (v = 0), decide (a = 0), decide (b = 0), decide (s'.data = s.data), decide (n = s.size), hp.isEmpty] os))
  (fun (k, v, a, b, _) (s, s', n, _) hp os e outs hp' cs os' h hc => by
    rcases brL_some h hc with ⟨hb, o, c, h, hc⟩ | ⟨hb, o, c, h, hc⟩
    all_goals
      simp only [retC, Option.some.injEq, Prod.mk.injEq] at h
      obtain ⟨⟨rfl, rfl, rfl⟩, rfl, rfl⟩ := h
      obtain ⟨h1, hc⟩ := of_allTc hc
      obtain ⟨h2, hc⟩ := of_allTc hc
      obtain ⟨h3, hc⟩ := of_allTc hc
      obtain ⟨h4, hc⟩ := of_allTc hc
      obtain ⟨h5, hc⟩ := of_allTc hc
      obtain ⟨h6, hc⟩ := of_allTc hc
      obtain ⟨h7, _⟩ := of_allTc hc
      have h7 := List.isEmpty_iff.1 h7
      simp only [decide_eq_true_eq] at h1 h2 h3 h4 h5 h6
      have h5 : s' = s := ByteArray.ext h5
      subst h1; subst h2; subst h3; subst h4; subst h5; subst h6; subst h7
      first | exact (tk_loop s').2 (of_decide_eq_true hb) | exact (tk_loop s').1 (of_decide_eq_false hb))
def numV (s : ByteArray) : Int := (numD s 10 0 0).1
def numN (s : ByteArray) : Int := (numD s 10 0 0).2
abbrev tupN (v n : Int) : AV := .tup [(false, [.int .u64 v]), (false, [.int .i64 n])]
theorem numD_zero (s : ByteArray) : ∀ f k v, (numD s f k v).2 = 0 → (numD s f k v).1 = 0
  | 0, _, _, _ => rfl
  | f + 1, k, v, h => by
    unfold numD at h ⊢
    split at h
    · split at h
      · rw [if_pos (by assumption), if_pos (by assumption)]
      · split at h
        · rw [if_pos (by assumption), if_neg (by assumption), if_pos (by assumption)]
          exact numD_zero s f _ _ h
        · split at h
          · rw [if_pos (by assumption), if_neg (by assumption), if_neg (by assumption), if_pos (by assumption)]
          · exact absurd h (by simp)
    · rw [if_neg (by assumption)]
theorem number_take (s : ByteArray) : PureCall Tryz.prog 103 [vS s] (tupN (numV s) (numN s)) := by
  unfold numV numN
  by_cases h : (numD s 10 0 0).2 = 0
  · refine PureCall.res (ETk0.pure_ok (os := [true]) (r := tupN 0 0) (cs := [decide ((0 : Int) = 0), decide ((0 : Int) = 0), decide ((0 : Int) = 0), decide ((0 : Int) = 0), decide (s.data = s.data), decide (((s.size : Nat) : Int) = s.size), true, decide ((numD s 10 0 0).2 = 0) == true]) (by kernel_rfl) (allI (by simp [h]))) ?_
    rw [h, numD_zero s 10 0 0 h]; rfl
  · exact ETk0.pure_ok (os := [false]) (cs := [decide ((0 : Int) = 0), decide ((0 : Int) = 0), decide ((0 : Int) = 0), decide ((0 : Int) = 0), decide (s.data = s.data), decide (((s.size : Nat) : Int) = s.size), true, decide ((numD s 10 0 0).2 = 0) == false]) (by kernel_rfl) (allI (by simp [h]))
noncomputable def ETk : Env Tryz.prog := EWn.addT1 103 [.one .str] (fun d => tupN (numV d.1) (numN d.1)) (fun _ => []) fun d _ => number_take d.1

end Go.Proofs.YtiodkcnponhhgaaGreat
