/- QuorumReached, its loops; no statement. -/
import Derived.Test.YtcigjehfmiiolaaQcou
set_option linter.unusedVariables false
namespace Go.Proofs.Ytcigjehfmiiolaa
open Go Go.Eng

def mm5 (m0 m1 m2 m3 m4 : Int) : List Int := [m0, m1, m2, m3, m4]
def cM (m0 m1 m2 m3 m4 : Int) : AB := .cells [.int .u64 m0, .int .u64 m1, .int .u64 m2, .int .u64 m3, .int .u64 m4]
def pk5 (m0 m1 m2 m3 m4 : Int) (k : Nat) : Int := bif decide ((k : Int) = 0) then m0 else bif decide ((k : Int) = ((0 + 1 : Nat) : Int)) then m1 else bif decide ((k : Int) = ((0 + 1 + 1 : Nat) : Int)) then m2 else bif decide ((k : Int) = ((0 + 1 + 1 + 1 : Nat) : Int)) then m3 else m4
theorem pk_take (m0 m1 m2 m3 m4 : Int) : ∀ {k : Nat}, k < 5 → (mm5 m0 m1 m2 m3 m4).take (k + 1) = (mm5 m0 m1 m2 m3 m4).take k ++ [pk5 m0 m1 m2 m3 m4 k]
  | 0, _ => rfl
  | 1, _ => rfl
  | 2, _ => rfl
  | 3, _ => rfl
  | 4, _ => rfl
  | k + 5, h => by omega

noncomputable def lRa : Code := (theLoop Try.prog 4 4).getD .skip
theorem lRa_eq : theLoop Try.prog 4 4 = some lRa := by kernel_rfl

theorem ra_grow (m0 m1 m2 m3 m4 : Int) (a : List Int) (sm : SM) (h5 : a.length ≤ 5) :
    LoopOk Try.prog lRa 105 [8, 9] [4, 7] [.one (.sl cU [] (.own 1 strictV)), vI 0] [.one (.ptr 0 0), .one (.sl cI a sm)] [cM m0 m1 m2 m3 m4, .tok 24 strictV] (.exit 0)
      [.one (.sl cU ((mm5 m0 m1 m2 m3 m4).take a.length) (.own 1 (strictV + a.length))), vX] [cM m0 m1 m2 m3 m4, .tok 24 (strictV + a.length)] := by
  refine LoopOk.rounds (S := Nat) E0 lRa_eq (by kernel_rfl) (fun k => [.one (.sl cU ((mm5 m0 m1 m2 m3 m4).take k) (.own 1 (strictV + k))), vI k]) (fun k => [cM m0 m1 m2 m3 m4, .tok 24 (strictV + k)]) (fun k => k ≤ a.length) (fun k => a.length - k) 0 (Nat.zero_le _) ?_ (fun _ _ => rfl)
  intro k hk
  by_cases hlt : k < a.length
  · refine OneRound.go [true, false, false, false, false, false, false] (vs := [.one (.sl cU ((mm5 m0 m1 m2 m3 m4).take k ++ [pk5 m0 m1 m2 m3 m4 k]) (.own 1 (strictV + k + 1))), vI (IntKind.i64.wrap ((k : Int) + 1))]) (hp' := [cM m0 m1 m2 m3 m4, .tok 24 (strictV + k + 1)])
      (cs := [Nat.beq (strictV + k) (strictV + k), Nat.ble ((((mm5 m0 m1 m2 m3 m4).take k).length + 1) * 8) 140737488355328 && Nat.ble (((mm5 m0 m1 m2 m3 m4).take k).length + 1) maxLen, false == false, inB (k : Int) 5, decide ((k : Int) < (a.length : Nat)) == true])
      (fun rest => by kernel_rfl) (allTc (Nat.beq_refl _) (allTc ?_ (allTc rfl (allTc (inB_of (by omega) (by omega)) (allT1 (dT (by omega))))))) (k + 1) (by show k + 1 ≤ a.length; omega) (by show a.length - (k + 1) < a.length - k; omega) ⟨.of_eq ?_, .of_eq ?_, trivial⟩ rfl (.inl (Nat.le_refl _))
    · have : ((mm5 m0 m1 m2 m3 m4).take k).length ≤ 5 := by rw [List.length_take]; exact Nat.min_le_right _ _
      simp only [Bool.and_eq_true, Nat.ble_eq, maxLen]
      omega
    · rw [pk_take m0 m1 m2 m3 m4 (by omega : k < 5)]; rfl
    · rw [wrap64 (by omega) (by omega)]; rfl
  · have hk' : k = a.length := by omega
    subst hk'
    exact OneRound.stop [false] (vs := [.one (.sl cU ((mm5 m0 m1 m2 m3 m4).take a.length) (.own 1 (strictV + a.length))), vI a.length]) (hp' := [cM m0 m1 m2 m3 m4, .tok 24 (strictV + a.length)]) (cs := [decide ((a.length : Int) < (a.length : Nat)) == false])
      (fun rest => by kernel_rfl) (allT1 (dF (by omega))) (by simp) ⟨.refl, .unk, trivial⟩ rfl (.inl (Nat.le_refl _))

theorem ra_loop (m0 m1 m2 m3 m4 : Int) (a : List Int) (h0 : 0 < a.length) (h5 : a.length ≤ 5) :
    LoopOk Try.prog lRa 105 [8, 9] [4, 7] [.one .nils, vI 0] [.one (.ptr 0 0), .one (.sl cI a .shared)] [cM m0 m1 m2 m3 m4] (.exit 0)
      [.one (.msl cU 1 0 ((mm5 m0 m1 m2 m3 m4).take a.length).length), vX] [cM m0 m1 m2 m3 m4, .arr cU ((mm5 m0 m1 m2 m3 m4).take a.length)] := by
  refine LoopOk.thaw (hp := [cM m0 m1 m2 m3 m4]) (hp1 := [cM m0 m1 m2 m3 m4]) (vals1 := [.one .nils, vI 0]) (vals' := [.one (.sl cU [] (.own 1 strictV)), vI 0]) (rov1 := [.one (.ptr 0 0), .one (.sl cI a .shared)]) 24 (row := cU) (l := (mm5 m0 m1 m2 m3 m4).take a.length)
    (outs' := [.one (.sl cU ((mm5 m0 m1 m2 m3 m4).take a.length) (.own 1 (strictV + a.length))), vX]) (v := strictV + a.length) (s := 8) (by kernel_rfl) rfl rfl rfl rfl rfl ⟨.nils_own rfl, .refl, trivial⟩ (fun ys => ?_) rfl rfl (fun b hb => ?_) (fun _ _ => trivial) ?_ ⟨.inr ⟨rfl, rfl⟩, .inl ⟨rfl, _, rfl, rfl⟩, trivial⟩ rfl rfl rfl
  · have e : ∃ sm, pins [.one (.ptr 0 0), .one (.sl cI a .shared)] ys = [.one (.ptr 0 0), .one (.sl cI a sm)] := by
      rcases ys with _ | ⟨y, _ | ⟨y2, ys⟩⟩
      · exact ⟨_, rfl⟩
      · exact ⟨.shared, by cases y <;> rfl⟩
      · cases y2 <;> first | exact ⟨_, by cases y <;> rfl⟩ 
    obtain ⟨sm, e⟩ := e
    rw [e]
    exact ra_grow m0 m1 m2 m3 m4 a sm h5
  · rw [List.mem_singleton.1 hb]; exact (rfl : [AC.int .u64 m0, .int .u64 m1, .int .u64 m2, .int .u64 m3, .int .u64 m4].all stC = true)
  · rw [List.length_take]
    show 0 < min a.length 5
    omega

def selI (p : Int → Bool) (l a : List Int) : Nat → List Int
  | 0 => []
  | k + 1 => selI p l a k ++ (bif p (l.getD k 0) then [a.getD k 0] else [])
theorem selI_len (p : Int → Bool) (l a : List Int) : ∀ k, (selI p l a k).length ≤ k
  | 0 => Nat.le_refl _
  | k + 1 => by
    have := selI_len p l a k
    rw [selI, List.length_append]
    cases p (l.getD k 0) <;> simp <;> omega
def geC (c x : Int) : Bool := decide (x ≥ c)
def gtC (c x : Int) : Bool := decide (x > c)

noncomputable def lRb : Code := (theLoop Try.prog 4 10).getD .skip
theorem lRb_eq : theLoop Try.prog 4 10 = some lRb := by kernel_rfl
def tk2 (m0 m1 m2 m3 m4 : Int) (l p q : List Int) : List AB := [cM m0 m1 m2 m3 m4, .arr cU l, .tok 3 p.length, .tok 3 q.length]

theorem rb_loop (m0 m1 m2 m3 m4 c : Int) (l a : List Int) (hl : l.length = a.length) (h5 : a.length ≤ 5) :
    LoopOk Try.prog lRb 105 [11, 12, 13] [7, 8, 10] [.one .nils, .one .nils, vI 0] [.one (.sl cI a .shared), .one (.msl cU 1 0 l.length), vU c] [cM m0 m1 m2 m3 m4, .arr cU l] (.exit 2)
      [.one (.sl cI (selI (geC c) l a a.length) .shared), .one (.sl cI (selI (gtC c) l a a.length) .shared), vX] (tk2 m0 m1 m2 m3 m4 l (selI (geC c) l a a.length) (selI (gtC c) l a a.length)) := by
  refine LoopOk.coin (hp := [cM m0 m1 m2 m3 m4, .arr cU l]) (vals' := [.one (.sl cI [] (.own 2 0)), .one .nils, vI 0]) 3 ⟨.nils_own rfl, .refl, .refl, trivial⟩ ?_
  refine LoopOk.coin (hp := [cM m0 m1 m2 m3 m4, .arr cU l, .tok 3 0]) (vals' := [.one (.sl cI [] (.own 2 0)), .one (.sl cI [] (.own 3 0)), vI 0]) 3 ⟨.refl, .nils_own rfl, .refl, trivial⟩ ?_
  refine LoopOk.rounds (S := Nat) E0 lRb_eq (by kernel_rfl) (fun k => [.one (.sl cI (selI (geC c) l a k) (.own 2 (selI (geC c) l a k).length)), .one (.sl cI (selI (gtC c) l a k) (.own 3 (selI (gtC c) l a k).length)), vI k])
    (fun k => tk2 m0 m1 m2 m3 m4 l (selI (geC c) l a k) (selI (gtC c) l a k)) (fun k => k ≤ a.length) (fun k => a.length - k) 0 (Nat.zero_le _) ?_ (fun _ _ => rfl)
  intro k hk
  by_cases hlt : k < a.length
  · have hi : inB (k : Int) a.length = true := inB_of (by omega) (by omega)
    have hj : inB (k : Int) l.length = true := inB_of (by omega) (by omega)
    have hd : decide ((k : Int) < (a.length : Nat)) = true := decide_eq_true (by omega)
    have hw : IntKind.i64.wrap ((k : Int) + 1) = ((k + 1 : Nat) : Int) := by rw [wrap64 (by omega) (by omega)]; rfl
    have hp := selI_len (geC c) l a k
    have hq := selI_len (gtC c) l a k
    have b1 : (Nat.ble (((selI (geC c) l a k).length + 1) * 8) 140737488355328 && Nat.ble ((selI (geC c) l a k).length + 1) maxLen) = true := by
      simp only [Bool.and_eq_true, Nat.ble_eq, maxLen]; omega
    have b2 : (Nat.ble (((selI (gtC c) l a k).length + 1) * 8) 140737488355328 && Nat.ble ((selI (gtC c) l a k).length + 1) maxLen) = true := by
      simp only [Bool.and_eq_true, Nat.ble_eq, maxLen]; omega
    by_cases h1 : l.getD k 0 ≥ c
    · have s1 : selI (geC c) l a (k + 1) = selI (geC c) l a k ++ [a.getD k 0] := by rw [selI, geC, decide_eq_true h1]; rfl
      have d1 : decide (l.getD (0 + k) 0 ≥ c) = true := decide_eq_true (by rw [Nat.zero_add]; exact h1)
      by_cases h2 : l.getD k 0 > c
      · have s2 : selI (gtC c) l a (k + 1) = selI (gtC c) l a k ++ [a.getD k 0] := by rw [selI, gtC, decide_eq_true h2]; rfl
        have d2 : decide (l.getD (0 + k) 0 > c) = true := decide_eq_true (by rw [Nat.zero_add]; exact h2)
        refine OneRound.go [true, true, false, true, false] (vs := [.one (.sl cI (selI (geC c) l a k ++ [a.getD k 0]) (.own 2 ((selI (geC c) l a k).length + 1))), .one (.sl cI (selI (gtC c) l a k ++ [a.getD k 0]) (.own 3 ((selI (gtC c) l a k).length + 1))), vI (IntKind.i64.wrap ((k : Int) + 1))])
          (hp' := [cM m0 m1 m2 m3 m4, .arr cU l, .tok 3 ((selI (geC c) l a k).length + 1), .tok 3 ((selI (gtC c) l a k).length + 1)])
          (cs := [Nat.beq (selI (gtC c) l a k).length (selI (gtC c) l a k).length, Nat.ble (((selI (gtC c) l a k).length + 1) * 8) 140737488355328 && Nat.ble ((selI (gtC c) l a k).length + 1) maxLen, false == false, inB (k : Int) a.length, decide (l.getD (0 + k) 0 > c) == true, inB (k : Int) l.length,
            Nat.beq (selI (geC c) l a k).length (selI (geC c) l a k).length, Nat.ble (((selI (geC c) l a k).length + 1) * 8) 140737488355328 && Nat.ble ((selI (geC c) l a k).length + 1) maxLen, false == false, inB (k : Int) a.length, decide (l.getD (0 + k) 0 ≥ c) == true, inB (k : Int) l.length, decide ((k : Int) < (a.length : Nat)) == true])
          (fun rest => by kernel_rfl) (allI (by rw [b1, b2, hi, hj, hd, d1, d2]; simp)) (k + 1) (by show k + 1 ≤ a.length; omega) (by show a.length - (k + 1) < a.length - k; omega) ⟨.of_eq ?_, .of_eq ?_, .of_eq ?_, trivial⟩ ?_ (.inl (Nat.le_refl _))
        · rw [s1, List.length_append]; rfl
        · rw [s2, List.length_append]; rfl
        · rw [hw]
        · show _ = tk2 m0 m1 m2 m3 m4 l (selI (geC c) l a (k + 1)) (selI (gtC c) l a (k + 1))
          simp only [s1, s2, tk2, List.length_append, List.length_singleton]; rfl
      · have s2 : selI (gtC c) l a (k + 1) = selI (gtC c) l a k := by rw [selI, gtC, decide_eq_false h2]; simp
        have d2 : decide (l.getD (0 + k) 0 > c) = false := decide_eq_false (by rw [Nat.zero_add]; exact h2)
        refine OneRound.go [true, true, false, false, false] (vs := [.one (.sl cI (selI (geC c) l a k ++ [a.getD k 0]) (.own 2 ((selI (geC c) l a k).length + 1))), .one (.sl cI (selI (gtC c) l a k) (.own 3 (selI (gtC c) l a k).length)), vI (IntKind.i64.wrap ((k : Int) + 1))])
          (hp' := [cM m0 m1 m2 m3 m4, .arr cU l, .tok 3 ((selI (geC c) l a k).length + 1), .tok 3 (selI (gtC c) l a k).length])
          (cs := [decide (l.getD (0 + k) 0 > c) == false, inB (k : Int) l.length,
            Nat.beq (selI (geC c) l a k).length (selI (geC c) l a k).length, Nat.ble (((selI (geC c) l a k).length + 1) * 8) 140737488355328 && Nat.ble ((selI (geC c) l a k).length + 1) maxLen, false == false, inB (k : Int) a.length, decide (l.getD (0 + k) 0 ≥ c) == true, inB (k : Int) l.length, decide ((k : Int) < (a.length : Nat)) == true])
          (fun rest => by kernel_rfl) (allI (by rw [b1, hi, hj, hd, d1, d2]; simp)) (k + 1) (by show k + 1 ≤ a.length; omega) (by show a.length - (k + 1) < a.length - k; omega) ⟨.of_eq ?_, .of_eq ?_, .of_eq ?_, trivial⟩ ?_ (.inl (Nat.le_refl _))
        · rw [s1, List.length_append]; rfl
        · rw [s2]
        · rw [hw]
        · show _ = tk2 m0 m1 m2 m3 m4 l (selI (geC c) l a (k + 1)) (selI (gtC c) l a (k + 1))
          simp only [s1, s2, tk2, List.length_append, List.length_singleton]; rfl
    · have h2 : ¬ l.getD k 0 > c := by omega
      have s1 : selI (geC c) l a (k + 1) = selI (geC c) l a k := by rw [selI, geC, decide_eq_false h1]; simp
      have d1 : decide (l.getD (0 + k) 0 ≥ c) = false := decide_eq_false (by rw [Nat.zero_add]; exact h1)
      have s2 : selI (gtC c) l a (k + 1) = selI (gtC c) l a k := by rw [selI, gtC, decide_eq_false h2]; simp
      have d2 : decide (l.getD (0 + k) 0 > c) = false := decide_eq_false (by rw [Nat.zero_add]; exact h2)
      refine OneRound.go [true, false, false, false, false] (vs := [.one (.sl cI (selI (geC c) l a k) (.own 2 (selI (geC c) l a k).length)), .one (.sl cI (selI (gtC c) l a k) (.own 3 (selI (gtC c) l a k).length)), vI (IntKind.i64.wrap ((k : Int) + 1))])
        (hp' := [cM m0 m1 m2 m3 m4, .arr cU l, .tok 3 (selI (geC c) l a k).length, .tok 3 (selI (gtC c) l a k).length])
        (cs := [decide (l.getD (0 + k) 0 > c) == false, inB (k : Int) l.length, decide (l.getD (0 + k) 0 ≥ c) == false, inB (k : Int) l.length, decide ((k : Int) < (a.length : Nat)) == true])
        (fun rest => by kernel_rfl) (allI (by rw [hj, hd, d1, d2]; simp)) (k + 1) (by show k + 1 ≤ a.length; omega) (by show a.length - (k + 1) < a.length - k; omega) ⟨.of_eq ?_, .of_eq ?_, .of_eq ?_, trivial⟩ ?_ (.inl (Nat.le_refl _))
      · rw [s1]
      · rw [s2]
      · rw [hw]
      · show _ = tk2 m0 m1 m2 m3 m4 l (selI (geC c) l a (k + 1)) (selI (gtC c) l a (k + 1))
        simp only [s1, s2, tk2]; rfl
  · have hk' : k = a.length := by omega
    refine OneRound.stop [false] (vs := [.one (.sl cI (selI (geC c) l a k) (.own 2 (selI (geC c) l a k).length)), .one (.sl cI (selI (gtC c) l a k) (.own 3 (selI (gtC c) l a k).length)), vI k])
      (hp' := [cM m0 m1 m2 m3 m4, .arr cU l, .tok 3 (selI (geC c) l a k).length, .tok 3 (selI (gtC c) l a k).length]) (cs := [decide ((k : Int) < (a.length : Nat)) == false])
      (fun rest => by kernel_rfl) (allT1 (dF (by omega))) (by simp) ?_ ?_ (.inl (Nat.le_refl _))
    · rw [← hk']; exact ⟨.shared, .shared, .unk, trivial⟩
    · rw [← hk']; rfl
end Go.Proofs.Ytcigjehfmiiolaa
