/- Commit: the contracts; no statement. -/
import Derived.Test.YtcigjehfmiiolaaQcin
import Derived.Test.YtcigjehfmiiolaaQmq
set_option linter.unusedVariables false
namespace Go.Proofs.Ytcigjehfmiiolaa
open Go Go.Eng

theorem commit_pure (l m : List Int) : PureCall Try.prog 10 [vL cI l, vL cU m] (vU (comI l m)) := by
  unfold comI
  cases h : mayB l with
  | false => exact ESrt.pure_ok (os := [true]) (cs := [((chkI l != 0) == true)]) (by kernel_rfl) (allI (by simp [chk_no h]))
  | true =>
    have hl := may_len h
    have hp : l.length = 1 ∨ l.length = 2 ∨ l.length = 3 ∨ l.length = 4 ∨ l.length = 5 := by omega
    have hmost : IntKind.i64.wrap (mostI l - 1) = ((l.length / 2 : Nat) : Int) := by rw [most_eq hl.2, wrap64 (by omega) (by omega)]; omega
    refine PureCall.res (ESrt.pure_ok (os := [false, true]) (r := (.one (.int .u64 ((ins (List.take 0 (List.replicate l.length 0) ++ (List.take (m.length.min l.length) m ++ List.drop (0 + (List.take (m.length.min l.length) m).length) (List.replicate l.length 0))) (l.length - 1)).getD (0 + (IntKind.i64.wrap (mostI l - 1)).toNat) 0)))) (cs := [(inB (IntKind.i64.wrap (mostI l - 1)) l.length), (decide (1 = 1)), (decide (((l.length : Nat) : Int) = ((l.length : Nat) : Int))), (decide (l.length = l.length)), (decide (0 = 0)), (decide (l.length = (List.take 0 (List.replicate l.length 0) ++ (List.take (m.length.min l.length) m ++ List.drop (0 + (List.take (m.length.min l.length) m).length) (List.replicate l.length 0))).length)), (decide (0 < l.length)), (decide (l.length ≤ 9223372036854775807)), (decide (IntKind.i64.wrap (((l.length : Nat) : Int) - 0) ≤ 12) == true), (decide (0 ≤ IntKind.u64.wrap ((l.length : Nat) : Int))), (decide (IntKind.u64.wrap ((l.length : Nat) : Int) ≤ 5)), (decide (0 ≤ ((l.length : Nat) : Int) ∧ ((l.length : Nat) : Int) ≤ ((l.length : Nat) : Int) ∧ 8 * ((l.length : Nat) : Int) ≤ 281474976710656 ∧ ((l.length : Nat) : Int) ≤ 9223372036854775807)), ((chkI l != 0) == false)]) (by kernel_rfl) (allI ?_)) ?_
    · have e := madeU l.length m
      have w1 : IntKind.i64.wrap (((l.length : Nat) : Int) - 0) = ((l.length : Nat) : Int) := by rw [wrap64 (by omega) (by omega)]; omega
      have w2 : IntKind.u64.wrap ((l.length : Nat) : Int) = ((l.length : Nat) : Int) := wrapU64 (by omega) (by omega)
      have i1 : inB (((l.length / 2 : Nat) : Int)) l.length = true := inB_of (by omega) (by omega)
      have g1 : decide (((l.length : Nat) : Int) ≤ 12) = true := decide_eq_true (by omega)
      have g2 : decide (((l.length : Nat) : Int) ≤ 5) = true := decide_eq_true (by omega)
      have g3 : decide ((0 : Int) ≤ ((l.length : Nat) : Int)) = true := decide_eq_true (by omega)
      have g4 : decide (0 < l.length) = true := decide_eq_true (by omega)
      have g5 : decide (l.length ≤ 9223372036854775807) = true := decide_eq_true (by omega)
      have g6 : (0 : Int) ≤ ((l.length : Nat) : Int) ∧ ((l.length : Nat) : Int) ≤ ((l.length : Nat) : Int) ∧ 8 * ((l.length : Nat) : Int) ≤ 281474976710656 ∧ ((l.length : Nat) : Int) ≤ 9223372036854775807 := by omega
      rw [e, pad_len, hmost, w1, w2, chk_may h]
      simp only [i1, g1, g2, g3, g4, g5, decide_eq_true g6]
      simp
    · rw [madeU, hmost]
      unfold midI
      rw [pad_len, Nat.zero_add]; rfl

/-- Have enough reached it? -/
def PB (l m : List Int) (x : Int) : Bool := mayB l && decide (((cge (List.take l.length m) x : Nat) : Int) ≥ mostI l)
def bst (l m : List Int) (i : Nat) : Int := bestF (PB l m) (m.take i) 0
theorem bst_step {l m : List Int} {i : Nat} (h : i < m.length) : bst l m (i + 1) = (bif PB l m (m.getD i 0) && decide (m.getD i 0 > bst l m i) then m.getD i 0 else bst l m i) := by
  unfold bst
  rw [List.take_add_one, getD_get (d := 0) h]
  exact best_app _ _ _ _

theorem cout_loop (l m : List Int) (sl sm : SM) (hm : m.length ≤ maxLen) (hl : l.length ≤ maxLen) :
    LoopOk Try.prog lCout 65 [6, 5] [0, 1] [vI 0, vU 0] [.one (.sl cI l sl), .one (.sl cU m sm)] [] (.exit 0) [vX, vU (bst l m l.length)] [] := by
  unfold maxLen at hl hm
  refine LoopOk.rounds (S := Nat) ECin lCout_eq (by kernel_rfl) (fun i => [vI i, vU (bst l m i)]) (fun _ => []) (fun i => i ≤ m.length ∧ i ≤ l.length) (fun i => m.length - i) 0 ⟨Nat.zero_le _, Nat.zero_le _⟩ ?_ (fun _ _ => rfl)
  intro i ⟨hk, hkl⟩
  have g0 : decide ((0 : Int) ≤ ((i : Nat) : Int)) = true := decide_eq_true (by omega)
  have g5 : decide (m.length ≤ 9223372036854775807) = true := decide_eq_true (by omega)
  have g6 : decide (l.length ≤ 9223372036854775807) = true := decide_eq_true (by omega)
  by_cases hlt : i < m.length
  · have hii : inB ((i : Nat) : Int) m.length = true := inB_of (by omega) (by omega)
    by_cases hll : i < l.length
    · have hw : IntKind.i64.wrap (((i : Nat) : Int) + 1) = ((i + 1 : Nat) : Int) := by rw [wrap64 (by omega) (by omega)]; rfl
      have hs := bst_step (l := l) hlt
      have a1 : decide (((i : Nat) : Int) < ((m.length : Nat) : Int)) = true := decide_eq_true (by omega)
      have a2 : decide (((i : Nat) : Int) < ((l.length : Nat) : Int)) = true := decide_eq_true (by omega)
      cases h3 : mayB l with
      | true =>
        cases h4 : decide (((cge (List.take l.length m) (m.getD i 0) : Nat) : Int) ≥ mostI l) with
        | true =>
          cases h5 : decide (m.getD i 0 > bst l m i) with
          | true =>
            refine OneRound.go [true, true, true, true, true, true, true, true, true, true, true, true, true, true, true, true, true, true, true] (vs := [(.one (.int .i64 (IntKind.i64.wrap (((i : Nat) : Int) + 1)))), (.one (.int .u64 (m.getD i 0)))]) (hp' := []) (cs := [(inB (((i : Nat) : Int)) m.length), (decide (m.getD i 0 > bst l m i) == true), (decide ((((cge (List.take l.length m) (m.getD i 0)) : Nat) : Int) ≥ mostI l) == true), (decide ((((cge (List.take l.length m) (m.getD i 0)) : Nat) : Int) ≥ mostI l) == true), (decide ((((cge (List.take l.length m) (m.getD i 0)) : Nat) : Int) ≥ mostI l) == true), (decide ((((cge (List.take l.length m) (m.getD i 0)) : Nat) : Int) ≥ mostI l) == true), (inB (((i : Nat) : Int)) m.length), (decide ((((cge (List.take l.length m) (m.getD i 0)) : Nat) : Int) ≥ mostI l) == true), (decide ((((cge (List.take l.length m) (m.getD i 0)) : Nat) : Int) ≥ mostI l) == true), (decide ((((cge (List.take l.length m) (m.getD i 0)) : Nat) : Int) ≥ mostI l) == true), (mayB l == true), (mayB l == true), (mayB l == true), (mayB l == true), (mayB l == true), (decide (0 = 0)), (decide (0 = 0)), (decide (0 ≤ ((i : Nat) : Int))), (decide (((i : Nat) : Int) < ((m.length : Nat) : Int))), (decide (m.length ≤ 9223372036854775807)), (decide (l.length ≤ 9223372036854775807)), true, (decide (((i : Nat) : Int) < ((l.length : Nat) : Int)) == true), (decide (((i : Nat) : Int) < ((m.length : Nat) : Int)) == true), (decide (((i : Nat) : Int) < ((m.length : Nat) : Int)) == true), (decide (((i : Nat) : Int) < ((m.length : Nat) : Int)) == true), (decide (((i : Nat) : Int) < ((m.length : Nat) : Int)) == true), (decide (((i : Nat) : Int) < ((m.length : Nat) : Int)) == true)]) (fun rest => by kernel_rfl) (allI (by simp only [h3, h4, h5, a1, a2, hii, g0, g5, g6]; rfl)) (i + 1) ⟨by omega, by omega⟩ (by omega) ⟨.of_eq (by rw [hw]), .of_eq (by rw [hs]; simp only [PB, h3, h4, h5]; rfl), trivial⟩ rfl (.inl (Nat.le_refl _))
          | false =>
            refine OneRound.go [true, true, true, true, true, true, true, true, true, true, true, true, true, true, true, true, true, true, false] (vs := [(.one (.int .i64 (IntKind.i64.wrap (((i : Nat) : Int) + 1)))), (.one (.int .u64 (bst l m i)))]) (hp' := []) (cs := [(decide (m.getD i 0 > bst l m i) == false), (decide ((((cge (List.take l.length m) (m.getD i 0)) : Nat) : Int) ≥ mostI l) == true), (decide ((((cge (List.take l.length m) (m.getD i 0)) : Nat) : Int) ≥ mostI l) == true), (decide ((((cge (List.take l.length m) (m.getD i 0)) : Nat) : Int) ≥ mostI l) == true), (decide ((((cge (List.take l.length m) (m.getD i 0)) : Nat) : Int) ≥ mostI l) == true), (inB (((i : Nat) : Int)) m.length), (decide ((((cge (List.take l.length m) (m.getD i 0)) : Nat) : Int) ≥ mostI l) == true), (decide ((((cge (List.take l.length m) (m.getD i 0)) : Nat) : Int) ≥ mostI l) == true), (decide ((((cge (List.take l.length m) (m.getD i 0)) : Nat) : Int) ≥ mostI l) == true), (mayB l == true), (mayB l == true), (mayB l == true), (mayB l == true), (mayB l == true), (decide (0 = 0)), (decide (0 = 0)), (decide (0 ≤ ((i : Nat) : Int))), (decide (((i : Nat) : Int) < ((m.length : Nat) : Int))), (decide (m.length ≤ 9223372036854775807)), (decide (l.length ≤ 9223372036854775807)), true, (decide (((i : Nat) : Int) < ((l.length : Nat) : Int)) == true), (decide (((i : Nat) : Int) < ((m.length : Nat) : Int)) == true), (decide (((i : Nat) : Int) < ((m.length : Nat) : Int)) == true), (decide (((i : Nat) : Int) < ((m.length : Nat) : Int)) == true), (decide (((i : Nat) : Int) < ((m.length : Nat) : Int)) == true), (decide (((i : Nat) : Int) < ((m.length : Nat) : Int)) == true)]) (fun rest => by kernel_rfl) (allI (by simp only [h3, h4, h5, a1, a2, hii, g0, g5, g6]; rfl)) (i + 1) ⟨by omega, by omega⟩ (by omega) ⟨.of_eq (by rw [hw]), .of_eq (by rw [hs]; simp only [PB, h3, h4, h5]; rfl), trivial⟩ rfl (.inl (Nat.le_refl _))
        | false =>
          refine OneRound.go [true, true, true, true, true, true, true, true, true, true, true, false, false, false, false, false, false, false, false] (vs := [(.one (.int .i64 (IntKind.i64.wrap (((i : Nat) : Int) + 1)))), (.one (.int .u64 (bst l m i)))]) (hp' := []) (cs := [(false == false), (decide ((((cge (List.take l.length m) (m.getD i 0)) : Nat) : Int) ≥ mostI l) == false), (decide ((((cge (List.take l.length m) (m.getD i 0)) : Nat) : Int) ≥ mostI l) == false), (decide ((((cge (List.take l.length m) (m.getD i 0)) : Nat) : Int) ≥ mostI l) == false), (decide ((((cge (List.take l.length m) (m.getD i 0)) : Nat) : Int) ≥ mostI l) == false), (decide ((((cge (List.take l.length m) (m.getD i 0)) : Nat) : Int) ≥ mostI l) == false), (decide ((((cge (List.take l.length m) (m.getD i 0)) : Nat) : Int) ≥ mostI l) == false), (decide ((((cge (List.take l.length m) (m.getD i 0)) : Nat) : Int) ≥ mostI l) == false), (mayB l == true), (mayB l == true), (mayB l == true), (mayB l == true), (mayB l == true), (decide (0 = 0)), (decide (0 = 0)), (decide (0 ≤ ((i : Nat) : Int))), (decide (((i : Nat) : Int) < ((m.length : Nat) : Int))), (decide (m.length ≤ 9223372036854775807)), (decide (l.length ≤ 9223372036854775807)), true, (decide (((i : Nat) : Int) < ((l.length : Nat) : Int)) == true), (decide (((i : Nat) : Int) < ((m.length : Nat) : Int)) == true), (decide (((i : Nat) : Int) < ((m.length : Nat) : Int)) == true), (decide (((i : Nat) : Int) < ((m.length : Nat) : Int)) == true), (decide (((i : Nat) : Int) < ((m.length : Nat) : Int)) == true), (decide (((i : Nat) : Int) < ((m.length : Nat) : Int)) == true)]) (fun rest => by kernel_rfl) (allI (by simp only [h3, h4, a1, a2, hii, g0, g5, g6]; rfl)) (i + 1) ⟨by omega, by omega⟩ (by omega) ⟨.of_eq (by rw [hw]), .of_eq (by rw [hs]; simp only [PB, h3, h4]; rfl), trivial⟩ rfl (.inl (Nat.le_refl _))
      | false =>
        refine OneRound.go [true, true, true, true, true, true, false, false, false, false, false, false, false, false, false, false, false, false, false] (vs := [(.one (.int .i64 (IntKind.i64.wrap (((i : Nat) : Int) + 1)))), (.one (.int .u64 (bst l m i)))]) (hp' := []) (cs := [(false == false), (false == false), (false == false), (false == false), (false == false), (false == false), (false == false), (false == false), (mayB l == false), (mayB l == false), (mayB l == false), (mayB l == false), (mayB l == false), (decide (0 = 0)), (decide (0 = 0)), (decide (0 ≤ ((i : Nat) : Int))), (decide (((i : Nat) : Int) < ((m.length : Nat) : Int))), (decide (m.length ≤ 9223372036854775807)), (decide (l.length ≤ 9223372036854775807)), true, (decide (((i : Nat) : Int) < ((l.length : Nat) : Int)) == true), (decide (((i : Nat) : Int) < ((m.length : Nat) : Int)) == true), (decide (((i : Nat) : Int) < ((m.length : Nat) : Int)) == true), (decide (((i : Nat) : Int) < ((m.length : Nat) : Int)) == true), (decide (((i : Nat) : Int) < ((m.length : Nat) : Int)) == true), (decide (((i : Nat) : Int) < ((m.length : Nat) : Int)) == true)]) (fun rest => by kernel_rfl) (allI (by simp only [h3, a1, a2, hii, g0, g5, g6]; rfl)) (i + 1) ⟨by omega, by omega⟩ (by omega) ⟨.of_eq (by rw [hw]), .of_eq (by rw [hs]; simp only [PB, h3]; rfl), trivial⟩ rfl (.inl (Nat.le_refl _))
    · have e : i = l.length := by omega
      have a1 : decide (((i : Nat) : Int) < ((m.length : Nat) : Int)) = true := decide_eq_true (by omega)
      have a2 : decide (((i : Nat) : Int) < ((l.length : Nat) : Int)) = false := decide_eq_false (by omega)
      subst e
      refine OneRound.stop [true, true, true, true, true, false] (vs := (fun i => [(.one (.int .i64 ((i : Nat) : Int))), (.one (.int .u64 (bst l m i)))]) l.length) (hp' := []) (cs := (fun i => [(decide (((i : Nat) : Int) < ((l.length : Nat) : Int)) == false), (decide (((i : Nat) : Int) < ((m.length : Nat) : Int)) == true), (decide (((i : Nat) : Int) < ((m.length : Nat) : Int)) == true), (decide (((i : Nat) : Int) < ((m.length : Nat) : Int)) == true), (decide (((i : Nat) : Int) < ((m.length : Nat) : Int)) == true), (decide (((i : Nat) : Int) < ((m.length : Nat) : Int)) == true)]) l.length) (fun rest => by kernel_rfl) (allI (by simp only [a1, a2]; rfl)) (by simp) ⟨.unk, .refl, trivial⟩ rfl (.inl (Nat.le_refl _))
  · have e : i = m.length := by omega
    have a1 : decide (((i : Nat) : Int) < ((m.length : Nat) : Int)) = false := decide_eq_false (by omega)
    refine OneRound.stop [false, false, false, false, false, false] (vs := [(.one (.int .i64 ((i : Nat) : Int))), (.one (.int .u64 (bst l m i)))]) (hp' := []) (cs := [(false == false), (decide (((i : Nat) : Int) < ((m.length : Nat) : Int)) == false), (decide (((i : Nat) : Int) < ((m.length : Nat) : Int)) == false), (decide (((i : Nat) : Int) < ((m.length : Nat) : Int)) == false), (decide (((i : Nat) : Int) < ((m.length : Nat) : Int)) == false), (decide (((i : Nat) : Int) < ((m.length : Nat) : Int)) == false)]) (fun rest => by kernel_rfl) (allI (by simp only [a1]; rfl)) (by simp) ⟨.unk, .of_eq ?_, trivial⟩ rfl (.inl (Nat.le_refl _))
    have e2 : bst l m i = bst l m l.length := by unfold bst; rw [List.take_of_length_le (by omega), List.take_of_length_le (by omega)]
    rw [e2]

noncomputable def ECou : Env Try.prog := (ECin.addLT 12 3 lCout_eq 65 [6, 5] [0, 1] (by kernel_rfl) [.one cI, .one cU] [.sl cI, .sl cU]
  (fun (z, c, _) ((l, sl), (m, sm), _) hp os => retC (.exit 0, [vX, vU (bst l m l.length)], []) [decide (z = 0), decide (c = 0), decide (m.length ≤ maxLen), decide (l.length ≤ maxLen), hp.isEmpty] os)
  (fun (z, c, _) ((l, sl), (m, sm), _) hp os e outs hp' cs os' h hc => by
    simp only [retC, Option.some.injEq, Prod.mk.injEq] at h
    obtain ⟨⟨rfl, rfl, rfl⟩, rfl, rfl⟩ := h
    obtain ⟨h1, hc⟩ := of_allTc hc
    obtain ⟨h2, hc⟩ := of_allTc hc
    obtain ⟨h5, hc⟩ := of_allTc hc
    obtain ⟨h6, hc⟩ := of_allTc hc
    obtain ⟨h7, _⟩ := of_allTc hc
    have h7 := List.isEmpty_iff.1 h7
    simp only [decide_eq_true_eq] at h1 h2 h5 h6
    subst h1; subst h2; subst h7
    exact cout_loop l m sl sm h5 h6)).addT1 10 [.one (.sl cI), .one (.sl cU)] (fun d => vU (comI d.1 d.2.1)) (fun _ => []) fun d _ => commit_pure d.1 d.2.1
theorem rcommit_pure (l m : List Int) : PureCall Try.prog 12 [vL cI l, vL cU m] (vU (bst l m l.length)) := by
  refine PureCall.facts' (by kernel_rfl) fun ⟨X, vs, hX, hv⟩ => ?_
  have hlen : l.length ≤ 9223372036854775807 := len_of hv 0 rfl
  have hlen2 : m.length ≤ 9223372036854775807 := len_of hv 1 rfl
  exact ECou.pure_ok (os := []) (cs := [decide ((0 : Int) = 0), decide ((0 : Int) = 0), decide (m.length ≤ maxLen), decide (l.length ≤ maxLen), true]) (by kernel_rfl) (allI (by simp [maxLen, hlen, hlen2]))
theorem com_same {l m : List Int} (hm : ∀ x ∈ m, (0 : Int) ≤ x) : comI l m = bst l m l.length := by
  unfold comI bst
  cases h : mayB l with
  | false =>
    rcases best_in (PB l m) (m.take l.length) 0 with e | ⟨x, _, hp, _⟩
    · rw [e]; rfl
    · simp [PB, h] at hp
  | true =>
    have hl := may_len h
    rw [cond_true, commit_same (by omega) hm]
    congr 1
    funext x
    unfold PB
    rw [h, Bool.true_and, most_eq hl.2]
    rw [Bool.eq_iff_iff, decide_eq_true_iff, decide_eq_true_iff]
    omega
noncomputable def ECo : Env Try.prog := ECou.addT1 12 [.one (.sl cI), .one (.sl cU)] (fun d => vU (bst d.1 d.2.1 d.1.length)) (fun _ => []) fun d _ => rcommit_pure d.1 d.2.1
end Go.Proofs.Ytcigjehfmiiolaa
