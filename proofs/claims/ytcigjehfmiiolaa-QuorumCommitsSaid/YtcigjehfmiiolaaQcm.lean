/- QuorumCommits, its loop and its run; no statement. -/
import Derived.Test.YtcigjehfmiiolaaQcou
set_option linter.unusedVariables false
namespace Go.Proofs.Ytcigjehfmiiolaa
open Go Go.Eng

noncomputable def lCom : Code := (theLoop Try.prog 3 5).getD .skip
theorem lCom_eq : theLoop Try.prog 3 5 = some lCom := by kernel_rfl
theorem com_loop (l : List Int) (n : Nat) (e : TypeId) (v : Nat) (hl : l.length ≤ maxLen) (hn : n ≤ l.length) :
    LoopOk Try.prog lCom 43 [7, 4] [5, 1] [vI 0, vB false] [.one (.sl cU (l.take n) (.own 0 v)), .one (.sl cU l .shared)] [.tok e v] (.exit 0) [vX, vB false] [.tok e v] := by
  unfold maxLen at hl
  have hlen : (l.take n).length = n := by rw [List.length_take]; omega
  refine LoopOk.rounds (S := Nat) E0 lCom_eq (by kernel_rfl) (fun k => [vI k, vB false]) (fun k => [.tok e v]) (fun k => k ≤ n) (fun k => n - k) 0 (by omega) ?_ (fun _ _ => rfl)
  intro k hk
  by_cases hlt : k < n
  · refine OneRound.go [true, false] (vs := [vI (IntKind.i64.wrap (k + 1)), vB false]) (hp' := [.tok e v]) (cs := [((l.take n).getD k 0 != l.getD k 0) == false, inB k l.length, inB k (l.take n).length, decide ((k : Int) < (l.take n).length) == true])
      (fun rest => by kernel_rfl) (allTc (by rw [getD_take hlt]; simp) (allTc (inB_of (by omega) (by omega)) (allTc (inB_of (by omega) (by omega)) (allT1 (dT (by omega)))))) (k + 1) (by omega) (by omega) ⟨.of_eq ?_, .refl, trivial⟩ rfl (.inl (Nat.le_refl _))
    rw [wrap64 (by omega) (by omega)]; rfl
  · exact OneRound.stop [false] (vs := [vI k, vB false]) (hp' := [.tok e v]) (cs := [decide ((k : Int) < (l.take n).length) == false]) (fun rest => by kernel_rfl) (allT1 (dF (by omega))) (by simp) ⟨.unk, .refl, trivial⟩ rfl (.inl (Nat.le_refl _))

noncomputable def ECl : Env Try.prog := ECo.addL 3 5 lCom_eq 43 [7, 4] [5, 1] (by kernel_rfl)
  (fun vals rov hp os => match vals, rov, hp with
    | [.one (.int .i64 z), .one (.bool false)], [.one (.sl (.int .u64) x (.own 0 v)), .one (.sl (.int .u64) l .shared)], [.tok e v'] =>
      retC (.exit 0, [vX, vB false], [.tok e v]) [decide (z = 0), decide (x = l.take 50), decide (l.length ≤ maxLen), decide (v = v')] os
    | _, _, _ => none)
  (fun vals rov hp os e outs hp' cs os' h hc => by
    split at h
    · rename_i z x v l e v'
      simp only [retC, Option.some.injEq, Prod.mk.injEq] at h
      obtain ⟨⟨rfl, rfl, rfl⟩, rfl, rfl⟩ := h
      obtain ⟨h1, hc⟩ := of_allTc hc
      obtain ⟨h3, hc⟩ := of_allTc hc
      obtain ⟨h4, hc⟩ := of_allTc hc
      obtain ⟨h5, _⟩ := of_allTc hc
      simp only [decide_eq_true_eq] at h1 h3 h4 h5
      subst h1; subst h3; subst h5
      have e2 : l.take 50 = l.take (min 50 l.length) := by
        by_cases h : 50 ≤ l.length
        · rw [Nat.min_eq_left h]
        · rw [Nat.min_eq_right (by omega), List.take_length, List.take_of_length_le (by omega)]
      rw [e2]
      exact com_loop l _ e v h4 (Nat.min_le_right _ _)
    · cases h)
abbrev sLU : List PT := [.one (.sl cI), .one (.sl cU)]
theorem commits_law (d : dens sLU) (h : WFs sLU d) : PureCall Try.prog 3 (encs sLU d) (vB true) := by
  obtain ⟨l, m, _⟩ := d
  have hm : ∀ x ∈ m, (0 : Int) ≤ x := fun x hx => (h.2.1.2 x hx).1
  have h50 := take50_len m
  have hm50 : ∀ x ∈ m.take 50, (0 : Int) ≤ x := fun x hx => hm x (List.mem_of_mem_take hx)
  have hb := len50_ok m.length
  show PureCall Try.prog _ [vL cI l, vL cU m] _
  refine PureCall.facts' (by kernel_rfl) fun ⟨X, vs, hX, hv⟩ => ?_
  have hlen : m.length ≤ 9223372036854775807 := len_of hv 1 rfl
  cases he : (m.take 50).isEmpty with
  | true =>
    refine ECl.pure_ok (os := [true, false, true, true]) (r := vB true) (cs := [(comI (List.take 50 l) [] == bst (List.take 50 l) [] (List.take 50 l).length) == true, (comI (List.take 50 l) [] == bst (List.take 50 l) [] (List.take 50 l).length) == true, decide ((0 : Int) < 0) == false, (own50 m).isEmpty == true, decide ((0 : Int) ≤ 0 ∧ (0 : Int) ≤ len50 m.length ∧ len50 m.length ≤ (m.length : Nat))]) (by kernel_rfl) (allI ?_)
    rw [own50_eq, he, com_same (l := List.take 50 l) (m := []) (fun x hx => by cases hx), decide_eq_true hb]
    simp
  | false =>
    refine ECl.pure_ok (os := [false, true, true]) (r := vB true) (cs := [(comI (List.take 50 l) ([] ++ own50 m) == bst (List.take 50 l) ([] ++ own50 m) (List.take 50 l).length) == true, (comI (List.take 50 l) ([] ++ own50 m) == bst (List.take 50 l) ([] ++ own50 m) (List.take 50 l).length) == true, decide ((0 : Int) = 0), decide ([] ++ own50 m = List.take 50 m), decide (m.length ≤ maxLen), decide (0 = 0), Nat.ble ((0 + (own50 m).length) * 8) 140737488355328 && Nat.ble (0 + (own50 m).length) maxLen, (own50 m).isEmpty == false, decide ((0 : Int) ≤ 0 ∧ (0 : Int) ≤ len50 m.length ∧ len50 m.length ≤ (m.length : Nat))]) (by kernel_rfl) (allI ?_)
    rw [own50_eq, he, List.nil_append, com_same hm50, decide_eq_true hb]
    have g1 : decide (m.length ≤ maxLen) = true := decide_eq_true hlen
    have g2 : (Nat.ble ((0 + (m.take 50).length) * 8) 140737488355328 && Nat.ble (0 + (m.take 50).length) maxLen) = true := by
      simp only [Bool.and_eq_true, Nat.ble_eq, maxLen]; omega
    rw [g1, g2]
    simp
end Go.Proofs.Ytcigjehfmiiolaa
