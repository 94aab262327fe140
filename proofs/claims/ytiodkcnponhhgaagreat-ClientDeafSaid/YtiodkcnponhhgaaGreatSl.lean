/- Equal lists; lists of one's own; no statement. -/
import Derived.Test.YtiodkcnponhhgaaGreatVar
set_option linter.unusedVariables false
namespace Go.Proofs.YtiodkcnponhhgaaGreat
open Go Go.Eng

noncomputable def lEq : Code := (theLoop Tryz.prog 81 4).getD .skip
theorem lEq_eq : theLoop Tryz.prog 81 4 = some lEq := by kernel_rfl

theorem eq_of_gets {l m : List Int} (hl : l.length = m.length) (h : ∀ j, j < l.length → l.getD j 0 = m.getD j 0) : l = m := by
  apply List.ext_getElem? 
  intro j
  by_cases hj : j < l.length
  · rw [getD_get (d := 0) hj, getD_get (d := 0) (l := m) (by omega), h j hj]
  · rw [List.getElem?_eq_none (by omega), List.getElem?_eq_none (by omega)]

theorem eq_loop (l m : List Int) (hm : m.length = l.length) (sl sm : SM) (hl : l.length ≤ maxLen) :
    (decide (l = m) = true → LoopOk Tryz.prog lEq 26 [13, 4] [0, 1, 12] [vI 0, vB false] [.one (.sl cI l sl), .one (.sl cI m sm), vI l.length] [] (.exit 0) [vX, vB false] []) ∧
    (decide (l = m) = false → LoopOk Tryz.prog lEq 26 [13, 4] [0, 1, 12] [vI 0, vB false] [.one (.sl cI l sl), .one (.sl cI m sm), vI l.length] [] .ret [vX, vB false] []) := by
  unfold maxLen at hl
  refine ⟨fun hf => ?_, fun hf => ?_⟩
  all_goals
    refine LoopOk.rounds (S := Nat) E0 lEq_eq (by kernel_rfl) (fun k => [vI k, vB false]) (fun k => []) (fun k => k ≤ l.length ∧ ∀ j, j < k → l.getD j 0 = m.getD j 0) (fun k => l.length - k) 0 ⟨by omega, fun j hj => by omega⟩ ?_ (fun _ _ => rfl)
    intro k ⟨hk, hbefore⟩
    by_cases hlt : k < l.length
    · by_cases he : l.getD k 0 = m.getD k 0
      · refine OneRound.go [true, false] (vs := [vI (IntKind.i64.wrap (k + 1)), vB false]) (hp' := []) (cs := [(l.getD k 0 != m.getD k 0) == false, inB k m.length, inB k l.length, decide ((k : Int) < l.length) == true])
          (fun rest => by kernel_rfl) (allTc (by rw [he]; simp) (allTc (inB_of (by omega) (by omega)) (allTc (inB_of (by omega) (by omega)) (allT1 (dT (by omega)))))) (k + 1) ⟨by omega, fun j hj => ?_⟩ (by omega) ⟨.of_eq ?_, .refl, trivial⟩ rfl (.inl (Nat.le_refl _))
        · by_cases hjk : j < k
          · exact hbefore j hjk
          · have : j = k := by omega
            subst this; exact he
        · rw [wrap64 (by omega) (by omega)]; rfl
      · have hne : decide (l = m) = false := by
          rw [decide_eq_false_iff_not]; intro h; subst h; exact he rfl
        first
        | exact Bool.noConfusion (hne.symm.trans hf)
        | exact OneRound.stop [true, true] (vs := [vI k, vB false]) (hp' := []) (cs := [(l.getD k 0 != m.getD k 0) == true, inB k m.length, inB k l.length, decide ((k : Int) < l.length) == true])
            (fun rest => by kernel_rfl) (allTc (eqT (by simpa using he)) (allTc (inB_of (by omega) (by omega)) (allTc (inB_of (by omega) (by omega)) (allT1 (dT (by omega)))))) (by simp) ⟨.unk, .refl, trivial⟩ rfl (.inl (Nat.le_refl _))
    · have heq : decide (l = m) = true := by
        rw [decide_eq_true_eq]; exact eq_of_gets hm.symm fun j hj => hbefore j (by omega)
      first
      | exact Bool.noConfusion (heq.symm.trans hf)
      | exact OneRound.stop [false] (vs := [vI k, vB false]) (hp' := []) (cs := [decide ((k : Int) < l.length) == false]) (fun rest => by kernel_rfl) (allT1 (dF (by omega))) (by simp) ⟨.unk, .refl, trivial⟩ rfl (.inl (Nat.le_refl _))

noncomputable def EEq1 : Env Tryz.prog := E0.addLT 81 4 lEq_eq 26 [13, 4] [0, 1, 12] (by kernel_rfl) [.one cI, .one .bool] [.sl cI, .sl cI, .one cI]
  (fun (z, b, _) ((l, sl), (m, sm), n, _) hp os => brL (decide (l = m)) os
    (fun os => retC (.exit 0, [vX, vB false], []) [decide (z = 0), decide (b = false), decide (n = l.length), decide (m.length = l.length ∧ l.length ≤ maxLen), hp.isEmpty] os)
    (fun os => retC (.ret, [vX, vB false], []) [decide (z = 0), decide (b = false), decide (n = l.length), decide (m.length = l.length ∧ l.length ≤ maxLen), hp.isEmpty] os))
  (fun (z, b, _) ((l, sl), (m, sm), n, _) hp os e outs hp' cs os' h hc => by
    rcases brL_some h hc with ⟨hb, o, c, h, hc⟩ | ⟨hb, o, c, h, hc⟩
    all_goals
      simp only [retC, Option.some.injEq, Prod.mk.injEq] at h
      obtain ⟨⟨rfl, rfl, rfl⟩, rfl, rfl⟩ := h
      obtain ⟨h1, hc⟩ := of_allTc hc
      obtain ⟨h2, hc⟩ := of_allTc hc
      obtain ⟨h3, hc⟩ := of_allTc hc
      obtain ⟨h4, hc⟩ := of_allTc hc
      obtain ⟨h5, _⟩ := of_allTc hc
      have h5 := List.isEmpty_iff.1 h5
      simp only [decide_eq_true_eq] at h1 h2 h3 h4
      subst h1; subst h2; subst h3; subst h5
      first | exact (eq_loop l m h4.1 sl sm h4.2).1 hb | exact (eq_loop l m h4.1 sl sm h4.2).2 hb)

theorem equal_pure (l m : List Int) : PureCall Tryz.prog 81 [vL cI l, vL cI m] (vB (decide (l = m))) := by
  refine PureCall.facts' (by kernel_rfl) fun ⟨X, vs, hX, hv⟩ => ?_
  have hlen := len_of hv 0 rfl
  by_cases hn : m.length = l.length
  · by_cases he : l = m
    · rw [decide_eq_true he]
      refine EEq1.pure_ok (os := [false, true]) (cs := [decide ((0 : Int) = 0), decide (false = false), decide ((l.length : Int) = l.length), decide (m.length = l.length ∧ l.length ≤ maxLen), true, decide (l = m) == true, ((l.length : Int) != m.length) == false]) (by kernel_rfl) ?_
      exact allTc (by simp) (allTc (by simp) (allTc (by simp) (allTc (by simp [hn, hlen]) (allTc rfl (allTc (by simp [he]) (allT1 (by simp [hn])))))))
    · rw [decide_eq_false he]
      refine EEq1.pure_ok (os := [false, false]) (cs := [decide ((0 : Int) = 0), decide (false = false), decide ((l.length : Int) = l.length), decide (m.length = l.length ∧ l.length ≤ maxLen), true, decide (l = m) == false, ((l.length : Int) != m.length) == false]) (by kernel_rfl) ?_
      exact allTc (by simp) (allTc (by simp) (allTc (by simp) (allTc (by simp [hn, hlen]) (allTc rfl (allTc (by simp [he]) (allT1 (by simp [hn])))))))
  · have he : l ≠ m := fun h => hn (by rw [h])
    rw [decide_eq_false he]
    refine EEq1.pure_ok (os := [true]) (cs := [((l.length : Int) != m.length) == true]) (by kernel_rfl) ?_
    exact allT1 (by simp; omega)

noncomputable def ESl : Env Tryz.prog := E0.addT1 81 [.one (.sl cI), .one (.sl cI)] (fun d => vB (decide (d.1 = d.2.1))) (fun _ => []) fun d _ => equal_pure d.1 d.2.1
abbrev rOp : CT := .pair cI (.pair .str (.pair .str (.pair .str (.pair .bool (.pair .str .unit)))))
abbrev rWant : CT := .pair .bool (.pair cI (.pair .str (.pair cI (.pair cI .unit))))
abbrev rCmd : CT := .pair cI (.pair cI (.pair cU (.pair cU (.pair rOp (.pair cU (.pair cI (.pair .str (.pair .str (.pair cI (.pair rWant .unit))))))))))
abbrev rEntry : CT := .pair cU (.pair cU (.pair cI (.pair rCmd (.pair (.sl cI) .unit))))
end Go.Proofs.YtiodkcnponhhgaaGreat
