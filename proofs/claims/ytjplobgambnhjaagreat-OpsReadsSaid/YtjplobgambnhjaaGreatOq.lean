/- Equal lists; lists of one's own; no statement. -/
import Derived.Test.YtjplobgambnhjaaGreatVar
set_option linter.unusedVariables false
set_option linter.unusedSimpArgs false
namespace Go.Proofs.YtjplobgambnhjaaGreat
open Go Go.Eng

noncomputable def lEq : Code := (theLoop Tryz.prog 101 4).getD .skip
theorem lEq_eq : theLoop Tryz.prog 101 4 = some lEq := by kernel_rfl

theorem eq_of_gets {l m : List Int} (hl : l.length = m.length) (h : ∀ j, j < l.length → l.getD j 0 = m.getD j 0) : l = m := by
  apply List.ext_getElem? 
  intro j
  by_cases hj : j < l.length
  · rw [getD_get (d := 0) hj, getD_get (d := 0) (l := m) (by omega), h j hj]
  · rw [List.getElem?_eq_none (by omega), List.getElem?_eq_none (by omega)]

theorem eq_loop (l m : List Int) (hm : m.length = l.length) (sl sm : SM) (hl : l.length ≤ maxLen) :
    (decide (l = m) = true → LoopOk Tryz.prog lEq 26 [13, 4] [0, 1, 12] [vI 0, vB false] [.one (.sl cI l sl), .one (.sl cI m sm), vI l.length] [] (.exit 0) [vX, vB false] []) ∧
    (decide (l = m) = false → LoopOk Tryz.prog lEq 26 [13, 4] [0, 1, 12] [vI 0, vB false] [.one (.sl cI l sl), .one (.sl cI m sm), vI l.length] [] .ret [vX, vB false] []) := by
  unfold maxLen at hl
  refine ⟨fun hf => ?_, fun hf => ?_⟩
  all_goals
    refine LoopOk.rounds (S := Nat) E0 lEq_eq (by kernel_rfl) (fun k => [vI k, vB false]) (fun k => []) (fun k => k ≤ l.length ∧ ∀ j, j < k → l.getD j 0 = m.getD j 0) (fun k => l.length - k) 0 ⟨by omega, fun j hj => by omega⟩ ?_ (fun _ _ => rfl)
    intro k ⟨hk, hbefore⟩
    by_cases hlt : k < l.length
    · by_cases he : l.getD k 0 = m.getD k 0
      · refine OneRound.go [true, false] (vs := [vI (IntKind.i64.wrap (k + 1)), vB false]) (hp' := []) (cs := [(l.getD k 0 != m.getD k 0) == false, inB k m.length, inB k l.length, decide ((k : Int) < l.length) == true])
          (fun rest => by kernel_rfl) (allTc (by rw [he]; simp) (allTc (inB_of (by omega) (by omega)) (allTc (inB_of (by omega) (by omega)) (allT1 (dT (by omega)))))) (k + 1) ⟨by omega, fun j hj => ?_⟩ (by omega) ⟨.of_eq ?_, .refl, trivial⟩ rfl (.inl (Nat.le_refl _))
        · by_cases hjk : j < k
          · exact hbefore j hjk
          · have : j = k := by omega
            subst this; exact he
        · rw [wrap64 (by omega) (by omega)]; rfl
      · have hne : decide (l = m) = false := by
          rw [decide_eq_false_iff_not]; intro h; subst h; exact he rfl
        first
        | exact Bool.noConfusion (hne.symm.trans hf)
        | exact OneRound.stop [true, true] (vs := [vI k, vB false]) (hp' := []) (cs := [(l.getD k 0 != m.getD k 0) == true, inB k m.length, inB k l.length, decide ((k : Int) < l.length) == true])
            (fun rest => by kernel_rfl) (allTc (eqT (by simpa using he)) (allTc (inB_of (by omega) (by omega)) (allTc (inB_of (by omega) (by omega)) (allT1 (dT (by omega)))))) (by simp) ⟨.unk, .refl, trivial⟩ rfl (.inl (Nat.le_refl _))
    · have heq : decide (l = m) = true := by
        rw [decide_eq_true_eq]; exact eq_of_gets hm.symm fun j hj => hbefore j (by omega)
      first
      | exact Bool.noConfusion (heq.symm.trans hf)
      | exact OneRound.stop [false] (vs := [vI k, vB false]) (hp' := []) (cs := [decide ((k : Int) < l.length) == false]) (fun rest => by kernel_rfl) (allT1 (dF (by omega))) (by simp) ⟨.unk, .refl, trivial⟩ rfl (.inl (Nat.le_refl _))

noncomputable def EEq1 : Env Tryz.prog := E0.addLT 101 4 lEq_eq 26 [13, 4] [0, 1, 12] (by kernel_rfl) [.one cI, .one .bool] [.sl cI, .sl cI, .one cI]
  (fun (z, b, _) ((l, sl), (m, sm), n, _) hp os => brL (decide (l = m)) os
    (fun os => retC (.exit 0, [vX, vB false], []) [decide (z = 0), decide (b = false), decide (n = l.length), decide (m.length = l.length ∧ l.length ≤ maxLen), hp.isEmpty] os)
    (fun os => retC (.ret, [vX, vB false], []) [decide (z = 0), decide (b = false), decide (n = l.length), decide (m.length = l.length ∧ l.length ≤ maxLen), hp.isEmpty] os))
  (fun (z, b, _) ((l, sl), (m, sm), n, _) hp os e outs hp' cs os' h hc => by
    rcases brL_some h hc with ⟨hb, o, c, h, hc⟩ | ⟨hb, o, c, h, hc⟩
    all_goals
      simp only [retC, Option.some.injEq, Prod.mk.injEq] at h
      obtain ⟨⟨rfl, rfl, rfl⟩, rfl, rfl⟩ := h
      obtain ⟨h1, hc⟩ := of_allTc hc
      obtain ⟨h2, hc⟩ := of_allTc hc
      obtain ⟨h3, hc⟩ := of_allTc hc
      obtain ⟨h4, hc⟩ := of_allTc hc
      obtain ⟨h5, _⟩ := of_allTc hc
      have h5 := List.isEmpty_iff.1 h5
      simp only [decide_eq_true_eq] at h1 h2 h3 h4
      subst h1; subst h2; subst h3; subst h5
      first | exact (eq_loop l m h4.1 sl sm h4.2).1 hb | exact (eq_loop l m h4.1 sl sm h4.2).2 hb)

theorem equal_pure (l m : List Int) : PureCall Tryz.prog 101 [vL cI l, vL cI m] (vB (decide (l = m))) := by
  refine PureCall.facts' (by kernel_rfl) fun ⟨X, vs, hX, hv⟩ => ?_
  have hlen := len_of hv 0 rfl
  by_cases hn : m.length = l.length
  · by_cases he : l = m
    · rw [decide_eq_true he]
      refine EEq1.pure_ok (os := [false, true]) (cs := [decide ((0 : Int) = 0), decide (false = false), decide ((l.length : Int) = l.length), decide (m.length = l.length ∧ l.length ≤ maxLen), true, decide (l = m) == true, ((l.length : Int) != m.length) == false]) (by kernel_rfl) ?_
      exact allTc (by simp) (allTc (by simp) (allTc (by simp) (allTc (by simp [hn, hlen]) (allTc rfl (allTc (by simp [he]) (allT1 (by simp [hn])))))))
    · rw [decide_eq_false he]
      refine EEq1.pure_ok (os := [false, false]) (cs := [decide ((0 : Int) = 0), decide (false = false), decide ((l.length : Int) = l.length), decide (m.length = l.length ∧ l.length ≤ maxLen), true, decide (l = m) == false, ((l.length : Int) != m.length) == false]) (by kernel_rfl) ?_
      exact allTc (by simp) (allTc (by simp) (allTc (by simp) (allTc (by simp [hn, hlen]) (allTc rfl (allTc (by simp [he]) (allT1 (by simp [hn])))))))
  · have he : l ≠ m := fun h => hn (by rw [h])
    rw [decide_eq_false he]
    refine EEq1.pure_ok (os := [true]) (cs := [((l.length : Int) != m.length) == true]) (by kernel_rfl) ?_
    exact allT1 (by simp; omega)

noncomputable def lSame : Code := (theLoop Tryz.prog 37 4).getD .skip
theorem lSame_eq : theLoop Tryz.prog 37 4 = some lSame := by kernel_rfl

theorem same_loop (l m : List Int) (hm : m.length = l.length) (sl sm : SM) (hl : l.length ≤ maxLen) :
    (decide (l = m) = true → LoopOk Tryz.prog lSame 26 [5, 4] [0, 1] [vI 0, vB false] [.one (.sl cI l sl), .one (.sl cI m sm)] [] (.exit 0) [vX, vB false] []) ∧
    (decide (l = m) = false → LoopOk Tryz.prog lSame 26 [5, 4] [0, 1] [vI 0, vB false] [.one (.sl cI l sl), .one (.sl cI m sm)] [] .ret [vX, vB false] []) := by
  unfold maxLen at hl
  refine ⟨fun hf => ?_, fun hf => ?_⟩
  all_goals
    refine LoopOk.rounds (S := Nat) E0 lSame_eq (by kernel_rfl) (fun k => [vI k, vB false]) (fun k => []) (fun k => k ≤ l.length ∧ ∀ j, j < k → l.getD j 0 = m.getD j 0) (fun k => l.length - k) 0 ⟨by omega, fun j hj => by omega⟩ ?_ (fun _ _ => rfl)
    intro k ⟨hk, hbefore⟩
    by_cases hlt : k < l.length
    · by_cases he : l.getD k 0 = m.getD k 0
      · refine OneRound.go [true, false] (vs := [vI (IntKind.i64.wrap (k + 1)), vB false]) (hp' := []) (cs := [(l.getD k 0 != m.getD k 0) == false, inB k m.length, inB k l.length, decide ((k : Int) < l.length) == true])
          (fun rest => by kernel_rfl) (allTc (by rw [he]; simp) (allTc (inB_of (by omega) (by omega)) (allTc (inB_of (by omega) (by omega)) (allT1 (dT (by omega)))))) (k + 1) ⟨by omega, fun j hj => ?_⟩ (by omega) ⟨.of_eq ?_, .refl, trivial⟩ rfl (.inl (Nat.le_refl _))
        · by_cases hjk : j < k
          · exact hbefore j hjk
          · have : j = k := by omega
            subst this; exact he
        · rw [wrap64 (by omega) (by omega)]; rfl
      · have hne : decide (l = m) = false := by
          rw [decide_eq_false_iff_not]; intro h; subst h; exact he rfl
        first
        | exact Bool.noConfusion (hne.symm.trans hf)
        | exact OneRound.stop [true, true] (vs := [vI k, vB false]) (hp' := []) (cs := [(l.getD k 0 != m.getD k 0) == true, inB k m.length, inB k l.length, decide ((k : Int) < l.length) == true])
            (fun rest => by kernel_rfl) (allTc (eqT (by simpa using he)) (allTc (inB_of (by omega) (by omega)) (allTc (inB_of (by omega) (by omega)) (allT1 (dT (by omega)))))) (by simp) ⟨.unk, .refl, trivial⟩ rfl (.inl (Nat.le_refl _))
    · have heq : decide (l = m) = true := by
        rw [decide_eq_true_eq]; exact eq_of_gets hm.symm fun j hj => hbefore j (by omega)
      first
      | exact Bool.noConfusion (heq.symm.trans hf)
      | exact OneRound.stop [false] (vs := [vI k, vB false]) (hp' := []) (cs := [decide ((k : Int) < l.length) == false]) (fun rest => by kernel_rfl) (allT1 (dF (by omega))) (by simp) ⟨.unk, .refl, trivial⟩ rfl (.inl (Nat.le_refl _))

noncomputable def ESame1 : Env Tryz.prog := E0.addLT 37 4 lSame_eq 26 [5, 4] [0, 1] (by kernel_rfl) [.one cI, .one .bool] [.sl cI, .sl cI]
  (fun (z, b, _) ((l, sl), (m, sm), _) hp os => brL (decide (l = m)) os
    (fun os => retC (.exit 0, [vX, vB false], []) [decide (z = 0), decide (b = false), decide (m.length = l.length ∧ l.length ≤ maxLen), hp.isEmpty] os)
    (fun os => retC (.ret, [vX, vB false], []) [decide (z = 0), decide (b = false), decide (m.length = l.length ∧ l.length ≤ maxLen), hp.isEmpty] os))
  (fun (z, b, _) ((l, sl), (m, sm), _) hp os e outs hp' cs os' h hc => by
    rcases brL_some h hc with ⟨hb, o, c, h, hc⟩ | ⟨hb, o, c, h, hc⟩
    all_goals
      simp only [retC, Option.some.injEq, Prod.mk.injEq] at h
      obtain ⟨⟨rfl, rfl, rfl⟩, rfl, rfl⟩ := h
      obtain ⟨h1, hc⟩ := of_allTc hc
      obtain ⟨h2, hc⟩ := of_allTc hc
      obtain ⟨h4, hc⟩ := of_allTc hc
      obtain ⟨h5, _⟩ := of_allTc hc
      have h5 := List.isEmpty_iff.1 h5
      simp only [decide_eq_true_eq] at h1 h2 h4
      subst h1; subst h2; subst h5
      first | exact (same_loop l m h4.1 sl sm h4.2).1 hb | exact (same_loop l m h4.1 sl sm h4.2).2 hb)

theorem same_pure (l m : List Int) : PureCall Tryz.prog 37 [vL cI l, vL cI m] (vB (decide (l = m))) := by
  refine PureCall.facts' (by kernel_rfl) fun ⟨X, vs, hX, hv⟩ => ?_
  have hlen := len_of hv 0 rfl
  by_cases hn : m.length = l.length
  · by_cases he : l = m
    · rw [decide_eq_true he]
      refine ESame1.pure_ok (os := [false, true]) (cs := [decide ((0 : Int) = 0), decide (false = false), decide (m.length = l.length ∧ l.length ≤ maxLen), true, decide (l = m) == true, ((l.length : Int) != m.length) == false]) (by kernel_rfl) (allI (by simp [hn, he, hlen]))
      
    · rw [decide_eq_false he]
      refine ESame1.pure_ok (os := [false, false]) (cs := [decide ((0 : Int) = 0), decide (false = false), decide (m.length = l.length ∧ l.length ≤ maxLen), true, decide (l = m) == false, ((l.length : Int) != m.length) == false]) (by kernel_rfl) (allI (by simp [hn, he, hlen]))
  · have he : l ≠ m := fun h => hn (by rw [h])
    rw [decide_eq_false he]
    refine ESame1.pure_ok (os := [true]) (cs := [((l.length : Int) != m.length) == true]) (by kernel_rfl) ?_
    exact allT1 (by simp; omega)



noncomputable def ESl : Env Tryz.prog := (E0.addT1 101 [.one (.sl cI), .one (.sl cI)] (fun d => vB (decide (d.1 = d.2.1))) (fun _ => []) fun d _ => equal_pure d.1 d.2.1).addT1
  37 [.one (.sl cI), .one (.sl cI)] (fun d => vB (decide (d.1 = d.2.1))) (fun _ => []) fun d _ => same_pure d.1 d.2.1
abbrev rOp : CT := .pair cI (.pair .str (.pair .str (.pair .str (.pair .bool (.pair .str .unit)))))
abbrev rWant : CT := .pair .bool (.pair cI (.pair .str (.pair cI (.pair cI .unit))))
abbrev rCmd : CT := .pair cI (.pair cI (.pair cU (.pair cU (.pair rOp (.pair cU (.pair cI (.pair .str (.pair .str (.pair cI (.pair rWant .unit))))))))))
abbrev rEntry : CT := .pair cU (.pair cU (.pair cI (.pair rCmd (.pair (.sl cI) .unit))))
open Go Go.Eng

def pv (k : Nat) : Int := IntKind.i64.wrap (((k : Nat) : Int) - 1)
/-- Do the first ones rise, and are they nodes? -/
def gK (l : List Int) : Nat → Bool
  | 0 => true
  | k + 1 => gK l k && (decide (l.getD k 0 ≥ 0) && (decide (l.getD k 0 < 5) && ((((k : Nat) : Int) == 0) || decide (l.getD (pv k).toNat 0 < l.getD k 0))))
theorem gK_succ (l : List Int) (k : Nat) : gK l (k + 1) = (gK l k && (decide (l.getD k 0 ≥ 0) && (decide (l.getD k 0 < 5) && ((((k : Nat) : Int) == 0) || decide (l.getD (pv k).toNat 0 < l.getD k 0))))) := rfl
theorem gK_false {l : List Int} {k : Nat} : ∀ {n : Nat}, gK l (k + 1) = false → k + 1 ≤ n → gK l n = false
  | 0, _, h => by omega
  | n + 1, h, hn => by
    by_cases e : k + 1 = n + 1
    · rw [← e]; exact h
    · rw [gK_succ, gK_false (n := n) h (by omega)]; rfl

noncomputable def lMem : Code := (theLoop Tryz.prog 55 3).getD .skip
theorem lMem_eq : theLoop Tryz.prog 55 3 = some lMem := by kernel_rfl
noncomputable def lRMem : Code := (theLoop Tryz.prog 58 2).getD .skip
theorem lRMem_eq : theLoop Tryz.prog 58 2 = some lRMem := by kernel_rfl

theorem mem_loop (l : List Int) (hl : l.length ≤ maxLen) :
    LoopOk Tryz.prog lMem 39 [8, 3] [0, 6, 7] [vI 0, vB true] [vL cI l, vL cI l, vI l.length] [] (.exit 0) [vX, vB (gK l l.length)] [] := by
  unfold maxLen at hl
  refine LoopOk.rounds (S := Nat) E0 lMem_eq (by kernel_rfl) (fun k => [vI k, vB (gK l k)]) (fun k => []) (fun k => k ≤ l.length) (fun k => l.length - k) 0 (Nat.zero_le _) ?_ (fun _ _ => rfl)
  intro k hk
  have hki : decide (((k : Nat) : Int) < ((l.length : Nat) : Int)) = true → inB ((k : Nat) : Int) l.length = true := fun h => inB_of (by omega) (by simpa using h)
  have hpi : ((((k : Nat) : Int) == 0) : Bool) = false → decide (((k : Nat) : Int) < ((l.length : Nat) : Int)) = true → inB (pv k) l.length = true := fun h0 h => by
    have h0 : ¬ ((k : Nat) : Int) = 0 := by simpa using h0
    have h : ((k : Nat) : Int) < ((l.length : Nat) : Int) := by simpa using h
    unfold pv; rw [wrap64 (by omega) (by omega)]; exact inB_of (by omega) (by omega)
  have hw : decide (((k : Nat) : Int) < ((l.length : Nat) : Int)) = true → IntKind.i64.wrap (((k : Nat) : Int) + 1) = ((k + 1 : Nat) : Int) := fun h => by
    have h : ((k : Nat) : Int) < ((l.length : Nat) : Int) := by simpa using h
    rw [wrap64 (by omega) (by omega)]; rfl
  have inv : decide (((k : Nat) : Int) < ((l.length : Nat) : Int)) = true → k + 1 ≤ l.length := fun h => by
    have h : ((k : Nat) : Int) < ((l.length : Nat) : Int) := by simpa using h
    omega
  have mu : decide (((k : Nat) : Int) < ((l.length : Nat) : Int)) = true → l.length - (k + 1) < l.length - k := fun h => by
    have h : ((k : Nat) : Int) < ((l.length : Nat) : Int) := by simpa using h
    omega
  have fin : decide (((k : Nat) : Int) < ((l.length : Nat) : Int)) = false → k = l.length := fun h => by
    have h : ¬ ((k : Nat) : Int) < ((l.length : Nat) : Int) := by simpa using h
    omega
  cases h1 : (decide (((k : Nat) : Int) < ((l.length : Nat) : Int)) : Bool) with
  | true =>
    cases h2 : (gK l k : Bool) with
    | true =>
      cases h3 : (decide (l.getD k 0 ≥ 0) : Bool) with
      | true =>
        cases h4 : (decide (l.getD k 0 < 5) : Bool) with
        | true =>
          cases h5 : (((k : Nat) : Int) == 0 : Bool) with
          | true =>
            (refine OneRound.go [true, true, true, true, true, true, true, true, true, true, true, true, true, true, true, true, true, true, true, true, true] (vs := [(.one (.int .i64 (IntKind.i64.wrap (((k : Nat) : Int) + 1)))), (.one (.bool true))]) (hp' := []) (cs := [decide (l.getD k 0 < 5) == true, (((k : Nat) : Int) == 0) == true, decide (l.getD k 0 < 5) == true, (((k : Nat) : Int) == 0) == true, (((k : Nat) : Int) == 0) == true, (((k : Nat) : Int) == 0) == true, (((k : Nat) : Int) == 0) == true, (((k : Nat) : Int) == 0) == true, (((k : Nat) : Int) == 0) == true, (((k : Nat) : Int) == 0) == true, decide (l.getD k 0 < 5) == true, decide (l.getD k 0 < 5) == true, decide (l.getD k 0 < 5) == true, gK l k == true, decide (l.getD k 0 ≥ 0) == true, decide (l.getD k 0 ≥ 0) == true, decide (l.getD k 0 ≥ 0) == true, decide (l.getD k 0 ≥ 0) == true, gK l k == true, gK l k == true, inB (((k : Nat) : Int)) l.length, decide (((k : Nat) : Int) < ((l.length : Nat) : Int)) == true]) (fun rest => by kernel_rfl) (allI (by first | (simp only [h1, h2, h3, h4, h5, hki h1]; rfl) | (simp only [h1, h2, h3, h4, h5, hki h1, hpi h5 h1]; rfl))) (k + 1) (inv h1) (mu h1) ⟨.of_eq (by rw [hw h1]), .of_eq (by rw [gK_succ]; simp only [h1, h2, h3, h4, h5]; rfl), trivial⟩ rfl (.inl (Nat.le_refl _)))
          | false =>
            (refine OneRound.go [true, true, true, true, true, true, true, true, true, true, true, false, false, false, false, false, false, false, true, false, true] (vs := [(.one (.int .i64 (IntKind.i64.wrap (((k : Nat) : Int) + 1)))), (.one (.bool (decide (l.getD (pv k).toNat 0 < l.getD k 0))))]) (hp' := []) (cs := [decide (l.getD k 0 < 5) == true, (((k : Nat) : Int) == 0) == false, decide (l.getD k 0 < 5) == true, (((k : Nat) : Int) == 0) == false, (((k : Nat) : Int) == 0) == false, (((k : Nat) : Int) == 0) == false, inB (pv k) l.length, (((k : Nat) : Int) == 0) == false, (((k : Nat) : Int) == 0) == false, (((k : Nat) : Int) == 0) == false, (((k : Nat) : Int) == 0) == false, decide (l.getD k 0 < 5) == true, decide (l.getD k 0 < 5) == true, decide (l.getD k 0 < 5) == true, gK l k == true, decide (l.getD k 0 ≥ 0) == true, decide (l.getD k 0 ≥ 0) == true, decide (l.getD k 0 ≥ 0) == true, decide (l.getD k 0 ≥ 0) == true, gK l k == true, gK l k == true, inB (((k : Nat) : Int)) l.length, decide (((k : Nat) : Int) < ((l.length : Nat) : Int)) == true]) (fun rest => by kernel_rfl) (allI (by first | (simp only [h1, h2, h3, h4, h5, hki h1]; rfl) | (simp only [h1, h2, h3, h4, h5, hki h1, hpi h5 h1]; rfl))) (k + 1) (inv h1) (mu h1) ⟨.of_eq (by rw [hw h1]), .of_eq (by rw [gK_succ]; simp only [h1, h2, h3, h4, h5]; rfl), trivial⟩ rfl (.inl (Nat.le_refl _)))
        | false =>
          (refine OneRound.go [true, true, true, true, true, true, true, true, false, false, false, false, false] (vs := [(.one (.int .i64 (IntKind.i64.wrap (((k : Nat) : Int) + 1)))), (.one (.bool false))]) (hp' := []) (cs := [decide (l.getD k 0 < 5) == false, decide (l.getD k 0 < 5) == false, decide (l.getD k 0 < 5) == false, decide (l.getD k 0 < 5) == false, decide (l.getD k 0 < 5) == false, gK l k == true, decide (l.getD k 0 ≥ 0) == true, decide (l.getD k 0 ≥ 0) == true, decide (l.getD k 0 ≥ 0) == true, decide (l.getD k 0 ≥ 0) == true, gK l k == true, gK l k == true, inB (((k : Nat) : Int)) l.length, decide (((k : Nat) : Int) < ((l.length : Nat) : Int)) == true]) (fun rest => by kernel_rfl) (allI (by first | (simp only [h1, h2, h3, h4, hki h1]; rfl) | (simp only [h1, h2, h3, h4, hki h1, hpi h5 h1]; rfl))) (k + 1) (inv h1) (mu h1) ⟨.of_eq (by rw [hw h1]), .of_eq (by rw [gK_succ]; simp only [h1, h2, h3, h4]; rfl), trivial⟩ rfl (.inl (Nat.le_refl _)))
      | false =>
        (refine OneRound.go [true, true, true, false, false, false, false, true, false, false, false, false, false] (vs := [(.one (.int .i64 (IntKind.i64.wrap (((k : Nat) : Int) + 1)))), (.one (.bool false))]) (hp' := []) (cs := [false == false, false == false, false == false, false == false, false == false, gK l k == true, decide (l.getD k 0 ≥ 0) == false, decide (l.getD k 0 ≥ 0) == false, decide (l.getD k 0 ≥ 0) == false, decide (l.getD k 0 ≥ 0) == false, gK l k == true, gK l k == true, inB (((k : Nat) : Int)) l.length, decide (((k : Nat) : Int) < ((l.length : Nat) : Int)) == true]) (fun rest => by kernel_rfl) (allI (by first | (simp only [h1, h2, h3, hki h1]; rfl) | (simp only [h1, h2, h3, hki h1, hpi h5 h1]; rfl))) (k + 1) (inv h1) (mu h1) ⟨.of_eq (by rw [hw h1]), .of_eq (by rw [gK_succ]; simp only [h1, h2, h3]; rfl), trivial⟩ rfl (.inl (Nat.le_refl _)))
    | false =>
      (refine OneRound.go [true, false, false, false, false, false, false, false, false] (vs := [(.one (.int .i64 (IntKind.i64.wrap (((k : Nat) : Int) + 1)))), (.one (.bool false))]) (hp' := []) (cs := [false == false, false == false, false == false, false == false, false == false, gK l k == false, gK l k == false, gK l k == false, inB (((k : Nat) : Int)) l.length, decide (((k : Nat) : Int) < ((l.length : Nat) : Int)) == true]) (fun rest => by kernel_rfl) (allI (by first | (simp only [h1, h2, hki h1]; rfl) | (simp only [h1, h2, hki h1, hpi h5 h1]; rfl))) (k + 1) (inv h1) (mu h1) ⟨.of_eq (by rw [hw h1]), .of_eq (by rw [gK_succ]; simp only [h1, h2]; rfl), trivial⟩ rfl (.inl (Nat.le_refl _)))
  | false =>
    (refine OneRound.stop [false] (vs := [(.one (.int .i64 ((k : Nat) : Int))), (.one (.bool (gK l k)))]) (hp' := []) (cs := [decide (((k : Nat) : Int) < ((l.length : Nat) : Int)) == false]) (fun rest => by kernel_rfl) (allI (by simp only [h1]; rfl)) (by simp) ⟨.unk, .of_eq (by rw [fin h1]), trivial⟩ rfl (.inl (Nat.le_refl _)))

theorem rmem_loop (l : List Int) (hl : l.length ≤ maxLen) :
    (gK l l.length = true → LoopOk Tryz.prog lRMem 35 [3, 2] [0] [vI 0, vI 0] [vL cI l] [] (.exit 0) [vX, vI 0] []) ∧
    (gK l l.length = false → LoopOk Tryz.prog lRMem 35 [3, 2] [0] [vI 0, vI 0] [vL cI l] [] .ret [vX, vI 2] []) := by
  unfold maxLen at hl
  refine ⟨fun hf => ?_, fun hf => ?_⟩
  all_goals
    refine LoopOk.rounds (S := Nat) E0 lRMem_eq (by kernel_rfl) (fun k => [vI k, vI 0]) (fun k => []) (fun k => k ≤ l.length ∧ gK l k = true) (fun k => l.length - k) 0 ⟨Nat.zero_le _, rfl⟩ ?_ (fun _ _ => rfl)
    intro k ⟨hk, hg⟩
    have hki : decide (((k : Nat) : Int) < ((l.length : Nat) : Int)) = true → inB ((k : Nat) : Int) l.length = true := fun h => inB_of (by omega) (by simpa using h)
    have hpi' : decide (((k : Nat) : Int) > 0) = true → decide (((k : Nat) : Int) < ((l.length : Nat) : Int)) = true → inB (pv k) l.length = true := fun h0 h => by
      have h0 : ((k : Nat) : Int) > 0 := by simpa using h0
      have h : ((k : Nat) : Int) < ((l.length : Nat) : Int) := by simpa using h
      unfold pv; rw [wrap64 (by omega) (by omega)]; exact inB_of (by omega) (by omega)
    have hw : decide (((k : Nat) : Int) < ((l.length : Nat) : Int)) = true → IntKind.i64.wrap (((k : Nat) : Int) + 1) = ((k + 1 : Nat) : Int) := fun h => by
      have h : ((k : Nat) : Int) < ((l.length : Nat) : Int) := by simpa using h
      rw [wrap64 (by omega) (by omega)]; rfl
    have inv : decide (((k : Nat) : Int) < ((l.length : Nat) : Int)) = true → k + 1 ≤ l.length := fun h => by
      have h : ((k : Nat) : Int) < ((l.length : Nat) : Int) := by simpa using h
      omega
    have mu : decide (((k : Nat) : Int) < ((l.length : Nat) : Int)) = true → l.length - (k + 1) < l.length - k := fun h => by
      have h : ((k : Nat) : Int) < ((l.length : Nat) : Int) := by simpa using h
      omega
    have fin : decide (((k : Nat) : Int) < ((l.length : Nat) : Int)) = false → k = l.length := fun h => by
      have h : ¬ ((k : Nat) : Int) < ((l.length : Nat) : Int) := by simpa using h
      omega
    cases h1 : (decide (((k : Nat) : Int) < ((l.length : Nat) : Int)) : Bool) with
    | true =>
      cases h2 : (decide (l.getD k 0 ≥ 0) : Bool) with
      | true =>
        cases h3 : (decide (l.getD k 0 < 5) : Bool) with
        | true =>
          cases h4 : (decide (((k : Nat) : Int) > 0) : Bool) with
          | true =>
            cases h5 : (decide (l.getD (pv k).toNat 0 ≥ l.getD k 0) : Bool) with
            | true =>
              (first | (have q := gK_false (l := l) (k := k) (n := l.length) (by have q := hg; rw [gK_succ, q]; clear q; rw [Bool.eq_false_iff]; intro e; simp only [Bool.true_and, Bool.and_eq_true, Bool.or_eq_true, decide_eq_true_eq, decide_eq_false_iff_not, beq_iff_eq] at *; omega) (inv h1); exact Bool.noConfusion (q.symm.trans hf)) | (rw [fin h1] at hg; exact Bool.noConfusion (hg.symm.trans hf)) | (exact OneRound.stop [true, true, true, true, false, false, false, true, true, true, true, true, true, true, true, true, true, false, true, false, true] (vs := [(.one (.int .i64 ((k : Nat) : Int))), (.one (.int .i64 (2)))]) (hp' := []) (cs := [decide (l.getD (pv k).toNat 0 ≥ l.getD k 0) == true, (!decide (l.getD k 0 < 5)) == false, decide (((k : Nat) : Int) > 0) == true, (!decide (l.getD k 0 < 5)) == false, decide (((k : Nat) : Int) > 0) == true, decide (((k : Nat) : Int) > 0) == true, inB (((k : Nat) : Int)) l.length, decide (((k : Nat) : Int) > 0) == true, decide (((k : Nat) : Int) > 0) == true, decide (((k : Nat) : Int) > 0) == true, decide (((k : Nat) : Int) > 0) == true, inB (pv k) l.length, decide (((k : Nat) : Int) > 0) == true, decide (((k : Nat) : Int) > 0) == true, decide (((k : Nat) : Int) > 0) == true, decide (((k : Nat) : Int) > 0) == true, (!decide (l.getD k 0 < 5)) == false, (!decide (l.getD k 0 < 5)) == false, (!decide (l.getD k 0 < 5)) == false, decide (l.getD k 0 ≥ 0) == true, decide (l.getD k 0 ≥ 0) == true, decide (l.getD k 0 ≥ 0) == true, inB (((k : Nat) : Int)) l.length, decide (((k : Nat) : Int) < ((l.length : Nat) : Int)) == true]) (fun rest => by kernel_rfl) (allI (by first | (simp only [h1, h2, h3, h4, h5]; rfl) | (simp only [h1, h2, h3, h4, h5, hki h1]; rfl) | (simp only [h1, h2, h3, h4, h5, hki h1, hpi' h4 h1]; rfl))) (by simp) ⟨.unk, .refl, trivial⟩ rfl (.inl (Nat.le_refl _))))
            | false =>
              (refine OneRound.go [true, true, true, true, false, false, false, true, true, true, true, true, true, true, true, true, true, false, true, false, false] (vs := [(.one (.int .i64 (IntKind.i64.wrap (((k : Nat) : Int) + 1)))), (.one (.int .i64 (0)))]) (hp' := []) (cs := [decide (l.getD (pv k).toNat 0 ≥ l.getD k 0) == false, (!decide (l.getD k 0 < 5)) == false, decide (((k : Nat) : Int) > 0) == true, (!decide (l.getD k 0 < 5)) == false, decide (((k : Nat) : Int) > 0) == true, decide (((k : Nat) : Int) > 0) == true, inB (((k : Nat) : Int)) l.length, decide (((k : Nat) : Int) > 0) == true, decide (((k : Nat) : Int) > 0) == true, decide (((k : Nat) : Int) > 0) == true, decide (((k : Nat) : Int) > 0) == true, inB (pv k) l.length, decide (((k : Nat) : Int) > 0) == true, decide (((k : Nat) : Int) > 0) == true, decide (((k : Nat) : Int) > 0) == true, decide (((k : Nat) : Int) > 0) == true, (!decide (l.getD k 0 < 5)) == false, (!decide (l.getD k 0 < 5)) == false, (!decide (l.getD k 0 < 5)) == false, decide (l.getD k 0 ≥ 0) == true, decide (l.getD k 0 ≥ 0) == true, decide (l.getD k 0 ≥ 0) == true, inB (((k : Nat) : Int)) l.length, decide (((k : Nat) : Int) < ((l.length : Nat) : Int)) == true]) (fun rest => by kernel_rfl) (allI (by first | (simp only [h1, h2, h3, h4, h5, hki h1]; rfl) | (simp only [h1, h2, h3, h4, h5, hki h1, hpi' h4 h1]; rfl))) (k + 1) ⟨inv h1, by have q := hg; rw [gK_succ, q]; clear q; simp only [Bool.true_and, Bool.and_eq_true, Bool.or_eq_true, decide_eq_true_eq, decide_eq_false_iff_not, beq_iff_eq] at *; omega⟩ (mu h1) ⟨.of_eq (by rw [hw h1]), .refl, trivial⟩ rfl (.inl (Nat.le_refl _)))
          | false =>
            (refine OneRound.go [true, true, true, true, false, false, false, false, false, false, false, false, false, false, false, false, false, false, false, false, false] (vs := [(.one (.int .i64 (IntKind.i64.wrap (((k : Nat) : Int) + 1)))), (.one (.int .i64 (0)))]) (hp' := []) (cs := [false == false, (!decide (l.getD k 0 < 5)) == false, decide (((k : Nat) : Int) > 0) == false, (!decide (l.getD k 0 < 5)) == false, decide (((k : Nat) : Int) > 0) == false, decide (((k : Nat) : Int) > 0) == false, decide (((k : Nat) : Int) > 0) == false, decide (((k : Nat) : Int) > 0) == false, decide (((k : Nat) : Int) > 0) == false, decide (((k : Nat) : Int) > 0) == false, decide (((k : Nat) : Int) > 0) == false, decide (((k : Nat) : Int) > 0) == false, decide (((k : Nat) : Int) > 0) == false, decide (((k : Nat) : Int) > 0) == false, (!decide (l.getD k 0 < 5)) == false, (!decide (l.getD k 0 < 5)) == false, (!decide (l.getD k 0 < 5)) == false, decide (l.getD k 0 ≥ 0) == true, decide (l.getD k 0 ≥ 0) == true, decide (l.getD k 0 ≥ 0) == true, inB (((k : Nat) : Int)) l.length, decide (((k : Nat) : Int) < ((l.length : Nat) : Int)) == true]) (fun rest => by kernel_rfl) (allI (by first | (simp only [h1, h2, h3, h4, hki h1]; rfl) | (simp only [h1, h2, h3, h4, hki h1, hpi' h4 h1]; rfl))) (k + 1) ⟨inv h1, by have q := hg; rw [gK_succ, q]; clear q; simp only [Bool.true_and, Bool.and_eq_true, Bool.or_eq_true, decide_eq_true_eq, decide_eq_false_iff_not, beq_iff_eq] at *; omega⟩ (mu h1) ⟨.of_eq (by rw [hw h1]), .refl, trivial⟩ rfl (.inl (Nat.le_refl _)))
        | false =>
          (first | (have q := gK_false (l := l) (k := k) (n := l.length) (by have q := hg; rw [gK_succ, q]; clear q; rw [Bool.eq_false_iff]; intro e; simp only [Bool.true_and, Bool.and_eq_true, Bool.or_eq_true, decide_eq_true_eq, decide_eq_false_iff_not, beq_iff_eq] at *; omega) (inv h1); exact Bool.noConfusion (q.symm.trans hf)) | (rw [fin h1] at hg; exact Bool.noConfusion (hg.symm.trans hf)) | (exact OneRound.stop [true, true, true, true, true, true, true, true, true, true] (vs := [(.one (.int .i64 ((k : Nat) : Int))), (.one (.int .i64 (2)))]) (hp' := []) (cs := [true == true, (!decide (l.getD k 0 < 5)) == true, (!decide (l.getD k 0 < 5)) == true, (!decide (l.getD k 0 < 5)) == true, (!decide (l.getD k 0 < 5)) == true, (!decide (l.getD k 0 < 5)) == true, decide (l.getD k 0 ≥ 0) == true, decide (l.getD k 0 ≥ 0) == true, decide (l.getD k 0 ≥ 0) == true, inB (((k : Nat) : Int)) l.length, decide (((k : Nat) : Int) < ((l.length : Nat) : Int)) == true]) (fun rest => by kernel_rfl) (allI (by first | (simp only [h1, h2, h3]; rfl) | (simp only [h1, h2, h3, hki h1]; rfl) | (simp only [h1, h2, h3, hki h1, hpi' h4 h1]; rfl))) (by simp) ⟨.unk, .refl, trivial⟩ rfl (.inl (Nat.le_refl _))))
      | false =>
        (first | (have q := gK_false (l := l) (k := k) (n := l.length) (by have q := hg; rw [gK_succ, q]; clear q; rw [Bool.eq_false_iff]; intro e; simp only [Bool.true_and, Bool.and_eq_true, Bool.or_eq_true, decide_eq_true_eq, decide_eq_false_iff_not, beq_iff_eq] at *; omega) (inv h1); exact Bool.noConfusion (q.symm.trans hf)) | (rw [fin h1] at hg; exact Bool.noConfusion (hg.symm.trans hf)) | (exact OneRound.stop [true, false, false, false, true] (vs := [(.one (.int .i64 ((k : Nat) : Int))), (.one (.int .i64 (2)))]) (hp' := []) (cs := [(!false) == true, decide (l.getD k 0 ≥ 0) == false, decide (l.getD k 0 ≥ 0) == false, decide (l.getD k 0 ≥ 0) == false, inB (((k : Nat) : Int)) l.length, decide (((k : Nat) : Int) < ((l.length : Nat) : Int)) == true]) (fun rest => by kernel_rfl) (allI (by first | (simp only [h1, h2]; rfl) | (simp only [h1, h2, hki h1]; rfl) | (simp only [h1, h2, hki h1, hpi' h4 h1]; rfl))) (by simp) ⟨.unk, .refl, trivial⟩ rfl (.inl (Nat.le_refl _))))
    | false =>
      (first | (have q := gK_false (l := l) (k := k) (n := l.length) (by have q := hg; rw [gK_succ, q]; clear q; rw [Bool.eq_false_iff]; intro e; simp only [Bool.true_and, Bool.and_eq_true, Bool.or_eq_true, decide_eq_true_eq, decide_eq_false_iff_not, beq_iff_eq] at *; omega) (inv h1); exact Bool.noConfusion (q.symm.trans hf)) | (rw [fin h1] at hg; exact Bool.noConfusion (hg.symm.trans hf)) | (exact OneRound.stop [false] (vs := [(.one (.int .i64 ((k : Nat) : Int))), (.one (.int .i64 (0)))]) (hp' := []) (cs := [decide (((k : Nat) : Int) < ((l.length : Nat) : Int)) == false]) (fun rest => by kernel_rfl) (allI (by first | (simp only [h1]; rfl) | (simp only [h1, hki h1]; rfl) | (simp only [h1, hki h1, hpi' h4 h1]; rfl))) (by simp) ⟨.unk, .refl, trivial⟩ rfl (.inl (Nat.le_refl _))))

noncomputable def EOm0 : Env Tryz.prog := (E0.addL 55 3 lMem_eq 39 [8, 3] [0, 6, 7] (by kernel_rfl)
  (fun vals rov hp os => match vals, rov, hp with
    | [.one (.int .i64 z), .one (.bool true)], [.one (.sl (.int .i64) l .shared), .one (.sl (.int .i64) l' .shared), .one (.int .i64 n)], [] =>
      retC (.exit 0, [vX, vB (gK l l.length)], []) [decide (z = 0), decide (l = l'), decide (n = l.length), decide (l.length ≤ maxLen)] os
    | _, _, _ => none)
  (fun vals rov hp os e outs hp' cs os' h hc => by
    split at h
    · rename_i z l l' n
      simp only [retC, Option.some.injEq, Prod.mk.injEq] at h
      obtain ⟨⟨rfl, rfl, rfl⟩, rfl, rfl⟩ := h
      obtain ⟨h1, hc⟩ := of_allTc hc
      obtain ⟨h3, hc⟩ := of_allTc hc
      obtain ⟨h4, hc⟩ := of_allTc hc
      obtain ⟨h5, _⟩ := of_allTc hc
      simp only [decide_eq_true_eq] at h1 h3 h4 h5
      subst h1; subst h3; subst h4
      exact mem_loop l h5
    · cases h)).addL 58 2 lRMem_eq 35 [3, 2] [0] (by kernel_rfl)
  (fun vals rov hp os => match vals, rov, hp with
    | [.one (.int .i64 z), .one (.int .i64 r)], [.one (.sl (.int .i64) l .shared)], [] => brL (gK l l.length) os (fun os => retC (.exit 0, [vX, vI 0], []) [decide (z = 0), decide (r = 0), decide (l.length ≤ maxLen)] os)
      (fun os => retC (.ret, [vX, vI 2], []) [decide (z = 0), decide (r = 0), decide (l.length ≤ maxLen)] os)
    | _, _, _ => none)
  (fun vals rov hp os e outs hp' cs os' h hc => by
    split at h
    · rename_i z r l
      rcases brL_some h hc with ⟨hb, o, c, h, hc⟩ | ⟨hb, o, c, h, hc⟩
      all_goals
        simp only [retC, Option.some.injEq, Prod.mk.injEq] at h
        obtain ⟨⟨rfl, rfl, rfl⟩, rfl, rfl⟩ := h
        obtain ⟨h1, hc⟩ := of_allTc hc
        obtain ⟨h2, hc⟩ := of_allTc hc
        obtain ⟨h5, _⟩ := of_allTc hc
        simp only [decide_eq_true_eq] at h1 h2 h5
        subst h1; subst h2
        first | exact (rmem_loop l h5).1 hb | exact (rmem_loop l h5).2 hb
    · cases h)
/-- So many of one, so many of the other, in turns. -/
def rl (b : Bool) : List Nat → List Bool
  | [] => []
  | n :: r => List.replicate n b ++ rl (!b) r
def rp (n : Nat) (x : Bool) (l : List Bool) : List Bool := List.replicate n x ++ l
open Go Go.Eng
def q1 (o : rOp.den) : Bool := o.1 == o.1 && (o.2.1 == o.2.1 && (o.2.2.1 == o.2.2.1 && (o.2.2.2.1 == (ByteArray.mk #[]) && (o.2.2.2.2.1 == false && (o.2.2.2.2.2.1 == (ByteArray.mk #[]) && true)))))
def q2 (o : rOp.den) : Bool := o.1 == o.1 && (o.2.1 == o.2.1 && (o.2.2.1 == o.2.2.1 && (o.2.2.2.1 == o.2.2.2.1 && (o.2.2.2.2.1 == false && (o.2.2.2.2.2.1 == (ByteArray.mk #[]) && true)))))
def q3 (o : rOp.den) : Bool := o.1 == o.1 && (o.2.1 == o.2.1 && (o.2.2.1 == o.2.2.1 && (o.2.2.2.1 == o.2.2.2.1 && (o.2.2.2.2.1 == o.2.2.2.2.1 && (o.2.2.2.2.2.1 == o.2.2.2.2.2.1 && true)))))
def q4 (o : rOp.den) : Bool := o.1 == o.1 && (o.2.1 == o.2.1 && (o.2.2.1 == o.2.2.1 && (o.2.2.2.1 == o.2.2.2.1 && (o.2.2.2.2.1 == o.2.2.2.2.1 && (o.2.2.2.2.2.1 == (ByteArray.mk #[]) && true)))))
end Go.Proofs.YtjplobgambnhjaaGreat
