/- The chapter's own helpers: own, Same, works; no statement. -/
import Derived.Test.YtcigjehfmiiolaaQchg
set_option linter.unusedVariables false
namespace Go.Proofs.Ytcigjehfmiiolaa
open Go Go.Eng

noncomputable def lSame : Code := (theLoop Try.prog 25 4).getD .skip
theorem lSame_eq : theLoop Try.prog 25 4 = some lSame := by kernel_rfl

theorem same_loop (l m : List Int) (hm : m.length = l.length) (sl sm : SM) (hl : l.length ≤ maxLen) :
    (decide (l = m) = true → LoopOk Try.prog lSame 26 [5, 4] [0, 1] [vI 0, vB false] [.one (.sl cI l sl), .one (.sl cI m sm)] [] (.exit 0) [vX, vB false] []) ∧
    (decide (l = m) = false → LoopOk Try.prog lSame 26 [5, 4] [0, 1] [vI 0, vB false] [.one (.sl cI l sl), .one (.sl cI m sm)] [] .ret [vX, vB false] []) := by
  unfold maxLen at hl
  refine ⟨fun hf => ?_, fun hf => ?_⟩
  all_goals
    refine LoopOk.rounds (S := Nat) E0 lSame_eq (by kernel_rfl) (fun k => [vI k, vB false]) (fun k => []) (fun k => k ≤ l.length ∧ ∀ j, j < k → l.getD j 0 = m.getD j 0) (fun k => l.length - k) 0 ⟨by omega, fun j hj => by omega⟩ ?_ (fun _ _ => rfl)
    intro k ⟨hk, hbefore⟩
    by_cases hlt : k < l.length
    · by_cases he : l.getD k 0 = m.getD k 0
      · refine OneRound.go [true, false] (vs := [vI (IntKind.i64.wrap (k + 1)), vB false]) (hp' := []) (cs := [(l.getD k 0 != m.getD k 0) == false, inB k m.length, inB k l.length, decide ((k : Int) < l.length) == true])
          (fun rest => by kernel_rfl) (allTc (by rw [he]; simp) (allTc (inB_of (by omega) (by omega)) (allTc (inB_of (by omega) (by omega)) (allT1 (dT (by omega)))))) (k + 1) ⟨by omega, fun j hj => ?_⟩ (by omega) ⟨.of_eq ?_, .refl, trivial⟩ rfl (.inl (Nat.le_refl _))
        · by_cases hjk : j < k
          · exact hbefore j hjk
          · have : j = k := by omega
            subst this; exact he
        · rw [wrap64 (by omega) (by omega)]; rfl
      · have hne : decide (l = m) = false := by
          rw [decide_eq_false_iff_not]; intro h; subst h; exact he rfl
        first
        | exact Bool.noConfusion (hne.symm.trans hf)
        | exact OneRound.stop [true, true] (vs := [vI k, vB false]) (hp' := []) (cs := [(l.getD k 0 != m.getD k 0) == true, inB k m.length, inB k l.length, decide ((k : Int) < l.length) == true])
            (fun rest => by kernel_rfl) (allTc (eqT (by simpa using he)) (allTc (inB_of (by omega) (by omega)) (allTc (inB_of (by omega) (by omega)) (allT1 (dT (by omega)))))) (by simp) ⟨.unk, .refl, trivial⟩ rfl (.inl (Nat.le_refl _))
    · have heq : decide (l = m) = true := by
        rw [decide_eq_true_eq]; exact eq_of_gets hm.symm fun j hj => hbefore j (by omega)
      first
      | exact Bool.noConfusion (heq.symm.trans hf)
      | exact OneRound.stop [false] (vs := [vI k, vB false]) (hp' := []) (cs := [decide ((k : Int) < l.length) == false]) (fun rest => by kernel_rfl) (allT1 (dF (by omega))) (by simp) ⟨.unk, .refl, trivial⟩ rfl (.inl (Nat.le_refl _))

noncomputable def ESame1 : Env Try.prog := E0.addLT 25 4 lSame_eq 26 [5, 4] [0, 1] (by kernel_rfl) [.one cI, .one .bool] [.sl cI, .sl cI]
  (fun (z, b, _) ((l, sl), (m, sm), _) hp os => brL (decide (l = m)) os
    (fun os => retC (.exit 0, [vX, vB false], []) [decide (z = 0), decide (b = false), decide (m.length = l.length ∧ l.length ≤ maxLen), hp.isEmpty] os)
    (fun os => retC (.ret, [vX, vB false], []) [decide (z = 0), decide (b = false), decide (m.length = l.length ∧ l.length ≤ maxLen), hp.isEmpty] os))
  (fun (z, b, _) ((l, sl), (m, sm), _) hp os e outs hp' cs os' h hc => by
    rcases brL_some h hc with ⟨hb, o, c, h, hc⟩ | ⟨hb, o, c, h, hc⟩
    all_goals
      simp only [retC, Option.some.injEq, Prod.mk.injEq] at h
      obtain ⟨⟨rfl, rfl, rfl⟩, rfl, rfl⟩ := h
      obtain ⟨h1, hc⟩ := of_allTc hc
      obtain ⟨h2, hc⟩ := of_allTc hc
      obtain ⟨h4, hc⟩ := of_allTc hc
      obtain ⟨h5, _⟩ := of_allTc hc
      have h5 := List.isEmpty_iff.1 h5
      simp only [decide_eq_true_eq] at h1 h2 h4
      subst h1; subst h2; subst h5
      first | exact (same_loop l m h4.1 sl sm h4.2).1 hb | exact (same_loop l m h4.1 sl sm h4.2).2 hb)

theorem same_pure (l m : List Int) : PureCall Try.prog 25 [vL cI l, vL cI m] (vB (decide (l = m))) := by
  refine PureCall.facts' (by kernel_rfl) fun ⟨X, vs, hX, hv⟩ => ?_
  have hlen := len_of hv 0 rfl
  by_cases hn : m.length = l.length
  · by_cases he : l = m
    · rw [decide_eq_true he]
      refine ESame1.pure_ok (os := [false, true]) (cs := [decide ((0 : Int) = 0), decide (false = false), decide (m.length = l.length ∧ l.length ≤ maxLen), true, decide (l = m) == true, ((l.length : Int) != m.length) == false]) (by kernel_rfl) (allI (by simp [hn, he, hlen]))
      
    · rw [decide_eq_false he]
      refine ESame1.pure_ok (os := [false, false]) (cs := [decide ((0 : Int) = 0), decide (false = false), decide (m.length = l.length ∧ l.length ≤ maxLen), true, decide (l = m) == false, ((l.length : Int) != m.length) == false]) (by kernel_rfl) (allI (by simp [hn, he, hlen]))
  · have he : l ≠ m := fun h => hn (by rw [h])
    rw [decide_eq_false he]
    refine ESame1.pure_ok (os := [true]) (cs := [((l.length : Int) != m.length) == true]) (by kernel_rfl) ?_
    exact allT1 (by simp; omega)

def len50 (n : Int) : Int := if 50 < n then 50 else n
def own50 (l : List Int) : List Int := List.drop 0 (List.take (len50 l.length).toNat l)
theorem len50_ok (n : Nat) : (0 : Int) ≤ 0 ∧ (0 : Int) ≤ len50 n ∧ len50 n ≤ n := by unfold len50; split <;> omega
theorem own50_eq (l : List Int) : own50 l = l.take 50 := by
  unfold own50 len50
  rw [List.drop_zero]
  split
  · rfl
  · rw [Int.toNat_natCast, List.take_length, List.take_of_length_le (by omega)]
theorem take50_len (l : List Int) : (l.take 50).length ≤ 50 := by rw [List.length_take]; omega
theorem own_pure (l : List Int) : PureCall Try.prog 11 [vL cI l] (vL cI (l.take 50)) := by
  have h50 := take50_len l
  cases h : (l.take 50).isEmpty with
  | true =>
    have e := List.isEmpty_iff.1 h
    rw [e]
    refine (EHas.pure_ok (os := [true]) (r := .one .nils) (cs := [(own50 l).isEmpty == true, decide ((0 : Int) ≤ 0 ∧ (0 : Int) ≤ len50 l.length ∧ len50 l.length ≤ (l.length : Nat))]) (by kernel_rfl) (allI ?_)).resw fun X v _ hv => ⟨none, 0, 0, hv, rfl, Nat.le_refl _, Nat.zero_le _, .inl rfl, trivial⟩
    rw [own50_eq, h, decide_eq_true (len50_ok l.length)]; rfl
  | false =>
    refine PureCall.res (EHas.pure_ok (os := [false]) (r := vL cI ([] ++ own50 l)) (cs := [Nat.ble ((0 + (own50 l).length) * 8) 140737488355328 && Nat.ble (0 + (own50 l).length) maxLen, (own50 l).isEmpty == false, decide ((0 : Int) ≤ 0 ∧ (0 : Int) ≤ len50 l.length ∧ len50 l.length ≤ (l.length : Nat))]) (by kernel_rfl) (allI ?_)) (by rw [List.nil_append, own50_eq])
    rw [own50_eq, h, decide_eq_true (len50_ok l.length)]
    simp only [List.all_cons, List.all_nil, Bool.and_true, beq_self_eq_true, Bool.and_eq_true, Nat.ble_eq, maxLen]
    omega

theorem works_pure : PureCall Try.prog 13 [] (vB true) := EHas.closedP (by kernel_rfl)
noncomputable def EOwn : Env Try.prog := (((((EHas.addT1 25 [.one (.sl cI), .one (.sl cI)] (fun d => vB (decide (d.1 = d.2.1))) (fun _ => []) fun d _ => same_pure d.1 d.2.1).addT1
  13 [] (fun _ => vB true) (fun _ => []) fun d _ => works_pure).addT1
  26 [.one (.sl cI), .one cI, .one cI] (fun d => tupC (chgV d.1 d.2.1 d.2.2.1) (chgE d.1 d.2.1 d.2.2.1)) (fun _ => []) fun d _ => chg_pure d.1 d.2.1 d.2.2.1).addT1
  27 [.one (.sl cI), .one cI, .one cI] (fun d => tupC (chgV d.1 d.2.1 d.2.2.1) (chgE d.1 d.2.1 d.2.2.1)) (fun _ => []) fun d _ => rchg_pure d.1 d.2.1 d.2.2.1)).addT1
  11 [.one (.sl cI)] (fun d => vL cI (d.1.take 50)) (fun _ => []) fun d _ => own_pure d.1
end Go.Proofs.Ytcigjehfmiiolaa
