/- The document's own words on members: May, Has; no statement. -/
import Derived.Test.YtcigjehfmiiolaaQmay
set_option linter.unusedVariables false
namespace Go.Proofs.Ytcigjehfmiiolaa
open Go Go.Eng

theorem sortI_iff : ∀ (l : List Int), sortI l = true ↔ ∀ j, j + 1 < l.length → l.getD j 0 < l.getD (j + 1) 0
  | [] => ⟨fun _ j hj => by simp at hj, fun _ => rfl⟩
  | [a] => ⟨fun _ j hj => by simp at hj, fun _ => rfl⟩
  | a :: b :: r => by
    have ih := sortI_iff (b :: r)
    simp only [sortI, Bool.and_eq_true, decide_eq_true_eq, ih]
    constructor
    · intro ⟨h1, h2⟩ j hj
      cases j with
      | zero => simpa using h1
      | succ j => simpa using h2 j (by simpa using hj)
    · intro h
      exact ⟨by simpa using h 0 (by simp), fun j hj => by simpa using h (j + 1) (by simpa using hj)⟩
theorem all5_iff {l : List Int} : l.all in5 = true ↔ ∀ j, j < l.length → 0 ≤ l.getD j 0 ∧ l.getD j 0 < 5 := by
  constructor
  · intro h j hj
    have := List.all_eq_true.1 h _ (List.mem_of_getElem? (getD_get (d := 0) hj))
    simpa [in5] using this
  · intro h
    exact all_of_get fun j x hj hx => by
      have := h j hj
      rw [getD_get (d := 0) hj] at hx
      injection hx with hx; subst hx
      simpa [in5] using this

noncomputable def lMay : Code := (theLoop Try.prog 30 2).getD .skip
theorem lMay_eq : theLoop Try.prog 30 2 = some lMay := by kernel_rfl
def goodI (l : List Int) : Bool := l.all in5 && sortI l

theorem may_loop (l : List Int) (hl : l.length ≤ maxLen) :
    (goodI l = true → LoopOk Try.prog lMay 41 [3, 2] [0] [vI 0, vB false] [vL cI l] [] (.exit 0) [vX, vB false] []) ∧
    (goodI l = false → LoopOk Try.prog lMay 41 [3, 2] [0] [vI 0, vB false] [vL cI l] [] .ret [vX, vB false] []) := by
  unfold maxLen at hl
  refine ⟨fun hf => ?_, fun hf => ?_⟩
  all_goals
    refine LoopOk.rounds (S := Nat) E0 lMay_eq (by kernel_rfl) (fun k => [vI k, vB false]) (fun k => []) (fun k => k ≤ l.length ∧ (∀ j, j < k → 0 ≤ l.getD j 0 ∧ l.getD j 0 < 5) ∧ ∀ j, j + 1 < k → l.getD j 0 < l.getD (j + 1) 0) (fun k => l.length - k) 0 ⟨by omega, fun j hj => by omega, fun j hj => by omega⟩ ?_ (fun _ _ => rfl)
    intro k ⟨hk, hb, hs⟩
    by_cases hlt : k < l.length
    · have hin : inB k l.length = true := inB_of (by omega) (by omega)
      by_cases hx : 0 ≤ l.getD k 0 ∧ l.getD k 0 < 5
      · have hd1 : ¬ l.getD k 0 < 0 := by omega
        have hd2 : ¬ l.getD k 0 ≥ 5 := by omega
        have hd3 : (k : Int) < l.length := by omega
        have hw : (IntKind.i64.wrap ((k : Int) + 1)) = ((k + 1 : Nat) : Int) := by rw [wrap64 (by omega) (by omega)]; rfl
        by_cases h0 : k = 0
        · have hd4 : ¬ (k : Int) > 0 := by omega
          refine OneRound.go [true,false,false,false,false,false,false,false,false,false,false,false,false,false,false,false,false,false,false,false,false,false,false,false] (vs := [(.one (.int .i64 (IntKind.i64.wrap (((k : Nat) : Int) + 1)))), (.one (.bool false))]) (hp' := []) (cs := [(false == false), (decide (l.getD k 0 ≥ 5) == false), (decide (((k : Nat) : Int) > 0) == false), (decide (l.getD k 0 ≥ 5) == false), (decide (((k : Nat) : Int) > 0) == false), (decide (((k : Nat) : Int) > 0) == false), (decide (((k : Nat) : Int) > 0) == false), (decide (((k : Nat) : Int) > 0) == false), (decide (((k : Nat) : Int) > 0) == false), (decide (((k : Nat) : Int) > 0) == false), (decide (((k : Nat) : Int) > 0) == false), (decide (((k : Nat) : Int) > 0) == false), (decide (((k : Nat) : Int) > 0) == false), (decide (((k : Nat) : Int) > 0) == false), (decide (l.getD k 0 ≥ 5) == false), (decide (l.getD k 0 ≥ 5) == false), (decide (l.getD k 0 ≥ 5) == false), (decide (l.getD k 0 < 0) == false), (decide (l.getD k 0 < 0) == false), (decide (l.getD k 0 < 0) == false), (inB (((k : Nat) : Int)) l.length), (decide (l.getD k 0 < 0) == false), (decide (l.getD k 0 < 0) == false), (decide (l.getD k 0 < 0) == false), (inB (((k : Nat) : Int)) l.length), (decide (((k : Nat) : Int) < ((l.length : Nat) : Int)) == true)])
            (fun rest => by kernel_rfl) (allI (by simp only [decide_eq_false hd1, decide_eq_false hd2, decide_eq_true hd3, decide_eq_false hd4, hin]; rfl)) (k + 1) ⟨by omega, fun j hj => ?_, fun j hj => by omega⟩ (by omega) ⟨.of_eq (by rw [hw]), .refl, trivial⟩ rfl (.inl (Nat.le_refl _))
          have : j = k := by omega
          subst this; exact hx
        · have hd4 : (k : Int) > 0 := by omega
          have hv : IntKind.i64.wrap ((k : Int) - 1) = ((k - 1 : Nat) : Int) := by rw [wrap64 (by omega) (by omega)]; omega
          have hin2 : inB (IntKind.i64.wrap ((k : Int) - 1)) l.length = true := by rw [hv]; exact inB_of (by omega) (by omega)
          have hv2 : (IntKind.i64.wrap ((k : Int) - 1)).toNat = k - 1 := by rw [hv]; rfl
          by_cases hq : l.getD (k - 1) 0 < l.getD k 0
          · have hd5 : ¬ l.getD (IntKind.i64.wrap ((k : Int) - 1)).toNat 0 ≥ l.getD k 0 := by rw [hv2]; omega
            refine OneRound.go [true,false,false,false,false,false,false,false,false,false,true,true,true,true,true,true,true,true,true,true,false,true,false,false] (vs := [(.one (.int .i64 (IntKind.i64.wrap (((k : Nat) : Int) + 1)))), (.one (.bool false))]) (hp' := []) (cs := [(decide (l.getD (IntKind.i64.wrap (((k : Nat) : Int) - 1)).toNat 0 ≥ l.getD k 0) == false), (decide (l.getD k 0 ≥ 5) == false), (decide (((k : Nat) : Int) > 0) == true), (decide (l.getD k 0 ≥ 5) == false), (decide (((k : Nat) : Int) > 0) == true), (decide (((k : Nat) : Int) > 0) == true), (inB (((k : Nat) : Int)) l.length), (decide (((k : Nat) : Int) > 0) == true), (decide (((k : Nat) : Int) > 0) == true), (decide (((k : Nat) : Int) > 0) == true), (decide (((k : Nat) : Int) > 0) == true), (inB (IntKind.i64.wrap (((k : Nat) : Int) - 1)) l.length), (decide (((k : Nat) : Int) > 0) == true), (decide (((k : Nat) : Int) > 0) == true), (decide (((k : Nat) : Int) > 0) == true), (decide (((k : Nat) : Int) > 0) == true), (decide (l.getD k 0 ≥ 5) == false), (decide (l.getD k 0 ≥ 5) == false), (decide (l.getD k 0 ≥ 5) == false), (decide (l.getD k 0 < 0) == false), (decide (l.getD k 0 < 0) == false), (decide (l.getD k 0 < 0) == false), (inB (((k : Nat) : Int)) l.length), (decide (l.getD k 0 < 0) == false), (decide (l.getD k 0 < 0) == false), (decide (l.getD k 0 < 0) == false), (inB (((k : Nat) : Int)) l.length), (decide (((k : Nat) : Int) < ((l.length : Nat) : Int)) == true)])
              (fun rest => by kernel_rfl) (allI (by simp only [decide_eq_false hd1, decide_eq_false hd2, decide_eq_true hd3, decide_eq_true hd4, decide_eq_false hd5, hin, hin2]; rfl)) (k + 1) ⟨by omega, fun j hj => ?_, fun j hj => ?_⟩ (by omega) ⟨.of_eq (by rw [hw]), .refl, trivial⟩ rfl (.inl (Nat.le_refl _))
            · by_cases hjk : j < k
              · exact hb j hjk
              · have : j = k := by omega
                subst this; exact hx
            · by_cases hjk : j + 1 < k
              · exact hs j hjk
              · have e1 : j = k - 1 := by omega
                have e2 : j + 1 = k := by omega
                rw [e2, e1]; exact hq
          · have hd5 : l.getD (IntKind.i64.wrap ((k : Int) - 1)).toNat 0 ≥ l.getD k 0 := by rw [hv2]; omega
            have hg : goodI l = false := by
              cases e : goodI l with
              | false => rfl
              | true =>
                simp only [goodI, Bool.and_eq_true] at e
                have := (sortI_iff l).1 e.2 (k - 1) (by omega)
                rw [show k - 1 + 1 = k by omega] at this
                exact absurd this hq
            first
            | exact Bool.noConfusion (hg.symm.trans hf)
            | exact OneRound.stop [true,false,false,false,false,false,false,false,false,false,true,true,true,true,true,true,true,true,true,true,false,true,false,true] (vs := [(.one (.int .i64 ((k : Nat) : Int))), (.one (.bool false))]) (hp' := []) (cs := [(decide (l.getD (IntKind.i64.wrap (((k : Nat) : Int) - 1)).toNat 0 ≥ l.getD k 0) == true), (decide (l.getD k 0 ≥ 5) == false), (decide (((k : Nat) : Int) > 0) == true), (decide (l.getD k 0 ≥ 5) == false), (decide (((k : Nat) : Int) > 0) == true), (decide (((k : Nat) : Int) > 0) == true), (inB (((k : Nat) : Int)) l.length), (decide (((k : Nat) : Int) > 0) == true), (decide (((k : Nat) : Int) > 0) == true), (decide (((k : Nat) : Int) > 0) == true), (decide (((k : Nat) : Int) > 0) == true), (inB (IntKind.i64.wrap (((k : Nat) : Int) - 1)) l.length), (decide (((k : Nat) : Int) > 0) == true), (decide (((k : Nat) : Int) > 0) == true), (decide (((k : Nat) : Int) > 0) == true), (decide (((k : Nat) : Int) > 0) == true), (decide (l.getD k 0 ≥ 5) == false), (decide (l.getD k 0 ≥ 5) == false), (decide (l.getD k 0 ≥ 5) == false), (decide (l.getD k 0 < 0) == false), (decide (l.getD k 0 < 0) == false), (decide (l.getD k 0 < 0) == false), (inB (((k : Nat) : Int)) l.length), (decide (l.getD k 0 < 0) == false), (decide (l.getD k 0 < 0) == false), (decide (l.getD k 0 < 0) == false), (inB (((k : Nat) : Int)) l.length), (decide (((k : Nat) : Int) < ((l.length : Nat) : Int)) == true)])
                (fun rest => by kernel_rfl) (allI (by simp only [decide_eq_false hd1, decide_eq_false hd2, decide_eq_true hd3, decide_eq_true hd4, decide_eq_true hd5, hin, hin2]; rfl)) (by simp) ⟨.unk, .refl, trivial⟩ rfl (.inl (Nat.le_refl _))
      · have hg : goodI l = false := by
          cases e : goodI l with
          | false => rfl
          | true =>
            simp only [goodI, Bool.and_eq_true] at e
            exact absurd (all5_iff.1 e.1 k hlt) hx
        have hd3 : (k : Int) < l.length := by omega
        first
        | exact Bool.noConfusion (hg.symm.trans hf)
        | by_cases h0 : l.getD k 0 < 0
          · exact OneRound.stop [true,true,true,true,true,true,true,true,true,true,true,true,true] (vs := [(.one (.int .i64 ((k : Nat) : Int))), (.one (.bool false))]) (hp' := []) (cs := [(true == true), (true == true), (true == true), (true == true), (true == true), (true == true), (decide (l.getD k 0 < 0) == true), (decide (l.getD k 0 < 0) == true), (decide (l.getD k 0 < 0) == true), (decide (l.getD k 0 < 0) == true), (decide (l.getD k 0 < 0) == true), (decide (l.getD k 0 < 0) == true), (inB (((k : Nat) : Int)) l.length), (decide (((k : Nat) : Int) < ((l.length : Nat) : Int)) == true)])
              (fun rest => by kernel_rfl) (allI (by simp only [decide_eq_true h0, decide_eq_true hd3, hin]; rfl)) (by simp) ⟨.unk, .refl, trivial⟩ rfl (.inl (Nat.le_refl _))
          · have h5 : l.getD k 0 ≥ 5 := by omega
            exact OneRound.stop [true,false,false,false,false,false,false,true,true,true,true,true,true] (vs := [(.one (.int .i64 ((k : Nat) : Int))), (.one (.bool false))]) (hp' := []) (cs := [(true == true), (decide (l.getD k 0 ≥ 5) == true), (decide (l.getD k 0 ≥ 5) == true), (decide (l.getD k 0 ≥ 5) == true), (decide (l.getD k 0 ≥ 5) == true), (decide (l.getD k 0 ≥ 5) == true), (decide (l.getD k 0 < 0) == false), (decide (l.getD k 0 < 0) == false), (decide (l.getD k 0 < 0) == false), (inB (((k : Nat) : Int)) l.length), (decide (l.getD k 0 < 0) == false), (decide (l.getD k 0 < 0) == false), (decide (l.getD k 0 < 0) == false), (inB (((k : Nat) : Int)) l.length), (decide (((k : Nat) : Int) < ((l.length : Nat) : Int)) == true)])
              (fun rest => by kernel_rfl) (allI (by simp only [decide_eq_false h0, decide_eq_true h5, decide_eq_true hd3, hin]; rfl)) (by simp) ⟨.unk, .refl, trivial⟩ rfl (.inl (Nat.le_refl _))
    · have hkl : k = l.length := by omega
      have hg : goodI l = true := by
        simp only [goodI, Bool.and_eq_true]
        exact ⟨all5_iff.2 fun j hj => hb j (by omega), (sortI_iff l).2 fun j hj => hs j (by omega)⟩
      first
      | exact Bool.noConfusion (hg.symm.trans hf)
      | exact OneRound.stop [false] (vs := [vI k, vB false]) (hp' := []) (cs := [decide ((k : Int) < l.length) == false]) (fun rest => by kernel_rfl) (allT1 (dF (by omega))) (by simp) ⟨.unk, .refl, trivial⟩ rfl (.inl (Nat.le_refl _))

noncomputable def EMay1 : Env Try.prog := EMay.addL 30 2 lMay_eq 41 [3, 2] [0] (by kernel_rfl)
  (fun vals rov hp os => match vals, rov, hp with
    | [.one (.int .i64 z), .one (.bool false)], [.one (.sl (.int .i64) l .shared)], [] =>
      brL (goodI l) os (fun os => retC (.exit 0, [vX, vB false], []) [decide (z = 0), decide (l.length ≤ maxLen)] os)
        (fun os => retC (.ret, [vX, vB false], []) [decide (z = 0), decide (l.length ≤ maxLen)] os)
    | _, _, _ => none)
  (fun vals rov hp os e outs hp' cs os' h hc => by
    split at h
    · rcases brL_some h hc with ⟨hb, o, c, h, hc⟩ | ⟨hb, o, c, h, hc⟩
      all_goals
        simp only [retC, Option.some.injEq, Prod.mk.injEq] at h
        obtain ⟨⟨rfl, rfl, rfl⟩, rfl, rfl⟩ := h
        obtain ⟨h1, hc⟩ := of_allTc hc
        obtain ⟨h3, _⟩ := of_allTc hc
        simp only [decide_eq_true_eq] at h1 h3
        subst h1
        first | exact (may_loop _ h3).1 hb | exact (may_loop _ h3).2 hb
    · cases h)

theorem rmay_pure (l : List Int) : PureCall Try.prog 30 [vL cI l] (vB (mayB l)) := by
  refine PureCall.facts' (by kernel_rfl) fun ⟨X, vs, hX, hv⟩ => ?_
  have hlen : l.length ≤ 9223372036854775807 := len_of hv 0 rfl
  rw [mayB_mayR]
  have hg : mayR l = (goodI l && !l.isEmpty) := by unfold mayR goodI; rw [Bool.and_assoc]
  rw [hg]
  cases h1 : goodI l with
  | false => exact EMay1.pure_ok (os := [false]) (cs := [decide ((0 : Int) = 0), decide (l.length ≤ maxLen), goodI l == false]) (by kernel_rfl) (allI (by simp [h1, maxLen, hlen]))
  | true =>
    have e : (true && !l.isEmpty) = decide ((l.length : Int) > 0) := by
      cases l with
      | nil => rfl
      | cons a r => simp only [List.isEmpty_cons, Bool.not_false, Bool.and_true, List.length_cons]; exact (decide_eq_true (by omega)).symm
    rw [e]
    exact EMay1.pure_ok (os := [true]) (cs := [decide ((0 : Int) = 0), decide (l.length ≤ maxLen), goodI l == true]) (by kernel_rfl) (allI (by simp [h1, maxLen, hlen]))

/-! ### Has -/
noncomputable def lHas : Code := (theLoop Try.prog 19 2).getD .skip
theorem lHas_eq : theLoop Try.prog 19 2 = some lHas := by kernel_rfl
theorem has_loop (l : List Int) (a : Int) (hl : l.length ≤ maxLen) :
    (hasI l a = true → LoopOk Try.prog lHas 18 [5, 4] [0, 1] [vI 0, vB false] [vL cI l, vI a] [] .ret [vX, vB true] []) ∧
    (hasI l a = false → LoopOk Try.prog lHas 18 [5, 4] [0, 1] [vI 0, vB false] [vL cI l, vI a] [] (.exit 0) [vX, vB false] []) := by
  unfold maxLen at hl
  refine ⟨fun hf => ?_, fun hf => ?_⟩
  all_goals
    refine LoopOk.rounds (S := Nat) E0 lHas_eq (by kernel_rfl) (fun k => [vI k, vB false]) (fun k => []) (fun k => k ≤ l.length ∧ ∀ j, j < k → l.getD j 0 ≠ a) (fun k => l.length - k) 0 ⟨by omega, fun j hj => by omega⟩ ?_ (fun _ _ => rfl)
    intro k ⟨hk, hb⟩
    by_cases hlt : k < l.length
    · by_cases he : l.getD k 0 = a
      · have hg : hasI l a = true := hasI_iff.2 (he ▸ List.mem_of_getElem? (getD_get hlt))
        first
        | exact Bool.noConfusion (hg.symm.trans hf)
        | exact OneRound.stop [true, true] (vs := [vI k, vB true]) (hp' := []) (cs := [(l.getD k 0 == a) == true, inB k l.length, decide ((k : Int) < l.length) == true]) (fun rest => by kernel_rfl) (allTc (eqT (beq_iff_eq.2 he)) (allTc (inB_of (by omega) (by omega)) (allT1 (dT (by omega))))) (by simp) ⟨.unk, .refl, trivial⟩ rfl (.inl (Nat.le_refl _))
      · refine OneRound.go [true, false] (vs := [vI (IntKind.i64.wrap (k + 1)), vB false]) (hp' := []) (cs := [(l.getD k 0 == a) == false, inB k l.length, decide ((k : Int) < l.length) == true]) (fun rest => by kernel_rfl) (allTc (eqF (beq_eq_false_iff_ne.2 he)) (allTc (inB_of (by omega) (by omega)) (allT1 (dT (by omega))))) (k + 1) ⟨by omega, fun j hj => ?_⟩ (by omega) ⟨.of_eq ?_, .refl, trivial⟩ rfl (.inl (Nat.le_refl _))
        · by_cases hjk : j < k
          · exact hb j hjk
          · have : j = k := by omega
            subst this; exact he
        · rw [wrap64 (by omega) (by omega)]; rfl
    · have hg : hasI l a = false := by
        cases e : hasI l a with
        | false => rfl
        | true =>
          obtain ⟨j, hj⟩ := List.getElem?_of_mem (hasI_iff.1 e)
          have hjl := (List.getElem?_eq_some_iff.1 hj).1
          rw [getD_get (d := 0) hjl] at hj
          injection hj with hj
          exact absurd hj (hb j (by omega))
      first
      | exact Bool.noConfusion (hg.symm.trans hf)
      | exact OneRound.stop [false] (vs := [vI k, vB false]) (hp' := []) (cs := [decide ((k : Int) < l.length) == false]) (fun rest => by kernel_rfl) (allT1 (dF (by omega))) (by simp) ⟨.unk, .refl, trivial⟩ rfl (.inl (Nat.le_refl _))
noncomputable def EHas1 : Env Try.prog := EMay.addL 19 2 lHas_eq 18 [5, 4] [0, 1] (by kernel_rfl)
  (fun vals rov hp os => match vals, rov, hp with
    | [.one (.int .i64 z), .one (.bool false)], [.one (.sl (.int .i64) l .shared), .one (.int .i64 a)], [] =>
      brL (hasI l a) os (fun os => retC (.ret, [vX, vB true], []) [decide (z = 0), decide (l.length ≤ maxLen)] os)
        (fun os => retC (.exit 0, [vX, vB false], []) [decide (z = 0), decide (l.length ≤ maxLen)] os)
    | _, _, _ => none)
  (fun vals rov hp os e outs hp' cs os' h hc => by
    split at h
    · rcases brL_some h hc with ⟨hb, o, c, h, hc⟩ | ⟨hb, o, c, h, hc⟩
      all_goals
        simp only [retC, Option.some.injEq, Prod.mk.injEq] at h
        obtain ⟨⟨rfl, rfl, rfl⟩, rfl, rfl⟩ := h
        obtain ⟨h1, hc⟩ := of_allTc hc
        obtain ⟨h3, _⟩ := of_allTc hc
        simp only [decide_eq_true_eq] at h1 h3
        subst h1
        first | exact (has_loop _ _ h3).1 hb | exact (has_loop _ _ h3).2 hb
    · cases h)
theorem rhas_pure (l : List Int) (a : Int) : PureCall Try.prog 19 [vL cI l, vI a] (vB (hasI l a)) := by
  refine PureCall.facts' (by kernel_rfl) fun ⟨X, vs, hX, hv⟩ => ?_
  have hlen : l.length ≤ 9223372036854775807 := len_of hv 0 rfl
  cases h1 : hasI l a with
  | false => exact EHas1.pure_ok (os := [false]) (cs := [decide ((0 : Int) = 0), decide (l.length ≤ maxLen), hasI l a == false]) (by kernel_rfl) (allI (by simp [h1, maxLen, hlen]))
  | true => exact EHas1.pure_ok (os := [true]) (cs := [decide ((0 : Int) = 0), decide (l.length ≤ maxLen), hasI l a == true]) (by kernel_rfl) (allI (by simp [h1, maxLen, hlen]))

theorem idx_has (l : List Int) (a : Int) : decide (idxI a l 0 ≥ 0) = hasI l a := by
  have h : ∀ (l : List Int) (k : Nat), idxI a l k ≥ 0 ↔ hasI l a = true := fun l => by
    induction l with
    | nil => intro k; simp [idxI, hasI]
    | cons x r ih =>
      intro k
      have e0 : hasI (x :: r) a = (decide (x = a) || hasI r a) := rfl
      rw [e0]
      by_cases e : a = x
      · subst e; simp only [idxI, if_pos, decide_true, Bool.true_or, iff_true]; omega
      · have e' : ¬ x = a := fun h => e h.symm
        have e2 : idxI a (x :: r) k = idxI a r (k + 1) := by simp only [idxI]; rw [if_neg e]
        rw [e2, ih (k + 1)]; simp [e']
  rw [Bool.eq_iff_iff, decide_eq_true_iff]
  exact h l 0
theorem has_pure (l : List Int) (a : Int) : PureCall Try.prog 18 [vL cI l, vI a] (vB (hasI l a)) := by
  rw [← idx_has]
  exact EMay.pure_ok (os := []) (cs := []) (by kernel_rfl) allT0

noncomputable def EHas : Env Try.prog := ((EMay.addT1 30 [.one (.sl cI)] (fun d => vB (mayB d.1)) (fun _ => []) fun d _ => rmay_pure d.1).addT1
  19 [.one (.sl cI), .one cI] (fun d => vB (hasI d.1 d.2.1)) (fun _ => []) fun d _ => rhas_pure d.1 d.2.1).addT1
  18 [.one (.sl cI), .one cI] (fun d => vB (hasI d.1 d.2.1)) (fun _ => []) fun d _ => has_pure d.1 d.2.1
end Go.Proofs.Ytcigjehfmiiolaa
