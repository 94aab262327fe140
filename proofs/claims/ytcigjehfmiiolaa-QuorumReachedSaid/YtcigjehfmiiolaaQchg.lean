/- Members changed; no statement. -/
import Derived.Test.YtcigjehfmiiolaaQr
set_option linter.unusedVariables false
namespace Go.Proofs.Ytcigjehfmiiolaa
open Go Go.Eng

theorem of_pure (l : List Int) (hm : mayB l = true) : PureCall Try.prog 31 [vL cI l] (.tup [(true, bits5 l), (false, [.bool true])]) := by
  have h1 : l.all in5 = true := by simp only [mayB, Bool.and_eq_true] at hm; exact hm.1
  have hlen : l.length ≤ 9223372036854775807 := by have := (may_len hm).2; omega
  exact EOf1.pure_ok (os := [true]) (cs := [decide ((0 : Int) = 0), decide ((l.length : Int) = l.length), decide (l.length ≤ maxLen), l.all in5 == true]) (by kernel_rfl) (allI (by simp [h1, maxLen, hlen]))
noncomputable def EChg0 : Env Try.prog := EHas.addT1 31 [.one (.sl cI)] (fun d => .tup [(true, bits5 d.1), (false, [.bool true])]) (fun d => [mayB d.1]) fun d hc => of_pure d.1 (of_allTc hc).1

abbrev tupC (L : List Int) (c : Int) : AV := .tup [(false, [.sl cI L .shared]), (false, [.int .i64 c])]
theorem tup_nils {X : Ctx} {c : Int} {v : Value} (h : VR X (.tup [(false, [.nils]), (false, [.int .i64 c])]) v) : VR X (tupC [] c) v := by
  obtain ⟨arr, e, hp⟩ := h
  refine ⟨arr, e, hp.1, fun i a y ha hy => ?_⟩
  match i with
  | 0 =>
    simp only [List.getElem?_cons_zero, Option.some.injEq] at ha
    subst ha
    obtain ⟨c0, e0, hc⟩ := hp.2 0 _ _ rfl hy
    injection e0 with e0; subst e0
    exact ⟨_, rfl, none, 0, 0, hc, rfl, Nat.le_refl _, Nat.zero_le _, .inl rfl, trivial⟩
  | n + 1 => exact hp.2 (n + 1) a y ha hy
theorem no2 {f : Nat} {args : List AV} {c : Int} (h : PureCall Try.prog f args (.tup [(false, [.nils]), (false, [.int .i64 c])])) : PureCall Try.prog f args (tupC [] c) :=
  h.resw fun X v _ hv => tup_nils hv

def has5 (a : Int) (l : List Int) : Bool := bif decide (a = 0) then hasI l 0 else bif decide (a = 1) then hasI l 1 else bif decide (a = 2) then hasI l 2 else bif decide (a = 3) then hasI l 3 else hasI l 4
theorem has5_eq {a : Int} {l : List Int} (h1 : 0 ≤ a) (h2 : a < 5) : has5 a l = hasI l a := by
  have : a = 0 ∨ a = 1 ∨ a = 2 ∨ a = 3 ∨ a = 4 := by omega
  rcases this with rfl | rfl | rfl | rfl | rfl <;> rfl
def ok1 (l : List Int) (i o : Int) : Bool := o == -1 && (decide (i ≥ 0) && (decide (i < 5) && !hasI l i))
def ok2 (l : List Int) (i o : Int) : Bool := i == -1 && (hasI l o && decide ((l.length : Int) > 1))
def okC (l : List Int) (i o : Int) : Bool := mayB l && (ok1 l i o || ok2 l i o)
theorem hmay {l : List Int} (h : (chkI l != 0) = false) : mayB l = true := by
  cases e : mayB l with
  | true => rfl
  | false => simp [chkI, e] at h
theorem yes1 {l : List Int} {a b : Int} {α : Prop} (h : okC l a b = false) (h1 : (chkI l != 0) = false) (h2 : (b == -1) = true) (h3 : decide (a ≥ 0) = true) (h4 : decide (a < 5) = true) (h5 : has5 a l = false) : α := by
  rw [has5_eq (by simpa using h3) (by simpa using h4)] at h5
  simp [okC, hmay h1, ok1, h2, h3, h4, h5] at h
theorem yes2 {l : List Int} {a b : Int} {α : Prop} (h : okC l a b = false) (h1 : (chkI l != 0) = false) (h2 : (a == -1) = true) (h3 : decide (b ≥ 0) = true) (h4 : decide (b < 5) = true) (h5 : has5 b l = true) (h6 : decide (((l.length : Nat) : Int) > 1) = true) : α := by
  rw [has5_eq (by simpa using h3) (by simpa using h4)] at h5
  unfold okC ok2 at h
  rw [hmay h1, h2, h5, h6] at h
  simp at h

theorem chg_no (l : List Int) (a b : Int) (h : okC l a b = false) : PureCall Try.prog 26 [vL cI l, vI a, vI b] (tupC [] 2) := by
  cases h1 : (chkI l != 0 : Bool) with
  | true =>
    refine no2 (EChg0.pure_ok (os := [true]) (r := .tup [(false, [.nils]), (false, [.int .i64 2])]) (cs := [(chkI l != 0) == true]) (by kernel_rfl) (allI ?_)); first | (simp only [h1]; rfl) | (simp only [h1, hmay h1]; rfl) | (simp only [h1, hmay h1]; simp only [decide_eq_true_eq, decide_eq_false_iff_not] at *; simp [inB]; omega)
  | false =>
    cases h2 : (b == -1 : Bool) with
    | true =>
      cases h3 : (decide (a ≥ 0) : Bool) with
      | true =>
        cases h4 : (decide (a < 5) : Bool) with
        | true =>
          cases h5 : (bif decide (a = 0) then hasI l 0 else bif decide (a = 1) then hasI l 1 else bif decide (a = 2) then hasI l 2 else bif decide (a = 3) then hasI l 3 else hasI l 4 : Bool) with
          | true =>
            cases h6 : (a == -1 : Bool) with
            | true =>
              cases h7 : (decide (b ≥ 0) : Bool) with
              | true =>
                cases h8 : (decide (b < 5) : Bool) with
                | true =>
                  cases h9 : (bif decide (b = 0) then hasI l 0 else bif decide (b = 1) then hasI l 1 else bif decide (b = 2) then hasI l 2 else bif decide (b = 3) then hasI l 3 else hasI l 4 : Bool) with
                  | true =>
                    cases h10 : (decide (((l.length : Nat) : Int) > 1) : Bool) with
                    | true =>
                      first | exact yes1 h h1 h2 h3 h4 h5 h6 h7 h8 h9 h10 | exact yes2 h h1 h6 h7 h8 h9 h10
                    | false =>
                      refine no2 (EChg0.pure_ok (os := [false, true, true, true, true, true, true, true, true, true, true, true, false, true, true, true, true, true, true, true, true, true, true, true, true, true, true, false]) (r := .tup [(false, [.nils]), (false, [.int .i64 2])]) (cs := [decide (((l.length : Nat) : Int) > 1) == false, (bif decide (b = 0) then hasI l 0 else bif decide (b = 1) then hasI l 1 else bif decide (b = 2) then hasI l 2 else bif decide (b = 3) then hasI l 3 else hasI l 4) == true, (bif decide (b = 0) then hasI l 0 else bif decide (b = 1) then hasI l 1 else bif decide (b = 2) then hasI l 2 else bif decide (b = 3) then hasI l 3 else hasI l 4) == true, (bif decide (b = 0) then hasI l 0 else bif decide (b = 1) then hasI l 1 else bif decide (b = 2) then hasI l 2 else bif decide (b = 3) then hasI l 3 else hasI l 4) == true, (bif decide (b = 0) then hasI l 0 else bif decide (b = 1) then hasI l 1 else bif decide (b = 2) then hasI l 2 else bif decide (b = 3) then hasI l 3 else hasI l 4) == true, decide (b < 5) == true, decide (b < 5) == true, inB b 5, decide (b < 5) == true, decide (b < 5) == true, decide (b ≥ 0) == true, decide (b ≥ 0) == true, decide (b ≥ 0) == true, (a == -1) == true, (a == -1) == true, (a == -1) == true, (!bif decide (a = 0) then hasI l 0 else bif decide (a = 1) then hasI l 1 else bif decide (a = 2) then hasI l 2 else bif decide (a = 3) then hasI l 3 else hasI l 4) == false, decide (a < 5) == true, decide (a < 5) == true, decide (a < 5) == true, inB a 5, decide (a < 5) == true, decide (a < 5) == true, decide (a ≥ 0) == true, decide (a ≥ 0) == true, decide (a ≥ 0) == true, (b == -1) == true, (b == -1) == true, (b == -1) == true, mayB l, (chkI l != 0) == false]) (by kernel_rfl) (allI ?_)); first | (simp only [h1, h2, h3, h4, h5, h6, h7, h8, h9, h10]; rfl) | (simp only [h1, h2, h3, h4, h5, h6, h7, h8, h9, h10, hmay h1]; rfl) | (simp only [h1, h2, h3, h4, h5, h6, h7, h8, h9, h10, hmay h1]; simp only [decide_eq_true_eq, decide_eq_false_iff_not] at *; simp [inB]; omega)
                  | false =>
                    refine no2 (EChg0.pure_ok (os := [false, true, true, true, true, true, true, true, true, true, true, true, false, true, true, true, true, true, true, true, true, true, true, false, false, false, false, false]) (r := .tup [(false, [.nils]), (false, [.int .i64 2])]) (cs := [false == false, (bif decide (b = 0) then hasI l 0 else bif decide (b = 1) then hasI l 1 else bif decide (b = 2) then hasI l 2 else bif decide (b = 3) then hasI l 3 else hasI l 4) == false, (bif decide (b = 0) then hasI l 0 else bif decide (b = 1) then hasI l 1 else bif decide (b = 2) then hasI l 2 else bif decide (b = 3) then hasI l 3 else hasI l 4) == false, (bif decide (b = 0) then hasI l 0 else bif decide (b = 1) then hasI l 1 else bif decide (b = 2) then hasI l 2 else bif decide (b = 3) then hasI l 3 else hasI l 4) == false, (bif decide (b = 0) then hasI l 0 else bif decide (b = 1) then hasI l 1 else bif decide (b = 2) then hasI l 2 else bif decide (b = 3) then hasI l 3 else hasI l 4) == false, decide (b < 5) == true, decide (b < 5) == true, inB b 5, decide (b < 5) == true, decide (b < 5) == true, decide (b ≥ 0) == true, decide (b ≥ 0) == true, decide (b ≥ 0) == true, (a == -1) == true, (a == -1) == true, (a == -1) == true, (!bif decide (a = 0) then hasI l 0 else bif decide (a = 1) then hasI l 1 else bif decide (a = 2) then hasI l 2 else bif decide (a = 3) then hasI l 3 else hasI l 4) == false, decide (a < 5) == true, decide (a < 5) == true, decide (a < 5) == true, inB a 5, decide (a < 5) == true, decide (a < 5) == true, decide (a ≥ 0) == true, decide (a ≥ 0) == true, decide (a ≥ 0) == true, (b == -1) == true, (b == -1) == true, (b == -1) == true, mayB l, (chkI l != 0) == false]) (by kernel_rfl) (allI ?_)); first | (simp only [h1, h2, h3, h4, h5, h6, h7, h8, h9]; rfl) | (simp only [h1, h2, h3, h4, h5, h6, h7, h8, h9, hmay h1]; rfl) | (simp only [h1, h2, h3, h4, h5, h6, h7, h8, h9, hmay h1]; simp only [decide_eq_true_eq, decide_eq_false_iff_not] at *; simp [inB]; omega)
                | false =>
                  refine no2 (EChg0.pure_ok (os := [false, true, true, true, true, true, true, true, true, true, true, true, false, true, true, true, true, true, true, false, false, false, false, false, false, false, false, false]) (r := .tup [(false, [.nils]), (false, [.int .i64 2])]) (cs := [false == false, false == false, false == false, false == false, false == false, decide (b < 5) == false, decide (b < 5) == false, decide (b < 5) == false, decide (b < 5) == false, decide (b ≥ 0) == true, decide (b ≥ 0) == true, decide (b ≥ 0) == true, (a == -1) == true, (a == -1) == true, (a == -1) == true, (!bif decide (a = 0) then hasI l 0 else bif decide (a = 1) then hasI l 1 else bif decide (a = 2) then hasI l 2 else bif decide (a = 3) then hasI l 3 else hasI l 4) == false, decide (a < 5) == true, decide (a < 5) == true, decide (a < 5) == true, inB a 5, decide (a < 5) == true, decide (a < 5) == true, decide (a ≥ 0) == true, decide (a ≥ 0) == true, decide (a ≥ 0) == true, (b == -1) == true, (b == -1) == true, (b == -1) == true, mayB l, (chkI l != 0) == false]) (by kernel_rfl) (allI ?_)); first | (simp only [h1, h2, h3, h4, h5, h6, h7, h8]; rfl) | (simp only [h1, h2, h3, h4, h5, h6, h7, h8, hmay h1]; rfl) | (simp only [h1, h2, h3, h4, h5, h6, h7, h8, hmay h1]; simp only [decide_eq_true_eq, decide_eq_false_iff_not] at *; simp [inB]; omega)
              | false =>
                refine no2 (EChg0.pure_ok (os := [false, true, true, true, true, true, true, true, true, true, true, true, false, true, true, true, false, false, false, false, false, false, false, false, false, false, false, false]) (r := .tup [(false, [.nils]), (false, [.int .i64 2])]) (cs := [false == false, false == false, false == false, false == false, false == false, false == false, false == false, false == false, false == false, decide (b ≥ 0) == false, decide (b ≥ 0) == false, decide (b ≥ 0) == false, (a == -1) == true, (a == -1) == true, (a == -1) == true, (!bif decide (a = 0) then hasI l 0 else bif decide (a = 1) then hasI l 1 else bif decide (a = 2) then hasI l 2 else bif decide (a = 3) then hasI l 3 else hasI l 4) == false, decide (a < 5) == true, decide (a < 5) == true, decide (a < 5) == true, inB a 5, decide (a < 5) == true, decide (a < 5) == true, decide (a ≥ 0) == true, decide (a ≥ 0) == true, decide (a ≥ 0) == true, (b == -1) == true, (b == -1) == true, (b == -1) == true, mayB l, (chkI l != 0) == false]) (by kernel_rfl) (allI ?_)); first | (simp only [h1, h2, h3, h4, h5, h6, h7]; rfl) | (simp only [h1, h2, h3, h4, h5, h6, h7, hmay h1]; rfl) | (simp only [h1, h2, h3, h4, h5, h6, h7, hmay h1]; simp only [decide_eq_true_eq, decide_eq_false_iff_not] at *; simp [inB]; omega)
            | false =>
              refine no2 (EChg0.pure_ok (os := [false, true, true, true, true, true, true, true, true, true, true, true, false, false, false, false, false, false, false, false, false, false, false, false, false, false, false, false]) (r := .tup [(false, [.nils]), (false, [.int .i64 2])]) (cs := [false == false, false == false, false == false, false == false, false == false, false == false, false == false, false == false, false == false, false == false, false == false, false == false, (a == -1) == false, (a == -1) == false, (a == -1) == false, (!bif decide (a = 0) then hasI l 0 else bif decide (a = 1) then hasI l 1 else bif decide (a = 2) then hasI l 2 else bif decide (a = 3) then hasI l 3 else hasI l 4) == false, decide (a < 5) == true, decide (a < 5) == true, decide (a < 5) == true, inB a 5, decide (a < 5) == true, decide (a < 5) == true, decide (a ≥ 0) == true, decide (a ≥ 0) == true, decide (a ≥ 0) == true, (b == -1) == true, (b == -1) == true, (b == -1) == true, mayB l, (chkI l != 0) == false]) (by kernel_rfl) (allI ?_)); first | (simp only [h1, h2, h3, h4, h5, h6]; rfl) | (simp only [h1, h2, h3, h4, h5, h6, hmay h1]; rfl) | (simp only [h1, h2, h3, h4, h5, h6, hmay h1]; simp only [decide_eq_true_eq, decide_eq_false_iff_not] at *; simp [inB]; omega)
          | false =>
            first | exact yes1 h h1 h2 h3 h4 h5 | exact yes2 h h1 h1 h2 h3 h4 h5
        | false =>
          cases h11 : (a == -1 : Bool) with
          | true =>
            cases h12 : (decide (b ≥ 0) : Bool) with
            | true =>
              cases h13 : (decide (b < 5) : Bool) with
              | true =>
                cases h14 : (bif decide (b = 0) then hasI l 0 else bif decide (b = 1) then hasI l 1 else bif decide (b = 2) then hasI l 2 else bif decide (b = 3) then hasI l 3 else hasI l 4 : Bool) with
                | true =>
                  cases h15 : (decide (((l.length : Nat) : Int) > 1) : Bool) with
                  | true =>
                    first | exact yes1 h h1 h2 h3 h4 h11 h12 h13 h14 h15 | exact yes2 h h1 h11 h12 h13 h14 h15
                  | false =>
                    refine no2 (EChg0.pure_ok (os := [false, true, true, true, true, true, true, false, false, false, false, false, false, true, true, true, true, true, true, true, true, true, true, true, true, true, true, false]) (r := .tup [(false, [.nils]), (false, [.int .i64 2])]) (cs := [decide (((l.length : Nat) : Int) > 1) == false, (bif decide (b = 0) then hasI l 0 else bif decide (b = 1) then hasI l 1 else bif decide (b = 2) then hasI l 2 else bif decide (b = 3) then hasI l 3 else hasI l 4) == true, (bif decide (b = 0) then hasI l 0 else bif decide (b = 1) then hasI l 1 else bif decide (b = 2) then hasI l 2 else bif decide (b = 3) then hasI l 3 else hasI l 4) == true, (bif decide (b = 0) then hasI l 0 else bif decide (b = 1) then hasI l 1 else bif decide (b = 2) then hasI l 2 else bif decide (b = 3) then hasI l 3 else hasI l 4) == true, (bif decide (b = 0) then hasI l 0 else bif decide (b = 1) then hasI l 1 else bif decide (b = 2) then hasI l 2 else bif decide (b = 3) then hasI l 3 else hasI l 4) == true, decide (b < 5) == true, decide (b < 5) == true, inB b 5, decide (b < 5) == true, decide (b < 5) == true, decide (b ≥ 0) == true, decide (b ≥ 0) == true, decide (b ≥ 0) == true, (a == -1) == true, (a == -1) == true, (a == -1) == true, false == false, decide (a < 5) == false, decide (a < 5) == false, decide (a < 5) == false, decide (a < 5) == false, decide (a < 5) == false, decide (a ≥ 0) == true, decide (a ≥ 0) == true, decide (a ≥ 0) == true, (b == -1) == true, (b == -1) == true, (b == -1) == true, mayB l, (chkI l != 0) == false]) (by kernel_rfl) (allI ?_)); first | (simp only [h1, h2, h3, h4, h11, h12, h13, h14, h15]; rfl) | (simp only [h1, h2, h3, h4, h11, h12, h13, h14, h15, hmay h1]; rfl) | (simp only [h1, h2, h3, h4, h11, h12, h13, h14, h15, hmay h1]; simp only [decide_eq_true_eq, decide_eq_false_iff_not] at *; simp [inB]; omega)
                | false =>
                  refine no2 (EChg0.pure_ok (os := [false, true, true, true, true, true, true, false, false, false, false, false, false, true, true, true, true, true, true, true, true, true, true, false, false, false, false, false]) (r := .tup [(false, [.nils]), (false, [.int .i64 2])]) (cs := [false == false, (bif decide (b = 0) then hasI l 0 else bif decide (b = 1) then hasI l 1 else bif decide (b = 2) then hasI l 2 else bif decide (b = 3) then hasI l 3 else hasI l 4) == false, (bif decide (b = 0) then hasI l 0 else bif decide (b = 1) then hasI l 1 else bif decide (b = 2) then hasI l 2 else bif decide (b = 3) then hasI l 3 else hasI l 4) == false, (bif decide (b = 0) then hasI l 0 else bif decide (b = 1) then hasI l 1 else bif decide (b = 2) then hasI l 2 else bif decide (b = 3) then hasI l 3 else hasI l 4) == false, (bif decide (b = 0) then hasI l 0 else bif decide (b = 1) then hasI l 1 else bif decide (b = 2) then hasI l 2 else bif decide (b = 3) then hasI l 3 else hasI l 4) == false, decide (b < 5) == true, decide (b < 5) == true, inB b 5, decide (b < 5) == true, decide (b < 5) == true, decide (b ≥ 0) == true, decide (b ≥ 0) == true, decide (b ≥ 0) == true, (a == -1) == true, (a == -1) == true, (a == -1) == true, false == false, decide (a < 5) == false, decide (a < 5) == false, decide (a < 5) == false, decide (a < 5) == false, decide (a < 5) == false, decide (a ≥ 0) == true, decide (a ≥ 0) == true, decide (a ≥ 0) == true, (b == -1) == true, (b == -1) == true, (b == -1) == true, mayB l, (chkI l != 0) == false]) (by kernel_rfl) (allI ?_)); first | (simp only [h1, h2, h3, h4, h11, h12, h13, h14]; rfl) | (simp only [h1, h2, h3, h4, h11, h12, h13, h14, hmay h1]; rfl) | (simp only [h1, h2, h3, h4, h11, h12, h13, h14, hmay h1]; simp only [decide_eq_true_eq, decide_eq_false_iff_not] at *; simp [inB]; omega)
              | false =>
                refine no2 (EChg0.pure_ok (os := [false, true, true, true, true, true, true, false, false, false, false, false, false, true, true, true, true, true, true, false, false, false, false, false, false, false, false, false]) (r := .tup [(false, [.nils]), (false, [.int .i64 2])]) (cs := [false == false, false == false, false == false, false == false, false == false, decide (b < 5) == false, decide (b < 5) == false, decide (b < 5) == false, decide (b < 5) == false, decide (b ≥ 0) == true, decide (b ≥ 0) == true, decide (b ≥ 0) == true, (a == -1) == true, (a == -1) == true, (a == -1) == true, false == false, decide (a < 5) == false, decide (a < 5) == false, decide (a < 5) == false, decide (a < 5) == false, decide (a < 5) == false, decide (a ≥ 0) == true, decide (a ≥ 0) == true, decide (a ≥ 0) == true, (b == -1) == true, (b == -1) == true, (b == -1) == true, mayB l, (chkI l != 0) == false]) (by kernel_rfl) (allI ?_)); first | (simp only [h1, h2, h3, h4, h11, h12, h13]; rfl) | (simp only [h1, h2, h3, h4, h11, h12, h13, hmay h1]; rfl) | (simp only [h1, h2, h3, h4, h11, h12, h13, hmay h1]; simp only [decide_eq_true_eq, decide_eq_false_iff_not] at *; simp [inB]; omega)
            | false =>
              refine no2 (EChg0.pure_ok (os := [false, true, true, true, true, true, true, false, false, false, false, false, false, true, true, true, false, false, false, false, false, false, false, false, false, false, false, false]) (r := .tup [(false, [.nils]), (false, [.int .i64 2])]) (cs := [false == false, false == false, false == false, false == false, false == false, false == false, false == false, false == false, false == false, decide (b ≥ 0) == false, decide (b ≥ 0) == false, decide (b ≥ 0) == false, (a == -1) == true, (a == -1) == true, (a == -1) == true, false == false, decide (a < 5) == false, decide (a < 5) == false, decide (a < 5) == false, decide (a < 5) == false, decide (a < 5) == false, decide (a ≥ 0) == true, decide (a ≥ 0) == true, decide (a ≥ 0) == true, (b == -1) == true, (b == -1) == true, (b == -1) == true, mayB l, (chkI l != 0) == false]) (by kernel_rfl) (allI ?_)); first | (simp only [h1, h2, h3, h4, h11, h12]; rfl) | (simp only [h1, h2, h3, h4, h11, h12, hmay h1]; rfl) | (simp only [h1, h2, h3, h4, h11, h12, hmay h1]; simp only [decide_eq_true_eq, decide_eq_false_iff_not] at *; simp [inB]; omega)
          | false =>
            refine no2 (EChg0.pure_ok (os := [false, true, true, true, true, true, true, false, false, false, false, false, false, false, false, false, false, false, false, false, false, false, false, false, false, false, false, false]) (r := .tup [(false, [.nils]), (false, [.int .i64 2])]) (cs := [false == false, false == false, false == false, false == false, false == false, false == false, false == false, false == false, false == false, false == false, false == false, false == false, (a == -1) == false, (a == -1) == false, (a == -1) == false, false == false, decide (a < 5) == false, decide (a < 5) == false, decide (a < 5) == false, decide (a < 5) == false, decide (a < 5) == false, decide (a ≥ 0) == true, decide (a ≥ 0) == true, decide (a ≥ 0) == true, (b == -1) == true, (b == -1) == true, (b == -1) == true, mayB l, (chkI l != 0) == false]) (by kernel_rfl) (allI ?_)); first | (simp only [h1, h2, h3, h4, h11]; rfl) | (simp only [h1, h2, h3, h4, h11, hmay h1]; rfl) | (simp only [h1, h2, h3, h4, h11, hmay h1]; simp only [decide_eq_true_eq, decide_eq_false_iff_not] at *; simp [inB]; omega)
      | false =>
        cases h16 : (a == -1 : Bool) with
        | true =>
          cases h17 : (decide (b ≥ 0) : Bool) with
          | true =>
            cases h18 : (decide (b < 5) : Bool) with
            | true =>
              cases h19 : (bif decide (b = 0) then hasI l 0 else bif decide (b = 1) then hasI l 1 else bif decide (b = 2) then hasI l 2 else bif decide (b = 3) then hasI l 3 else hasI l 4 : Bool) with
              | true =>
                cases h20 : (decide (((l.length : Nat) : Int) > 1) : Bool) with
                | true =>
                  first | exact yes1 h h1 h2 h3 h16 h17 h18 h19 h20 | exact yes2 h h1 h16 h17 h18 h19 h20
                | false =>
                  refine no2 (EChg0.pure_ok (os := [false, true, true, true, false, false, false, false, false, false, false, false, false, true, true, true, true, true, true, true, true, true, true, true, true, true, true, false]) (r := .tup [(false, [.nils]), (false, [.int .i64 2])]) (cs := [decide (((l.length : Nat) : Int) > 1) == false, (bif decide (b = 0) then hasI l 0 else bif decide (b = 1) then hasI l 1 else bif decide (b = 2) then hasI l 2 else bif decide (b = 3) then hasI l 3 else hasI l 4) == true, (bif decide (b = 0) then hasI l 0 else bif decide (b = 1) then hasI l 1 else bif decide (b = 2) then hasI l 2 else bif decide (b = 3) then hasI l 3 else hasI l 4) == true, (bif decide (b = 0) then hasI l 0 else bif decide (b = 1) then hasI l 1 else bif decide (b = 2) then hasI l 2 else bif decide (b = 3) then hasI l 3 else hasI l 4) == true, (bif decide (b = 0) then hasI l 0 else bif decide (b = 1) then hasI l 1 else bif decide (b = 2) then hasI l 2 else bif decide (b = 3) then hasI l 3 else hasI l 4) == true, decide (b < 5) == true, decide (b < 5) == true, inB b 5, decide (b < 5) == true, decide (b < 5) == true, decide (b ≥ 0) == true, decide (b ≥ 0) == true, decide (b ≥ 0) == true, (a == -1) == true, (a == -1) == true, (a == -1) == true, false == false, false == false, false == false, false == false, false == false, false == false, decide (a ≥ 0) == false, decide (a ≥ 0) == false, decide (a ≥ 0) == false, (b == -1) == true, (b == -1) == true, (b == -1) == true, mayB l, (chkI l != 0) == false]) (by kernel_rfl) (allI ?_)); first | (simp only [h1, h2, h3, h16, h17, h18, h19, h20]; rfl) | (simp only [h1, h2, h3, h16, h17, h18, h19, h20, hmay h1]; rfl) | (simp only [h1, h2, h3, h16, h17, h18, h19, h20, hmay h1]; simp only [decide_eq_true_eq, decide_eq_false_iff_not] at *; simp [inB]; omega)
              | false =>
                refine no2 (EChg0.pure_ok (os := [false, true, true, true, false, false, false, false, false, false, false, false, false, true, true, true, true, true, true, true, true, true, true, false, false, false, false, false]) (r := .tup [(false, [.nils]), (false, [.int .i64 2])]) (cs := [false == false, (bif decide (b = 0) then hasI l 0 else bif decide (b = 1) then hasI l 1 else bif decide (b = 2) then hasI l 2 else bif decide (b = 3) then hasI l 3 else hasI l 4) == false, (bif decide (b = 0) then hasI l 0 else bif decide (b = 1) then hasI l 1 else bif decide (b = 2) then hasI l 2 else bif decide (b = 3) then hasI l 3 else hasI l 4) == false, (bif decide (b = 0) then hasI l 0 else bif decide (b = 1) then hasI l 1 else bif decide (b = 2) then hasI l 2 else bif decide (b = 3) then hasI l 3 else hasI l 4) == false, (bif decide (b = 0) then hasI l 0 else bif decide (b = 1) then hasI l 1 else bif decide (b = 2) then hasI l 2 else bif decide (b = 3) then hasI l 3 else hasI l 4) == false, decide (b < 5) == true, decide (b < 5) == true, inB b 5, decide (b < 5) == true, decide (b < 5) == true, decide (b ≥ 0) == true, decide (b ≥ 0) == true, decide (b ≥ 0) == true, (a == -1) == true, (a == -1) == true, (a == -1) == true, false == false, false == false, false == false, false == false, false == false, false == false, decide (a ≥ 0) == false, decide (a ≥ 0) == false, decide (a ≥ 0) == false, (b == -1) == true, (b == -1) == true, (b == -1) == true, mayB l, (chkI l != 0) == false]) (by kernel_rfl) (allI ?_)); first | (simp only [h1, h2, h3, h16, h17, h18, h19]; rfl) | (simp only [h1, h2, h3, h16, h17, h18, h19, hmay h1]; rfl) | (simp only [h1, h2, h3, h16, h17, h18, h19, hmay h1]; simp only [decide_eq_true_eq, decide_eq_false_iff_not] at *; simp [inB]; omega)
            | false =>
              refine no2 (EChg0.pure_ok (os := [false, true, true, true, false, false, false, false, false, false, false, false, false, true, true, true, true, true, true, false, false, false, false, false, false, false, false, false]) (r := .tup [(false, [.nils]), (false, [.int .i64 2])]) (cs := [false == false, false == false, false == false, false == false, false == false, decide (b < 5) == false, decide (b < 5) == false, decide (b < 5) == false, decide (b < 5) == false, decide (b ≥ 0) == true, decide (b ≥ 0) == true, decide (b ≥ 0) == true, (a == -1) == true, (a == -1) == true, (a == -1) == true, false == false, false == false, false == false, false == false, false == false, false == false, decide (a ≥ 0) == false, decide (a ≥ 0) == false, decide (a ≥ 0) == false, (b == -1) == true, (b == -1) == true, (b == -1) == true, mayB l, (chkI l != 0) == false]) (by kernel_rfl) (allI ?_)); first | (simp only [h1, h2, h3, h16, h17, h18]; rfl) | (simp only [h1, h2, h3, h16, h17, h18, hmay h1]; rfl) | (simp only [h1, h2, h3, h16, h17, h18, hmay h1]; simp only [decide_eq_true_eq, decide_eq_false_iff_not] at *; simp [inB]; omega)
          | false =>
            refine no2 (EChg0.pure_ok (os := [false, true, true, true, false, false, false, false, false, false, false, false, false, true, true, true, false, false, false, false, false, false, false, false, false, false, false, false]) (r := .tup [(false, [.nils]), (false, [.int .i64 2])]) (cs := [false == false, false == false, false == false, false == false, false == false, false == false, false == false, false == false, false == false, decide (b ≥ 0) == false, decide (b ≥ 0) == false, decide (b ≥ 0) == false, (a == -1) == true, (a == -1) == true, (a == -1) == true, false == false, false == false, false == false, false == false, false == false, false == false, decide (a ≥ 0) == false, decide (a ≥ 0) == false, decide (a ≥ 0) == false, (b == -1) == true, (b == -1) == true, (b == -1) == true, mayB l, (chkI l != 0) == false]) (by kernel_rfl) (allI ?_)); first | (simp only [h1, h2, h3, h16, h17]; rfl) | (simp only [h1, h2, h3, h16, h17, hmay h1]; rfl) | (simp only [h1, h2, h3, h16, h17, hmay h1]; simp only [decide_eq_true_eq, decide_eq_false_iff_not] at *; simp [inB]; omega)
        | false =>
          refine no2 (EChg0.pure_ok (os := [false, true, true, true, false, false, false, false, false, false, false, false, false, false, false, false, false, false, false, false, false, false, false, false, false, false, false, false]) (r := .tup [(false, [.nils]), (false, [.int .i64 2])]) (cs := [false == false, false == false, false == false, false == false, false == false, false == false, false == false, false == false, false == false, false == false, false == false, false == false, (a == -1) == false, (a == -1) == false, (a == -1) == false, false == false, false == false, false == false, false == false, false == false, false == false, decide (a ≥ 0) == false, decide (a ≥ 0) == false, decide (a ≥ 0) == false, (b == -1) == true, (b == -1) == true, (b == -1) == true, mayB l, (chkI l != 0) == false]) (by kernel_rfl) (allI ?_)); first | (simp only [h1, h2, h3, h16]; rfl) | (simp only [h1, h2, h3, h16, hmay h1]; rfl) | (simp only [h1, h2, h3, h16, hmay h1]; simp only [decide_eq_true_eq, decide_eq_false_iff_not] at *; simp [inB]; omega)
    | false =>
      cases h21 : (a == -1 : Bool) with
      | true =>
        cases h22 : (decide (b ≥ 0) : Bool) with
        | true =>
          cases h23 : (decide (b < 5) : Bool) with
          | true =>
            cases h24 : (bif decide (b = 0) then hasI l 0 else bif decide (b = 1) then hasI l 1 else bif decide (b = 2) then hasI l 2 else bif decide (b = 3) then hasI l 3 else hasI l 4 : Bool) with
            | true =>
              cases h25 : (decide (((l.length : Nat) : Int) > 1) : Bool) with
              | true =>
                first | exact yes1 h h1 h2 h21 h22 h23 h24 h25 | exact yes2 h h1 h21 h22 h23 h24 h25
              | false =>
                refine no2 (EChg0.pure_ok (os := [false, false, false, false, false, false, false, false, false, false, false, false, false, true, true, true, true, true, true, true, true, true, true, true, true, true, true, false]) (r := .tup [(false, [.nils]), (false, [.int .i64 2])]) (cs := [decide (((l.length : Nat) : Int) > 1) == false, (bif decide (b = 0) then hasI l 0 else bif decide (b = 1) then hasI l 1 else bif decide (b = 2) then hasI l 2 else bif decide (b = 3) then hasI l 3 else hasI l 4) == true, (bif decide (b = 0) then hasI l 0 else bif decide (b = 1) then hasI l 1 else bif decide (b = 2) then hasI l 2 else bif decide (b = 3) then hasI l 3 else hasI l 4) == true, (bif decide (b = 0) then hasI l 0 else bif decide (b = 1) then hasI l 1 else bif decide (b = 2) then hasI l 2 else bif decide (b = 3) then hasI l 3 else hasI l 4) == true, (bif decide (b = 0) then hasI l 0 else bif decide (b = 1) then hasI l 1 else bif decide (b = 2) then hasI l 2 else bif decide (b = 3) then hasI l 3 else hasI l 4) == true, decide (b < 5) == true, decide (b < 5) == true, inB b 5, decide (b < 5) == true, decide (b < 5) == true, decide (b ≥ 0) == true, decide (b ≥ 0) == true, decide (b ≥ 0) == true, (a == -1) == true, (a == -1) == true, (a == -1) == true, false == false, false == false, false == false, false == false, false == false, false == false, false == false, false == false, false == false, (b == -1) == false, (b == -1) == false, (b == -1) == false, mayB l, (chkI l != 0) == false]) (by kernel_rfl) (allI ?_)); first | (simp only [h1, h2, h21, h22, h23, h24, h25]; rfl) | (simp only [h1, h2, h21, h22, h23, h24, h25, hmay h1]; rfl) | (simp only [h1, h2, h21, h22, h23, h24, h25, hmay h1]; simp only [decide_eq_true_eq, decide_eq_false_iff_not] at *; simp [inB]; omega)
            | false =>
              refine no2 (EChg0.pure_ok (os := [false, false, false, false, false, false, false, false, false, false, false, false, false, true, true, true, true, true, true, true, true, true, true, false, false, false, false, false]) (r := .tup [(false, [.nils]), (false, [.int .i64 2])]) (cs := [false == false, (bif decide (b = 0) then hasI l 0 else bif decide (b = 1) then hasI l 1 else bif decide (b = 2) then hasI l 2 else bif decide (b = 3) then hasI l 3 else hasI l 4) == false, (bif decide (b = 0) then hasI l 0 else bif decide (b = 1) then hasI l 1 else bif decide (b = 2) then hasI l 2 else bif decide (b = 3) then hasI l 3 else hasI l 4) == false, (bif decide (b = 0) then hasI l 0 else bif decide (b = 1) then hasI l 1 else bif decide (b = 2) then hasI l 2 else bif decide (b = 3) then hasI l 3 else hasI l 4) == false, (bif decide (b = 0) then hasI l 0 else bif decide (b = 1) then hasI l 1 else bif decide (b = 2) then hasI l 2 else bif decide (b = 3) then hasI l 3 else hasI l 4) == false, decide (b < 5) == true, decide (b < 5) == true, inB b 5, decide (b < 5) == true, decide (b < 5) == true, decide (b ≥ 0) == true, decide (b ≥ 0) == true, decide (b ≥ 0) == true, (a == -1) == true, (a == -1) == true, (a == -1) == true, false == false, false == false, false == false, false == false, false == false, false == false, false == false, false == false, false == false, (b == -1) == false, (b == -1) == false, (b == -1) == false, mayB l, (chkI l != 0) == false]) (by kernel_rfl) (allI ?_)); first | (simp only [h1, h2, h21, h22, h23, h24]; rfl) | (simp only [h1, h2, h21, h22, h23, h24, hmay h1]; rfl) | (simp only [h1, h2, h21, h22, h23, h24, hmay h1]; simp only [decide_eq_true_eq, decide_eq_false_iff_not] at *; simp [inB]; omega)
          | false =>
            refine no2 (EChg0.pure_ok (os := [false, false, false, false, false, false, false, false, false, false, false, false, false, true, true, true, true, true, true, false, false, false, false, false, false, false, false, false]) (r := .tup [(false, [.nils]), (false, [.int .i64 2])]) (cs := [false == false, false == false, false == false, false == false, false == false, decide (b < 5) == false, decide (b < 5) == false, decide (b < 5) == false, decide (b < 5) == false, decide (b ≥ 0) == true, decide (b ≥ 0) == true, decide (b ≥ 0) == true, (a == -1) == true, (a == -1) == true, (a == -1) == true, false == false, false == false, false == false, false == false, false == false, false == false, false == false, false == false, false == false, (b == -1) == false, (b == -1) == false, (b == -1) == false, mayB l, (chkI l != 0) == false]) (by kernel_rfl) (allI ?_)); first | (simp only [h1, h2, h21, h22, h23]; rfl) | (simp only [h1, h2, h21, h22, h23, hmay h1]; rfl) | (simp only [h1, h2, h21, h22, h23, hmay h1]; simp only [decide_eq_true_eq, decide_eq_false_iff_not] at *; simp [inB]; omega)
        | false =>
          refine no2 (EChg0.pure_ok (os := [false, false, false, false, false, false, false, false, false, false, false, false, false, true, true, true, false, false, false, false, false, false, false, false, false, false, false, false]) (r := .tup [(false, [.nils]), (false, [.int .i64 2])]) (cs := [false == false, false == false, false == false, false == false, false == false, false == false, false == false, false == false, false == false, decide (b ≥ 0) == false, decide (b ≥ 0) == false, decide (b ≥ 0) == false, (a == -1) == true, (a == -1) == true, (a == -1) == true, false == false, false == false, false == false, false == false, false == false, false == false, false == false, false == false, false == false, (b == -1) == false, (b == -1) == false, (b == -1) == false, mayB l, (chkI l != 0) == false]) (by kernel_rfl) (allI ?_)); first | (simp only [h1, h2, h21, h22]; rfl) | (simp only [h1, h2, h21, h22, hmay h1]; rfl) | (simp only [h1, h2, h21, h22, hmay h1]; simp only [decide_eq_true_eq, decide_eq_false_iff_not] at *; simp [inB]; omega)
      | false =>
        refine no2 (EChg0.pure_ok (os := [false, false, false, false, false, false, false, false, false, false, false, false, false, false, false, false, false, false, false, false, false, false, false, false, false, false, false, false]) (r := .tup [(false, [.nils]), (false, [.int .i64 2])]) (cs := [false == false, false == false, false == false, false == false, false == false, false == false, false == false, false == false, false == false, false == false, false == false, false == false, (a == -1) == false, (a == -1) == false, (a == -1) == false, false == false, false == false, false == false, false == false, false == false, false == false, false == false, false == false, false == false, (b == -1) == false, (b == -1) == false, (b == -1) == false, mayB l, (chkI l != 0) == false]) (by kernel_rfl) (allI ?_)); first | (simp only [h1, h2, h21]; rfl) | (simp only [h1, h2, h21, hmay h1]; rfl) | (simp only [h1, h2, h21, hmay h1]; simp only [decide_eq_true_eq, decide_eq_false_iff_not] at *; simp [inB]; omega)
theorem rchg_no (l : List Int) (a b : Int) (h : okC l a b = false) : PureCall Try.prog 27 [vL cI l, vI a, vI b] (tupC [] 2) := by
  cases h1 : (mayB l : Bool) with
  | true =>
    cases h2 : (b == -1 : Bool) with
    | true =>
      cases h3 : (decide (a ≥ 0) : Bool) with
      | true =>
        cases h4 : (decide (a < 5) : Bool) with
        | true =>
          cases h5 : (a == -1 : Bool) with
          | true =>
            cases h6 : (hasI l b : Bool) with
            | true =>
              cases h7 : (hasI l a : Bool) with
              | true =>
                cases h8 : (decide (((l.length : Nat) : Int) > 1) : Bool) with
                | true =>
                  exact absurd h (by simp only [okC, ok1, ok2, h1, h2, h3, h4, h5, h6, h7, h8]; simp)
                | false =>
                  refine no2 (EHas.pure_ok (os := [false, true, true, true, true, true, true, true, true, true, true, true, true, true, true, true, true, true, true, true, true, true, true, true]) (r := .tup [(false, [.nils]), (false, [.int .i64 2])]) (cs := [(!decide (((l.length : Nat) : Int) > 1)) == true, (!!hasI l a) == true, (!!hasI l a) == true, (!!hasI l a) == true, hasI l b == true, hasI l b == true, hasI l b == true, hasI l b == true, (a == -1) == true, (a == -1) == true, (a == -1) == true, (a == -1) == true, decide (a < 5) == true, decide (a < 5) == true, decide (a < 5) == true, decide (a < 5) == true, decide (a < 5) == true, decide (a ≥ 0) == true, decide (a ≥ 0) == true, decide (a ≥ 0) == true, (b == -1) == true, (b == -1) == true, (b == -1) == true, (!mayB l) == false]) (by kernel_rfl) (allI ?_)); first | (simp only [h1, h2, h3, h4, h5, h6, h7, h8]; rfl)
              | false =>
                exact absurd h (by simp only [okC, ok1, ok2, h1, h2, h3, h4, h5, h6, h7]; simp)
            | false =>
              cases h9 : (hasI l a : Bool) with
              | true =>
                refine no2 (EHas.pure_ok (os := [false, true, true, true, true, true, true, true, true, true, true, true, true, true, true, true, false, false, false, false, true, true, true, true]) (r := .tup [(false, [.nils]), (false, [.int .i64 2])]) (cs := [(!false) == true, (!!hasI l a) == true, (!!hasI l a) == true, (!!hasI l a) == true, hasI l b == false, hasI l b == false, hasI l b == false, hasI l b == false, (a == -1) == true, (a == -1) == true, (a == -1) == true, (a == -1) == true, decide (a < 5) == true, decide (a < 5) == true, decide (a < 5) == true, decide (a < 5) == true, decide (a < 5) == true, decide (a ≥ 0) == true, decide (a ≥ 0) == true, decide (a ≥ 0) == true, (b == -1) == true, (b == -1) == true, (b == -1) == true, (!mayB l) == false]) (by kernel_rfl) (allI ?_)); first | (simp only [h1, h2, h3, h4, h5, h6, h9]; rfl)
              | false =>
                exact absurd h (by simp only [okC, ok1, ok2, h1, h2, h3, h4, h5, h6, h9]; simp)
          | false =>
            cases h10 : (hasI l a : Bool) with
            | true =>
              refine no2 (EHas.pure_ok (os := [false, true, true, true, true, true, true, true, true, true, true, true, false, false, false, false, false, false, false, false, true, true, true, true]) (r := .tup [(false, [.nils]), (false, [.int .i64 2])]) (cs := [(!false) == true, (!!hasI l a) == true, (!!hasI l a) == true, (!!hasI l a) == true, false == false, false == false, false == false, false == false, (a == -1) == false, (a == -1) == false, (a == -1) == false, (a == -1) == false, decide (a < 5) == true, decide (a < 5) == true, decide (a < 5) == true, decide (a < 5) == true, decide (a < 5) == true, decide (a ≥ 0) == true, decide (a ≥ 0) == true, decide (a ≥ 0) == true, (b == -1) == true, (b == -1) == true, (b == -1) == true, (!mayB l) == false]) (by kernel_rfl) (allI ?_)); first | (simp only [h1, h2, h3, h4, h5, h10]; rfl)
            | false =>
              exact absurd h (by simp only [okC, ok1, ok2, h1, h2, h3, h4, h5, h10]; simp)
        | false =>
          cases h11 : (a == -1 : Bool) with
          | true =>
            cases h12 : (hasI l b : Bool) with
            | true =>
              cases h13 : (decide (((l.length : Nat) : Int) > 1) : Bool) with
              | true =>
                exact absurd h (by simp only [okC, ok1, ok2, h1, h2, h3, h4, h11, h12, h13]; simp)
              | false =>
                refine no2 (EHas.pure_ok (os := [false, true, true, true, true, true, true, false, false, false, false, false, true, true, true, true, true, true, true, true, true, true, true, true]) (r := .tup [(false, [.nils]), (false, [.int .i64 2])]) (cs := [(!decide (((l.length : Nat) : Int) > 1)) == true, (!false) == true, (!false) == true, (!false) == true, hasI l b == true, hasI l b == true, hasI l b == true, hasI l b == true, (a == -1) == true, (a == -1) == true, (a == -1) == true, (a == -1) == true, decide (a < 5) == false, decide (a < 5) == false, decide (a < 5) == false, decide (a < 5) == false, decide (a < 5) == false, decide (a ≥ 0) == true, decide (a ≥ 0) == true, decide (a ≥ 0) == true, (b == -1) == true, (b == -1) == true, (b == -1) == true, (!mayB l) == false]) (by kernel_rfl) (allI ?_)); first | (simp only [h1, h2, h3, h4, h11, h12, h13]; rfl)
            | false =>
              refine no2 (EHas.pure_ok (os := [false, true, true, true, true, true, true, false, false, false, false, false, true, true, true, true, false, false, false, false, true, true, true, true]) (r := .tup [(false, [.nils]), (false, [.int .i64 2])]) (cs := [(!false) == true, (!false) == true, (!false) == true, (!false) == true, hasI l b == false, hasI l b == false, hasI l b == false, hasI l b == false, (a == -1) == true, (a == -1) == true, (a == -1) == true, (a == -1) == true, decide (a < 5) == false, decide (a < 5) == false, decide (a < 5) == false, decide (a < 5) == false, decide (a < 5) == false, decide (a ≥ 0) == true, decide (a ≥ 0) == true, decide (a ≥ 0) == true, (b == -1) == true, (b == -1) == true, (b == -1) == true, (!mayB l) == false]) (by kernel_rfl) (allI ?_)); first | (simp only [h1, h2, h3, h4, h11, h12]; rfl)
          | false =>
            refine no2 (EHas.pure_ok (os := [false, true, true, true, true, true, true, false, false, false, false, false, false, false, false, false, false, false, false, false, true, true, true, true]) (r := .tup [(false, [.nils]), (false, [.int .i64 2])]) (cs := [(!false) == true, (!false) == true, (!false) == true, (!false) == true, false == false, false == false, false == false, false == false, (a == -1) == false, (a == -1) == false, (a == -1) == false, (a == -1) == false, decide (a < 5) == false, decide (a < 5) == false, decide (a < 5) == false, decide (a < 5) == false, decide (a < 5) == false, decide (a ≥ 0) == true, decide (a ≥ 0) == true, decide (a ≥ 0) == true, (b == -1) == true, (b == -1) == true, (b == -1) == true, (!mayB l) == false]) (by kernel_rfl) (allI ?_)); first | (simp only [h1, h2, h3, h4, h11]; rfl)
      | false =>
        cases h14 : (a == -1 : Bool) with
        | true =>
          cases h15 : (hasI l b : Bool) with
          | true =>
            cases h16 : (decide (((l.length : Nat) : Int) > 1) : Bool) with
            | true =>
              exact absurd h (by simp only [okC, ok1, ok2, h1, h2, h3, h14, h15, h16]; simp)
            | false =>
              refine no2 (EHas.pure_ok (os := [false, true, true, true, false, false, false, false, false, false, false, false, true, true, true, true, true, true, true, true, true, true, true, true]) (r := .tup [(false, [.nils]), (false, [.int .i64 2])]) (cs := [(!decide (((l.length : Nat) : Int) > 1)) == true, (!false) == true, (!false) == true, (!false) == true, hasI l b == true, hasI l b == true, hasI l b == true, hasI l b == true, (a == -1) == true, (a == -1) == true, (a == -1) == true, (a == -1) == true, false == false, false == false, false == false, false == false, false == false, decide (a ≥ 0) == false, decide (a ≥ 0) == false, decide (a ≥ 0) == false, (b == -1) == true, (b == -1) == true, (b == -1) == true, (!mayB l) == false]) (by kernel_rfl) (allI ?_)); first | (simp only [h1, h2, h3, h14, h15, h16]; rfl)
          | false =>
            refine no2 (EHas.pure_ok (os := [false, true, true, true, false, false, false, false, false, false, false, false, true, true, true, true, false, false, false, false, true, true, true, true]) (r := .tup [(false, [.nils]), (false, [.int .i64 2])]) (cs := [(!false) == true, (!false) == true, (!false) == true, (!false) == true, hasI l b == false, hasI l b == false, hasI l b == false, hasI l b == false, (a == -1) == true, (a == -1) == true, (a == -1) == true, (a == -1) == true, false == false, false == false, false == false, false == false, false == false, decide (a ≥ 0) == false, decide (a ≥ 0) == false, decide (a ≥ 0) == false, (b == -1) == true, (b == -1) == true, (b == -1) == true, (!mayB l) == false]) (by kernel_rfl) (allI ?_)); first | (simp only [h1, h2, h3, h14, h15]; rfl)
        | false =>
          refine no2 (EHas.pure_ok (os := [false, true, true, true, false, false, false, false, false, false, false, false, false, false, false, false, false, false, false, false, true, true, true, true]) (r := .tup [(false, [.nils]), (false, [.int .i64 2])]) (cs := [(!false) == true, (!false) == true, (!false) == true, (!false) == true, false == false, false == false, false == false, false == false, (a == -1) == false, (a == -1) == false, (a == -1) == false, (a == -1) == false, false == false, false == false, false == false, false == false, false == false, decide (a ≥ 0) == false, decide (a ≥ 0) == false, decide (a ≥ 0) == false, (b == -1) == true, (b == -1) == true, (b == -1) == true, (!mayB l) == false]) (by kernel_rfl) (allI ?_)); first | (simp only [h1, h2, h3, h14]; rfl)
    | false =>
      cases h17 : (a == -1 : Bool) with
      | true =>
        cases h18 : (hasI l b : Bool) with
        | true =>
          cases h19 : (decide (((l.length : Nat) : Int) > 1) : Bool) with
          | true =>
            exact absurd h (by simp only [okC, ok1, ok2, h1, h2, h17, h18, h19]; simp)
          | false =>
            refine no2 (EHas.pure_ok (os := [false, false, false, false, false, false, false, false, false, false, false, false, true, true, true, true, true, true, true, true, true, true, true, true]) (r := .tup [(false, [.nils]), (false, [.int .i64 2])]) (cs := [(!decide (((l.length : Nat) : Int) > 1)) == true, (!false) == true, (!false) == true, (!false) == true, hasI l b == true, hasI l b == true, hasI l b == true, hasI l b == true, (a == -1) == true, (a == -1) == true, (a == -1) == true, (a == -1) == true, false == false, false == false, false == false, false == false, false == false, false == false, false == false, false == false, (b == -1) == false, (b == -1) == false, (b == -1) == false, (!mayB l) == false]) (by kernel_rfl) (allI ?_)); first | (simp only [h1, h2, h17, h18, h19]; rfl)
        | false =>
          refine no2 (EHas.pure_ok (os := [false, false, false, false, false, false, false, false, false, false, false, false, true, true, true, true, false, false, false, false, true, true, true, true]) (r := .tup [(false, [.nils]), (false, [.int .i64 2])]) (cs := [(!false) == true, (!false) == true, (!false) == true, (!false) == true, hasI l b == false, hasI l b == false, hasI l b == false, hasI l b == false, (a == -1) == true, (a == -1) == true, (a == -1) == true, (a == -1) == true, false == false, false == false, false == false, false == false, false == false, false == false, false == false, false == false, (b == -1) == false, (b == -1) == false, (b == -1) == false, (!mayB l) == false]) (by kernel_rfl) (allI ?_)); first | (simp only [h1, h2, h17, h18]; rfl)
      | false =>
        refine no2 (EHas.pure_ok (os := [false, false, false, false, false, false, false, false, false, false, false, false, false, false, false, false, false, false, false, false, true, true, true, true]) (r := .tup [(false, [.nils]), (false, [.int .i64 2])]) (cs := [(!false) == true, (!false) == true, (!false) == true, (!false) == true, false == false, false == false, false == false, false == false, (a == -1) == false, (a == -1) == false, (a == -1) == false, (a == -1) == false, false == false, false == false, false == false, false == false, false == false, false == false, false == false, false == false, (b == -1) == false, (b == -1) == false, (b == -1) == false, (!mayB l) == false]) (by kernel_rfl) (allI ?_)); first | (simp only [h1, h2, h17]; rfl)
  | false =>
    refine no2 (EHas.pure_ok (os := [true]) (r := .tup [(false, [.nils]), (false, [.int .i64 2])]) (cs := [(!mayB l) == true]) (by kernel_rfl) (allI ?_)); first | (simp only [h1]; rfl)

/-- Who is in afterwards. -/
def chgL (l : List Int) (i o : Int) : List Int := [0, 1, 2, 3, 4].filter fun n => (hasI l n && !(n == o)) || n == i
def cameC (o : Option (AV × List Bool)) (L : List Int) (c : Int) : Bool :=
  match o with
  | some (.tup [(false, [.sl (.int .i64) l .shared]), (false, [.int .i64 d])], cs) => (l == L) && ((d == c) && cs.all fun c => c)
  | _ => false
theorem cameC_ok (E : Env Try.prog) {f : Nat} {args : List AV} {os : List Bool} {L : List Int} {c : Int} (h : cameC (E.pureRun f args os) L c = true) : PureCall Try.prog f args (tupC L c) := by
  unfold cameC at h
  split at h
  · rename_i l d cs hr
    simp only [Bool.and_eq_true, List.all_eq_true, beq_iff_eq] at h
    obtain ⟨rfl, rfl, h⟩ := h
    exact E.pure_ok hr h
  · cases h
def all32 : List (List Int) := [false, true].flatMap fun p => [false, true].flatMap fun q => [false, true].flatMap fun r => [false, true].flatMap fun s => [false, true].map fun t => listB p q r s t
theorem mem32 {l : List Int} (h : mayB l = true) : l ∈ all32 := by
  obtain ⟨p, q, r, s, t, rfl, _⟩ := may_list h
  cases p <;> cases q <;> cases r <;> cases s <;> cases t <;> decide
def ins6 : List Int := [-1, 0, 1, 2, 3, 4]
theorem mem6 {x : Int} (h1 : -1 ≤ x) (h2 : x < 5) : x ∈ ins6 := by
  have : x = -1 ∨ x = 0 ∨ x = 1 ∨ x = 2 ∨ x = 3 ∨ x = 4 := by omega
  rcases this with rfl | rfl | rfl | rfl | rfl | rfl <;> decide
theorem okC_in {l : List Int} {i o : Int} (h : okC l i o = true) : l ∈ all32 ∧ i ∈ ins6 ∧ o ∈ ins6 := by
  simp only [okC, Bool.and_eq_true, Bool.or_eq_true] at h
  obtain ⟨h1, h2⟩ := h
  refine ⟨mem32 h1, ?_⟩
  rcases h2 with h2 | h2
  · simp only [ok1, Bool.and_eq_true, beq_iff_eq, decide_eq_true_eq] at h2
    exact ⟨mem6 (by omega) (by omega), by rw [h2.1]; decide⟩
  · simp only [ok2, Bool.and_eq_true, beq_iff_eq, decide_eq_true_eq] at h2
    have hin : in5 o = true := by
      have : l.all in5 = true := by simp only [mayB, Bool.and_eq_true] at h1; exact h1.1
      exact List.all_eq_true.1 this _ (hasI_iff.1 h2.2.1)
    simp only [in5, Bool.and_eq_true, decide_eq_true_eq] at hin
    exact ⟨by rw [h2.1]; decide, mem6 (by omega) (by omega)⟩
set_option maxRecDepth 100000 in
theorem runsC : (all32.all fun l => ins6.all fun i => ins6.all fun o => !okC l i o || cameC (EChg0.pureRun 26 [vL cI l, vI i, vI o] []) (chgL l i o) 0) = true := by kernel_rfl
set_option maxRecDepth 100000 in
theorem runsR : (all32.all fun l => ins6.all fun i => ins6.all fun o => !okC l i o || cameC (EHas.pureRun 27 [vL cI l, vI i, vI o] []) (chgL l i o) 0) = true := by kernel_rfl
def chgV (l : List Int) (i o : Int) : List Int := bif okC l i o then chgL l i o else []
def chgE (l : List Int) (i o : Int) : Int := bif okC l i o then 0 else 2
theorem chg_pure (l : List Int) (i o : Int) : PureCall Try.prog 26 [vL cI l, vI i, vI o] (tupC (chgV l i o) (chgE l i o)) := by
  unfold chgV chgE
  cases h : okC l i o with
  | false => exact chg_no l i o h
  | true =>
    obtain ⟨h1, h2, h3⟩ := okC_in h
    have := List.all_eq_true.1 (List.all_eq_true.1 (List.all_eq_true.1 runsC l h1) i h2) o h3
    rw [h] at this
    exact cameC_ok EChg0 this
theorem rchg_pure (l : List Int) (i o : Int) : PureCall Try.prog 27 [vL cI l, vI i, vI o] (tupC (chgV l i o) (chgE l i o)) := by
  unfold chgV chgE
  cases h : okC l i o with
  | false => exact rchg_no l i o h
  | true =>
    obtain ⟨h1, h2, h3⟩ := okC_in h
    have := List.all_eq_true.1 (List.all_eq_true.1 (List.all_eq_true.1 runsR l h1) i h2) o h3
    rw [h] at this
    exact cameC_ok EHas this
end Go.Proofs.Ytcigjehfmiiolaa
