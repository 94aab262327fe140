/- Wins, Meet; no statement. -/
import Derived.Test.YtcigjehfmiiolaaQbk0
set_option linter.unusedVariables false
namespace Go.Proofs.Ytcigjehfmiiolaa
open Go Go.Eng

/-- How many of the one list are in the other one. -/
def cntI (l y : List Int) : Nat := (l.filter fun x => hasI y x).length
theorem cnt_le (l y : List Int) : cntI l y ≤ l.length := List.length_filter_le ..
theorem cnt_step {l : List Int} {k : Nat} (h : k < l.length) (y : List Int) : cntI (l.take (k + 1)) y = cntI (l.take k) y + (bif hasI y (l.getD k 0) then 1 else 0) := by
  rw [List.take_add_one, getD_get (d := 0) h]
  unfold cntI
  rw [List.filter_append, List.length_append]
  congr 1
  simp only [Option.toList, List.filter_cons, List.filter_nil]
  cases hasI y (l.getD k 0) <;> rfl

def mostI (l : List Int) : Int := IntKind.i64.wrap (IntKind.i64.wrap (((l.length : Nat) : Int).tdiv 2) + 1)
theorem most_pure (l : List Int) : PureCall Try.prog 20 [vL cI l] (vI (mostI l)) := EOwn.pure_ok (os := []) (cs := []) (by kernel_rfl) allT0
theorem rmost_pure (l : List Int) : PureCall Try.prog 21 [vL cI l] (vI (mostI l)) := EOwn.pure_ok (os := []) (cs := []) (by kernel_rfl) allT0

noncomputable def lWins : Code := (theLoop Try.prog 15 3).getD .skip
theorem lWins_eq : theLoop Try.prog 15 3 = some lWins := by kernel_rfl
noncomputable def lRWins : Code := (theLoop Try.prog 22 3).getD .skip
theorem lRWins_eq : theLoop Try.prog 22 3 = some lRWins := by kernel_rfl
noncomputable def lMeet : Code := (theLoop Try.prog 23 5).getD .skip
theorem lMeet_eq : theLoop Try.prog 23 5 = some lMeet := by kernel_rfl

theorem wins_loop (l y : List Int) (sl sy : SM) (hl : l.length ≤ maxLen) :
    LoopOk Try.prog lWins 29 [10, 5] [8, 9, 1] [vI 0, vI 0] [.one (.sl cI l sl), vI l.length, .one (.sl cI y sy)] [] (.exit 0) [vX, vI (cntI l y)] [] := by
  unfold maxLen at hl
  refine LoopOk.rounds (S := Nat) EOwn lWins_eq (by kernel_rfl) (fun k => [vI k, vI (cntI (l.take k) y)]) (fun _ => []) (fun k => k ≤ l.length) (fun k => l.length - k) 0 (by omega) ?_ (fun _ _ => rfl)
  intro k hk
  by_cases hlt : k < l.length
  · have hc := cnt_step hlt y
    have hle := cnt_le (l.take k) y
    rw [List.length_take] at hle
    cases hh : hasI y (l.getD k 0) with
    | true =>
      refine OneRound.go [true, true] (vs := [(.one (.int .i64 (IntKind.i64.wrap (((k : Nat) : Int) + 1)))), (.one (.int .i64 (IntKind.i64.wrap ((((cntI (List.take k l) y) : Nat) : Int) + 1))))]) (hp' := []) (cs := [(hasI y (l.getD k 0) == true), (inB (((k : Nat) : Int)) l.length), (decide (((k : Nat) : Int) < ((l.length : Nat) : Int)) == true)]) (fun rest => by kernel_rfl) (allTc (eqT hh) (allTc (inB_of (by omega) (by omega)) (allT1 (dT (by omega))))) (k + 1) (by omega) (by omega) ⟨.of_eq ?_, .of_eq ?_, trivial⟩ rfl (.inl (Nat.le_refl _))
      · rw [wrap64 (by omega) (by omega)]; rfl
      · rw [hc, hh, wrap64 (by omega) (by omega)]; rfl
    | false =>
      refine OneRound.go [true, false] (vs := [(.one (.int .i64 (IntKind.i64.wrap (((k : Nat) : Int) + 1)))), (.one (.int .i64 ((((cntI (List.take k l) y) : Nat) : Int))))]) (hp' := []) (cs := [(hasI y (l.getD k 0) == false), (inB (((k : Nat) : Int)) l.length), (decide (((k : Nat) : Int) < ((l.length : Nat) : Int)) == true)]) (fun rest => by kernel_rfl) (allTc (eqF hh) (allTc (inB_of (by omega) (by omega)) (allT1 (dT (by omega))))) (k + 1) (by omega) (by omega) ⟨.of_eq ?_, .of_eq ?_, trivial⟩ rfl (.inl (Nat.le_refl _))
      · rw [wrap64 (by omega) (by omega)]; rfl
      · rw [hc, hh]; rfl
  · have hkl : k = l.length := by omega
    subst hkl
    exact OneRound.stop [false] (vs := [vI l.length, vI (cntI (l.take l.length) y)]) (hp' := []) (cs := [decide ((l.length : Int) < l.length) == false]) (fun rest => by kernel_rfl) (allT1 (dF (by omega))) (by simp) ⟨.unk, .of_eq (by rw [List.take_length]), trivial⟩ rfl (.inl (Nat.le_refl _))
theorem rwins_loop (l y : List Int) (sl sy : SM) (hl : l.length ≤ maxLen) :
    LoopOk Try.prog lRWins 29 [6, 5] [0, 1] [vI 0, vI 0] [.one (.sl cI l sl), .one (.sl cI y sy)] [] (.exit 0) [vX, vI (cntI l y)] [] := by
  unfold maxLen at hl
  refine LoopOk.rounds (S := Nat) EOwn lRWins_eq (by kernel_rfl) (fun k => [vI k, vI (cntI (l.take k) y)]) (fun _ => []) (fun k => k ≤ l.length) (fun k => l.length - k) 0 (by omega) ?_ (fun _ _ => rfl)
  intro k hk
  by_cases hlt : k < l.length
  · have hc := cnt_step hlt y
    have hle := cnt_le (l.take k) y
    rw [List.length_take] at hle
    cases hh : hasI y (l.getD k 0) with
    | true =>
      refine OneRound.go [true, true] (vs := [(.one (.int .i64 (IntKind.i64.wrap (((k : Nat) : Int) + 1)))), (.one (.int .i64 (IntKind.i64.wrap ((((cntI (List.take k l) y) : Nat) : Int) + 1))))]) (hp' := []) (cs := [(hasI y (l.getD k 0) == true), (inB (((k : Nat) : Int)) l.length), (decide (((k : Nat) : Int) < ((l.length : Nat) : Int)) == true)]) (fun rest => by kernel_rfl) (allTc (eqT hh) (allTc (inB_of (by omega) (by omega)) (allT1 (dT (by omega))))) (k + 1) (by omega) (by omega) ⟨.of_eq ?_, .of_eq ?_, trivial⟩ rfl (.inl (Nat.le_refl _))
      · rw [wrap64 (by omega) (by omega)]; rfl
      · rw [hc, hh, wrap64 (by omega) (by omega)]; rfl
    | false =>
      refine OneRound.go [true, false] (vs := [(.one (.int .i64 (IntKind.i64.wrap (((k : Nat) : Int) + 1)))), (.one (.int .i64 ((((cntI (List.take k l) y) : Nat) : Int))))]) (hp' := []) (cs := [(hasI y (l.getD k 0) == false), (inB (((k : Nat) : Int)) l.length), (decide (((k : Nat) : Int) < ((l.length : Nat) : Int)) == true)]) (fun rest => by kernel_rfl) (allTc (eqF hh) (allTc (inB_of (by omega) (by omega)) (allT1 (dT (by omega))))) (k + 1) (by omega) (by omega) ⟨.of_eq ?_, .of_eq ?_, trivial⟩ rfl (.inl (Nat.le_refl _))
      · rw [wrap64 (by omega) (by omega)]; rfl
      · rw [hc, hh]; rfl
  · have hkl : k = l.length := by omega
    subst hkl
    exact OneRound.stop [false] (vs := [vI l.length, vI (cntI (l.take l.length) y)]) (hp' := []) (cs := [decide ((l.length : Int) < l.length) == false]) (fun rest => by kernel_rfl) (allT1 (dF (by omega))) (by simp) ⟨.unk, .of_eq (by rw [List.take_length]), trivial⟩ rfl (.inl (Nat.le_refl _))
theorem meet_loop (l y : List Int) (sl sy : SM) (hl : l.length ≤ maxLen) :
    LoopOk Try.prog lMeet 39 [19] [17, 18, 1, 5] [vI 0] [.one (.sl cI l sl), vI l.length, .one (.sl cI y sy), .one (.ptr 0 0)] [.cells [.int .i64 0]] (.exit 0) [vX] [.cells [.int .i64 (cntI l y)]] := by
  unfold maxLen at hl
  refine LoopOk.rounds (S := Nat) EOwn lMeet_eq (by kernel_rfl) (fun k => [vI k]) (fun k => [.cells [.int .i64 (cntI (l.take k) y)]]) (fun k => k ≤ l.length) (fun k => l.length - k) 0 (by omega) ?_ (fun _ _ => rfl)
  intro k hk
  by_cases hlt : k < l.length
  · have hc := cnt_step hlt y
    have hle := cnt_le (l.take k) y
    rw [List.length_take] at hle
    cases hh : hasI y (l.getD k 0) with
    | true =>
      refine OneRound.go [true, true] (vs := [(.one (.int .i64 (IntKind.i64.wrap (((k : Nat) : Int) + 1))))]) (hp' := [(.cells [(.int .i64 (IntKind.i64.wrap ((((cntI (List.take k l) y) : Nat) : Int) + 1)))])]) (cs := [(hasI y (l.getD k 0) == true), (inB (((k : Nat) : Int)) l.length), (decide (((k : Nat) : Int) < ((l.length : Nat) : Int)) == true)]) (fun rest => by kernel_rfl) (allTc (eqT hh) (allTc (inB_of (by omega) (by omega)) (allT1 (dT (by omega))))) (k + 1) (by omega) (by omega) ⟨.of_eq ?_, trivial⟩ ?_ (.inl (Nat.le_refl _))
      · rw [wrap64 (by omega) (by omega)]; rfl
      · rw [hc, hh, wrap64 (by omega) (by omega)]; rfl
    | false =>
      refine OneRound.go [true, false] (vs := [(.one (.int .i64 (IntKind.i64.wrap (((k : Nat) : Int) + 1))))]) (hp' := [(.cells [(.int .i64 ((((cntI (List.take k l) y) : Nat) : Int)))])]) (cs := [(hasI y (l.getD k 0) == false), (inB (((k : Nat) : Int)) l.length), (decide (((k : Nat) : Int) < ((l.length : Nat) : Int)) == true)]) (fun rest => by kernel_rfl) (allTc (eqF hh) (allTc (inB_of (by omega) (by omega)) (allT1 (dT (by omega))))) (k + 1) (by omega) (by omega) ⟨.of_eq ?_, trivial⟩ ?_ (.inl (Nat.le_refl _))
      · rw [wrap64 (by omega) (by omega)]; rfl
      · rw [hc, hh]; rfl
  · have hkl : k = l.length := by omega
    subst hkl
    exact OneRound.stop [false] (vs := [vI l.length]) (hp' := [.cells [.int .i64 (cntI (l.take l.length) y)]]) (cs := [decide ((l.length : Int) < l.length) == false]) (fun rest => by kernel_rfl) (allT1 (dF (by omega))) (by simp) ⟨.unk, trivial⟩ (congrArg (fun q => [AB.cells [AC.int IntKind.i64 ((cntI q y : Nat) : Int)]]) List.take_length) (.inl (Nat.le_refl _))

noncomputable def EWin : Env Try.prog := ((((EOwn.addT1 20 [.one (.sl cI)] (fun d => vI (mostI d.1)) (fun _ => []) fun d _ => most_pure d.1).addT1
  21 [.one (.sl cI)] (fun d => vI (mostI d.1)) (fun _ => []) fun d _ => rmost_pure d.1).addLT
  15 3 lWins_eq 29 [10, 5] [8, 9, 1] (by kernel_rfl) [.one cI, .one cI] [.sl cI, .one cI, .sl cI]
  (fun (z, c, _) ((l, sl), n, (y, sy), _) hp os => retC (.exit 0, [vX, vI (cntI l y)], []) [decide (z = 0), decide (c = 0), decide (n = l.length), decide (l.length ≤ maxLen), hp.isEmpty] os)
  (fun (z, c, _) ((l, sl), n, (y, sy), _) hp os e outs hp' cs os' h hc => by
    simp only [retC, Option.some.injEq, Prod.mk.injEq] at h
    obtain ⟨⟨rfl, rfl, rfl⟩, rfl, rfl⟩ := h
    obtain ⟨h1, hc⟩ := of_allTc hc
    obtain ⟨h2, hc⟩ := of_allTc hc
    obtain ⟨h3, hc⟩ := of_allTc hc
    obtain ⟨h4, hc⟩ := of_allTc hc
    obtain ⟨h5, _⟩ := of_allTc hc
    have h5 := List.isEmpty_iff.1 h5
    simp only [decide_eq_true_eq] at h1 h2 h3 h4
    subst h1; subst h2; subst h5; subst h3
    exact wins_loop l y sl sy h4)).addLT
  22 3 lRWins_eq 29 [6, 5] [0, 1] (by kernel_rfl) [.one cI, .one cI] [.sl cI, .sl cI]
  (fun (z, c, _) ((l, sl), (y, sy), _) hp os => retC (.exit 0, [vX, vI (cntI l y)], []) [decide (z = 0), decide (c = 0), decide (l.length ≤ maxLen), hp.isEmpty] os)
  (fun (z, c, _) ((l, sl), (y, sy), _) hp os e outs hp' cs os' h hc => by
    simp only [retC, Option.some.injEq, Prod.mk.injEq] at h
    obtain ⟨⟨rfl, rfl, rfl⟩, rfl, rfl⟩ := h
    obtain ⟨h1, hc⟩ := of_allTc hc
    obtain ⟨h2, hc⟩ := of_allTc hc
    obtain ⟨h4, hc⟩ := of_allTc hc
    obtain ⟨h5, _⟩ := of_allTc hc
    have h5 := List.isEmpty_iff.1 h5
    simp only [decide_eq_true_eq] at h1 h2 h4
    subst h1; subst h2; subst h5
    exact rwins_loop l y sl sy h4)).addL
  23 5 lMeet_eq 39 [19] [17, 18, 1, 5] (by kernel_rfl)
  (fun vals rov hp os => match vals, rov, hp with
    | [.one (.int .i64 z)], [.one (.sl (.int .i64) l sl), .one (.int .i64 n), .one (.sl (.int .i64) y sy), .one (.ptr 0 0)], [.cells [.int .i64 c]] =>
      retC (.exit 0, [vX], [.cells [.int .i64 (cntI l y)]]) [decide (z = 0), decide (c = 0), decide (n = l.length), decide (l.length ≤ maxLen)] os
    | _, _, _ => none)
  (fun vals rov hp os e outs hp' cs os' h hc => by
    split at h
    · simp only [retC, Option.some.injEq, Prod.mk.injEq] at h
      obtain ⟨⟨rfl, rfl, rfl⟩, rfl, rfl⟩ := h
      obtain ⟨h1, hc⟩ := of_allTc hc
      obtain ⟨h2, hc⟩ := of_allTc hc
      obtain ⟨h3, hc⟩ := of_allTc hc
      obtain ⟨h4, _⟩ := of_allTc hc
      simp only [decide_eq_true_eq] at h1 h2 h3 h4
      subst h1; subst h2; subst h3
      exact meet_loop _ _ _ _ h4
    · cases h)
end Go.Proofs.Ytcigjehfmiiolaa
