/- Wins, Meet: their contracts; loops that look for a node in common; no statement. -/
import Derived.Test.YtcigjehfmiiolaaQwin
set_option linter.unusedVariables false
namespace Go.Proofs.Ytcigjehfmiiolaa
open Go Go.Eng

def winI (l y : List Int) : Bool := mayB l && decide (((cntI l y : Nat) : Int) ≥ mostI l)
def needI (l : List Int) (c : Int) : Int := if IntKind.i64.wrap (mostI l - IntKind.i64.wrap (((l.length : Nat) : Int) - c)) > 0 then IntKind.i64.wrap (mostI l - IntKind.i64.wrap (((l.length : Nat) : Int) - c)) else 0
def meetI (l y : List Int) : Bool := mayB l && (mayB y && decide (IntKind.i64.wrap (needI l (cntI l y : Nat) + needI y (cntI l y : Nat)) > ((cntI l y : Nat) : Int)))
theorem chk_may {l : List Int} (h : mayB l = true) : chkI l = 0 := by simp [chkI, h]
theorem chk_no {l : List Int} (h : mayB l = false) : chkI l = 2 := by simp [chkI, h]

theorem wins_pure (l y : List Int) : PureCall Try.prog 15 [vL cI l, vL cI y] (vB (winI l y)) := by
  refine PureCall.facts' (by kernel_rfl) fun ⟨X, vs, hX, hv⟩ => ?_
  have hlen : l.length ≤ 9223372036854775807 := len_of hv 0 rfl
  unfold winI
  cases h : mayB l with
  | true => exact EWin.pure_ok (os := [true, true, true, true, true]) (r := vB (decide (((cntI l y : Nat) : Int) ≥ mostI l))) (cs := [((chkI l == 0) == true), ((chkI l == 0) == true), ((chkI l == 0) == true), ((chkI l == 0) == true), ((chkI l == 0) == true), (decide (0 = 0)), (decide (0 = 0)), (decide (((l.length : Nat) : Int) = ((l.length : Nat) : Int))), (decide (l.length ≤ 9223372036854775807)), true]) (by kernel_rfl) (allI (by simp [chk_may h, hlen]))
  | false => exact EWin.pure_ok (os := [false, false, false, false, false]) (r := vB false) (cs := [((chkI l == 0) == false), ((chkI l == 0) == false), ((chkI l == 0) == false), ((chkI l == 0) == false), ((chkI l == 0) == false), (decide (0 = 0)), (decide (0 = 0)), (decide (((l.length : Nat) : Int) = ((l.length : Nat) : Int))), (decide (l.length ≤ 9223372036854775807)), true]) (by kernel_rfl) (allI (by simp [chk_no h, hlen]))
theorem rwins_pure (l y : List Int) : PureCall Try.prog 22 [vL cI l, vL cI y] (vB (winI l y)) := by
  refine PureCall.facts' (by kernel_rfl) fun ⟨X, vs, hX, hv⟩ => ?_
  have hlen : l.length ≤ 9223372036854775807 := len_of hv 0 rfl
  unfold winI
  cases h : mayB l with
  | true => exact EWin.pure_ok (os := [true, true, true, true, true]) (r := vB (decide (((cntI l y : Nat) : Int) ≥ mostI l))) (cs := [(mayB l == true), (mayB l == true), (mayB l == true), (mayB l == true), (mayB l == true), (decide (0 = 0)), (decide (0 = 0)), (decide (l.length ≤ 9223372036854775807)), true]) (by kernel_rfl) (allI (by simp [h, hlen]))
  | false => exact EWin.pure_ok (os := [false, false, false, false, false]) (r := vB false) (cs := [(mayB l == false), (mayB l == false), (mayB l == false), (mayB l == false), (mayB l == false), (decide (0 = 0)), (decide (0 = 0)), (decide (l.length ≤ 9223372036854775807)), true]) (by kernel_rfl) (allI (by simp [h, hlen]))
theorem meet_pure (l y : List Int) : PureCall Try.prog 23 [vL cI l, vL cI y] (vB (meetI l y)) := by
  refine PureCall.facts' (by kernel_rfl) fun ⟨X, vs, hX, hv⟩ => ?_
  have hlen : l.length ≤ 9223372036854775807 := len_of hv 0 rfl
  unfold meetI
  cases h : mayB l with
  | false => exact EWin.pure_ok (os := [true, true, true, true, true]) (r := vB false) (cs := [(true == true), ((chkI l != 0) == true), ((chkI l != 0) == true), ((chkI l != 0) == true), ((chkI l != 0) == true)]) (by kernel_rfl) (allI (by simp [chk_no h]))
  | true =>
    cases h2 : mayB y with
    | false => exact EWin.pure_ok (os := [false, false, false, false, true]) (r := vB false) (cs := [((chkI y != 0) == true), ((chkI l != 0) == false), ((chkI l != 0) == false), ((chkI l != 0) == false), ((chkI l != 0) == false)]) (by kernel_rfl) (allI (by simp [chk_may h, chk_no h2]))
    | true => exact EWin.pure_ok (os := [false, false, false, false, false]) (r := vB (decide (IntKind.i64.wrap (needI l (cntI l y : Nat) + needI y (cntI l y : Nat)) > ((cntI l y : Nat) : Int)))) (cs := [(decide (0 = 0)), (decide (0 = 0)), (decide (((l.length : Nat) : Int) = ((l.length : Nat) : Int))), (decide (l.length ≤ 9223372036854775807)), ((chkI y != 0) == false), ((chkI l != 0) == false), ((chkI l != 0) == false), ((chkI l != 0) == false), ((chkI l != 0) == false)]) (by kernel_rfl) (allI (by simp [chk_may h, chk_may h2, hlen]))

/-- Is one of the one list in the other one? -/
def anyI (l y : List Int) : Bool := l.any fun x => hasI y x
theorem any_step {l : List Int} {k : Nat} (h : k < l.length) (y : List Int) : anyI (l.take (k + 1)) y = (anyI (l.take k) y || hasI y (l.getD k 0)) := by
  rw [List.take_add_one, getD_get (d := 0) h]
  simp [anyI, Option.toList]

noncomputable def lComm : Code := (theLoop Try.prog 8 17).getD .skip
theorem lComm_eq : theLoop Try.prog 8 17 = some lComm := by kernel_rfl
theorem comm_loop (l y : List Int) (sl sy : SM) (hp : List AB) (hl : l.length ≤ maxLen) :
    LoopOk Try.prog lComm 112 [14, 13] [11, 12] [vI 0, vB false] [.one (.sl cI l sl), .one (.sl cI y sy)] hp (.exit 0) [vX, vB (anyI l y)] hp := by
  unfold maxLen at hl
  refine LoopOk.rounds (S := Nat) EWin lComm_eq (by kernel_rfl) (fun k => [vI k, vB (anyI (l.take k) y)]) (fun _ => hp) (fun k => k ≤ l.length) (fun k => l.length - k) 0 (by omega) ?_ (fun _ _ => rfl)
  intro k hk
  by_cases hlt : k < l.length
  · have hc := any_step hlt y
    cases hh : anyI (l.take k) y with
    | true =>
      rw [hh, Bool.true_or] at hc
      refine OneRound.go [true, true, true, true, true, true, true, true] (vs := [vI (IntKind.i64.wrap (k + 1)), vB true]) (hp' := hp) (cs := [anyI (l.take k) y == true, anyI (l.take k) y == true, anyI (l.take k) y == true, anyI (l.take k) y == true, anyI (l.take k) y == true, anyI (l.take k) y == true, anyI (l.take k) y == true, decide ((k : Int) < l.length) == true])
        (fun rest => by kernel_rfl) (allI (by simp [hh, hlt])) (k + 1) (by omega) (by omega) ⟨.of_eq ?_, .of_eq (by rw [hc]), trivial⟩ (List.take_length) (.inl (Nat.le_refl _))
      rw [wrap64 (by omega) (by omega)]; rfl
    | false =>
      rw [hh, Bool.false_or] at hc
      refine OneRound.go [true, false, false, false, false, false, false, false] (vs := [vI (IntKind.i64.wrap (k + 1)), vB (hasI y (l.getD k 0))]) (hp' := hp) (cs := [anyI (l.take k) y == false, anyI (l.take k) y == false, anyI (l.take k) y == false, inB k l.length, anyI (l.take k) y == false, anyI (l.take k) y == false, anyI (l.take k) y == false, anyI (l.take k) y == false, decide ((k : Int) < l.length) == true])
        (fun rest => by kernel_rfl) (allI (by simp [hh, hlt, inB])) (k + 1) (by omega) (by omega) ⟨.of_eq ?_, .of_eq (by rw [hc]), trivial⟩ (List.take_length) (.inl (Nat.le_refl _))
      rw [wrap64 (by omega) (by omega)]; rfl
  · have hkl : k = l.length := by omega
    subst hkl
    exact OneRound.stop [false] (vs := [vI l.length, vB (anyI (l.take l.length) y)]) (hp' := hp) (cs := [decide ((l.length : Int) < l.length) == false]) (fun rest => by kernel_rfl) (allT1 (dF (by omega))) (by simp) ⟨.unk, .of_eq (by rw [List.take_length]), trivial⟩ (List.take_length) (.inl (Nat.le_refl _))

noncomputable def lSome : Code := (theLoop Try.prog 24 13).getD .skip
theorem lSome_eq : theLoop Try.prog 24 13 = some lSome := by kernel_rfl
theorem some_loop (l y : List Int) (sl sy : SM) (hp : List AB) (hl : l.length ≤ maxLen) :
    LoopOk Try.prog lSome 68 [10, 9] [7, 8] [vI 0, vB false] [.one (.sl cI l sl), .one (.sl cI y sy)] hp (.exit 4) [vX, vB (anyI l y)] hp := by
  unfold maxLen at hl
  refine LoopOk.rounds (S := Nat) EWin lSome_eq (by kernel_rfl) (fun k => [vI k, vB (anyI (l.take k) y)]) (fun _ => hp) (fun k => k ≤ l.length) (fun k => l.length - k) 0 (by omega) ?_ (fun _ _ => rfl)
  intro k hk
  by_cases hlt : k < l.length
  · have hc := any_step hlt y
    cases hh : anyI (l.take k) y with
    | true =>
      rw [hh, Bool.true_or] at hc
      refine OneRound.go [true, true, true, true, true, true, true, true] (vs := [vI (IntKind.i64.wrap (k + 1)), vB true]) (hp' := hp) (cs := [anyI (l.take k) y == true, anyI (l.take k) y == true, anyI (l.take k) y == true, anyI (l.take k) y == true, anyI (l.take k) y == true, anyI (l.take k) y == true, anyI (l.take k) y == true, decide ((k : Int) < l.length) == true])
        (fun rest => by kernel_rfl) (allI (by simp [hh, hlt])) (k + 1) (by omega) (by omega) ⟨.of_eq ?_, .of_eq (by rw [hc]), trivial⟩ (List.take_length) (.inl (Nat.le_refl _))
      rw [wrap64 (by omega) (by omega)]; rfl
    | false =>
      rw [hh, Bool.false_or] at hc
      refine OneRound.go [true, false, false, false, false, false, false, false] (vs := [vI (IntKind.i64.wrap (k + 1)), vB (hasI y (l.getD k 0))]) (hp' := hp) (cs := [anyI (l.take k) y == false, anyI (l.take k) y == false, anyI (l.take k) y == false, inB k l.length, anyI (l.take k) y == false, anyI (l.take k) y == false, anyI (l.take k) y == false, anyI (l.take k) y == false, decide ((k : Int) < l.length) == true])
        (fun rest => by kernel_rfl) (allI (by simp [hh, hlt, inB])) (k + 1) (by omega) (by omega) ⟨.of_eq ?_, .of_eq (by rw [hc]), trivial⟩ (List.take_length) (.inl (Nat.le_refl _))
      rw [wrap64 (by omega) (by omega)]; rfl
  · have hkl : k = l.length := by omega
    subst hkl
    exact OneRound.stop [false] (vs := [vI l.length, vB (anyI (l.take l.length) y)]) (hp' := hp) (cs := [decide ((l.length : Int) < l.length) == false]) (fun rest => by kernel_rfl) (allT1 (dF (by omega))) (by simp) ⟨.unk, .of_eq (by rw [List.take_length]), trivial⟩ (List.take_length) (.inl (Nat.le_refl _))

noncomputable def EMt : Env Try.prog := ((((EWin.addT1 15 [.one (.sl cI), .one (.sl cI)] (fun d => vB (winI d.1 d.2.1)) (fun _ => []) fun d _ => wins_pure d.1 d.2.1).addT1
  22 [.one (.sl cI), .one (.sl cI)] (fun d => vB (winI d.1 d.2.1)) (fun _ => []) fun d _ => rwins_pure d.1 d.2.1).addT1
  23 [.one (.sl cI), .one (.sl cI)] (fun d => vB (meetI d.1 d.2.1)) (fun _ => []) fun d _ => meet_pure d.1 d.2.1).addLT
  8 17 lComm_eq 112 [14, 13] [11, 12] (by kernel_rfl) [.one cI, .one .bool] [.sl cI, .sl cI]
  (fun (z, c, _) ((l, sl), (y, sy), _) hp os => retC (.exit 0, [vX, vB (anyI l y)], hp) [decide (z = 0), decide (c = false), decide (l.length ≤ maxLen)] os)
  (fun (z, c, _) ((l, sl), (y, sy), _) hp os e outs hp' cs os' h hc => by
    simp only [retC, Option.some.injEq, Prod.mk.injEq] at h
    obtain ⟨⟨rfl, rfl, rfl⟩, rfl, rfl⟩ := h
    obtain ⟨h1, hc⟩ := of_allTc hc
    obtain ⟨h2, hc⟩ := of_allTc hc
    obtain ⟨h4, _⟩ := of_allTc hc
    simp only [decide_eq_true_eq] at h1 h2 h4
    subst h1; subst h2
    exact comm_loop l y sl sy hp h4)).addLT
  24 13 lSome_eq 68 [10, 9] [7, 8] (by kernel_rfl) [.one cI, .one .bool] [.sl cI, .sl cI]
  (fun (z, c, _) ((l, sl), (y, sy), _) hp os => retC (.exit 4, [vX, vB (anyI l y)], hp) [decide (z = 0), decide (c = false), decide (l.length ≤ maxLen)] os)
  (fun (z, c, _) ((l, sl), (y, sy), _) hp os e outs hp' cs os' h hc => by
    simp only [retC, Option.some.injEq, Prod.mk.injEq] at h
    obtain ⟨⟨rfl, rfl, rfl⟩, rfl, rfl⟩ := h
    obtain ⟨h1, hc⟩ := of_allTc hc
    obtain ⟨h2, hc⟩ := of_allTc hc
    obtain ⟨h4, _⟩ := of_allTc hc
    simp only [decide_eq_true_eq] at h1 h2 h4
    subst h1; subst h2
    exact some_loop l y sl sy hp h4)
end Go.Proofs.Ytcigjehfmiiolaa
