/- rlog.all: entries in memory of their own; no statement. -/
import Derived.Test.YtmbekpoelkcceaaClone
import Derived.Test.YtmbekpoelkcceaaRows2
set_option linter.unusedVariables false
namespace Go.Proofs.Ytmbekpoelkcceaa
open Go Go.Eng

/-- An entry's Members fit. -/
def entFits (e : rEntry.den) : Bool := Nat.ble (List.length e.2.2.2.2.1 * 8) 140737488355328 && Nat.ble (List.length e.2.2.2.2.1) maxLen

noncomputable def lAll : Code := (theLoop Try.prog 33 4).getD .skip
theorem lAll_eq : theLoop Try.prog 33 4 = some lAll := by kernel_rfl

theorem set_getD {α : Type} (l : List α) (k : Nat) (d : α) : l.set k (l.getD k d) = l := by
  by_cases h : k < l.length
  · apply List.ext_getElem?
    intro j
    by_cases hj : k = j
    · subst hj; rw [List.getElem?_set_self h, getD_get h]
    · rw [List.getElem?_set_ne hj]
  · rw [List.set_eq_of_length_le (by omega)]

theorem all_loop (l : List rEntry.den) (hl : l.length ≤ maxLen) (hf : ∀ e ∈ l, entFits e = true) (n : Nat) (hn : n = l.length) :
    LoopOk Try.prog lAll 26 [13] [3, 12] [vI 0] [.one (.asl rEntry 0 0 n n), vI n] [.arr rEntry l] (.exit 0) [vX] [.arr rEntry l] := by
  subst hn
  unfold maxLen at hl
  refine LoopOk.rounds (S := Nat) EClone lAll_eq (by kernel_rfl) (fun k => [vI k]) (fun _ => [.arr rEntry l]) (fun k => k ≤ l.length) (fun k => l.length - k) 0 (by omega) ?_ (fun _ _ => rfl)
  intro k hk
  by_cases hlt : k < l.length
  · have hfk := hf _ (List.mem_of_getElem? (getD_get (d := rEntry.dflt) hlt))
    unfold entFits at hfk
    rw [Bool.and_eq_true] at hfk
    refine OneRound.goT [true] (vs := [vI (IntKind.i64.wrap (k + 1))]) (hp' := [.arr rEntry (l.set (0 + k) (l.getD (0 + k) rEntry.dflt))])
      (cs := [inB k l.length, Nat.ble (List.length (l.getD (0 + k) rEntry.dflt).2.2.2.2.1 * 8) 140737488355328, Nat.ble (List.length (l.getD (0 + k) rEntry.dflt).2.2.2.2.1) maxLen, inB k l.length, decide ((k : Int) < l.length) == true])
      (fun rest => by kernel_rfl) ?_ (k + 1) (by omega) (by omega) ⟨.of_eq ?_, trivial⟩ ?_ ⟨by simp [idsV, idsC], by simp [idsB]⟩
    · rw [Nat.zero_add]
      exact allTc (inB_of (by omega) (by omega)) (allTc hfk.1 (allTc hfk.2 (allTc (inB_of (by omega) (by omega)) (allT1 (dT (by omega))))))
    · rw [wrap64 (by omega) (by omega)]; rfl
    · rw [set_getD]
  · exact OneRound.stopT [false] (vs := [vI k]) (hp' := [.arr rEntry l]) (cs := [decide ((k : Int) < l.length) == false]) (fun rest => by kernel_rfl) (allT1 (dF (by omega))) (by simp) ⟨.unk, trivial⟩ rfl ⟨by simp [idsV, idsC], by simp [idsB]⟩

noncomputable def EAll1 : Env Try.prog := EClone.addL 33 4 lAll_eq 26 [13] [3, 12] (by kernel_rfl)
  (fun vals rov hp os => match vals, rov, hp with
    | [.one (.int .i64 z)], [.one (.asl row i off n n'), .one (.int .i64 m)], [.arr row' l] => if h : row'.eqb rEntry = true then if row.eqb rEntry then
        retC (.exit 0, [vX], [.arr rEntry (castL row' rEntry h l)]) [decide (z = 0), decide (i = 0 ∧ off = 0 ∧ n = n' ∧ m = n ∧ n = l.length ∧ n ≤ maxLen), (castL row' rEntry h l).all entFits] os
      else none else none
    | _, _, _ => none)
  (fun vals rov hp os e outs hp' cs os' h hc => by
    split at h
    · rename_i z row i off n n' m row' l
      split at h
      · rename_i hr
        have er := CT.eq_of_eqb _ _ hr
        subst er
        split at h
        · rename_i hr2
          have er2 := CT.eq_of_eqb _ _ hr2
          subst er2
          simp only [retC, Option.some.injEq, Prod.mk.injEq] at h
          obtain ⟨⟨rfl, rfl, rfl⟩, rfl, rfl⟩ := h
          obtain ⟨h1, hc⟩ := of_allTc hc
          obtain ⟨h2, hc⟩ := of_allTc hc
          obtain ⟨h3, _⟩ := of_allTc hc
          simp only [decide_eq_true_eq] at h1 h2
          obtain ⟨rfl, rfl, rfl, rfl, e, hm⟩ := h2
          subst h1
          exact all_loop l (by omega) (fun x hx => List.all_eq_true.1 h3 x hx) n e
        · cases h
      · cases h
    · cases h)

/-- What a copy into a new array of one's own length leaves. -/
def madeOf {α : Type} (d : α) (l : List α) : List α := (List.replicate l.length d).take 0 ++ (l.take (Nat.min l.length l.length) ++ (List.replicate l.length d).drop (0 + (l.take (Nat.min l.length l.length)).length))
theorem madeOf_eq {α : Type} (d : α) (l : List α) : madeOf d l = l := by
  unfold madeOf
  have h : Nat.min l.length l.length = l.length := Nat.min_self _
  rw [h, List.take_length, List.take_zero, Nat.zero_add, List.drop_of_length_le (by simp)]
  simp

theorem all_pure (l : List rEntry.den) (hl : l.length * 264 ≤ 140737488355328) (hf : l.all entFits = true) : PureCall Try.prog 33 [vL rEntry l] (.one (.sl rEntry l .full)) := by
  have h := EAll1.pure_ok (f := 33) (args := [vL rEntry l]) (os := [true]) (r := .one (.sl rEntry (((madeOf rEntry.dflt l).drop 0).take l.length) .full))
    (cs := [Nat.beq l.length l.length == true, decide ((0 : Int) = 0), decide ((0 : Nat) = 0 ∧ (0 : Nat) = 0 ∧ l.length = l.length ∧ ((l.length : Nat) : Int) = (l.length : Nat) ∧ l.length = (madeOf rEntry.dflt l).length ∧ l.length ≤ maxLen),
      (madeOf rEntry.dflt l).all entFits, decide (0 ≤ ((l.length : Nat) : Int) ∧ ((l.length : Nat) : Int) ≤ ((l.length : Nat) : Int) ∧ ((264 : Nat) : Int) * ((l.length : Nat) : Int) ≤ 281474976710656 ∧ ((l.length : Nat) : Int) ≤ 9223372036854775807)]) (by kernel_rfl) ?_
  · rw [madeOf_eq, List.drop_zero, List.take_length] at h
    exact h
  · rw [madeOf_eq]
    refine allTc (by simp) (allTc (by simp) (allTc ?_ (allTc hf (allT1 ?_))))
    · rw [decide_eq_true_eq]
      exact ⟨rfl, rfl, rfl, rfl, rfl, by unfold maxLen; omega⟩
    · rw [decide_eq_true_eq]
      refine ⟨by omega, by omega, ?_, by omega⟩
      show (264 : Int) * ((l.length : Nat) : Int) ≤ 281474976710656
      omega

noncomputable def EAll : Env Try.prog := EClone.addT1 33 [.one (.sl rEntry)] (fun d => .one (.sl rEntry d.1 .full)) (fun d => [Nat.ble (List.length d.1 * 264) 140737488355328, List.all d.1 entFits])
  fun d hc => all_pure d.1 (by simpa using (of_allTc hc).1) (of_allTc (of_allTc hc).2).1
end Go.Proofs.Ytmbekpoelkcceaa
