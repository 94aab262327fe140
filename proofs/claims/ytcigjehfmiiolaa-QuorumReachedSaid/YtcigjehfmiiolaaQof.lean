/- quorum.of, its list, slices.Equal, Check; no statement. -/
import Derived.Test.YtcigjehfmiiolaaIdx
set_option linter.unusedVariables false
namespace Go.Proofs.Ytcigjehfmiiolaa
open Go Go.Eng

/-- Is it in the list? -/
def hasI (l : List Int) (j : Int) : Bool := l.any fun x => decide (x = j)
/-- Is it a node? -/
def in5 (x : Int) : Bool := decide (0 ≤ x) && decide (x < 5)
def bits5 (l : List Int) : List AC := [.bool (hasI l 0), .bool (hasI l 1), .bool (hasI l 2), .bool (hasI l 3), .bool (hasI l 4)]
def f5 : List AC := [.bool false, .bool false, .bool false, .bool false, .bool false]

theorem hasI_take {l : List Int} {k : Nat} (h : k < l.length) (j : Int) : hasI (l.take (k + 1)) j = bif decide (l.getD k 0 = j) then true else hasI (l.take k) j := by
  rw [List.take_add_one, getD_get (d := 0) h]
  simp only [hasI, List.any_append, Option.toList, List.any_cons, List.any_nil, Bool.or_false]
  cases decide (l.getD k 0 = j) <;> simp
theorem hasI_iff {l : List Int} {j : Int} : hasI l j = true ↔ j ∈ l := by
  simp [hasI]

noncomputable def lOf : Code := (theLoop Try.prog 31 3).getD .skip
theorem lOf_eq : theLoop Try.prog 31 3 = some lOf := by kernel_rfl

theorem take_takeWhile {α : Type} {p : α → Bool} : ∀ {l : List α} {k : Nat} {x : α}, (∀ j y, j < k → l[j]? = some y → p y = true) → l[k]? = some x → p x = false → l.takeWhile p = l.take k
  | [], k, x, _, h, _ => by simp at h
  | a :: r, 0, x, _, h, hp => by
    simp only [List.getElem?_cons_zero, Option.some.injEq] at h
    subst h; simp [List.takeWhile, hp]
  | a :: r, k + 1, x, hb, h, hp => by
    have ha : p a = true := hb 0 a (by omega) rfl
    simp only [List.takeWhile, ha, List.take_succ_cons]
    rw [take_takeWhile (l := r) (k := k) (fun j y hj hy => hb (j + 1) y (by omega) (by simpa using hy)) (by simpa using h) hp]

theorem all_of_get {α : Type} {p : α → Bool} {l : List α} (h : ∀ (j : Nat) x, j < l.length → l[j]? = some x → p x = true) : l.all p = true := by
  rw [List.all_eq_true]
  intro x hx
  obtain ⟨j, hj⟩ := List.getElem?_of_mem hx
  exact h j x (List.getElem?_eq_some_iff.1 hj).1 hj

theorem of_loop (l : List Int) (hl : l.length ≤ maxLen) :
    (l.all in5 = true → LoopOk Try.prog lOf 24 [9, 3] [2, 4, 7, 8] [vI 0, vB false] [.one (.ptr 0 0), .one (.ptr 1 0), vL cI l, vI l.length] [.cells f5, .cells f5] (.exit 0) [vX, vB false] [.cells f5, .cells (bits5 l)]) ∧
    (l.all in5 = false → LoopOk Try.prog lOf 24 [9, 3] [2, 4, 7, 8] [vI 0, vB false] [.one (.ptr 0 0), .one (.ptr 1 0), vL cI l, vI l.length] [.cells f5, .cells f5] .ret [vX, vB false] [.cells f5, .cells (bits5 (l.takeWhile in5))]) := by
  unfold maxLen at hl
  refine ⟨fun hf => ?_, fun hf => ?_⟩
  all_goals
    refine LoopOk.rounds (S := Nat) E0 lOf_eq (by kernel_rfl) (fun k => [vI k, vB false]) (fun k => [.cells f5, .cells (bits5 (l.take k))]) (fun k => k ≤ l.length ∧ ∀ j x, j < k → l[j]? = some x → in5 x = true) (fun k => l.length - k) 0 ⟨by omega, fun j x hj => by omega⟩ ?_ (fun _ _ => rfl)
    intro k ⟨hk, hbefore⟩
    by_cases hlt : k < l.length
    · have hget : l[k]? = some (l.getD k 0) := getD_get hlt
      by_cases h0 : l.getD k 0 < 0
      · have hn : in5 (l.getD k 0) = false := by simp only [in5, Bool.and_eq_false_iff, decide_eq_false_iff_not]; left; omega
        first
        | (have this : l.all in5 = false := List.all_eq_false.2 ⟨_, List.mem_of_getElem? hget, by rw [hn]; simp⟩; exact Bool.noConfusion (this.symm.trans hf))
        | refine OneRound.stop [true, true, true, true, true] (vs := [vI k, vB false]) (hp' := [.cells f5, .cells (bits5 (l.take k))])
            (cs := [true == true, decide (l.getD k 0 < 0) == true, decide (l.getD k 0 < 0) == true, decide (l.getD k 0 < 0) == true, inB k l.length, decide ((k : Int) < l.length) == true])
            (fun rest => by kernel_rfl) (allTc rfl (allTc (dT h0) (allTc (dT h0) (allTc (dT h0) (allTc (inB_of (by omega) (by omega)) (allT1 (dT (by omega)))))))) (by simp) ⟨.unk, .refl, trivial⟩ ?_ (.inl (Nat.le_refl _))
          rw [take_takeWhile hbefore hget hn]; rfl
      · by_cases h5 : l.getD k 0 ≥ 5
        · have hn : in5 (l.getD k 0) = false := by simp only [in5, Bool.and_eq_false_iff, decide_eq_false_iff_not]; right; omega
          first
          | (have this : l.all in5 = false := List.all_eq_false.2 ⟨_, List.mem_of_getElem? hget, by rw [hn]; simp⟩; exact Bool.noConfusion (this.symm.trans hf))
          | refine OneRound.stop [true, false, false, false, true] (vs := [vI k, vB false]) (hp' := [.cells f5, .cells (bits5 (l.take k))])
              (cs := [decide (l.getD k 0 ≥ 5) == true, decide (l.getD k 0 < 0) == false, decide (l.getD k 0 < 0) == false, decide (l.getD k 0 < 0) == false, inB k l.length, decide ((k : Int) < l.length) == true])
              (fun rest => by kernel_rfl) (allTc (dT h5) (allTc (dF h0) (allTc (dF h0) (allTc (dF h0) (allTc (inB_of (by omega) (by omega)) (allT1 (dT (by omega)))))))) (by simp) ⟨.unk, .refl, trivial⟩ ?_ (.inl (Nat.le_refl _))
            rw [take_takeWhile hbefore hget hn]; rfl
        · refine OneRound.go [true, false, false, false, false] (vs := [vI (IntKind.i64.wrap (k + 1)), vB false])
            (hp' := [.cells f5, .cells [.bool (bif decide (l.getD k 0 = 0) then true else hasI (l.take k) 0), .bool (bif decide (l.getD k 0 = 1) then true else hasI (l.take k) 1), .bool (bif decide (l.getD k 0 = 2) then true else hasI (l.take k) 2), .bool (bif decide (l.getD k 0 = 3) then true else hasI (l.take k) 3), .bool (bif decide (l.getD k 0 = 4) then true else hasI (l.take k) 4)]])
            (cs := [inB (l.getD k 0) 5, decide (l.getD k 0 ≥ 5) == false, decide (l.getD k 0 < 0) == false, decide (l.getD k 0 < 0) == false, decide (l.getD k 0 < 0) == false, inB k l.length, decide ((k : Int) < l.length) == true])
            (fun rest => by kernel_rfl) (allTc (inB_of (by omega) (by omega)) (allTc (dF h5) (allTc (dF h0) (allTc (dF h0) (allTc (dF h0) (allTc (inB_of (by omega) (by omega)) (allT1 (dT (by omega)))))))))
            (k + 1) ⟨by omega, fun j x hj hx => ?_⟩ (by omega) ⟨.of_eq ?_, .refl, trivial⟩ ?_ (.inl (Nat.le_refl _))
          · by_cases hjk : j < k
            · exact hbefore j x hjk hx
            · have : j = k := by omega
              subst this
              rw [hget] at hx
              injection hx with hx; subst hx
              simp only [in5, Bool.and_eq_true, decide_eq_true_eq]; omega
          · rw [wrap64 (by omega) (by omega)]; rfl
          · show _ = [AB.cells f5, AB.cells (bits5 (l.take (k + 1)))]
            unfold bits5
            rw [hasI_take hlt, hasI_take hlt, hasI_take hlt, hasI_take hlt, hasI_take hlt]
            rfl
    · have hkl : k = l.length := by omega
      subst hkl
      first
      | (have this : l.all in5 = true := all_of_get hbefore; exact Bool.noConfusion (this.symm.trans hf))
      | refine OneRound.stop [false] (vs := [vI l.length, vB false]) (hp' := [.cells f5, .cells (bits5 (l.take l.length))]) (cs := [decide ((l.length : Int) < l.length) == false]) (fun rest => by kernel_rfl) (allT1 (dF (by omega))) (by simp) ⟨.unk, .refl, trivial⟩ (by show [AB.cells f5, AB.cells (bits5 (l.take l.length))] = _; rw [List.take_length]) (.inl (Nat.le_refl _))

noncomputable def EOf1 : Env Try.prog := EIdx1.addL 31 3 lOf_eq 24 [9, 3] [2, 4, 7, 8] (by kernel_rfl)
  (fun vals rov hp os => match vals, rov, hp with
    | [.one (.int .i64 z), .one (.bool false)], [.one (.ptr 0 0), .one (.ptr 1 0), .one (.sl (.int .i64) l .shared), .one (.int .i64 n)], [.cells [.bool false, .bool false, .bool false, .bool false, .bool false], .cells [.bool false, .bool false, .bool false, .bool false, .bool false]] =>
      brL (l.all in5) os (fun os => retC (.exit 0, [vX, vB false], [.cells f5, .cells (bits5 l)]) [decide (z = 0), decide (n = l.length), decide (l.length ≤ maxLen)] os)
        (fun os => retC (.ret, [vX, vB false], [.cells f5, .cells (bits5 (l.takeWhile in5))]) [decide (z = 0), decide (n = l.length), decide (l.length ≤ maxLen)] os)
    | _, _, _ => none)
  (fun vals rov hp os e outs hp' cs os' h hc => by
    split at h
    · rcases brL_some h hc with ⟨hb, o, c, h, hc⟩ | ⟨hb, o, c, h, hc⟩
      all_goals
        simp only [retC, Option.some.injEq, Prod.mk.injEq] at h
        obtain ⟨⟨rfl, rfl, rfl⟩, rfl, rfl⟩ := h
        obtain ⟨h1, hc⟩ := of_allTc hc
        obtain ⟨h2, hc⟩ := of_allTc hc
        obtain ⟨h3, _⟩ := of_allTc hc
        simp only [decide_eq_true_eq] at h1 h2 h3
        subst h1; subst h2
        first | exact (of_loop _ h3).1 hb | exact (of_loop _ h3).2 hb
    · cases h)
end Go.Proofs.Ytcigjehfmiiolaa
