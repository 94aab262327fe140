/- Members; no statement. -/
import Derived.Test.YtiodkcnponhhgaaGreatSl
set_option linter.unusedVariables false
set_option linter.unusedSimpArgs false
namespace Go.Proofs.YtiodkcnponhhgaaGreat
open Go Go.Eng

def pv (k : Nat) : Int := IntKind.i64.wrap (((k : Nat) : Int) - 1)
/-- Do the first ones rise, and are they nodes? -/
def gK (l : List Int) : Nat → Bool
  | 0 => true
  | k + 1 => gK l k && (decide (l.getD k 0 ≥ 0) && (decide (l.getD k 0 < 5) && ((((k : Nat) : Int) == 0) || decide (l.getD (pv k).toNat 0 < l.getD k 0))))
theorem gK_succ (l : List Int) (k : Nat) : gK l (k + 1) = (gK l k && (decide (l.getD k 0 ≥ 0) && (decide (l.getD k 0 < 5) && ((((k : Nat) : Int) == 0) || decide (l.getD (pv k).toNat 0 < l.getD k 0))))) := rfl
noncomputable def lMem : Code := (theLoop Tryz.prog 72 3).getD .skip
theorem lMem_eq : theLoop Tryz.prog 72 3 = some lMem := by kernel_rfl
theorem mem_loop (l : List Int) (hl : l.length ≤ maxLen) :
    LoopOk Tryz.prog lMem 39 [8, 3] [0, 6, 7] [vI 0, vB true] [vL cI l, vL cI l, vI l.length] [] (.exit 0) [vX, vB (gK l l.length)] [] := by
  unfold maxLen at hl
  refine LoopOk.rounds (S := Nat) E0 lMem_eq (by kernel_rfl) (fun k => [vI k, vB (gK l k)]) (fun k => []) (fun k => k ≤ l.length) (fun k => l.length - k) 0 (Nat.zero_le _) ?_ (fun _ _ => rfl)
  intro k hk
  have hki : decide (((k : Nat) : Int) < ((l.length : Nat) : Int)) = true → inB ((k : Nat) : Int) l.length = true := fun h => inB_of (by omega) (by simpa using h)
  have hpi : ((((k : Nat) : Int) == 0) : Bool) = false → decide (((k : Nat) : Int) < ((l.length : Nat) : Int)) = true → inB (pv k) l.length = true := fun h0 h => by
    have h0 : ¬ ((k : Nat) : Int) = 0 := by simpa using h0
    have h : ((k : Nat) : Int) < ((l.length : Nat) : Int) := by simpa using h
    unfold pv; rw [wrap64 (by omega) (by omega)]; exact inB_of (by omega) (by omega)
  have hw : decide (((k : Nat) : Int) < ((l.length : Nat) : Int)) = true → IntKind.i64.wrap (((k : Nat) : Int) + 1) = ((k + 1 : Nat) : Int) := fun h => by
    have h : ((k : Nat) : Int) < ((l.length : Nat) : Int) := by simpa using h
    rw [wrap64 (by omega) (by omega)]; rfl
  have inv : decide (((k : Nat) : Int) < ((l.length : Nat) : Int)) = true → k + 1 ≤ l.length := fun h => by
    have h : ((k : Nat) : Int) < ((l.length : Nat) : Int) := by simpa using h
    omega
  have mu : decide (((k : Nat) : Int) < ((l.length : Nat) : Int)) = true → l.length - (k + 1) < l.length - k := fun h => by
    have h : ((k : Nat) : Int) < ((l.length : Nat) : Int) := by simpa using h
    omega
  have fin : decide (((k : Nat) : Int) < ((l.length : Nat) : Int)) = false → k = l.length := fun h => by
    have h : ¬ ((k : Nat) : Int) < ((l.length : Nat) : Int) := by simpa using h
    omega
  cases h1 : (decide (((k : Nat) : Int) < ((l.length : Nat) : Int)) : Bool) with
  | true =>
    cases h2 : (gK l k : Bool) with
    | true =>
      cases h3 : (decide (l.getD k 0 ≥ 0) : Bool) with
      | true =>
        cases h4 : (decide (l.getD k 0 < 5) : Bool) with
        | true =>
          cases h5 : (((k : Nat) : Int) == 0 : Bool) with
          | true =>
            (refine OneRound.go [true, true, true, true, true, true, true, true, true, true, true, true, true, true, true, true, true, true, true, true, true] (vs := [(.one (.int .i64 (IntKind.i64.wrap (((k : Nat) : Int) + 1)))), (.one (.bool true))]) (hp' := []) (cs := [decide (l.getD k 0 < 5) == true, (((k : Nat) : Int) == 0) == true, decide (l.getD k 0 < 5) == true, (((k : Nat) : Int) == 0) == true, (((k : Nat) : Int) == 0) == true, (((k : Nat) : Int) == 0) == true, (((k : Nat) : Int) == 0) == true, (((k : Nat) : Int) == 0) == true, (((k : Nat) : Int) == 0) == true, (((k : Nat) : Int) == 0) == true, decide (l.getD k 0 < 5) == true, decide (l.getD k 0 < 5) == true, decide (l.getD k 0 < 5) == true, gK l k == true, decide (l.getD k 0 ≥ 0) == true, decide (l.getD k 0 ≥ 0) == true, decide (l.getD k 0 ≥ 0) == true, decide (l.getD k 0 ≥ 0) == true, gK l k == true, gK l k == true, inB (((k : Nat) : Int)) l.length, decide (((k : Nat) : Int) < ((l.length : Nat) : Int)) == true]) (fun rest => by kernel_rfl) (allI (by first | (simp only [h1, h2, h3, h4, h5, hki h1]; rfl) | (simp only [h1, h2, h3, h4, h5, hki h1, hpi h5 h1]; rfl))) (k + 1) (inv h1) (mu h1) ⟨.of_eq (by rw [hw h1]), .of_eq (by rw [gK_succ]; simp only [h1, h2, h3, h4, h5]; rfl), trivial⟩ rfl (.inl (Nat.le_refl _)))
          | false =>
            (refine OneRound.go [true, true, true, true, true, true, true, true, true, true, true, false, false, false, false, false, false, false, true, false, true] (vs := [(.one (.int .i64 (IntKind.i64.wrap (((k : Nat) : Int) + 1)))), (.one (.bool (decide (l.getD (pv k).toNat 0 < l.getD k 0))))]) (hp' := []) (cs := [decide (l.getD k 0 < 5) == true, (((k : Nat) : Int) == 0) == false, decide (l.getD k 0 < 5) == true, (((k : Nat) : Int) == 0) == false, (((k : Nat) : Int) == 0) == false, (((k : Nat) : Int) == 0) == false, inB (pv k) l.length, (((k : Nat) : Int) == 0) == false, (((k : Nat) : Int) == 0) == false, (((k : Nat) : Int) == 0) == false, (((k : Nat) : Int) == 0) == false, decide (l.getD k 0 < 5) == true, decide (l.getD k 0 < 5) == true, decide (l.getD k 0 < 5) == true, gK l k == true, decide (l.getD k 0 ≥ 0) == true, decide (l.getD k 0 ≥ 0) == true, decide (l.getD k 0 ≥ 0) == true, decide (l.getD k 0 ≥ 0) == true, gK l k == true, gK l k == true, inB (((k : Nat) : Int)) l.length, decide (((k : Nat) : Int) < ((l.length : Nat) : Int)) == true]) (fun rest => by kernel_rfl) (allI (by first | (simp only [h1, h2, h3, h4, h5, hki h1]; rfl) | (simp only [h1, h2, h3, h4, h5, hki h1, hpi h5 h1]; rfl))) (k + 1) (inv h1) (mu h1) ⟨.of_eq (by rw [hw h1]), .of_eq (by rw [gK_succ]; simp only [h1, h2, h3, h4, h5]; rfl), trivial⟩ rfl (.inl (Nat.le_refl _)))
        | false =>
          (refine OneRound.go [true, true, true, true, true, true, true, true, false, false, false, false, false] (vs := [(.one (.int .i64 (IntKind.i64.wrap (((k : Nat) : Int) + 1)))), (.one (.bool false))]) (hp' := []) (cs := [decide (l.getD k 0 < 5) == false, decide (l.getD k 0 < 5) == false, decide (l.getD k 0 < 5) == false, decide (l.getD k 0 < 5) == false, decide (l.getD k 0 < 5) == false, gK l k == true, decide (l.getD k 0 ≥ 0) == true, decide (l.getD k 0 ≥ 0) == true, decide (l.getD k 0 ≥ 0) == true, decide (l.getD k 0 ≥ 0) == true, gK l k == true, gK l k == true, inB (((k : Nat) : Int)) l.length, decide (((k : Nat) : Int) < ((l.length : Nat) : Int)) == true]) (fun rest => by kernel_rfl) (allI (by first | (simp only [h1, h2, h3, h4, hki h1]; rfl) | (simp only [h1, h2, h3, h4, hki h1, hpi h5 h1]; rfl))) (k + 1) (inv h1) (mu h1) ⟨.of_eq (by rw [hw h1]), .of_eq (by rw [gK_succ]; simp only [h1, h2, h3, h4]; rfl), trivial⟩ rfl (.inl (Nat.le_refl _)))
      | false =>
        (refine OneRound.go [true, true, true, false, false, false, false, true, false, false, false, false, false] (vs := [(.one (.int .i64 (IntKind.i64.wrap (((k : Nat) : Int) + 1)))), (.one (.bool false))]) (hp' := []) (cs := [false == false, false == false, false == false, false == false, false == false, gK l k == true, decide (l.getD k 0 ≥ 0) == false, decide (l.getD k 0 ≥ 0) == false, decide (l.getD k 0 ≥ 0) == false, decide (l.getD k 0 ≥ 0) == false, gK l k == true, gK l k == true, inB (((k : Nat) : Int)) l.length, decide (((k : Nat) : Int) < ((l.length : Nat) : Int)) == true]) (fun rest => by kernel_rfl) (allI (by first | (simp only [h1, h2, h3, hki h1]; rfl) | (simp only [h1, h2, h3, hki h1, hpi h5 h1]; rfl))) (k + 1) (inv h1) (mu h1) ⟨.of_eq (by rw [hw h1]), .of_eq (by rw [gK_succ]; simp only [h1, h2, h3]; rfl), trivial⟩ rfl (.inl (Nat.le_refl _)))
    | false =>
      (refine OneRound.go [true, false, false, false, false, false, false, false, false] (vs := [(.one (.int .i64 (IntKind.i64.wrap (((k : Nat) : Int) + 1)))), (.one (.bool false))]) (hp' := []) (cs := [false == false, false == false, false == false, false == false, false == false, gK l k == false, gK l k == false, gK l k == false, inB (((k : Nat) : Int)) l.length, decide (((k : Nat) : Int) < ((l.length : Nat) : Int)) == true]) (fun rest => by kernel_rfl) (allI (by first | (simp only [h1, h2, hki h1]; rfl) | (simp only [h1, h2, hki h1, hpi h5 h1]; rfl))) (k + 1) (inv h1) (mu h1) ⟨.of_eq (by rw [hw h1]), .of_eq (by rw [gK_succ]; simp only [h1, h2]; rfl), trivial⟩ rfl (.inl (Nat.le_refl _)))
  | false =>
    (refine OneRound.stop [false] (vs := [(.one (.int .i64 ((k : Nat) : Int))), (.one (.bool (gK l k)))]) (hp' := []) (cs := [decide (((k : Nat) : Int) < ((l.length : Nat) : Int)) == false]) (fun rest => by kernel_rfl) (allI (by simp only [h1]; rfl)) (by simp) ⟨.unk, .of_eq (by rw [fin h1]), trivial⟩ rfl (.inl (Nat.le_refl _)))

noncomputable def EOm0 : Env Tryz.prog := E0.addL 72 3 lMem_eq 39 [8, 3] [0, 6, 7] (by kernel_rfl)
  (fun vals rov hp os => match vals, rov, hp with
    | [.one (.int .i64 z), .one (.bool true)], [.one (.sl (.int .i64) l .shared), .one (.sl (.int .i64) l' .shared), .one (.int .i64 n)], [] =>
      retC (.exit 0, [vX, vB (gK l l.length)], []) [decide (z = 0), decide (l = l'), decide (n = l.length), decide (l.length ≤ maxLen)] os
    | _, _, _ => none)
  (fun vals rov hp os e outs hp' cs os' h hc => by
    split at h
    · rename_i z l l' n
      simp only [retC, Option.some.injEq, Prod.mk.injEq] at h
      obtain ⟨⟨rfl, rfl, rfl⟩, rfl, rfl⟩ := h
      obtain ⟨h1, hc⟩ := of_allTc hc
      obtain ⟨h3, hc⟩ := of_allTc hc
      obtain ⟨h4, hc⟩ := of_allTc hc
      obtain ⟨h5, _⟩ := of_allTc hc
      simp only [decide_eq_true_eq] at h1 h3 h4 h5
      subst h1; subst h3; subst h4
      exact mem_loop l h5
    · cases h)
end Go.Proofs.YtiodkcnponhhgaaGreat
