/- part of a list by bits; no statement. -/
import Derived.Test.YtcigjehfmiiolaaQmt2
set_option linter.unusedVariables false
namespace Go.Proofs.Ytcigjehfmiiolaa
open Go Go.Eng

def partI : List Int → Nat → List Int
  | [], _ => []
  | x :: r, b => bif Nat.beq (b % 2) 1 then x :: partI r (b / 2) else partI r (b / 2)
/-- What a run comes to, if all that it took for granted is so. -/
def runV (o : Option (AV × List Bool)) : Option AV :=
  match o with
  | some (r, cs) => bif cs.all (fun c => c) then (match r with
    | .one .nils => some (vL cI [])
    | r => some r) else none
  | none => none
theorem runV_ok (E : Env Try.prog) {f : Nat} {args : List AV} {os : List Bool} {v : AV} (h : runV (E.pureRun f args os) = some v) : PureCall Try.prog f args v := by
  unfold runV at h
  split at h
  · rename_i r cs hr
    cases hc : cs.all (fun c => c) with
    | false => rw [hc] at h; cases h
    | true =>
      rw [hc, cond_true] at h
      have hp := E.pure_ok hr (List.all_eq_true.1 hc)
      split at h
      · injection h with h; subst h
        exact hp.resw fun X v _ hv => ⟨none, 0, 0, hv, rfl, Nat.le_refl _, Nat.zero_le _, .inl rfl, trivial⟩
      · injection h with h; subst h
        exact hp
  · cases h
set_option maxRecDepth 100000 in
theorem part0  : ((List.range 1).map fun b => runV (E0.pureRun 36 [vL cI [], vI (Int.ofNat b)] [])) = ((List.range 1).map fun b => some (vL cI (partI [] b))) := by kernel_rfl
set_option maxRecDepth 100000 in
theorem part1 (a0 : Int) : ((List.range 2).map fun b => runV (E0.pureRun 36 [vL cI [a0], vI (Int.ofNat b)] [])) = ((List.range 2).map fun b => some (vL cI (partI [a0] b))) := by kernel_rfl
set_option maxRecDepth 100000 in
theorem part2 (a0 a1 : Int) : ((List.range 4).map fun b => runV (E0.pureRun 36 [vL cI [a0, a1], vI (Int.ofNat b)] [])) = ((List.range 4).map fun b => some (vL cI (partI [a0, a1] b))) := by kernel_rfl
set_option maxRecDepth 100000 in
theorem part3 (a0 a1 a2 : Int) : ((List.range 8).map fun b => runV (E0.pureRun 36 [vL cI [a0, a1, a2], vI (Int.ofNat b)] [])) = ((List.range 8).map fun b => some (vL cI (partI [a0, a1, a2] b))) := by kernel_rfl
set_option maxRecDepth 100000 in
theorem part4 (a0 a1 a2 a3 : Int) : ((List.range 16).map fun b => runV (E0.pureRun 36 [vL cI [a0, a1, a2, a3], vI (Int.ofNat b)] [])) = ((List.range 16).map fun b => some (vL cI (partI [a0, a1, a2, a3] b))) := by kernel_rfl
set_option maxRecDepth 100000 in
theorem part5 (a0 a1 a2 a3 a4 : Int) : ((List.range 32).map fun b => runV (E0.pureRun 36 [vL cI [a0, a1, a2, a3, a4], vI (Int.ofNat b)] [])) = ((List.range 32).map fun b => some (vL cI (partI [a0, a1, a2, a3, a4] b))) := by kernel_rfl

theorem part_pure (l : List Int) (b : Int) (hl : l.length ≤ 5) (h0 : 0 ≤ b) (h1 : b < 2 ^ l.length) : PureCall Try.prog 36 [vL cI l, vI b] (vL cI (partI l b.toNat)) := by
  obtain ⟨n, rfl⟩ : ∃ n : Nat, b = Int.ofNat n := ⟨b.toNat, (Int.toNat_of_nonneg h0).symm⟩
  have hn : n < 2 ^ l.length := by have := Int.ofNat_lt.1 (by simpa using h1 : (n : Int) < ((2 ^ l.length : Nat) : Int)); exact this
  show PureCall Try.prog _ _ (vL cI (partI l n))
  match l, hl, hn with
  | [], _, hn => exact runV_ok E0 (List.map_inj_left.1 (part0 ) n (List.mem_range.2 hn))
  | [a0], _, hn => exact runV_ok E0 (List.map_inj_left.1 (part1 a0) n (List.mem_range.2 hn))
  | [a0, a1], _, hn => exact runV_ok E0 (List.map_inj_left.1 (part2 a0 a1) n (List.mem_range.2 hn))
  | [a0, a1, a2], _, hn => exact runV_ok E0 (List.map_inj_left.1 (part3 a0 a1 a2) n (List.mem_range.2 hn))
  | [a0, a1, a2, a3], _, hn => exact runV_ok E0 (List.map_inj_left.1 (part4 a0 a1 a2 a3) n (List.mem_range.2 hn))
  | [a0, a1, a2, a3, a4], _, hn => exact runV_ok E0 (List.map_inj_left.1 (part5 a0 a1 a2 a3 a4) n (List.mem_range.2 hn))
  | _ :: _ :: _ :: _ :: _ :: _ :: _, hl, _ => simp at hl
noncomputable def EPart : Env Try.prog := EMt2.addT1 36 [.one (.sl cI), .one cI] (fun d => vL cI (partI d.1 d.2.1.toNat)) (fun d => [decide (List.length d.1 ≤ 5), decide (0 ≤ d.2.1), decide (d.2.1 < 2 ^ List.length d.1)])
  fun d hc => by
    obtain ⟨h1, hc⟩ := of_allTc hc
    obtain ⟨h2, hc⟩ := of_allTc hc
    obtain ⟨h3, _⟩ := of_allTc hc
    exact part_pure d.1 d.2.1 (of_decide_eq_true h1) (of_decide_eq_true h2) (of_decide_eq_true h3)
end Go.Proofs.Ytcigjehfmiiolaa
