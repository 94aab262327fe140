/- slices.Clone of ints; no statement. -/
import Derived.Test.YthdgoefjkfafkaaGreatBase
set_option linter.unusedVariables false
namespace Go.Proofs.YthdgoefjkfafkaaGreat
open Go Go.Eng

theorem clone_ints (l : List Int) (h : l.length * 8 ≤ 140737488355328 ∧ l.length ≤ maxLen) : PureCall Tryz.prog 74 [vL cI l] (vL cI l) :=
  clone_of E0 (os := [false, false]) (cs := [Nat.ble ((0 + l.length) * 8) 140737488355328 && Nat.ble (0 + l.length) maxLen, l.isEmpty == false, false == false]) (by kernel_rfl) (by kernel_rfl) (fun _ => by kernel_rfl)
    fun hl => allTc (by simp only [Nat.zero_add, Bool.and_eq_true, Nat.ble_eq]; exact h) (allTc (by cases l with | nil => exact absurd rfl hl | cons _ _ => rfl) (allT1 rfl))

noncomputable def EClone : Env Tryz.prog := E0.addT1 74 [.one (.sl cI)] (fun d => vL cI d.1) (fun d => [Nat.ble (d.1.length * 8) 140737488355328, Nat.ble d.1.length maxLen])
  fun d hc => clone_ints d.1 ⟨by simpa using (of_allTc hc).1, by simpa using (of_allTc (of_allTc hc).2).1⟩
end Go.Proofs.YthdgoefjkfafkaaGreat
