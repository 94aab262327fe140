/- QuorumReached: for every input the law returns true, and each argument reads behind the call as it read before; no conditions. -/
import Derived.Test.YtcigjehfmiiolaaRows
import Derived.Test.YtcigjehfmiiolaaRec
import Derived.WalkKit
import Derived.ProofKit
import Derived.OpenShut
set_option linter.unusedVariables false
namespace Go.Proofs.Ytcigjehfmiiolaa.pQuorumReached
open Go Go.Eng Go.Proofs.Ytcigjehfmiiolaa Go.ChangeShapes Go.WideShapes Go.ChangeAt Go.RowKit

theorem own : ownKnob Try.prog.godebug = none := by kernel_rfl
theorem laidOut : laidOutB Try.prog = true := by kernel_rfl

set_option maxRecDepth 100000 in
theorem lifted (os : Os) (started : os.Started) (H : Type) (enc : TypeId × Value → H) :
    ReturnsInHanded {} Try.checked os 4 .any (Rows.quorumReachedSpec.pre6 enc Try.prog Try.f4 Rows.quorumReachedRow.domain false) (Rows.quorumReachedSpec.post enc Try.prog Try.f4 false true false false) := by
  refine returnsInHanded_of_change_shaped (C := Try.checked) own started (by kernel_rfl) Try.func4
    (ChangeSpec.witness6 (enc := enc) (C := Try.checked) false ⟨#[], #[.int .u8 0,.agg #[.int .u64 0, .int .u64 0, .int .u64 0, .int .u64 0, .int .u64 0],.int .u8 0], []⟩ 8 (by kernel_rfl) (by kernel_rfl) (by kernel_rfl) (by kernel_rfl)) ?_
  intro W base args ds gs before hval hW hcnd hz _ _
  exact law_calls (P := Try.prog) rfl (tb := 4) (by kernel_rfl) (by kernel_rfl) (fun ds h => by
    have e : Try.f4.params.toList.length = 3 := by kernel_rfl
    rw [e] at h
    match ds, h with
    | [d0, d1, d2], _ => rfl) laidOut (by kernel_rfl) (sig := sRea) (by kernel_rfl) (fun d h w => rea_law d h) W base args ds gs before hval hW hz

theorem proved : Rows.QuorumReachedSaid :=
  OpenClaim.holds_of_wide 4 Try.f4 rfl rfl rfl rfl rfl rfl rfl ⟨rfl, rfl, rfl, rfl, rfl⟩ rfl rfl rfl rfl rfl (by kernel_rfl) Try.func4 (by kernel_rfl)
    (of_decide_eq_true (by kernel_rfl)) (by unfold Func.isWrapper; first | (rw [if_pos (by decide +kernel)]; kernel_rfl) | (rw [if_neg (by decide +kernel)]; exact ⟨rfl, rfl⟩))
    (fun os started H enc _ => lifted os started H enc)
end Go.Proofs.Ytcigjehfmiiolaa.pQuorumReached
#print axioms Go.Proofs.Ytcigjehfmiiolaa.pQuorumReached.proved
