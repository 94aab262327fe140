/- OpsAgain: for every input the law returns true, and each argument reads behind the call as it read before; no conditions. -/
import Derived.Test.YtjplobgambnhjaaRows
import Derived.Test.YtjplobgambnhjaaAgl
import Derived.WalkKit
import Derived.ProofKit
import Derived.OpenShut
set_option linter.unusedVariables false
namespace Go.Proofs.Ytjplobgambnhjaa.pOpsAgain
open Go Go.Eng Go.Proofs.Ytjplobgambnhjaa Go.ChangeShapes Go.WideShapes Go.ChangeAt Go.RowKit

theorem own : ownKnob Try.prog.godebug = none := by kernel_rfl
theorem laidOut : laidOutB Try.prog = true := by kernel_rfl

set_option maxRecDepth 100000 in
theorem lifted (os : Os) (started : os.Started) (H : Type) (enc : TypeId × Value → H) :
    ReturnsInHanded {} Try.checked os 9 .any (Rows.opsAgainSpec.pre6 enc Try.prog Try.f9 Rows.opsAgainRow.domain false) (Rows.opsAgainSpec.post enc Try.prog Try.f9 false true false false) := by
  refine returnsInHanded_of_change_shaped (C := Try.checked) own started (by kernel_rfl) Try.func9
    (ChangeSpec.witness6 (enc := enc) (C := Try.checked) false ⟨#[], #[.string (ByteArray.mk #[])], []⟩ 8 (by kernel_rfl) (by kernel_rfl) (by kernel_rfl) (by kernel_rfl)) ?_
  intro W base args ds gs before hval hW hcnd hz _ _
  exact law_calls (P := Try.prog) rfl (tb := 4) (by kernel_rfl) (by kernel_rfl) (fun ds h => by
    have e : Try.f9.params.toList.length = 1 := by kernel_rfl
    rw [e] at h
    match ds, h with
    | [d0], _ => rfl) laidOut (by kernel_rfl) (sig := [.one .str]) (by kernel_rfl) (fun d h w => again_lawS d h) W base args ds gs before hval hW hz

theorem proved : Rows.OpsAgainSaid :=
  OpenClaim.holds_of_wide 9 Try.f9 rfl rfl rfl rfl rfl rfl rfl ⟨rfl, rfl, rfl, rfl, rfl⟩ rfl rfl rfl rfl rfl (by kernel_rfl) Try.func9 (by kernel_rfl)
    (of_decide_eq_true (by kernel_rfl)) (by unfold Func.isWrapper; first | (rw [if_pos (by decide +kernel)]; kernel_rfl) | (rw [if_neg (by decide +kernel)]; exact ⟨rfl, rfl⟩))
    (fun os started H enc _ => lifted os started H enc)
end Go.Proofs.Ytjplobgambnhjaa.pOpsAgain
#print axioms Go.Proofs.Ytjplobgambnhjaa.pOpsAgain.proved
