/- OpsReads: for every input the law returns true, and each argument reads behind the call as it read before; no conditions. -/
import Derived.Test.YtjplobgambnhjaaGreatRows
import Derived.Test.YtjplobgambnhjaaGreatRyc
import Derived.WalkKit
import Derived.ProofKit
import Derived.OpenShut
set_option linter.unusedVariables false
namespace Go.Proofs.YtjplobgambnhjaaGreat.pOpsReads
open Go Go.Eng Go.Proofs.YtjplobgambnhjaaGreat Go.ChangeShapes Go.WideShapes Go.ChangeAt Go.RowKit

theorem own : ownKnob Tryz.prog.godebug = none := by kernel_rfl
theorem laidOut : laidOutB Tryz.prog = true := by kernel_rfl

set_option maxRecDepth 100000 in
theorem lifted (os : Os) (started : os.Started) (H : Type) (enc : TypeId × Value → H) :
    ReturnsInHanded {} Tryz.checked os 3 .any (Rows.opsReadsSpec.pre6 enc Tryz.prog Tryz.f3 Rows.opsReadsRow.domain false) (Rows.opsReadsSpec.post enc Tryz.prog Tryz.f3 false true false false) := by
  refine returnsInHanded_of_change_shaped (C := Tryz.checked) own started (by kernel_rfl) Tryz.func3
    (ChangeSpec.witness6 (enc := enc) (C := Tryz.checked) false ⟨#[], #[.string (ByteArray.mk #[])], []⟩ 8 (by kernel_rfl) (by kernel_rfl) (by kernel_rfl) (by kernel_rfl)) ?_
  intro W base args ds gs before hval hW hcnd hz _ _
  exact law_calls (P := Tryz.prog) rfl (tb := 4) (by kernel_rfl) (by kernel_rfl) (fun ds h => by
    have e : Tryz.f3.params.toList.length = 1 := by kernel_rfl
    rw [e] at h
    match ds, h with
    | [d0], _ => rfl) laidOut (by kernel_rfl) (sig := [.one .str]) (by kernel_rfl) (fun d h w => reads_lawS d h) W base args ds gs before hval hW hz

theorem proved : Rows.OpsReadsSaid :=
  OpenClaim.holds_of_wide 3 Tryz.f3 rfl rfl rfl rfl rfl rfl rfl ⟨rfl, rfl, rfl, rfl, rfl⟩ rfl rfl rfl rfl rfl (by kernel_rfl) Tryz.func3 (by kernel_rfl)
    (of_decide_eq_true (by kernel_rfl)) (by unfold Func.isWrapper; first | (rw [if_pos (by decide +kernel)]; kernel_rfl) | (rw [if_neg (by decide +kernel)]; exact ⟨rfl, rfl⟩))
    (fun os started H enc _ => lifted os started H enc)
end Go.Proofs.YtjplobgambnhjaaGreat.pOpsReads
#print axioms Go.Proofs.YtjplobgambnhjaaGreat.pOpsReads.proved
