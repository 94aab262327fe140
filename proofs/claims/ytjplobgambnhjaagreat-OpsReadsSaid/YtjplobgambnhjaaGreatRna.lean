/- The document's DecodeMsg: the environment; no statement. -/
import Derived.Test.YtjplobgambnhjaaGreatRqe
import Derived.Test.YtjplobgambnhjaaGreatRmi
set_option linter.unusedVariables false
namespace Go.Proofs.YtjplobgambnhjaaGreat
open Go Go.Eng
noncomputable def ERn : Env Tryz.prog := (ERq.addT1 5 [.one .str] (fun d => tupE (deA d.1).1 (deA d.1).2) (fun d => [szk d.1]) fun d hc => rdent_any d.1 (of_allTc hc).1).addT1
  36 [.agg rMsg] (fun d => vI (msgV d.1)) (fun d => [decide ((eE d.1).length ≤ maxLen), nnE (eE d.1), hR (aP d.1).2.2.2.1, hR (aT d.1).2.2.2.2.1]) fun d hc =>
    rmsg_pure d.1 (of_decide_eq_true (of_allTc hc).1) (of_allTc (of_allTc hc).2).1 (of_allTc (of_allTc (of_allTc hc).2).2).1 (of_allTc (of_allTc (of_allTc (of_allTc hc).2).2).2).1
end Go.Proofs.YtjplobgambnhjaaGreat
