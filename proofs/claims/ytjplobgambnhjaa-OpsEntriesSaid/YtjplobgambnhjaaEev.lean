/- Entries as bytes: the environment; no statement. -/
import Derived.Test.YtjplobgambnhjaaEcm
import Derived.Test.YtjplobgambnhjaaOen
set_option linter.unusedVariables false
namespace Go.Proofs.Ytjplobgambnhjaa
open Go Go.Eng

noncomputable def EEe : Env Try.prog := ((ECm.addT1 22 [.agg rEntry] (fun d => vI (entV d.1)) (fun _ => []) fun d _ => ent_pure d.1).addT1
  23 [.agg rEntry] (fun d => vI (entV d.1)) (fun d => [decide ((0 : Int) ≤ d.1.1), decide ((0 : Int) ≤ d.1.2.1)]) fun d hc => rent_pure d.1 (of_decide_eq_true (hc _ (List.mem_cons_self ..))) (of_decide_eq_true (hc _ (List.mem_cons_of_mem _ (List.mem_cons_self ..)))))
end Go.Proofs.Ytjplobgambnhjaa
