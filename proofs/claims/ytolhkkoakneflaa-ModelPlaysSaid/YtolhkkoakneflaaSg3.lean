/- A seek's contract, in general; no statement. -/
import Derived.Test.YtolhkkoakneflaaSg2
set_option linter.unusedVariables false
set_option linter.unusedSimpArgs false
namespace Go.Proofs.Ytolhkkoakneflaa
open Go Go.Eng

set_option maxRecDepth 100000 in
theorem sl_run (o : rOp.den) (l : List (rPl.den × rCell.den)) (hs : ∀ p : List (rPl.den × rCell.den), p.Perm l → skF o p = skF o l) (out : rRes.den) (ho : SlInv o l out []) :
    ∃ cs os', runSk o l out [] = some (.agg (rRes.cells (skF o l)), [.mp rPl rCell true true l, .cells [.mref 0], .cells (rOp.cells o), .cells (rRes.cells (skF o l)), .cells (rRes.cells (skF o l)), .iter 0 l.length false], cs, os') ∧ ∀ c ∈ cs, c = true := by
  have key : runSk o l out [] = some (.agg (rRes.cells out), [.mp rPl rCell true true l, .cells [.mref 0], .cells (rOp.cells o), .cells (rRes.cells out), .cells (rRes.cells out), .iter 0 l.length false],
      [okp (([] : List AV) = [] ∧ rvS = rvS ∧ hpS o zRs zRs (.iter 0 l.length true) (.mp rPl rCell true true l) = hpS o zRs zRs (.iter 0 l.length true) (.mp rPl rCell true true l))], []) := by kernel_rfl
  obtain ⟨dn, h1, e⟩ := ho
  rw [List.append_nil] at h1
  have e2 : out = skF o l := e.trans (hs dn h1)
  rw [← e2]
  exact ⟨_, _, key, allI (by rw [okp_of ⟨rfl, rfl, rfl⟩]; rfl)⟩
set_option maxRecDepth 100000 in
theorem slN (o : rOp.den) (l : List (rPl.den × rCell.den)) (hs : ∀ p : List (rPl.den × rCell.den), p.Perm l → skF o p = skF o l) :
    HeapCall Try.prog 31 [.one (.ptr 1 0), .agg (rOp.cells o)] [.mp rPl rCell true true l, .cells [.mref 0]] (.agg (rRes.cells (skF o l))) [.mp rPl rCell true true l, .cells [.mref 0], .cells (rOp.cells o), .cells (rRes.cells (skF o l)), .cells (rRes.cells (skF o l)), .iter 0 l.length false] :=
  ECmc.heap_okN Try.func31 (by decide +kernel) (c := cSk) (by kernel_rfl) lSk_eq (by kernel_rfl) (slots := []) (ro := [14, 6]) (nt := 25) (by kernel_rfl) (δ := { out // SlInv o l out [] }) ⟨skF o l, l, by rw [List.append_nil], rfl⟩ (sl_loop o l) (fnD := fun d => fnSk o l d.1)
    (fun d v r h os x hx => ⟨_, fun d' => rfl, fun hc => of_okp (hc _ (List.mem_cons_self ..))⟩)
    (os := []) (fun d => sl_run o l hs d.1 d.2)
theorem sl_heap (o : rOp.den) (l : List (rPl.den × rCell.den)) (hs : ∀ p : List (rPl.den × rCell.den), p.Perm l → skF o p = skF o l) :
    HeapCall Try.prog 31 [.one (.ptr 1 0), .agg (rOp.cells o)] [.mp rPl rCell true true l, .cells [.mref 0]] (.agg (rRes.cells (skF o l))) [.mp rPl rCell true true l, .cells [.mref 0]] :=
  cut_heap 2 (slN o l hs) (Nat.le_refl _) (by simp [idsV, idsC, rRes, CT.cells]) (show ∀ b ∈ [AB.mp rPl rCell true true l, .cells [.mref 0]], ∀ i ∈ idsB b, i < 2 by simp [idsB, idsC])

end Go.Proofs.Ytolhkkoakneflaa
