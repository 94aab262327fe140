/- A seek in use; no statement. -/
import Derived.Test.YtolhkkoakneflaaPa6
import Derived.Test.YtolhkkoakneflaaSg3
set_option linter.unusedVariables false
set_option linter.unusedSimpArgs false
namespace Go.Proofs.Ytolhkkoakneflaa
open Go Go.Eng

abbrev srtM (M : MapT) : List rCell.den := srtG (valsM M)
theorem seek_heap (M : MapT) (I : MapInv M) (o : rOp.den) : HeapCall Try.prog 31 [.one (.ptr 1 0), .agg (rOp.cells o)] [.mp rP rCell true true M, .cells [.mref 0]] (.agg (rRes.cells (firstL o (srtM M)))) [.mp rP rCell true true M, .cells [.mref 0]] := by
  have h := sl_heap o M (fun p hp => (seek_first I hp).trans (seek_first I (List.Perm.refl M)).symm)
  rw [seek_first I (List.Perm.refl M)] at h
  exact h
noncomputable def ESg : Env Try.prog := EPd1.addHF 31 selM
  (fun args hp os => match args, hp with
    | [.one (.ptr 1 0), .agg cs], [.mp (.pair .str (.pair .str .unit)) (.pair .str (.pair .str (.pair (.int .u64) (.pair .bool (.pair .str .unit))))) true true M, .cells [.mref 0]] => match rOp.un cs with
      | some (o, []) => retC (.agg (rRes.cells (firstL o (srtM M))), [.mp rP rCell true true M, .cells [.mref 0]]) [okp (MapInv M)] os
      | _ => none
    | _, _ => none)
  (fun args hp os r hp' cs os' h hc => by
    split at h
    · rename_i cs0 M
      split at h
      · rename_i o h1
        simp only [retC, Option.some.injEq, Prod.mk.injEq] at h
        obtain ⟨⟨rfl, rfl⟩, rfl, rfl⟩ := h
        rw [un_cells0 rfl h1]
        exact seek_heap M (of_okp (of_allTc hc).1) o
      · cases h
    · cases h)
end Go.Proofs.Ytolhkkoakneflaa
