/- A seek's contract; no statement. -/
import Derived.Test.YtolhkkoakneflaaSk3
set_option linter.unusedVariables false
set_option linter.unusedSimpArgs false
namespace Go.Proofs.Ytolhkkoakneflaa
open Go Go.Eng

structure SkDo (M : MapT) (o : rOp.den) : Prop where
  key : MK M
  ex : ∃ f c, f < 6 ∧ c < 3 ∧ o = opP 5 f c e0B false e0B
theorem seek_heap (M : MapT) (o : rOp.den) (h : SkDo M o) : HeapCall Try.prog 31 [.one (.ptr 1 0), .agg (rOp.cells o)] [.mp rP rCell true true M, .cells [.mref 0]] (.agg (rRes.cells (seekV M (fIx o.2.1) (cIx o.2.2.1)))) [.mp rP rCell true true M, .cells [.mref 0]] :=
  ESk.heap_cut 2 (os := []) (hp' := [(.mp (.pair .str (.pair .str .unit)) (.pair .str (.pair .str (.pair (.int .u64) (.pair .bool (.pair .str .unit))))) true true M), (.cells [(.mref 0)]), (.cells [(.int .i64 o.fst), (.str o.snd.fst), (.str o.snd.snd.fst), (.str o.snd.snd.snd.fst), (.bool o.snd.snd.snd.snd.fst), (.str o.snd.snd.snd.snd.snd.fst)]), (.cells [(.int .i64 ((seekV M (fIx o.snd.fst) (cIx o.snd.snd.fst)).fst)), (.bool ((seekV M (fIx o.snd.fst) (cIx o.snd.snd.fst)).snd.fst)), (.str ((seekV M (fIx o.snd.fst) (cIx o.snd.snd.fst)).snd.snd.fst)), (.str ((seekV M (fIx o.snd.fst) (cIx o.snd.snd.fst)).snd.snd.snd.fst)), (.int .u64 ((seekV M (fIx o.snd.fst) (cIx o.snd.snd.fst)).snd.snd.snd.snd.fst))]), (.cells [(.int .i64 ((seekV M (fIx o.snd.fst) (cIx o.snd.snd.fst)).fst)), (.bool ((seekV M (fIx o.snd.fst) (cIx o.snd.snd.fst)).snd.fst)), (.str ((seekV M (fIx o.snd.fst) (cIx o.snd.snd.fst)).snd.snd.fst)), (.str ((seekV M (fIx o.snd.fst) (cIx o.snd.snd.fst)).snd.snd.snd.fst)), (.int .u64 ((seekV M (fIx o.snd.fst) (cIx o.snd.snd.fst)).snd.snd.snd.snd.fst))]), (.iter 0 (List.length M) false)]) (cs := [(ok (SkOk M (List.length M) (o.fst, o.snd.fst, o.snd.snd.fst, o.snd.snd.snd.fst, o.snd.snd.snd.snd.fst, o.snd.snd.snd.snd.snd.fst, ()) (0, false, (ByteArray.mk #[]), (ByteArray.mk #[]), 0, ())))]) (by kernel_rfl) (allI (by rw [ok_of ⟨h.key, h.ex, rfl, rfl⟩]; rfl)) (Nat.le_refl _) (by simp [idsV, idsC, rRes, CT.cells]) rfl (by simp [idsB, idsC])
/-- The model's map, and the cell that holds it. -/
def selM (args : List AV) (hp : List AB) : List Nat := (selAll args hp).reverse
theorem un_rOp {cs : List AC} {p : rOp.den} (h : rOp.un cs = some (p, [])) : cs = rOp.cells p := un_cells0 rfl h
noncomputable def ESe : Env Try.prog := ESk.addHF 31 selM
  (fun args hp os => match args, hp with
    | [.one (.ptr 1 0), .agg cs], [.mp (.pair .str (.pair .str .unit)) (.pair .str (.pair .str (.pair (.int .u64) (.pair .bool (.pair .str .unit))))) true true M, .cells [.mref 0]] => match rOp.un cs with
      | some (o, []) => retC (.agg (rRes.cells (seekV M (fIx o.2.1) (cIx o.2.2.1))), [.mp rP rCell true true M, .cells [.mref 0]]) [ok (SkDo M o)] os
      | _ => none
    | _, _ => none)
  (fun args hp os r hp' cs os' h hc => by
    split at h
    · rename_i cs0 M
      split at h
      · rename_i o h1
        simp only [retC, Option.some.injEq, Prod.mk.injEq] at h
        obtain ⟨⟨rfl, rfl⟩, rfl, rfl⟩ := h
        rw [un_rOp h1]
        exact seek_heap M o (of_ok (of_allTc hc).1)
      · cases h
    · cases h)
end Go.Proofs.Ytolhkkoakneflaa
