/- A log behind any base; no statement. -/
import Derived.Test.YtmbekpoelkcceaaLog
set_option linter.unusedVariables false
set_option linter.unusedSimpArgs false
namespace Go.Proofs.Ytmbekpoelkcceaa
open Go Go.Eng

abbrev logC (bi bt : Int) (bm : List Int) (x : List rEntry.den) : AB := .cells [.int .u64 bi, .int .u64 bt, .sl (.int .i64) bm .shared, .sl rEntry x .shared, .bool true]
/-- Blocks that nothing names any more are let go, and tokens forgotten. -/
theorem trim_heap {P : Program} {f : Nat} {args : List AV} {hp : List AB} {r : AV} {hp' : List AB} (m : Nat) (h : HeapCall P f args hp r hp') (hm : hp.length ≤ m) (hr : ∀ i ∈ idsV r, i < m) (hb : ∀ b ∈ (softs m hp').take m, ∀ i ∈ idsB b, i < m) :
    HeapCall P f args hp r ((softs m hp').take m) :=
  ⟨h.1, fun X vs hX hH hv => (h.2 X vs hX hH hv).mono fun e w' ⟨val, X', h1, h2, h3, h4, h5, h6⟩ => ⟨val, (X'.soft m).cut m, h1, h2,
    cut_le (h3.trans (soft_le X' m)) (fun i hi => by rw [hH]; exact List.getElem?_eq_none (by omega)),
    (h4.soft m).cut fun i b hi hbb j hj => by
      refine hb b ?_ j hj
      obtain ⟨b0, g1, rfl⟩ := soft_H hbb
      rw [h5] at g1
      exact List.mem_of_getElem? (i := i) (by rw [List.getElem?_take, if_pos hi]; simp [softs, g1]),
    by
      funext i
      simp only [Ctx.cut, Ctx.soft, h5, List.getElem?_take, softs, List.getElem?_map],
    VR.cut _ _ hr (VR.mono (soft_le X' m) _ _ h6)⟩⟩
theorem _root_.Go.Eng.Env.heap_trim {P : Program} (E : Env P) (m : Nat) {f : Nat} {args : List AV} {hp : List AB} {os : List Bool} {r : AV} {hp' hp2 : List AB} {cs : List Bool} (h : E.run f args hp os = some (r, hp', cs)) (hcs : ∀ c ∈ cs, c = true)
    (hm : hp.length ≤ m) (hr : ∀ i ∈ idsV r, i < m) (he : (softs m hp').take m = hp2) (hb : ∀ b ∈ hp2, ∀ i ∈ idsB b, i < m) : HeapCall P f args hp r hp2 := by
  subst he
  exact trim_heap m (E.heap_ok h hcs) hm hr hb

end Go.Proofs.Ytmbekpoelkcceaa
