import Derived.Test.YtolhkkoakneflaaEngZ16
import Derived.Sort.Grow
set_option linter.unusedVariables false
namespace Go.Eng
open Go Go.RowKit Go.Sort
variable {P : Program}

/-! ### What a call that only reads leaves: a world with draws and blocks more -/

/-- A world of which nothing is known. -/
def bareX (W : World) : Ctx := { φ := fun _ => 0, fr := fun _ => none, tl := fun _ => False, H := fun _ => none, w := W, w0 := W, lent := fun _ => False, old := fun _ _ => False }
theorem HRel.bareX (W : World) : HRel (bareX W) where
  inj i j b c h := by cases h
  injt i j h := h.elim
  injm i b j h := by cases h
  place i b h := by cases h
  placet i h := h.elim
  lt i b h := by cases h
  ltt i h := h.elim
  tlH i h := h.elim
  frlt b e h := by cases h
  blk i b h := by cases h
  below k _ _ := rfl
  os := rfl
  tape := rfl
  output := rfl
  size := Nat.le_refl _
  old a y h := h.elim
theorem grown_of_le {W : World} {X : Ctx} (hle : (bareX W).le X) (hX : HRel X) : ∃ q os', X.w = grow (W.drewN q) os' := by
  have h0 : X.w0 = W := hle.w0
  have hl : X.lent = fun _ => False := hle.lent
  have hd : W.drawn ≤ X.w.drawn := hle.drawn
  have hb := hX.below
  have ho := hX.os
  have ht := hX.tape
  have hu := hX.output
  have hs := hX.size
  rw [h0] at hb ho ht hu hs
  refine ⟨X.w.drawn - W.drawn, X.w.heap.extract W.heap.size X.w.heap.size, ?_⟩
  have hh : X.w.heap = W.heap ++ X.w.heap.extract W.heap.size X.w.heap.size := by
    apply Array.ext_getElem?
    intro k
    by_cases hk : k < W.heap.size
    · rw [Array.getElem?_append_left hk]
      exact hb k hk (by rw [hl]; exact id)
    · rw [Array.getElem?_append_right (by omega), Array.getElem?_extract]
      by_cases h2 : k < X.w.heap.size
      · rw [if_pos (by omega)]
        congr 1
        omega
      · rw [if_neg (by omega), Array.getElem?_eq_none (by omega)]
  have e : X.w.drawn = W.drawn + (X.w.drawn - W.drawn) := by omega
  generalize X.w.heap.extract W.heap.size X.w.heap.size = os' at *
  generalize X.w.drawn - W.drawn = q at *
  cases hw : X.w with
  | mk heap tape drawn os output =>
    rw [hw] at hh e ho ht hu
    simp only at hh e ho ht hu
    subst hh; subst e; subst ho; subst ht; subst hu
    rfl
/-- A pure call, from any world. -/
theorem PureCall.grown {f : Nat} {args : List AV} {r : AV} (h : PureCall P f args r) (W : World) {vs : List Value} (hv : PW (VR (bareX W)) args vs) :
    Calls P f vs.toArray W fun e w' => ∃ val X', e = .returned val ∧ X'.w = w' ∧ VR X' r val ∧ ∃ q os', w' = grow (W.drewN q) os' :=
  (h.2 (bareX W) vs (HRel.bareX W) hv).mono fun e w' ⟨val, X', h1, h2, h3, h4, _, h6⟩ => ⟨val, X', h1, h2, h6, by rw [← h2]; exact grown_of_le h3 h4⟩
end Go.Eng
