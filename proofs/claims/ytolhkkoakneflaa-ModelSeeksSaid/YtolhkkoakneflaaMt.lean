/- A model and what is known of it: plain; no statement. -/
import Derived.Test.YtolhkkoakneflaaMk
set_option linter.unusedVariables false
set_option linter.unusedSimpArgs false
namespace Go.Proofs.Ytolhkkoakneflaa
open Go Go.Eng

def fset {α : Type} (f : Nat → α) (j : Nat) (x : α) : Nat → α := fun k => if k = j then x else f k
theorem fset_same {α : Type} (f : Nat → α) (j : Nat) (x : α) : fset f j x j = x := by simp [fset]
theorem fset_ne {α : Type} (f : Nat → α) {j k : Nat} (x : α) (h : k ≠ j) : fset f j x k = f k := by simp [fset, h]
/-- What is known of a model: the rows' counts, the cells that are there. -/
structure MInv (M : MapT) (C W : Nat → Int) (V : Nat → ByteArray) (n : Int) : Prop where
  cnt : ∀ r, r < 4 → alook (vt := rCell) (rowN r, e0B, ()) M = if C r = 0 then none else some (rowN r, e0B, C r, false, e0B, ())
  cell : ∀ r, r < 4 → ∀ c, c < 3 → ∃ (b : Bool) (w : Int) (g : Bool) (v : ByteArray), alook (vt := rCell) (rowN r, colN c, ()) M = (if b = true then some (rowN r, colN c, w, g, v, ()) else none) ∧ (b && !g) = decide (0 < W (3 * r + c)) ∧ ((b && !g) = true → w = W (3 * r + c) ∧ v = V (3 * r + c))
  pos : ∀ r, r < 4 → 0 ≤ C r ∧ C r ≤ n
  vpos : ∀ j, j < 12 → 0 ≤ W j ∧ W j ≤ n
theorem row_two {M : MapT} {C W : Nat → Int} {V : Nat → ByteArray} {n : Int} (I : MInv M C W V n) {r c : Nat} (hr : r < 4) (hc : c < 3) (k : Int) (x : ByteArray) (h : Bool) (y : ByteArray) :
    ∃ (b : Bool) (w : Int) (g : Bool) (v : ByteArray), rowV (opP k r c x h y) M = two2 (rowN r) (colN c) (C r) w g v (!(C r == 0)) b ∧ (b && !g) = decide (0 < W (3 * r + c)) ∧ ((b && !g) = true → w = W (3 * r + c) ∧ v = V (3 * r + c)) := by
  obtain ⟨b, w, g, v, h1, h2, h3⟩ := I.cell r hr c hc
  refine ⟨b, w, g, v, ?_, h2, h3⟩
  have h0 := I.cnt r hr
  have e1 : alook (vt := rCell) (kR (opP k r c x h y)) M = if C r = 0 then none else some (rowN r, e0B, C r, false, e0B, ()) := h0
  have e2 : alook (vt := rCell) (kC (opP k r c x h y)) M = (if b = true then some (rowN r, colN c, w, g, v, ()) else none) := h1
  unfold rowV xR xC two2
  rw [e1, e2]
  by_cases hz : C r = 0
  · rw [if_pos hz, hz]
    cases b <;> rfl
  · rw [if_neg hz, show (C r == 0) = false from beq_eq_false_iff_ne.2 hz]
    cases b <;> rfl
theorem inv_set {M : MapT} {C W : Nat → Int} {V : Nat → ByteArray} {n : Int} (I : MInv M C W V n) {r c : Nat} (hr : r < 4) (hc : c < 3) {g : Bool} {w : Int} (x : ByteArray) (hg : (g = false ∧ w = C r + 1) ∨ (g = true ∧ w = 0)) :
    MInv (aset (rowN r, colN c, ()) (rowN r, colN c, C r + 1, g, x, ()) (aset (rowN r, e0B, ()) (rowN r, e0B, C r + 1, false, e0B, ()) M)) (fset C r (C r + 1)) (fset W (3 * r + c) w) (fset V (3 * r + c) x) (n + 1) := by
  have hp := I.pos r hr
  refine ⟨fun r' hr' => ?_, fun r' hr' c' hc' => ?_, fun r' hr' => ?_, fun j hj => ?_⟩
  · rw [alook_aset, if_neg (fun e => colN_ne c (by injection e with _ e; injection e with e _; exact e.symm)), alook_aset]
    by_cases e : r' = r
    · subst e
      rw [if_pos rfl, fset_same, if_neg (by omega)]
    · rw [if_neg (fun h => e (rowN_inj (by omega) (by omega) (by injection h))), fset_ne _ _ e]
      exact I.cnt r' hr'
  · by_cases e : r' = r ∧ c' = c
    · obtain ⟨rfl, rfl⟩ := e
      refine ⟨true, C r' + 1, g, x, by rw [alook_aset, if_pos rfl]; rfl, ?_, fun h => ?_⟩
      · rw [fset_same]
        rcases hg with ⟨rfl, rfl⟩ | ⟨rfl, rfl⟩
        · rw [decide_eq_true (by omega)]; rfl
        · rfl
      · rw [fset_same, fset_same]
        rcases hg with ⟨rfl, rfl⟩ | ⟨rfl, rfl⟩
        · exact ⟨rfl, rfl⟩
        · cases h
    · have hne : 3 * r' + c' ≠ 3 * r + c := fun h => e (by omega)
      rw [fset_ne _ _ hne, fset_ne _ _ hne]
      obtain ⟨b, w', g', v', h1, h2, h3⟩ := I.cell r' hr' c' hc'
      refine ⟨b, w', g', v', ?_, h2, h3⟩
      rw [alook_aset, if_neg (fun h => ?_), alook_aset, if_neg (fun h => ?_)]
      · exact h1
      · injection h with _ h; injection h with h _; exact colN_ne c' h
      · injection h with h0 h; injection h with h _
        exact e ⟨rowN_inj (by omega) (by omega) h0, colN_inj (by omega) (by omega) h⟩
  · by_cases e : r' = r
    · subst e; rw [fset_same]; omega
    · rw [fset_ne _ _ e]; have := I.pos r' hr'; omega
  · by_cases e : j = 3 * r + c
    · subst e; rw [fset_same]
      rcases hg with ⟨rfl, rfl⟩ | ⟨rfl, rfl⟩ <;> omega
    · rw [fset_ne _ _ e]; have := I.vpos j hj; omega
theorem MInv.more {M : MapT} {C W : Nat → Int} {V : Nat → ByteArray} {n : Int} (I : MInv M C W V n) : MInv M C W V (n + 1) :=
  ⟨I.cnt, I.cell, fun r hr => by have := I.pos r hr; omega, fun j hj => by have := I.vpos j hj; omega⟩

theorem do_nil {p : rOp.den} {M : MapT} (h : (effV p (rowV p M)).2 = []) : doM p M = M := by
  unfold doM
  rw [show eN p (rowV p M) = true from by unfold eN; rw [h]; rfl]; rfl
theorem do_two {p : rOp.den} {M : MapT} {a b : rCell.den} (h : (effV p (rowV p M)).2 = [a, b]) : doM p M = aset (kOf b) b (aset (kOf a) a M) := by
  unfold doM e0 e1
  rw [show eN p (rowV p M) = false from by unfold eN; rw [h]; rfl, h]; rfl
section
variable {M : MapT} {C W : Nat → Int} {V : Nat → ByteArray} {n : Int} {r c : Nat}
theorem do_get (I : MInv M C W V n) (hr : r < 4) (hc : c < 3) : doR (opP 2 r c e0B false e0B) M = (bif decide (0 < W (3 * r + c)) then (0, true, e0B, V (3 * r + c), W (3 * r + c), ()) else (0, false, e0B, e0B, 0, ())) ∧ doM (opP 2 r c e0B false e0B) M = M := by
  obtain ⟨b, w, g, v, h1, h2, h3⟩ := row_two I hr hc 2 e0B false e0B
  have he := eff_get r c (C r) w g v (!(C r == 0)) b
  rw [← h1] at he
  refine ⟨?_, do_nil (by rw [he])⟩
  unfold doR
  rw [he, ← h2]
  cases hb : (b && !g) with
  | true => obtain ⟨e1, e2⟩ := h3 hb; rw [e1, e2]
  | false => rfl
theorem nz {x : Int} : (!(x == 0)) = false → x = 0 := fun h => by simpa using h
theorem do_put (I : MInv M C W V n) (hr : r < 4) (hc : c < 3) (hn : n < 900) (x : ByteArray) (hx : x.size ≤ 1) : doR (opP 1 r c x false e0B) M = (0, false, e0B, e0B, C r + 1, ()) ∧
    MInv (doM (opP 1 r c x false e0B) M) (fset C r (C r + 1)) (fset W (3 * r + c) (C r + 1)) (fset V (3 * r + c) x) (n + 1) := by
  obtain ⟨b, w, g, v, h1, h2, h3⟩ := row_two I hr hc 1 x false e0B
  have hp := I.pos r hr
  have he := eff_put r c (C r) w g v x (!(C r == 0)) b hx nz hp.1 (by omega)
  rw [← h1] at he
  refine ⟨by unfold doR; rw [he], ?_⟩
  rw [do_two (by rw [he])]
  exact inv_set I hr hc x (.inl ⟨rfl, rfl⟩)
theorem do_del (I : MInv M C W V n) (hr : r < 4) (hc : c < 3) (hn : n < 900) : (0 < W (3 * r + c) → doR (opP 3 r c e0B false e0B) M = (0, true, e0B, e0B, C r + 1, ()) ∧
    MInv (doM (opP 3 r c e0B false e0B) M) (fset C r (C r + 1)) (fset W (3 * r + c) 0) (fset V (3 * r + c) e0B) (n + 1)) ∧
    (¬ 0 < W (3 * r + c) → doR (opP 3 r c e0B false e0B) M = (0, false, e0B, e0B, 0, ()) ∧ doM (opP 3 r c e0B false e0B) M = M) := by
  obtain ⟨b, w, g, v, h1, h2, h3⟩ := row_two I hr hc 3 e0B false e0B
  have hp := I.pos r hr
  have he := eff_del r c (C r) w g v (!(C r == 0)) b nz hp.1 (by omega)
  rw [← h1, h2] at he
  refine ⟨fun hw => ?_, fun hw => ?_⟩
  · rw [decide_eq_true hw] at he
    refine ⟨by unfold doR; rw [he]; rfl, ?_⟩
    rw [do_two (by rw [he]; rfl)]
    exact inv_set I hr hc e0B (.inr ⟨rfl, rfl⟩)
  · rw [decide_eq_false hw] at he
    exact ⟨by unfold doR; rw [he]; rfl, do_nil (by rw [he]; rfl)⟩
theorem do_chk (I : MInv M C W V n) (hr : r < 4) (hc : c < 3) (hn : n < 900) (x : ByteArray) (hx : x.size ≤ 1) (h : Bool) (y : ByteArray) (hy : y.size ≤ 1) (hh : h = false → y = e0B) :
    ((decide (0 < W (3 * r + c)) == h && (!decide (0 < W (3 * r + c)) || (V (3 * r + c) == y))) = true → doR (opP 4 r c x h y) M = (0, true, e0B, e0B, C r + 1, ()) ∧
      MInv (doM (opP 4 r c x h y) M) (fset C r (C r + 1)) (fset W (3 * r + c) (C r + 1)) (fset V (3 * r + c) x) (n + 1)) ∧
    ((decide (0 < W (3 * r + c)) == h && (!decide (0 < W (3 * r + c)) || (V (3 * r + c) == y))) = false → doR (opP 4 r c x h y) M = (bif decide (0 < W (3 * r + c)) then (0, false, e0B, V (3 * r + c), W (3 * r + c), ()) else (0, false, e0B, e0B, 0, ())) ∧ doM (opP 4 r c x h y) M = M) := by
  obtain ⟨b, w, g, v, h1, h2, h3⟩ := row_two I hr hc 4 x h y
  have hp := I.pos r hr
  have he := eff_chk r c (C r) w g v x y (!(C r == 0)) b h hx hy hh nz hp.1 (by omega)
  rw [← h1, h2] at he
  have hcond : (decide (0 < W (3 * r + c)) == h && (!decide (0 < W (3 * r + c)) || (v == y))) = (decide (0 < W (3 * r + c)) == h && (!decide (0 < W (3 * r + c)) || (V (3 * r + c) == y))) := by
    cases hd : decide (0 < W (3 * r + c)) with
    | true => obtain ⟨_, e2⟩ := h3 (h2.trans hd); rw [e2]
    | false => rfl
  rw [hcond] at he
  refine ⟨fun ht => ?_, fun ht => ?_⟩
  · rw [ht] at he
    refine ⟨by unfold doR; rw [he]; rfl, ?_⟩
    rw [do_two (by rw [he]; rfl)]
    exact inv_set I hr hc x (.inl ⟨rfl, rfl⟩)
  · rw [ht] at he
    refine ⟨?_, do_nil (by rw [he]; rfl)⟩
    unfold doR
    rw [he]
    cases hd : decide (0 < W (3 * r + c)) with
    | true => obtain ⟨e1, e2⟩ := h3 (h2.trans hd); rw [e1, e2]; rfl
    | false => rfl
end
end Go.Proofs.Ytolhkkoakneflaa
