import Derived.Test.YtolhkkoakneflaaEngB
set_option linter.unusedVariables false
namespace Go.Eng
open Go Go.RowKit

/-- The own block i holds other things now: the world differs in that block alone. -/
def Ctx.put (X : Ctx) (i : Nat) (b : AB) (w' : World) : Ctx := { X with H := upd X.H i (some b), w := w' }

/-- What must hold of a world that differs from the one known in one own block. -/
structure OneBlock (X : Ctx) (i : Nat) (w' : World) : Prop where
  os : w'.os = X.w.os
  tape : w'.tape = X.w.tape
  output : w'.output = X.w.output
  size : w'.heap.size = X.w.heap.size
  other : ∀ k, k ≠ X.φ i → w'.heap[k]? = X.w.heap[k]?

theorem put_le {X : Ctx} (hX : HRel X) {i : Nat} {b b' : AB} (hi : X.H i = some b) (hbl : b.loc = true) (hbl' : b'.loc = true) {w' : World} (ho : OneBlock X i w')
    (harr : ∀ row l, b = .arr row l → ∃ l' : List row.den, b' = .arr row l' ∧ l'.length = l.length) : X.le (X.put i b' w') where
  ic a y h := by
    obtain ⟨h1, h2, h3, h4, h5⟩ := h
    refine ⟨h1, h2, ?_, ?_, h5⟩
    · have : w'.heap[a.block]? = X.w.heap[a.block]? := ho.other _ (fun e => h4 i b hi hbl e.symm)
      exact (World.cell?_of_block this).trans h3
    · intro j c hj hc
      by_cases e : j = i
      · subst e; exact h4 j b hi hbl
      · simp only [Ctx.put, upd_other _ _ e] at hj; exact h4 j c hj hc
  loc j c hj hm := by
    by_cases e : j = i
    · subst e; exact ⟨⟨b', by simp only [Ctx.put, upd_same], hbl'⟩, rfl⟩
    · exact ⟨⟨c, by simp only [Ctx.put, upd_other _ _ e]; exact hj, hm⟩, rfl⟩
  arr j row l hj := by
    by_cases e : j = i
    · subst e
      rw [hi] at hj
      obtain ⟨l', h1, h2⟩ := harr row l (by injection hj)
      exact ⟨l', by simp only [Ctx.put, upd_same, h1], h2⟩
    · exact ⟨l, by simp only [Ctx.put, upd_other _ _ e]; exact hj, rfl⟩
  tok j u v hj := by
    have e : j ≠ i := fun e => by subst e; rw [hi] at hj; cases hj; cases hbl
    refine ⟨v, by simp only [Ctx.put, upd_other _ _ e]; exact hj, Nat.le_refl _, fun _ => ⟨rfl, fun t p q ⟨t1, t2, c, mk, t3, t4⟩ => ⟨t1, t2, c, mk, ?_, t4⟩⟩⟩
    exact (ho.other _ (fun ee => hX.injm i b j hi hbl t1 ee.symm)).trans t3
  w0 := rfl
  lent := rfl
  oldeq := rfl

theorem HRel.put {X : Ctx} (hX : HRel X) {i : Nat} {b b' : AB} (hi : X.H i = some b) (hbl : b.loc = true) (hbl' : b'.loc = true) {w' : World} (ho : OneBlock X i w')
    (harr : ∀ row l, b = .arr row l → ∃ l' : List row.den, b' = .arr row l' ∧ l'.length = l.length) (hb : BRel (X.put i b' w') i b') : HRel (X.put i b' w') := by
  have hle := put_le hX hi hbl hbl' ho harr
  have old_of : ∀ j c, (X.put i b' w').H j = some c → j ≠ i → X.H j = some c := fun j c hj e => by simpa only [Ctx.put, upd_other _ _ e] using hj
  have any : ∀ j c, (X.put i b' w').H j = some c → c.loc = true → ∃ d, X.H j = some d ∧ d.loc = true := fun j c hj hc => by
    by_cases e : j = i
    · subst e; exact ⟨b, hi, hbl⟩
    · exact ⟨c, old_of j c hj e, hc⟩
  refine ⟨?_, hX.injt, ?_, ?_, hX.placet, ?_, ?_, ?_, ?_, ?_, ?_, ho.os.trans hX.os, ho.tape.trans hX.tape, ho.output.trans hX.output, ?_, ?_⟩
  · intro j k c d hj hk hc hd hne
    obtain ⟨c', h1, h2⟩ := any j c hj hc
    obtain ⟨d', h3, h4⟩ := any k d hk hd
    exact hX.inj j k c' d' h1 h3 h2 h4 hne
  · intro j c k hj hc hk
    obtain ⟨c', h1, h2⟩ := any j c hj hc
    exact hX.injm j c' k h1 h2 hk
  · intro j c hj hc
    obtain ⟨c', h1, h2⟩ := any j c hj hc
    exact hX.place j c' h1 h2
  · intro j c hj hc
    obtain ⟨c', h1, h2⟩ := any j c hj hc
    show _ < w'.heap.size
    rw [ho.size]; exact hX.lt j c' h1 h2
  · intro j hj
    show _ < w'.heap.size
    rw [ho.size]; exact hX.ltt j hj
  · intro j hj
    by_cases e : j = i
    · subst e; simp [Ctx.put, upd_same]
    · simp only [Ctx.put, upd_other _ _ e]; exact hX.tlH j hj
  · intro k e h
    show _ < w'.heap.size
    rw [ho.size]; exact hX.frlt k e h
  · intro j c hj
    by_cases ej : j = i
    · subst ej
      have : c = b' := by simpa only [Ctx.put, upd_same, Option.some.injEq] using hj.symm
      subst this; exact hb
    · have hj' := old_of j c hj ej
      cases hm : c.loc with
      | true => exact BRel.mono hle rfl (ho.other _ (hX.inj j i c b hj' hi hm hbl ej)) (hX.blk j c hj')
      | false => cases c <;> first | trivial | cases hm
  · intro k hk hl
    refine (ho.other k ?_).trans (hX.below k hk hl)
    intro e
    rcases hX.place i b hi hbl with h | h
    · have hk' : k < X.w0.heap.size := hk
      omega
    · exact hl (by rw [e]; exact h)
  · show X.w0.heap.size ≤ w'.heap.size
    rw [ho.size]; exact hX.size
  · intro a y h
    exact hle.ic a y (hX.old a y h)

theorem OneBlock.setCell (X : Ctx) (i off : Nat) (v : Value) : OneBlock X i (X.w.setCell ⟨X.φ i, off, none⟩ v) :=
  ⟨rfl, rfl, rfl, by simp, fun k hk => Below.heap_setCell _ _ _ _ hk⟩

/-- Several cells of one row, written one by one. -/
def setCells (w : World) (g off : Nat) : List Value → World
  | [] => w
  | v :: vs => setCells (w.setCell ⟨g, off, none⟩ v) g (off + 1) vs

theorem setCells_heap (g : Nat) (t : TypeId) : ∀ (vs : List Value) (w : World) (off : Nat) (c : Array Value), w.heap[g]? = some (.cells c t (0, 0)) → off + vs.length ≤ c.size →
    ∃ c' : Array Value, (setCells w g off vs).heap[g]? = some (.cells c' t (0, 0)) ∧ c'.size = c.size ∧
      (∀ j : Nat, c'[j]? = if off ≤ j ∧ j < off + vs.length then vs[j - off]? else c[j]?) ∧
      (setCells w g off vs).os = w.os ∧ (setCells w g off vs).tape = w.tape ∧ (setCells w g off vs).output = w.output ∧ (setCells w g off vs).heap.size = w.heap.size ∧
      ∀ k, k ≠ g → (setCells w g off vs).heap[k]? = w.heap[k]?
  | [], w, off, c, h, _ => ⟨c, h, rfl, fun j => by rw [if_neg (by simp only [List.length_nil]; omega)], rfl, rfl, rfl, rfl, fun _ _ => rfl⟩
  | v :: vs, w, off, c, h, hlen => by
    simp only [List.length_cons] at hlen
    have h1 : (w.setCell ⟨g, off, none⟩ v).heap[g]? = some (.cells (c.setIfInBounds off v) t (0, 0)) := by
      simp [World.setCell, Array.getElem?_modify, h]
    obtain ⟨c', g1, g2, g3, g4, g5, g6, g7, g8⟩ := setCells_heap g t vs (w.setCell ⟨g, off, none⟩ v) (off + 1) (c.setIfInBounds off v) h1 (by simp; omega)
    refine ⟨c', g1, by simpa using g2, fun j => ?_, g4, g5, g6, by simpa [setCells] using g7, fun k hk => (g8 k hk).trans (Below.heap_setCell _ _ _ _ hk)⟩
    rw [g3 j]
    by_cases e : j = off
    · subst e
      rw [if_neg (by omega), if_pos ⟨Nat.le_refl _, by simp⟩]
      simp [show j < c.size by omega]
    · by_cases hj : off + 1 ≤ j ∧ j < off + 1 + vs.length
      · rw [if_pos hj, if_pos (by simp; omega)]
        rw [show j - off = (j - (off + 1)) + 1 from by omega]
        simp
      · rw [if_neg hj, if_neg (by simp; omega)]
        simp [show ¬ off = j by omega]

theorem run_storeCells_at (P : Program) (g : Nat) (t : TypeId) : ∀ (vs : List Value) (w : World) (off i : Nat) (c : Array Value), w.heap[g]? = some (.cells c t (0, 0)) → off + i + vs.length ≤ c.size →
    (∀ v ∈ vs, v.oneCell' = true) → (storeCells ⟨g, off, none⟩ vs i).run P w = .ok () (setCells w g (off + i) vs)
  | [], w, off, i, c, _, _, _ => rfl
  | v :: vs, w, off, i, c, h, hlen, h1 => by
    simp only [List.length_cons] at hlen
    have hlt : off + i < c.size := by omega
    have hc : w.cell? ⟨g, off + i, none⟩ = some c[off + i] := by rw [cell_of_row w g (off + i) c t (0, 0) h]; simp [hlt]
    have hf : w.frozen? ⟨g, off + i, none⟩ = false := frozen_of_row w g (off + i) c t h
    have h2 : (w.setCell ⟨g, off + i, none⟩ v).heap[g]? = some (.cells (c.setIfInBounds (off + i) v) t (0, 0)) := by
      simp [World.setCell, Array.getElem?_modify, h]
    have ih := run_storeCells_at P g t vs (w.setCell ⟨g, off + i, none⟩ v) off (i + 1) (c.setIfInBounds (off + i) v) h2 (by simp; omega) (fun u hu => h1 u (List.mem_cons_of_mem _ hu))
    have hs := run_store P w ⟨g, off + i, none⟩ v .plain (h1 v (List.mem_cons_self ..))
    simp only [storeCells, Addr.add_lit, Sem.run_bind, hs, hc, hf]
    show (storeCells ⟨g, off, none⟩ vs (i + 1)).run P (w.setCell ⟨g, off + i, none⟩ v) = _
    rw [ih]
    rfl
theorem setCells_heap_m (m : Nat × Nat) (g : Nat) (t : TypeId) : ∀ (vs : List Value) (w : World) (off : Nat) (c : Array Value), w.heap[g]? = some (.cells c t m) → off + vs.length ≤ c.size →
    ∃ c' : Array Value, (setCells w g off vs).heap[g]? = some (.cells c' t m) ∧ c'.size = c.size ∧
      (∀ j : Nat, c'[j]? = if off ≤ j ∧ j < off + vs.length then vs[j - off]? else c[j]?) ∧
      (setCells w g off vs).os = w.os ∧ (setCells w g off vs).tape = w.tape ∧ (setCells w g off vs).output = w.output ∧ (setCells w g off vs).heap.size = w.heap.size ∧
      ∀ k, k ≠ g → (setCells w g off vs).heap[k]? = w.heap[k]?
  | [], w, off, c, h, _ => ⟨c, h, rfl, fun j => by rw [if_neg (by simp only [List.length_nil]; omega)], rfl, rfl, rfl, rfl, fun _ _ => rfl⟩
  | v :: vs, w, off, c, h, hlen => by
    simp only [List.length_cons] at hlen
    have h1 : (w.setCell ⟨g, off, none⟩ v).heap[g]? = some (.cells (c.setIfInBounds off v) t m) := by
      simp [World.setCell, Array.getElem?_modify, h]
    obtain ⟨c', g1, g2, g3, g4, g5, g6, g7, g8⟩ := setCells_heap_m m g t vs (w.setCell ⟨g, off, none⟩ v) (off + 1) (c.setIfInBounds off v) h1 (by simp; omega)
    refine ⟨c', g1, by simpa using g2, fun j => ?_, g4, g5, g6, by simpa [setCells] using g7, fun k hk => (g8 k hk).trans (Below.heap_setCell _ _ _ _ hk)⟩
    rw [g3 j]
    by_cases e : j = off
    · subst e
      rw [if_neg (by omega), if_pos ⟨Nat.le_refl _, by simp⟩]
      simp [show j < c.size by omega]
    · by_cases hj : off + 1 ≤ j ∧ j < off + 1 + vs.length
      · rw [if_pos hj, if_pos (by simp; omega)]
        rw [show j - off = (j - (off + 1)) + 1 from by omega]
        simp
      · rw [if_neg hj, if_neg (by simp; omega)]
        simp [show ¬ off = j by omega]

theorem run_storeCells_m (P : Program) (m : Nat × Nat) (g : Nat) (t : TypeId) : ∀ (vs : List Value) (w : World) (off i : Nat) (c : Array Value), (∀ o, o < c.size → ¬ (m.1 ≤ o ∧ o < m.2)) → w.heap[g]? = some (.cells c t m) → off + i + vs.length ≤ c.size →
    (∀ v ∈ vs, v.oneCell' = true) → (storeCells ⟨g, off, none⟩ vs i).run P w = .ok () (setCells w g (off + i) vs)
  | [], w, off, i, c, _, _, _, _ => rfl
  | v :: vs, w, off, i, c, hm, h, hlen, h1 => by
    simp only [List.length_cons] at hlen
    have hlt : off + i < c.size := by omega
    have hc : w.cell? ⟨g, off + i, none⟩ = some c[off + i] := by rw [cell_of_row w g (off + i) c t m h]; simp [hlt]
    have hf : w.frozen? ⟨g, off + i, none⟩ = false := by
      have := hm (off + i) hlt
      simp only [World.frozen?, h]
      cases m with
      | mk lo hi =>
        simp only at this ⊢
        rw [Bool.and_eq_false_iff]
        simp only [decide_eq_false_iff_not]
        by_cases hl : lo ≤ off + i
        · exact .inr fun hh => this ⟨hl, hh⟩
        · exact .inl hl
    have h2 : (w.setCell ⟨g, off + i, none⟩ v).heap[g]? = some (.cells (c.setIfInBounds (off + i) v) t m) := by
      simp [World.setCell, Array.getElem?_modify, h]
    have ih := run_storeCells_m P m g t vs (w.setCell ⟨g, off + i, none⟩ v) off (i + 1) (c.setIfInBounds (off + i) v) (by simpa using hm) h2 (by simp; omega) (fun u hu => h1 u (List.mem_cons_of_mem _ hu))
    have hs := run_store P w ⟨g, off + i, none⟩ v .plain (h1 v (List.mem_cons_self ..))
    simp only [storeCells, Addr.add_lit, Sem.run_bind, hs, hc, hf]
    show (storeCells ⟨g, off, none⟩ vs (i + 1)).run P (w.setCell ⟨g, off + i, none⟩ v) = _
    rw [ih]
    rfl
end Go.Eng
