import Derived.Test.YtolhkkoakneflaaEngH
set_option linter.unusedVariables false
namespace Go.Eng
open Go Go.RowKit
variable {P : Program}

theorem RelT.mono_lt : ∀ (t : CT) (v : t.den) {C C' : Nat → Value → Prop} {IC IC' : Addr → Value → Prop},
    (∀ k y, k < t.width → C k y → C' k y) → (∀ a y, IC a y → IC' a y) → RelT t v C IC → RelT t v C' IC'
  | .int _, _, _, _, _, _, hC, _, h => hC _ _ Nat.one_pos h
  | .bool, _, _, _, _, _, hC, _, h => hC _ _ Nat.one_pos h
  | .str, _, _, _, _, _, hC, _, h => hC _ _ Nat.one_pos h
  | .sl row, l, _, _, _, _, hC, hI, ⟨A, n, cap, h1, h2, h3, h4, h5⟩ =>
    ⟨A, n, cap, hC _ _ Nat.one_pos h1, h2, h3, h4, h5.imp id fun ⟨b, o, e, h⟩ => ⟨b, o, e, fun j x hj => RelT.mono row x (fun _ _ hk => hI _ _ hk) hI (h j x hj)⟩⟩
  | .unit, _, _, _, _, _, _, _, _ => trivial
  | .pair c cs, v, _, _, _, _, hC, hI, h =>
    ⟨RelT.mono_lt c v.1 (fun k y hk hh => hC k y (by simp only [CT.width]; omega) hh) hI h.1,
     RelT.mono_lt cs v.2 (fun k y hk hh => hC _ y (by simp only [CT.width]; omega) hh) hI h.2⟩

theorem CT.cells_known : ∀ (t : CT) (v : t.den) (k : Nat) c, (t.cells v)[k]? = some c → c.known = true
  | .int kk, n, k, c, hc => by
    cases k with
    | zero => simp [CT.cells] at hc; subst hc; rfl
    | succ k => simp [CT.cells] at hc
  | .bool, n, k, c, hc => by
    cases k with
    | zero => simp [CT.cells] at hc; subst hc; rfl
    | succ k => simp [CT.cells] at hc
  | .str, n, k, c, hc => by
    cases k with
    | zero => simp [CT.cells] at hc; subst hc; rfl
    | succ k => simp [CT.cells] at hc
  | .sl row, l, k, c, hc => by
    cases k with
    | zero => simp [CT.cells] at hc; subst hc; rfl
    | succ k => simp [CT.cells] at hc
  | .unit, _, k, c, hc => by simp [CT.cells] at hc
  | .pair a b, v, k, c, hc => by
    rw [CT.cells] at hc
    by_cases e : k < a.width
    · rw [List.getElem?_append_left (by rw [CT.cells_length]; exact e)] at hc
      exact CT.cells_known a v.1 k c hc
    · rw [List.getElem?_append_right (by rw [CT.cells_length]; omega), CT.cells_length] at hc
      exact CT.cells_known b v.2 _ c hc

/-- The values that lie where a promised list lies. -/
theorem row_vals {X : Ctx} {row : CT} {l : List row.den} {b o : Nat} (h : ∀ (j : Nat) x, l[j]? = some x → RelT row x (fun k y => X.IC ⟨b, o + j * row.width + k, none⟩ y) X.IC) :
    ∃ vs : List Value, vs.length = l.length * row.width ∧ (∀ (k : Nat) u, vs[k]? = some u → X.IC ⟨b, o + k, none⟩ u) ∧
      (∀ (j : Nat) x, l[j]? = some x → RelT row x (fun k y => vs[j * row.width + k]? = some y) X.IC) ∧ ∀ u ∈ vs, u.oneCell' = true := by
  have cellAt : ∀ k, k < l.length * row.width → ∃ y, X.IC ⟨b, o + k, none⟩ y ∧ y.oneCell' = true := by
    intro k hk
    have hw : 0 < row.width := by
      rcases Nat.eq_zero_or_pos row.width with h0 | h0
      · rw [h0] at hk; omega
      · exact h0
    have hj : k / row.width < l.length := (Nat.div_lt_iff_lt_mul hw).2 hk
    have hr := h (k / row.width) _ (List.getElem?_eq_getElem hj)
    have hm : k % row.width < row.width := Nat.mod_lt _ hw
    have hc := List.getElem?_eq_getElem (l := row.cells l[k / row.width]) (i := k % row.width) (by rw [CT.cells_length]; exact hm)
    obtain ⟨y, hy, hv⟩ := RelT.cell row _ _ hr _ _ hc
    refine ⟨y, ?_, (AC.known_one (CT.cells_known row _ _ _ hc) hv).1⟩
    have e : o + k / row.width * row.width + k % row.width = o + k := by
      have := Nat.div_add_mod' k row.width; omega
    rwa [e] at hy
  have val : ∀ k y, X.IC ⟨b, o + k, none⟩ y → ((X.w.cell? ⟨b, o + k, none⟩).getD undef) = y := fun k y hy => by rw [hy.2.2.1]; rfl
  refine ⟨(List.range (l.length * row.width)).map fun k => (X.w.cell? ⟨b, o + k, none⟩).getD undef, by simp, ?_, ?_, ?_⟩
  · intro k u hu
    have hk : k < l.length * row.width := by
      have := (List.getElem?_eq_some_iff.1 hu).1
      simpa using this
    simp only [List.getElem?_map, List.getElem?_range hk, Option.map_some, Option.some.injEq] at hu
    obtain ⟨y, hy, _⟩ := cellAt k hk
    rw [val k y hy] at hu
    subst hu; exact hy
  · intro j x hj
    have hjl : j < l.length := (List.getElem?_eq_some_iff.1 hj).1
    refine RelT.mono_lt row x (fun k y hk hy => ?_) (fun _ _ hh => hh) (h j x hj)
    have hlt : j * row.width + k < l.length * row.width := by
      have : (j + 1) * row.width ≤ l.length * row.width := Nat.mul_le_mul_right _ hjl
      rw [Nat.add_mul] at this
      omega
    simp only [List.getElem?_map, List.getElem?_range hlt, Option.map_some, Option.some.injEq]
    exact val _ y (by rw [show o + (j * row.width + k) = o + j * row.width + k from by omega]; exact hy)
  · intro u hu
    obtain ⟨k, hk, rfl⟩ := List.mem_map.1 hu
    obtain ⟨y, hy, h1⟩ := cellAt k (List.mem_range.1 hk)
    rw [val k y hy]; exact h1

/-- A token's array, new or longer by what was put behind it. -/
def Ctx.tok (X : Ctx) (i g : Nat) (end_ : Nat) (e : TypeId) (ver : Nat) (w' : World) : Ctx :=
  { X with φ := upd X.φ i g, fr := upd X.fr g (some end_), tl := fun j => j = i ∨ X.tl j, H := upd X.H i (some (.tok e ver)), w := w' }

structure TokStep (X : Ctx) (i g end_ : Nat) (e : TypeId) (ver : Nat) (w' : World) : Prop where
  os : w'.os = X.w.os
  tape : w'.tape = X.w.tape
  output : w'.output = X.w.output
  size : X.w.heap.size ≤ w'.heap.size
  other : ∀ k, k < X.w.heap.size → k ≠ g → w'.heap[k]? = X.w.heap[k]?
  which : g = X.w.heap.size ∨ (X.tl i ∧ g = X.φ i)
  lt : g < w'.heap.size
  hi : X.H i = none ∨ ∃ v, X.H i = some (.tok e v) ∧ v < ver
  pre : ∀ q, X.fr g = some q → q ≤ end_ ∧ ∀ o, o < q → w'.cell? ⟨g, o, none⟩ = X.w.cell? ⟨g, o, none⟩

theorem tok_le {X : Ctx} (hX : HRel X) {i g end_ : Nat} {e : TypeId} {ver : Nat} {w' : World} (hs : TokStep X i g end_ e ver w')
    (hfr : g < X.w.heap.size → ∃ q, X.fr g = some q) : X.le (X.tok i g end_ e ver w') where
  ic a y h := by
    obtain ⟨h1, h2, h3, h4, h5⟩ := h
    have hl := World.block_lt_of_cell? _ _ h3
    refine ⟨h1, h2, ?_, ?_, ?_⟩
    · by_cases eg : a.block = g
      · obtain ⟨q, hq⟩ := hfr (eg ▸ hl)
        have hlt := h5 q (by rw [eg]; exact hq)
        have hp := (hs.pre q hq).2 a.off hlt
        obtain ⟨b, o, s⟩ := a
        simp only at h2 eg hp hlt
        subst h2; subst eg
        exact hp.trans h3
      · exact (World.cell?_of_block (hs.other _ hl eg)).trans h3
    · intro j b hj hb
      by_cases ej : j = i
      · subst ej
        simp only [Ctx.tok, upd_same, Option.some.injEq] at hj
        subst hj; cases hb
      · simp only [Ctx.tok, upd_other _ _ ej] at hj ⊢; exact h4 j b hj hb
    · intro q hq
      by_cases eg : a.block = g
      · simp only [Ctx.tok, eg, upd_same, Option.some.injEq] at hq
        subst hq
        obtain ⟨q, hq⟩ := hfr (eg ▸ hl)
        have := h5 q (by rw [eg]; exact hq)
        have := (hs.pre q hq).1
        omega
      · simp only [Ctx.tok, upd_other _ _ eg] at hq; exact h5 q hq
  loc j b hj hb := by
    have ej : j ≠ i := fun ee => by
      subst ee
      rcases hs.hi with h | ⟨v, h, _⟩
      · rw [h] at hj; cases hj
      · rw [h] at hj; cases hj; cases hb
    exact ⟨⟨b, by simp only [Ctx.tok, upd_other _ _ ej]; exact hj, hb⟩, by simp only [Ctx.tok, upd_other _ _ ej]⟩
  arr j row l hj := by
    have ej : j ≠ i := fun ee => by
      subst ee
      rcases hs.hi with h | ⟨v, h, _⟩
      · rw [h] at hj; cases hj
      · rw [h] at hj; cases hj
    exact ⟨l, by simp only [Ctx.tok, upd_other _ _ ej]; exact hj, rfl⟩
  tok j u v hj := by
    by_cases ej : j = i
    · subst ej
      rcases hs.hi with h | ⟨v1, h, hv⟩
      · rw [h] at hj; cases hj
      · rw [h] at hj
        simp only [Option.some.injEq, AB.tok.injEq] at hj
        obtain ⟨rfl, rfl⟩ := hj
        exact ⟨ver, by simp only [Ctx.tok, upd_same], Nat.le_of_lt hv, fun ee => by omega⟩
    · refine ⟨v, by simp only [Ctx.tok, upd_other _ _ ej]; exact hj, Nat.le_refl _, fun _ => ⟨by simp only [Ctx.tok, upd_other _ _ ej], fun t p q ⟨t1, t2, c, mk, t3, t4⟩ => ?_⟩⟩
      have hne : X.φ j ≠ g := by
        rcases hs.which with h | ⟨h, h'⟩
        · have := hX.ltt j t1; omega
        · rw [h']; exact hX.injt j i t1 h ej
      refine ⟨.inr t1, ?_, c, mk, ?_, t4⟩
      · simp only [Ctx.tok, upd_other _ _ ej, upd_other _ _ hne]; exact t2
      · simp only [Ctx.tok, upd_other _ _ ej]; exact (hs.other _ (hX.ltt j t1) hne).trans t3
  w0 := rfl
  lent := rfl
  oldeq := rfl

theorem HRel.tok {X : Ctx} (hX : HRel X) {i g end_ : Nat} {e : TypeId} {ver : Nat} {w' : World} (hs : TokStep X i g end_ e ver w')
    (hfr : g < X.w.heap.size → ∃ q, X.fr g = some q) : HRel (X.tok i g end_ e ver w') := by
  have hle := tok_le hX hs hfr
  have hg : ∀ j, X.tl j → j ≠ i → X.φ j ≠ g := fun j hj ej => by
    rcases hs.which with h | ⟨h, h'⟩
    · have := hX.ltt j hj; omega
    · rw [h']; exact hX.injt j i hj h ej
  have hgm : ∀ j b, X.H j = some b → b.loc = true → X.φ j ≠ g := fun j b hj hb => by
    rcases hs.which with h | ⟨h, h'⟩
    · have := hX.lt j b hj hb; omega
    · rw [h']; exact hX.injm j b i hj hb h
  have old_of : ∀ j b, (X.tok i g end_ e ver w').H j = some b → b.loc = true → j ≠ i ∧ X.H j = some b := fun j b hj hb => by
    by_cases ej : j = i
    · subst ej
      simp only [Ctx.tok, upd_same, Option.some.injEq] at hj
      subst hj; cases hb
    · exact ⟨ej, by simpa only [Ctx.tok, upd_other _ _ ej] using hj⟩
  have φ_of : ∀ j, j ≠ i → (X.tok i g end_ e ver w').φ j = X.φ j := fun j ej => by simp only [Ctx.tok, upd_other _ _ ej]
  have φ_i : (X.tok i g end_ e ver w').φ i = g := by simp only [Ctx.tok, upd_same]
  refine ⟨?_, ?_, ?_, ?_, ?_, ?_, ?_, ?_, ?_, ?_, ?_, hs.os.trans hX.os, hs.tape.trans hX.tape, hs.output.trans hX.output, Nat.le_trans hX.size hs.size, ?_⟩
  · intro j k b c hj hk hb hc hne
    obtain ⟨ej, hj⟩ := old_of j b hj hb
    obtain ⟨ek, hk⟩ := old_of k c hk hc
    rw [φ_of j ej, φ_of k ek]
    exact hX.inj j k b c hj hk hb hc hne
  · intro j k hj hk hne
    by_cases ej : j = i
    · have ek : k ≠ i := fun ee => hne (ej.trans ee.symm)
      rw [ej, φ_i, φ_of k ek]
      exact (hg k (hk.resolve_left ek) ek).symm
    · rw [φ_of j ej]
      by_cases ek : k = i
      · rw [ek, φ_i]; exact hg j (hj.resolve_left ej) ej
      · rw [φ_of k ek]; exact hX.injt j k (hj.resolve_left ej) (hk.resolve_left ek) hne
  · intro j b k hj hb hk
    obtain ⟨ej, hj⟩ := old_of j b hj hb
    rw [φ_of j ej]
    by_cases ek : k = i
    · rw [ek, φ_i]; exact hgm j b hj hb
    · rw [φ_of k ek]; exact hX.injm j b k hj hb (hk.resolve_left ek)
  · intro j b hj hb
    obtain ⟨ej, hj⟩ := old_of j b hj hb
    rw [φ_of j ej]; exact hX.place j b hj hb
  · intro j hj
    by_cases ej : j = i
    · rw [ej, φ_i]
      rcases hs.which with h | ⟨h, h'⟩
      · exact .inl (by rw [h]; exact hX.size)
      · rw [h']; exact hX.placet i h
    · rw [φ_of j ej]; exact hX.placet j (hj.resolve_left ej)
  · intro j b hj hb
    obtain ⟨ej, hj⟩ := old_of j b hj hb
    rw [φ_of j ej]
    exact Nat.lt_of_lt_of_le (hX.lt j b hj hb) hs.size
  · intro j hj
    by_cases ej : j = i
    · rw [ej, φ_i]; exact hs.lt
    · rw [φ_of j ej]; exact Nat.lt_of_lt_of_le (hX.ltt j (hj.resolve_left ej)) hs.size
  · intro j hj
    by_cases ej : j = i
    · rw [ej]; simp [Ctx.tok, upd_same]
    · simp only [Ctx.tok, upd_other _ _ ej]; exact hX.tlH j (hj.resolve_left ej)
  · intro b q hb
    by_cases eb : b = g
    · rw [eb]; exact hs.lt
    · simp only [Ctx.tok, upd_other _ _ eb] at hb
      exact Nat.lt_of_lt_of_le (hX.frlt b q hb) hs.size
  · intro j b hj
    cases hm : b.loc with
    | true =>
      obtain ⟨ej, hj'⟩ := old_of j b hj hm
      exact BRel.mono hle (φ_of j ej) (hs.other _ (hX.lt j b hj' hm) (hgm j b hj' hm)) (hX.blk j b hj')
    | false => cases b <;> first | trivial | cases hm
  · intro k hk hl
    refine (hs.other k (Nat.lt_of_lt_of_le hk hX.size) ?_).trans (hX.below k hk hl)
    intro ek
    have hk' : k < X.w0.heap.size := hk
    rcases hs.which with h | ⟨h, h'⟩
    · have := hX.size; omega
    · rcases hX.placet i h with hp | hp
      · omega
      · exact hl (by rw [ek, h']; exact hp)
  · intro a y h
    exact hle.ic a y (hX.old a y h)
end Go.Eng
