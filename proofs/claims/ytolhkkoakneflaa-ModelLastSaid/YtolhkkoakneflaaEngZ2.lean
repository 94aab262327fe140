import Derived.Test.YtolhkkoakneflaaEngZ1
set_option linter.unusedVariables false
namespace Go.Eng
open Go Go.RowKit
variable {P : Program}

/-! ### Letting blocks go -/

def Ctx.cut (X : Ctx) (m : Nat) : Ctx := { X with H := fun i => if i < m then X.H i else none, tl := fun i => i < m ∧ X.tl i }

theorem cut_some {X : Ctx} {m i : Nat} {b : AB} (h : (X.cut m).H i = some b) : i < m ∧ X.H i = some b := by
  simp only [Ctx.cut] at h
  split at h
  · exact ⟨‹_›, h⟩
  · cases h
theorem some_cut {X : Ctx} {m i : Nat} {b : AB} (hi : i < m) (h : X.H i = some b) : (X.cut m).H i = some b := by
  simp only [Ctx.cut, if_pos hi]; exact h
theorem cut_IC {X : Ctx} {m : Nat} {a : Addr} {y : Value} (h : X.IC a y) : (X.cut m).IC a y :=
  ⟨h.1, h.2.1, h.2.2.1, fun i b hb hl => h.2.2.2.1 i b (cut_some hb).2 hl, h.2.2.2.2⟩
theorem cut_tok {X : Ctx} {m i : Nat} {e : TypeId} {p q : Nat} (hi : i < m) (h : X.TokOk i e p q) : (X.cut m).TokOk i e p q := ⟨⟨hi, h.1⟩, h.2⟩

theorem cut_le {X0 X : Ctx} {m : Nat} (h : X0.le X) (hm : ∀ i, m ≤ i → X0.H i = none) : X0.le (X.cut m) := by
  have lt : ∀ i b, X0.H i = some b → i < m := fun i b hb => by
    by_cases hi : i < m
    · exact hi
    · rw [hm i (by omega)] at hb; cases hb
  refine ⟨fun a y hh => cut_IC (h.ic a y hh), fun i b hb hl => ?_, fun i row l hb => ?_, fun i t v hb => ?_, h.w0, h.lent, h.oldeq⟩
  · obtain ⟨⟨b', e, hl'⟩, hφ⟩ := h.loc i b hb hl
    exact ⟨⟨b', some_cut (lt i b hb) e, hl'⟩, hφ⟩
  · obtain ⟨l', e, hl⟩ := h.arr i row l hb
    exact ⟨l', some_cut (lt i _ hb) e, hl⟩
  · obtain ⟨v', e, hle, hh⟩ := h.tok i t v hb
    exact ⟨v', some_cut (lt i _ hb) e, hle, fun ev => ⟨(hh ev).1, fun e p q ht => cut_tok (lt i _ hb) ((hh ev).2 e p q ht)⟩⟩

/-- The blocks that a value names. -/
def idsC : AC → List Nat
  | .sl _ _ (.own i _) => [i]
  | .ptr i _ => [i]
  | .pti i _ _ _ => [i]
  | .msl i _ _ => [i]
  | .csl i _ _ _ => [i]
  | .asl _ i _ _ _ => [i]
  | .ael _ i _ _ => [i]
  | .fn _ caps => caps.map (·.1)
  | .mth _ i _ => [i]
  | .mref i => [i]
  | _ => []
def idsV : AV → List Nat
  | .one c => idsC c
  | .agg cs => cs.flatMap idsC
  | .tup vs => vs.flatMap fun p => p.2.flatMap idsC
def idsB : AB → List Nat
  | .cells cs => cs.flatMap idsC
  | _ => []

theorem VRc.cut {X : Ctx} {m : Nat} : ∀ (c : AC) (v : Value), (∀ i ∈ idsC c, i < m) → VRc X c v → VRc (X.cut m) c v
  | .unk, _, _, _ => trivial
  | .int _ _, _, _, h => h
  | .bool _, _, _, h => h
  | .str _, _, _, h => h
  | .sl row l sm, v, hi, ⟨A, n, cap, e, hn, hc, hmx, hl, hs⟩ => by
    refine ⟨A, n, cap, e, hn, hc, hmx, hl.imp id fun ⟨b, o, hA, hh⟩ => ⟨b, o, hA, fun j x hj => RelT.mono row x (fun k y => cut_IC) (fun a y => cut_IC) (hh j x hj)⟩, ?_⟩
    cases sm with
    | shared => trivial
    | full => exact hs
    | nn => exact hs
    | own i ver =>
      obtain ⟨e, v0, h1, h2, h3⟩ := hs
      have him : i < m := hi i (by simp [idsC])
      exact ⟨e, v0, some_cut him h1, h2, fun ev => (h3 ev).imp id fun ⟨ha, ht⟩ => ⟨ha, cut_tok him ht⟩⟩
  | .nils, _, _, h => h
  | .nilz, _, _, h => h
  | .nilp, _, _, h => h
  | .nilf, _, _, h => h
  | .nilm, _, _, h => h
  | .ptr i off, v, hi, ⟨⟨b, hb, hl⟩, e⟩ => ⟨⟨b, some_cut (hi i (by simp [idsC])) hb, hl⟩, e⟩
  | .pti i off n len, v, hi, ⟨⟨b, hb, hl⟩, e⟩ => ⟨⟨b, some_cut (hi i (by simp [idsC])) hb, hl⟩, e⟩
  | .elp row l i off, v, _, ⟨hlt, b, o, e, hh⟩ => ⟨hlt, b, o, e, fun x hx => RelT.mono row x (fun k y => cut_IC) (fun a y => cut_IC) (hh x hx)⟩
  | .msl i off len, v, hi, ⟨row, l, cap, hb, e⟩ => ⟨row, l, cap, some_cut (hi i (by simp [idsC])) hb, e⟩
  | .csl i off len cap, v, hi, ⟨⟨b, hb, hl⟩, e⟩ => ⟨⟨b, some_cut (hi i (by simp [idsC])) hb, hl⟩, e⟩
  | .asl row i off len cap, v, hi, ⟨l, hb, e⟩ => ⟨l, some_cut (hi i (by simp [idsC])) hb, e⟩
  | .ael row i j d, v, hi, ⟨l, hb, e⟩ => ⟨l, some_cut (hi i (by simp [idsC])) hb, e⟩
  | .mth f i off, v, hi, ⟨⟨b, hb, hl⟩, e⟩ => ⟨⟨b, some_cut (hi i (by simp [idsC])) hb, hl⟩, e⟩
  | .mref i, v, hi, ⟨⟨b, hb, hl⟩, e⟩ => ⟨⟨b, some_cut (hi i (by simp [idsC])) hb, hl⟩, e⟩
  | .fn f caps, v, hi, ⟨c, e, hs, hh⟩ => ⟨c, e, hs, fun j p hp => by
      obtain ⟨⟨b, hb, hl⟩, e'⟩ := hh j p hp
      exact ⟨⟨b, some_cut (hi p.1 (by simp only [idsC]; exact List.mem_map_of_mem (List.mem_of_getElem? hp))) hb, hl⟩, e'⟩⟩

theorem VRc.has {X : Ctx} : ∀ (c : AC) (v : Value), VRc X c v → ∀ i ∈ idsC c, X.H i ≠ none
  | .sl row l (.own i ver), v, ⟨A, n, cap, e, hn, hc, hmx, hl, e', v0, h1, h2⟩, j, hj => by
    simp only [idsC, List.mem_singleton] at hj
    subst hj; rw [h1]; simp
  | .ptr i off, v, ⟨⟨b, hb, hl⟩, e⟩, j, hj => by simp only [idsC, List.mem_singleton] at hj; subst hj; rw [hb]; simp
  | .pti i off n len, v, ⟨⟨b, hb, hl⟩, e⟩, j, hj => by simp only [idsC, List.mem_singleton] at hj; subst hj; rw [hb]; simp
  | .msl i off len, v, ⟨row, l, cap, hb, e⟩, j, hj => by simp only [idsC, List.mem_singleton] at hj; subst hj; rw [hb]; simp
  | .csl i off len cap, v, ⟨⟨b, hb, hl⟩, e⟩, j, hj => by simp only [idsC, List.mem_singleton] at hj; subst hj; rw [hb]; simp
  | .asl row i off len cap, v, ⟨l, hb, e⟩, j, hj => by simp only [idsC, List.mem_singleton] at hj; subst hj; rw [hb]; simp
  | .ael row i j' d, v, ⟨l, hb, e⟩, j, hj => by simp only [idsC, List.mem_singleton] at hj; subst hj; rw [hb]; simp
  | .mth f i off, v, ⟨⟨b, hb, hl⟩, e⟩, j, hj => by simp only [idsC, List.mem_singleton] at hj; subst hj; rw [hb]; simp
  | .mref i, v, ⟨⟨b, hb, hl⟩, e⟩, j, hj => by simp only [idsC, List.mem_singleton] at hj; subst hj; rw [hb]; simp
  | .fn f caps, v, ⟨c, e, hs, hh⟩, j, hj => by
    simp only [idsC, List.mem_map] at hj
    obtain ⟨p, hp, rfl⟩ := hj
    obtain ⟨k, hk⟩ := List.getElem?_of_mem hp
    obtain ⟨⟨b, hb, hl⟩, _⟩ := hh k p hk
    rw [hb]; simp
  | .unk, _, _, _, hj => by cases hj
  | .int _ _, _, _, _, hj => by cases hj
  | .bool _, _, _, _, hj => by cases hj
  | .str _, _, _, _, hj => by cases hj
  | .sl _ _ .shared, _, _, _, hj => by cases hj
  | .sl _ _ .full, _, _, _, hj => by cases hj
  | .sl _ _ .nn, _, _, _, hj => by cases hj
  | .nils, _, _, _, hj => by cases hj
  | .nilz, _, _, _, hj => by cases hj
  | .nilp, _, _, _, hj => by cases hj
  | .nilf, _, _, _, hj => by cases hj
  | .nilm, _, _, _, hj => by cases hj
  | .elp _ _ _ _, _, _, _, hj => by cases hj

theorem VRcs.cut {X : Ctx} {m : Nat} {cs : List AC} {vs : List Value} (hi : ∀ i ∈ cs.flatMap idsC, i < m) (h : PW (VRc X) cs vs) : PW (VRc (X.cut m)) cs vs :=
  ⟨h.1, fun j c y hc hy => VRc.cut c y (fun i hi' => hi i (List.mem_flatMap.2 ⟨c, List.mem_of_getElem? hc, hi'⟩)) (h.2 j c y hc hy)⟩
theorem VRp.cut {X : Ctx} {m : Nat} : ∀ (p : Bool × List AC) (v : Value), (∀ i ∈ p.2.flatMap idsC, i < m) → VRp X p v → VRp (X.cut m) p v
  | (true, cs), v, hi, ⟨ar, e, h⟩ => ⟨ar, e, VRcs.cut hi h⟩
  | (false, cs), v, hi, ⟨c, e, h⟩ => ⟨c, e, VRc.cut c v (fun i hi' => hi i (by subst e; simpa using hi')) h⟩
theorem VR.cut {X : Ctx} {m : Nat} : ∀ (c : AV) (v : Value), (∀ i ∈ idsV c, i < m) → VR X c v → VR (X.cut m) c v
  | .one c, v, hi, h => VRc.cut c v hi h
  | .agg cs, v, hi, h => VRp.cut (true, cs) v hi h
  | .tup vs, v, hi, ⟨arr, e, h⟩ => ⟨arr, e, h.1, fun j c y hc hy => VRp.cut c y (fun i hi' => hi i (List.mem_flatMap.2 ⟨c, List.mem_of_getElem? hc, hi'⟩)) (h.2 j c y hc hy)⟩

theorem VRcs.has {X : Ctx} {cs : List AC} {vs : List Value} (h : PW (VRc X) cs vs) : ∀ i ∈ cs.flatMap idsC, X.H i ≠ none := fun i hi => by
  obtain ⟨c, hc, hi⟩ := List.mem_flatMap.1 hi
  obtain ⟨j, hj⟩ := List.getElem?_of_mem hc
  obtain ⟨y, _, hy⟩ := h.at_ hj
  exact VRc.has c y hy i hi
theorem VRp.has {X : Ctx} : ∀ (p : Bool × List AC) (v : Value), VRp X p v → ∀ i ∈ p.2.flatMap idsC, X.H i ≠ none
  | (true, cs), v, ⟨ar, e, h⟩, i, hi => VRcs.has h i hi
  | (false, cs), v, ⟨c, e, h⟩, i, hi => VRc.has c v h i (by subst e; simpa using hi)
theorem VR.has {X : Ctx} : ∀ (c : AV) (v : Value), VR X c v → ∀ i ∈ idsV c, X.H i ≠ none
  | .one c, v, h, i, hi => VRc.has c v h i hi
  | .agg cs, v, h, i, hi => VRp.has (true, cs) v h i hi
  | .tup vs, v, ⟨arr, e, h⟩, i, hi => by
    obtain ⟨c, hc, hi⟩ := List.mem_flatMap.1 hi
    obtain ⟨j, hj⟩ := List.getElem?_of_mem hc
    obtain ⟨y, _, hy⟩ := h.at_ hj
    exact VRp.has c y hy i hi

theorem BRel.cut {X : Ctx} {m i : Nat} {b : AB} (hi : ∀ j ∈ idsB b, j < m) (h : BRel X i b) : BRel (X.cut m) i b := by
  cases b with
  | cells cs =>
    obtain ⟨c, t, h1, h2⟩ := h
    exact ⟨c, t, h1, VRcs.cut hi h2⟩
  | arr row l =>
    obtain ⟨c, t, h1, h2, h3⟩ := h
    exact ⟨c, t, h1, h2, fun j x hj => RelT.mono row x (fun k y h => h) (fun a y => cut_IC) (h3 j x hj)⟩
  | tok e v => trivial
  | mp kt vt ka va l =>
    obtain ⟨hf, es, clock, h1, h2, h3⟩ := h
    refine ⟨hf, es, clock, h1, h2, fun j p e hp he => ?_⟩
    obtain ⟨g1, us, g2, g3, g4⟩ := h3 j p e hp he
    exact ⟨g1, us, g2, g3, RelT.mono vt p.2 (fun k y h => h) (fun a y => cut_IC) g4⟩

theorem BRel.has {X : Ctx} {i : Nat} {b : AB} (h : BRel X i b) : ∀ j ∈ idsB b, X.H j ≠ none := fun j hj => by
  cases b with
  | cells cs =>
    obtain ⟨c, t, h1, h2⟩ := h
    exact VRcs.has h2 j hj
  | arr row l => cases hj
  | tok e v => cases hj
  | mp kt vt ka va l => cases hj

theorem HRel.cut {X : Ctx} (hX : HRel X) {m : Nat} (hb : ∀ i b, i < m → X.H i = some b → ∀ j ∈ idsB b, j < m) : HRel (X.cut m) where
  inj i j b c hi hj := hX.inj i j b c (cut_some hi).2 (cut_some hj).2
  injt i j hi hj := hX.injt i j hi.2 hj.2
  injm i b j hi hl hj := hX.injm i b j (cut_some hi).2 hl hj.2
  place i b hi := hX.place i b (cut_some hi).2
  placet i hi := hX.placet i hi.2
  lt i b hi := hX.lt i b (cut_some hi).2
  ltt i hi := hX.ltt i hi.2
  tlH i hi := by
    have := hX.tlH i hi.2
    simp only [Ctx.cut, if_pos hi.1]; exact this
  frlt := hX.frlt
  blk i b hi := BRel.cut (hb i b (cut_some hi).1 (cut_some hi).2) (hX.blk i b (cut_some hi).2)
  below := hX.below
  os := hX.os
  tape := hX.tape
  output := hX.output
  size := hX.size
  old a y h := cut_IC (hX.old a y h)

/-- A new token that stands for no array yet. -/
def Ctx.coin (X : Ctx) (n : Nat) (e : TypeId) : Ctx := { X with H := upd X.H n (some (.tok e 0)) }
theorem coin_le {X : Ctx} {n : Nat} {e : TypeId} (hn : X.H n = none) : X.le (X.coin n e) := by
  have ne : ∀ i b, X.H i = some b → i ≠ n := fun i b hb e => by subst e; rw [hn] at hb; cases hb
  refine ⟨fun a y ⟨h1, h2, h3, h4, h5⟩ => ⟨h1, h2, h3, fun i b hb hl => ?_, h5⟩, fun i b hb hl => ⟨⟨b, ?_, hl⟩, rfl⟩, fun i row l hb => ⟨l, ?_, rfl⟩, fun i t v hb => ⟨v, ?_, Nat.le_refl _, fun _ => ⟨rfl, fun _ _ _ h => h⟩⟩, rfl, rfl, rfl⟩
  · by_cases hi : i = n
    · subst hi; simp only [Ctx.coin, upd_same, Option.some.injEq] at hb; subst hb; cases hl
    · simp only [Ctx.coin, upd_other _ _ hi] at hb; exact h4 i b hb hl
  all_goals simp only [Ctx.coin]; rw [upd_other _ _ (ne i _ hb)]; exact hb
theorem HRel.coin {X : Ctx} (hX : HRel X) {n : Nat} {e : TypeId} (hn : X.H n = none) : HRel (X.coin n e) := by
  have hh : ∀ i b, (X.coin n e).H i = some b → b.loc = true → X.H i = some b := fun i b hb hl => by
    by_cases hi : i = n
    · subst hi; simp only [Ctx.coin, upd_same, Option.some.injEq] at hb; subst hb; cases hl
    · simp only [Ctx.coin, upd_other _ _ hi] at hb; exact hb
  refine ⟨fun i j b c hi hj hb hc => hX.inj i j b c (hh i b hi hb) (hh j c hj hc) hb hc, hX.injt, fun i b j hi hb => hX.injm i b j (hh i b hi hb) hb, fun i b hi hb => hX.place i b (hh i b hi hb) hb, hX.placet,
    fun i b hi hb => hX.lt i b (hh i b hi hb) hb, hX.ltt, fun i hi => ?_, hX.frlt, fun i b hi => ?_, hX.below, hX.os, hX.tape, hX.output, hX.size, fun a y h => (coin_le hn).ic a y (hX.old a y h)⟩
  · by_cases h : i = n
    · subst h; simp [Ctx.coin, upd_same]
    · simp only [Ctx.coin, upd_other _ _ h]; exact hX.tlH i hi
  · cases b with
    | tok e' v => trivial
    | cells cs => exact BRel.mono (coin_le hn) rfl rfl (hX.blk i _ (hh i _ hi rfl))
    | arr row l => exact BRel.mono (coin_le hn) rfl rfl (hX.blk i _ (hh i _ hi rfl))
    | mp kt vt ka va l => exact BRel.mono (coin_le hn) rfl rfl (hX.blk i _ (hh i _ hi rfl))
end Go.Eng
