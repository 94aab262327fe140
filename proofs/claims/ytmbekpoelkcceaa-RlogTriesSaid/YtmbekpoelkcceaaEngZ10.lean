import Derived.Maps.RangeRun
import Derived.Test.YtmbekpoelkcceaaEngZ11
set_option linter.unusedVariables false
set_option linter.unusedSectionVars false
namespace Go.Eng
section
open Go Go.RowKit Go.ChangeMaps
variable {P : Program}

/-! ### The head of a round of a range over a map, by hand: 'next' may hand out any entry that is left -/

theorem range_tail (n : Nat) : List.range (n + 1) = 0 :: (List.range n).map Nat.succ := List.range_succ_eq_map

theorem execOp_next {o : Oper} {x : Operand} (ho : o.op = .next x false) (ρ : Operand → Value) (w : World) {v : Value} {w' : World} (h : (Instr.next (ρ x) false o.type).run P w = .ok v w') : (execOp ρ o).run P w = .ok (.value v) w' := by
  obtain ⟨dst, op, type, pos, after, guard⟩ := o
  subst ho
  simp only [execOp, Sem.run_bind, h, Result.andThen_ok, Sem.run_pure]
theorem execOp_entry {o : Oper} {x : Operand} (ho : o.op = .entry x) (ρ : Operand → Value) (w : World) {v : Value} {w' : World} (h : (Instr.entry (ρ x)).run P w = .ok v w') : (execOp ρ o).run P w = .ok (.value v) w' := by
  obtain ⟨dst, op, type, pos, after, guard⟩ := o
  subst ho
  simp only [execOp, Sem.run_bind, h, Result.andThen_ok, Sem.run_pure]
theorem execOp_range {o : Oper} {t : TypeId} {x : Operand} (ho : o.op = .range t x) (ρ : Operand → Value) (w : World) {v : Value} {w' : World} (h : (Instr.range t (ρ x)).run P w = .ok v w') : (execOp ρ o).run P w = .ok (.value v) w' := by
  obtain ⟨dst, op, type, pos, after, guard⟩ := o
  subst ho
  simp only [execOp, Sem.run_bind, h, Result.andThen_ok, Sem.run_pure]

/-- An operation that comes to a value, its tests held. -/
theorem wpOps_value {ops : Array Oper} {Q : Exit → Act → World → Prop} {i : Nat} {l : List Nat} {o : Oper} {a : Act} {w w' : World} {v : Value} (hi : ops[i]? = some o) (hg : o.guard = none)
    (hx : (execOp a.eval o).run P w = .ok (.value v) w') (h : wpOps P ops Q l (a.put o.dst v) w') : wpOps P ops Q (i :: l) a w := by
  simp only [wpOps, hi]
  rw [if_pos (wanted_none hg _)]
  left
  unfold Oper.wp
  rw [hx]
  exact h

section
variable {ops : Array Oper} {o : Oper} {n id : Nat} {x : Operand} {Q : Exit → Act → World → Prop} {a : Act} {w : World} {r bm since c0 : Nat} {seen : Array Nat} {es : Array MapEntry} {clock : Nat}

theorem wp_next (hn : ops.size = n + 1) (h0 : ops[0]? = some o) (ho : o.op = .next x false) (hg : o.guard = none) (hx : a.eval x = .pointer (some ⟨r, 0, none⟩))
    (hr : w.heap[r]? = some (.mapIter (some bm) since seen c0)) (hb : w.heap[bm]? = some (.map es clock)) (hold : ∀ e ∈ es.toList, e.born < since) (hsc : since ≤ c0)
    (hend : (leftOf es seen).size = 0 → wpOps P ops Q ((List.range n).map Nat.succ) (a.put o.dst (.tuple #[.bool false])) w)
    (hgo : ∀ e ∈ (leftOf es seen).toList, ∀ w1 : World, (w1 = w ∨ w1 = w.drew) → wpOps P ops Q ((List.range n).map Nat.succ) (a.put o.dst (.tuple #[.bool true, e.key, e.val])) (setBlock w1 r (.mapIter (some bm) since (seen.push e.born) clock))) :
    (Code.region id ops false).wp P Q a w := by
  refine wp_region ?_
  rw [hn, range_tail]
  rcases run_next_at (P := P) w o.type r bm since c0 seen es clock hr hb hold hsc with ⟨h1, h2⟩ | ⟨e, he, w1, h1, h2⟩
  · exact wpOps_value h0 hg (execOp_next ho _ _ (by rw [hx]; exact h2)) (hend h1)
  · exact wpOps_value h0 hg (execOp_next ho _ _ (by rw [hx]; exact h2)) (hgo e he w1 h1)

theorem wp_entry {e : MapEntry} (hn : ops.size = n + 1) (h0 : ops[0]? = some o) (ho : o.op = .entry x) (hg : o.guard = none) (hx : a.eval x = .pointer (some ⟨r, 0, none⟩))
    (hr : w.heap[r]? = some (.mapIter (some bm) since (seen.push e.born) clock)) (hb : w.heap[bm]? = some (.map es clock)) (he : e ∈ es.toList) (hd : (es.toList.map (·.born)).Nodup)
    (h : wpOps P ops Q ((List.range n).map Nat.succ) (a.put o.dst (.tuple #[e.key, e.val])) w) : (Code.region id ops false).wp P Q a w := by
  refine wp_region ?_
  rw [hn, range_tail]
  exact wpOps_value h0 hg (execOp_entry ho _ _ (by rw [hx]; exact run_entry_at w r bm since seen es clock e hr hb he hd)) h
end

/-! ### Blocks that a round does not see -/

/-- Some blocks are hidden behind tokens that stand for nothing; all that is seen is lent, all else is promised. -/
def hide (S : Nat → Bool) (X : Ctx) : Ctx :=
  { φ := X.φ, fr := X.fr, tl := X.tl, H := fun k => if S k then (X.H k).map fun _ => .tok 0 0 else X.H k, w := X.w, w0 := X.w, lent := fun b => (∃ k c, S k = false ∧ X.H k = some c ∧ c.loc = true ∧ b = X.φ k) ∨ ∃ k, X.tl k ∧ b = X.φ k, old := X.IC }

section
variable {S : Nat → Bool} {X : Ctx}
theorem hide_see {k : Nat} (h : S k = false) : (hide S X).H k = X.H k := by simp [hide, h]
theorem hide_loc {k : Nat} {b : AB} (h : (hide S X).H k = some b) (hl : b.loc = true) : S k = false ∧ X.H k = some b := by
  cases hs : S k with
  | false => exact ⟨rfl, by rw [hide_see hs] at h; exact h⟩
  | true =>
    simp only [hide, hs, if_true] at h
    cases hk : X.H k with
    | none => rw [hk] at h; cases h
    | some c => rw [hk] at h; injection h with h; subst h; cases hl
theorem hide_some {k : Nat} {b : AB} (h : X.H k = some b) : ∃ c, (hide S X).H k = some c := by
  cases hs : S k with
  | false => exact ⟨b, by rw [hide_see hs]; exact h⟩
  | true => exact ⟨.tok 0 0, by simp only [hide, hs, if_true, h]; rfl⟩
theorem hide_IC {a : Addr} {y : Value} (h : X.IC a y) : (hide S X).IC a y :=
  ⟨.inr (.inr h), h.2.1, h.2.2.1, fun i b hb hl => h.2.2.2.1 i b (hide_loc hb hl).2 hl, h.2.2.2.2⟩
theorem hide_tok {i : Nat} {e : TypeId} {p q : Nat} (h : X.TokOk i e p q) : (hide S X).TokOk i e p q := h

theorem VRc.hide : ∀ (c : AC) (v : Value), (∀ i ∈ idsC c, S i = false) → VRc X c v → VRc (hide S X) c v
  | .unk, _, _, h => h
  | .int _ _, _, _, h => h
  | .bool _, _, _, h => h
  | .str _, _, _, h => h
  | .sl row l sm, v, hi, ⟨A, n, cap, e, hn, hc, hmx, hl, hs⟩ => by
    refine ⟨A, n, cap, e, hn, hc, hmx, hl.imp id fun ⟨b, o, hA, hh⟩ => ⟨b, o, hA, fun j x hj => RelT.mono row x (fun k y => hide_IC) (fun a y => hide_IC) (hh j x hj)⟩, ?_⟩
    cases sm with
    | shared => trivial
    | full => exact hs
    | nn => exact hs
    | own i ver =>
      obtain ⟨e, v0, h1, h2, h3⟩ := hs
      exact ⟨e, v0, by rw [hide_see (hi i (by simp [idsC]))]; exact h1, h2, h3⟩
  | .nils, _, _, h => h
  | .nilz, _, _, h => h
  | .nilp, _, _, h => h
  | .nilf, _, _, h => h
  | .nilm, _, _, h => h
  | .ptr i off, v, hi, ⟨⟨b, hb, hl⟩, e⟩ => ⟨⟨b, by rw [hide_see (hi i (by simp [idsC]))]; exact hb, hl⟩, e⟩
  | .pti i off n len, v, hi, ⟨⟨b, hb, hl⟩, e⟩ => ⟨⟨b, by rw [hide_see (hi i (by simp [idsC]))]; exact hb, hl⟩, e⟩
  | .elp row l i off, v, _, ⟨hlt, b, o, e, hh⟩ => ⟨hlt, b, o, e, fun x hx => RelT.mono row x (fun k y => hide_IC) (fun a y => hide_IC) (hh x hx)⟩
  | .msl i off len, v, hi, ⟨row, l, cap, hb, e⟩ => ⟨row, l, cap, by rw [hide_see (hi i (by simp [idsC]))]; exact hb, e⟩
  | .csl i off len cap, v, hi, ⟨⟨b, hb, hl⟩, e⟩ => ⟨⟨b, by rw [hide_see (hi i (by simp [idsC]))]; exact hb, hl⟩, e⟩
  | .asl row i off len cap, v, hi, ⟨l, hb, e⟩ => ⟨l, by rw [hide_see (hi i (by simp [idsC]))]; exact hb, e⟩
  | .ael row i j d, v, hi, ⟨l, hb, e⟩ => ⟨l, by rw [hide_see (hi i (by simp [idsC]))]; exact hb, e⟩
  | .mth f i off, v, hi, ⟨⟨b, hb, hl⟩, e⟩ => ⟨⟨b, by rw [hide_see (hi i (by simp [idsC]))]; exact hb, hl⟩, e⟩
  | .mref i, v, hi, ⟨⟨b, hb, hl⟩, e⟩ => ⟨⟨b, by rw [hide_see (hi i (by simp [idsC]))]; exact hb, hl⟩, e⟩
  | .fn f caps, v, hi, ⟨c, e, hs, hh⟩ => ⟨c, e, hs, fun j p hp => by
      obtain ⟨⟨b, hb, hl⟩, e'⟩ := hh j p hp
      exact ⟨⟨b, by rw [hide_see (hi p.1 (by simp only [idsC]; exact List.mem_map_of_mem (List.mem_of_getElem? hp)))]; exact hb, hl⟩, e'⟩⟩
theorem VRcs.hide {cs : List AC} {vs : List Value} (hi : ∀ i ∈ cs.flatMap idsC, S i = false) (h : PW (VRc X) cs vs) : PW (VRc (hide S X)) cs vs :=
  ⟨h.1, fun j c y hc hy => VRc.hide c y (fun i hi' => hi i (List.mem_flatMap.2 ⟨c, List.mem_of_getElem? hc, hi'⟩)) (h.2 j c y hc hy)⟩
theorem VRp.hide : ∀ (p : Bool × List AC) (v : Value), (∀ i ∈ p.2.flatMap idsC, S i = false) → VRp X p v → VRp (Go.Eng.hide S X) p v
  | (true, cs), v, hi, ⟨ar, e, h⟩ => ⟨ar, e, VRcs.hide hi h⟩
  | (false, cs), v, hi, ⟨c, e, h⟩ => ⟨c, e, VRc.hide c v (fun i hi' => hi i (by subst e; simpa using hi')) h⟩
theorem VR.hide : ∀ (c : AV) (v : Value), (∀ i ∈ idsV c, S i = false) → VR X c v → VR (Go.Eng.hide S X) c v
  | .one c, v, hi, h => VRc.hide c v hi h
  | .agg cs, v, hi, h => VRp.hide (true, cs) v hi h
  | .tup vs, v, hi, ⟨arr, e, h⟩ => ⟨arr, e, h.1, fun j c y hc hy => VRp.hide c y (fun i hi' => hi i (List.mem_flatMap.2 ⟨c, List.mem_of_getElem? hc, hi'⟩)) (h.2 j c y hc hy)⟩
theorem BRel.hide {i : Nat} {b : AB} (hi : ∀ j ∈ idsB b, S j = false) (h : BRel X i b) : BRel (Go.Eng.hide S X) i b := by
  cases b with
  | cells cs =>
    obtain ⟨c, t, h1, h2⟩ := h
    exact ⟨c, t, h1, VRcs.hide hi h2⟩
  | arr row l =>
    obtain ⟨c, t, h1, h2, h3⟩ := h
    exact ⟨c, t, h1, h2, fun j x hj => RelT.mono row x (fun k y h => h) (fun a y => hide_IC) (h3 j x hj)⟩
  | tok e v => trivial
  | obj o => exact h
  | mp kt vt ka va l =>
    obtain ⟨hf, es, clock, h1, h2, h3⟩ := h
    refine ⟨hf, es, clock, h1, h2, fun j p e hp he => ?_⟩
    obtain ⟨g1, us, g2, g3, g4⟩ := h3 j p e hp he
    exact ⟨g1, us, g2, g3, RelT.mono vt p.2 (fun k y h => h) (fun a y => hide_IC) g4⟩

theorem HRel.hide (hX : HRel X) (hs : ∀ i b, S i = false → X.H i = some b → ∀ j ∈ idsB b, S j = false) : HRel (Go.Eng.hide S X) where
  inj i j b c hi hj hb hc := hX.inj i j b c (hide_loc hi hb).2 (hide_loc hj hc).2 hb hc
  injt := hX.injt
  injm i b j hi hl hj := hX.injm i b j (hide_loc hi hl).2 hl hj
  place i b hi hl := .inr (.inl ⟨i, b, (hide_loc hi hl).1, (hide_loc hi hl).2, hl, rfl⟩)
  placet i hi := .inr (.inr ⟨i, hi, rfl⟩)
  lt i b hi hl := hX.lt i b (hide_loc hi hl).2 hl
  ltt := hX.ltt
  tlH i hi := by
    cases hk : X.H i with
    | none => exact absurd hk (hX.tlH i hi)
    | some b => obtain ⟨c, hc⟩ := hide_some (S := S) hk; rw [hc]; simp
  frlt := hX.frlt
  blk i b hi := by
    cases hl : b.loc with
    | true =>
      obtain ⟨h1, h2⟩ := hide_loc hi hl
      exact BRel.hide (hs i b h1 h2) (hX.blk i b h2)
    | false => cases b <;> first | trivial | cases hl
  below k hk hl := rfl
  os := rfl
  tape := rfl
  output := rfl
  size := Nat.le_refl _
  old a y h := hide_IC h

/-- What was hidden is seen again. -/
def unhide (S : Nat → Bool) (X Y : Ctx) : Ctx := { φ := fun k => if S k then X.φ k else Y.φ k, fr := Y.fr, tl := fun k => S k = false ∧ Y.tl k, H := fun k => if S k then X.H k else Y.H k, w := Y.w, w0 := X.w0, lent := X.lent, old := X.old }

section
variable {Y : Ctx}
theorem un_see {k : Nat} (h : S k = false) : (unhide S X Y).H k = Y.H k ∧ (unhide S X Y).φ k = Y.φ k := by simp [unhide, h]
theorem un_hid {k : Nat} (h : S k = true) : (unhide S X Y).H k = X.H k ∧ (unhide S X Y).φ k = X.φ k := by simp [unhide, h]

variable (hX : HRel X) (hS : ∀ i, S i = true → ∃ b, X.H i = some b ∧ b.loc = true) (hle : (Go.Eng.hide S X).le Y) (hY : HRel Y)
include hX hS hle hY

theorem un_w0 : Y.w0 = X.w := hle.w0
theorem un_lent : Y.lent = (Go.Eng.hide S X).lent := hle.lent
theorem un_size : X.w.heap.size ≤ Y.w.heap.size := by have := hY.size; rw [un_w0 hX hS hle hY] at this; exact this
/-- What is lent to the round is none of the hidden blocks, and may be turned. -/
theorem un_lent_ok {b : Nat} (h : Y.lent b) : (∀ i c, S i = true → X.H i = some c → c.loc = true → X.φ i ≠ b) ∧ (X.w0.heap.size ≤ b ∨ X.lent b) := by
  rw [un_lent hX hS hle hY] at h
  rcases h with ⟨k, c, h1, h2, h3, rfl⟩ | ⟨k, h1, rfl⟩
  · exact ⟨fun i d hs hi hd => hX.inj i k d c hi h2 hd h3 (fun e => by subst e; rw [h1] at hs; cases hs), hX.place k c h2 h3⟩
  · exact ⟨fun i d hs hi hd => hX.injm i d k hi hd h1, hX.placet k h1⟩
/-- A block of the round's own, or one that it was lent, is none of the hidden ones. -/
theorem un_apart {b : Nat} (h : X.w.heap.size ≤ b ∨ Y.lent b) : (∀ i c, S i = true → X.H i = some c → c.loc = true → X.φ i ≠ b) ∧ (X.w0.heap.size ≤ b ∨ X.lent b) := by
  rcases h with h | h
  · exact ⟨fun i c _ hi hc => by have := hX.lt i c hi hc; omega, .inl (Nat.le_trans hX.size h)⟩
  · exact un_lent_ok hX hS hle hY h
theorem un_place {i : Nat} {b : AB} (h : Y.H i = some b) (hl : b.loc = true) : X.w.heap.size ≤ Y.φ i ∨ Y.lent (Y.φ i) := by
  have := hY.place i b h hl
  rw [un_w0 hX hS hle hY] at this; exact this
theorem un_placet {i : Nat} (h : Y.tl i) : X.w.heap.size ≤ Y.φ i ∨ Y.lent (Y.φ i) := by
  have := hY.placet i h
  rw [un_w0 hX hS hle hY] at this; exact this
/-- What is hidden stands as it stood. -/
theorem un_stays {i : Nat} {b : AB} (hs : S i = true) (h : X.H i = some b) (hl : b.loc = true) : Y.w.heap[X.φ i]? = X.w.heap[X.φ i]? := by
  have := hY.below (X.φ i) (by rw [un_w0 hX hS hle hY]; exact hX.lt i b h hl) (fun hh => (un_lent_ok hX hS hle hY hh).1 i b hs h hl rfl)
  rw [un_w0 hX hS hle hY] at this; exact this
theorem un_not_tl {i : Nat} (hs : S i = true) : ¬ X.tl i := fun h => by
  obtain ⟨b, h1, h2⟩ := hS i hs
  exact hX.injm i b i h1 h2 h rfl

theorem un_IC_X {a : Addr} {y : Value} (h : X.IC a y) : (unhide S X Y).IC a y := by
  obtain ⟨h1, h2, h3, h4, h5⟩ := hle.ic a y (hide_IC h)
  refine ⟨h.1, h2, h3, fun i b hi hl => ?_, h5⟩
  cases hs : S i with
  | true => rw [(un_hid hs).1] at hi; rw [(un_hid hs).2]; exact h.2.2.2.1 i b hi hl
  | false => rw [(un_see hs).1] at hi; rw [(un_see hs).2]; exact h4 i b hi hl
theorem un_IC_Y {a : Addr} {y : Value} (h : Y.IC a y) : (unhide S X Y).IC a y := by
  obtain ⟨h1, h2, h3, h4, h5⟩ := h
  rw [un_w0 hX hS hle hY, hle.oldeq] at h1
  have fin : (X.w.heap.size ≤ a.block ∨ Y.lent a.block) → (unhide S X Y).IC a y := fun hb => by
    obtain ⟨g1, g2⟩ := un_apart hX hS hle hY hb
    refine ⟨g2.imp id .inl, h2, h3, fun i b hi hl => ?_, h5⟩
    cases hs : S i with
    | true => rw [(un_hid hs).1] at hi; rw [(un_hid hs).2]; exact g1 i b hs hi hl
    | false => rw [(un_see hs).1] at hi; rw [(un_see hs).2]; exact h4 i b hi hl
  rcases h1 with h1 | h1 | h1
  · exact fin (.inl h1)
  · exact fin (.inr h1)
  · exact un_IC_X hX hS hle hY h1

theorem unhide_le : X.le (unhide S X Y) := by
  refine ⟨fun a y h => un_IC_X hX hS hle hY h, fun i b hi hl => ?_, fun i row l hi => ?_, fun i t v hi => ?_, rfl, rfl, rfl⟩
  · cases hs : S i with
    | true => exact ⟨⟨b, by rw [(un_hid hs).1]; exact hi, hl⟩, (un_hid hs).2⟩
    | false =>
      rw [(un_see hs).1, (un_see hs).2]
      exact hle.loc i b (by rw [hide_see hs]; exact hi) hl
  · cases hs : S i with
    | true => exact ⟨l, by rw [(un_hid hs).1]; exact hi, rfl⟩
    | false =>
      rw [(un_see hs).1]
      exact hle.arr i row l (by rw [hide_see hs]; exact hi)
  · cases hs : S i with
    | true => obtain ⟨b, h1, h2⟩ := hS i hs; rw [hi] at h1; injection h1 with h1; subst h1; cases h2
    | false =>
      obtain ⟨v', h1, h2, h3⟩ := hle.tok i t v (by rw [hide_see hs]; exact hi)
      refine ⟨v', by rw [(un_see hs).1]; exact h1, h2, fun e => ?_⟩
      obtain ⟨g1, g2⟩ := h3 e
      refine ⟨by rw [(un_see hs).2]; exact g1, fun e p q ht => ?_⟩
      obtain ⟨q1, q2, q3⟩ := g2 e p q ht
      exact ⟨⟨hs, q1⟩, by rw [(un_see hs).2]; exact q2, by rw [(un_see hs).2]; exact q3⟩

theorem VRc.unhide : ∀ (c : AC) (v : Value), (∀ i ∈ idsC c, S i = false) → VRc Y c v → VRc (Go.Eng.unhide S X Y) c v
  | .unk, _, _, h => h
  | .int _ _, _, _, h => h
  | .bool _, _, _, h => h
  | .str _, _, _, h => h
  | .sl row l sm, v, hi, ⟨A, n, cap, e, hn, hc, hmx, hl, hs⟩ => by
    refine ⟨A, n, cap, e, hn, hc, hmx, hl.imp id fun ⟨b, o, hA, hh⟩ => ⟨b, o, hA, fun j x hj => RelT.mono row x (fun k y => un_IC_Y hX hS hle hY) (fun a y => un_IC_Y hX hS hle hY) (hh j x hj)⟩, ?_⟩
    cases sm with
    | shared => trivial
    | full => exact hs
    | nn => exact hs
    | own i ver =>
      obtain ⟨e, v0, h1, h2, h3⟩ := hs
      have hz := hi i (by simp [idsC])
      exact ⟨e, v0, by rw [(un_see hz).1]; exact h1, h2, fun ev => (h3 ev).imp id fun ⟨ha, q1, q2, q3⟩ => ⟨by rw [(un_see hz).2]; exact ha, ⟨hz, q1⟩, by rw [(un_see hz).2]; exact q2, by rw [(un_see hz).2]; exact q3⟩⟩
  | .nils, _, _, h => h
  | .nilz, _, _, h => h
  | .nilp, _, _, h => h
  | .nilf, _, _, h => h
  | .nilm, _, _, h => h
  | .ptr i off, v, hi, ⟨⟨b, hb, hl⟩, e⟩ => ⟨⟨b, by rw [(un_see (hi i (by simp [idsC]))).1]; exact hb, hl⟩, by rw [(un_see (hi i (by simp [idsC]))).2]; exact e⟩
  | .pti i off n len, v, hi, ⟨⟨b, hb, hl⟩, e⟩ => ⟨⟨b, by rw [(un_see (hi i (by simp [idsC]))).1]; exact hb, hl⟩, by rw [(un_see (hi i (by simp [idsC]))).2]; exact e⟩
  | .elp row l i off, v, _, ⟨hlt, b, o, e, hh⟩ => ⟨hlt, b, o, e, fun x hx => RelT.mono row x (fun k y => un_IC_Y hX hS hle hY) (fun a y => un_IC_Y hX hS hle hY) (hh x hx)⟩
  | .msl i off len, v, hi, ⟨row, l, cap, hb, e⟩ => ⟨row, l, cap, by rw [(un_see (hi i (by simp [idsC]))).1]; exact hb, by rw [(un_see (hi i (by simp [idsC]))).2]; exact e⟩
  | .csl i off len cap, v, hi, ⟨⟨b, hb, hl⟩, e⟩ => ⟨⟨b, by rw [(un_see (hi i (by simp [idsC]))).1]; exact hb, hl⟩, by rw [(un_see (hi i (by simp [idsC]))).2]; exact e⟩
  | .asl row i off len cap, v, hi, ⟨l, hb, e⟩ => ⟨l, by rw [(un_see (hi i (by simp [idsC]))).1]; exact hb, by rw [(un_see (hi i (by simp [idsC]))).2]; exact e⟩
  | .ael row i j d, v, hi, ⟨l, hb, e⟩ => ⟨l, by rw [(un_see (hi i (by simp [idsC]))).1]; exact hb, by rw [(un_see (hi i (by simp [idsC]))).2]; exact e⟩
  | .mth f i off, v, hi, ⟨⟨b, hb, hl⟩, e⟩ => ⟨⟨b, by rw [(un_see (hi i (by simp [idsC]))).1]; exact hb, hl⟩, by rw [(un_see (hi i (by simp [idsC]))).2]; exact e⟩
  | .mref i, v, hi, ⟨⟨b, hb, hl⟩, e⟩ => ⟨⟨b, by rw [(un_see (hi i (by simp [idsC]))).1]; exact hb, hl⟩, by rw [(un_see (hi i (by simp [idsC]))).2]; exact e⟩
  | .fn f caps, v, hi, ⟨c, e, hs, hh⟩ => ⟨c, e, hs, fun j p hp => by
      obtain ⟨⟨b, hb, hl⟩, e'⟩ := hh j p hp
      have hz := hi p.1 (by simp only [idsC]; exact List.mem_map_of_mem (List.mem_of_getElem? hp))
      exact ⟨⟨b, by rw [(un_see hz).1]; exact hb, hl⟩, by rw [(un_see hz).2]; exact e'⟩⟩
theorem VRcs.unhide {cs : List AC} {vs : List Value} (hi : ∀ i ∈ cs.flatMap idsC, S i = false) (h : PW (VRc Y) cs vs) : PW (VRc (Go.Eng.unhide S X Y)) cs vs :=
  ⟨h.1, fun j c y hc hy => VRc.unhide hX hS hle hY c y (fun i hi' => hi i (List.mem_flatMap.2 ⟨c, List.mem_of_getElem? hc, hi'⟩)) (h.2 j c y hc hy)⟩
theorem VRp.unhide : ∀ (p : Bool × List AC) (v : Value), (∀ i ∈ p.2.flatMap idsC, S i = false) → VRp Y p v → VRp (Go.Eng.unhide S X Y) p v
  | (true, cs), v, hi, ⟨ar, e, h⟩ => ⟨ar, e, VRcs.unhide hX hS hle hY hi h⟩
  | (false, cs), v, hi, ⟨c, e, h⟩ => ⟨c, e, VRc.unhide hX hS hle hY c v (fun i hi' => hi i (by subst e; simpa using hi')) h⟩
theorem VR.unhide : ∀ (c : AV) (v : Value), (∀ i ∈ idsV c, S i = false) → VR Y c v → VR (Go.Eng.unhide S X Y) c v
  | .one c, v, hi, h => VRc.unhide hX hS hle hY c v hi h
  | .agg cs, v, hi, h => VRp.unhide hX hS hle hY (true, cs) v hi h
  | .tup vs, v, hi, ⟨arr, e, h⟩ => ⟨arr, e, h.1, fun j c y hc hy => VRp.unhide hX hS hle hY c y (fun i hi' => hi i (List.mem_flatMap.2 ⟨c, List.mem_of_getElem? hc, hi'⟩)) (h.2 j c y hc hy)⟩
theorem BRel.unhide {i : Nat} {b : AB} (hs : S i = false) (hi : ∀ j ∈ idsB b, S j = false) (h : BRel Y i b) : BRel (Go.Eng.unhide S X Y) i b := by
  have hφ : (Go.Eng.unhide S X Y).φ i = Y.φ i := (un_see hs).2
  cases b with
  | cells cs =>
    obtain ⟨c, t, h1, h2⟩ := h
    exact ⟨c, t, by rw [hφ]; exact h1, VRcs.unhide hX hS hle hY hi h2⟩
  | arr row l =>
    obtain ⟨c, t, h1, h2, h3⟩ := h
    exact ⟨c, t, by rw [hφ]; exact h1, h2, fun j x hj => RelT.mono row x (fun k y h => h) (fun a y => un_IC_Y hX hS hle hY) (h3 j x hj)⟩
  | tok e v => trivial
  | obj o =>
    show _ = some o
    rw [hφ]; exact h
  | mp kt vt ka va l =>
    obtain ⟨hf, es, clock, h1, h2, h3⟩ := h
    refine ⟨hf, es, clock, by rw [hφ]; exact h1, h2, fun j p e hp he => ?_⟩
    obtain ⟨g1, us, g2, g3, g4⟩ := h3 j p e hp he
    exact ⟨g1, us, g2, g3, RelT.mono vt p.2 (fun k y h => h) (fun a y => un_IC_Y hX hS hle hY) g4⟩

theorem HRel.unhide (hs : ∀ i b, S i = false → Y.H i = some b → ∀ j ∈ idsB b, S j = false) : HRel (Go.Eng.unhide S X Y) := by
  have hle' := unhide_le hX hS hle hY
  have apart : ∀ i b j, S i = true → X.H i = some b → b.loc = true → (X.w.heap.size ≤ Y.φ j ∨ Y.lent (Y.φ j)) → X.φ i ≠ Y.φ j := fun i b j h1 h2 h3 h4 => (un_apart hX hS hle hY h4).1 i b h1 h2 h3
  refine ⟨fun i j b c hi hj hb hc hne => ?_, fun i j hi hj hne => ?_, fun i b j hi hb hj => ?_, fun i b hi hb => ?_, fun i hi => ?_, fun i b hi hb => ?_, fun i hi => ?_, fun i hi => ?_, hY.frlt, fun i b hi => ?_, fun k hk hl => ?_, ?_, ?_, ?_, Nat.le_trans hX.size (un_size (Y := Y) hX hS hle hY), fun a y h => un_IC_X hX hS hle hY (hX.old a y h)⟩
  · cases hsi : S i with
    | true =>
      rw [(un_hid hsi).1] at hi
      rw [(un_hid hsi).2]
      cases hsj : S j with
      | true => rw [(un_hid hsj).1] at hj; rw [(un_hid hsj).2]; exact hX.inj i j b c hi hj hb hc hne
      | false => rw [(un_see hsj).1] at hj; rw [(un_see hsj).2]; exact apart i b j hsi hi hb (un_place hX hS hle hY hj hc)
    | false =>
      rw [(un_see hsi).1] at hi
      rw [(un_see hsi).2]
      cases hsj : S j with
      | true => rw [(un_hid hsj).1] at hj; rw [(un_hid hsj).2]; exact fun e => apart j c i hsj hj hc (un_place hX hS hle hY hi hb) e.symm
      | false => rw [(un_see hsj).1] at hj; rw [(un_see hsj).2]; exact hY.inj i j b c hi hj hb hc hne
  · rw [(un_see hi.1).2, (un_see hj.1).2]; exact hY.injt i j hi.2 hj.2 hne
  · rw [(un_see hj.1).2]
    cases hsi : S i with
    | true => rw [(un_hid hsi).1] at hi; rw [(un_hid hsi).2]; exact apart i b j hsi hi hb (un_placet hX hS hle hY hj.2)
    | false => rw [(un_see hsi).1] at hi; rw [(un_see hsi).2]; exact hY.injm i b j hi hb hj.2
  · cases hsi : S i with
    | true => rw [(un_hid hsi).1] at hi; rw [(un_hid hsi).2]; exact hX.place i b hi hb
    | false => rw [(un_see hsi).1] at hi; rw [(un_see hsi).2]; exact (un_apart hX hS hle hY (un_place hX hS hle hY hi hb)).2
  · rw [(un_see hi.1).2]; exact (un_apart hX hS hle hY (un_placet hX hS hle hY hi.2)).2
  · cases hsi : S i with
    | true => rw [(un_hid hsi).1] at hi; rw [(un_hid hsi).2]; exact Nat.lt_of_lt_of_le (hX.lt i b hi hb) (un_size (Y := Y) hX hS hle hY)
    | false => rw [(un_see hsi).1] at hi; rw [(un_see hsi).2]; exact hY.lt i b hi hb
  · rw [(un_see hi.1).2]; exact hY.ltt i hi.2
  · rw [(un_see hi.1).1]; exact hY.tlH i hi.2
  · cases hsi : S i with
    | true =>
      rw [(un_hid hsi).1] at hi
      obtain ⟨b', h1, h2⟩ := hS i hsi
      rw [hi] at h1; injection h1 with h1; subst h1
      exact BRel.mono hle' (un_hid hsi).2 (un_stays hX hS hle hY hsi hi h2) (hX.blk i _ hi)
    | false =>
      rw [(un_see hsi).1] at hi
      exact BRel.unhide hX hS hle hY hsi (hs i b hsi hi) (hY.blk i b hi)
  · have hk' : k < X.w0.heap.size := hk
    have h1 := hY.below k (by rw [un_w0 hX hS hle hY]; exact Nat.lt_of_lt_of_le hk' hX.size) (fun hh => by
      rcases (un_lent_ok hX hS hle hY hh).2 with h | h
      · omega
      · exact hl h)
    rw [un_w0 hX hS hle hY] at h1
    exact h1.trans (hX.below k hk hl)
  · have := hY.os; rw [un_w0 hX hS hle hY] at this; exact this.trans hX.os
  · have := hY.tape; rw [un_w0 hX hS hle hY] at this; exact this.trans hX.tape
  · have := hY.output; rw [un_w0 hX hS hle hY] at this; exact this.trans hX.output
end
end
end
section
open Go Go.RowKit Go.ChangeMaps
variable {P : Program}

/-! ### A map's iterator, which no known block is -/

/-- A block that is none of the known ones. -/
structure Off (X : Ctx) (r : Nat) : Prop where
  lt : r < X.w.heap.size
  loc : ∀ i b, X.H i = some b → b.loc = true → X.φ i ≠ r
  tok : ∀ i, X.tl i → X.φ i ≠ r

theorem setBlock_other (w : World) {r k : Nat} (o : Obj) (h : k ≠ r) : (setBlock w r o).heap[k]? = w.heap[k]? := by
  simp only [setBlock]
  rw [Array.getElem?_setIfInBounds, if_neg (fun e => h e.symm)]
theorem setBlock_same (w : World) {r : Nat} (o : Obj) (h : r < w.heap.size) : (setBlock w r o).heap[r]? = some o := by
  simp only [setBlock]
  rw [Array.getElem?_setIfInBounds, if_pos rfl, if_pos h]
theorem setBlock_size (w : World) (r : Nat) (o : Obj) : (setBlock w r o).heap.size = w.heap.size := by simp [setBlock]

/-- The known memory where an unknown block is set. -/
def Ctx.setW (X : Ctx) (w' : World) : Ctx := { X with w := w' }

section
variable {X : Ctx} {r : Nat} {w' : World} (hX : HRel X) (hA : Off X r) (hnc : ∀ o, X.w.cell? ⟨r, o, none⟩ = none) (hr0 : X.w0.heap.size ≤ r ∨ X.lent r) (hk : ∀ k, k ≠ r → w'.heap[k]? = X.w.heap[k]?) (hsz : w'.heap.size = X.w.heap.size)
  (hos : w'.os = X.w.os) (htp : w'.tape = X.w.tape) (hou : w'.output = X.w.output)
include hX hA hnc hk

theorem setW_IC {a : Addr} {y : Value} (h : X.IC a y) : (X.setW w').IC a y := by
  obtain ⟨h1, h2, h3, h4, h5⟩ := h
  have hne : a.block ≠ r := fun e => by
    obtain ⟨b, o, s⟩ := a
    simp only at e h2
    subst e; subst h2
    rw [hnc o] at h3; cases h3
  exact ⟨h1, h2, (World.cell?_of_block (hk _ hne)).trans h3, h4, h5⟩
theorem setW_le : X.le (X.setW w') where
  ic a y h := setW_IC hX hA hnc hk h
  loc i b h hm := ⟨⟨b, h, hm⟩, rfl⟩
  arr i row l h := ⟨l, h, rfl⟩
  tok i t v h := ⟨v, h, Nat.le_refl _, fun _ => ⟨rfl, fun e p q ⟨t1, t2, c, mk, t3, t4⟩ => ⟨t1, t2, c, mk, (hk _ (hA.tok i t1)).trans t3, t4⟩⟩⟩
  w0 := rfl
  lent := rfl
  oldeq := rfl
include hr0 hsz hos htp hou
theorem setW_rel : HRel (X.setW w') where
  inj := hX.inj
  injt := hX.injt
  injm := hX.injm
  place := hX.place
  placet := hX.placet
  lt i b hi hl := by have := hX.lt i b hi hl; show _ < w'.heap.size; rw [hsz]; exact this
  ltt i hi := by have := hX.ltt i hi; show _ < w'.heap.size; rw [hsz]; exact this
  tlH := hX.tlH
  frlt b e h := by have := hX.frlt b e h; show _ < w'.heap.size; rw [hsz]; exact this
  blk i b hi := by
    cases hl : b.loc with
    | true => exact BRel.mono (setW_le hX hA hnc hk) rfl (hk _ (hA.loc i b hi hl)) (hX.blk i b hi)
    | false => cases b <;> first | trivial | cases hl
  below k hk1 hk2 := by
    have hne : k ≠ r := fun e => by
      subst e
      rcases hr0 with h | h
      · have : k < X.w0.heap.size := hk1
        omega
      · exact hk2 h
    exact (hk k hne).trans (hX.below k hk1 hk2)
  os := hos.trans hX.os
  tape := htp.trans hX.tape
  output := hou.trans hX.output
  size := by have := hX.size; show X.w0.heap.size ≤ w'.heap.size; rw [hsz]; exact this
  old a y h := setW_IC hX hA hnc hk (hX.old a y h)
end

section
variable {S : Nat → Bool} {X Y : Ctx} {r : Nat} (hX : HRel X) (hS : ∀ i, S i = true → ∃ b, X.H i = some b ∧ b.loc = true) (hle : (hide S X).le Y) (hY : HRel Y) (hA : Off X r)
include hX hS hle hY hA
theorem off_lent : ¬ Y.lent r := fun h => by
  rw [un_lent hX hS hle hY] at h
  rcases h with ⟨k, c, h1, h2, h3, h4⟩ | ⟨k, h1, h4⟩
  · exact hA.loc k c h2 h3 h4.symm
  · exact hA.tok k h1 h4.symm
/-- The round left the unknown block as it was. -/
theorem off_stays : Y.w.heap[r]? = X.w.heap[r]? := by
  have := hY.below r (by rw [un_w0 hX hS hle hY]; exact hA.lt) (off_lent hX hS hle hY hA)
  rw [un_w0 hX hS hle hY] at this; exact this
theorem off_unhide : Off (unhide S X Y) r := by
  have hn := off_lent hX hS hle hY hA
  have far : ∀ b, (X.w.heap.size ≤ b ∨ Y.lent b) → b ≠ r := fun b h e => by
    subst e
    rcases h with h | h
    · have := hA.lt; omega
    · exact hn h
  refine ⟨Nat.lt_of_lt_of_le hA.lt (un_size (Y := Y) hX hS hle hY), fun i b hi hl => ?_, fun i hi => ?_⟩
  · cases hs : S i with
    | true => rw [(un_hid hs).1] at hi; rw [(un_hid hs).2]; exact hA.loc i b hi hl
    | false => rw [(un_see hs).1] at hi; rw [(un_see hs).2]; exact far _ (un_place hX hS hle hY hi hl)
  · rw [(un_see hi.1).2]; exact far _ (un_placet hX hS hle hY hi.2)
end

/-- What the loop's head asks of a map and its iterator, so many entries handed out. -/
structure Iter (w : World) (bm r : Nat) (es : Array MapEntry) (clock : Nat) (seen : Array Nat) : Prop where
  map : w.heap[bm]? = some (.map es clock)
  it : w.heap[r]? = some (.mapIter (some bm) clock seen clock)
  ok : MapOk es clock es.size

theorem Iter.hold {w : World} {bm r : Nat} {es : Array MapEntry} {clock : Nat} {seen : Array Nat} (h : Iter w bm r es clock seen) : ∀ e ∈ es.toList, e.born < clock := fun e he => h.ok.2.1 _ (List.mem_map_of_mem he)
theorem Iter.cell {w : World} {bm r : Nat} {es : Array MapEntry} {clock : Nat} {seen : Array Nat} (h : Iter w bm r es clock seen) (o : Nat) : w.cell? ⟨r, o, none⟩ = none := by
  simp [World.cell?, h.it]

theorem flat_rel {IC : Addr → Value → Prop} : ∀ (t : CT) (v : t.den), t.flat = true → RelT t v (fun k y => (t.vals v)[k]? = some y) IC
  | .int _, _, _ => rfl
  | .bool, _, _ => rfl
  | .str, _, _ => rfl
  | .sl _, _, h => by cases h
  | .unit, _, _ => trivial
  | .pair c cs, v, h => by
    have h' : c.flat = true ∧ cs.flat = true := by simpa [CT.flat] using h
    have hl := CT.vals_length c v.1 h'.1
    refine ⟨RelT.mono c v.1 (fun k y hk => ?_) (fun _ _ hh => hh) (flat_rel c v.1 h'.1), RelT.mono cs v.2 (fun k y hk => ?_) (fun _ _ hh => hh) (flat_rel cs v.2 h'.2)⟩
    · have hlt := (List.getElem?_eq_some_iff.1 hk).1
      simp only [CT.vals]
      rw [List.getElem?_append_left hlt]; exact hk
    · simp only [CT.vals]
      rw [List.getElem?_append_right (by omega), hl, Nat.add_sub_cancel_left]; exact hk

/-- What an entry's key and value are, of the map's list. -/
theorem entry_rel {X : Ctx} {i : Nat} {kt vt : CT} {ka va : Bool} {l : List (kt.den × vt.den)} (hb : BRel X i (.mp kt vt ka va l)) {es : Array MapEntry} {clock : Nat} (hm : X.w.heap[X.φ i]? = some (.map es clock)) {k : Nat} {p : kt.den × vt.den} {e : MapEntry} (hp : l[k]? = some p) (he : es[k]? = some e)
    (hka : ka = true ∨ kt.width = 1) (hva : va = true ∨ vt.width = 1) : VR X (.tup [(ka, kt.cells p.1), (va, vt.cells p.2)]) (.tuple #[e.key, e.val]) := by
  obtain ⟨hf, es', clock', h1, h2, h3⟩ := hb
  rw [hm] at h1
  injection h1 with h1
  injection h1 with e1 e2
  subst e1; subst e2
  obtain ⟨g1, us, g2, g3, g4⟩ := h3 k p e hp he
  rw [g1, g2]
  have hl := CT.vals_length kt p.1 hf
  exact ⟨_, rfl, PW.cons (tup_rel (rel_pw hl (flat_rel kt p.1 hf)) (hka.imp id hl.trans)) (PW.cons (tup_rel (rel_pw g3 g4) (hva.imp id g3.trans)) PW.nil)⟩

/-- An entry that is left has a place in the map's list, which was not handed out. -/
theorem left_at {X : Ctx} {i : Nat} {kt vt : CT} {ka va : Bool} {l : List (kt.den × vt.den)} (hb : BRel X i (.mp kt vt ka va l)) {es : Array MapEntry} {clock : Nat} (hm : X.w.heap[X.φ i]? = some (.map es clock)) {seen : Array Nat} {e : MapEntry} (he : e ∈ (leftOf es seen).toList) :
    ∃ (k : Nat) (p : kt.den × vt.den), es[k]? = some e ∧ l[k]? = some p ∧ seen.contains e.born = false := by
  obtain ⟨h1, h2⟩ := mem_left he
  obtain ⟨k, hk⟩ := List.getElem?_of_mem h1
  have hk' : es[k]? = some e := by simpa using hk
  obtain ⟨hf, es', clock', g1, g2, g3⟩ := hb
  rw [hm] at g1
  injection g1 with g1
  injection g1 with e1 e2
  subst e1; subst e2
  have hlt : k < l.length := by
    have := (Array.getElem?_eq_some_iff.1 hk').1
    have := g2.1
    omega
  exact ⟨k, l[k], hk', List.getElem?_eq_getElem hlt, h2⟩

/-! ### A state in which some blocks are hidden, and back -/
def hideL (S : Nat → Bool) : Nat → List AB → List AB
  | _, [] => []
  | i, b :: r => (if S i then .tok 0 0 else b) :: hideL S (i + 1) r
theorem hideL_get {S : Nat → Bool} : ∀ (hp : List AB) (i k : Nat), (hideL S i hp)[k]? = if S (i + k) then (hp[k]?).map (fun _ => AB.tok 0 0) else hp[k]?
  | [], i, k => by cases S (i + k) <;> rfl
  | b :: r, i, 0 => by
    show some _ = _
    simp only [Nat.add_zero, List.getElem?_cons_zero, Option.map_some]
    cases S i <;> rfl
  | b :: r, i, k + 1 => by
    have := hideL_get (S := S) r (i + 1) k
    rw [show i + 1 + k = i + (k + 1) by omega] at this
    exact this
/-- The hidden blocks as they were, the others as they are. -/
def showL (S : Nat → Bool) : Nat → List AB → List AB → List AB
  | _, _, [] => []
  | i, [], b :: r => b :: r
  | i, c :: q, b :: r => (if S i then c else b) :: showL S (i + 1) q r
theorem showL_get {S : Nat → Bool} : ∀ (q r : List AB) (i k : Nat), (∀ j, S (i + j) = true → j < q.length ∧ j < r.length) → (showL S i q r)[k]? = if S (i + k) then q[k]? else r[k]?
  | q, [], i, k, h => by
    cases hs : S (i + k) with
    | true => have := (h k hs).2; simp at this
    | false => cases q <;> rfl
  | [], b :: r, i, k, h => by
    cases hs : S (i + k) with
    | true => have := (h k hs).1; simp at this
    | false => rfl
  | c :: q, b :: r, i, 0, h => by
    show some _ = _
    simp only [Nat.add_zero, List.getElem?_cons_zero]
    cases S i <;> rfl
  | c :: q, b :: r, i, k + 1, h => by
    have := showL_get (S := S) q r (i + 1) k (fun j hj => by
      have := h (j + 1) (by rw [← hj]; congr 1; omega)
      simp only [List.length_cons] at this
      omega)
    rw [show i + 1 + k = i + (k + 1) by omega] at this
    exact this

theorem Rel.hide {S : Nat → Bool} {X : Ctx} {σ : St} {a : Act} (h : Rel X σ a) (hs : ∀ i b, S i = false → σ.hp[i]? = some b → ∀ j ∈ idsB b, S j = false) {tm : List (Nat × AV)} (ht : ∀ t v, lookT tm t = some v → lookT σ.tm t = some v ∧ ∀ i ∈ idsV v, S i = false) (os : List Bool) :
    Rel (Go.Eng.hide S X) (headS σ.nt tm (hideL S 0 σ.hp) os) a := by
  have hH : X.H = fun i => σ.hp[i]? := h.heap
  refine ⟨h.hrel.hide fun i b h1 h2 => hs i b h1 (by rw [hH] at h2; exact h2), ?_, h.size, h.defers, fun t v hv => ?_, fun t s w v hv => by cases hv⟩
  · funext k
    show (if S k then (X.H k).map fun _ => AB.tok 0 0 else X.H k) = (hideL S 0 σ.hp)[k]?
    rw [hideL_get, hH, Nat.zero_add]
  · obtain ⟨h1, h2⟩ := ht t v hv
    exact VR.hide v _ h2 (h.tm t v h1)

theorem Rel.unhide {S : Nat → Bool} {X Y : Ctx} {hp : List AB} (hX : HRel X) (hH : X.H = fun i => hp[i]?) (hS : ∀ i, S i = true → ∃ b, hp[i]? = some b ∧ b.loc = true) (hle : (Go.Eng.hide S X).le Y) {σ : St} {a : Act} (h : Rel Y σ a)
    (hs : ∀ i b, S i = false → σ.hp[i]? = some b → ∀ j ∈ idsB b, S j = false) {tm : List (Nat × AV)} (ht : ∀ t v, lookT tm t = some v → (lookT σ.tm t = some v ∧ ∀ i ∈ idsV v, S i = false) ∨ VR X v (a.tmps.getD t undef)) (os : List Bool) :
    X.le (Go.Eng.unhide S X Y) ∧ Rel (Go.Eng.unhide S X Y) (headS σ.nt tm (showL S 0 hp σ.hp) os) a := by
  have hYH : Y.H = fun i => σ.hp[i]? := h.heap
  have hS' : ∀ i, S i = true → ∃ b, X.H i = some b ∧ b.loc = true := fun i hi => by rw [hH]; exact hS i hi
  have hle' := unhide_le hX hS' hle h.hrel
  refine ⟨hle', HRel.unhide hX hS' hle h.hrel (fun i b h1 h2 => hs i b h1 (by rw [hYH] at h2; exact h2)), ?_, h.size, h.defers, fun t v hv => ?_, fun t s w v hv => by cases hv⟩
  · funext k
    show (if S k then X.H k else Y.H k) = (showL S 0 hp σ.hp)[k]?
    rw [showL_get hp σ.hp 0 k, Nat.zero_add, hH, hYH]
    intro j hj
    rw [Nat.zero_add] at hj
    obtain ⟨b, h1, h2⟩ := hS j hj
    refine ⟨(List.getElem?_eq_some_iff.1 h1).1, ?_⟩
    have h3 : (Go.Eng.hide S X).H j = some (.tok 0 0) := by simp only [Go.Eng.hide, hj, if_true, hH, h1]; rfl
    obtain ⟨v', h4, _⟩ := hle.tok j 0 0 h3
    rw [hYH] at h4
    exact (List.getElem?_eq_some_iff.1 h4).1
  · rcases ht t v hv with ⟨h1, h2⟩ | h1
    · exact VR.unhide hX hS' hle h.hrel v _ h2 (h.tm t v h1)
    · exact VR.mono hle' v _ h1
end
section
open Go Go.RowKit Go.ChangeMaps
variable {P : Program}

/-! ### Another account of a block, where it lies -/

def Ctx.setH (X : Ctx) (j : Nat) (b : AB) : Ctx := { X with H := upd X.H j (some b) }

section
variable {X : Ctx} {j : Nat} {b0 b : AB} (h0 : X.H j = some b0) (l0 : b0.loc = true) (l1 : b.loc = true)
include h0 l0
theorem setH_IC {a : Addr} {y : Value} (h : X.IC a y) : (X.setH j b).IC a y :=
  ⟨h.1, h.2.1, h.2.2.1, fun i c hc hl => by
    by_cases e : i = j
    · subst e; exact h.2.2.2.1 i b0 h0 l0
    · simp only [Ctx.setH, upd_other _ _ e] at hc; exact h.2.2.2.1 i c hc hl, h.2.2.2.2⟩
include l1
theorem setH_le (hna : ∀ row l, b0 ≠ .arr row l) : X.le (X.setH j b) := by
  refine ⟨fun a y h => setH_IC h0 l0 h, fun i c hc hl => ?_, fun i row l hi => ?_, fun i t v hi => ?_, rfl, rfl, rfl⟩
  · by_cases e : i = j
    · subst e; exact ⟨⟨b, by simp only [Ctx.setH, upd_same], l1⟩, rfl⟩
    · exact ⟨⟨c, by simp only [Ctx.setH, upd_other _ _ e]; exact hc, hl⟩, rfl⟩
  · have e : i ≠ j := fun e => by subst e; rw [h0] at hi; injection hi with hi; exact hna _ _ hi
    exact ⟨l, by simp only [Ctx.setH, upd_other _ _ e]; exact hi, rfl⟩
  · have e : i ≠ j := fun e => by subst e; rw [h0] at hi; injection hi with hi; subst hi; cases l0
    exact ⟨v, by simp only [Ctx.setH, upd_other _ _ e]; exact hi, Nat.le_refl _, fun _ => ⟨rfl, fun _ _ _ h => h⟩⟩
theorem setH_rel (hX : HRel X) (hna : ∀ row l, b0 ≠ .arr row l) (hb : BRel (X.setH j b) j b) : HRel (X.setH j b) := by
  have hle := setH_le (b := b) h0 l0 l1 hna
  have old : ∀ i c, (X.setH j b).H i = some c → c.loc = true → ∃ d, X.H i = some d ∧ d.loc = true := fun i c hc hl => by
    by_cases e : i = j
    · subst e; exact ⟨b0, h0, l0⟩
    · simp only [Ctx.setH, upd_other _ _ e] at hc; exact ⟨c, hc, hl⟩
  refine ⟨fun i k c d hc hd lc ld => ?_, hX.injt, fun i c k hc hl => ?_, fun i c hc hl => ?_, hX.placet, fun i c hc hl => ?_, hX.ltt, fun i hi => ?_, hX.frlt, fun i c hc => ?_, hX.below, hX.os, hX.tape, hX.output, hX.size, fun a y h => setH_IC h0 l0 (hX.old a y h)⟩
  · obtain ⟨c', h1, h2⟩ := old i c hc lc
    obtain ⟨d', h3, h4⟩ := old k d hd ld
    exact hX.inj i k c' d' h1 h3 h2 h4
  · obtain ⟨c', h1, h2⟩ := old i c hc hl
    exact hX.injm i c' k h1 h2
  · obtain ⟨c', h1, h2⟩ := old i c hc hl
    exact hX.place i c' h1 h2
  · obtain ⟨c', h1, h2⟩ := old i c hc hl
    exact hX.lt i c' h1 h2
  · by_cases e : i = j
    · subst e; simp [Ctx.setH, upd_same]
    · simp only [Ctx.setH, upd_other _ _ e]; exact hX.tlH i hi
  · by_cases e : i = j
    · subst e
      simp only [Ctx.setH, upd_same, Option.some.injEq] at hc
      subst hc; exact hb
    · simp only [Ctx.setH, upd_other _ _ e] at hc
      cases hl : c.loc with
      | true => exact BRel.mono hle rfl rfl (hX.blk i c hc)
      | false => cases c <;> first | trivial | cases hl
end

/-- A map shown as the object that it is; and back. -/
theorem mp_obj {X : Ctx} {j : Nat} {kt vt : CT} {ka va : Bool} {l : List (kt.den × vt.den)} (hX : HRel X) (h : X.H j = some (.mp kt vt ka va l)) :
    ∃ es clock, X.w.heap[X.φ j]? = some (.map es clock) ∧ MapOk es clock l.length ∧ X.le (X.setH j (.obj (.map es clock))) ∧ HRel (X.setH j (.obj (.map es clock))) := by
  obtain ⟨hf, es, clock, h1, h2, h3⟩ := hX.blk j _ h
  exact ⟨es, clock, h1, h2, setH_le h rfl rfl (fun _ _ e => by cases e), setH_rel h rfl rfl hX (fun _ _ e => by cases e) h1⟩
theorem obj_mp {X0 X : Ctx} {j : Nat} {kt vt : CT} {ka va : Bool} {l : List (kt.den × vt.den)} (hX0 : HRel X0) (h0 : X0.H j = some (.mp kt vt ka va l)) {es : Array MapEntry} {clock : Nat} (hm : X0.w.heap[X0.φ j]? = some (.map es clock))
    (hle : X0.le X) (hX : HRel X) (h : X.H j = some (.obj (.map es clock))) : X.le (X.setH j (.mp kt vt ka va l)) ∧ HRel (X.setH j (.mp kt vt ka va l)) := by
  have hl := setH_le (b := .mp kt vt ka va l) h rfl rfl (fun _ _ e => by cases e)
  refine ⟨hl, setH_rel h rfl rfl hX (fun _ _ e => by cases e) ?_⟩
  obtain ⟨hf, es', clock', h1, h2, h3⟩ := hX0.blk j _ h0
  rw [hm] at h1
  injection h1 with h1
  injection h1 with e1 e2
  subst e1; subst e2
  have h4 : X.w.heap[X.φ j]? = some (.map es clock) := hX.blk j _ h
  refine ⟨hf, es, clock, h4, h2, fun k p e hp he => ?_⟩
  obtain ⟨g1, us, g2, g3, g4⟩ := h3 k p e hp he
  exact ⟨g1, us, g2, g3, RelT.mono vt p.2 (fun _ _ hh => hh) (fun a y hh => hl.ic a y (hle.ic a y hh)) g4⟩

/-- An object that is known as it is becomes another. -/
theorem obj_step {X : Ctx} (hX : HRel X) {i : Nat} {o o' : Obj} (h : X.H i = some (.obj o)) {w1 : World} (hw : w1 = X.w ∨ w1 = X.w.drew) :
    X.le (X.put i (.obj o') (setBlock w1 (X.φ i) o')) ∧ HRel (X.put i (.obj o') (setBlock w1 (X.φ i) o')) := by
  have hlt := hX.lt i _ h rfl
  have hh : w1.heap = X.w.heap := by rcases hw with rfl | rfl <;> rfl
  have ho : OneBlock X i (setBlock w1 (X.φ i) o') := by
    refine ⟨?_, ?_, ?_, by rw [setBlock_size, hh], fun k hk => by rw [setBlock_other _ _ hk, hh]⟩ <;> rcases hw with rfl | rfl <;> rfl
  have hna : ∀ row l, AB.obj o = .arr row l → ∃ l' : List row.den, AB.obj o' = .arr row l' ∧ l'.length = l.length := fun row l e => by cases e
  refine ⟨put_le hX h rfl rfl ho hna, HRel.put hX h rfl rfl ho hna ?_⟩
  show (setBlock w1 (X.φ i) o').heap[X.φ i]? = some o'
  exact setBlock_same _ _ (by rw [hh]; exact hlt)

/-- 'next' where the iterator and the map are known as they are: nothing is left, or any entry that is left comes out. -/
theorem next_rel {id : Nat} {ops : Array Oper} {o : Oper} {n : Nat} {x : Operand} {Q : Exit → Act → World → Prop} (hn : ops.size = n + 1) (h0 : ops[0]? = some o) (ho : o.op = .next x false) (hg : o.guard = none)
    {X : Ctx} {σ σe σg : St} {a : Act} (hr : Rel X σ a) {i j clock m : Nat} {seen : Array Nat} {es : Array MapEntry} (hx : VR X (.one (.ptr i 0)) (a.eval x)) (hi : X.H i = some (.obj (.mapIter (some (X.φ j)) clock seen clock))) (hj : X.H j = some (.obj (.map es clock))) (hm : MapOk es clock m)
    (he : σ.put o.dst (.tup [(false, [.bool false])]) = some σe) (hgo : ∀ hp', ({ σ with hp := hp' } : St).put o.dst (.tup [(false, [.bool true]), (false, [.unk]), (false, [.unk])]) = some { σg with hp := hp' }) (htg : σ.tg = [])
    (end_ : (leftOf es seen).size = 0 → ∀ a', Rel X σe a' → wpOps P ops Q ((List.range n).map Nat.succ) a' X.w)
    (go : ∀ e ∈ (leftOf es seen).toList, ∀ X' a', X.le X' → X'.H = upd X.H i (some (.obj (.mapIter (some (X.φ j)) clock (seen.push e.born) clock))) → Rel X' { σg with hp := σ.hp.set i (.obj (.mapIter (some (X.φ j)) clock (seen.push e.born) clock)) } a' → wpOps P ops Q ((List.range n).map Nat.succ) a' X'.w) :
    (Code.region id ops false).wp P Q a X.w := by
  have hx' : a.eval x = .pointer (some ⟨X.φ i, 0, none⟩) := hx.2
  have hbi : X.w.heap[X.φ i]? = some (.mapIter (some (X.φ j)) clock seen clock) := hr.hrel.blk i _ hi
  have hbj : X.w.heap[X.φ j]? = some (.map es clock) := hr.hrel.blk j _ hj
  refine wp_next hn h0 ho hg hx' hbi hbj (fun e h => hm.2.1 _ (List.mem_map_of_mem h)) (Nat.le_refl _) (fun h => end_ h _ (hr.put he ?_)) fun e h w1 hw => ?_
  · exact ⟨_, rfl, PW.cons ⟨_, rfl, rfl⟩ PW.nil⟩
  · obtain ⟨h1, h2⟩ := obj_step (o' := .mapIter (some (X.φ j)) clock (seen.push e.born) clock) hr.hrel hi hw
    have hH : X.H = fun k => σ.hp[k]? := hr.heap
    have hlt : i < σ.hp.length := by
      rw [hH] at hi; exact (List.getElem?_eq_some_iff.1 hi).1
    refine go e h _ _ h1 rfl (Rel.put (σ := { σ with hp := σ.hp.set i (.obj (.mapIter (some (X.φ j)) clock (seen.push e.born) clock)) }) ?_ (hgo _) ?_)
    · refine ⟨h2, ?_, hr.size, hr.defers, fun t v hv => VR.mono h1 v _ (hr.tm t v hv), fun t s w v hv => by rw [htg] at hv; cases hv⟩
      funext k
      show upd X.H i _ k = (σ.hp.set i _)[k]?
      by_cases e : k = i
      · subst e; rw [upd_same, List.getElem?_set_self hlt]
      · rw [upd_other _ _ e, List.getElem?_set_ne (fun h => e h.symm), hH]
    · exact ⟨_, rfl, PW.cons ⟨_, rfl, rfl⟩ (PW.cons ⟨_, rfl, trivial⟩ (PW.cons ⟨_, rfl, trivial⟩ PW.nil))⟩

/-- The round's key and value. -/
theorem entry_rel' {id : Nat} {ops : Array Oper} {o : Oper} {n : Nat} {x : Operand} {Q : Exit → Act → World → Prop} (hn : ops.size = n + 1) (h0 : ops[0]? = some o) (ho : o.op = .entry x) (hg : o.guard = none)
    {X : Ctx} {σ σp : St} {a : Act} (hr : Rel X σ a) {i j clock m : Nat} {seen : Array Nat} {es : Array MapEntry} {e : MapEntry} (hx : VR X (.one (.ptr i 0)) (a.eval x)) (hi : X.H i = some (.obj (.mapIter (some (X.φ j)) clock (seen.push e.born) clock))) (hj : X.H j = some (.obj (.map es clock))) (hm : MapOk es clock m) (he : e ∈ es.toList)
    {v : AV} (hv : VR X v (.tuple #[e.key, e.val])) (hp : σ.put o.dst v = some σp) (h : ∀ a', Rel X σp a' → wpOps P ops Q ((List.range n).map Nat.succ) a' X.w) : (Code.region id ops false).wp P Q a X.w :=
  wp_entry hn h0 ho hg (show a.eval x = .pointer (some ⟨X.φ i, 0, none⟩) from hx.2) (hr.hrel.blk i _ hi) (hr.hrel.blk j _ hj) he hm.2.2 (h _ (hr.put hp hv))

theorem ev_rel {X : Ctx} {σ : St} {a : Act} (h : Rel X σ a) {c : Operand} {v : AV} (he : σ.ev [] c = some v) : VR X v (a.eval c) := h.ev (fun g hg => by cases hg) he

/-- A round of a loop over a map, by its pieces. -/
theorem map_round (hmx : P.follows .mixedOrders = true) {kp : KP} {kq : KX} {kh : KH} (hkp : KPok P kp) (hkq : KXok P kq) (hkh : KHok P kh) {lc : LC} {nn : Nat}
    {i1 ie ib i2 : Nat} {ops1 ops2 : Array Oper} {o1 o2 : Oper} {n1 n2 : Nat} {x1 x2 sb : Operand} {R : Code} (hlc : LCok P lc R)
    (hn1 : ops1.size = n1 + 1) (h01 : ops1[0]? = some o1) (ho1 : o1.op = .next x1 false) (hg1 : o1.guard = none) (hn2 : ops2.size = n2 + 1) (h02 : ops2[0]? = some o2) (ho2 : o2.op = .entry x2) (hg2 : o2.guard = none)
    {Q : Exit → Act → World → Prop} {X : Ctx} {σ σe σg : St} {a : Act} (hr : Rel X σ a) {i j clock m : Nat} {seen : Array Nat} {es : Array MapEntry} (hx : VR X (.one (.ptr i 0)) (a.eval x1)) (hi : X.H i = some (.obj (.mapIter (some (X.φ j)) clock seen clock))) (hj : X.H j = some (.obj (.map es clock))) (hm : MapOk es clock m)
    (he : σ.put o1.dst (.tup [(false, [.bool false])]) = some σe) (hgo : ∀ hp', ({ σ with hp := hp' } : St).put o1.dst (.tup [(false, [.bool true]), (false, [.unk]), (false, [.unk])]) = some { σg with hp := hp' }) (htg : σ.tg = [])
    (end_ : (leftOf es seen).size = 0 → ∃ σ1, opsRun P kp kh ops1 ((List.range n1).map Nat.succ) σe = some σ1 ∧ (∀ c ∈ σ1.cs, c = true) ∧ σ1.ev [] sb = some (.one (.bool false)) ∧ ∀ X' a', X.le X' → Rel X' σ1 a' → Q (.exit ie) a' X'.w)
    (go : ∀ e ∈ (leftOf es seen).toList, ∃ σ1 v σp σ2 e3 σ3, opsRun P kp kh ops1 ((List.range n1).map Nat.succ) { σg with hp := σ.hp.set i (.obj (.mapIter (some (X.φ j)) clock (seen.push e.born) clock)) } = some σ1 ∧ (∀ c ∈ σ1.cs, c = true) ∧ σ1.ev [] sb = some (.one (.bool true)) ∧
      σ1.ev [] x2 = some (.one (.ptr i 0)) ∧ σ1.hp[i]? = some (.obj (.mapIter (some (X.φ j)) clock (seen.push e.born) clock)) ∧ σ1.hp[j]? = some (.obj (.map es clock)) ∧ (∀ X', X.le X' → VR X' v (.tuple #[e.key, e.val])) ∧ σ1.put o2.dst v = some σp ∧
      opsRun P kp kh ops2 ((List.range n2).map Nat.succ) σp = some σ2 ∧ (∀ c ∈ σ2.cs, c = true) ∧ exec P kp kq kh lc nn R σ2 = some (e3, σ3) ∧ (∀ c ∈ σ3.cs, c = true) ∧ (e3 = .normal ∨ e3 = .exit ib) ∧ ∀ X' a', X.le X' → Rel X' σ3 a' → Q .normal a' X'.w) :
    (Code.seq (.region i1 ops1 false) (.seq (.cond sb .skip (.exit ie)) (.block ib (.seq (.region i2 ops2 false) R)))).wp P Q a X.w := by
  refine wp_seq (next_rel hn1 h01 ho1 hg1 hr hx hi hj hm he hgo htg (fun h a' hr' => ?_) fun e hel X1 a1 hle1 hH1 hr1 => ?_)
  · obtain ⟨σ1, q1, q2, q3, q4⟩ := end_ h
    refine opsRun_sim hkp hkh _ hr' q1 q2 fun X2 a2 hle2 hr2 => ?_
    exact wp_seq (wp_cond_false (ev_rel hr2 q3) (wp_exit (q4 X2 a2 hle2 hr2)))
  · obtain ⟨σ1, v, σp, σ2, e3, σ3, q1, q2, q3, q4, q5, q6, q7, q8, q9, q10, q11, q12, q13, q14⟩ := go e hel
    refine opsRun_sim hkp hkh _ hr1 q1 q2 fun X2 a2 hle2 hr2 => ?_
    have hle02 := hle1.trans hle2
    have hφ : X2.φ j = X.φ j := (hle02.loc j _ hj rfl).2
    have hH2 : X2.H = fun k => σ1.hp[k]? := hr2.heap
    refine wp_seq (wp_cond_true (ev_rel hr2 q3) (wp_skip (wp_block (wp_seq ?_))))
    refine entry_rel' (m := m) hn2 h02 ho2 hg2 hr2 (ev_rel hr2 q4) (by rw [hH2, hφ]; exact q5) (by rw [hH2]; exact q6) hm (mem_left hel).1 (q7 X2 hle02) q8 fun a3 hr3 => ?_
    refine opsRun_sim hkp hkh _ hr3 q9 q10 fun X4 a4 hle4 hr4 => ?_
    refine exec_sim hmx hkp hkq hkh R hlc q11 q12 hr4 fun X5 a5 hle5 hr5 => ?_
    have := q14 X5 a5 (hle02.trans (hle4.trans hle5)) hr5
    rcases q13 with rfl | rfl
    · exact this
    · simp only [XE.out, Exit.inBlock, if_true]; exact this

/-- A loop whose every round goes on from less, or ends it. -/
theorem loop_by {body : Code} {S : Type} {Inv : S → Act → World → Prop} {mu : S → Nat} {Q : Exit → Act → World → Prop}
    (step : ∀ s a w, Inv s a w → body.wp P (Exit.then (fun a' w' => ∃ s', Inv s' a' w' ∧ mu s' < mu s) Q) a w) : ∀ (n : Nat) (s : S) (a : Act) (w : World), mu s < n → Inv s a w → LoopAt P body Q a w
  | 0, _, _, _, h, _ => by omega
  | n + 1, s, a, w, h, hI => by
    refine LoopAt.round fun b k cs => ?_
    obtain ⟨e, a', w', hq, harr⟩ := step s a w hI b k cs
    refine ⟨e, a', w', ?_, harr⟩
    cases e with
    | normal =>
      obtain ⟨s', h1, h2⟩ := hq
      exact loop_by step n s' a' w' (by omega) h1
    | exit i => exact hq
    | goto l => exact hq
    | ret => exact hq
    | panic c => exact hq
    | outgrown => exact hq
end
end Go.Eng
