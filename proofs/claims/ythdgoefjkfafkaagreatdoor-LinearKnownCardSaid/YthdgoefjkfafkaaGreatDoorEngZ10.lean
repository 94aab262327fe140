import Derived.Maps.RangeRun
import Derived.Test.YthdgoefjkfafkaaGreatDoorEngZ11
set_option linter.unusedVariables false
set_option linter.unusedSectionVars false
namespace Go.Eng
section
open Go Go.RowKit Go.ChangeMaps
variable {P : Program}

/-! ### The head of a round of a range over a map, by hand: 'next' may hand out any entry that is left -/

theorem range_tail (n : Nat) : List.range (n + 1) = 0 :: (List.range n).map Nat.succ := List.range_succ_eq_map

theorem execOp_next {o : Oper} {x : Operand} (ho : o.op = .next x false) (ρ : Operand → Value) (w : World) {v : Value} {w' : World} (h : (Instr.next (ρ x) false o.type).run P w = .ok v w') : (execOp ρ o).run P w = .ok (.value v) w' := by
  obtain ⟨dst, op, type, pos, after, guard⟩ := o
  subst ho
  simp only [execOp, Sem.run_bind, h, Result.andThen_ok, Sem.run_pure]
theorem execOp_entry {o : Oper} {x : Operand} (ho : o.op = .entry x) (ρ : Operand → Value) (w : World) {v : Value} {w' : World} (h : (Instr.entry (ρ x)).run P w = .ok v w') : (execOp ρ o).run P w = .ok (.value v) w' := by
  obtain ⟨dst, op, type, pos, after, guard⟩ := o
  subst ho
  simp only [execOp, Sem.run_bind, h, Result.andThen_ok, Sem.run_pure]
/-- An operation that comes to a value, its tests held. -/
theorem wpOps_value {ops : Array Oper} {Q : Exit → Act → World → Prop} {i : Nat} {l : List Nat} {o : Oper} {a : Act} {w w' : World} {v : Value} (hi : ops[i]? = some o) (hg : o.guard = none)
    (hx : (execOp a.eval o).run P w = .ok (.value v) w') (h : wpOps P ops Q l (a.put o.dst v) w') : wpOps P ops Q (i :: l) a w := by
  simp only [wpOps, hi]
  rw [if_pos (wanted_none hg _)]
  left
  unfold Oper.wp
  rw [hx]
  exact h

section
variable {ops : Array Oper} {o : Oper} {n id : Nat} {x : Operand} {Q : Exit → Act → World → Prop} {a : Act} {w : World} {r bm since c0 : Nat} {seen : Array Nat} {es : Array MapEntry} {clock : Nat}

theorem wp_next (hn : ops.size = n + 1) (h0 : ops[0]? = some o) (ho : o.op = .next x false) (hg : o.guard = none) (hx : a.eval x = .pointer (some ⟨r, 0, none⟩))
    (hr : w.heap[r]? = some (.mapIter (some bm) since seen c0)) (hb : w.heap[bm]? = some (.map es clock)) (hold : ∀ e ∈ es.toList, e.born < since) (hsc : since ≤ c0)
    (hend : (leftOf es seen).size = 0 → wpOps P ops Q ((List.range n).map Nat.succ) (a.put o.dst (.tuple #[.bool false])) w)
    (hgo : ∀ e ∈ (leftOf es seen).toList, ∀ w1 : World, (w1 = w ∨ w1 = w.drew) → wpOps P ops Q ((List.range n).map Nat.succ) (a.put o.dst (.tuple #[.bool true, e.key, e.val])) (setBlock w1 r (.mapIter (some bm) since (seen.push e.born) clock))) :
    (Code.region id ops false).wp P Q a w := by
  refine wp_region ?_
  rw [hn, range_tail]
  rcases run_next_at (P := P) w o.type r bm since c0 seen es clock hr hb hold hsc with ⟨h1, h2⟩ | ⟨e, he, w1, h1, h2⟩
  · exact wpOps_value h0 hg (execOp_next ho _ _ (by rw [hx]; exact h2)) (hend h1)
  · exact wpOps_value h0 hg (execOp_next ho _ _ (by rw [hx]; exact h2)) (hgo e he w1 h1)

theorem wp_entry {e : MapEntry} (hn : ops.size = n + 1) (h0 : ops[0]? = some o) (ho : o.op = .entry x) (hg : o.guard = none) (hx : a.eval x = .pointer (some ⟨r, 0, none⟩))
    (hr : w.heap[r]? = some (.mapIter (some bm) since (seen.push e.born) clock)) (hb : w.heap[bm]? = some (.map es clock)) (he : e ∈ es.toList) (hd : (es.toList.map (·.born)).Nodup)
    (h : wpOps P ops Q ((List.range n).map Nat.succ) (a.put o.dst (.tuple #[e.key, e.val])) w) : (Code.region id ops false).wp P Q a w := by
  refine wp_region ?_
  rw [hn, range_tail]
  exact wpOps_value h0 hg (execOp_entry ho _ _ (by rw [hx]; exact run_entry_at w r bm since seen es clock e hr hb he hd)) h
end

end
section
open Go Go.RowKit Go.ChangeMaps
variable {P : Program}

/-! ### A map's iterator, which no known block is -/

theorem setBlock_other (w : World) {r k : Nat} (o : Obj) (h : k ≠ r) : (setBlock w r o).heap[k]? = w.heap[k]? := by
  simp only [setBlock]
  rw [Array.getElem?_setIfInBounds, if_neg (fun e => h e.symm)]
theorem setBlock_same (w : World) {r : Nat} (o : Obj) (h : r < w.heap.size) : (setBlock w r o).heap[r]? = some o := by
  simp only [setBlock]
  rw [Array.getElem?_setIfInBounds, if_pos rfl, if_pos h]
theorem setBlock_size (w : World) (r : Nat) (o : Obj) : (setBlock w r o).heap.size = w.heap.size := by simp [setBlock]

theorem flat_rel {IC : Addr → Value → Prop} : ∀ (t : CT) (v : t.den), t.flat = true → RelT t v (fun k y => (t.vals v)[k]? = some y) IC
  | .int _, _, _ => rfl
  | .bool, _, _ => rfl
  | .str, _, _ => rfl
  | .sl _, _, h => by cases h
  | .unit, _, _ => trivial
  | .pair c cs, v, h => by
    have h' : c.flat = true ∧ cs.flat = true := by simpa [CT.flat] using h
    have hl := CT.vals_length c v.1 h'.1
    refine ⟨RelT.mono c v.1 (fun k y hk => ?_) (fun _ _ hh => hh) (flat_rel c v.1 h'.1), RelT.mono cs v.2 (fun k y hk => ?_) (fun _ _ hh => hh) (flat_rel cs v.2 h'.2)⟩
    · have hlt := (List.getElem?_eq_some_iff.1 hk).1
      simp only [CT.vals]
      rw [List.getElem?_append_left hlt]; exact hk
    · simp only [CT.vals]
      rw [List.getElem?_append_right (by omega), hl, Nat.add_sub_cancel_left]; exact hk

/-- What an entry's key and value are, of the map's list. -/
theorem entry_rel {X : Ctx} {kt vt : CT} {ka va : Bool} {l : List (kt.den × vt.den)} {es : Array MapEntry} (hf : kt.flat = true) (h3 : ∀ (j : Nat) p e, l[j]? = some p → es[j]? = some e → e.key = asV ka (kt.vals p.1) ∧ ∃ us : List Value, e.val = asV va us ∧ us.length = vt.width ∧ RelT vt p.2 (fun k y => us[k]? = some y) X.IC) {k : Nat} {p : kt.den × vt.den} {e : MapEntry} (hp : l[k]? = some p) (he : es[k]? = some e)
    (hka : ka = true ∨ kt.width = 1) (hva : va = true ∨ vt.width = 1) : VR X (.tup [(ka, kt.cells p.1), (va, vt.cells p.2)]) (.tuple #[e.key, e.val]) := by
  obtain ⟨g1, us, g2, g3, g4⟩ := h3 k p e hp he
  rw [g1, g2]
  have hl := CT.vals_length kt p.1 hf
  exact ⟨_, rfl, PW.cons (tup_rel (rel_pw hl (flat_rel kt p.1 hf)) (hka.imp id hl.trans)) (PW.cons (tup_rel (rel_pw g3 g4) (hva.imp id g3.trans)) PW.nil)⟩

/-- An entry that is left has a place in the map's list, which was not handed out. -/
theorem left_at {kt vt : CT} {l : List (kt.den × vt.den)} {es : Array MapEntry} (g2 : es.size = l.length) {seen : Array Nat} {e : MapEntry} (he : e ∈ (leftOf es seen).toList) :
    ∃ (k : Nat) (p : kt.den × vt.den), es[k]? = some e ∧ l[k]? = some p ∧ seen.contains e.born = false := by
  obtain ⟨h1, h2⟩ := mem_left he
  obtain ⟨k, hk⟩ := List.getElem?_of_mem h1
  have hk' : es[k]? = some e := by simpa using hk
  have hlt : k < l.length := by
    have := (Array.getElem?_eq_some_iff.1 hk').1
    omega
  exact ⟨k, l[k], hk', List.getElem?_eq_getElem hlt, h2⟩

end
section
open Go Go.RowKit Go.ChangeMaps
variable {P : Program}

/-! ### Another account of a block, where it lies -/

def Ctx.setH (X : Ctx) (j : Nat) (b : AB) : Ctx := { X with H := upd X.H j (some b) }

section
variable {X : Ctx} {j : Nat} {b0 b : AB} (h0 : X.H j = some b0) (l0 : b0.wr = true) (l1 : b.loc = true)
include h0 l0
theorem setH_IC {a : Addr} {y : Value} (h : X.IC a y) : (X.setH j b).IC a y :=
  ⟨h.1, h.2.1, h.2.2.1, fun i c hc hl => by
    by_cases e : i = j
    · subst e; exact h.2.2.2.1 i b0 h0 l0
    · simp only [Ctx.setH, upd_other _ _ e] at hc; exact h.2.2.2.1 i c hc hl, h.2.2.2.2⟩
include l1
theorem setH_le (hna : ∀ row l, b0 ≠ .arr row l) : X.le (X.setH j b) := by
  refine ⟨fun a y h => setH_IC h0 l0 h, fun i c hc hl => ?_, fun i row l hi => ?_, fun i hi => ?_, fun _ _ _ _ => rfl, fun i t v hi => ?_, rfl, rfl, rfl, Nat.le_refl _⟩
  · by_cases e : i = j
    · subst e; exact ⟨⟨b, by simp only [Ctx.setH, upd_same], AB.pt_of l1⟩, rfl⟩
    · exact ⟨⟨c, by simp only [Ctx.setH, upd_other _ _ e]; exact hc, hl⟩, rfl⟩
  · have e : i ≠ j := fun e => by subst e; rw [h0] at hi; injection hi with hi; exact hna _ _ hi
    exact .inl ⟨l, by simp only [Ctx.setH, upd_other _ _ e]; exact hi, rfl⟩
  · have e : i ≠ j := fun e => by subst e; rw [h0] at hi; injection hi with hi; subst hi; cases l0
    simp only [Ctx.setH, upd_other _ _ e]; exact hi
  · have e : i ≠ j := fun e => by subst e; rw [h0] at hi; injection hi with hi; subst hi; cases l0
    exact ⟨v, by simp only [Ctx.setH, upd_other _ _ e]; exact hi, Nat.le_refl _, fun _ => ⟨rfl, fun _ _ _ h => h⟩⟩
theorem setH_rel (hX : HRel X) (hna : ∀ row l, b0 ≠ .arr row l) (hb : BRel (X.setH j b) j b) : HRel (X.setH j b) := by
  have hle := setH_le (b := b) h0 l0 l1 hna
  have old : ∀ i c, (X.setH j b).H i = some c → c.loc = true → ∃ d, X.H i = some d ∧ d.loc = true := fun i c hc hl => by
    by_cases e : i = j
    · subst e; exact ⟨b0, h0, (AB.loc_of l0)⟩
    · simp only [Ctx.setH, upd_other _ _ e] at hc; exact ⟨c, hc, hl⟩
  refine ⟨fun i k c d hc hd lc ld => ?_, hX.injt, fun i c k hc hl => ?_, fun i c hc hl => ?_, hX.placet, fun i c hc hl => ?_, hX.ltt, fun i hi => ?_, hX.frlt, fun i c hc => ?_, hX.below, hX.os, hX.tape, hX.output, hX.size, fun a y h => setH_IC h0 l0 (hX.old a y h)⟩
  · obtain ⟨c', h1, h2⟩ := old i c hc lc
    obtain ⟨d', h3, h4⟩ := old k d hd ld
    exact hX.inj i k c' d' h1 h3 h2 h4
  · obtain ⟨c', h1, h2⟩ := old i c hc hl
    exact hX.injm i c' k h1 h2
  · by_cases e : i = j
    · subst e; exact hX.place i b0 h0 l0
    · simp only [Ctx.setH, upd_other _ _ e] at hc; exact hX.place i c hc hl
  · by_cases e : i = j
    · subst e; exact hX.lt i b0 h0 (AB.pt_of (AB.loc_of l0))
    · simp only [Ctx.setH, upd_other _ _ e] at hc; exact hX.lt i c hc hl
  · by_cases e : i = j
    · subst e; simp [Ctx.setH, upd_same]
    · simp only [Ctx.setH, upd_other _ _ e]; exact hX.tlH i hi
  · by_cases e : i = j
    · subst e
      simp only [Ctx.setH, upd_same, Option.some.injEq] at hc
      subst hc; exact hb
    · simp only [Ctx.setH, upd_other _ _ e] at hc
      cases hl : c.loc with
      | true => exact BRel.mono hle rfl rfl rfl (hX.blk i c hc)
      | false => cases c <;> first | trivial | cases hl
end

theorem obj_mp {X0 X : Ctx} {j : Nat} {kt vt : CT} {ka va : Bool} {l : List (kt.den × vt.den)} (hX0 : HRel X0) (h0 : X0.H j = some (.mp kt vt ka va l)) {es : Array MapEntry} {clock : Nat} (hm : X0.w.heap[X0.φ j]? = some (.map es clock))
    (hle : X0.le X) (hX : HRel X) (h : X.H j = some (.obj (.map es clock))) : X.le (X.setH j (.mp kt vt ka va l)) ∧ HRel (X.setH j (.mp kt vt ka va l)) := by
  have hl := setH_le (b := .mp kt vt ka va l) h rfl rfl (fun _ _ e => by cases e)
  refine ⟨hl, setH_rel h rfl rfl hX (fun _ _ e => by cases e) ?_⟩
  obtain ⟨hf, es', clock', h1, h2, h3⟩ := hX0.blk j _ h0
  rw [hm] at h1
  injection h1 with h1
  injection h1 with e1 e2
  subst e1; subst e2
  have h4 : X.w.heap[X.φ j]? = some (.map es clock) := hX.blk j _ h
  refine ⟨hf, es, clock, h4, h2, h3.1, h3.2.imp fun l' hl' => ⟨hl'.1, fun k p e hp he => ?_⟩⟩
  obtain ⟨g1, us, g2, g3, g4⟩ := hl'.2 k p e hp he
  exact ⟨g1, us, g2, g3, RelT.mono vt p.2 (fun _ _ hh => hh) (fun a y hh => hl.ic a y (hle.ic a y hh)) g4⟩

/-- An object that is known as it is becomes another. -/
theorem obj_step {X : Ctx} (hX : HRel X) {i : Nat} {o o' : Obj} (h : X.H i = some (.obj o)) {w1 : World} (hw : w1 = X.w ∨ w1 = X.w.drew) :
    X.le (X.put i (.obj o') (setBlock w1 (X.φ i) o')) ∧ HRel (X.put i (.obj o') (setBlock w1 (X.φ i) o')) := by
  have hlt := hX.lt i _ h rfl
  have hh : w1.heap = X.w.heap := by rcases hw with rfl | rfl <;> rfl
  have ho : OneBlock X i (setBlock w1 (X.φ i) o') := by
    refine ⟨?_, ?_, ?_, by rw [setBlock_size, hh], fun k hk => by rw [setBlock_other _ _ hk, hh], ?_⟩ <;> rcases hw with rfl | rfl <;> first | rfl | exact Nat.le_refl _ | exact Nat.le_succ _
  have hna : ∀ row l, AB.obj o = .arr row l → ∃ l' : List row.den, AB.obj o' = .arr row l' ∧ l'.length = l.length := fun row l e => by cases e
  refine ⟨put_le hX h rfl rfl ho hna, HRel.put hX h rfl rfl ho hna ?_⟩
  show (setBlock w1 (X.φ i) o').heap[X.φ i]? = some o'
  exact setBlock_same _ _ (by rw [hh]; exact hlt)

/-- 'next' where the iterator and the map are known as they are: nothing is left, or any entry that is left comes out. -/
theorem next_rel {id : Nat} {ops : Array Oper} {o : Oper} {n : Nat} {x : Operand} {Q : Exit → Act → World → Prop} (hn : ops.size = n + 1) (h0 : ops[0]? = some o) (ho : o.op = .next x false) (hg : o.guard = none)
    {X : Ctx} {σ σe σg : St} {a : Act} (hr : Rel X σ a) {i j clock m : Nat} {seen : Array Nat} {es : Array MapEntry} (hx : VR X (.one (.ptr i 0)) (a.eval x)) (hi : X.H i = some (.obj (.mapIter (some (X.φ j)) clock seen clock))) (hj : X.H j = some (.obj (.map es clock))) (hm : MapOk es clock m)
    (he : σ.put o.dst (.tup [(false, [.bool false])]) = some σe) (hgo : ∀ hp', ({ σ with hp := hp' } : St).put o.dst (.tup [(false, [.bool true]), (false, [.unk]), (false, [.unk])]) = some { σg with hp := hp' }) (htg : σ.tg = [])
    (end_ : (leftOf es seen).size = 0 → ∀ a', Rel X σe a' → wpOps P ops Q ((List.range n).map Nat.succ) a' X.w)
    (go : ∀ e ∈ (leftOf es seen).toList, ∀ X' a', X.le X' → X'.H = upd X.H i (some (.obj (.mapIter (some (X.φ j)) clock (seen.push e.born) clock))) → Rel X' { σg with hp := σ.hp.set i (.obj (.mapIter (some (X.φ j)) clock (seen.push e.born) clock)) } a' → wpOps P ops Q ((List.range n).map Nat.succ) a' X'.w) :
    (Code.region id ops false).wp P Q a X.w := by
  have hx' : a.eval x = .pointer (some ⟨X.φ i, 0, none⟩) := hx.2
  have hbi : X.w.heap[X.φ i]? = some (.mapIter (some (X.φ j)) clock seen clock) := hr.hrel.blk i _ hi
  have hbj : X.w.heap[X.φ j]? = some (.map es clock) := hr.hrel.blk j _ hj
  refine wp_next hn h0 ho hg hx' hbi hbj (fun e h => hm.2.1 _ (List.mem_map_of_mem h)) (Nat.le_refl _) (fun h => end_ h _ (hr.put he ?_)) fun e h w1 hw => ?_
  · exact ⟨_, rfl, PW.cons ⟨_, rfl, rfl⟩ PW.nil⟩
  · obtain ⟨h1, h2⟩ := obj_step (o' := .mapIter (some (X.φ j)) clock (seen.push e.born) clock) hr.hrel hi hw
    have hH : X.H = fun k => σ.hp[k]? := hr.heap
    have hlt : i < σ.hp.length := by
      rw [hH] at hi; exact (List.getElem?_eq_some_iff.1 hi).1
    refine go e h _ _ h1 rfl (Rel.put (σ := { σ with hp := σ.hp.set i (.obj (.mapIter (some (X.φ j)) clock (seen.push e.born) clock)) }) ?_ (hgo _) ?_)
    · refine ⟨h2, ?_, hr.size, hr.defers, fun t v hv => VR.mono h1 v _ (hr.tm t v hv), fun t s w v hv => by rw [htg] at hv; cases hv⟩
      funext k
      show upd X.H i _ k = (σ.hp.set i _)[k]?
      by_cases e : k = i
      · subst e; rw [upd_same, List.getElem?_set_self hlt]
      · rw [upd_other _ _ e, List.getElem?_set_ne (fun h => e h.symm), hH]
    · exact ⟨_, rfl, PW.cons ⟨_, rfl, rfl⟩ (PW.cons ⟨_, rfl, trivial⟩ (PW.cons ⟨_, rfl, trivial⟩ PW.nil))⟩

/-- The round's key and value. -/
theorem entry_rel' {id : Nat} {ops : Array Oper} {o : Oper} {n : Nat} {x : Operand} {Q : Exit → Act → World → Prop} (hn : ops.size = n + 1) (h0 : ops[0]? = some o) (ho : o.op = .entry x) (hg : o.guard = none)
    {X : Ctx} {σ σp : St} {a : Act} (hr : Rel X σ a) {i j clock m : Nat} {seen : Array Nat} {es : Array MapEntry} {e : MapEntry} (hx : VR X (.one (.ptr i 0)) (a.eval x)) (hi : X.H i = some (.obj (.mapIter (some (X.φ j)) clock (seen.push e.born) clock))) (hj : X.H j = some (.obj (.map es clock))) (hm : MapOk es clock m) (he : e ∈ es.toList)
    {v : AV} (hv : VR X v (.tuple #[e.key, e.val])) (hp : σ.put o.dst v = some σp) (h : ∀ a', Rel X σp a' → wpOps P ops Q ((List.range n).map Nat.succ) a' X.w) : (Code.region id ops false).wp P Q a X.w :=
  wp_entry hn h0 ho hg (show a.eval x = .pointer (some ⟨X.φ i, 0, none⟩) from hx.2) (hr.hrel.blk i _ hi) (hr.hrel.blk j _ hj) he hm.2.2.1 (h _ (hr.put hp hv))

theorem ev_rel {X : Ctx} {σ : St} {a : Act} (h : Rel X σ a) {c : Operand} {v : AV} (he : σ.ev [] c = some v) : VR X v (a.eval c) := h.ev (fun g hg => by cases hg) he

/-- A loop whose every round goes on from less, or ends it. -/
theorem loop_by {body : Code} {S : Type} {Inv : S → Act → World → Prop} {mu : S → Nat} {Q : Exit → Act → World → Prop}
    (step : ∀ s a w, Inv s a w → body.wp P (Exit.then (fun a' w' => ∃ s', Inv s' a' w' ∧ mu s' < mu s) Q) a w) : ∀ (n : Nat) (s : S) (a : Act) (w : World), mu s < n → Inv s a w → LoopAt P body Q a w
  | 0, _, _, _, h, _ => by omega
  | n + 1, s, a, w, h, hI => by
    refine LoopAt.round fun b k cs => ?_
    obtain ⟨e, a', w', hq, harr⟩ := step s a w hI b k cs
    refine ⟨e, a', w', ?_, harr⟩
    cases e with
    | normal =>
      obtain ⟨s', h1, h2⟩ := hq
      exact loop_by step n s' a' w' (by omega) h1
    | exit i => exact hq
    | goto l => exact hq
    | ret => exact hq
    | panic c => exact hq
    | outgrown => exact hq

/-! ### A loop over a map, by its rounds: the entries come in any order -/

/-- What a loop over a map is made of. -/
structure MS where
  i1 : Nat
  ops1 : Array Oper
  o1 : Oper
  n1 : Nat
  x1 : Operand
  sb : Operand
  ie : Nat
  ib : Nat
  i2 : Nat
  ops2 : Array Oper
  o2 : Oper
  n2 : Nat
  x2 : Operand
  R : Code
def MS.code (s : MS) : Code := .seq (.region s.i1 s.ops1 false) (.seq (.cond s.sb .skip (.exit s.ie)) (.block s.ib (.seq (.region s.i2 s.ops2 false) s.R)))
def mapShape : Code → Option MS
  | .seq (.region i1 ops1 false) (.seq (.cond sb .skip (.exit ie)) (.block ib (.seq (.region i2 ops2 false) R))) =>
    match ops1.toList, ops2.toList with
    | o1 :: r1, o2 :: r2 => match o1.op, o1.guard, o2.op, o2.guard with
      | .next x1 false, none, .entry x2, none => some { i1, ops1, o1, n1 := r1.length, x1, sb, ie, ib, i2, ops2, o2, n2 := r2.length, x2, R }
      | _, _, _, _ => none
    | _, _ => none
  | _ => none
structure MS.Ok (s : MS) : Prop where
  n1 : s.ops1.size = s.n1 + 1
  h1 : s.ops1[0]? = some s.o1
  p1 : s.o1.op = .next s.x1 false
  g1 : s.o1.guard = none
  n2 : s.ops2.size = s.n2 + 1
  h2 : s.ops2[0]? = some s.o2
  p2 : s.o2.op = .entry s.x2
  g2 : s.o2.guard = none
theorem arr_cons {α : Type} {a : Array α} {x : α} {r : List α} (h : a.toList = x :: r) : a.size = r.length + 1 ∧ a[0]? = some x := by
  obtain ⟨l⟩ := a
  have h : l = x :: r := h
  subst h
  exact ⟨rfl, rfl⟩
theorem mapShape_ok {c : Code} {s : MS} (h : mapShape c = some s) : c = s.code ∧ s.Ok := by
  unfold mapShape at h
  split at h
  · rename_i i1 ops1 sb ie ib i2 ops2 R
    split at h
    · rename_i o1 r1 o2 r2 e1 e2
      split at h
      · rename_i x1 x2 q1 q2 q3 q4
        injection h with h
        subst h
        obtain ⟨k1, k2⟩ := arr_cons e1
        obtain ⟨k3, k4⟩ := arr_cons e2
        exact ⟨rfl, k1, k2, q1, q2, k3, k4, q3, q4⟩
      · cases h
    · cases h
  · cases h

/-- The way out, when nothing is left. -/
def mEnd (E : Env P) (s : MS) (σ : St) : Option (XE × St) :=
  match σ.put s.o1.dst (.tup [(false, [.bool false])]) with
  | some σe => match opsRun P E.kp E.kk s.ops1 ((List.range s.n1).map Nat.succ) σe with
    | some σ1 => match σ1.ev [] s.sb with
      | some (.one (.bool false)) => some (.exit s.ie, σ1)
      | _ => none
    | none => none
  | none => none
/-- A round with an entry; also the blocks when the entry is asked for. -/
def mGo (E : Env P) (f : Nat) (s : MS) (i : Nat) (kv : AV) (σ : St) : Option (List AB × St) :=
  match σ.put s.o1.dst (.tup [(false, [.bool true]), (false, [.unk]), (false, [.unk])]) with
  | some σg => match opsRun P E.kp E.kk s.ops1 ((List.range s.n1).map Nat.succ) σg with
    | some σ1 => match σ1.ev [] s.sb with
      | some (.one (.bool true)) => match σ1.ev [] s.x2 with
        | some (.one (.ptr i' 0)) => if Nat.beq i' i then match σ1.put s.o2.dst kv with
          | some σp => match opsRun P E.kp E.kk s.ops2 ((List.range s.n2).map Nat.succ) σp with
            | some σ2 => match exec P E.kp E.kx E.kk (E.lcs f) rounds0 s.R σ2 with
              | some (.normal, σ3) => some (σ1.hp, σ3)
              | some (.exit b, σ3) => if Nat.beq b s.ib then some (σ1.hp, σ3) else none
              | _ => none
            | none => none
          | none => none else none
        | _ => none
      | _ => none
    | none => none
  | none => none
def mview (m i j : Nat) (slots : List Nat) : Option (List AB × St) → Option (Option AB × Option AB × List AV × List AB × List Bool)
  | some (h, σ) => match looks σ.tm slots with
    | some vs => some (h[i]?, h[j]?, vs, σ.hp.take m, σ.cs)
    | none => none
  | none => none

theorem mEnd_some {E : Env P} {s : MS} {σ σ1 : St} {e : XE} (h : mEnd E s σ = some (e, σ1)) : e = .exit s.ie ∧ ∃ σe, σ.put s.o1.dst (.tup [(false, [.bool false])]) = some σe ∧ opsRun P E.kp E.kk s.ops1 ((List.range s.n1).map Nat.succ) σe = some σ1 ∧ σ1.ev [] s.sb = some (.one (.bool false)) := by
  unfold mEnd at h
  split at h
  · rename_i σe h1
    split at h
    · rename_i σ1' h2
      split at h
      · rename_i h3
        simp only [Option.some.injEq, Prod.mk.injEq] at h
        obtain ⟨rfl, rfl⟩ := h
        exact ⟨rfl, σe, h1, h2, h3⟩
      · cases h
    · cases h
  · cases h
theorem mGo_some {E : Env P} {f : Nat} {s : MS} {i : Nat} {kv : AV} {σ σ3 : St} {h1 : List AB} (h : mGo E f s i kv σ = some (h1, σ3)) : ∃ σg σ1 σp σ2 e3, σ.put s.o1.dst (.tup [(false, [.bool true]), (false, [.unk]), (false, [.unk])]) = some σg ∧
    opsRun P E.kp E.kk s.ops1 ((List.range s.n1).map Nat.succ) σg = some σ1 ∧ σ1.ev [] s.sb = some (.one (.bool true)) ∧ σ1.ev [] s.x2 = some (.one (.ptr i 0)) ∧ σ1.put s.o2.dst kv = some σp ∧
    opsRun P E.kp E.kk s.ops2 ((List.range s.n2).map Nat.succ) σp = some σ2 ∧ exec P E.kp E.kx E.kk (E.lcs f) rounds0 s.R σ2 = some (e3, σ3) ∧ (e3 = .normal ∨ e3 = .exit s.ib) ∧ σ1.hp = h1 := by
  unfold mGo at h
  split at h
  · rename_i σg h1
    split at h
    · rename_i σ1 h2
      split at h
      · rename_i h3
        split at h
        · rename_i i' h4
          split at h
          · rename_i hi
            simp only [Nat.beq_eq] at hi
            subst hi
            split at h
            · rename_i σp h5
              split at h
              · rename_i σ2 h6
                split at h
                · rename_i σ3' h7
                  simp only [Option.some.injEq, Prod.mk.injEq] at h
                  obtain ⟨rfl, rfl⟩ := h
                  exact ⟨σg, σ1, σp, σ2, _, h1, h2, h3, h4, h5, h6, h7, .inl rfl, rfl⟩
                · rename_i b σ3' h7
                  split at h
                  · rename_i hb
                    simp only [Nat.beq_eq] at hb
                    subst hb
                    simp only [Option.some.injEq, Prod.mk.injEq] at h
                    obtain ⟨rfl, rfl⟩ := h
                    exact ⟨σg, σ1, σp, σ2, _, h1, h2, h3, h4, h5, h6, h7, .inr rfl, rfl⟩
                  · cases h
                · cases h
              · cases h
            · cases h
          · cases h
        · cases h
      · cases h
    · cases h
  · cases h

theorem put_any {σ σ' : St} {d : Option Nat} {v : AV} (h : σ.put d v = some σ') : (σ'.cs = σ.cs ∧ σ'.hp = σ.hp ∧ σ'.os = σ.os) ∧ ∀ hp os cs, ({ σ with hp := hp, os := os, cs := cs } : St).put d v = some { σ' with hp := hp, os := os, cs := cs } := by
  unfold St.put at h ⊢
  cases d with
  | none =>
    injection h with h; subst h
    exact ⟨⟨rfl, rfl, rfl⟩, fun hp os cs => rfl⟩
  | some d =>
    simp only at h ⊢
    split at h
    · rename_i hd
      injection h with h; subst h
      exact ⟨⟨rfl, rfl, rfl⟩, fun hp os cs => by rw [if_pos hd]⟩
    · cases h

/-- What is left of a map's list. -/
def pairsOf {α : Type} (es : Array MapEntry) (l : List α) : List (MapEntry × α) := es.toList.zip l
def remOf {α : Type} (es : Array MapEntry) (l : List α) (seen : Array Nat) : List α := ((pairsOf es l).filter fun q => !seen.contains q.1.born).map (·.2)
theorem filter_one {α : Type} {seen : Array Nat} {e : MapEntry} : ∀ {Z : List (MapEntry × α)}, (Z.map fun q => q.1.born).Nodup → (∃ p, (e, p) ∈ Z) → seen.contains e.born = false →
    ∃ A p B, (e, p) ∈ Z ∧ (Z.filter fun q => !seen.contains q.1.born).map (·.2) = A ++ p :: B ∧ (Z.filter fun q => !(seen.push e.born).contains q.1.born).map (·.2) = A ++ B
  | [], _, ⟨p, h⟩, _ => by cases h
  | q :: Z, hn, ⟨p, hp⟩, hs => by
    rw [List.map_cons, List.nodup_cons] at hn
    have push : ∀ x : Nat, (seen.push e.born).contains x = (seen.contains x || x == e.born) := fun x => by
      rw [Bool.eq_iff_iff]; simp [Array.mem_push]
    by_cases hq : q.1.born = e.born
    · have hqe : (e, p) = q ∨ (e, p) ∈ Z := by
        rcases List.mem_cons.1 hp with h | h
        · exact .inl h
        · exact .inr h
      have hqp : (e, p) = q := by
        rcases hqe with h | h
        · exact h
        · exact absurd (show q.1.born ∈ Z.map (fun q => q.1.born) from by rw [hq]; exact List.mem_map.2 ⟨(e, p), h, rfl⟩) hn.1
      subst hqp
      have rest : (Z.filter fun q => !(seen.push e.born).contains q.1.born) = Z.filter fun q => !seen.contains q.1.born := by
        refine List.filter_congr fun z hz => ?_
        rw [push]
        have : z.1.born ≠ e.born := fun he => hn.1 (List.mem_map.2 ⟨z, hz, he⟩)
        have hb : (z.1.born == e.born) = false := beq_eq_false_iff_ne.2 this
        rw [hb, Bool.or_false]
      refine ⟨[], p, (Z.filter fun q => !seen.contains q.1.born).map (·.2), List.mem_cons_self .., ?_, ?_⟩
      · rw [List.filter_cons_of_pos (by show (!seen.contains e.born) = true; rw [hs]; rfl)]; rfl
      · rw [List.filter_cons_of_neg (by rw [push]; simp), rest]; rfl
    · have hz : (e, p) ∈ Z := by
        rcases List.mem_cons.1 hp with h | h
        · exact absurd (by rw [← h]) hq
        · exact h
      obtain ⟨A, p', B, h1, h2, h3⟩ := filter_one hn.2 ⟨p, hz⟩ hs
      have hb : (q.1.born == e.born) = false := beq_eq_false_iff_ne.2 hq
      cases hc : seen.contains q.1.born with
      | true =>
        refine ⟨A, p', B, List.mem_cons_of_mem _ h1, ?_, ?_⟩
        · rw [List.filter_cons_of_neg (by rw [hc]; simp)]; exact h2
        · rw [List.filter_cons_of_neg (by rw [push, hc]; simp)]; exact h3
      | false =>
        refine ⟨q.2 :: A, p', B, List.mem_cons_of_mem _ h1, ?_, ?_⟩
        · rw [List.filter_cons_of_pos (by rw [hc]; rfl), List.map_cons, h2]; rfl
        · rw [List.filter_cons_of_pos (by rw [push, hc, hb]; rfl), List.map_cons, h3]; rfl

theorem zip_nodup {α : Type} {es : Array MapEntry} {l : List α} (h : (es.toList.map (·.born)).Nodup) (hl : es.size = l.length) : ((pairsOf es l).map fun q => q.1.born).Nodup := by
  have : ((pairsOf es l).map fun q => q.1.born) = es.toList.map (·.born) := by
    unfold pairsOf
    rw [show (fun q : MapEntry × α => q.1.born) = (·.born) ∘ Prod.fst from rfl, ← List.map_map, List.map_fst_zip (by simp [hl])]
  rw [this]; exact h
theorem rem_nil {α : Type} {es : Array MapEntry} {l : List α} {seen : Array Nat} (hl : es.size = l.length) (h : (leftOf es seen).size = 0) : remOf es l seen = [] := by
  have h0 : (leftOf es seen).toList = [] := List.eq_nil_of_length_eq_zero (by simpa using h)
  unfold leftOf at h0
  rw [Array.toList_filter] at h0
  unfold remOf
  rw [List.map_eq_nil_iff, List.filter_eq_nil_iff]
  intro q hq
  have hq1 : q.1 ∈ es.toList := (List.of_mem_zip hq).1
  exact List.filter_eq_nil_iff.1 h0 q.1 hq1
theorem rem_all {α : Type} {es : Array MapEntry} {l : List α} (hl : es.size = l.length) : remOf es l #[] = l := by
  unfold remOf
  rw [List.filter_eq_self.2 (fun q _ => by simp)]
  unfold pairsOf
  rw [List.map_snd_zip (by simp [hl])]

/-- A round with an entry: from these slots and blocks to those. -/
def MapGo (E : Env P) (f : Nat) (s : MS) (i j nt m : Nat) (slots : List Nat) (known : List (Nat × AV)) (vs : List AV) (hp : AB → AB → List AB) (kv : AV) (vs' : List AV) (hp' : AB → AB → List AB) : Prop :=
  ∃ os v, ∀ rest oi om, ∃ h1 σ3, mGo E f s i kv (headS nt (zipT slots vs ++ (known ++ rest)) (hp (.obj oi) (.obj om)) os) = some (h1, σ3) ∧ h1[i]? = some (.obj oi) ∧ h1[j]? = some (.obj om) ∧
    looks σ3.tm slots = some v ∧ (∀ c ∈ σ3.cs, c = true) ∧ Wks (hp' (.obj oi) (.obj om)) v vs' ∧ σ3.hp.take m = hp' (.obj oi) (.obj om) ∧ (σ3.hp.length ≤ m ∨ idsLt m vs' (hp' (.obj oi) (.obj om)))
theorem MapGo.mk {E : Env P} {f : Nat} {s : MS} {i j nt m : Nat} {slots : List Nat} {known : List (Nat × AV)} {vs : List AV} {hp : AB → AB → List AB} {kv : AV} {vs' : List AV} {hp' : AB → AB → List AB}
    (os : List Bool) {v : List AV} {cs : List Bool} (h : ∀ rest oi om, mview m i j slots (mGo E f s i kv (headS nt (zipT slots vs ++ (known ++ rest)) (hp (.obj oi) (.obj om)) os)) = some (some (.obj oi), some (.obj om), v, hp' (.obj oi) (.obj om), cs))
    (hcs : ∀ c ∈ cs, c = true) (hw : ∀ oi om, Wks (hp' (.obj oi) (.obj om)) v vs') (hi : ∀ oi om, idsLt m vs' (hp' (.obj oi) (.obj om))) : MapGo E f s i j nt m slots known vs hp kv vs' hp' :=
  ⟨os, v, fun rest oi om => by
    have := h rest oi om
    unfold mview at this
    split at this
    · rename_i h1 σ3 hm
      split at this
      · rename_i vs0 hl
        simp only [Option.some.injEq, Prod.mk.injEq] at this
        obtain ⟨e1, e2, e3, e4, e5⟩ := this
        subst e3
        exact ⟨h1, σ3, hm, e1, e2, hl, by rw [e5]; exact hcs, hw oi om, e4, .inr (hi oi om)⟩
      · cases this
    · cases this⟩
/-- The way out. -/
def MapEnd (E : Env P) (s : MS) (nt m : Nat) (slots : List Nat) (known : List (Nat × AV)) (vs : List AV) (hp : AB → AB → List AB) (outs : List AV) : Prop :=
  ∃ os v, ∀ rest oi om, ∃ σ1, mEnd E s (headS nt (zipT slots vs ++ (known ++ rest)) (hp (.obj oi) (.obj om)) os) = some (.exit s.ie, σ1) ∧
    looks σ1.tm slots = some v ∧ (∀ c ∈ σ1.cs, c = true) ∧ Wks (hp (.obj oi) (.obj om)) v outs ∧ σ1.hp.take m = hp (.obj oi) (.obj om) ∧ (σ1.hp.length ≤ m ∨ idsLt m outs (hp (.obj oi) (.obj om)))
theorem MapEnd.mk {E : Env P} {s : MS} {nt m : Nat} {slots : List Nat} {known : List (Nat × AV)} {vs : List AV} {hp : AB → AB → List AB} {outs : List AV}
    (os : List Bool) {v : List AV} {cs : List Bool} (h : ∀ rest oi om, viewT m slots (mEnd E s (headS nt (zipT slots vs ++ (known ++ rest)) (hp (.obj oi) (.obj om)) os)) = some (.exit s.ie, v, hp (.obj oi) (.obj om), cs))
    (hcs : ∀ c ∈ cs, c = true) (hw : ∀ oi om, Wks (hp (.obj oi) (.obj om)) v outs) (hi : ∀ oi om, idsLt m outs (hp (.obj oi) (.obj om))) : MapEnd E s nt m slots known vs hp outs :=
  ⟨os, v, fun rest oi om => by
    obtain ⟨σ, h1, h2, h3, h4⟩ := looks_of_viewT (h rest oi om)
    exact ⟨σ, h1, h2, by rw [h4]; exact hcs, hw oi om, h3, .inr (hi oi om)⟩⟩
theorem put_val {σ σ' : St} {d : Option Nat} {v : AV} (h : σ.put d v = some σ') (v' : AV) : ∃ σ'', σ.put d v' = some σ'' := by
  unfold St.put at h ⊢
  cases d with
  | none => exact ⟨_, rfl⟩
  | some d =>
    simp only at h ⊢
    split at h
    · rename_i hd
      rw [if_pos hd]
      exact ⟨_, rfl⟩
    · cases h
/-- Another account of a block, in a state at a loop's head. -/
theorem Rel.setH {X : Ctx} {nt : Nat} {tm : List (Nat × AV)} {hp : List AB} {os : List Bool} {a : Act} (h : Rel X (headS nt tm hp os) a) {j : Nat} {b0 b : AB} (h0 : X.H j = some b0) (l0 : b0.wr = true) (l1 : b.loc = true) (hna : ∀ row l, b0 ≠ .arr row l) (hb : BRel (X.setH j b) j b) :
    X.le (X.setH j b) ∧ Rel (X.setH j b) (headS nt tm (hp.set j b) os) a := by
  have hle := setH_le (b := b) h0 l0 l1 hna
  have hH : X.H = fun k => hp[k]? := h.heap
  have hlt : j < hp.length := by
    rw [hH] at h0; exact (List.getElem?_eq_some_iff.1 h0).1
  refine ⟨hle, setH_rel h0 l0 l1 h.hrel hna hb, ?_, h.size, h.defers, fun t v hv => VR.mono hle v _ (h.tm t v hv), fun t s w v hv => by cases hv⟩
  funext k
  show upd X.H j (some b) k = (hp.set j b)[k]?
  by_cases e : k = j
  · subst e; rw [upd_same, List.getElem?_set_self hlt]
  · rw [upd_other _ _ e, List.getElem?_set_ne (fun h => e h.symm), hH]

theorem st_os {σ : St} {hp : List AB} {os cs : List Bool} (h1 : σ.os = os) (h2 : σ.cs = cs) : ({ σ with hp := hp, os := os, cs := cs } : St) = { σ with hp := hp } := by subst h1; subst h2; rfl
theorem st_hp {σ : St} {hp : List AB} {os cs : List Bool} (h1 : σ.hp = hp) (h2 : σ.cs = cs) : ({ σ with hp := hp, os := os, cs := cs } : St) = { σ with os := os } := by subst h1; subst h2; rfl
theorem st_cs {σ : St} {hp : List AB} {os cs : List Bool} (h2 : σ.cs = cs) : ({ σ with hp := hp, os := os, cs := cs } : St) = { σ with hp := hp, os := os } := by subst h2; rfl
/-- A LOOP OVER A MAP, by its rounds. -/
theorem LoopOk.range (E : Env P) {f i0 nt : Nat} {body : Code} (hb : theLoop P f i0 = some body) {s : MS} (hs : mapShape body = some s) {slots ro : List Nat} (hss : (slots.all fun t => isIn t (dstsC body)) = true) {rov : List AV}
    {i j m : Nat} (hij : i ≠ j) {kt vt : CT} {ka va : Bool} (l : List (kt.den × vt.den)) (hka : ka = true ∨ kt.width = 1) (hva : va = true ∨ vt.width = 1) {S : Type} (vals : S → List AV) (hpf : S → AB → AB → List AB)
    (hget : ∀ t a b, (hpf t a b)[i]? = some a ∧ (hpf t a b)[j]? = some b) (hset : ∀ t a b c, (hpf t a b).set i c = hpf t c b ∧ (hpf t a b).set j c = hpf t a c) (hlen : ∀ t a b, (hpf t a b).length = m)
    (Inv : S → List (kt.den × vt.den) → Prop) (s0 : S) (hI : Inv s0 l) (hx1 : ∀ t rest hp, (headS nt (zipT slots (vals t) ++ (zipT ro rov ++ rest)) hp []).ev [] s.x1 = some (.one (.ptr i 0)))
    (go : ∀ t A p B, Inv t (A ++ p :: B) → ∃ t', Inv t' (A ++ B) ∧ MapGo E f s i j nt m slots (zipT ro rov) (vals t) (hpf t) (.tup [(ka, kt.cells p.1), (va, vt.cells p.2)]) (vals t') (hpf t'))
    {outs : List AV} {hpo : AB → AB → List AB} (end_ : ∀ t, Inv t [] → MapEnd E s nt m slots (zipT ro rov) (vals t) (hpf t) outs ∧ hpf t = hpo) :
    LoopOk P body nt slots ro (vals s0) rov (hpf s0 (.iter j l.length true) (.mp kt vt ka va l)) (.exit s.ie) outs (hpo (.iter j l.length false) (.mp kt vt ka va l)) := by
  intro X a rest hrest hr Q hq
  obtain ⟨fn, c, hf, hbd, hmem, hfi⟩ := theLoop_mem hb
  obtain ⟨hcode, hok⟩ := mapShape_ok hs
  have hlcb : LCok P (E.lcs f) body := fun b hb' => E.hlc f fn c hf hbd b (loopsOf_trans c hmem hb')
  have hkpb : LCkeep (E.lcs f) body := fun b hb' => E.hkeep f fn c hf hbd b (loopsOf_trans c hmem hb')
  have hRl : ∀ b ∈ loopsOf s.R, b ∈ loopsOf body := fun b hb' => by rw [hcode]; simp [MS.code, loopsOf, hb']
  have hlc : LCok P (E.lcs f) s.R := fun b hb' => hlcb b (hRl b hb')
  have hkp : LCkeep (E.lcs f) s.R := fun b hb' => hkpb b (hRl b hb')
  have hss' : ∀ t ∈ slots, t ∈ dstsC body := fun t ht => isIn_iff.1 (List.all_eq_true.1 hss t ht)
  have d1 : ∀ t ∈ dstsO s.ops1, t ∈ dstsC body := fun t ht => by rw [hcode]; simp [MS.code, dstsC, ht]
  have d2 : ∀ t ∈ dstsO s.ops2, t ∈ dstsC body := fun t ht => by rw [hcode]; simp [MS.code, dstsC, ht]
  have d3 : ∀ t ∈ dstsC s.R, t ∈ dstsC body := fun t ht => by rw [hcode]; simp [MS.code, dstsC, ht]
  have p1 : ∀ t ∈ s.o1.dst.toList, t ∈ dstsC body := fun t ht => d1 t (by
    have h0 : s.o1 ∈ s.ops1.toList := List.mem_of_getElem? (i := 0) (by simpa using hok.h1)
    exact List.mem_filterMap.2 ⟨s.o1, h0, by simpa using ht⟩)
  have p2 : ∀ t ∈ s.o2.dst.toList, t ∈ dstsC body := fun t ht => d2 t (by
    have h0 : s.o2 ∈ s.ops2.toList := List.mem_of_getElem? (i := 0) (by simpa using hok.h2)
    exact List.mem_filterMap.2 ⟨s.o2, h0, by simpa using ht⟩)
  have hH : X.H = fun k => (hpf s0 (.iter j l.length true) (.mp kt vt ka va l))[k]? := hr.heap
  have hXi : X.H i = some (.iter j l.length true) := by rw [hH]; exact (hget s0 _ _).1
  have hXj : X.H j = some (.mp kt vt ka va l) := by rw [hH]; exact (hget s0 _ _).2
  have hbj := hr.hrel.blk j _ hXj
  obtain ⟨hflat, es, clock, e1, e2, hnd, l', hpm, e3⟩ := id hbj
  have hcl : clock = l.length := e2.2.2.2
  subst hcl
  have e2s : es.size = l'.length := e2.1.trans hpm.length_eq.symm
  have old : ∀ t, (∃ r0 : List (kt.den × vt.den), r0.Perm [] ∧ Inv t r0) → Inv t [] := fun t ⟨r0, p0, h0⟩ => by rw [p0.eq_nil] at h0; exact h0
  have goP : ∀ t A p B, (∃ r0 : List (kt.den × vt.den), r0.Perm (A ++ p :: B) ∧ Inv t r0) → ∃ t', (∃ r0 : List (kt.den × vt.den), r0.Perm (A ++ B) ∧ Inv t' r0) ∧ MapGo E f s i j nt m slots (zipT ro rov) (vals t) (hpf t) (.tup [(ka, kt.cells p.1), (va, vt.cells p.2)]) (vals t') (hpf t') := fun t A p B ⟨r0, p0, h0⟩ => by
    obtain ⟨A0, B0, rfl⟩ := List.append_of_mem (p0.mem_iff.2 (List.mem_append_right A (List.mem_cons_self ..)))
    obtain ⟨t', h1, h2⟩ := go t A0 p B0 h0
    refine ⟨t', ⟨A0 ++ B0, ?_, h1⟩, h2⟩
    exact (List.perm_middle.symm.trans (p0.trans List.perm_middle)).cons_inv
  obtain ⟨InvP, hInvP⟩ : ∃ I : S → List (kt.den × vt.den) → Prop, I = fun t r => ∃ r0 : List (kt.den × vt.den), r0.Perm r ∧ Inv t r0 := ⟨_, rfl⟩
  have hI' : InvP s0 l' := by rw [hInvP]; exact ⟨l, hpm.symm, hI⟩
  have oldP : ∀ t, InvP t [] → Inv t [] := fun t h => by rw [hInvP] at h; exact old t h
  have goP : ∀ t A p B, InvP t (A ++ p :: B) → ∃ t', InvP t' (A ++ B) ∧ MapGo E f s i j nt m slots (zipT ro rov) (vals t) (hpf t) (.tup [(ka, kt.cells p.1), (va, vt.cells p.2)]) (vals t') (hpf t') := by rw [hInvP]; exact goP
  have endP := fun t (h : InvP t []) => end_ t (oldP t h)
  have hbi : X.w.heap[X.φ i]? = some (.mapIter (some (X.φ j)) l.length #[] l.length) := (hr.hrel.blk i _ hXi).2 rfl
  -- the map and its iterator as they are
  obtain ⟨le1, r1⟩ := hr.setH (j := j) (b := .obj (.map es l.length)) hXj rfl rfl (fun _ _ h => by cases h) e1
  rw [(hset _ _ _ _).2] at r1
  obtain ⟨le2, r2⟩ := r1.setH (j := i) (b := .obj (.mapIter (some (X.φ j)) l.length #[] l.length)) (b0 := .iter j l.length true) (by simp only [Ctx.setH, upd_other _ _ hij]; exact hXi) rfl rfl (fun _ _ h => by cases h) hbi
  rw [(hset _ _ _ _).1] at r2
  have le12 := le1.trans le2
  -- the head's slots name no block behind
  have hids : ∀ t v, lookT (zipT ro rov ++ rest) t = some v → ∀ k ∈ idsV v, k < m := fun t v hv k hk => by
    have ht : t ∉ dstsC body := fun ht => by rw [hrest t ht] at hv; cases hv
    have h1 := hr.tm t v (by simp only [headS]; rw [lookT_app, lookT_zip_none _ _ (fun hh => ht (hss' t hh))]; exact hv)
    have h2 := VR.has _ _ h1 k hk
    rw [hH] at h2
    by_cases hlt : k < m
    · exact hlt
    · exact absurd (List.getElem?_eq_none (by rw [hlen]; omega)) h2
  have hm0 : ∀ k, m ≤ k → X.H k = none := fun k hk => by rw [hH]; exact List.getElem?_eq_none (by rw [hlen]; exact hk)
  have cutle : ∀ {X' : Ctx}, X.le X' → X.le (X'.cut m) := fun h => cut_le h hm0
  rw [hcode]
  refine loop_by (S := S × Array Nat) (Inv := fun q a' w' => ∃ X', X.le X' ∧ X'.w = w' ∧ Rel X' (headS nt (zipT slots (vals q.1) ++ (zipT ro rov ++ rest)) (hpf q.1 (.obj (.mapIter (some (X.φ j)) l.length q.2 l.length)) (.obj (.map es l.length))) []) a' ∧ InvP q.1 (remOf es l' q.2))
    (mu := fun q => (remOf es l' q.2).length) (fun q a' w' hinv => ?_) ((remOf es l' #[]).length + 1) (s0, #[]) a X.w (Nat.lt_succ_self _) ⟨_, le12, rfl, r2, by rw [rem_all e2s]; exact hI'⟩
  obtain ⟨t, seen⟩ := q
  obtain ⟨X', hle, rfl, hr', hinv⟩ := hinv
  simp only at hr' hinv
  have hH' : X'.H = fun k => (hpf t (.obj (.mapIter (some (X.φ j)) l.length seen l.length)) (.obj (.map es l.length)))[k]? := hr'.heap
  have hi' : X'.H i = some (.obj (.mapIter (some (X.φ j)) l.length seen l.length)) := by rw [hH']; exact (hget t _ _).1
  have hj' : X'.H j = some (.obj (.map es l.length)) := by rw [hH']; exact (hget t _ _).2
  have hφ : X'.φ j = X.φ j := (hle.loc j _ hXj rfl).2
  have hx := ev_rel hr' (hx1 t rest _)
  -- both ways' first slot can be written
  have hput : ∃ σe σg, (headS nt (zipT slots (vals t) ++ (zipT ro rov ++ rest)) (hpf t (.obj (.mapIter (some (X.φ j)) l.length seen l.length)) (.obj (.map es l.length))) []).put s.o1.dst (.tup [(false, [.bool false])]) = some σe ∧
      (headS nt (zipT slots (vals t) ++ (zipT ro rov ++ rest)) (hpf t (.obj (.mapIter (some (X.φ j)) l.length seen l.length)) (.obj (.map es l.length))) []).put s.o1.dst (.tup [(false, [.bool true]), (false, [.unk]), (false, [.unk])]) = some σg := by
    cases hrem : remOf es l' seen with
    | nil =>
      rw [hrem] at hinv
      obtain ⟨⟨os, v, hv⟩, _⟩ := endP t hinv
      obtain ⟨σ1, g1, _⟩ := hv rest (.mapIter (some (X.φ j)) l.length seen l.length) (.map es l.length)
      obtain ⟨_, σe, g2, _⟩ := mEnd_some g1
      have := (put_any g2).2 (hpf t (.obj (.mapIter (some (X.φ j)) l.length seen l.length)) (.obj (.map es l.length))) [] []
      obtain ⟨σg, g3⟩ := put_val this (.tup [(false, [.bool true]), (false, [.unk]), (false, [.unk])])
      exact ⟨_, σg, this, g3⟩
    | cons p r =>
      rw [hrem] at hinv
      obtain ⟨t', _, os, v, hv⟩ := goP t [] p r hinv
      obtain ⟨h1, σ3, g1, _⟩ := hv rest (.mapIter (some (X.φ j)) l.length seen l.length) (.map es l.length)
      obtain ⟨σg, _, _, _, _, g2, _⟩ := mGo_some g1
      have := (put_any g2).2 (hpf t (.obj (.mapIter (some (X.φ j)) l.length seen l.length)) (.obj (.map es l.length))) [] []
      obtain ⟨σe, g3⟩ := put_val this (.tup [(false, [.bool false])])
      exact ⟨σe, _, g3, this⟩
  obtain ⟨σe, σg, he, hg⟩ := hput
  have hg' : ∀ hp', ({ headS nt (zipT slots (vals t) ++ (zipT ro rov ++ rest)) (hpf t (.obj (.mapIter (some (X.φ j)) l.length seen l.length)) (.obj (.map es l.length))) [] with hp := hp' } : St).put s.o1.dst (.tup [(false, [.bool true]), (false, [.unk]), (false, [.unk])]) = some { σg with hp := hp' } := fun hp' => by
    have h1 := (put_any hg).2 hp' [] []
    have h2 := (put_any hg).1
    rw [st_os (hp := hp') (os := []) (cs := []) h2.2.2 h2.1] at h1
    exact h1
  unfold MS.code
  refine wp_seq (next_rel (m := l.length) hok.n1 hok.h1 hok.p1 hok.g1 hr' hx (by rw [hφ]; exact hi') hj' e2 he hg' rfl (fun hz a1 hr1 => ?_) fun e hel X1 a1 hle1 hH1 hr1 => ?_)
  · -- nothing is left
    rw [rem_nil e2s hz] at hinv
    obtain ⟨⟨os, v, hv⟩, hpoe⟩ := endP t hinv
    obtain ⟨σ1, g1, g2, g3, g4, g5, g6⟩ := hv rest (.mapIter (some (X.φ j)) l.length seen l.length) (.map es l.length)
    obtain ⟨_, σe', q1, q2, q3⟩ := mEnd_some g1
    have hσ : σe' = { σe with os := os } := by
      have := (put_any he).2 (hpf t (.obj (.mapIter (some (X.φ j)) l.length seen l.length)) (.obj (.map es l.length))) os []
      have h3 : (some σe' : Option St) = some { σe with hp := _, os := os, cs := [] } := q1.symm.trans this
      injection h3 with h3
      rw [h3]
      exact st_hp (put_any he).1.2.1 (put_any he).1.1
    have hrr : Rel X' σe' a1 := by
      have := hr1.cs os σe.cs
      rw [hσ]; exact this
    refine opsRun_sim E.hkp E.kk_ok _ hrr q2 g3 fun X2 a2 hle2 hr2 => ?_
    refine wp_seq (wp_cond_false (ev_rel hr2 q3) (wp_exit ?_))
    have hk : Keeps (dstsC body) (headS nt (zipT slots (vals t) ++ (zipT ro rov ++ rest)) (hpf t (.obj (.mapIter (some (X.φ j)) l.length seen l.length)) (.obj (.map es l.length))) os) σ1 :=
      ((put_keeps q1).mono p1).trans ((opsRun_keeps _ q2).mono d1)
    have hh := hr2.head (m := m) (vs' := outs) hss' hk g2 (by rw [g5]; exact g4) hrest hids (by rw [g5]; exact g6) []
    rw [g5] at hh
    -- the map and its iterator as blocks again
    have hle3 : X.le (X2.cut m) := cutle (hle.trans hle2)
    have hHc : (X2.cut m).H = fun k => (hpf t (.obj (.mapIter (some (X.φ j)) l.length seen l.length)) (.obj (.map es l.length)))[k]? := hh.heap
    have hci : (X2.cut m).H i = some (.obj (.mapIter (some (X.φ j)) l.length seen l.length)) := by rw [hHc]; exact (hget t _ _).1
    have hcj : (X2.cut m).H j = some (.obj (.map es l.length)) := by rw [hHc]; exact (hget t _ _).2
    obtain ⟨k1, k2⟩ := obj_mp (X := X2.cut m) hr.hrel hXj e1 hle3 hh.hrel hcj
    obtain ⟨k3, k4⟩ := hh.setH (j := j) (b := .mp kt vt ka va l) hcj rfl rfl (fun _ _ h => by cases h) (k2.blk j _ (by simp only [Ctx.setH, upd_same]))
    rw [(hset _ _ _ _).2] at k4
    have hji : j ≠ i := fun h => hij h.symm
    obtain ⟨k5, k6⟩ := k4.setH (j := i) (b := .iter j l.length false) (b0 := .obj (.mapIter (some (X.φ j)) l.length seen l.length)) (by simp only [Ctx.setH, upd_other _ _ hij]; exact hci) rfl rfl (fun _ _ h => by cases h) ⟨⟨.mp kt vt ka va l, by simp only [Ctx.setH, upd_other _ _ hji, upd_same], rfl⟩, fun h => by cases h⟩
    rw [(hset _ _ _ _).1, hpoe] at k6
    exact hq (((X2.cut m).setH j (.mp kt vt ka va l)).setH i (.iter j l.length false)) a2 ((hle3.trans k3).trans k5) k6
  · -- an entry comes
    have hle01 := hle.trans hle1
    obtain ⟨kk, p0, hk1, hk2, hk3⟩ := left_at e2s hel
    have hmem : (e, p0) ∈ pairsOf es l' := by
      refine List.mem_iff_getElem?.2 ⟨kk, ?_⟩
      unfold pairsOf
      rw [List.getElem?_zip_eq_some]
      exact ⟨by simpa using hk1, hk2⟩
    obtain ⟨A, p, B, hpz, hrem, hrem'⟩ := filter_one (zip_nodup e2.2.2.1 e2s) ⟨p0, hmem⟩ hk3
    have hrem : remOf es l' seen = A ++ p :: B := hrem
    have hrem' : remOf es l' (seen.push e.born) = A ++ B := hrem'
    have hpl : ∃ k : Nat, es[k]? = some e ∧ l'[k]? = some p := by
      obtain ⟨k, hk⟩ := List.mem_iff_getElem?.1 hpz
      unfold pairsOf at hk
      rw [List.getElem?_zip_eq_some] at hk
      exact ⟨k, by simpa using hk.1, hk.2⟩
    obtain ⟨kp, hkp1, hkp2⟩ := hpl
    rw [hrem] at hinv
    obtain ⟨t', hI2, os, v, hv⟩ := goP t A p B hinv
    obtain ⟨h1, σ3, g1, g2, g3, g4, g5, g6, g7, g8⟩ := hv rest (.mapIter (some (X.φ j)) l.length (seen.push e.born) l.length) (.map es l.length)
    obtain ⟨σg', σ1, σp, σ2, e3', q1, q2, q3, q4, q5, q6, q7, q8, q9⟩ := mGo_some g1
    subst q9
    have hσ : σg' = { σg with hp := hpf t (.obj (.mapIter (some (X.φ j)) l.length (seen.push e.born) l.length)) (.obj (.map es l.length)), os := os } := by
      have := (put_any hg).2 (hpf t (.obj (.mapIter (some (X.φ j)) l.length (seen.push e.born) l.length)) (.obj (.map es l.length))) os []
      have h3 : (some σg' : Option St) = some { σg with hp := _, os := os, cs := [] } := q1.symm.trans this
      injection h3 with h3
      rw [h3]
      exact st_cs (put_any hg).1.1
    have hrr : Rel X1 σg' a1 := by
      have h0 : Rel X1 { σg with hp := hpf t (.obj (.mapIter (some (X.φ j)) l.length (seen.push e.born) l.length)) (.obj (.map es l.length)) } a1 := by
        rw [← (hset t (.obj (.mapIter (some (X.φ j)) l.length seen l.length)) (.obj (.map es l.length)) (.obj (.mapIter (some (X.φ j)) l.length (seen.push e.born) l.length))).1]
        rw [hφ] at hr1
        exact hr1
      have := h0.cs os σg.cs
      rw [hσ]; exact this
    have c2 : ∀ c ∈ σ2.cs, c = true := fun c hc => by
      obtain ⟨cs, hcs⟩ := exec_suf s.R hlc q7
      exact g5 c (by rw [hcs]; exact List.mem_append_right _ hc)
    have c1 : ∀ c ∈ σ1.cs, c = true := fun c hc => by
      obtain ⟨cs, hcs⟩ := opsRun_suf _ q6
      have := (put_any q5).1.1
      exact c2 c (by rw [hcs, this]; exact List.mem_append_right _ hc)
    have hkeep : Keeps (dstsC body) (headS nt (zipT slots (vals t) ++ (zipT ro rov ++ rest)) (hpf t (.obj (.mapIter (some (X.φ j)) l.length (seen.push e.born) l.length)) (.obj (.map es l.length))) os) σ3 :=
      ((((put_keeps q1).mono p1).trans ((opsRun_keeps _ q2).mono d1)).trans ((put_keeps q5).mono p2)).trans (((opsRun_keeps _ q6).mono d2).trans ((exec_keeps s.R hkp q7).mono d3))
    refine opsRun_sim E.hkp E.kk_ok _ hrr q2 c1 fun X2 a2 hle2 hr2 => ?_
    have hle02 := hle01.trans hle2
    have hφ2 : X2.φ j = X.φ j := (hle02.loc j _ hXj rfl).2
    have hH2 : X2.H = fun k => σ1.hp[k]? := hr2.heap
    refine wp_seq (wp_cond_true (ev_rel hr2 q3) (wp_skip (wp_block (wp_seq ?_))))
    refine entry_rel' (m := l.length) hok.n2 hok.h2 hok.p2 hok.g2 hr2 (ev_rel hr2 q4) (by rw [hH2, hφ2]; exact g2) (by rw [hH2]; exact g3) e2 (mem_left hel).1 (VR.mono hle02 _ _ (entry_rel hflat e3 hkp2 hkp1 hka hva)) q5 fun a3 hr3 => ?_
    refine opsRun_sim E.hkp E.kk_ok _ hr3 q6 c2 fun X4 a4 hle4 hr4 => ?_
    refine exec_sim E.hm E.hkp E.kx_ok E.kk_ok s.R hlc q7 g5 hr4 fun X5 a5 hle5 hr5 => ?_
    have hh := hr5.head (m := m) (vs' := vals t') hss' hkeep g4 (by rw [g7]; exact g6) hrest hids (by rw [g7]; exact g8) []
    rw [g7] at hh
    have done : ∃ q : S × Array Nat, (∃ X', X.le X' ∧ X'.w = X5.w ∧ Rel X' (headS nt (zipT slots (vals q.1) ++ (zipT ro rov ++ rest)) (hpf q.1 (.obj (.mapIter (some (X.φ j)) l.length q.2 l.length)) (.obj (.map es l.length))) []) a5 ∧ InvP q.1 (remOf es l' q.2)) ∧ (remOf es l' q.2).length < (remOf es l' seen).length :=
      ⟨(t', seen.push e.born), ⟨X5.cut m, cutle (hle02.trans (hle4.trans hle5)), rfl, hh, by rw [hrem']; exact hI2⟩, by
        show (remOf es l' (seen.push e.born)).length < _
        rw [hrem, hrem']; simp⟩
    rcases q8 with rfl | rfl
    · exact done
    · simp only [XE.out, Exit.inBlock, if_true]; exact done
end
section
open Go Go.RowKit
variable {P : Program}

/-! ### A list that grew in a loop, in an array that nobody else has, becomes an own array -/

/-- Nothing of it lies elsewhere. -/
def CT.bareP : (t : CT) → t.den → Prop
  | .sl _, l => l = []
  | .mdl _ _ _ _, _ => False
  | .pair c cs, v => c.bareP v.1 ∧ cs.bareP v.2
  | _, _ => True

theorem RelT.bare : ∀ (t : CT) (v : t.den) {C : Nat → Value → Prop} {IC IC' : Addr → Value → Prop}, t.bareP v → RelT t v C IC → RelT t v C IC'
  | .int _, _, _, _, _, _, h => h
  | .bool, _, _, _, _, _, h => h
  | .str, _, _, _, _, _, h => h
  | .sl row, l, _, _, _, hb, ⟨A, n, cap, h1, h2, h3, h4, _⟩ => by
    have hb' : l = [] := hb
    exact ⟨A, n, cap, h1, h2, h3, h4, .inl (by rw [h2, hb']; rfl)⟩
  | .mdl _ _ _ _, _, _, _, _, hb, _ => hb.elim
  | .unit, _, _, _, _, _, _ => trivial
  | .pair c cs, v, _, _, _, hb, h => ⟨RelT.bare c v.1 hb.1 h.1, RelT.bare cs v.2 hb.2 h.2⟩

section
variable {Y : Ctx} {n v : Nat} {e : TypeId} {row : CT} {l : List row.den}

end

/-! #### Values that are known to be the same behind the loop -/
def All2 (R : AV → AV → Prop) : List AV → List AV → Prop
  | [], [] => True
  | a :: as, b :: bs => R a b ∧ All2 R as bs
  | _, _ => False
theorem All2.len {R : AV → AV → Prop} : ∀ {as bs : List AV}, All2 R as bs → as.length = bs.length
  | [], [], _ => rfl
  | [], _ :: _, h => by cases h
  | _ :: _, [], h => by cases h
  | _ :: _, _ :: _, h => by simp [All2.len h.2]

end
end Go.Eng
