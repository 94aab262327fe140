import Derived.Scope
import Derived.Test.YthdgoefjkfafkaaGreatDoorEngP
set_option linter.unusedVariables false
namespace Go.Eng
section
open Go Go.RowKit
variable {P : Program}

/-- The row of an operation, with its number. -/
inductive Ent : List DRec → Nat → DRec → Prop where
  | here (r : DRec) (L : List DRec) : Ent (r :: L) L.length r
  | next {r : DRec} {L : List DRec} {k : Nat} {r' : DRec} (h : Ent L k r') : Ent (r :: L) k r'

theorem Ent.lt {L : List DRec} {k : Nat} {r : DRec} (h : Ent L k r) : k < L.length := by
  induction h with
  | here r L => simp
  | next h ih => simp; omega

theorem Ent.inv {r0 : DRec} {L : List DRec} {k : Nat} {r : DRec} (h : Ent (r0 :: L) k r) : (k = L.length ∧ r = r0) ∨ Ent L k r := by
  cases h with
  | here => exact .inl ⟨rfl, rfl⟩
  | next h => exact .inr h

theorem Ent.split {L : List DRec} {k : Nat} {r : DRec} (h : Ent L k r) : ∃ A B, L = A ++ r :: B ∧ B.length = k := by
  induction h with
  | here r L => exact ⟨[], L, rfl, rfl⟩
  | next h ih =>
    obtain ⟨A, B, e1, e2⟩ := ih
    exact ⟨_ :: A, B, by rw [e1]; rfl, e2⟩

theorem Ent.of_split {A B : List DRec} {r : DRec} : Ent (A ++ r :: B) B.length r := by
  induction A with
  | nil => exact .here r B
  | cons x A ih => exact .next ih

theorem findU_none {x : Nat} : ∀ {l : List (Nat × AB)}, findU x l = none ↔ x ∉ l.map (·.1)
  | [] => by simp [findU]
  | p :: r => by
    have ih := findU_none (x := x) (l := r)
    simp only [findU, List.map_cons, List.mem_cons, not_or]
    cases hr : findU x r with
    | some b =>
      rw [hr] at ih
      simp only [reduceCtorEq, false_iff, Classical.not_not] at ih
      simp [ih]
    | none =>
      rw [hr] at ih
      simp only [true_iff] at ih
      by_cases e : p.1 = x
      · simp [e]
      · simp only [Nat.beq_eq, if_neg e, true_iff]
        exact ⟨fun h => e h.symm, ih⟩

theorem ups_find (x : Nat) : ∀ (l : List (Nat × AB)) (H : Nat → Option AB), ups H l x = match findU x l with | some b => some b | none => H x
  | [], H => rfl
  | p :: r, H => by
    show ups (upd H p.1 (some p.2)) r x = _
    rw [ups_find x r]
    simp only [findU]
    cases findU x r with
    | some b => rfl
    | none =>
      by_cases e : p.1 = x
      · subst e; simp [upd_same]
      · simp only [Nat.beq_eq, if_neg e]
        exact upd_other _ _ fun h => e h.symm

theorem writes_iff {r : DRec} {s : Nat} : r.writes s = true ↔ r.dst = some s := by
  unfold DRec.writes
  cases r.dst with
  | none => simp
  | some d => simp

/-- Two listings alike at the operations that write here. -/
theorem slotAt_congr {T0 : Nat → Option AV} {S S' : Nat → Bool} {s : Nat} : ∀ {L : List DRec}, (∀ k r, Ent L k r → r.dst = some s → S k = S' k) → slotAt T0 S L s = slotAt T0 S' L s
  | [], _ => rfl
  | r :: L, h => by
    have ih := slotAt_congr (T0 := T0) (L := L) fun k r' he hd => h k r' (.next he) hd
    simp only [slotAt]
    cases hw : r.writes s with
    | false => simpa using ih
    | true => rw [h _ r (.here r L) (writes_iff.1 hw), ih]

/-- Does an operation write here? -/
def DRec.puts (r : DRec) (x : Nat) : Prop := x ∈ r.u.map (·.1) ∨ ∃ lo vs, r.p = some (x, lo, vs)

theorem at_not {r : DRec} {x : Nat} (h : ¬ r.puts x) (a : Option AB) : r.at x a = a := by
  unfold DRec.at
  have h1 : findU x r.u = none := findU_none.2 fun hm => h (.inl hm)
  rw [h1]
  cases hp : r.p with
  | none => rfl
  | some q =>
    obtain ⟨k, lo, vs⟩ := q
    by_cases e : k = x
    · exact absurd (.inr ⟨lo, vs, by rw [hp, e]⟩) h
    · simp only [Nat.beq_eq, if_neg e]

theorem heapAt_congr {H0 : Nat → Option AB} {S S' : Nat → Bool} {x : Nat} : ∀ {L : List DRec}, (∀ j r, Ent L j r → r.puts x → S j = S' j) → heapAt H0 S L x = heapAt H0 S' L x
  | [], _ => rfl
  | r :: L, h => by
    have ih := heapAt_congr (H0 := H0) (L := L) fun j r' he hd => h j r' (.next he) hd
    simp only [heapAt]
    by_cases hw : r.puts x
    · rw [h _ r (.here r L) hw, ih]
    · rw [at_not hw, at_not hw, ih]
      split <;> split <;> rfl

/-- Two accounts of a block that say the same of a piece. -/
def Agree (lo n : Nat) (a b : Option AB) : Prop := a = b ∨ ∃ cs cs', a = some (.cells cs) ∧ b = some (.cells cs') ∧ cs.length = cs'.length ∧ ∀ q, lo ≤ q → q < lo + n → cs[q]? = cs'[q]?

theorem piece_get (cs vs : List AC) (lo q : Nat) (h : lo + vs.length ≤ cs.length) : (cs.take lo ++ (vs ++ cs.drop (lo + vs.length)))[q]? = if lo ≤ q ∧ q < lo + vs.length then vs[q - lo]? else cs[q]? := by
  by_cases h1 : q < lo
  · rw [if_neg (by omega), List.getElem?_append_left (by rw [List.length_take]; omega), List.getElem?_take_of_lt h1]
  · rw [List.getElem?_append_right (by rw [List.length_take]; omega), List.length_take, Nat.min_eq_left (by omega)]
    by_cases h2 : q < lo + vs.length
    · rw [if_pos ⟨by omega, h2⟩, List.getElem?_append_left (by omega)]
    · rw [if_neg (by omega), List.getElem?_append_right (by omega), List.getElem?_drop]
      congr 1; omega

theorem piece_len (cs vs : List AC) (lo : Nat) (h : lo + vs.length ≤ cs.length) : (cs.take lo ++ (vs ++ cs.drop (lo + vs.length))).length = cs.length := by
  simp only [List.length_append, List.length_take, List.length_drop]; omega

theorem Agree.patch {lo n : Nat} {a b : Option AB} (h : Agree lo n a b) (l : Nat) (vs : List AC) : Agree lo n (patchC l vs a) (patchC l vs b) := by
  rcases h with rfl | ⟨cs, cs', rfl, rfl, hl, hg⟩
  · exact .inl rfl
  · simp only [patchC]
    by_cases hf : l + vs.length ≤ cs.length
    · rw [if_pos hf, if_pos (by omega)]
      refine .inr ⟨_, _, rfl, rfl, by rw [piece_len _ _ _ hf, piece_len _ _ _ (by omega)]; exact hl, fun q h1 h2 => ?_⟩
      rw [piece_get _ _ _ _ hf, piece_get _ _ _ _ (by omega), hg q h1 h2]
    · rw [if_neg hf, if_neg (by omega)]
      exact .inr ⟨cs, cs', rfl, rfl, hl, hg⟩

theorem Agree.symm {lo n : Nat} {a b : Option AB} (h : Agree lo n a b) : Agree lo n b a := by
  rcases h with rfl | ⟨cs, cs', h1, h2, hl, hg⟩
  · exact .inl rfl
  · exact .inr ⟨cs', cs, h2, h1, hl.symm, fun q q1 q2 => (hg q q1 q2).symm⟩

/-- A piece that is written elsewhere. -/
theorem Agree.skip {lo n : Nat} {a b : Option AB} (h : Agree lo n a b) (l : Nat) (vs : List AC) (ho : ¬ (l < lo + n ∧ lo < l + vs.length)) : Agree lo n (patchC l vs a) b := by
  have one : ∀ cs : List AC, Agree lo n (patchC l vs (some (.cells cs))) (some (.cells cs)) := by
    intro cs
    simp only [patchC]
    by_cases hf : l + vs.length ≤ cs.length
    · rw [if_pos hf]
      refine .inr ⟨_, _, rfl, rfl, piece_len _ _ _ hf, fun q h1 h2 => ?_⟩
      rw [piece_get _ _ _ _ hf, if_neg (by omega)]
    · rw [if_neg hf]; exact .inl rfl
  rcases h with rfl | ⟨cs, cs', rfl, rfl, hl, hg⟩
  · cases a with
    | none => exact .inl rfl
    | some x => cases x with
      | cells cs => exact one cs
      | arr row l => exact .inl rfl
      | tok e v => exact .inl rfl
      | mp => exact .inl rfl
      | obj => exact .inl rfl
      | iter => exact .inl rfl
      | dead => exact .inl rfl
      | bld => exact .inl rfl
      | buf => exact .inl rfl
      | roc => exact .inl rfl
      | rom => exact .inl rfl
  · rcases one cs with h0 | ⟨c1, c2, e1, e2, l1, g1⟩
    · rw [h0]; exact .inr ⟨cs, cs', rfl, rfl, hl, hg⟩
    · simp only [Option.some.injEq, AB.cells.injEq] at e2
      subst e2
      exact .inr ⟨c1, cs', e1, rfl, l1.trans hl, fun q h1 h2 => (g1 q h1 h2).trans (hg q h1 h2)⟩

/-- Does an operation write in a piece? -/
def DRec.putsIn (r : DRec) (x lo n : Nat) : Prop := x ∈ r.u.map (·.1) ∨ ∃ l vs, r.p = some (x, l, vs) ∧ l < lo + n ∧ lo < l + vs.length

theorem at_agree {r : DRec} {x lo n : Nat} {a b : Option AB} (h : Agree lo n a b) : Agree lo n (r.at x a) (r.at x b) := by
  unfold DRec.at
  cases findU x r.u with
  | some c => exact .inl rfl
  | none =>
    simp only
    cases r.p with
    | none => exact h
    | some q =>
      obtain ⟨k, l, vs⟩ := q
      simp only
      split
      · exact h.patch l vs
      · exact h

theorem at_skip {r : DRec} {x lo n : Nat} {a b : Option AB} (hn : ¬ r.putsIn x lo n) (h : Agree lo n a b) : Agree lo n (r.at x a) b := by
  unfold DRec.at
  rw [findU_none.2 fun hm => hn (.inl hm)]
  simp only
  cases hp : r.p with
  | none => exact h
  | some q =>
    obtain ⟨k, l, vs⟩ := q
    simp only
    split
    · rename_i e
      simp only [Nat.beq_eq] at e
      subst e
      exact h.skip l vs fun ho => hn (.inr ⟨l, vs, hp, ho⟩)
    · exact h

theorem heapAt_agree {H0 : Nat → Option AB} {S S' : Nat → Bool} {x lo n : Nat} : ∀ {L : List DRec}, (∀ j r, Ent L j r → r.putsIn x lo n → S j = S' j) → Agree lo n (heapAt H0 S L x) (heapAt H0 S' L x)
  | [], _ => .inl rfl
  | r :: L, h => by
    have ih := heapAt_agree (H0 := H0) (L := L) fun j r' he hd => h j r' (.next he) hd
    simp only [heapAt]
    by_cases hw : r.putsIn x lo n
    · rw [h _ r (.here r L) hw]
      split
      · exact at_agree ih
      · exact ih
    · split <;> split
      · exact at_agree ih
      · exact at_skip hw ih
      · exact (at_skip hw ih.symm).symm
      · exact ih

/-- Only what stands ahead of a place. -/
theorem slotAt_first {T0 : Nat → Option AV} {B : List DRec} {s : Nat} : ∀ {A : List DRec}, slotAt T0 (fun j => Nat.blt j B.length) (A ++ B) s = slotAt T0 all B s
  | [] => slotAt_congr fun k r he _ => by
    have h := he.lt
    simp only [List.nil_append] at h
    simp [all, h]
  | r :: A => by
    have ih := slotAt_first (T0 := T0) (B := B) (s := s) (A := A)
    simp only [List.cons_append, slotAt]
    have : Nat.blt (A ++ B).length B.length = false := by
      cases h : Nat.blt (A ++ B).length B.length with
      | false => rfl
      | true => simp only [Nat.blt_eq, List.length_append] at h; omega
    rw [this, Bool.and_false]
    exact ih

theorem heapAt_first {H0 : Nat → Option AB} {B : List DRec} {x : Nat} : ∀ {A : List DRec}, heapAt H0 (fun j => Nat.blt j B.length) (A ++ B) x = heapAt H0 all B x
  | [] => heapAt_congr fun k r he _ => by
    have h := he.lt
    simp only [List.nil_append] at h
    simp [all, h]
  | r :: A => by
    have ih := heapAt_first (H0 := H0) (B := B) (x := x) (A := A)
    simp only [List.cons_append, heapAt]
    have : Nat.blt (A ++ B).length B.length = false := by
      cases h : Nat.blt (A ++ B).length B.length with
      | false => rfl
      | true => simp only [Nat.blt_eq, List.length_append] at h; omega
    rw [this]
    exact ih

theorem mem_ids_key {r : DRec} {k : Nat} (h : k ∈ r.keys) : k ∈ r.ids := List.mem_append_right _ (List.mem_append_left _ h)
theorem mem_ids_rh {r : DRec} {k : Nat} (h : k ∈ r.rh) : k ∈ r.ids := List.mem_append_left _ h
theorem mem_ids_rp {r : DRec} {k lo n : Nat} (h : (k, lo, n) ∈ r.rp) : k ∈ r.ids := List.mem_append_right _ (List.mem_append_right _ (List.mem_append_left _ (List.mem_map.2 ⟨_, h, rfl⟩)))
theorem mem_ids_p {r : DRec} {k lo : Nat} {vs : List AC} (h : r.p = some (k, lo, vs)) : k ∈ r.ids := by
  refine List.mem_append_right _ (List.mem_append_right _ (List.mem_append_right _ ?_))
  rw [h]; exact List.mem_cons_self ..

structure Apart (r r' : DRec) : Prop where
  dst : ∀ d, r.dst = some d → r'.dst ≠ some d ∧ d ∉ r'.rs
  dst' : ∀ d, r'.dst = some d → d ∉ r.rs
  key : ∀ k ∈ r.keys, k ∉ r'.ids
  key' : ∀ k ∈ r'.keys, k ∉ r.ids
  p : ∀ k lo vs, r.p = some (k, lo, vs) → r'.touches k lo vs.length = false
  p' : ∀ k lo vs, r'.p = some (k, lo, vs) → r.touches k lo vs.length = false

theorem meets_spec {r r' : DRec} (h : r.meets r' = false) : Apart r r' := by
  unfold DRec.meets at h
  simp only [Bool.or_eq_false_iff] at h
  obtain ⟨⟨⟨⟨⟨h1, h2⟩, h3⟩, h4⟩, h5⟩, h6⟩ := h
  refine ⟨fun d hd => ?_, fun d hd => ?_, fun k hk => ?_, fun k hk => ?_, fun k lo vs hp => ?_, fun k lo vs hp => ?_⟩
  · rw [hd] at h1
    simp only [Bool.or_eq_false_iff] at h1
    refine ⟨fun e => ?_, fun hm => ?_⟩
    · have := writes_iff.2 e
      rw [h1.1] at this; cases this
    · have := isIn_iff.2 hm
      rw [h1.2] at this; cases this
  · rw [hd] at h2
    simp only at h2
    intro hm
    have := isIn_iff.2 hm
    rw [h2] at this; cases this
  · exact fun hm => List.any_eq_false.1 h3 k hk (isIn_iff.2 hm)
  · exact fun hm => List.any_eq_false.1 h4 k hk (isIn_iff.2 hm)
  · rw [hp] at h5; exact h5
  · rw [hp] at h6; exact h6

theorem touches_p {r : DRec} {k lo n l : Nat} {vs : List AC} (h : r.touches k lo n = false) (hp : r.p = some (k, l, vs)) : ¬ (lo < l + vs.length ∧ l < lo + n) := by
  rintro ⟨h1, h2⟩
  have : r.touches k lo n = true := by
    unfold DRec.touches
    rw [hp]
    simp [h1, h2]
  rw [h] at this; cases this

theorem touches_rp {r : DRec} {k lo n l m : Nat} (h : r.touches k lo n = false) (hp : (k, l, m) ∈ r.rp) : ¬ (lo < l + m ∧ l < lo + n) := by
  rintro ⟨h1, h2⟩
  have : r.touches k lo n = true := by
    unfold DRec.touches
    have : r.rp.any (fun q => Nat.beq q.1 k && (Nat.blt lo (q.2.1 + q.2.2) && Nat.blt q.2.1 (lo + n))) = true := List.any_eq_true.2 ⟨_, hp, by simp [h1, h2]⟩
    rw [this]; simp
  rw [h] at this; cases this

theorem touches_rh {r : DRec} {k lo n : Nat} (h : r.touches k lo n = false) : k ∉ r.rh := fun hm => by
  have : r.touches k lo n = true := by
    unfold DRec.touches
    rw [isIn_iff.2 hm]; simp
  rw [h] at this; cases this

theorem patch_comm {l l' : Nat} {vs vs' : List AC} (h : ¬ (l < l' + vs'.length ∧ l' < l + vs.length)) (a : Option AB) : patchC l vs (patchC l' vs' a) = patchC l' vs' (patchC l vs a) := by
  cases a with
  | none => rfl
  | some x => cases x with
    | arr row l => rfl
    | tok e v => rfl
    | mp => rfl
    | obj => rfl
    | iter => rfl
    | dead => rfl
    | bld => rfl
    | buf => rfl
    | roc => rfl
    | rom => rfl
    | cells cs =>
      simp only [patchC]
      by_cases h1 : l + vs.length ≤ cs.length
      · by_cases h2 : l' + vs'.length ≤ cs.length
        · rw [if_pos h1, if_pos h2]
          dsimp only
          rw [if_pos (by rw [piece_len _ _ _ h2]; exact h1), if_pos (by rw [piece_len _ _ _ h1]; exact h2)]
          have p1 := piece_len cs vs' l' h2
          have p2 := piece_len cs vs l h1
          have g1 := piece_get cs vs' l' 
          have g2 := piece_get cs vs l
          generalize hc1 : (cs.take l' ++ (vs' ++ cs.drop (l' + vs'.length))) = c1 at *
          generalize hc2 : (cs.take l ++ (vs ++ cs.drop (l + vs.length))) = c2 at *
          congr 2
          apply List.ext_getElem?
          intro q
          rw [piece_get c1 vs l q (by omega), piece_get c2 vs' l' q (by omega), g1 q h2, g2 q h1]
          by_cases q1 : l ≤ q ∧ q < l + vs.length
          · rw [if_pos q1, if_neg (by omega), if_pos q1]
          · rw [if_neg q1, if_neg q1]
        · rw [if_pos h1, if_neg h2]
          dsimp only
          rw [if_pos h1, if_neg (by rw [piece_len _ _ _ h1]; exact h2)]
      · by_cases h2 : l' + vs'.length ≤ cs.length
        · rw [if_neg h1, if_pos h2]
          dsimp only
          rw [if_neg (by rw [piece_len _ _ _ h2]; exact h1), if_pos h2]
        · rw [if_neg h1, if_neg h2]
          dsimp only
          rw [if_neg h1, if_neg h2]

theorem at_comm {r a : DRec} (h : Apart r a) (x : Nat) (b : Option AB) : a.at x (r.at x b) = r.at x (a.at x b) := by
  by_cases h1 : r.puts x
  · by_cases h2 : a.puts x
    · rcases h1 with h1 | ⟨l, vs, hp⟩
      · have := h.key x (List.mem_cons_of_mem _ h1)
        rcases h2 with h2 | ⟨l', vs', hp'⟩
        · exact absurd (mem_ids_key (List.mem_cons_of_mem _ h2)) this
        · exact absurd (mem_ids_p hp') this
      · rcases h2 with h2 | ⟨l', vs', hp'⟩
        · exact absurd (mem_ids_p hp) (h.key' x (List.mem_cons_of_mem _ h2))
        · have hne := touches_p (h.p x l vs hp) hp'
          have u1 : findU x r.u = none := findU_none.2 fun hm => (h.key x (List.mem_cons_of_mem _ hm)) (mem_ids_p hp')
          have u2 : findU x a.u = none := findU_none.2 fun hm => (h.key' x (List.mem_cons_of_mem _ hm)) (mem_ids_p hp)
          simp only [DRec.at, u1, u2, hp, hp', Nat.beq_refl, if_true]
          exact patch_comm (by omega) b
    · rw [at_not h2, at_not h2]
  · rw [at_not h1, at_not h1]

/-- One more is done: its work may be thought of as the last. -/
theorem heapAt_next {H0 : Nat → Option AB} {S S' : Nat → Bool} {r : DRec} {B : List DRec} {x : Nat} (hS1 : S' B.length = true) (hi : S B.length = false) (hS2 : ∀ j, j ≠ B.length → S' j = S j) :
    ∀ {A : List DRec}, (∀ j a, Ent (A ++ r :: B) j a → B.length < j → S j = true → Apart r a) → heapAt H0 S' (A ++ r :: B) x = r.at x (heapAt H0 S (A ++ r :: B) x)
  | [], _ => by
    simp only [List.nil_append, heapAt, hS1, hi, if_true]
    rw [if_neg (by simp)]
    congr 1
    exact heapAt_congr fun j a he _ => hS2 j (by have := he.lt; omega)
  | a :: A, h => by
    have ih := heapAt_next (H0 := H0) (x := x) hS1 hi hS2 (A := A) fun j a' he hb hs => h j a' (.next he) hb hs
    simp only [List.cons_append, heapAt]
    have hj : B.length < (A ++ r :: B).length := by simp only [List.length_append, List.length_cons]; omega
    rw [hS2 _ (by omega)]
    split
    · rename_i hs
      rw [ih]
      exact at_comm (h _ a (.here a (A ++ r :: B)) hj hs) x _
    · exact ih
end
section
open Go Go.RowKit
variable {P : Program}

/-- Which operations must have come ahead of each, as bits. -/
def maskOf (acc : List Nat) (o : Oper) : Nat :=
  o.after.toList.foldl (fun s e => if Region.binds .any e then s ||| (2 ^ e.on ||| acc.getD e.on 0) else s) 0

def masks : List Oper → List Nat → List Nat
  | [], acc => acc
  | o :: r, acc => masks r (acc ++ [maskOf acc o])

/-- What has been done holds all that it waits for. -/
def Closed (ops : Array Oper) (S : Nat → Bool) : Prop := ∀ (j : Nat) (o : Oper), ops[j]? = some o → S j = true → ∀ e ∈ o.after, Region.binds .any e = true → S e.on = true

def MOk (ops : Array Oper) (acc : List Nat) : Prop :=
  ∀ (k m : Nat), acc[k]? = some m → ∀ S, Closed ops S → (∀ (o : Oper), ops[k]? = some o → ∀ e ∈ o.after, Region.binds .any e = true → S e.on = true) → ∀ i, m.testBit i = true → S i = true

theorem maskOf_spec {acc : List Nat} {i : Nat} : ∀ (l : List Edge) (s : Nat), (l.foldl (fun s e => if Region.binds .any e then s ||| (2 ^ e.on ||| acc.getD e.on 0) else s) s).testBit i = true →
    s.testBit i = true ∨ ∃ e ∈ l, Region.binds .any e = true ∧ (i = e.on ∨ (acc.getD e.on 0).testBit i = true)
  | [], s, h => .inl h
  | e :: l, s, h => by
    simp only [List.foldl_cons] at h
    rcases maskOf_spec l _ h with h | ⟨e', h1, h2⟩
    · split at h
      · rename_i hb
        simp only [Nat.testBit_or, Bool.or_eq_true] at h
        rcases h with h | h | h
        · exact .inl h
        · refine .inr ⟨e, List.mem_cons_self .., hb, .inl ?_⟩
          rw [Nat.testBit_two_pow] at h
          simpa using (of_decide_eq_true h).symm
        · exact .inr ⟨e, List.mem_cons_self .., hb, .inr h⟩
      · exact .inl h
    · exact .inr ⟨e', List.mem_cons_of_mem _ h1, h2⟩

theorem masks_ok {ops : Array Oper} : ∀ (l : List Oper) (acc : List Nat), (∀ (j : Nat) o, l[j]? = some o → ops[acc.length + j]? = some o) → MOk ops acc → MOk ops (masks l acc)
  | [], acc, _, h => h
  | o :: r, acc, hl, h => by
    simp only [masks]
    refine masks_ok r _ (fun j o' hj => ?_) ?_
    · have := hl (j + 1) o' (by simpa using hj)
      simp only [List.length_append, List.length_singleton]
      rw [show acc.length + 1 + j = acc.length + (j + 1) by omega]
      exact this
    · intro k m hk S hS ho i hi
      by_cases hlt : k < acc.length
      · rw [List.getElem?_append_left hlt] at hk
        exact h k m hk S hS ho i hi
      · rw [List.getElem?_append_right (by omega)] at hk
        have hk0 : k = acc.length := by
          cases hkk : k - acc.length with
          | zero => omega
          | succ n => rw [hkk] at hk; simp at hk
        subst hk0
        simp only [Nat.sub_self, List.getElem?_cons_zero, Option.some.injEq] at hk
        subst hk
        have hoo : ops[acc.length]? = some o := by simpa using hl 0 o rfl
        rcases maskOf_spec _ _ hi with h0 | ⟨e, he, hb, h1⟩
        · simp at h0
        · have heS := ho o hoo e (by simpa using he) hb
          rcases h1 with rfl | h1
          · exact heS
          · cases hm : acc[e.on]? with
            | none =>
              rw [List.getD_eq_getElem?_getD, hm] at h1
              simp at h1
            | some m' =>
              rw [List.getD_eq_getElem?_getD, hm] at h1
              simp only [Option.getD_some] at h1
              exact h e.on m' hm S hS (fun o' ho' e' he' hb' => hS e.on o' ho' heS e' he' hb') i h1

/-- Each operation's row goes with every other's. -/
def okWith (m : Nat) (r : DRec) : List DRec → Bool
  | [] => true
  | r' :: L => (!(r'.meets r) || m.testBit L.length) && okWith m r L

def okAll (ms : List Nat) : List DRec → Bool
  | [] => true
  | r :: L => okWith (ms.getD L.length 0) r L && okAll ms L

theorem okWith_spec {m : Nat} {r : DRec} {k : Nat} {r' : DRec} (L : List DRec) (h : okWith m r L = true) (he : Ent L k r') (hm : r'.meets r = true) : m.testBit k = true := by
  induction L with
  | nil => cases he
  | cons r0 L ih =>
    simp only [okWith, Bool.and_eq_true, Bool.or_eq_true, Bool.not_eq_true'] at h
    rcases he.inv with ⟨e1, e2⟩ | he
    · rw [e1]
      rw [e2] at hm
      exact h.1.resolve_left (by rw [hm]; simp)
    · exact ih h.2 he

theorem okAll_spec {ms : List Nat} (L : List DRec) (h : okAll ms L = true) {k k' : Nat} {r r' : DRec} (he : Ent L k r) (he' : Ent L k' r') (hlt : k < k') (hm : r.meets r' = true) : (ms.getD k' 0).testBit k = true := by
  induction L with
  | nil => cases he
  | cons r0 L ih =>
    simp only [okAll, Bool.and_eq_true] at h
    rcases he'.inv with ⟨e1, e2⟩ | he'
    · rcases he.inv with ⟨e3, e4⟩ | he
      · omega
      · rw [e1]
        rw [e2] at hm
        exact okWith_spec L h.1 he hm
    · have := he'.lt
      rcases he.inv with ⟨e3, e4⟩ | he
      · omega
      · exact ih h.2 he he'

def allocs : Op → Bool
  | .alloc _ | .box .. | .makeSlice .. | .convert .. => true
  | .call { callee := .builtin .append, .. } => true
  | _ => false

/-- How many blocks an operation may make. -/
def makes (kp : KX) (o : Oper) : Nat := if allocs o.op then 1 else match o.op with
  | .call { callee := .value (.func f), .. } => kp.nf f
  | _ => 0
def nidOf (kp : KX) (ops : Array Oper) (o : Oper) (base m n : Nat) : Nat := if Nat.beq (makes kp o) 0 then base + 5 * ops.size + n else base + m
def mOf (kp : KX) (o : Oper) (m : Nat) : Nat := m + makes kp o

/-- The operations' rows, in the order of the text: the last first; how many blocks were made; the choices left; what was taken for granted. -/
def dpass (P : Program) (kp : KX) (ops : Array Oper) (nt : Nat) (T0 : Nat → Option AV) (H0 : Nat → Option AB) (base : Nat) : List Oper → List DRec → Nat → List Bool → List Bool → Option (List DRec × Nat × List Bool × List Bool)
  | [], L, m, os, cs => some (L, m, os, cs)
  | o :: r, L, m, os, cs =>
    match heapAt H0 all L (nidOf kp ops o base m L.length) with
    | some _ => none
    | none => match drec P kp ops o nt (slotAt T0 all L) (heapAt H0 all L) (nidOf kp ops o base m L.length) os with
      | some (d, cs', os') => dpass P kp ops nt T0 H0 base r (d :: L) (mOf kp o m) os' (cs' ++ cs)
      | none => none

def Good (P : Program) (kp : KX) (ops : Array Oper) (nt : Nat) (T0 : Nat → Option AV) (H0 : Nat → Option AB) (cs : List Bool) : List DRec → Prop
  | [] => True
  | r :: L => Good P kp ops nt T0 H0 cs L ∧ ∃ o nid os cs' os', ops[L.length]? = some o ∧ drec P kp ops o nt (slotAt T0 all L) (heapAt H0 all L) nid os = some (r, cs', os') ∧ heapAt H0 all L nid = none ∧ ∀ c ∈ cs', c ∈ cs

theorem Good.mono {kp : KX} {ops : Array Oper} {nt : Nat} {T0 : Nat → Option AV} {H0 : Nat → Option AB} {cs cs' : List Bool} (hh : ∀ c ∈ cs, c ∈ cs') : ∀ {L : List DRec}, Good P kp ops nt T0 H0 cs L → Good P kp ops nt T0 H0 cs' L
  | [], _ => trivial
  | r :: L, ⟨h1, o, nid, os, cs1, os', h2, h3, h4, h5⟩ => ⟨h1.mono hh, o, nid, os, cs1, os', h2, h3, h4, fun c hc => hh c (h5 c hc)⟩

theorem dpass_good {kp : KX} {ops : Array Oper} {nt : Nat} {T0 : Nat → Option AV} {H0 : Nat → Option AB} {base : Nat} : ∀ (l : List Oper) (L : List DRec) (m : Nat) (os cs : List Bool) {L' m' os' cs'},
    dpass P kp ops nt T0 H0 base l L m os cs = some (L', m', os', cs') → (∀ (j : Nat) o, l[j]? = some o → ops[L.length + j]? = some o) → Good P kp ops nt T0 H0 cs L →
    Good P kp ops nt T0 H0 cs' L' ∧ L'.length = L.length + l.length ∧ ∃ c2, cs' = c2 ++ cs
  | [], L, m, os, cs, L', m', os', cs', h, _, hg => by
    simp only [dpass, Option.some.injEq, Prod.mk.injEq] at h
    obtain ⟨rfl, rfl, rfl, rfl⟩ := h
    exact ⟨hg, rfl, [], rfl⟩
  | o :: r, L, m, os, cs, L', m', os', cs', h, hl, hg => by
    simp only [dpass] at h
    split at h
    · cases h
    · rename_i hn
      split at h
      · rename_i d c1 os1 hd
        have hg' : Good P kp ops nt T0 H0 (c1 ++ cs) (d :: L) :=
          ⟨hg.mono fun c hc => List.mem_append_right _ hc, o, _, os, c1, os1, by simpa using hl 0 o rfl, hd, hn, fun c hc => List.mem_append_left _ hc⟩
        obtain ⟨h1, h2, c2, h3⟩ := dpass_good r (d :: L) _ os1 (c1 ++ cs) h (fun j o' hj => by
          have := hl (j + 1) o' (by simpa using hj)
          simp only [List.length_cons]
          rw [show L.length + 1 + j = L.length + (j + 1) by omega]
          exact this) hg'
        exact ⟨h1, by rw [h2]; simp only [List.length_cons]; omega, c2 ++ c1, by rw [h3]; simp⟩
      · cases h

theorem Good.ent {kp : KX} {ops : Array Oper} {nt : Nat} {T0 : Nat → Option AV} {H0 : Nat → Option AB} {cs : List Bool} : ∀ {A B : List DRec} {r : DRec}, Good P kp ops nt T0 H0 cs (A ++ r :: B) → Good P kp ops nt T0 H0 cs (r :: B)
  | [], _, _, h => h
  | _ :: A, _, _, h => Good.ent h.1

end
section
open Go Go.RowKit
variable {P : Program}

theorem Ent.unique {L : List DRec} {k : Nat} {r r' : DRec} (h : Ent L k r) (h' : Ent L k r') : r = r' := by
  induction h with
  | here r L =>
    rcases h'.inv with ⟨_, e⟩ | h'
    · exact e.symm
    · exact absurd h'.lt (Nat.lt_irrefl _)
  | next h ih =>
    rcases h'.inv with ⟨e, _⟩ | h'
    · exact absurd h.lt (by omega)
    · exact ih h'

theorem Ent.ex : ∀ {L : List DRec} {k : Nat}, k < L.length → ∃ r, Ent L k r
  | r :: L, k, h => by
    by_cases e : k = L.length
    · rw [e]; exact ⟨r, .here r L⟩
    · obtain ⟨r', h'⟩ := Ent.ex (L := L) (k := k) (by simp at h; omega)
      exact ⟨r', .next h'⟩

structure DInv (nt : Nat) (T0 : Nat → Option AV) (H0 : Nat → Option AB) (L : List DRec) (S : Nat → Bool) (X : Ctx) (a : Act) : Prop where
  hrel : HRel X
  heap : X.H = heapAt H0 S L
  size : a.tmps.size = nt
  defers : a.defers = []
  slots : ∀ s v, slotAt T0 S L s = some v → VR X v (a.tmps.getD s undef)

structure Listing (P : Program) (kp : KX) (ops : Array Oper) (nt : Nat) (T0 : Nat → Option AV) (H0 : Nat → Option AB) (cs : List Bool) (L : List DRec) (ms : List Nat) : Prop where
  good : Good P kp ops nt T0 H0 cs L
  len : L.length ≤ ops.size
  ok : okAll ms L = true
  mok : MOk ops ms
  mlen : ms.length = ops.size

section
variable {kp : KX} {ops : Array Oper} {nt : Nat} {T0 : Nat → Option AV} {H0 : Nat → Option AB} {cs : List Bool} {L : List DRec} {ms : List Nat}

theorem Listing.must (hL : Listing P kp ops nt T0 H0 cs L ms) {S : Nat → Bool} (hS : Closed ops S) {k k' : Nat} {r r' : DRec} (he : Ent L k r) (he' : Ent L k' r') (hlt : k < k') (hm : r.meets r' = true)
    (hk : ∀ (o : Oper), ops[k']? = some o → ∀ e ∈ o.after, Region.binds .any e = true → S e.on = true) : S k = true := by
  have hb := okAll_spec L hL.ok he he' hlt hm
  have hl : k' < ms.length := by rw [hL.mlen]; exact Nat.lt_of_lt_of_le he'.lt hL.len
  have hg : ms[k']? = some (ms.getD k' 0) := by
    rw [List.getD_eq_getElem?_getD, List.getElem?_eq_getElem hl]; rfl
  exact hL.mok k' _ hg S hS hk k hb

theorem meets_of {r r' : DRec} (h : Apart r r' → False) : r.meets r' = true := by
  cases hm : r.meets r' with
  | true => rfl
  | false => exact (h (meets_spec hm)).elim

/-- An operation that meets one whose turn it is has been done just where it stands ahead in the text. -/
theorem Listing.same (hL : Listing P kp ops nt T0 H0 cs L ms) {S : Nat → Bool} (hS : Closed ops S) {A B : List DRec} {r : DRec} (e : L = A ++ r :: B) (hi : S B.length = false)
    (hr : ∀ (o : Oper), ops[B.length]? = some o → ∀ e ∈ o.after, Region.binds .any e = true → S e.on = true) {j : Nat} {r' : DRec} (he : Ent L j r') (h1 : Apart r' r → False) (h2 : Apart r r' → False) : S j = Nat.blt j B.length := by
  have hent : Ent L B.length r := by rw [e]; exact Ent.of_split
  rcases Nat.lt_trichotomy j B.length with hj | hj | hj
  · rw [hL.must hS he hent hj (meets_of h1) hr]
    have : Nat.blt j B.length = true := by simpa using hj
    exact this.symm
  · rw [hj, hi]
    cases hb : Nat.blt B.length B.length with
    | false => rfl
    | true => simp only [Nat.blt_eq] at hb; omega
  · have hb : Nat.blt j B.length = false := by
      cases hb : Nat.blt j B.length with
      | false => rfl
      | true => simp only [Nat.blt_eq] at hb; omega
    rw [hb]
    cases hSk : S j with
    | false => rfl
    | true =>
      have := hL.must hS hent he hj (meets_of h2) (fun o ho => hS j o ho hSk)
      rw [this] at hi; cases hi

/-- Before its turn, an operation finds what the text's order would show it. -/
theorem Listing.slot (hL : Listing P kp ops nt T0 H0 cs L ms) {S : Nat → Bool} (hS : Closed ops S) {A B : List DRec} {r : DRec} (e : L = A ++ r :: B) (hi : S B.length = false)
    (hr : ∀ (o : Oper), ops[B.length]? = some o → ∀ e ∈ o.after, Region.binds .any e = true → S e.on = true) {s : Nat} (hs : s ∈ r.rs) : slotAt T0 S L s = slotAt T0 all B s := by
  rw [slotAt_congr (S' := fun j => Nat.blt j B.length) fun j r' he hd => hL.same hS e hi hr he (fun ap => (ap.dst s hd).2 hs) (fun ap => (ap.dst' s hd) hs)]
  rw [e, show A ++ r :: B = (A ++ [r]) ++ B by simp]
  exact slotAt_first

theorem Listing.block (hL : Listing P kp ops nt T0 H0 cs L ms) {S : Nat → Bool} (hS : Closed ops S) {A B : List DRec} {r : DRec} (e : L = A ++ r :: B) (hi : S B.length = false)
    (hr : ∀ (o : Oper), ops[B.length]? = some o → ∀ e ∈ o.after, Region.binds .any e = true → S e.on = true) {k : Nat} (hk : k ∈ r.rh ∨ k ∈ r.keys) : heapAt H0 S L k = heapAt H0 all B k := by
  have hids : k ∈ r.ids := hk.elim mem_ids_rh mem_ids_key
  rw [heapAt_congr (S' := fun j => Nat.blt j B.length) fun j r' he hd => hL.same hS e hi hr he (fun ap => ?_) (fun ap => ?_)]
  · rw [e, show A ++ r :: B = (A ++ [r]) ++ B by simp]
    exact heapAt_first
  · rcases hd with hd | ⟨lo, vs, hp⟩
    · exact ap.key k (List.mem_cons_of_mem _ hd) hids
    · rcases hk with hk | hk
      · exact touches_rh (ap.p k lo vs hp) hk
      · exact ap.key' k hk (mem_ids_p hp)
  · rcases hd with hd | ⟨lo, vs, hp⟩
    · exact ap.key' k (List.mem_cons_of_mem _ hd) hids
    · rcases hk with hk | hk
      · exact touches_rh (ap.p' k lo vs hp) hk
      · exact ap.key k hk (mem_ids_p hp)

theorem Listing.piece (hL : Listing P kp ops nt T0 H0 cs L ms) {S : Nat → Bool} (hS : Closed ops S) {A B : List DRec} {r : DRec} (e : L = A ++ r :: B) (hi : S B.length = false)
    (hr : ∀ (o : Oper), ops[B.length]? = some o → ∀ e ∈ o.after, Region.binds .any e = true → S e.on = true) {k lo n : Nat} (hk : (k, lo, n) ∈ r.rp) : Agree lo n (heapAt H0 S L k) (heapAt H0 all B k) := by
  have h1 : Agree lo n (heapAt H0 S L k) (heapAt H0 (fun j => Nat.blt j B.length) L k) := heapAt_agree fun j r' he hd => hL.same hS e hi hr he (fun ap => by
    rcases hd with hd | ⟨l, vs, hp, ho⟩
    · exact ap.key k (List.mem_cons_of_mem _ hd) (mem_ids_rp hk)
    · exact touches_rp (ap.p k l vs hp) hk ⟨by omega, by omega⟩) (fun ap => by
    rcases hd with hd | ⟨l, vs, hp, ho⟩
    · exact ap.key' k (List.mem_cons_of_mem _ hd) (mem_ids_rp hk)
    · exact touches_rp (ap.p' k l vs hp) hk ⟨by omega, by omega⟩)
  rw [show heapAt H0 (fun j => Nat.blt j B.length) L k = heapAt H0 all B k by
    rw [e, show A ++ r :: B = (A ++ [r]) ++ B by simp]
    exact heapAt_first] at h1
  exact h1

/-- One operation more is done. -/
theorem DInv.next (hL : Listing P kp ops nt T0 H0 cs L ms) {S S' : Nat → Bool} (hS : Closed ops S) {A B : List DRec} {r : DRec} (e : L = A ++ r :: B) (hi : S B.length = false)
    (hS1 : S' B.length = true) (hS2 : ∀ j, j ≠ B.length → S' j = S j) {X X' : Ctx} {a : Act} (h : DInv nt T0 H0 L S X a) (hle : X.le X') (hX : HRel X') (hH : X'.H = fun x => r.at x (X.H x)) (hfit : fits r.dst nt = true)
    {val : Value} (hv : VR X' r.v val) : DInv nt T0 H0 L S' X' (a.put r.dst val) := by
  have hent : Ent L B.length r := by rw [e]; exact Ent.of_split
  have hap : ∀ j a, Ent L j a → B.length < j → S j = true → Apart r a := fun j a he hj hs => by
    cases hm : r.meets a with
    | false => exact meets_spec hm
    | true =>
      have := hL.must hS hent he hj hm (fun o ho => hS j o ho hs)
      rw [this] at hi; cases hi
  refine ⟨hX, ?_, ?_, ?_, ?_⟩
  · rw [hH]
    funext x
    rw [h.heap, e]
    exact (heapAt_next hS1 hi hS2 fun j a he hj hs => hap j a (by rw [e]; exact he) hj hs).symm
  · cases hd : r.dst <;> simp [Act.put, h.size]
  · cases hd : r.dst <;> simp [Act.put, h.defers]
  · intro s v hs
    by_cases hw : r.dst = some s
    · have hlate : ∀ {A' : List DRec}, (∀ j a, Ent (A' ++ r :: B) j a → B.length < j → a.dst = some s → S' j = false) → slotAt T0 S' (A' ++ r :: B) s = some r.v := by
        intro A'
        induction A' with
        | nil => intro _; simp only [List.nil_append, slotAt, writes_iff.2 hw, hS1, Bool.and_self, if_true]
        | cons a' A' ih =>
          intro hh
          have ih' := ih fun j a he hj hd => hh j a (.next he) hj hd
          simp only [List.cons_append, slotAt]
          cases hwa : a'.writes s with
          | false => simpa using ih'
          | true =>
            rw [hh _ a' (.here a' (A' ++ r :: B)) (by simp only [List.length_append, List.length_cons]; omega) (writes_iff.1 hwa)]
            simpa using ih'
      rw [e, hlate fun j a he hj hd => by
        rw [hS2 j (by omega)]
        cases hSk : S j with
        | false => rfl
        | true => exact absurd hd ((hap j a (by rw [e]; exact he) hj hSk).dst s hw).1] at hs
      injection hs with hs
      subst hs
      rw [hw] at hfit ⊢
      have hlt : s < a.tmps.size := by rw [h.size]; simpa [fits] using hfit
      rw [getD_put a s val s hlt, if_pos rfl]
      exact hv
    · have : slotAt T0 S' L s = slotAt T0 S L s := slotAt_congr fun j r' he hd => hS2 j fun ej => by
        rw [ej] at he
        rw [he.unique hent] at hd
        exact hw hd
      rw [this] at hs
      have hvs := VR.mono hle _ _ (h.slots s v hs)
      cases hd : r.dst with
      | none => exact hvs
      | some d =>
        rw [hd] at hfit hw
        have hlt : d < a.tmps.size := by rw [h.size]; simpa [fits] using hfit
        rw [getD_put a d val s hlt, if_neg (fun e => hw (by rw [e]))]
        exact hvs

theorem aload_agree {H H' : Nat → Option AB} {t : TypeId} {i off n : Nat} {ag : Bool} {v : AV} (ht : ty P t = some (ag, n)) (ha : Agree off n (H i) (H' i)) (h : aload P t H' (.one (.ptr i off)) = some v) :
    aload P t H (.one (.ptr i off)) = some v := by
  rcases ha with he | ⟨cs, cs', h1, h2, hl, hg⟩
  · unfold aload at h ⊢
    rw [ht] at h ⊢
    simp only at h ⊢
    rw [he]; exact h
  · unfold aload at h ⊢
    rw [ht] at h ⊢
    simp only [h1, h2] at h ⊢
    have : (cs.drop off).take n = (cs'.drop off).take n := by
      apply List.ext_getElem?
      intro q
      by_cases hq : q < n
      · rw [List.getElem?_take_of_lt hq, List.getElem?_take_of_lt hq, List.getElem?_drop, List.getElem?_drop]
        exact hg _ (by omega) (by omega)
      · rw [List.getElem?_take_eq_none (by omega), List.getElem?_take_eq_none (by omega)]
    rw [this]; exact h

theorem slotsOf_mem {l : List Operand} {t : Nat} (h : Operand.tmp t ∈ l) : t ∈ slotsOf l := List.mem_filterMap.2 ⟨_, h, rfl⟩

theorem only_some {α : Type} {l : List Nat} {T : Nat → Option α} {k : Nat} {x : α} (h : only l T k = some x) : k ∈ l ∧ T k = some x := by
  unfold only at h
  split at h
  · rename_i hk
    exact ⟨isIn_iff.1 hk, h⟩
  · cases h

/-- The three makes of a row. -/
theorem recOf_some {o : Oper} {ss : List Nat} {T : Nat → Option AV} {H : Nat → Option AB} {nid : Nat} {os : List Bool} {r : DRec} {cs' os' : List Bool} (hd : recOf P kp o ss T H nid os = some (r, cs', os')) :
    (∃ v u rh, dval P kp o (evT (only ss T)) (only rh H) nid os = some (v, u, cs', os') ∧ (∀ p ∈ u, nid ≤ p.1 → H p.1 = none) ∧ r = { dst := o.dst, v, rs := ss, rh, rp := [], nid, u, p := none }) ∨
    (∃ t a i off ag n v, o.op = .load t a ∧ evT (only ss T) a = some (.one (.ptr i off)) ∧ ty P t = some (ag, n) ∧ aload P t H (.one (.ptr i off)) = some v ∧ r = { dst := o.dst, v, rs := ss, rh := [], rp := [(i, off, n)], nid, u := [], p := none }) ∨
    (∃ t a x i off ag n xv vs cs, o.op = .store t a x ∧ evT (only ss T) a = some (.one (.ptr i off)) ∧ evT (only ss T) x = some xv ∧ ty P t = some (ag, n) ∧ xv.cs = some vs ∧ H i = some (.cells cs) ∧ vs.length = n ∧ off + n ≤ cs.length ∧
      r = { dst := o.dst, v := .one .unk, rs := ss, rh := [], rp := [(i, 0, 0)], nid, u := [], p := some (i, off, vs) }) := by
  have gen : recGen P kp o ss T H nid os = some (r, cs', os') → ∃ v u rh, dval P kp o (evT (only ss T)) (only rh H) nid os = some (v, u, cs', os') ∧ (∀ p ∈ u, nid ≤ p.1 → H p.1 = none) ∧ r = { dst := o.dst, v, rs := ss, rh, rp := [], nid, u, p := none } := by
    intro hd
    unfold recGen at hd
    split at hd
    · rename_i v u cs r1 hdv
      split at hd
      · rename_i hnew
        simp only [Option.some.injEq, Prod.mk.injEq] at hd
        obtain ⟨rfl, rfl, rfl⟩ := hd
        refine ⟨v, u, _, hdv, fun p hp hle => ?_, rfl⟩
        have := List.all_eq_true.1 hnew p hp
        simp only [Bool.or_eq_true, Nat.blt_eq, Option.isNone_iff_eq_none] at this
        rcases this with h1 | h1
        · omega
        · exact h1
      · cases hd
    · cases hd
  unfold recOf at hd
  split at hd
  · rename_i t a ho
    split at hd
    · rename_i i off hev
      split at hd
      · rename_i ag n v ht hv
        simp only [Option.some.injEq, Prod.mk.injEq] at hd
        exact .inr (.inl ⟨t, a, i, off, ag, n, v, ho, hev, ht, hv, hd.1.symm⟩)
      · cases hd
    · exact .inl (gen hd)
  · rename_i t a x ho
    split at hd
    · rename_i i off xv hev hx
      split at hd
      · rename_i ag n vs cs ht hvs hH
        split at hd
        · rename_i hc
          simp only [Bool.and_eq_true, beq_iff_eq, Nat.ble_eq] at hc
          simp only [Option.some.injEq, Prod.mk.injEq] at hd
          exact .inr (.inr ⟨t, a, x, i, off, ag, n, xv, vs, cs, ho, hev, hx, ht, hvs, hH, hc.1, hc.2, hd.1.symm⟩)
        · cases hd
      · cases hd
    · exact .inl (gen hd)
  · exact .inl (gen hd)

theorem recOf_nid {o : Oper} {ss : List Nat} {T : Nat → Option AV} {H : Nat → Option AB} {nid : Nat} {os : List Bool} {r : DRec} {cs' os' : List Bool} (hd : recOf P kp o ss T H nid os = some (r, cs', os')) : r.nid = nid ∧ r.dst = o.dst ∧ r.rs = ss := by
  rcases recOf_some hd with ⟨v, u, rh, _, _, e⟩ | ⟨t, a, i, off, ag, n, v, _, _, _, _, e⟩ | ⟨t, a, x, i, off, ag, n, xv, vs, cs, _, _, _, _, _, _, _, _, e⟩ <;> rw [e] <;> exact ⟨rfl, rfl, rfl⟩

theorem specRow_some {o : Oper} {s : Nat} {want : Bool} {T : Nat → Option AV} {nid : Nat} {d : DRec} {k : List Bool} (h : specRow P kp o s want T nid = some (d, k)) :
    ∃ g ga c, c.all bareC = true ∧ guardV (T s) want = some g ∧ specV P kp.p o g (evT (only (s :: slotsOf o.op.operands.toList) T)) (fun _ => none) nid = some (ga, c, k) ∧
      d = { dst := o.dst, v := .gd g ga c, rs := s :: slotsOf o.op.operands.toList, rh := [], rp := [], nid, u := [], p := none } := by
  unfold specRow at h
  split at h
  · rename_i g hg
    split at h
    · rename_i ga c cs hs
      split at h
      · rename_i hb
        simp only [Option.some.injEq, Prod.mk.injEq] at h
        obtain ⟨rfl, rfl⟩ := h
        exact ⟨g, ga, c, hb, hg, hs, rfl⟩
      · cases h
    · cases h
  · cases h
theorem pickRow_some {o : Oper} {T : Nat → Option AV} {nid : Nat} {d : DRec} {k : List Bool} (h : pickRow o T nid = some (d, k)) :
    ∃ x y z r, o.op = .pick x y z ∧ pickS (evT (only (slotsOf o.op.operands.toList) T)) x y z = some (r, k) ∧
      d = { dst := o.dst, v := .one r, rs := slotsOf o.op.operands.toList, rh := [], rp := [], nid, u := [], p := none } := by
  unfold pickRow at h
  split at h
  · rename_i x y z ho
    split at h
    · rename_i r k' hp
      simp only [Option.some.injEq, Prod.mk.injEq] at h
      obtain ⟨rfl, rfl⟩ := h
      exact ⟨x, y, z, r, ho, hp, rfl⟩
    · cases h
  · cases h

theorem drec_nid {o : Oper} {T : Nat → Option AV} {H : Nat → Option AB} {nid : Nat} {os : List Bool} {r : DRec} {cs' os' : List Bool} (hd : drec P kp ops o nt T H nid os = some (r, cs', os')) : r.nid = nid := by
  unfold drec at hd
  split at hd
  · split at hd
    · split at hd
      · rename_i d k hp
        simp only [Option.some.injEq, Prod.mk.injEq] at hd
        obtain ⟨rfl, rfl, rfl⟩ := hd
        split at hp
        · obtain ⟨x, y, z, r, _, _, rfl⟩ := pickRow_some hp
          rfl
        · cases hp
      · exact (recOf_nid hd).1
    · split at hd
      · cases hd
      · split at hd
        · rename_i d k hp
          simp only [Option.some.injEq, Prod.mk.injEq] at hd
          obtain ⟨rfl, rfl, rfl⟩ := hd
          split at hp
          · obtain ⟨g, ga, c, _, _, _, rfl⟩ := specRow_some hp
            rfl
          · cases hp
        · split at hd
          · split at hd
            split at hd
            · split at hd
              · rename_i hrec
                simp only [Option.some.injEq, Prod.mk.injEq] at hd
                rw [← hd.1]
                exact (recOf_nid hrec).1
              · cases hd
            · simp only [Option.some.injEq, Prod.mk.injEq] at hd
              rw [← hd.1]
          · simp only [Option.some.injEq, Prod.mk.injEq] at hd
            rw [← hd.1]
          · cases hd
  · cases hd

/-- An operation at its turn. -/
theorem Listing.step (hkp : KXok P kp) (hL : Listing P kp ops nt T0 H0 cs L ms) (hcs : ∀ c ∈ cs, c = true) {S S' : Nat → Bool} (hS : Closed ops S) {i : Nat} {o : Oper} (hlt : i < L.length) (ho : ops[i]? = some o) (hi : S i = false)
    (hr : ∀ e ∈ o.after, Region.binds .any e = true → S e.on = true) (hS1 : S' i = true) (hS2 : ∀ j, j ≠ i → S' j = S j) {X : Ctx} {a : Act} (h : DInv nt T0 H0 L S X a)
    {Q : Exit → Act → World → Prop} {K : Act → World → Prop} (hK : ∀ X' a', X.le X' → DInv nt T0 H0 L S' X' a' → K a' X'.w) : wpOp P ops Q i K a X.w := by
  obtain ⟨r, hent⟩ := Ent.ex hlt
  obtain ⟨A, B, e, eb⟩ := hent.split
  subst eb
  have hr' : ∀ (o : Oper), ops[B.length]? = some o → ∀ e ∈ o.after, Region.binds .any e = true → S e.on = true := fun o' ho' => by
    rw [ho] at ho'
    injection ho' with ho'
    rw [← ho']; exact hr
  have hg := hL.good
  rw [e] at hg
  obtain ⟨_, o', nid, os, cs', os', ho', hd, hnid, hcc⟩ := hg.ent
  rw [ho] at ho'
  injection ho' with ho'
  subst ho'
  have hcs' : ∀ c ∈ cs', c = true := fun c hc => hcs c (hcc c hc)
  have hnn : r.nid = nid := drec_nid hd
  have hslot : ∀ s ∈ r.rs, ∀ v, slotAt T0 all B s = some v → VR X v (a.tmps.getD s undef) := fun s hs v hv => h.slots s v (by rw [hL.slot hS e hi hr' hs]; exact hv)
  have hblock : ∀ k, k ∈ r.rh ∨ k ∈ r.keys → X.H k = heapAt H0 all B k := fun k hk => by rw [h.heap]; exact hL.block hS e hi hr' hk
  have hn : X.H r.nid = none := by rw [hblock r.nid (.inr (List.mem_cons_self ..)), hnn]; exact hnid
  have hpiece : ∀ k lo n, (k, lo, n) ∈ r.rp → Agree lo n (X.H k) (heapAt H0 all B k) := fun k lo n hk => by rw [h.heap]; exact hL.piece hS e hi hr' hk
  have hrun : ∀ {ss : List Nat} {os cs1 os1}, (∀ t, Operand.tmp t ∈ o.op.operands.toList → t ∈ ss) → fits o.dst nt = true → (∀ c ∈ cs1, c = true) →
      recOf P kp o ss (slotAt T0 all B) (heapAt H0 all B) nid os = some (r, cs1, os1) → o.wp P a X.w K Q := by
    intro ss os cs1 os1 h1 hfit hc1 hrec
    obtain ⟨_, hdst, hrs⟩ := recOf_nid hrec
    have hρ : RhoOk X (evT (only ss (slotAt T0 all B))) a o := by
      intro x hx v' hv'
      cases x with
      | tmp t =>
        obtain ⟨q1, q2⟩ := only_some hv'
        exact hslot t (by rw [hrs]; exact q1) v' q2
      | const c => exact cvv_rel X hv'
      | global g => cases hv'
      | func f =>
        simp only [evT, Option.some.injEq] at hv'
        subst hv'
        exact ⟨#[], rfl, rfl, fun j p hj => by simp at hj⟩
    have fin : ∀ {v : AV} {H' : Nat → Option AB}, OpSim P o a X v H' → r.v = v → (H' = fun x => r.at x (X.H x)) → o.wp P a X.w K Q := by
      intro v H' hsim hv hH
      refine hsim K Q fun val X' g1 g2 g3 g4 => ?_
      rw [← hdst]
      exact hK X' _ g1 (h.next hL hS e hi hS1 hS2 g1 g2 (g3.trans hH) (by rw [hdst]; exact hfit) (by rw [hv]; exact g4))
    have hn' : X.H nid = none := by rw [← hnn]; exact hn
    rcases recOf_some hrec with ⟨v, u, rh, hdv, hun, er⟩ | ⟨t, p, i, off, ag, n, v, ho', hev, ht, hv, er⟩ | ⟨t, p, x, i, off, ag, n, xv, vs, cells, ho', hev, hx, ht, hvs, hH, hlen, hle, er⟩
    · have hle : HLe (only rh (heapAt H0 all B)) X.H := fun k b hk => by
        obtain ⟨q1, q2⟩ := only_some hk
        rw [hblock k (.inl (by rw [er]; exact q1))]; exact q2
      refine fin (dval_sim hkp h.hrel hn' hρ (dval_mono hle hkp hdv) hc1 fun p hp hle => by
        rw [hblock p.1 (.inr (by rw [er]; exact List.mem_cons_of_mem _ (List.mem_map_of_mem hp)))]; exact hun p hp hle) (by rw [er]) ?_
      funext x
      rw [ups_find, er]
      rfl
    · have hv' : aload P t X.H (.one (.ptr i off)) = some v := aload_agree ht (hpiece i off n (by rw [er]; exact List.mem_cons_self ..)) hv
      have haop : aop P o (evT (only ss (slotAt T0 all B))) X.H nid [] = some (v, [], [], []) := by
        unfold aop
        rw [ho']
        simp only [hev, Option.bind_some, hv', plain, Option.map_some]
      refine fin (aop_sim h.hrel hn' hρ haop (fun c hc => by cases hc)) (by rw [er]) ?_
      funext x
      rw [er]
      rfl
    · have hcells : ∃ cs', X.H i = some (.cells cs') ∧ cs'.length = cells.length := by
        rcases hpiece i 0 0 (by rw [er]; exact List.mem_cons_self ..) with hh | ⟨c1, c2, g1, g2, g3, _⟩
        · exact ⟨cells, by rw [hh, hH], rfl⟩
        · rw [hH] at g2
          simp only [Option.some.injEq, AB.cells.injEq] at g2
          exact ⟨c1, g1, by rw [g3, ← g2]⟩
      obtain ⟨cs', hX', hl'⟩ := hcells
      have haop : aop P o (evT (only ss (slotAt T0 all B))) X.H nid [] = some (.one .unk, [(i, .cells (cs'.take off ++ (vs ++ cs'.drop (off + n))))], [], []) := by
        unfold aop
        rw [ho']
        simp only [hev, hx, astore, ht, hvs, hX']
        rw [if_pos (by simp only [Bool.and_eq_true, beq_iff_eq, Nat.ble_eq]; omega)]
        rfl
      refine fin (aop_sim h.hrel hn' hρ haop (fun c hc => by cases hc)) (by rw [er]) ?_
      funext x
      rw [ups_find, er]
      simp only [DRec.at, findU]
      by_cases ex : i = x
      · subst ex
        simp only [Nat.beq_refl, if_true, hX', patchC]
        rw [if_pos (by omega), hlen]
      · simp only [Nat.beq_eq, if_neg ex]
  have hskip : r.v = .tup [] → r.u = [] → r.p = none → r.dst = o.dst → fits o.dst nt = true → K (a.put o.dst undef) X.w := fun hv hu hp0 hdst hfit => by
    rw [← hdst]
    exact hK X _ (.refl X) (h.next hL hS e hi hS1 hS2 (.refl X) h.hrel (by funext x; simp only [DRec.at, hu, hp0, findU]) (by rw [hdst]; exact hfit) (by rw [hv]; exact VR_undef X))
  have hev : ∀ {ss : List Nat}, r.rs = ss → RhoOk X (evT (only ss (slotAt T0 all B))) a o := by
    intro ss hrs x hx v' hv'
    cases x with
    | tmp t =>
      obtain ⟨q1, q2⟩ := only_some hv'
      exact hslot t (by rw [hrs]; exact q1) v' q2
    | const c => exact cvv_rel X hv'
    | global g => cases hv'
    | func f =>
      simp only [evT, Option.some.injEq] at hv'
      subst hv'
      exact ⟨#[], rfl, rfl, fun j p hj => by simp at hj⟩
  have hplain : r.u = [] → r.p = none → r.dst = o.dst → fits o.dst nt = true → ∀ {val : Value} {X' : Ctx}, X.le X' → HRel X' → X'.H = X.H → VR X' r.v val → K (a.put o.dst val) X'.w := fun hu hp0 hdst hfit {val X'} g1 g2 g3 g4 => by
    rw [← hdst]
    exact hK X' _ g1 (h.next hL hS e hi hS1 hS2 g1 g2 (g3.trans (by funext x; simp only [DRec.at, hu, hp0, findU])) (by rw [hdst]; exact hfit) g4)
  unfold wpOp
  simp only [ho]
  unfold drec at hd
  split at hd
  · rename_i hfit
    split at hd
    · rename_i hgd
      rw [if_pos (wanted_none hgd _)]
      split at hd
      · rename_i d k hp
        simp only [Option.some.injEq, Prod.mk.injEq] at hd
        obtain ⟨rfl, rfl, rfl⟩ := hd
        split at hp
        · obtain ⟨x, y, z, r0, hop, hpk, er⟩ := pickRow_some hp
          have hρ := hev (ss := slotsOf o.op.operands.toList) (by rw [er])
          have hmem : ∀ q ∈ [x, y, z], q ∈ o.op.operands := by
            rw [hop]; intro q hq; simp [Op.operands] at hq ⊢; exact hq
          obtain ⟨xb, g1, _, g2⟩ := pickS_rel (fun v hv => hρ x (hmem x (by simp)) v hv) (fun v hv => hρ y (hmem y (by simp)) v hv) (fun v hv => hρ z (hmem z (by simp)) v hv) hpk hcs'
          refine .inl ?_
          unfold Oper.wp
          have hrun1 : (execOp a.eval o).run P X.w = .ok (.value (if xb then a.eval y else a.eval z)) X.w := by
            unfold execOp
            simp only [hop, g1, asBool, Sem.run_bind, Sem.run_pure, Result.andThen_ok]
          rw [hrun1]
          exact hplain (by rw [er]) (by rw [er]) (by rw [er]) hfit (.refl X) h.hrel rfl (by rw [er]; exact g2)
        · cases hp
      · exact .inl (hrun (fun t ht => slotsOf_mem ht) hfit hcs' hd)
    · rename_i j want hgd
      split at hd
      · cases hd
      · rename_i s hs
        split at hd
        · rename_i d k hp
          simp only [Option.some.injEq, Prod.mk.injEq] at hd
          obtain ⟨rfl, rfl, rfl⟩ := hd
          split at hp
          · obtain ⟨g, ga, c, hbc, hgv, hsv, er⟩ := specRow_some hp
            have hρ := hev (ss := s :: slotsOf o.op.operands.toList) (by rw [er])
            have hiff := guardV_rel hgv (v := a.tmps.getD s undef) fun w hw => hslot s (by rw [er]; exact List.mem_cons_self ..) w hw
            cases hgt : g with
            | true =>
              rw [if_pos ((wanted_iff hgd hs).2 (hiff.1 hgt))]
              have hn' : X.H nid = none := by rw [← hnn]; exact hn
              refine .inl (specV_ok hkp.p h.hrel hn' hρ hgt (specV_mono (fun k b hk => by cases hk) hsv) hcs' (bareC_noids hbc) K Q fun val X' g1 g2 g3 g4 => ?_)
              exact hplain (by rw [er]) (by rw [er]) (by rw [er]) hfit g1 g2 g3 (by rw [er]; exact g4)
            | false =>
              have hnw : ¬ Region.wanted o (yielded ops a.tmps) = true := fun hw => by
                have := hiff.2 ((wanted_iff hgd hs).1 hw)
                rw [hgt] at this; cases this
              rw [if_neg hnw]
              exact hplain (by rw [er]) (by rw [er]) (by rw [er]) hfit (.refl X) h.hrel rfl (by rw [er, hgt]; exact ⟨bareC_noids hbc, fun e => (by cases e), fun _ => rfl⟩)
          · cases hp
        · split at hd
          · rename_i b hb
            split at hd
            rename_i t cs0 r0 hbr
            split at hd
            · rename_i ht
              split at hd
              · rename_i d cs1 r1 hrec
                simp only [Option.some.injEq, Prod.mk.injEq] at hd
                obtain ⟨rfl, rfl, rfl⟩ := hd
                have hbv : a.tmps.getD s undef = .bool b := hslot s (by rw [(recOf_nid hrec).2.2]; exact List.mem_cons_self ..) _ hb
                have htb := br_eq (b := b) (os := os) (by rw [hbr]; exact fun c hc => hcs' c (List.mem_append_right _ hc))
                rw [hbr] at htb
                simp only at htb
                rw [if_pos ((wanted_iff hgd hs).2 (by rw [hbv, ← htb]; simp only [beq_iff_eq] at ht; rw [ht]))]
                exact .inl (hrun (fun t ht => List.mem_cons_of_mem _ (slotsOf_mem ht)) hfit (fun c hc => hcs' c (List.mem_append_left _ hc)) hrec)
              · cases hd
            · rename_i ht
              simp only [Option.some.injEq, Prod.mk.injEq] at hd
              obtain ⟨rfl, rfl, rfl⟩ := hd
              have hbv : a.tmps.getD s undef = .bool b := hslot s (List.mem_cons_self ..) _ hb
              have htb := br_eq (b := b) (os := os) (by rw [hbr]; exact hcs')
              rw [hbr] at htb
              simp only at htb
              have hnw : ¬ Region.wanted o (yielded ops a.tmps) = true := fun hw => by
                have := (wanted_iff hgd hs).1 hw
                rw [hbv, ← htb] at this
                simp only [Value.bool.injEq] at this
                exact ht (by simp [this])
              rw [if_neg hnw]
              exact hskip rfl rfl rfl rfl hfit
          · rename_i hb
            simp only [Option.some.injEq, Prod.mk.injEq] at hd
            obtain ⟨rfl, rfl, rfl⟩ := hd
            have hbv : a.tmps.getD s undef = undef := undef_of_VR (hslot s (List.mem_cons_self ..) _ hb)
            have hnw : ¬ Region.wanted o (yielded ops a.tmps) = true := fun hw => by
              have := (wanted_iff hgd hs).1 hw
              rw [hbv] at this
              exact undef_ne _ this
            rw [if_neg hnw]
            exact hskip rfl rfl rfl rfl hfit
          · cases hd
  · cases hd
end
end
section
open Go Go.RowKit
variable {P : Program}

def backOk : List Oper → Nat → Bool
  | [], _ => true
  | o :: r, j => o.after.toList.all (fun e => !Region.binds .any e || Nat.blt e.on j) && backOk r (j + 1)

theorem backOk_spec (l : List Oper) : ∀ (j : Nat), backOk l j = true → ∀ (k : Nat) o, l[k]? = some o → ∀ e ∈ o.after, Region.binds .any e = true → e.on < j + k := by
  induction l with
  | nil => intro j _ k o hk; simp at hk
  | cons o0 r ih =>
    intro j h k o hk e he hb
    simp only [backOk, Bool.and_eq_true] at h
    cases k with
    | zero =>
      simp only [List.getElem?_cons_zero, Option.some.injEq] at hk
      subst hk
      have := List.all_eq_true.1 h.1 e (by simpa using he)
      rw [hb] at this
      simpa using this
    | succ k =>
      have := ih (j + 1) h.2 k o (by simpa using hk) e he hb
      omega

def undone (n : Nat) (S : Nat → Bool) : Nat := (List.range n).countP fun i => !S i

theorem countP_less {l : List Nat} {p q : Nat → Bool} (h : ∀ x ∈ l, q x = true → p x = true) {y : Nat} (hy : y ∈ l) (hp : p y = true) (hq : q y = false) : l.countP q < l.countP p := by
  induction l with
  | nil => cases hy
  | cons x l ih =>
    have hle : ∀ (m : List Nat), (∀ x ∈ m, q x = true → p x = true) → m.countP q ≤ m.countP p := fun m hm => List.countP_mono_left hm
    simp only [List.countP_cons]
    rcases List.mem_cons.1 hy with rfl | hy
    · have := hle l fun z hz => h z (List.mem_cons_of_mem _ hz)
      simp only [hp, hq, if_true]
      have : (if (false : Bool) = true then 1 else 0) = 0 := rfl
      omega
    · have h1 := ih (fun z hz => h z (List.mem_cons_of_mem _ hz)) hy
      have h2 := h x (List.mem_cons_self ..)
      cases hqx : q x <;> cases hpx : p x <;> simp_all <;> omega

section
variable {kp : KX} {ops : Array Oper} {nt : Nat} {T0 : Nat → Option AV} {H0 : Nat → Option AB} {cs : List Bool} {L : List DRec} {ms : List Nat}

theorem all_ready (hback : ∀ (j : Nat) o, ops[j]? = some o → ∀ e ∈ o.after, Region.binds .any e = true → e.on < j) : ∀ (listed : Array Bool), listed.size = ops.size → Region.ready .any ops listed = [] → ∀ i, i < ops.size → listed.getD i false = true := by
  intro listed hsz hr i
  induction i using Nat.strongRecOn with
  | _ i ih =>
    intro hi
    cases hl : listed.getD i false with
    | true => rfl
    | false =>
      have hm : i ∈ Region.ready .any ops listed := mem_ready.2 ⟨by
        simp only [Array.getD_eq_getD_getElem?] at hl ⊢
        rw [Array.getElem?_eq_getElem (by omega)] at hl ⊢
        exact hl, ops[i], Array.getElem?_eq_getElem hi, fun e he hb => ih e.on (hback i _ (Array.getElem?_eq_getElem hi) e he hb) (by have := hback i _ (Array.getElem?_eq_getElem hi) e he hb; omega)⟩
      rw [hr] at hm; cases hm

theorem undone_set {listed : Array Bool} (hsz : listed.size = ops.size) {i : Nat} (hi : i < ops.size) (hif : listed.getD i false = false) : undone ops.size (fun j => (listed.setIfInBounds i true).getD j false) < undone ops.size (fun j => listed.getD j false) := by
  have hil : i < listed.size := by omega
  have hs1 : (listed.setIfInBounds i true).getD i false = true := by simp [hil]
  have hs2 : ∀ j, j ≠ i → (listed.setIfInBounds i true).getD j false = listed.getD j false := fun j hj => getD_set_ne false (Ne.symm hj)
  refine countP_less (fun x _ hx => ?_) (List.mem_range.2 hi) (by simp only [hif]; rfl) (by simp only [hs1]; rfl)
  by_cases hxi : x = i
  · subst hxi
    simp only [hs1] at hx; cases hx
  · simp only [hs2 x hxi] at hx; exact hx

theorem undone_pos {listed : Array Bool} {i : Nat} (hi : i < ops.size) (hif : listed.getD i false = false) : 0 < undone ops.size (fun i => listed.getD i false) :=
  List.countP_pos_iff.2 ⟨i, List.mem_range.2 hi, by simp only [hif]; rfl⟩

theorem ready_off {listed : Array Bool} (hsz : listed.size = ops.size) {i : Nat} (hm : i ∈ Region.ready .any ops listed) : i < ops.size ∧ listed.getD i false = false ∧ ∃ o, ops[i]? = some o ∧ ∀ e ∈ o.after, Region.binds .any e = true → listed.getD e.on false = true := by
  obtain ⟨h0, o, ho, hall⟩ := mem_ready.1 hm
  have hi := (Array.getElem?_eq_some_iff.1 ho).1
  refine ⟨hi, ?_, o, ho, hall⟩
  simp only [Array.getD_eq_getD_getElem?] at h0 ⊢
  rw [Array.getElem?_eq_getElem (by omega)] at h0 ⊢
  exact h0

/-- An operation that waits for all ahead of it. -/
theorem sync_must (hmok : MOk ops ms) {i : Nat} (hms : ms[i]? = some (2 ^ i - 1)) {listed : Array Bool} (hS : Closed ops (fun i => listed.getD i false)) (hsz : listed.size = ops.size) (hm : i ∈ Region.ready .any ops listed) : ∀ j, j < i → listed.getD j false = true := by
  obtain ⟨_, _, o, ho, hall⟩ := ready_off hsz hm
  intro j hj
  refine hmok i _ hms _ hS (fun o' ho' => ?_) j (by rw [Nat.testBit_two_pow_sub_one]; simpa using hj)
  rw [ho] at ho'
  injection ho' with ho'
  subst ho'; exact hall

theorem Listing.any (hkp : KXok P kp) (hL : Listing P kp ops nt T0 H0 cs L ms) (hcs : ∀ c ∈ cs, c = true) (hback : ∀ (j : Nat) o, ops[j]? = some o → ∀ e ∈ o.after, Region.binds .any e = true → e.on < j)
    (hsync : ∀ j, L.length ≤ j → j < ops.size → ms[j]? = some (2 ^ j - 1))
    {Q : Exit → Act → World → Prop} : ∀ (fuel : Nat) (listed : Array Bool) (X : Ctx) (a : Act), listed.size = ops.size → (∀ j, L.length ≤ j → listed.getD j false = false) → Closed ops (fun i => listed.getD i false) → undone ops.size (fun i => listed.getD i false) ≤ fuel →
      DInv nt T0 H0 L (fun i => listed.getD i false) X a →
      (∀ X' a' (listed' : Array Bool) fuel', X.le X' → DInv nt T0 H0 L all X' a' → listed'.size = ops.size → (∀ j, listed'.getD j false = decide (j < L.length)) → Closed ops (fun i => listed'.getD i false) → undone ops.size (fun i => listed'.getD i false) ≤ fuel' → wpAny P .any ops Q fuel' listed' a' X'.w) →
      wpAny P .any ops Q fuel listed a X.w := by
  have hend : ∀ (fuel : Nat) (listed : Array Bool) (X : Ctx) (a : Act), listed.size = ops.size → (∀ j, L.length ≤ j → listed.getD j false = false) → Closed ops (fun i => listed.getD i false) → undone ops.size (fun i => listed.getD i false) ≤ fuel → DInv nt T0 H0 L (fun i => listed.getD i false) X a →
      (∀ X' a' (listed' : Array Bool) fuel', X.le X' → DInv nt T0 H0 L all X' a' → listed'.size = ops.size → (∀ j, listed'.getD j false = decide (j < L.length)) → Closed ops (fun i => listed'.getD i false) → undone ops.size (fun i => listed'.getD i false) ≤ fuel' → wpAny P .any ops Q fuel' listed' a' X'.w) →
      (∀ i, i < L.length → listed.getD i false = true) → wpAny P .any ops Q fuel listed a X.w := by
    intro fuel listed X a hsz hoff hS hu h hq hall
    have e1 : slotAt T0 (fun i => listed.getD i false) L = slotAt T0 all L := funext fun s => slotAt_congr fun k r he _ => hall k he.lt
    have e2 : heapAt H0 (fun i => listed.getD i false) L = heapAt H0 all L := funext fun s => heapAt_congr fun k r he _ => hall k he.lt
    refine hq X a listed fuel (.refl X) ⟨h.hrel, by rw [h.heap, e2], h.size, h.defers, by rw [← e1]; exact h.slots⟩ hsz (fun j => ?_) hS hu
    by_cases hj : j < L.length
    · rw [hall j hj]; simp [hj]
    · rw [hoff j (by omega)]; simp [hj]
  intro fuel
  induction fuel with
  | zero =>
    intro listed X a hsz hoff hS hu h hq
    refine hend 0 listed X a hsz hoff hS hu h hq fun i hi => ?_
    cases hl : listed.getD i false with
    | true => rfl
    | false =>
      have := undone_pos (ops := ops) (listed := listed) (by have := hL.len; omega) hl
      omega
  | succ fuel ih =>
    intro listed X a hsz hoff hS hu h hq
    by_cases hall : ∀ i, i < L.length → listed.getD i false = true
    · exact hend (fuel + 1) listed X a hsz hoff hS hu h hq hall
    · have hex : ∃ i, i < L.length ∧ listed.getD i false = false := by
        simp only [Classical.not_forall] at hall
        obtain ⟨i, hi, hh⟩ := hall
        exact ⟨i, hi, by simpa using hh⟩
      obtain ⟨i0, hi0, hf0⟩ := hex
      refine ⟨fun hr => ?_, fun i hm => ?_⟩
      · have := all_ready hback listed hsz hr i0 (by have := hL.len; omega)
        rw [hf0] at this; cases this
      · obtain ⟨hi, hif, o, ho, hedge⟩ := ready_off hsz hm
        have hlt : i < L.length := by
          rcases Nat.lt_or_ge i L.length with hh | hh
          · exact hh
          · have := sync_must hL.mok (hsync i hh hi) hS hsz hm i0 (by omega)
            rw [hf0] at this; cases this
        have hil : i < listed.size := by omega
        have hs1 : (listed.setIfInBounds i true).getD i false = true := by simp [hil]
        have hs2 : ∀ j, j ≠ i → (listed.setIfInBounds i true).getD j false = listed.getD j false := fun j hj => getD_set_ne false (Ne.symm hj)
        refine hL.step hkp hcs hS hlt ho hif hedge (S' := fun j => (listed.setIfInBounds i true).getD j false) hs1 hs2 h fun X' a' hle h' => ?_
        refine ih _ X' a' (by simp [hsz]) (fun j hj => by rw [hs2 j (by omega)]; exact hoff j hj) ?_ ?_ h' fun X'' a'' l' f' hle' h'' => hq X'' a'' l' f' (hle.trans hle') h''
        · intro j o' ho' hj e he hb
          by_cases hji : j = i
          · subst hji
            rw [ho] at ho'
            injection ho' with ho'
            subst ho'
            exact getD_set_true (hedge e he hb)
          · simp only [hs2 j hji] at hj
            exact getD_set_true (hS j o' ho' hj e he hb)
        · have := undone_set hsz hi hif
          omega

/-- Operations each of which waits for all ahead of it. -/
theorem suffix_run {kp : KP} {kh : KH} (hkp : KPok P kp) (hkh : KHok P kh) (hmok : MOk ops ms) (hback : ∀ (j : Nat) o, ops[j]? = some o → ∀ e ∈ o.after, Region.binds .any e = true → e.on < j) {q : Nat}
    (hsync : ∀ j, q ≤ j → j < ops.size → ms[j]? = some (2 ^ j - 1)) {Q : Exit → Act → World → Prop} : ∀ (fuel m : Nat) (listed : Array Bool) {σ σ' : St} (X : Ctx) (a : Act), q ≤ m → m ≤ ops.size → listed.size = ops.size → (∀ j, listed.getD j false = decide (j < m)) →
      Closed ops (fun i => listed.getD i false) → undone ops.size (fun i => listed.getD i false) ≤ fuel → Rel X σ a → opsRun P kp kh ops (List.range' m (ops.size - m)) σ = some σ' → (∀ c ∈ σ'.cs, c = true) → (∀ X' a', X.le X' → Rel X' σ' a' → Q .normal a' X'.w) →
      wpAny P .any ops Q fuel listed a X.w := by
  intro fuel
  induction fuel with
  | zero =>
    intro m listed σ σ' X a hqm hm hsz hl hS hu h hr hc hq
    have hme : m = ops.size := by
      rcases Nat.lt_or_ge m ops.size with hh | hh
      · have := undone_pos (ops := ops) (listed := listed) hh (by rw [hl]; simp)
        omega
      · omega
    subst hme
    simp only [Nat.sub_self, List.range'_zero, opsRun, Option.some.injEq] at hr
    subst hr
    refine ⟨?_, hq X a (.refl X) h⟩
    cases hrr : Region.ready .any ops listed with
    | nil => rfl
    | cons i rest =>
      obtain ⟨hi, hif, _⟩ := ready_off hsz (i := i) (by rw [hrr]; exact List.mem_cons_self ..)
      rw [hl] at hif
      simp [hi] at hif
  | succ fuel ih =>
    intro m listed σ σ' X a hqm hm hsz hl hS hu h hr hc hq
    rcases Nat.lt_or_ge m ops.size with hlt | hge
    · refine ⟨fun hrr => ?_, fun i hmem => ?_⟩
      · have := all_ready hback listed hsz hrr m hlt
        rw [hl] at this
        simp at this
      · obtain ⟨hi, hif, o, ho, hedge⟩ := ready_off hsz hmem
        have him : i = m := by
          rw [hl] at hif
          simp only [decide_eq_false_iff_not] at hif
          rcases Nat.lt_or_ge m i with hh | hh
          · have := sync_must hmok (hsync i (by omega) hi) hS hsz hmem m hh
            rw [hl] at this
            simp at this
          · omega
        subst him
        rw [show ops.size - i = (ops.size - (i + 1)) + 1 by omega, List.range'_succ] at hr
        simp only [opsRun, ho] at hr
        split at hr
        · rename_i σ1 hs
          obtain ⟨c2, e2⟩ := opsRun_suf _ hr
          unfold wpOp
          simp only [ho]
          have hil : i < listed.size := by omega
          have hs1 : (listed.setIfInBounds i true).getD i false = true := by simp [hil]
          have hs2 : ∀ j, j ≠ i → (listed.setIfInBounds i true).getD j false = listed.getD j false := fun j hj => getD_set_ne false (Ne.symm hj)
          refine (stepOp_sim hkp hkh h hs).2 (fun c hcm => hc c (by rw [e2]; exact List.mem_append_right _ hcm)) _ Q fun X' a' hle h' => ?_
          refine ih (i + 1) _ X' a' (by omega) hlt (by simp [hsz]) (fun j => ?_) ?_ ?_ h' hr hc fun X'' a'' hle' h'' => hq X'' a'' (hle.trans hle') h''
          · by_cases hji : j = i
            · subst hji; rw [hs1]; simp
            · rw [hs2 j hji, hl]
              by_cases h1 : j < i
              · simp [h1]; omega
              · have : ¬ j < i + 1 := by omega
                simp [h1, this]
          · intro j o' ho' hj e he hb
            by_cases hji : j = i
            · subst hji
              rw [ho] at ho'
              injection ho' with ho'
              subst ho'
              exact getD_set_true (hedge e he hb)
            · simp only [hs2 j hji] at hj
              exact getD_set_true (hS j o' ho' hj e he hb)
          · have := undone_set hsz hi hif
            omega
        · cases hr
    · have hme : m = ops.size := by omega
      subst hme
      simp only [Nat.sub_self, List.range'_zero, opsRun, Option.some.injEq] at hr
      subst hr
      refine ⟨fun _ => hq X a (.refl X) h, fun i hmem => ?_⟩
      obtain ⟨hi, hif, _⟩ := ready_off hsz hmem
      rw [hl] at hif
      simp [hi] at hif
end

/-- Holes among the blocks' numbers are given to nothing. -/
def Ctx.fill (X : Ctx) (n : Nat) : Ctx := { X with H := fun k => match X.H k with | some b => some b | none => if k < n then some (.tok 0 0) else none }

theorem fill_some {X : Ctx} {n i : Nat} {b : AB} (h : (X.fill n).H i = some b) (hl : b.pt = true) : X.H i = some b := by
  simp only [Ctx.fill] at h
  split at h
  · rename_i hb; rw [hb]; exact h
  · split at h
    · injection h with h; subst h; cases hl
    · cases h

theorem some_fill {X : Ctx} {n i : Nat} {b : AB} (h : X.H i = some b) : (X.fill n).H i = some b := by simp only [Ctx.fill, h]

theorem fill_le {X : Ctx} (n : Nat) : X.le (X.fill n) where
  ic a y := fun ⟨h1, h2, h3, h4, h5⟩ => ⟨h1, h2, h3, fun i b hb hl => h4 i b (fill_some hb (AB.pt_of (AB.loc_of hl))) hl, h5⟩
  loc i b h hm := ⟨⟨b, some_fill h, hm⟩, rfl⟩
  arr i row l h := .inl ⟨l, some_fill h, rfl⟩
  dead i h := some_fill h
  ca _ _ _ _ := rfl
  tok i t v h := ⟨v, some_fill h, Nat.le_refl _, fun _ => ⟨rfl, fun _ _ _ h => h⟩⟩
  w0 := rfl
  lent := rfl
  oldeq := rfl
  drawn := Nat.le_refl _

theorem HRel.fill {X : Ctx} (hX : HRel X) (n : Nat) : HRel (X.fill n) where
  inj i j b c hi hj hb hc hne := hX.inj i j b c (fill_some hi (AB.pt_of hb)) (fill_some hj (AB.pt_of hc)) hb hc hne
  injt := hX.injt
  injm i b j hi hb hj := hX.injm i b j (fill_some hi (AB.pt_of hb)) hb hj
  place i b hi hb := hX.place i b (fill_some hi (AB.pt_of (AB.loc_of hb))) hb
  placet := hX.placet
  lt i b hi hb := hX.lt i b (fill_some hi hb) hb
  ltt := hX.ltt
  tlH i hi := by
    cases h : X.H i with
    | none => exact absurd h (hX.tlH i hi)
    | some b => rw [some_fill h]; exact fun e => by cases e
  frlt := hX.frlt
  blk i b h := by
    cases hm : b.loc with
    | true => exact BRel.mono (fill_le n) rfl rfl rfl (hX.blk i b (fill_some h (AB.pt_of hm)))
    | false => cases b <;> first | trivial | cases hm
  below := hX.below
  os := hX.os
  tape := hX.tape
  output := hX.output
  size := hX.size
  old a y h := (fill_le n).ic a y (hX.old a y h)

def tmOf (tm : List (Nat × AV)) : List DRec → List (Nat × AV)
  | [] => tm
  | r :: L => match r.dst with
    | some d => (d, r.v) :: tmOf tm L
    | none => tmOf tm L

theorem tmOf_look {tm : List (Nat × AV)} {s : Nat} : ∀ {L : List DRec}, lookT (tmOf tm L) s = slotAt (lookT tm) all L s
  | [] => rfl
  | r :: L => by
    have ih := tmOf_look (tm := tm) (s := s) (L := L)
    simp only [tmOf, slotAt, DRec.writes, all, Bool.and_true]
    cases hd : r.dst with
    | none => simpa using ih
    | some d =>
      simp only [lookT]
      rw [ih]

def hpOf (H : Nat → Option AB) : Nat → Nat → List AB
  | 0, _ => []
  | n + 1, k => (match H k with | some b => b | none => .tok 0 0) :: hpOf H n (k + 1)

theorem hpOf_get {H : Nat → Option AB} : ∀ (n k i : Nat), (hpOf H n k)[i]? = if i < n then some ((H (k + i)).getD (.tok 0 0)) else none
  | 0, k, i => by simp [hpOf]
  | n + 1, k, i => by
    cases i with
    | zero =>
      simp only [hpOf, List.getElem?_cons_zero, Nat.add_zero, Nat.zero_lt_succ, if_true, Option.some.injEq]
      cases H k <;> rfl
    | succ i =>
      simp only [hpOf, List.getElem?_cons_succ, hpOf_get n (k + 1) i, Nat.add_lt_add_iff_right]
      rw [show k + 1 + i = k + (i + 1) by omega]

/-- From where on each operation waits for all ahead of it. -/
def syncFrom : Nat → List Nat → Nat
  | j, [] => j
  | j, m :: r => if Nat.beq (syncFrom (j + 1) r) (j + 1) && Nat.beq m (2 ^ j - 1) then j else syncFrom (j + 1) r
theorem syncFrom_spec : ∀ (ms : List Nat) (j : Nat), j ≤ syncFrom j ms ∧ syncFrom j ms ≤ j + ms.length ∧ ∀ k, syncFrom j ms ≤ j + k → k < ms.length → ms[k]? = some (2 ^ (j + k) - 1)
  | [], j => ⟨Nat.le_refl _, Nat.le_refl _, fun k _ hk => by simp at hk⟩
  | m :: r, j => by
    obtain ⟨h1, h2, h3⟩ := syncFrom_spec r (j + 1)
    simp only [syncFrom]
    split
    · rename_i hc
      simp only [Bool.and_eq_true, Nat.beq_eq] at hc
      refine ⟨Nat.le_refl _, by omega, fun k hk hl => ?_⟩
      cases k with
      | zero => simp [hc.2]
      | succ k =>
        have := h3 k (by omega) (by simpa using hl)
        rw [List.getElem?_cons_succ, this]; congr 2; congr 1; omega
    · refine ⟨by omega, by simp only [List.length_cons]; omega, fun k hk hl => ?_⟩
      cases k with
      | zero => omega
      | succ k =>
        have := h3 k (by omega) (by simpa using hl)
        rw [List.getElem?_cons_succ, this]; congr 2; congr 1; omega

/-- A region that draws its order: a part that is drawn, and behind it operations that wait for all ahead of them. -/
def drawRun (P : Program) (kp : KP) (kq : KX) (kh : KH) (ops : Array Oper) (σ : St) : Option St :=
  match σ.tg with
  | [] => if backOk ops.toList 0 then
      match dpass P kq ops σ.nt (lookT σ.tm) σ.H σ.hp.length (ops.toList.take (syncFrom 0 (masks ops.toList []))) [] 0 σ.os σ.cs with
      | some (L, m, os, cs) => if okAll (masks ops.toList []) L && L.all (fun r => r.u.all fun p => Nat.blt p.1 (σ.hp.length + m)) then
          opsRun P kp kh ops (List.range' (syncFrom 0 (masks ops.toList [])) (ops.size - syncFrom 0 (masks ops.toList []))) { σ with tm := tmOf σ.tm L, hp := hpOf (heapAt σ.H all L) (σ.hp.length + m) 0, os, cs }
        else none
      | none => none
    else none
  | _ => none

theorem heapAt_out {H0 : Nat → Option AB} {k : Nat} (hk : H0 k = none) : ∀ {L : List DRec}, (∀ r ∈ L, ∀ p ∈ r.u, p.1 ≠ k) → heapAt H0 all L k = none
  | [], _ => hk
  | r :: L, h => by
    show r.at k (heapAt H0 all L k) = none
    rw [heapAt_out hk fun r' hr => h r' (List.mem_cons_of_mem _ hr)]
    unfold DRec.at
    rw [findU_none.2 fun hm => by
      obtain ⟨p, hp, e⟩ := List.mem_map.1 hm
      exact h r (List.mem_cons_self ..) p hp e]
    simp only
    split
    · split <;> rfl
    · rfl

theorem slotAt_none {T0 : Nat → Option AV} {S : Nat → Bool} (L : List DRec) (h : ∀ i, S i = false) {s : Nat} : slotAt T0 S L s = T0 s := by
  induction L with
  | nil => rfl
  | cons r L ih => simp only [slotAt, h, Bool.and_false]; exact ih
theorem heapAt_none {H0 : Nat → Option AB} {S : Nat → Bool} (L : List DRec) (h : ∀ i, S i = false) : heapAt H0 S L = H0 := by
  funext x
  induction L with
  | nil => rfl
  | cons r L ih => simp only [heapAt, h]; exact ih

theorem masks_len : ∀ (l : List Oper) (acc : List Nat), (masks l acc).length = acc.length + l.length
  | [], acc => rfl
  | o :: r, acc => by simp only [masks, masks_len r, List.length_append, List.length_cons, List.length_nil]; omega

theorem drawRun_suf {kp : KP} {kq : KX} {kh : KH} {ops : Array Oper} {σ σ' : St} (hr : drawRun P kp kq kh ops σ = some σ') : ∃ cs, σ'.cs = cs ++ σ.cs := by
  unfold drawRun at hr
  split at hr
  · split at hr
    · split at hr
      · rename_i L m os cs hd
        split at hr
        · obtain ⟨_, _, c2, e⟩ := dpass_good (P := P) _ _ _ _ _ hd (fun j o h => by
            rw [List.getElem?_take] at h
            split at h
            · simpa using h
            · cases h) trivial
          obtain ⟨c3, e3⟩ := opsRun_suf _ hr
          exact ⟨c3 ++ c2, by rw [e3]; simp only [e, List.append_assoc]⟩
        · cases hr
      · cases hr
    · cases hr
  · cases hr

theorem drawRun_sim (hm : P.follows .mixedOrders = true) {kp : KP} {kq : KX} {kh : KH} (hkp : KPok P kp) (hkq : KXok P kq) (hkh : KHok P kh) {id : Nat} {ops : Array Oper} {σ σ' : St} {X : Ctx} {a : Act} (h : Rel X σ a) (hr : drawRun P kp kq kh ops σ = some σ') (hc : ∀ c ∈ σ'.cs, c = true)
    {Q : Exit → Act → World → Prop} (hq : ∀ X' a', X.le X' → Rel X' σ' a' → Q .normal a' X'.w) : (Code.region id ops true).wp P Q a X.w := by
  unfold drawRun at hr
  split at hr
  · rename_i htg
    split at hr
    · rename_i hback
      split at hr
      · rename_i L m os cs hd
        split at hr
        · rename_i hok
          simp only [Bool.and_eq_true] at hok
          obtain ⟨hok, hub⟩ := hok
          obtain ⟨hgood, hlen, _⟩ := dpass_good (P := P) _ _ _ _ _ hd (fun j o h => by
            rw [List.getElem?_take] at h
            split at h
            · simpa using h
            · cases h) trivial
          have hml : (masks ops.toList []).length = ops.size := by rw [masks_len]; simp
          obtain ⟨_, hs2, hs3⟩ := syncFrom_spec (masks ops.toList []) 0
          have hqs : syncFrom 0 (masks ops.toList []) ≤ ops.size := by omega
          have hLq : L.length = syncFrom 0 (masks ops.toList []) := by
            rw [hlen, List.length_nil, Nat.zero_add, List.length_take]; simp only [Array.length_toList]; omega
          have hL : Listing P kq ops σ.nt (lookT σ.tm) σ.H cs L (masks ops.toList []) := by
            refine ⟨hgood, by omega, hok, masks_ok _ _ (fun j o h => by simpa using h) (fun k m hk => by simp at hk), hml⟩
          have hsync : ∀ j, L.length ≤ j → j < ops.size → (masks ops.toList [])[j]? = some (2 ^ j - 1) := fun j h1 h2 => by
            have := hs3 j (by omega) (by omega)
            rwa [Nat.zero_add] at this
          obtain ⟨c3, e3⟩ := opsRun_suf _ hr
          have hcs : ∀ c ∈ cs, c = true := fun c hcm => hc c (by rw [e3]; exact List.mem_append_right _ hcm)
          have hbk : ∀ (j : Nat) o, ops[j]? = some o → ∀ e ∈ o.after, Region.binds .any e = true → e.on < j := fun j o ho => by have := backOk_spec _ 0 hback j o (by simpa using ho); simpa using this
          have hbelow : Below X.w.heap.size X.w { X.w with drawn := X.w.drawn + 1 } := by
            refine ⟨?_, ?_, ?_, ?_, ?_⟩ <;> first | rfl | exact Nat.le_refl _ | (intros; rfl)
          refine wp_region_any hm ?_
          have hX1 := h.hrel.withW hbelow (Nat.le_refl _)
          have hle1 := withW_le h.hrel hbelow (Nat.le_refl _)
          have hrep : ∀ i, (Array.replicate ops.size false).getD i false = false := fun i => by
            simp only [Array.getD_eq_getD_getElem?, Array.getElem?_replicate]
            split <;> rfl
          refine hL.any hkq hcs hbk hsync ops.size _ (X.withW _) a (by simp) (fun j _ => hrep j) ?_ ?_ ⟨hX1, ?_, h.size, h.defers, ?_⟩ ?_
          · intro j o ho hj
            simp only [hrep] at hj; cases hj
          · unfold undone
            exact Nat.le_trans List.countP_le_length (by simp)
          · rw [heapAt_none _ hrep]; exact h.heap
          · intro s v hv
            rw [slotAt_none _ hrep] at hv
            exact VR.mono hle1 _ _ (h.tm s v hv)
          · intro X' a' listed' fuel' hle h' hsz' hl' hS' hu'
            have hrel1 : Rel (X'.fill (σ.hp.length + m)) { σ with tm := tmOf σ.tm L, hp := hpOf (heapAt σ.H all L) (σ.hp.length + m) 0, os, cs } a' := by
              refine ⟨h'.hrel.fill _, ?_, h'.size, h'.defers, ?_, ?_⟩
              · funext k
                simp only [Ctx.fill, St.H, hpOf_get, Nat.zero_add, h'.heap]
                split
                · rename_i b hb
                  have hk : k < σ.hp.length + m := by
                    by_cases hk : k < σ.hp.length + m
                    · exact hk
                    · have hnone : σ.H k = none := by simp only [St.H]; exact List.getElem?_eq_none (by omega)
                      have : heapAt σ.H all L k = none := heapAt_out hnone fun r hr p hp => by
                        have h1 := List.all_eq_true.1 (List.all_eq_true.1 hub r hr) p hp
                        simp only [Nat.blt_eq] at h1
                        omega
                      rw [this] at hb; cases hb
                  rw [if_pos hk, hb]; rfl
                · rename_i hb
                  rw [hb]; rfl
              · intro t v hv
                rw [tmOf_look] at hv
                exact VR.mono (fill_le _) _ _ (h'.slots t v hv)
              · intro t s w v hv
                simp only [htg] at hv
                cases hv
            exact suffix_run hkp hkh hL.mok hbk (q := L.length) hsync fuel' (syncFrom 0 (masks ops.toList [])) listed' (X'.fill (σ.hp.length + m)) a' (by omega) hqs hsz' (fun j => by rw [hl' j, hLq]) hS' hu' hrel1 hr hc
              fun X'' a'' hle' h'' => hq X'' a'' (hle1.trans (hle.trans ((fill_le _).trans hle'))) h''
        · cases hr
      · cases hr
    · cases hr
  · cases hr
end
section
open Go Go.RowKit
variable {P : Program}

inductive XE where
  | normal | exit (id : Nat) | ret

def XE.out : XE → Exit
  | .normal => .normal
  | .exit id => .exit id
  | .ret => .ret

/-- A loop's name: its body's first region. -/
def firstId : Code → Option Nat
  | .region id _ _ => some id
  | .seq a b => match firstId a with
    | some i => some i
    | none => firstId b
  | .cond _ x y => match firstId x with
    | some i => some i
    | none => firstId y
  | .block _ c => firstId c
  | .loop c => firstId c
  | .scope c => firstId c
  | _ => none

def loopsOf : Code → List Code
  | .seq a b => loopsOf a ++ loopsOf b
  | .cond _ x y => loopsOf x ++ loopsOf y
  | .block _ c => loopsOf c
  | .loop c => c :: loopsOf c
  | .scope c => loopsOf c
  | _ => []

/-- What is known of a function's loops. -/
abbrev LC := Nat → St → Option (XE × St)

def loopGo (f : St → Option (XE × St)) : Nat → St → Option (XE × St)
  | 0, _ => none
  | n + 1, σ => match f σ with
    | some (.normal, σ') => loopGo f n σ'
    | some (.exit i, σ') => some (.exit i, σ')
    | some (.ret, σ') => some (.ret, σ')
    | none => none

def lcAt (lc : LC) (i : Option Nat) (σ : St) : Option (XE × St) :=
  match i with
  | some i => lc i σ
  | none => none

def exec (P : Program) (kp : KP) (kq : KX) (kh : KH) (lc : LC) (n : Nat) : Code → St → Option (XE × St)
  | .skip, σ => some (.normal, σ)
  | .label _, σ => some (.normal, σ)
  | .ret, σ => some (.ret, σ)
  | .exit id, σ => some (.exit id, σ)
  | .region _ ops true, σ => match drawRun P kp kq kh ops σ with
    | some σ' => some (.normal, σ')
    | none => none
  | .region _ ops false, σ => match opsRun P kp kh ops (List.range ops.size) σ with
    | some σ' => some (.normal, σ')
    | none => none
  | .seq a b, σ => match exec P kp kq kh lc n a σ with
    | some (.normal, σ') => exec P kp kq kh lc n b σ'
    | some (.exit i, σ') => some (.exit i, σ')
    | some (.ret, σ') => some (.ret, σ')
    | none => none
  | .cond c x y, σ => match σ.ev [] c with
    | some (.one (.bool b)) => match br b σ.os with
      | (true, cs, r) => exec P kp kq kh lc n x { σ with os := r, cs := cs ++ σ.cs }
      | (false, cs, r) => exec P kp kq kh lc n y { σ with os := r, cs := cs ++ σ.cs }
    | _ => none
  | .block id c, σ => match exec P kp kq kh lc n c σ with
    | some (.exit i, σ') => if Nat.beq i id then some (.normal, σ') else some (.exit i, σ')
    | some (.normal, σ') => some (.normal, σ')
    | some (.ret, σ') => some (.ret, σ')
    | none => none
  | .scope c, σ => exec P kp kq kh lc n c σ
  | .loop c, σ => match lcAt lc (firstId c) σ with
    | some r => some r
    | none => loopGo (fun σ => exec P kp kq kh lc n c σ) n σ
  | .rangeFunc .., _ => none
  | .goto _, _ => none
  | .refuse _, _ => none

def LoopAt (P : Program) (c : Code) (Q : Exit → Act → World → Prop) (a : Act) (w : World) : Prop :=
  ∀ (b : Frame) (k : List Item) (cs : List Frame), ∃ e a' w', Q e a' w' ∧ Arrives P (lone (b.at a (.code c :: .inLoop c :: k)) cs w) b k cs e a' w'

theorem LoopAt.wp {c : Code} {Q : Exit → Act → World → Prop} {a : Act} {w : World} (h : LoopAt P c Q a w) : (Code.loop c).wp P Q a w := fun b k cs =>
  let ⟨e, a', w', hq, harr⟩ := h b k cs
  ⟨e, a', w', hq, .of_steps (.one step_loop) harr⟩

theorem LoopAt.round {c : Code} {Q : Exit → Act → World → Prop} {a : Act} {w : World} (h : c.wp P (Exit.then (LoopAt P c Q) Q) a w) : LoopAt P c Q a w := by
  intro b k cs
  obtain ⟨e, a₁, w₁, hq, harr⟩ := h b (.inLoop c :: k) cs
  cases e with
  | normal =>
    obtain ⟨e₂, a₂, w₂, hq₂, harr₂⟩ := hq b k cs
    exact ⟨e₂, a₂, w₂, hq₂, .of_steps (Steps.trans harr (.one step_inLoop)) harr₂⟩
  | exit id => exact ⟨_, a₁, w₁, hq, .pass (x := .inLoop c) rfl (fun _ _ => .inl (by simp)) harr⟩
  | goto l => exact ⟨_, a₁, w₁, hq, .pass (x := .inLoop c) rfl (fun _ _ => .inl (by simp)) harr⟩
  | ret => exact ⟨_, a₁, w₁, hq, .pass (x := .inLoop c) rfl (fun _ _ => .inl (by simp)) harr⟩
  | panic ch => exact ⟨_, a₁, w₁, hq, .pass (x := .inLoop c) rfl (fun _ _ => .inl (by simp)) harr⟩
  | outgrown => exact ⟨_, a₁, w₁, hq, .pass (x := .inLoop c) rfl (fun _ _ => .inl (by simp)) harr⟩

/-- From what is known at a loop's head, the loop comes to this. -/
def LoopSim (P : Program) (c : Code) (σ : St) (e : XE) (σ' : St) : Prop :=
  ∀ (X : Ctx) (a : Act) (Q : Exit → Act → World → Prop), Rel X σ a → (∀ X' a', X.le X' → Rel X' σ' a' → Q e.out a' X'.w) → LoopAt P c Q a X.w

/-- The loops of a piece of code do what is said of them. -/
def LCok (P : Program) (lc : LC) (c : Code) : Prop :=
  ∀ body ∈ loopsOf c, ∀ i, firstId body = some i → ∀ σ e σ', lc i σ = some (e, σ') → (∃ cs, σ'.cs = cs ++ σ.cs) ∧ ((∀ c ∈ σ'.cs, c = true) → LoopSim P body σ e σ')

theorem loopGo_suf {f : St → Option (XE × St)} (hf : ∀ σ e σ', f σ = some (e, σ') → ∃ cs, σ'.cs = cs ++ σ.cs) : ∀ (n : Nat) {σ e σ'}, loopGo f n σ = some (e, σ') → ∃ cs, σ'.cs = cs ++ σ.cs
  | 0, _, _, _, h => by cases h
  | n + 1, σ, e, σ', h => by
    simp only [loopGo] at h
    split at h
    · rename_i σ1 h1
      obtain ⟨c1, e1⟩ := hf _ _ _ h1
      obtain ⟨c2, e2⟩ := loopGo_suf hf n h
      exact ⟨c2 ++ c1, by rw [e2, e1]; simp⟩
    · rename_i h1
      simp only [Option.some.injEq, Prod.mk.injEq] at h
      obtain ⟨rfl, rfl⟩ := h
      exact hf _ _ _ h1
    · rename_i h1
      simp only [Option.some.injEq, Prod.mk.injEq] at h
      obtain ⟨rfl, rfl⟩ := h
      exact hf _ _ _ h1
    · cases h

theorem exec_suf {kp : KP} {kq : KX} {kh : KH} {lc : LC} {n : Nat} (c : Code) : LCok P lc c → ∀ {σ e σ'}, exec P kp kq kh lc n c σ = some (e, σ') → ∃ cs, σ'.cs = cs ++ σ.cs := by
  induction c with
  | skip | label | ret | exit =>
    intro _ σ e σ' h
    simp only [exec, Option.some.injEq, Prod.mk.injEq] at h
    rw [← h.2]; exact ⟨[], rfl⟩
  | region id ops draw =>
    intro _ σ e σ' h
    cases draw
    · simp only [exec] at h
      split at h
      · rename_i h1
        simp only [Option.some.injEq, Prod.mk.injEq] at h
        rw [← h.2]; exact opsRun_suf _ h1
      · cases h
    · simp only [exec] at h
      split at h
      · rename_i h1
        simp only [Option.some.injEq, Prod.mk.injEq] at h
        rw [← h.2]; exact drawRun_suf h1
      · cases h
  | seq a b iha ihb =>
    intro hl σ e σ' h
    have hla : LCok P lc a := fun body hb => hl body (List.mem_append_left _ hb)
    have hlb : LCok P lc b := fun body hb => hl body (List.mem_append_right _ hb)
    simp only [exec] at h
    split at h
    · rename_i h1
      obtain ⟨c1, e1⟩ := iha hla h1
      obtain ⟨c2, e2⟩ := ihb hlb h
      exact ⟨c2 ++ c1, by rw [e2, e1]; simp⟩
    · rename_i h1
      simp only [Option.some.injEq, Prod.mk.injEq] at h
      rw [← h.2]; exact iha hla h1
    · rename_i h1
      simp only [Option.some.injEq, Prod.mk.injEq] at h
      rw [← h.2]; exact iha hla h1
    · cases h
  | cond c x y ihx ihy =>
    intro hl σ e σ' h
    have hlx : LCok P lc x := fun body hb => hl body (List.mem_append_left _ hb)
    have hly : LCok P lc y := fun body hb => hl body (List.mem_append_right _ hb)
    simp only [exec] at h
    split at h
    · split at h
      · obtain ⟨c1, e1⟩ := ihx hlx h
        exact ⟨_, e1.trans (by simp only [← List.append_assoc]; rfl)⟩
      · obtain ⟨c1, e1⟩ := ihy hly h
        exact ⟨_, e1.trans (by simp only [← List.append_assoc]; rfl)⟩
    · cases h
  | block id c ih =>
    intro hl σ e σ' h
    simp only [exec] at h
    split at h
    · rename_i h1
      split at h <;>
      · simp only [Option.some.injEq, Prod.mk.injEq] at h
        rw [← h.2]; exact ih hl h1
    · rename_i h1
      simp only [Option.some.injEq, Prod.mk.injEq] at h
      rw [← h.2]; exact ih hl h1
    · rename_i h1
      simp only [Option.some.injEq, Prod.mk.injEq] at h
      rw [← h.2]; exact ih hl h1
    · cases h
  | loop c ih =>
    intro hl σ e σ' h
    simp only [exec] at h
    have hlc : LCok P lc c := fun body hb => hl body (List.mem_cons_of_mem _ hb)
    split at h
    · rename_i r h1
      injection h with h; subst h
      unfold lcAt at h1
      split at h1
      · rename_i i hi
        exact (hl c (List.mem_cons_self ..) i hi _ _ _ h1).1
      · cases h1
    · exact loopGo_suf (fun σ e σ' h => ih hlc h) n h
  | scope c ih =>
    intro hl σ e σ' h
    exact ih hl h
  | rangeFunc f ps x y => intro _ σ e σ' h; cases h
  | goto l => intro _ σ e σ' h; cases h
  | refuse w => intro _ σ e σ' h; cases h

theorem exec_sim (hm : P.follows .mixedOrders = true) {kp : KP} {kq : KX} {kh : KH} (hkp : KPok P kp) (hkq : KXok P kq) (hkh : KHok P kh) {lc : LC} {n : Nat} (c : Code) : LCok P lc c → ∀ {σ : St} {e : XE} {σ' : St}, exec P kp kq kh lc n c σ = some (e, σ') →
    (∀ c ∈ σ'.cs, c = true) → ∀ {X : Ctx} {a : Act}, Rel X σ a → ∀ {Q : Exit → Act → World → Prop}, (∀ X' a', X.le X' → Rel X' σ' a' → Q e.out a' X'.w) → c.wp P Q a X.w := by
  induction c with
  | skip =>
    intro _ σ e σ' h hc X a hr Q hq
    simp only [exec, Option.some.injEq, Prod.mk.injEq] at h
    obtain ⟨rfl, rfl⟩ := h
    exact wp_skip (hq X a (.refl X) hr)
  | label l =>
    intro _ σ e σ' h hc X a hr Q hq
    simp only [exec, Option.some.injEq, Prod.mk.injEq] at h
    obtain ⟨rfl, rfl⟩ := h
    exact wp_label (hq X a (.refl X) hr)
  | ret =>
    intro _ σ e σ' h hc X a hr Q hq
    simp only [exec, Option.some.injEq, Prod.mk.injEq] at h
    obtain ⟨rfl, rfl⟩ := h
    exact wp_ret (hq X a (.refl X) hr)
  | exit id =>
    intro _ σ e σ' h hc X a hr Q hq
    simp only [exec, Option.some.injEq, Prod.mk.injEq] at h
    obtain ⟨rfl, rfl⟩ := h
    exact wp_exit (hq X a (.refl X) hr)
  | region id ops draw =>
    intro _ σ e σ' h hc X a hr Q hq
    cases draw
    · simp only [exec] at h
      split at h
      · rename_i h1
        simp only [Option.some.injEq, Prod.mk.injEq] at h
        obtain ⟨rfl, rfl⟩ := h
        exact wp_region (opsRun_sim hkp hkh _ hr h1 hc hq)
      · cases h
    · simp only [exec] at h
      split at h
      · rename_i h1
        simp only [Option.some.injEq, Prod.mk.injEq] at h
        obtain ⟨rfl, rfl⟩ := h
        exact drawRun_sim hm hkp hkq hkh hr h1 hc hq
      · cases h
  | seq x y iha ihb =>
    intro hl σ e σ' h hc X a hr Q hq
    have hla : LCok P lc x := fun body hb => hl body (List.mem_append_left _ hb)
    have hlb : LCok P lc y := fun body hb => hl body (List.mem_append_right _ hb)
    simp only [exec] at h
    split at h
    · rename_i σ1 h1
      obtain ⟨c2, e2⟩ := exec_suf y hlb h
      refine wp_seq (iha hla h1 (fun q hq => hc q (by rw [e2]; exact List.mem_append_right _ hq)) hr fun X' a' hle hr' => ?_)
      exact ihb hlb h hc hr' fun X'' a'' hle' hr'' => hq X'' a'' (hle.trans hle') hr''
    · rename_i h1
      simp only [Option.some.injEq, Prod.mk.injEq] at h
      obtain ⟨rfl, rfl⟩ := h
      exact wp_seq (iha hla h1 hc hr fun X' a' hle hr' => hq X' a' hle hr')
    · rename_i h1
      simp only [Option.some.injEq, Prod.mk.injEq] at h
      obtain ⟨rfl, rfl⟩ := h
      exact wp_seq (iha hla h1 hc hr fun X' a' hle hr' => hq X' a' hle hr')
    · cases h
  | cond c x y ihx ihy =>
    intro hl σ e σ' h hc X a hr Q hq
    have hlx : LCok P lc x := fun body hb => hl body (List.mem_append_left _ hb)
    have hly : LCok P lc y := fun body hb => hl body (List.mem_append_right _ hb)
    simp only [exec] at h
    split at h
    · rename_i b hb
      have hbv : a.eval c = .bool b := hr.ev (chain := []) (fun g hg => by cases hg) hb
      split at h
      · rename_i cs r hbr
        obtain ⟨c1, e1⟩ := exec_suf x hlx h
        have := br_eq (b := b) (os := σ.os) (by rw [hbr]; intro q hq; exact hc q (by rw [e1]; exact List.mem_append_right _ (List.mem_append_left _ hq)))
        rw [hbr] at this
        simp only at this
        rw [← this] at hbv
        exact wp_cond_true hbv (ihx hlx h hc (hr.cs r (cs ++ σ.cs)) hq)
      · rename_i cs r hbr
        obtain ⟨c1, e1⟩ := exec_suf y hly h
        have := br_eq (b := b) (os := σ.os) (by rw [hbr]; intro q hq; exact hc q (by rw [e1]; exact List.mem_append_right _ (List.mem_append_left _ hq)))
        rw [hbr] at this
        simp only at this
        rw [← this] at hbv
        exact wp_cond_false hbv (ihy hly h hc (hr.cs r (cs ++ σ.cs)) hq)
    · cases h
  | block id c ih =>
    intro hl σ e σ' h hc X a hr Q hq
    simp only [exec] at h
    refine wp_block ?_
    split at h
    · rename_i i σ1 h1
      split at h
      · rename_i hi
        simp only [Nat.beq_eq] at hi
        simp only [Option.some.injEq, Prod.mk.injEq] at h
        obtain ⟨rfl, rfl⟩ := h
        refine ih hl h1 hc hr fun X' a' hle hr' => ?_
        simp only [XE.out, Exit.inBlock, hi, if_true]
        exact hq X' a' hle hr'
      · rename_i hi
        simp only [Nat.beq_eq] at hi
        simp only [Option.some.injEq, Prod.mk.injEq] at h
        obtain ⟨rfl, rfl⟩ := h
        refine ih hl h1 hc hr fun X' a' hle hr' => ?_
        simp only [XE.out, Exit.inBlock, hi, if_false]
        exact hq X' a' hle hr'
    · rename_i h1
      simp only [Option.some.injEq, Prod.mk.injEq] at h
      obtain ⟨rfl, rfl⟩ := h
      exact ih hl h1 hc hr fun X' a' hle hr' => hq X' a' hle hr'
    · rename_i h1
      simp only [Option.some.injEq, Prod.mk.injEq] at h
      obtain ⟨rfl, rfl⟩ := h
      exact ih hl h1 hc hr fun X' a' hle hr' => hq X' a' hle hr'
    · cases h
  | loop c ih =>
    intro hl σ e σ' h hc X a hr Q hq
    simp only [exec] at h
    have hlc : LCok P lc c := fun body hb => hl body (List.mem_cons_of_mem _ hb)
    refine LoopAt.wp ?_
    split at h
    · rename_i r h1
      injection h with h; subst h
      unfold lcAt at h1
      split at h1
      · rename_i i hi
        exact (hl c (List.mem_cons_self ..) i hi _ _ _ h1).2 hc X a Q hr hq
      · cases h1
    · have key : ∀ (k : Nat) {σ : St} {X : Ctx} {a : Act}, loopGo (fun σ => exec P kp kq kh lc n c σ) k σ = some (e, σ') → Rel X σ a → (∀ X' a', X.le X' → Rel X' σ' a' → Q e.out a' X'.w) → LoopAt P c Q a X.w := by
        intro k
        induction k with
        | zero => intro σ X a h; cases h
        | succ k ihk =>
          intro σ X a h hr hq
          simp only [loopGo] at h
          refine LoopAt.round ?_
          split at h
          · rename_i σ1 h1
            obtain ⟨c2, e2⟩ := loopGo_suf (fun σ e σ' h => exec_suf c hlc h) k h
            refine ih hlc h1 (fun q hq => hc q (by rw [e2]; exact List.mem_append_right _ hq)) hr fun X' a' hle hr' => ?_
            exact ihk h hr' fun X'' a'' hle' hr'' => hq X'' a'' (hle.trans hle') hr''
          · rename_i h1
            simp only [Option.some.injEq, Prod.mk.injEq] at h
            obtain ⟨rfl, rfl⟩ := h
            exact ih hlc h1 hc hr fun X' a' hle hr' => hq X' a' hle hr'
          · rename_i h1
            simp only [Option.some.injEq, Prod.mk.injEq] at h
            obtain ⟨rfl, rfl⟩ := h
            exact ih hlc h1 hc hr fun X' a' hle hr' => hq X' a' hle hr'
          · cases h
      exact key n h hr hq
  | scope c ih =>
    intro hl σ e σ' h hc X a hr Q hq
    refine wp_scope_straight (ih hl h hc hr fun X' a' hle hr' => ?_)
    have := hq X' a' hle hr'
    cases e <;> exact this
  | rangeFunc f ps x y => intro _ σ e σ' h; cases h
  | goto l => intro _ σ e σ' h; cases h
  | refuse w => intro _ σ e σ' h; cases h
end
end Go.Eng
