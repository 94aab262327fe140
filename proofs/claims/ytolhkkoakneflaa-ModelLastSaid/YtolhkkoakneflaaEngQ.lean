import Derived.Test.YtolhkkoakneflaaEngP
set_option linter.unusedVariables false
namespace Go.Eng
open Go Go.RowKit
variable {P : Program}

/-- The row of an operation, with its number. -/
inductive Ent : List DRec → Nat → DRec → Prop where
  | here (r : DRec) (L : List DRec) : Ent (r :: L) L.length r
  | next {r : DRec} {L : List DRec} {k : Nat} {r' : DRec} (h : Ent L k r') : Ent (r :: L) k r'

theorem Ent.lt {L : List DRec} {k : Nat} {r : DRec} (h : Ent L k r) : k < L.length := by
  induction h with
  | here r L => simp
  | next h ih => simp; omega

theorem Ent.inv {r0 : DRec} {L : List DRec} {k : Nat} {r : DRec} (h : Ent (r0 :: L) k r) : (k = L.length ∧ r = r0) ∨ Ent L k r := by
  cases h with
  | here => exact .inl ⟨rfl, rfl⟩
  | next h => exact .inr h

theorem Ent.split {L : List DRec} {k : Nat} {r : DRec} (h : Ent L k r) : ∃ A B, L = A ++ r :: B ∧ B.length = k := by
  induction h with
  | here r L => exact ⟨[], L, rfl, rfl⟩
  | next h ih =>
    obtain ⟨A, B, e1, e2⟩ := ih
    exact ⟨_ :: A, B, by rw [e1]; rfl, e2⟩

theorem Ent.of_split {A B : List DRec} {r : DRec} : Ent (A ++ r :: B) B.length r := by
  induction A with
  | nil => exact .here r B
  | cons x A ih => exact .next ih

theorem ent_append {B : List DRec} : ∀ {A : List DRec} {k : Nat} {r : DRec}, Ent B k r → Ent (A ++ B) k r
  | [], _, _, h => h
  | x :: A, _, _, h => .next (ent_append h)

theorem findU_none {x : Nat} : ∀ {l : List (Nat × AB)}, findU x l = none ↔ x ∉ l.map (·.1)
  | [] => by simp [findU]
  | p :: r => by
    have ih := findU_none (x := x) (l := r)
    simp only [findU, List.map_cons, List.mem_cons, not_or]
    cases hr : findU x r with
    | some b =>
      rw [hr] at ih
      simp only [reduceCtorEq, false_iff, Classical.not_not] at ih
      simp [ih]
    | none =>
      rw [hr] at ih
      simp only [true_iff] at ih
      by_cases e : p.1 = x
      · simp [e]
      · simp only [Nat.beq_eq, if_neg e, true_iff]
        exact ⟨fun h => e h.symm, ih⟩

theorem ups_find (x : Nat) : ∀ (l : List (Nat × AB)) (H : Nat → Option AB), ups H l x = match findU x l with | some b => some b | none => H x
  | [], H => rfl
  | p :: r, H => by
    show ups (upd H p.1 (some p.2)) r x = _
    rw [ups_find x r]
    simp only [findU]
    cases findU x r with
    | some b => rfl
    | none =>
      by_cases e : p.1 = x
      · subst e; simp [upd_same]
      · simp only [Nat.beq_eq, if_neg e]
        exact upd_other _ _ fun h => e h.symm

theorem writes_iff {r : DRec} {s : Nat} : r.writes s = true ↔ r.dst = some s := by
  unfold DRec.writes
  cases r.dst with
  | none => simp
  | some d => simp

/-- Two listings alike at the operations that write here. -/
theorem slotAt_congr {T0 : Nat → Option AV} {S S' : Nat → Bool} {s : Nat} : ∀ {L : List DRec}, (∀ k r, Ent L k r → r.dst = some s → S k = S' k) → slotAt T0 S L s = slotAt T0 S' L s
  | [], _ => rfl
  | r :: L, h => by
    have ih := slotAt_congr (T0 := T0) (L := L) fun k r' he hd => h k r' (.next he) hd
    simp only [slotAt]
    cases hw : r.writes s with
    | false => simpa using ih
    | true => rw [h _ r (.here r L) (writes_iff.1 hw), ih]

/-- Does an operation write here? -/
def DRec.puts (r : DRec) (x : Nat) : Prop := x ∈ r.u.map (·.1) ∨ ∃ lo vs, r.p = some (x, lo, vs)

theorem at_not {r : DRec} {x : Nat} (h : ¬ r.puts x) (a : Option AB) : r.at x a = a := by
  unfold DRec.at
  have h1 : findU x r.u = none := findU_none.2 fun hm => h (.inl hm)
  rw [h1]
  cases hp : r.p with
  | none => rfl
  | some q =>
    obtain ⟨k, lo, vs⟩ := q
    by_cases e : k = x
    · exact absurd (.inr ⟨lo, vs, by rw [hp, e]⟩) h
    · simp only [Nat.beq_eq, if_neg e]

theorem heapAt_congr {H0 : Nat → Option AB} {S S' : Nat → Bool} {x : Nat} : ∀ {L : List DRec}, (∀ j r, Ent L j r → r.puts x → S j = S' j) → heapAt H0 S L x = heapAt H0 S' L x
  | [], _ => rfl
  | r :: L, h => by
    have ih := heapAt_congr (H0 := H0) (L := L) fun j r' he hd => h j r' (.next he) hd
    simp only [heapAt]
    by_cases hw : r.puts x
    · rw [h _ r (.here r L) hw, ih]
    · rw [at_not hw, at_not hw, ih]
      split <;> split <;> rfl

/-- Two accounts of a block that say the same of a piece. -/
def Agree (lo n : Nat) (a b : Option AB) : Prop := a = b ∨ ∃ cs cs', a = some (.cells cs) ∧ b = some (.cells cs') ∧ cs.length = cs'.length ∧ ∀ q, lo ≤ q → q < lo + n → cs[q]? = cs'[q]?

theorem piece_get (cs vs : List AC) (lo q : Nat) (h : lo + vs.length ≤ cs.length) : (cs.take lo ++ (vs ++ cs.drop (lo + vs.length)))[q]? = if lo ≤ q ∧ q < lo + vs.length then vs[q - lo]? else cs[q]? := by
  by_cases h1 : q < lo
  · rw [if_neg (by omega), List.getElem?_append_left (by rw [List.length_take]; omega), List.getElem?_take_of_lt h1]
  · rw [List.getElem?_append_right (by rw [List.length_take]; omega), List.length_take, Nat.min_eq_left (by omega)]
    by_cases h2 : q < lo + vs.length
    · rw [if_pos ⟨by omega, h2⟩, List.getElem?_append_left (by omega)]
    · rw [if_neg (by omega), List.getElem?_append_right (by omega), List.getElem?_drop]
      congr 1; omega

theorem piece_len (cs vs : List AC) (lo : Nat) (h : lo + vs.length ≤ cs.length) : (cs.take lo ++ (vs ++ cs.drop (lo + vs.length))).length = cs.length := by
  simp only [List.length_append, List.length_take, List.length_drop]; omega

theorem Agree.patch {lo n : Nat} {a b : Option AB} (h : Agree lo n a b) (l : Nat) (vs : List AC) : Agree lo n (patchC l vs a) (patchC l vs b) := by
  rcases h with rfl | ⟨cs, cs', rfl, rfl, hl, hg⟩
  · exact .inl rfl
  · simp only [patchC]
    by_cases hf : l + vs.length ≤ cs.length
    · rw [if_pos hf, if_pos (by omega)]
      refine .inr ⟨_, _, rfl, rfl, by rw [piece_len _ _ _ hf, piece_len _ _ _ (by omega)]; exact hl, fun q h1 h2 => ?_⟩
      rw [piece_get _ _ _ _ hf, piece_get _ _ _ _ (by omega), hg q h1 h2]
    · rw [if_neg hf, if_neg (by omega)]
      exact .inr ⟨cs, cs', rfl, rfl, hl, hg⟩

theorem Agree.symm {lo n : Nat} {a b : Option AB} (h : Agree lo n a b) : Agree lo n b a := by
  rcases h with rfl | ⟨cs, cs', h1, h2, hl, hg⟩
  · exact .inl rfl
  · exact .inr ⟨cs', cs, h2, h1, hl.symm, fun q q1 q2 => (hg q q1 q2).symm⟩

/-- A piece that is written elsewhere. -/
theorem Agree.skip {lo n : Nat} {a b : Option AB} (h : Agree lo n a b) (l : Nat) (vs : List AC) (ho : ¬ (l < lo + n ∧ lo < l + vs.length)) : Agree lo n (patchC l vs a) b := by
  have one : ∀ cs : List AC, Agree lo n (patchC l vs (some (.cells cs))) (some (.cells cs)) := by
    intro cs
    simp only [patchC]
    by_cases hf : l + vs.length ≤ cs.length
    · rw [if_pos hf]
      refine .inr ⟨_, _, rfl, rfl, piece_len _ _ _ hf, fun q h1 h2 => ?_⟩
      rw [piece_get _ _ _ _ hf, if_neg (by omega)]
    · rw [if_neg hf]; exact .inl rfl
  rcases h with rfl | ⟨cs, cs', rfl, rfl, hl, hg⟩
  · cases a with
    | none => exact .inl rfl
    | some x => cases x with
      | cells cs => exact one cs
      | arr row l => exact .inl rfl
      | tok e v => exact .inl rfl
      | mp => exact .inl rfl
  · rcases one cs with h0 | ⟨c1, c2, e1, e2, l1, g1⟩
    · rw [h0]; exact .inr ⟨cs, cs', rfl, rfl, hl, hg⟩
    · simp only [Option.some.injEq, AB.cells.injEq] at e2
      subst e2
      exact .inr ⟨c1, cs', e1, rfl, l1.trans hl, fun q h1 h2 => (g1 q h1 h2).trans (hg q h1 h2)⟩

/-- Does an operation write in a piece? -/
def DRec.putsIn (r : DRec) (x lo n : Nat) : Prop := x ∈ r.u.map (·.1) ∨ ∃ l vs, r.p = some (x, l, vs) ∧ l < lo + n ∧ lo < l + vs.length

theorem at_agree {r : DRec} {x lo n : Nat} {a b : Option AB} (h : Agree lo n a b) : Agree lo n (r.at x a) (r.at x b) := by
  unfold DRec.at
  cases findU x r.u with
  | some c => exact .inl rfl
  | none =>
    simp only
    cases r.p with
    | none => exact h
    | some q =>
      obtain ⟨k, l, vs⟩ := q
      simp only
      split
      · exact h.patch l vs
      · exact h

theorem at_skip {r : DRec} {x lo n : Nat} {a b : Option AB} (hn : ¬ r.putsIn x lo n) (h : Agree lo n a b) : Agree lo n (r.at x a) b := by
  unfold DRec.at
  rw [findU_none.2 fun hm => hn (.inl hm)]
  simp only
  cases hp : r.p with
  | none => exact h
  | some q =>
    obtain ⟨k, l, vs⟩ := q
    simp only
    split
    · rename_i e
      simp only [Nat.beq_eq] at e
      subst e
      exact h.skip l vs fun ho => hn (.inr ⟨l, vs, hp, ho⟩)
    · exact h

theorem heapAt_agree {H0 : Nat → Option AB} {S S' : Nat → Bool} {x lo n : Nat} : ∀ {L : List DRec}, (∀ j r, Ent L j r → r.putsIn x lo n → S j = S' j) → Agree lo n (heapAt H0 S L x) (heapAt H0 S' L x)
  | [], _ => .inl rfl
  | r :: L, h => by
    have ih := heapAt_agree (H0 := H0) (L := L) fun j r' he hd => h j r' (.next he) hd
    simp only [heapAt]
    by_cases hw : r.putsIn x lo n
    · rw [h _ r (.here r L) hw]
      split
      · exact at_agree ih
      · exact ih
    · split <;> split
      · exact at_agree ih
      · exact at_skip hw ih
      · exact (at_skip hw ih.symm).symm
      · exact ih

/-- Only what stands ahead of a place. -/
theorem slotAt_first {T0 : Nat → Option AV} {B : List DRec} {s : Nat} : ∀ {A : List DRec}, slotAt T0 (fun j => Nat.blt j B.length) (A ++ B) s = slotAt T0 all B s
  | [] => slotAt_congr fun k r he _ => by
    have h := he.lt
    simp only [List.nil_append] at h
    simp [all, h]
  | r :: A => by
    have ih := slotAt_first (T0 := T0) (B := B) (s := s) (A := A)
    simp only [List.cons_append, slotAt]
    have : Nat.blt (A ++ B).length B.length = false := by
      cases h : Nat.blt (A ++ B).length B.length with
      | false => rfl
      | true => simp only [Nat.blt_eq, List.length_append] at h; omega
    rw [this, Bool.and_false]
    exact ih

theorem heapAt_first {H0 : Nat → Option AB} {B : List DRec} {x : Nat} : ∀ {A : List DRec}, heapAt H0 (fun j => Nat.blt j B.length) (A ++ B) x = heapAt H0 all B x
  | [] => heapAt_congr fun k r he _ => by
    have h := he.lt
    simp only [List.nil_append] at h
    simp [all, h]
  | r :: A => by
    have ih := heapAt_first (H0 := H0) (B := B) (x := x) (A := A)
    simp only [List.cons_append, heapAt]
    have : Nat.blt (A ++ B).length B.length = false := by
      cases h : Nat.blt (A ++ B).length B.length with
      | false => rfl
      | true => simp only [Nat.blt_eq, List.length_append] at h; omega
    rw [this]
    exact ih

theorem mem_ids_key {r : DRec} {k : Nat} (h : k ∈ r.keys) : k ∈ r.ids := List.mem_append_right _ (List.mem_append_left _ h)
theorem mem_ids_rh {r : DRec} {k : Nat} (h : k ∈ r.rh) : k ∈ r.ids := List.mem_append_left _ h
theorem mem_ids_rp {r : DRec} {k lo n : Nat} (h : (k, lo, n) ∈ r.rp) : k ∈ r.ids := List.mem_append_right _ (List.mem_append_right _ (List.mem_append_left _ (List.mem_map.2 ⟨_, h, rfl⟩)))
theorem mem_ids_p {r : DRec} {k lo : Nat} {vs : List AC} (h : r.p = some (k, lo, vs)) : k ∈ r.ids := by
  refine List.mem_append_right _ (List.mem_append_right _ (List.mem_append_right _ ?_))
  rw [h]; exact List.mem_cons_self ..

structure Apart (r r' : DRec) : Prop where
  dst : ∀ d, r.dst = some d → r'.dst ≠ some d ∧ d ∉ r'.rs
  dst' : ∀ d, r'.dst = some d → d ∉ r.rs
  key : ∀ k ∈ r.keys, k ∉ r'.ids
  key' : ∀ k ∈ r'.keys, k ∉ r.ids
  p : ∀ k lo vs, r.p = some (k, lo, vs) → r'.touches k lo vs.length = false
  p' : ∀ k lo vs, r'.p = some (k, lo, vs) → r.touches k lo vs.length = false

theorem meets_spec {r r' : DRec} (h : r.meets r' = false) : Apart r r' := by
  unfold DRec.meets at h
  simp only [Bool.or_eq_false_iff] at h
  obtain ⟨⟨⟨⟨⟨h1, h2⟩, h3⟩, h4⟩, h5⟩, h6⟩ := h
  refine ⟨fun d hd => ?_, fun d hd => ?_, fun k hk => ?_, fun k hk => ?_, fun k lo vs hp => ?_, fun k lo vs hp => ?_⟩
  · rw [hd] at h1
    simp only [Bool.or_eq_false_iff] at h1
    refine ⟨fun e => ?_, fun hm => ?_⟩
    · have := writes_iff.2 e
      rw [h1.1] at this; cases this
    · have := isIn_iff.2 hm
      rw [h1.2] at this; cases this
  · rw [hd] at h2
    simp only at h2
    intro hm
    have := isIn_iff.2 hm
    rw [h2] at this; cases this
  · exact fun hm => List.any_eq_false.1 h3 k hk (isIn_iff.2 hm)
  · exact fun hm => List.any_eq_false.1 h4 k hk (isIn_iff.2 hm)
  · rw [hp] at h5; exact h5
  · rw [hp] at h6; exact h6

theorem touches_p {r : DRec} {k lo n l : Nat} {vs : List AC} (h : r.touches k lo n = false) (hp : r.p = some (k, l, vs)) : ¬ (lo < l + vs.length ∧ l < lo + n) := by
  rintro ⟨h1, h2⟩
  have : r.touches k lo n = true := by
    unfold DRec.touches
    rw [hp]
    simp [h1, h2]
  rw [h] at this; cases this

theorem touches_rp {r : DRec} {k lo n l m : Nat} (h : r.touches k lo n = false) (hp : (k, l, m) ∈ r.rp) : ¬ (lo < l + m ∧ l < lo + n) := by
  rintro ⟨h1, h2⟩
  have : r.touches k lo n = true := by
    unfold DRec.touches
    have : r.rp.any (fun q => Nat.beq q.1 k && (Nat.blt lo (q.2.1 + q.2.2) && Nat.blt q.2.1 (lo + n))) = true := List.any_eq_true.2 ⟨_, hp, by simp [h1, h2]⟩
    rw [this]; simp
  rw [h] at this; cases this

theorem touches_rh {r : DRec} {k lo n : Nat} (h : r.touches k lo n = false) : k ∉ r.rh := fun hm => by
  have : r.touches k lo n = true := by
    unfold DRec.touches
    rw [isIn_iff.2 hm]; simp
  rw [h] at this; cases this

theorem patch_comm {l l' : Nat} {vs vs' : List AC} (h : ¬ (l < l' + vs'.length ∧ l' < l + vs.length)) (a : Option AB) : patchC l vs (patchC l' vs' a) = patchC l' vs' (patchC l vs a) := by
  cases a with
  | none => rfl
  | some x => cases x with
    | arr row l => rfl
    | tok e v => rfl
    | mp => rfl
    | cells cs =>
      simp only [patchC]
      by_cases h1 : l + vs.length ≤ cs.length
      · by_cases h2 : l' + vs'.length ≤ cs.length
        · rw [if_pos h1, if_pos h2]
          simp only [patchC]
          rw [if_pos (by rw [piece_len _ _ _ h2]; exact h1), if_pos (by rw [piece_len _ _ _ h1]; exact h2)]
          have p1 := piece_len cs vs' l' h2
          have p2 := piece_len cs vs l h1
          have g1 := piece_get cs vs' l' 
          have g2 := piece_get cs vs l
          generalize hc1 : (cs.take l' ++ (vs' ++ cs.drop (l' + vs'.length))) = c1 at *
          generalize hc2 : (cs.take l ++ (vs ++ cs.drop (l + vs.length))) = c2 at *
          congr 2
          apply List.ext_getElem?
          intro q
          rw [piece_get c1 vs l q (by omega), piece_get c2 vs' l' q (by omega), g1 q h2, g2 q h1]
          by_cases q1 : l ≤ q ∧ q < l + vs.length
          · rw [if_pos q1, if_neg (by omega), if_pos q1]
          · rw [if_neg q1, if_neg q1]
        · rw [if_pos h1, if_neg h2]
          simp only [patchC]
          rw [if_pos h1, if_neg (by rw [piece_len _ _ _ h1]; exact h2)]
      · by_cases h2 : l' + vs'.length ≤ cs.length
        · rw [if_neg h1, if_pos h2]
          simp only [patchC]
          rw [if_neg (by rw [piece_len _ _ _ h2]; exact h1), if_pos h2]
        · rw [if_neg h1, if_neg h2]
          simp only [patchC]
          rw [if_neg h1, if_neg h2]

theorem at_comm {r a : DRec} (h : Apart r a) (x : Nat) (b : Option AB) : a.at x (r.at x b) = r.at x (a.at x b) := by
  by_cases h1 : r.puts x
  · by_cases h2 : a.puts x
    · rcases h1 with h1 | ⟨l, vs, hp⟩
      · have := h.key x (List.mem_cons_of_mem _ h1)
        rcases h2 with h2 | ⟨l', vs', hp'⟩
        · exact absurd (mem_ids_key (List.mem_cons_of_mem _ h2)) this
        · exact absurd (mem_ids_p hp') this
      · rcases h2 with h2 | ⟨l', vs', hp'⟩
        · exact absurd (mem_ids_p hp) (h.key' x (List.mem_cons_of_mem _ h2))
        · have hne := touches_p (h.p x l vs hp) hp'
          have u1 : findU x r.u = none := findU_none.2 fun hm => (h.key x (List.mem_cons_of_mem _ hm)) (mem_ids_p hp')
          have u2 : findU x a.u = none := findU_none.2 fun hm => (h.key' x (List.mem_cons_of_mem _ hm)) (mem_ids_p hp)
          simp only [DRec.at, u1, u2, hp, hp', Nat.beq_refl, if_true]
          exact patch_comm (by omega) b
    · rw [at_not h2, at_not h2]
  · rw [at_not h1, at_not h1]

/-- One more is done: its work may be thought of as the last. -/
theorem heapAt_next {H0 : Nat → Option AB} {S S' : Nat → Bool} {r : DRec} {B : List DRec} {x : Nat} (hS1 : S' B.length = true) (hi : S B.length = false) (hS2 : ∀ j, j ≠ B.length → S' j = S j) :
    ∀ {A : List DRec}, (∀ j a, Ent (A ++ r :: B) j a → B.length < j → S j = true → Apart r a) → heapAt H0 S' (A ++ r :: B) x = r.at x (heapAt H0 S (A ++ r :: B) x)
  | [], _ => by
    simp only [List.nil_append, heapAt, hS1, hi, if_true]
    rw [if_neg (by simp)]
    congr 1
    exact heapAt_congr fun j a he _ => hS2 j (by have := he.lt; omega)
  | a :: A, h => by
    have ih := heapAt_next (H0 := H0) (x := x) hS1 hi hS2 (A := A) fun j a' he hb hs => h j a' (.next he) hb hs
    simp only [List.cons_append, heapAt]
    have hj : B.length < (A ++ r :: B).length := by simp only [List.length_append, List.length_cons]; omega
    rw [hS2 _ (by omega)]
    split
    · rename_i hs
      rw [ih]
      exact at_comm (h _ a (.here a (A ++ r :: B)) hj hs) x _
    · exact ih
end Go.Eng
