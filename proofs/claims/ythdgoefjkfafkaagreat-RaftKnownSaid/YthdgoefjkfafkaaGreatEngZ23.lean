import Derived.Test.YthdgoefjkfafkaaGreatEngZ22
set_option linter.unusedVariables false
namespace Go.Eng
open Go Go.RowKit
variable {P : Program}

/-! ### A closed call over the whole memory, what nothing names any more let go -/
/-- A block that was let go. -/
def gone : AB → Bool
  | .tok e v => Nat.beq e 0 && Nat.beq v 999999
  | _ => false
def KeptM (n : Nat) (hp2 : List AB) (i : Nat) : Prop := i < n ∨ ∃ b, hp2[i]? = some b ∧ gone b = false
def Ctx.keep (X : Ctx) (n : Nat) (hp2 : List AB) : Ctx := { X with H := fun i => hp2[i]?, tl := fun i => KeptM n hp2 i ∧ X.tl i }
/-- Blocks are as they were, or they came behind the call's beginning and were let go. -/
structure KeepsM (X : Ctx) (n : Nat) (hp2 : List AB) : Prop where
  same : ∀ (i : Nat) b, hp2[i]? = some b → X.H i = some b ∨ (gone b = true ∧ n ≤ i ∧ X.H i ≠ none)
  all : ∀ i, i < n → hp2[i]? = X.H i
theorem gone_loc {b : AB} (h : gone b = true) : b.loc = false := by cases b <;> first | rfl | cases h
section
variable {X : Ctx} {n : Nat} {hp2 : List AB}
theorem keep_some (hk : KeepsM X n hp2) {i : Nat} {b : AB} (h : (X.keep n hp2).H i = some b) (hl : b.loc = true) : X.H i = some b := by
  rcases hk.same i b h with g | ⟨g, _⟩
  · exact g
  · rw [gone_loc g] at hl; cases hl
theorem some_keep (hk : KeepsM X n hp2) {i : Nat} {b : AB} (hi : KeptM n hp2 i) (h : X.H i = some b) : (X.keep n hp2).H i = some b := by
  rcases hi with g | ⟨b', g1, g2⟩
  · exact (hk.all i g).trans h
  · rcases hk.same i b' g1 with k | ⟨k, _⟩
    · rw [h] at k; injection k with k; subst k; exact g1
    · rw [g2] at k; cases k
theorem keep_has (hk : KeepsM X n hp2) {i : Nat} (hi : KeptM n hp2 i) (h : X.H i ≠ none) : (X.keep n hp2).H i ≠ none := by
  cases hb : X.H i with
  | none => exact absurd hb h
  | some b => rw [some_keep hk hi hb]; simp
theorem keep_IC (hk : KeepsM X n hp2) {a : Addr} {y : Value} (h : X.IC a y) : (X.keep n hp2).IC a y :=
  ⟨h.1, h.2.1, h.2.2.1, fun i b hb hl => h.2.2.2.1 i b (keep_some hk hb hl) hl, h.2.2.2.2⟩
theorem keep_tok {i : Nat} {e : TypeId} {p q : Nat} (hi : KeptM n hp2 i) (h : X.TokOk i e p q) : (X.keep n hp2).TokOk i e p q := ⟨⟨hi, h.1⟩, h.2⟩
theorem keep_le (hk : KeepsM X n hp2) {X0 : Ctx} (h : X0.le X) (hm : ∀ i, n ≤ i → X0.H i = none) : X0.le (X.keep n hp2) := by
  have lt : ∀ i b, X0.H i = some b → KeptM n hp2 i := fun i b hb => by
    by_cases hi : i < n
    · exact .inl hi
    · rw [hm i (by omega)] at hb; cases hb
  refine ⟨fun a y hh => keep_IC hk (h.ic a y hh), fun i b hb hl => ?_, fun i row l hb => ?_, fun i t v hb => ?_, h.w0, h.lent, h.oldeq, h.drawn⟩
  · obtain ⟨⟨b', e, hl'⟩, hφ⟩ := h.loc i b hb hl
    exact ⟨⟨b', some_keep hk (lt i b hb) e, hl'⟩, hφ⟩
  · obtain ⟨l', e, hl⟩ := h.arr i row l hb
    exact ⟨l', some_keep hk (lt i _ hb) e, hl⟩
  · obtain ⟨v', e, hle, hh⟩ := h.tok i t v hb
    exact ⟨v', some_keep hk (lt i _ hb) e, hle, fun ev => ⟨(hh ev).1, fun e p q ht => keep_tok (lt i _ hb) ((hh ev).2 e p q ht)⟩⟩

theorem VRc.keep (hk : KeepsM X n hp2) : ∀ (c : AC) (v : Value), (∀ i ∈ idsC c, KeptM n hp2 i) → VRc X c v → VRc (X.keep n hp2) c v
  | .unk, _, _, _ => trivial
  | .int _ _, _, _, h => h
  | .bool _, _, _, h => h
  | .str _, _, _, h => h
  | .sl row l sm, v, hi, ⟨A, n1, cap, e, hn, hc, hmx, hl, hs⟩ => by
    refine ⟨A, n1, cap, e, hn, hc, hmx, hl.imp id fun ⟨b, o, hA, hh⟩ => ⟨b, o, hA, fun j x hj => RelT.mono row x (fun k y => keep_IC hk) (fun a y => keep_IC hk) (hh j x hj)⟩, ?_⟩
    cases sm with
    | shared => trivial
    | full => exact hs
    | nn => exact hs
    | «at» _ _ => exact hs
    | own i ver =>
      obtain ⟨e, v0, h1, h2, h3⟩ := hs
      have him : KeptM n hp2 i := hi i (by simp [idsC])
      exact ⟨e, v0, some_keep hk him h1, h2, fun ev => (h3 ev).imp id fun ⟨ha, ht⟩ => ⟨ha, keep_tok him ht⟩⟩
  | .nils, _, _, h => h
  | .nilz, _, _, h => h
  | .nilp, _, _, h => h
  | .nilf, _, _, h => h
  | .nilm, _, _, h => h
  | .ptr i off, v, hi, ⟨⟨b, hb, hl⟩, e⟩ => ⟨⟨b, some_keep hk (hi i (by simp [idsC])) hb, hl⟩, e⟩
  | .pti i off n len, v, hi, ⟨⟨b, hb, hl⟩, e⟩ => ⟨⟨b, some_keep hk (hi i (by simp [idsC])) hb, hl⟩, e⟩
  | .elp row l i off, v, _, ⟨hlt, b, o, e, hh⟩ => ⟨hlt, b, o, e, fun x hx => RelT.mono row x (fun k y => keep_IC hk) (fun a y => keep_IC hk) (hh x hx)⟩
  | .msl row i off len, v, hi, ⟨l, o, cap, hb, e⟩ => ⟨l, o, cap, some_keep hk (hi i (by simp [idsC])) hb, e⟩
  | .csl i off len cap, v, hi, ⟨⟨b, hb, hl⟩, e⟩ => ⟨⟨b, some_keep hk (hi i (by simp [idsC])) hb, hl⟩, e⟩
  | .asl row i off len cap, v, hi, ⟨l, hb, e⟩ => ⟨l, some_keep hk (hi i (by simp [idsC])) hb, e⟩
  | .ael row i j d, v, hi, ⟨l, hb, e⟩ => ⟨l, some_keep hk (hi i (by simp [idsC])) hb, e⟩
  | .mth f i off, v, hi, ⟨⟨b, hb, hl⟩, e⟩ => ⟨⟨b, some_keep hk (hi i (by simp [idsC])) hb, hl⟩, e⟩
  | .mref i, v, hi, ⟨⟨b, hb, hl⟩, e⟩ => ⟨⟨b, some_keep hk (hi i (by simp [idsC])) hb, hl⟩, e⟩
  | .fn f caps, v, hi, ⟨c, e, hs, hh⟩ => ⟨c, e, hs, fun j p hp => by
      obtain ⟨⟨b, hb, hl⟩, e'⟩ := hh j p hp
      exact ⟨⟨b, some_keep hk (hi p.1 (by simp only [idsC]; exact List.mem_map_of_mem (List.mem_of_getElem? hp))) hb, hl⟩, e'⟩⟩

theorem VRcs.keep (hk : KeepsM X n hp2) {cs : List AC} {vs : List Value} (hi : ∀ i ∈ cs.flatMap idsC, KeptM n hp2 i) (h : PW (VRc X) cs vs) : PW (VRc (X.keep n hp2)) cs vs :=
  ⟨h.1, fun j c y hc hy => VRc.keep hk c y (fun i hi' => hi i (List.mem_flatMap.2 ⟨c, List.mem_of_getElem? hc, hi'⟩)) (h.2 j c y hc hy)⟩
theorem VRp.keep (hk : KeepsM X n hp2) : ∀ (p : Bool × List AC) (v : Value), (∀ i ∈ p.2.flatMap idsC, KeptM n hp2 i) → VRp X p v → VRp (X.keep n hp2) p v
  | (true, cs), v, hi, ⟨ar, e, h⟩ => ⟨ar, e, VRcs.keep hk hi h⟩
  | (false, cs), v, hi, ⟨c, e, h⟩ => ⟨c, e, VRc.keep hk c v (fun i hi' => hi i (by subst e; simpa using hi')) h⟩
theorem VR.keep (hk : KeepsM X n hp2) : ∀ (c : AV) (v : Value), (∀ i ∈ idsV c, KeptM n hp2 i) → VR X c v → VR (X.keep n hp2) c v
  | .one c, v, hi, h => VRc.keep hk c v hi h
  | .agg cs, v, hi, h => VRp.keep hk (true, cs) v hi h
  | .tup vs, v, hi, ⟨arr, e, h⟩ => ⟨arr, e, h.1, fun j c y hc hy => VRp.keep hk c y (fun i hi' => hi i (List.mem_flatMap.2 ⟨c, List.mem_of_getElem? hc, hi'⟩)) (h.2 j c y hc hy)⟩
  | .val _, _, _, h => h
  | .gd _ g cs, v, hi, h => ⟨fun i hm => by
      have h1 := h.1 i hm
      have h2 := hi i hm
      exact keep_has hk h2 h1, fun e => VRp.keep hk (g, cs) v hi (h.2.1 e), h.2.2⟩
  | .alt cs, v, hi, ⟨h1, c, hc, h2⟩ => ⟨fun i hm => by
      have h3 := h1 i hm
      have h4 := hi i hm
      exact keep_has hk h4 h3, c, hc, VRc.keep hk c v (fun i hi' => hi i (List.mem_flatMap.2 ⟨c, hc, hi'⟩)) h2⟩
  | .clo f c, v, hi, ⟨a, y, e, h1, h2⟩ => ⟨a, y, e, keep_IC hk h1, VRc.keep hk c y hi h2⟩

theorem BRel.keep (hk : KeepsM X n hp2) {i : Nat} {b : AB} (hi : ∀ j ∈ idsB b, KeptM n hp2 j) (h : BRel X i b) : BRel (X.keep n hp2) i b := by
  cases b with
  | cells cs =>
    obtain ⟨c, t, h1, h2⟩ := h
    exact ⟨c, t, h1, VRcs.keep hk hi h2⟩
  | rcells cs =>
    obtain ⟨⟨c, t, h1, h2⟩, h3⟩ := h
    exact ⟨⟨c, t, h1, VRcs.keep hk hi h2⟩, h3⟩
  | arr row l =>
    obtain ⟨c, t, h1, h2, h3⟩ := h
    exact ⟨c, t, h1, h2, fun j x hj => RelT.mono row x (fun k y h => h) (fun a y => keep_IC hk) (h3 j x hj)⟩
  | tok e v => trivial
  | obj o => exact h
  | iter j n f =>
    obtain ⟨⟨b, h1, h2⟩, h3⟩ := h
    exact ⟨⟨b, some_keep hk (hi j (by simp [idsB])) h1, h2⟩, h3⟩
  | mp kt vt ka va l =>
    obtain ⟨hf, es, clock, h1, h2, h3⟩ := h
    refine ⟨hf, es, clock, h1, h2, h3.1, h3.2.imp fun l' hl' => ⟨hl'.1, fun j p e hp he => ?_⟩⟩
    obtain ⟨g1, us, g2, g3, g4⟩ := hl'.2 j p e hp he
    exact ⟨g1, us, g2, g3, RelT.mono vt p.2 (fun k y h => h) (fun a y => keep_IC hk) g4⟩


theorem HRel.keep (hk : KeepsM X n hp2) (hX : HRel X) (hb : ∀ (i : Nat) b, hp2[i]? = some b → gone b = false → ∀ j ∈ idsB b, KeptM n hp2 j) : HRel (X.keep n hp2) where
  inj i j b c hi hj hl hm := hX.inj i j b c (keep_some hk hi hl) (keep_some hk hj hm) hl hm
  injt i j hi hj := hX.injt i j hi.2 hj.2
  injm i b j hi hl hj := hX.injm i b j (keep_some hk hi hl) hl hj.2
  place i b hi hl := hX.place i b (keep_some hk hi hl) hl
  placet i hi := hX.placet i hi.2
  lt i b hi hl := hX.lt i b (keep_some hk hi hl) hl
  ltt i hi := hX.ltt i hi.2
  tlH i hi := keep_has hk hi.1 (hX.tlH i hi.2)
  frlt := hX.frlt
  blk i b hi := by
    cases hl : b.loc with
    | false => cases b <;> first | trivial | cases hl
    | true =>
      have hg : gone b = false := by
        cases hg : gone b with
        | false => rfl
        | true => rw [gone_loc hg] at hl; cases hl
      exact BRel.keep hk (hb i b hi hg) (hX.blk i b (keep_some hk hi hl))
  below := hX.below
  os := hX.os
  tape := hX.tape
  output := hX.output
  size := hX.size
  old a y h := keep_IC hk (hX.old a y h)
end
def keptB (n : Nat) (hp2 : List AB) (i : Nat) : Bool := Nat.blt i n || match hp2[i]? with
  | some b => !gone b
  | none => false
theorem keptB_iff {n : Nat} {hp2 : List AB} {i : Nat} (h : keptB n hp2 i = true) : KeptM n hp2 i := by
  simp only [keptB, Bool.or_eq_true, Nat.blt_eq] at h
  rcases h with h | h
  · exact .inl h
  · right
    split at h
    · rename_i b hb
      exact ⟨b, hb, by simpa using h⟩
    · cases h
def sameK (n : Nat) : Nat → List AB → List AB → Bool
  | _, _, [] => true
  | i, b :: l, b' :: l' => ((gone b' && Nat.ble n i) || b.eqB b') && sameK n (i + 1) l l'
  | _, [], _ :: _ => false
theorem sameK_at {n : Nat} : ∀ {i : Nat} {hp1 hp2 : List AB}, sameK n i hp1 hp2 = true → hp2.length ≤ hp1.length ∧ ∀ (k : Nat) b', hp2[k]? = some b' → ∃ b, hp1[k]? = some b ∧ (b = b' ∨ (gone b' = true ∧ n ≤ i + k))
  | i, hp1, [], _ => ⟨by simp, fun k b' hb => by simp at hb⟩
  | i, [], _ :: _, h => by cases h
  | i, b :: l, b' :: l', h => by
    simp only [sameK, Bool.and_eq_true, Bool.or_eq_true, Nat.ble_eq] at h
    obtain ⟨h1, h2⟩ := h
    obtain ⟨g1, g2⟩ := sameK_at h2
    refine ⟨by simpa using g1, fun k c hc => ?_⟩
    cases k with
    | zero =>
      simp only [List.getElem?_cons_zero, Option.some.injEq] at hc
      subst hc
      refine ⟨b, rfl, ?_⟩
      rcases h1 with q | q
      · exact .inr ⟨q.1, by simpa using q.2⟩
      · exact .inl (AB.eqB_eq q)
    | succ k =>
      obtain ⟨c0, q1, q2⟩ := g2 k c (by simpa using hc)
      refine ⟨c0, by simpa using q1, q2.imp id fun q => ⟨q.1, by omega⟩⟩
def junkOk (n : Nat) (hp1 hp2 : List AB) (r : AV) : Bool := Nat.ble n hp2.length && (sameK n 0 hp1 hp2 && ((hp2.all fun b => gone b || (idsB b).all (keptB n hp2)) && (idsV r).all (keptB n hp2)))
theorem HeapCall.junk {f : Nat} {args : List AV} {hp hp1 hp2 : List AB} {r : AV} (h : HeapCall P f args hp r hp1) (hc : junkOk hp.length hp1 hp2 r = true) : HeapCall P f args hp r hp2 := by
  simp only [junkOk, Bool.and_eq_true, Nat.ble_eq, List.all_eq_true] at hc
  obtain ⟨c1, c2, c3, c4⟩ := hc
  obtain ⟨s1, s2⟩ := sameK_at c2
  refine ⟨h.1, fun X vs hX hH hv => (h.2 X vs hX hH hv).mono fun e w' ⟨val, Y, k1, k2, k3, k4, k5, k6⟩ => ?_⟩
  have hk : KeepsM Y hp.length hp2 := ⟨fun i b hb => by
      obtain ⟨b0, q1, q2⟩ := s2 i b hb
      rw [k5]
      rcases q2 with rfl | q2
      · exact .inl q1
      · exact .inr ⟨q2.1, by omega, fun e => by
        have e : hp1[i]? = none := e
        rw [q1] at e; cases e⟩, fun i hi => by
      obtain ⟨b, hb⟩ : ∃ b, hp2[i]? = some b := ⟨_, List.getElem?_eq_getElem (by omega)⟩
      obtain ⟨b0, q1, q2⟩ := s2 i b hb
      rw [k5, hb]
      rcases q2 with rfl | q2
      · exact q1.symm
      · omega⟩
  refine ⟨val, Y.keep hp.length hp2, k1, k2, keep_le hk k3 (fun i hi => by rw [hH]; exact List.getElem?_eq_none hi), HRel.keep hk k4 (fun i b hb hg j hj => ?_), rfl, VR.keep hk _ _ (fun i hi => keptB_iff (c4 i hi)) k6⟩
  have := c3 b (List.mem_of_getElem? hb)
  rw [hg, Bool.false_or, List.all_eq_true] at this
  exact keptB_iff (this j hj)
def cameJ (n : Nat) (x : Option (AV × List AB × List Bool)) (r : AV) (hp2 : List AB) : Bool := match x with
  | some (v, hp1, cs) => cs.all id && ((softV 0 v).eqB r && junkOk n hp1 hp2 r)
  | none => false
theorem Env.closedJ (E : Env P) {f : Nat} {c : CC} (h : cameJ c.hp.length (E.run f c.args c.hp []) c.r c.hp' = true) : CC.holds P f c := by
  unfold cameJ at h
  split at h
  · rename_i v hp1 cs hr
    simp only [Bool.and_eq_true] at h
    obtain ⟨h1, h2, h3⟩ := h
    have e1 := AV.eqB_eq h2
    exact ((E.heap_ok hr (fun q hq => by simpa using List.all_eq_true.1 h1 q hq)).weak (r' := c.r) fun X v _ hv => e1 ▸ softV_rel hv).junk h3
  · cases h
/-- Closed calls of a function, over just this memory. -/
def Env.addW (E : Env P) (f : Nat) (l : List CC) (h : ∀ c ∈ l, CC.holds P f c) : Env P := E.addH f (ccF l) (ccF_ok h)
def Env.addW1 (E : Env P) (f : Nat) (c : CC) (h : CC.holds P f c) : Env P := E.addW f [c] fun d hd => by
  simp only [List.mem_cons, List.not_mem_nil, or_false] at hd
  subst hd; exact h
end Go.Eng
