import Derived.Test.YthdgoefjkfafkaaGreatEngZ14
import Derived.Test.YthdgoefjkfafkaaGreatEngZ15
set_option linter.unusedVariables false
namespace Go.Eng
open Go Go.RowKit
variable {P : Program}

/-! ### Calls that only read, run where they are made: structs that they see may not be written -/
def sealB : AB → AB
  | .cells cs => .rcells cs
  | b => b
theorem sealB_loc (b : AB) : (sealB b).loc = b.loc := by cases b <;> rfl
def Ctx.seal (X : Ctx) : Ctx := { X with H := fun i => (X.H i).map sealB }
theorem seal_H {X : Ctx} {i : Nat} {b : AB} (h : X.seal.H i = some b) : ∃ b0, X.H i = some b0 ∧ b = sealB b0 := by
  simp only [Ctx.seal, Option.map_eq_some_iff] at h
  obtain ⟨b0, h1, h2⟩ := h
  exact ⟨b0, h1, h2.symm⟩
theorem seal_some {X : Ctx} {i : Nat} {b : AB} (h : X.H i = some b) : X.seal.H i = some (sealB b) := by simp only [Ctx.seal, h, Option.map_some]
theorem seal_IC {X : Ctx} {a : Addr} {y : Value} : X.seal.IC a y ↔ X.IC a y := by
  constructor
  · intro ⟨h1, h2, h3, h4, h5⟩
    exact ⟨h1, h2, h3, fun i b hb hl => h4 i _ (seal_some hb) (by rw [sealB_loc]; exact hl), h5⟩
  · intro ⟨h1, h2, h3, h4, h5⟩
    exact ⟨h1, h2, h3, fun i b hb hl => by
      obtain ⟨b0, g1, rfl⟩ := seal_H hb
      exact h4 i b0 g1 (by rw [sealB_loc] at hl; exact hl), h5⟩
theorem seal_le (X : Ctx) : X.le X.seal where
  ic a y h := seal_IC.2 h
  loc i b hb hm := ⟨⟨_, seal_some hb, by rw [sealB_loc]; exact hm⟩, rfl⟩
  arr i row l hb := ⟨l, seal_some hb, rfl⟩
  tok i t v hb := ⟨v, seal_some hb, Nat.le_refl _, fun _ => ⟨rfl, fun e p q h => h⟩⟩
  w0 := rfl
  lent := rfl
  oldeq := rfl
  drawn := .le (Nat.le_refl _)
theorem HRel.seal {X : Ctx} (hX : HRel X) (hw : X.w0 = X.w) : HRel X.seal where
  inj i j b c hi hj hb hc hne := by
    obtain ⟨b0, g1, rfl⟩ := seal_H hi
    obtain ⟨c0, g2, rfl⟩ := seal_H hj
    exact hX.inj i j b0 c0 g1 g2 (by rw [sealB_loc] at hb; exact hb) (by rw [sealB_loc] at hc; exact hc) hne
  injt := hX.injt
  injm i b j hi hb := by
    obtain ⟨b0, g1, rfl⟩ := seal_H hi
    exact hX.injm i b0 j g1 (by rw [sealB_loc] at hb; exact hb)
  place i b hi hb := by
    obtain ⟨b0, g1, rfl⟩ := seal_H hi
    exact hX.place i b0 g1 (by rw [sealB_loc] at hb; exact hb)
  placet := hX.placet
  lt i b hi hb := by
    obtain ⟨b0, g1, rfl⟩ := seal_H hi
    exact hX.lt i b0 g1 (by rw [sealB_loc] at hb; exact hb)
  ltt := hX.ltt
  tlH i h := by
    intro hn
    cases hb : X.H i with
    | none => exact hX.tlH i h hb
    | some b => rw [seal_some hb] at hn; cases hn
  frlt := hX.frlt
  blk i b hi := by
    obtain ⟨b0, g1, rfl⟩ := seal_H hi
    have h0 := BRel.mono (seal_le X) (i := i) (b := b0) rfl rfl (hX.blk i b0 g1)
    cases b0 with
    | cells cs => exact ⟨h0, by show X.w.heap[X.φ i]? = X.w0.heap[X.φ i]?; rw [hw]⟩
    | rcells _ => exact h0
    | arr row l => exact h0
    | tok _ _ => trivial
    | mp _ _ _ _ _ => exact h0
    | obj _ => exact h0
    | iter _ _ _ => exact h0
  below := hX.below
  os := hX.os
  tape := hX.tape
  output := hX.output
  size := hX.size
  old a y h := seal_IC.2 (hX.old a y h)

/-- What is known behind such a call. -/
structure Quiet (X Y : Ctx) (is : List Nat) : Prop where
  hX : HRel X
  hF : Full X is
  nd : nodupB is = true
  le : (small X is).seal.le Y
  hY : HRel Y
  same : ∀ (k i : Nat), is[k]? = some i → ∃ b b', X.H i = some b ∧ unB is b = some b' ∧ Y.H k = some (sealB b')
section
variable {X Y : Ctx} {is : List Nat}
theorem Quiet.w0 (h : Quiet X Y is) : Y.w0 = X.w := h.le.w0
theorem Quiet.sz (h : Quiet X Y is) : X.w.heap.size ≤ Y.w.heap.size := by have := h.hY.size; rw [h.w0] at this; exact this
theorem Quiet.at_ (h : Quiet X Y is) {k i : Nat} (hk : is[k]? = some i) : ∃ b b', X.H i = some b ∧ b.loc = true ∧ unB is b = some b' ∧ b'.loc = true ∧ Y.H k = some (sealB b') ∧ Y.φ k = X.φ i := by
  obtain ⟨b, b', h1, h2, h3⟩ := h.same k i hk
  have hs : (small X is).seal.H k = some (sealB b') := seal_some (X := small X is) (by simp only [small, hk, Option.bind_some, h1, h2])
  obtain ⟨_, g3⟩ := h.le.loc k _ hs (by rw [sealB_loc]; exact (unB_loc h2).2)
  refine ⟨b, b', h1, (unB_loc h2).1, h2, (unB_loc h2).2, h3, g3.trans ?_⟩
  simp only [Ctx.seal, small, List.getD_eq_getElem?_getD, hk, Option.getD_some]
theorem Quiet.other (h : Quiet X Y is) {b : Nat} (hb : b < X.w.heap.size) (hn : ∀ i ∈ is, b ≠ X.φ i) : Y.w.heap[b]? = X.w.heap[b]? := by
  have := h.hY.below b (by rw [h.w0]; exact hb) (by rw [h.le.lent]; rintro ⟨i, hi, e⟩; exact hn i hi e)
  rw [h.w0] at this; exact this
theorem Quiet.xIC (h : Quiet X Y is) {a : Addr} {y : Value} (ha : X.IC a y) : (X.withW Y.w).IC a y := by
  have hy : Y.IC a y := h.le.ic a y (seal_IC.2 (small_IC ha))
  exact ⟨ha.1, ha.2.1, hy.2.2.1, ha.2.2.2.1, ha.2.2.2.2.1, hy.2.2.2.2.2⟩
theorem Quiet.newIC (h : Quiet X Y is) {a : Addr} {y : Value} (h1 : X.w.heap.size ≤ a.block) (h2 : a.spot = none) (h3 : Y.w.cell? a = some y) (h4 : Y.w.frozen? a = false) : (X.withW Y.w).IC a y :=
  ⟨.inl (Nat.le_trans h.hX.size h1), h2, h3, fun i b hb hl e => by
    have h5 : X.φ i < X.w.heap.size := h.hX.lt i b hb hl
    have e' : X.φ i = a.block := e
    omega, fun e he => by
    have := h.hX.frlt _ _ he
    omega, h4⟩
theorem Quiet.bIC (h : Quiet X Y is) {a : Addr} {y : Value} (ha : Y.IC a y) : (X.withW Y.w).IC a y := by
  rcases ha.1 with g | g | g
  · rw [h.w0] at g
    exact h.newIC g ha.2.1 ha.2.2.1 ha.2.2.2.2.2
  · rw [h.le.lent] at g
    obtain ⟨i, hi, e⟩ := g
    obtain ⟨k, hk⟩ := List.getElem?_of_mem hi
    obtain ⟨b, b', _, _, _, q4, q5, q6⟩ := h.at_ hk
    exact absurd (q6.trans e.symm) (ha.2.2.2.1 k _ q5 (by rw [sealB_loc]; exact q4))
  · rw [h.le.oldeq] at g
    exact h.xIC g
theorem Quiet.le' (h : Quiet X Y is) : X.le (X.withW Y.w) where
  ic a y ha := h.xIC ha
  loc i b hb hm := ⟨⟨b, hb, hm⟩, rfl⟩
  arr i row l hb := ⟨l, hb, rfl⟩
  tok i t v hb := ⟨v, hb, Nat.le_refl _, fun _ => ⟨rfl, fun e p q ⟨t1, t2, c, mq, t3, t4⟩ => ⟨t1, t2, c, mq, (h.other (h.hX.ltt i t1) (fun j hj e => by
    obtain ⟨k, hk⟩ := List.getElem?_of_mem hj
    obtain ⟨b, b', q1, q2, _⟩ := h.at_ hk
    exact h.hX.injm j b i q1 q2 t1 e.symm)).trans t3, t4⟩⟩⟩
  w0 := rfl
  lent := rfl
  oldeq := rfl
  drawn := .inr trivial
theorem Quiet.rel (h : Quiet X Y is) : HRel (X.withW Y.w) := by
  have hX := h.hX
  refine ⟨hX.inj, hX.injt, hX.injm, hX.place, hX.placet, fun i b hb hm => Nat.lt_of_lt_of_le (hX.lt i b hb hm) h.sz, fun i hi => Nat.lt_of_lt_of_le (hX.ltt i hi) h.sz, hX.tlH, fun b e he => Nat.lt_of_lt_of_le (hX.frlt b e he) h.sz,
    fun i b hb => ?_, fun k hk hl => ?_, ?_, ?_, ?_, Nat.le_trans hX.size h.sz, fun a y ha => h.xIC (hX.old a y ha)⟩
  · have hb : X.H i = some b := hb
    cases hm : b.loc with
    | false => cases b <;> first | trivial | cases hm
    | true =>
      by_cases hi : i ∈ is
      · obtain ⟨k, hk⟩ := List.getElem?_of_mem hi
        obtain ⟨b1, b', q1, q2, q3, q4, q5, q6⟩ := h.at_ hk
        rw [hb] at q1
        injection q1 with q1; subst q1
        have hy := h.hY.blk k _ q5
        have keep : Y.w.heap[Y.φ k]? = Y.w0.heap[Y.φ k]? → BRel (X.withW Y.w) i b := fun e => by
          rw [q6, h.w0] at e
          exact BRel.mono h.le' rfl e (hX.blk i b hb)
        cases b with
        | cells cs =>
          simp only [unB, Option.map_eq_some_iff] at q3
          obtain ⟨cs', _, rfl⟩ := q3
          exact keep hy.2
        | rcells cs =>
          simp only [unB, Option.map_eq_some_iff] at q3
          obtain ⟨cs', _, rfl⟩ := q3
          exact keep hy.2
        | tok _ _ => cases hm
        | arr row l =>
          injection q3 with q3; subst q3
          obtain ⟨c, t, g1, g2, g3⟩ := hy
          rw [q6] at g1
          exact ⟨c, t, g1, g2, fun j x hj => RelT.mono row x (fun _ _ hk => hk) (fun _ _ => h.bIC) (g3 j x hj)⟩
        | obj o =>
          injection q3 with q3; subst q3
          have hy : Y.w.heap[Y.φ k]? = some o := hy
          rw [q6] at hy
          exact hy
        | iter j n f =>
          simp only [unB, Option.map_eq_some_iff] at q3
          obtain ⟨q, hq, rfl⟩ := q3
          obtain ⟨b2, b2', p1, p2, _, _, _, p6⟩ := h.at_ (findI_zero hq)
          refine ⟨⟨b2, p1, p2⟩, fun hf => ?_⟩
          have := hy.2 hf
          rw [q6, p6] at this
          exact this
        | mp kt vt ka va l =>
          injection q3 with q3; subst q3
          obtain ⟨hf, es, clock, g1, g2, g3⟩ := hy
          rw [q6] at g1
          refine ⟨hf, es, clock, g1, g2, g3.1, g3.2.imp fun l' hl' => ⟨hl'.1, fun j p e hp he => ?_⟩⟩
          obtain ⟨w1, us, w2, w3, w4⟩ := hl'.2 j p e hp he
          exact ⟨w1, us, w2, w3, RelT.mono vt p.2 (fun _ _ hk => hk) (fun _ _ => h.bIC) w4⟩
      · refine BRel.mono h.le' rfl (h.other (hX.lt i b hb hm) fun j hj e => ?_) (hX.blk i b hb)
        obtain ⟨k, hk⟩ := List.getElem?_of_mem hj
        obtain ⟨b2, _, q1, q2, _⟩ := h.at_ hk
        exact hX.inj i j b b2 hb q1 hm q2 (fun e => hi (e ▸ hj)) e
  · have hk' : k < X.w0.heap.size := hk
    refine (h.other (Nat.lt_of_lt_of_le hk' hX.size) fun i hi e => ?_).trans (hX.below k hk hl)
    obtain ⟨n, hn⟩ := List.getElem?_of_mem hi
    obtain ⟨b, _, q1, q2, _⟩ := h.at_ hn
    rcases hX.place i b q1 q2 with g | g
    · omega
    · exact hl (by rw [e]; exact g)
  · have := h.hY.os; rw [h.w0] at this; exact this.trans hX.os
  · have := h.hY.tape; rw [h.w0] at this; exact this.trans hX.tape
  · have := h.hY.output; rw [h.w0] at this; exact this.trans hX.output
/-- What the callee made lies behind all that there was. -/
theorem Quiet.new (h : Quiet X Y is) {k : Nat} {b : AB} (hb : Y.H k = some b) (hl : b.loc = true) (hk : is.length ≤ k) : X.w.heap.size ≤ Y.φ k := by
  rcases h.hY.place k b hb hl with g | g
  · rw [h.w0] at g; exact g
  · rw [h.le.lent] at g
    obtain ⟨i, hi, e⟩ := g
    obtain ⟨n, hn⟩ := List.getElem?_of_mem hi
    obtain ⟨_, b', _, _, _, q4, q5, q6⟩ := h.at_ hn
    have hnl : n < is.length := (List.getElem?_eq_some_iff.1 hn).1
    exact absurd (e.trans q6.symm) (h.hY.inj k n b _ hb q5 hl (by rw [sealB_loc]; exact q4) (by omega))
theorem Quiet.rows (h : Quiet X Y is) {row : CT} {i off len : Nat} (hi : is.length ≤ i) {r : List row.den} (hr : aslRows Y.H row i off len = some r) {l0 : List row.den} (h0 : Y.H i = some (.arr row l0)) (hle : off + len ≤ l0.length) :
    len = r.length ∧ ∀ (j : Nat) x, r[j]? = some x → RelT row x (fun k y => (X.withW Y.w).IC ⟨Y.φ i, off * row.width + j * row.width + k, none⟩ y) (X.withW Y.w).IC := by
  obtain ⟨l, hH, rfl⟩ := aslRows_some hr
  rw [h0] at hH
  simp only [Option.some.injEq, AB.arr.injEq, heq_eq_eq, true_and] at hH
  subst hH
  obtain ⟨vs, g2, g3, g4⟩ := arr_vals h.hY h0 off len hle
  refine ⟨by rw [List.length_take, List.length_drop]; omega, fun j x hj => ?_⟩
  refine RelT.mono row x (fun k y hk => ?_) (fun a y => h.bIC) (g2.2 j x hj)
  have := g4 _ _ hk
  rw [← Nat.add_assoc] at this
  exact h.newIC (h.new h0 rfl hi) rfl this (arr_fz h.hY h0 this)

/-- The call's value, as the caller has it. -/
def quietC (n : Nat) (H : Nat → Option AB) : AC → Option AC
  | .sl row l _ => some (.sl row l .shared)
  | .asl row i off len _ => if Nat.ble n i then (aslRows H row i off len).map fun l => .sl row l .shared else none
  | .msl row i off len => if Nat.ble n i then (aslRows H row i off len).map fun l => .sl row l .shared else none
  | .unk => some .unk
  | .int k x => some (.int k x)
  | .bool b => some (.bool b)
  | .str s => some (.str s)
  | .nils => some .nils
  | .nilz => some .nilz
  | .nilp => some .nilp
  | .nilf => some .nilf
  | .nilm => some .nilm
  | _ => none
def quietCs (n : Nat) (H : Nat → Option AB) : List AC → Option (List AC)
  | [] => some []
  | c :: r => match quietC n H c, quietCs n H r with
    | some x, some l => some (x :: l)
    | _, _ => none
def quietPs (n : Nat) (H : Nat → Option AB) : List (Bool × List AC) → Option (List (Bool × List AC))
  | [] => some []
  | c :: r => match quietCs n H c.2, quietPs n H r with
    | some x, some l => some ((c.1, x) :: l)
    | _, _ => none
def quietV (n : Nat) (H : Nat → Option AB) : AV → Option AV
  | .one c => (quietC n H c).map .one
  | .agg cs => (quietCs n H cs).map .agg
  | .tup ps => (quietPs n H ps).map .tup
  | _ => none
theorem Quiet.C (h : Quiet X Y is) {c c' : AC} (hc : quietC is.length Y.H c = some c') {v : Value} (hv : VRc Y c v) : VRc (X.withW Y.w) c' v := by
  cases c with
  | sl row l m =>
    injection hc with hc; subst hc
    obtain ⟨A, n, cap, h1, h2, h3, h4, h5, h6⟩ := hv
    exact ⟨A, n, cap, h1, h2, h3, h4, h5.imp id fun ⟨b, o, e, hh⟩ => ⟨b, o, e, fun j x hj => RelT.mono row x (fun _ _ hk => h.bIC hk) (fun _ _ => h.bIC) (hh j x hj)⟩, trivial⟩
  | asl row i off len cap =>
    simp only [quietC] at hc
    split at hc
    · rename_i hi
      simp only [Nat.ble_eq] at hi
      simp only [Option.map_eq_some_iff] at hc
      obtain ⟨r, hr, rfl⟩ := hc
      obtain ⟨l, hH, rfl, hlc, hcm, hfit⟩ := hv
      obtain ⟨g1, g2⟩ := h.rows hi hr hH (by omega)
      exact ⟨_, len, cap, rfl, g1, hlc, hcm, .inr ⟨_, _, rfl, g2⟩, trivial⟩
    · cases hc
  | msl row i off len =>
    simp only [quietC] at hc
    split at hc
    · rename_i hi
      simp only [Nat.ble_eq] at hi
      simp only [Option.map_eq_some_iff] at hc
      obtain ⟨r, hr, rfl⟩ := hc
      obtain ⟨l, o, cap, hH, rfl, hlc, hcm, hfit, ho⟩ := hv
      obtain ⟨g1, g2⟩ := h.rows hi hr hH (by omega)
      rcases Nat.eq_zero_or_pos len with h0 | h0
      · exact ⟨_, len, cap, rfl, g1, hlc, hcm, .inl h0, trivial⟩
      have ho' := ho h0
      subst ho'
      exact ⟨_, len, cap, rfl, g1, hlc, hcm, .inr ⟨_, _, rfl, g2⟩, trivial⟩
    · cases hc
  | unk => injection hc with hc; subst hc; exact hv
  | int _ _ => injection hc with hc; subst hc; exact hv
  | bool _ => injection hc with hc; subst hc; exact hv
  | str _ => injection hc with hc; subst hc; exact hv
  | nils => injection hc with hc; subst hc; exact hv
  | nilz => injection hc with hc; subst hc; exact hv
  | nilp => injection hc with hc; subst hc; exact hv
  | nilf => injection hc with hc; subst hc; exact hv
  | nilm => injection hc with hc; subst hc; exact hv
  | _ => cases hc
theorem Quiet.Cs (h : Quiet X Y is) : ∀ {cs cs' : List AC}, quietCs is.length Y.H cs = some cs' → ∀ {vs : List Value}, PW (VRc Y) cs vs → PW (VRc (X.withW Y.w)) cs' vs
  | [], cs', hc, vs, hv => by
    simp only [quietCs, Option.some.injEq] at hc
    subst hc
    have : vs = [] := List.eq_nil_of_length_eq_zero hv.1.symm
    subst this; exact PW.nil
  | c :: r, cs', hc, vs, hv => by
    simp only [quietCs] at hc
    split at hc
    · rename_i x l h1 h2
      injection hc with hc; subst hc
      cases vs with
      | nil => have := hv.1; simp at this
      | cons y ys =>
        exact PW.cons (h.C h1 (hv.2 0 c y rfl rfl)) (h.Cs h2 ⟨by have := hv.1; simpa using this, fun j d z hd hz => hv.2 (j + 1) d z (by simpa using hd) (by simpa using hz)⟩)
    · cases hc
theorem Quiet.Pp (h : Quiet X Y is) {b : Bool} {cs cs' : List AC} (hc : quietCs is.length Y.H cs = some cs') {v : Value} (hv : VRp Y (b, cs) v) : VRp (X.withW Y.w) (b, cs') v := by
  cases b with
  | true =>
    obtain ⟨ar, e, hp⟩ := hv
    exact ⟨ar, e, h.Cs hc hp⟩
  | false =>
    obtain ⟨c, e, hv⟩ := hv
    have e : cs = [c] := e
    subst e
    simp only [quietCs] at hc
    split at hc
    · rename_i x l h1 h2
      injection hc with hc; injection h2 with h2
      subst hc; subst h2
      exact ⟨x, rfl, h.C h1 hv⟩
    · cases hc
theorem Quiet.Ps (h : Quiet X Y is) : ∀ {cs cs' : List (Bool × List AC)}, quietPs is.length Y.H cs = some cs' → ∀ {vs : List Value}, PW (VRp Y) cs vs → PW (VRp (X.withW Y.w)) cs' vs
  | [], cs', hc, vs, hv => by
    simp only [quietPs, Option.some.injEq] at hc
    subst hc
    have : vs = [] := List.eq_nil_of_length_eq_zero hv.1.symm
    subst this; exact PW.nil
  | (b, c) :: r, cs', hc, vs, hv => by
    simp only [quietPs] at hc
    split at hc
    · rename_i x l h1 h2
      injection hc with hc; subst hc
      cases vs with
      | nil => have := hv.1; simp at this
      | cons y ys =>
        exact PW.cons (h.Pp h1 (hv.2 0 _ y rfl rfl)) (h.Ps h2 ⟨by have := hv.1; simpa using this, fun j d z hd hz => hv.2 (j + 1) d z (by simpa using hd) (by simpa using hz)⟩)
    · cases hc
theorem Quiet.V (h : Quiet X Y is) {r r' : AV} (hr : quietV is.length Y.H r = some r') {v : Value} (hv : VR Y r v) : VR (X.withW Y.w) r' v := by
  cases r with
  | one c =>
    simp only [quietV, Option.map_eq_some_iff] at hr
    obtain ⟨c', h1, rfl⟩ := hr
    exact h.C h1 hv
  | agg cs =>
    simp only [quietV, Option.map_eq_some_iff] at hr
    obtain ⟨c', h1, rfl⟩ := hr
    exact h.Pp (b := true) h1 hv
  | tup ps =>
    simp only [quietV, Option.map_eq_some_iff] at hr
    obtain ⟨c', h1, rfl⟩ := hr
    obtain ⟨arr, e, hp⟩ := hv
    exact ⟨arr, e, h.Ps h1 hp⟩
  | _ => cases hr
end

/-- The blocks that are reached, in the order in which they are met. -/
def reachH (H : Nat → Option AB) : Nat → List Nat → List Nat → Option (List Nat)
  | 0, _, _ => none
  | _ + 1, [], seen => some seen
  | n + 1, i :: todo, seen => if (findI seen 0 i).isSome then reachH H n todo seen else match H i with
    | some b => reachH H n (namesB b ++ todo) (seen ++ [i])
    | none => none
theorem reachH_mono {H H' : Nat → Option AB} (hh : HLe H H') : ∀ (n : Nat) {todo seen r : List Nat}, reachH H n todo seen = some r → reachH H' n todo seen = some r
  | 0, _, _, _, h => by cases h
  | n + 1, [], _, _, h => h
  | n + 1, i :: todo, seen, r, h => by
    simp only [reachH] at h ⊢
    split at h
    · rename_i hf
      rw [if_pos hf]
      exact reachH_mono hh n h
    · rename_i hf
      rw [if_neg hf]
      split at h
      · rename_i b hb
        rw [hh i b hb]
        exact reachH_mono hh n h
      · cases h
def qRun (E : Env P) (f : Nat) (args : List AV) (H : Nat → Option AB) : Option AV :=
  match reachH H 500 (args.flatMap namesV) [] with
  | some is => match unBsH is H is, unAs is args with
    | some hp0, some args0 => match E.run f args0 (hp0.map sealB) [] with
      | some (r, hp', cs) => if nodupB is && (cs.all id && eqBs (hp'.take is.length) (hp0.map sealB)) then quietV is.length (fun i => hp'[i]?) r else none
      | none => none
    | _, _ => none
  | none => none
theorem qRun_mono {E : Env P} {f : Nat} {args : List AV} {H H' : Nat → Option AB} (hh : HLe H H') {r : AV} (h : qRun E f args H = some r) : qRun E f args H' = some r := by
  unfold qRun at h ⊢
  split at h
  · rename_i is hr
    rw [reachH_mono hh _ hr]
    split at h
    · rename_i hp0 args0 h1 h2
      simp only [unBsH_mono hh h1, h2]
      exact h
    · cases h
  · cases h
theorem qRun_ok {E : Env P} {f : Nat} {args : List AV} {X : Ctx} {r : AV} (h : qRun E f args X.H = some r) (hX : HRel X) {vs : List Value} (hv : PW (VR X) args vs) :
    (∃ fn, P.funcs[f]? = some fn ∧ (fn.name == "runtime.NumGoroutine") = false ∧ fn.body.isNone = false) ∧
    Calls P f vs.toArray X.w fun e w' => ∃ val X', e = .returned val ∧ X'.w = w' ∧ X.le X' ∧ HRel X' ∧ X'.H = X.H ∧ VR X' r val := by
  unfold qRun at h
  split at h
  · rename_i is hr
    split at h
    · rename_i hp0 args0 h1 h2
      split at h
      · rename_i r0 hp' cs hrun
        split at h
        · rename_i hc
          simp only [Bool.and_eq_true] at hc
          obtain ⟨hnd, hcs, hsame⟩ := hc
          have hsame := eqL_eq (fun _ _ => AB.eqB_eq) _ _ hsame
          obtain ⟨g1, g2⟩ := unBsH_full h1
          have hF : Full X is := fun k i hk => by
            obtain ⟨b, b', e1, e2, _⟩ := g2 k i hk
            exact ⟨b, b', e1, e2⟩
          have hcall := E.heap_ok hrun (fun q hq => by simpa using List.all_eq_true.1 hcs q hq)
          have hH : (small X is).seal.H = fun k => (hp0.map sealB)[k]? := by
            funext k
            show ((is[k]?.bind fun i => (X.H i).bind (unB is))).map sealB = (hp0.map sealB)[k]?
            rw [List.getElem?_map]
            congr 1
            cases hk : is[k]? with
            | none =>
              have := List.getElem?_eq_none_iff.1 hk
              rw [List.getElem?_eq_none (by omega)]; rfl
            | some i =>
              obtain ⟨b, b', e1, e2, e3⟩ := g2 k i hk
              rw [Option.bind_some, e1, Option.bind_some, e2, e3]
          refine ⟨hcall.1, (hcall.2 (small X is).seal vs ((small_rel hX hF hnd).seal rfl) hH ?_).mono fun e w' ⟨val, Y, k1, k2, k3, k4, k5, k6⟩ => ?_⟩
          · have := unAs_rel hF h2 hv
            exact this.imp fun c y => VR.mono (seal_le (small X is)) c y
          · have hq : Quiet X Y is := ⟨hX, hF, hnd, k3, k4, fun k i hk => by
              obtain ⟨b, b', e1, e2, e3⟩ := g2 k i hk
              refine ⟨b, b', e1, e2, ?_⟩
              rw [k5]
              show hp'[k]? = _
              have hkl : k < is.length := (List.getElem?_eq_some_iff.1 hk).1
              have : (hp'.take is.length)[k]? = some (sealB b') := by rw [hsame, List.getElem?_map, e3]; rfl
              rw [List.getElem?_take_of_lt hkl] at this
              exact this⟩
            refine ⟨val, X.withW Y.w, k1, k2, hq.le', hq.rel, rfl, hq.V ?_ k6⟩
            rw [k5]; exact h
        · cases h
      · cases h
    · cases h
  · cases h
/-- Functions that leave the known memory as it is: what they come to may hang on it. -/
def lookH (f : Nat) (fn : List AV → (Nat → Option AB) → Option AV) (kh : KH) : KH := fun g args hp os => if Nat.beq g f then match fn args (fun i => hp[i]?) with
    | some r => some (r, hp, [], os)
    | none => kh g args hp os
  else kh g args hp os
structure Looks (P : Program) (f : Nat) (fn : List AV → (Nat → Option AB) → Option AV) : Prop where
  mono : ∀ args H H' r, HLe H H' → fn args H = some r → fn args H' = some r
  ok : ∀ args X r, fn args X.H = some r → HRel X → ∀ vs, PW (VR X) args vs →
    (∃ fn, P.funcs[f]? = some fn ∧ (fn.name == "runtime.NumGoroutine") = false ∧ fn.body.isNone = false) ∧
    Calls P f vs.toArray X.w fun e w' => ∃ val X', e = .returned val ∧ X'.w = w' ∧ X.le X' ∧ HRel X' ∧ X'.H = X.H ∧ VR X' r val
def onlyL (f : Nat) (fn : List AV → (Nat → Option AB) → Option AV) (kl : KL) : KL := fun g args H os => if Nat.beq g f then (fn args H).map (fun r => (r, [], [], os)) else kl g args H os
theorem onlyL_ok {f : Nat} {fn : List AV → (Nat → Option AB) → Option AV} (hf : Looks P f fn) {kl : KL} (hkl : KLok P kl) : KLok P (onlyL f fn kl) := by
  refine ⟨fun g args H H' os u hh h => ?_, fun g args os v u cs os' X hX h hcs vs hv => ?_⟩
  · unfold onlyL at h ⊢
    split
    · rename_i e
      rw [if_pos e] at h
      cases hr : fn args H with
      | none => rw [hr] at h; cases h
      | some r =>
        rw [hr] at h
        rw [hf.mono _ _ _ _ hh hr]; exact h
    · rename_i e
      rw [if_neg e] at h
      exact hkl.1 _ _ _ _ _ _ hh h
  · unfold onlyL at h
    split at h
    · rename_i e
      simp only [Nat.beq_eq] at e
      subst e
      cases hr : fn args X.H with
      | none => rw [hr] at h; cases h
      | some r =>
        rw [hr] at h
        simp only [Option.map_some, Option.some.injEq, Prod.mk.injEq] at h
        obtain ⟨rfl, rfl, rfl, rfl⟩ := h
        exact hf.ok _ _ _ hr hX _ hv
    · exact hkl.2 _ _ _ _ _ _ _ _ hX h hcs vs hv
theorem lookH_ok {f : Nat} {fn : List AV → (Nat → Option AB) → Option AV} (hf : Looks P f fn) {kh : KH} (hkh : KHok P kh) : KHok P (lookH f fn kh) :=
  fun g args hp os r hp' cs os' h hcs X vs hX hH hv => by
    unfold lookH at h
    split at h
    · rename_i e
      simp only [Nat.beq_eq] at e
      subst e
      split at h
      · rename_i r0 hr
        simp only [Option.some.injEq, Prod.mk.injEq] at h
        obtain ⟨rfl, rfl, rfl, rfl⟩ := h
        rw [← hH] at hr
        obtain ⟨g1, g2⟩ := hf.ok _ _ _ hr hX _ hv
        exact ⟨g1, g2.mono fun e w' ⟨val, X', h1, h2, h3, h4, h5, h6⟩ => ⟨val, X', h1, h2, h3, h4, h5.trans hH, h6⟩⟩
      · exact hkh _ _ _ _ _ _ _ _ h hcs X vs hX hH hv
    · exact hkh _ _ _ _ _ _ _ _ h hcs X vs hX hH hv
def Env.addLk (E : Env P) (f : Nat) (fn : List AV → (Nat → Option AB) → Option AV) (hf : Looks P f fn) : Env P :=
  { E with kh := lookH f fn E.kh, hkh := lookH_ok hf E.hkh, kl := onlyL f fn E.kl, kd := fun g => Nat.beq g f || E.kd g, hkl := onlyL_ok hf E.hkl }
/-- A function that only reads, run by what was known so far: where it is called, also in regions whose order is drawn. -/
def Env.addR (E : Env P) (f : Nat) : Env P := E.addLk f (qRun E f) ⟨fun _ _ _ _ hh h => qRun_mono hh h, fun _ _ _ h hX _ hv => qRun_ok h hX hv⟩

/-! #### One of these -/
theorem PureCall.alt {f : Nat} {a : AV} {cs : List AC} {r : AV} (h0 : cs ≠ []) (h : ∀ c ∈ cs, PureCall P f [a, .one c] r) : PureCall P f [a, .alt cs] r := by
  cases cs with
  | nil => exact absurd rfl h0
  | cons c0 cs =>
    refine ⟨(h c0 (List.mem_cons_self ..)).1, fun X vs hX hv => ?_⟩
    cases vs with
    | nil => have := hv.1; simp at this
    | cons y vs =>
      cases vs with
      | nil => have := hv.1; simp at this
      | cons z vs =>
        have hl : vs = [] := by have := hv.1; simpa using this
        subst hl
        have h1 : VR X a y := hv.2 0 _ _ rfl rfl
        obtain ⟨_, c, hc, h2⟩ : VR X (.alt (c0 :: cs)) z := hv.2 1 _ _ rfl rfl
        exact (h c hc).2 X [y, z] hX (PW.cons h1 (PW.cons h2 PW.nil))
def altF (a0 : AV) (cs0 : List AC) (r : AV) (args : List AV) (os : List Bool) : Option (AV × List Bool × List Bool) := match args with
  | [a, .alt cs] => match wkAs [a] with
    | some a' => if eqVs a' [a0] && CT.eqD.eqL AC.eqB cs cs0 then some (r, [], os) else none
    | none => none
  | _ => none
def Env.addAlt (E : Env P) (f : Nat) (a0 : AV) (cs0 : List AC) (r : AV) (h : PureCall P f [a0, .alt cs0] r) : Env P := E.addP f (altF a0 cs0 r) fun args os r' cs os' hh _ => by
  unfold altF at hh
  split at hh
  · rename_i a cs1
    split at hh
    · rename_i a' hw
      split at hh
      · rename_i e
        simp only [Option.some.injEq, Prod.mk.injEq] at hh
        obtain ⟨rfl, rfl, rfl⟩ := hh
        simp only [Bool.and_eq_true] at e
        have e1 := eqL_eq (fun _ _ => AV.eqB_eq) _ _ e.1
        have e2 := eqL_eq (fun _ _ => AC.eqB_eq) _ _ e.2
        subst e1; subst e2
        refine h.weaken fun X vs _ hv => ?_
        cases vs with
        | nil => have := hv.1; simp at this
        | cons y vs =>
          have h1 : PW (VR X) [a] [y] := PW.cons (hv.2 0 _ _ rfl rfl) PW.nil
          have h2 := wkAs_rel (fun _ _ hh => hh) hw h1
          exact PW.cons (h2.2 0 _ _ rfl rfl) ⟨by have := hv.1; simp at this ⊢; omega, fun j c z hc hz => hv.2 (j + 1) c z (by simpa using hc) (by simpa using hz)⟩
      · cases hh
    · cases hh
  · cases hh
end Go.Eng
