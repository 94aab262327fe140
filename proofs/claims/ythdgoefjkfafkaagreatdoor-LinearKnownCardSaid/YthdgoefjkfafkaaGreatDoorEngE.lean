import Derived.WalkKit
import Derived.WalkSpells
import Derived.WalkLawsBesides
set_option linter.unusedVariables false
namespace Go.Eng
section
open Go Go.RowKit

/-- What one cell, or a row of cells, is of. -/
inductive CT where
  | int (k : IntKind) | bool | str | sl (row : CT) | unit | pair (c cs : CT)
  | mdl (kt vt : CT) (ka va : Bool)

abbrev CT.den : CT → Type
  | .int _ => Int
  | .bool => Bool
  | .str => ByteArray
  | .sl row => List row.den
  | .unit => Unit
  | .pair c cs => c.den × cs.den
  | .mdl kt vt _ _ => List (kt.den × vt.den)

def CT.width : CT → Nat
  | .unit => 0
  | .pair c cs => c.width + cs.width
  | _ => 1

def CT.dflt : (t : CT) → t.den
  | .int _ => (0 : Int)
  | .bool => false
  | .str => ByteArray.empty
  | .sl _ => []
  | .unit => ()
  | .pair c cs => (c.dflt, cs.dflt)
  | .mdl _ _ _ _ => []

/-- Is there no slice in it? -/
def CT.flat : CT → Bool
  | .sl _ => false
  | .mdl _ _ _ _ => false
  | .pair c cs => c.flat && cs.flat
  | _ => true
/-- The cells' values of a row without slices. -/
def CT.vals : (t : CT) → t.den → List Value
  | .int k, n => [.int k n]
  | .bool, b => [.bool b]
  | .str, s => [.string s]
  | .sl _, _ => []
  | .mdl _ _ _ _, _ => []
  | .unit, _ => []
  | .pair c cs, v => c.vals v.1 ++ cs.vals v.2
def CT.same : (t : CT) → t.den → t.den → Bool
  | .int _, a, b => (a : Int) == b
  | .bool, a, b => (a : Bool) == b
  | .str, a, b => (a : ByteArray) == b
  | .sl _, _, _ => true
  | .mdl _ _ _ _, _, _ => true
  | .unit, _, _ => true
  | .pair c cs, a, b => c.same a.1 b.1 && cs.same a.2 b.2
/-- The value of a type whose cells these are. -/
def asV (ag : Bool) (xs : List Value) : Value := if ag then .agg xs.toArray else xs.headD undef

/-- How a slice stands to its array: nothing known; no spare; the one that may be appended to (token, version). -/
inductive SM where
  | shared | full | nn | own (i ver : Nat)
  | at (A : Option Addr) (cap : Nat)

inductive AC where
  | unk
  | int (k : IntKind) (n : Int) | bool (b : Bool) | str (s : ByteArray)
  | sl (row : CT) (l : List row.den) (m : SM)
  | nils | nilz | nilp | nilf | nilm
  | ptr (i off : Nat)
  | pti (i off : Nat) (n : Int) (len : Nat)
  | elp (row : CT) (l : List row.den) (i off : Nat)
  | bsl (row : CT) (i off len mn : Nat)
  | csl (i off len cap : Nat)
  | asl (row : CT) (i off len cap : Nat)
  | ael (row : CT) (i j d : Nat)
  | fn (f : Nat) (caps : List (Nat × Nat))
  | mth (f i off : Nat)
  | mref (i : Nat)
  | mdl (kt vt : CT) (ka va : Bool) (l : List (kt.den × vt.den))

/-- A slice of an own array, of whose room no more is known than what it holds. -/
abbrev AC.msl (row : CT) (i off len : Nat) : AC := .bsl row i off len len

inductive AV where
  | one (c : AC) | agg (cs : List AC) | tup (vs : List (Bool × List AC)) | val (y : Value)
  | gd (b g : Bool) (cs : List AC)
  | alt (cs : List AC) | clo (f : Nat) (c : AC)

inductive AB where
  | cells (cs : List AC)
  | arr (row : CT) (l : List row.den)
  | tok (e : TypeId) (ver : Nat)
  | mp (kt vt : CT) (ka va : Bool) (l : List (kt.den × vt.den))
  | obj (o : Obj)
  | iter (j n : Nat) (f : Bool)
  | dead
  | bld (t : TypeId) (c : AC)
  | buf (e : TypeId) (s : ByteArray)
  | roc (cs : List AC) (o : Obj)
  | rom (kt vt : CT) (ka va : Bool) (l : List (kt.den × vt.den)) (o : Obj)

/-- Memory as known: where own blocks lie, how far a block is promised, which tokens are live, what own blocks hold, the world; the world at the beginning, which of its blocks are lent, and which of its cells are promised. -/
structure Ctx where
  φ : Nat → Nat
  ca : Nat → Nat := fun _ => 0
  fr : Nat → Option Nat
  tl : Nat → Prop
  H : Nat → Option AB
  w : World
  w0 : World
  lent : Nat → Prop
  old : Addr → Value → Prop

def AB.loc : AB → Bool
  | .tok _ _ => false
  | .dead => false
  | _ => true
/-- Has the block a place (be it that it is given up)? -/
def AB.pt : AB → Bool
  | .tok _ _ => false
  | _ => true
/-- May the block be written? (The others are lent to be read, or nothing is known of them.) -/
def AB.wr : AB → Bool
  | .tok _ _ => false
  | .dead => false
  | .roc _ _ => false
  | .rom _ _ _ _ _ _ => false
  | _ => true
theorem AB.loc_of {b : AB} (h : b.wr = true) : b.loc = true := by cases b <;> first | rfl | cases h
theorem AB.pt_of {b : AB} (h : b.loc = true) : b.pt = true := by cases b <;> first | rfl | cases h

/-- A map's entries: how many, and stamps that are all elder than its clock, none twice; the clock counts them. -/
def MapOk (es : Array MapEntry) (clock n : Nat) : Prop := es.size = n ∧ (∀ b ∈ es.toList.map (·.born), b < clock) ∧ (es.toList.map (·.born)).Nodup ∧ clock = n

/-- A list of keys and values, as one value: by this a map's entries are promised. -/
def encM (l : List (Value × Value)) : Value := .agg (l.map fun p => Value.agg #[p.1, p.2]).toArray
/-- What a cell holds; or (a marked place) what entries a map has, in some order. -/
def holds (w : World) (a : Addr) (y : Value) : Prop := match a.spot with
  | none => w.cell? a = some y
  | some 0 => ∃ es clock ps, w.heap[a.block]? = some (.map es clock) ∧ MapOk es clock es.size ∧ y = encM ps ∧ ps.Perm (es.toList.map fun e => (e.key, e.val))
  | some (_ + 1) => ∃ t, w.heap[a.block]? = some (.cells #[y] t (0, 0))
theorem holds_of_block {w w' : World} {a : Addr} {y : Value} (h : w'.heap[a.block]? = w.heap[a.block]?) (hh : holds w a y) : holds w' a y := by
  unfold holds at hh ⊢
  split at hh
  · rename_i e; exact (World.cell?_of_block h).trans hh
  · obtain ⟨es, clock, ps, h1, h2⟩ := hh
    exact ⟨es, clock, ps, h.trans h1, h2⟩
  · obtain ⟨t, h1⟩ := hh
    exact ⟨t, h.trans h1⟩
theorem holds_lt {w : World} {a : Addr} {y : Value} (hh : holds w a y) : a.block < w.heap.size := by
  unfold holds at hh
  split at hh
  · exact World.block_lt_of_cell? _ _ hh
  · obtain ⟨es, clock, ps, h1, h2⟩ := hh
    exact (Array.getElem?_eq_some_iff.1 h1).1
  · obtain ⟨t, h1⟩ := hh
    exact (Array.getElem?_eq_some_iff.1 h1).1
theorem holds_cell {w : World} {a : Addr} {y : Value} (h : a.spot = none) : holds w a y ↔ w.cell? a = some y := by
  unfold holds; rw [h]
/-- These entries are this list's. -/
def MEnc (kt vt : CT) (ka va : Bool) (l : List (kt.den × vt.den)) (y : Value) : Prop :=
  kt.flat = true ∧ vt.flat = true ∧ (l.map (·.1)).Nodup ∧ y = encM (l.map fun p => (asV ka (kt.vals p.1), asV va (vt.vals p.2)))

/-- A cell that is promised not to change. -/
def Ctx.IC (X : Ctx) (a : Addr) (y : Value) : Prop :=
  (X.w0.heap.size ≤ a.block ∨ X.lent a.block ∨ X.old a y) ∧ a.spot = a.spot ∧ holds X.w a y ∧ (∀ i b, X.H i = some b → b.wr = true → X.φ i ≠ a.block) ∧
    (∀ e, X.fr a.block = some e → a.off < e ∧ a.spot = none) ∧ X.w.frozen? a = false

/-- The value of a row's type lies in cells. -/
def RelT : (t : CT) → t.den → (C : Nat → Value → Prop) → (IC : Addr → Value → Prop) → Prop
  | .int k, n, C, _ => C 0 (.int k n)
  | .bool, b, C, _ => C 0 (.bool b)
  | .str, s, C, _ => C 0 (.string s)
  | .sl row, l, C, IC => ∃ A n cap, C 0 (.slice A n cap) ∧ n = l.length ∧ n ≤ cap ∧ cap ≤ maxLen ∧
      (n = 0 ∨ ∃ b o, A = some ⟨b, o, none⟩ ∧ ∀ j x, l[j]? = some x → RelT row x (fun k y => IC ⟨b, o + j * row.width + k, none⟩ y) IC)
  | .unit, _, _, _ => True
  | .pair c cs, v, C, IC => RelT c v.1 C IC ∧ RelT cs v.2 (fun k y => C (c.width + k) y) IC
  | .mdl kt vt ka va, l, C, IC => ∃ b m y, C 0 (.pointer (some ⟨b, 0, none⟩)) ∧ IC ⟨b, 0, some 1⟩ (.map (some m)) ∧ IC ⟨m, 0, some 0⟩ y ∧ MEnc kt vt ka va l y

theorem RelT.mono : ∀ (t : CT) (v : t.den) {C C' : Nat → Value → Prop} {IC IC' : Addr → Value → Prop},
    (∀ k y, C k y → C' k y) → (∀ a y, IC a y → IC' a y) → RelT t v C IC → RelT t v C' IC'
  | .int _, _, _, _, _, _, hC, _, h => hC _ _ h
  | .bool, _, _, _, _, _, hC, _, h => hC _ _ h
  | .str, _, _, _, _, _, hC, _, h => hC _ _ h
  | .sl row, l, _, _, _, _, hC, hI, ⟨A, n, cap, h1, h2, h3, h4, h5⟩ =>
    ⟨A, n, cap, hC _ _ h1, h2, h3, h4, h5.imp id fun ⟨b, o, e, h⟩ => ⟨b, o, e, fun j x hj => RelT.mono row x (fun _ _ hk => hI _ _ hk) hI (h j x hj)⟩⟩
  | .unit, _, _, _, _, _, _, _, _ => trivial
  | .pair c cs, v, _, _, _, _, hC, hI, h =>
    ⟨RelT.mono c v.1 hC hI h.1, RelT.mono cs v.2 (fun _ _ hk => hC _ _ hk) hI h.2⟩
  | .mdl kt vt ka va, l, _, _, _, _, hC, hI, ⟨b, m, y, h1, h2, h3, h4⟩ => ⟨b, m, y, hC _ _ h1, hI _ _ h2, hI _ _ h3, h4⟩

/-- A token's array: where it is promised to, and what there is. -/
def Ctx.TokOk (X : Ctx) (i : Nat) (e : TypeId) (end_ lim : Nat) : Prop :=
  X.tl i ∧ X.fr (X.φ i) = some end_ ∧ ∃ c m, X.w.heap[X.φ i]? = some (.cells c e m) ∧ c.size = lim ∧ (m = (0, 0) ∨ m = (c.size, c.size + 1))

/-- The own array i holds this; or it was given up. -/
def Ctx.ArrAt (X : Ctx) (i : Nat) (row : CT) (l : List row.den) : Prop := X.H i = some (.arr row l) ∨ X.H i = some .dead
theorem Ctx.ArrAt.of {X : Ctx} {i : Nat} {row row' : CT} {l : List row.den} {l' : List row'.den} (h : X.ArrAt i row l) (h' : X.H i = some (.arr row' l')) : X.H i = some (.arr row l) :=
  h.resolve_right (by rw [h']; intro e; cases e)

theorem Ctx.ArrAt.imp {X Y : Ctx} {i : Nat} {row : CT} {l : List row.den} (h : X.ArrAt i row l) (f : ∀ b, X.H i = some b → Y.H i = some b) : Y.ArrAt i row l :=
  Or.imp (f _) (f _) h
theorem Ctx.ArrAt.has {X : Ctx} {i : Nat} {row : CT} {l : List row.den} (h : X.ArrAt i row l) : X.H i ≠ none := by
  rcases h with h | h <;> rw [h] <;> simp

/-- How a slice lies in an own array: at least so much room, all of it within what is known. -/
def Bs (len mn cap off o w n ca : Nat) : Prop := len ≤ mn ∧ mn ≤ cap ∧ off + mn ≤ n ∧ (0 < mn → o = off * w) ∧ o + cap * w ≤ ca
def VRc (X : Ctx) : AC → Value → Prop
  | .unk, _ => True
  | .int k n, v => v = .int k n
  | .bool b, v => v = .bool b
  | .str s, v => v = .string s
  | .sl row l m, v => ∃ A n cap, v = .slice A n cap ∧ n = l.length ∧ n ≤ cap ∧ cap ≤ maxLen ∧
      (n = 0 ∨ ∃ b o, A = some ⟨b, o, none⟩ ∧ ∀ j x, l[j]? = some x → RelT row x (fun k y => X.IC ⟨b, o + j * row.width + k, none⟩ y) X.IC) ∧
      (match m with
       | .shared => True
       | .full => cap = n
       | .nn => ∃ a, A = some a
       | .at A0 c0 => A = A0 ∧ cap = c0
       | .own i ver => ∃ e v0, X.H i = some (.tok e v0) ∧ ver ≤ v0 ∧ (ver = v0 → (cap = n ∧ n = 0) ∨ (A = some ⟨X.φ i, 0, none⟩ ∧ X.TokOk i e (n * row.width) (cap * row.width))))
  | .nils, v => v = .slice none 0 0
  | .nilz, v => ∃ c, v = .slice none 0 c
  | .nilp, v => v = .pointer none
  | .nilf, v => v = .nilFunc
  | .nilm, v => v = .map none
  | .ptr i off, v => (∃ b, X.H i = some b ∧ b.pt = true) ∧ v = .pointer (some ⟨X.φ i, off, none⟩)
  | .pti i off n len, v => (∃ b, X.H i = some b ∧ b.pt = true) ∧ v = .pointer (some ⟨X.φ i, off + n.toNat, none⟩) ∧ 0 ≤ n ∧ n < (len : Int)
  | .elp row l i off, v => i < l.length ∧ ∃ b o, v = .pointer (some ⟨b, o + i * row.width + off, none⟩) ∧ ∀ x, l[i]? = some x → RelT row x (fun k y => X.IC ⟨b, o + i * row.width + k, none⟩ y) X.IC
  | .bsl row i off len mn, v => ∃ (l : List row.den) (o cap : Nat), X.ArrAt i row l ∧ v = .slice (some ⟨X.φ i, o, none⟩) len cap ∧ len ≤ cap ∧ cap ≤ maxLen ∧ off + len ≤ l.length ∧ (0 < len → o = off * row.width) ∧ Bs len mn cap off o row.width l.length (X.ca i)
  | .csl i off len cap, v => (∃ b, X.H i = some b ∧ b.pt = true) ∧ v = .slice (some ⟨X.φ i, off, none⟩) len cap ∧ len ≤ cap ∧ cap ≤ maxLen
  | .asl row i off len cap, v => ∃ l : List row.den, X.ArrAt i row l ∧ v = .slice (some ⟨X.φ i, off * row.width, none⟩) len cap ∧ len ≤ cap ∧ cap ≤ maxLen ∧ off + cap ≤ l.length
  | .ael row i j d, v => ∃ l : List row.den, X.ArrAt i row l ∧ j < l.length ∧ v = .pointer (some ⟨X.φ i, j * row.width + d, none⟩)
  | .fn f caps, v => ∃ c : Array Value, v = .func (.func f) #[] c ∧ c.size = caps.length ∧
      ∀ (j : Nat) (p : Nat × Nat), caps[j]? = some p → (∃ b, X.H p.1 = some b ∧ b.pt = true) ∧ c[j]? = some (.pointer (some ⟨X.φ p.1, p.2, none⟩))
  | .mth f i off, v => (∃ b, X.H i = some b ∧ b.pt = true) ∧ v = .func (.func f) #[.pointer (some ⟨X.φ i, off, none⟩)] #[]
  | .mref i, v => (∃ b, X.H i = some b ∧ b.pt = true) ∧ v = .map (some (X.φ i))
  | .mdl kt vt ka va l, v => ∃ b m y, v = .pointer (some ⟨b, 0, none⟩) ∧ X.IC ⟨b, 0, some 1⟩ (.map (some m)) ∧ X.IC ⟨m, 0, some 0⟩ y ∧ MEnc kt vt ka va l y

/-- More is known, nothing is taken back. -/
structure Ctx.le (X X' : Ctx) : Prop where
  ic : ∀ a y, X.IC a y → X'.IC a y
  loc : ∀ i b, X.H i = some b → b.pt = true → (∃ b', X'.H i = some b' ∧ b'.pt = true) ∧ X'.φ i = X.φ i
  arr : ∀ i row l, X.H i = some (.arr row l) → (∃ l' : List row.den, X'.H i = some (.arr row l') ∧ l'.length = l.length) ∨ X'.H i = some .dead
  dead : ∀ i, X.H i = some .dead → X'.H i = some .dead
  ca : ∀ i b, X.H i = some b → b.pt = true → X'.ca i = X.ca i
  tok : ∀ i t v, X.H i = some (.tok t v) → ∃ v', X'.H i = some (.tok t v') ∧ v ≤ v' ∧ (v = v' → X'.φ i = X.φ i ∧ ∀ e p q, X.TokOk i e p q → X'.TokOk i e p q)
  w0 : X'.w0 = X.w0
  lent : X'.lent = X.lent
  oldeq : X'.old = X.old
  drawn : X.w.drawn * 0 ≤ X'.w.drawn * 0

theorem Ctx.le.refl (X : Ctx) : X.le X :=
  ⟨fun _ _ h => h, fun i b h hm => ⟨⟨b, h, hm⟩, rfl⟩, fun i row l h => .inl ⟨l, h, rfl⟩, fun _ h => h, fun _ _ _ _ => rfl, fun i t v h => ⟨v, h, Nat.le_refl _, fun _ => ⟨rfl, fun _ _ _ h => h⟩⟩, rfl, rfl, rfl, Nat.le_refl _⟩

theorem Ctx.le.has {X X' : Ctx} (h : X.le X') {i : Nat} (hi : X.H i ≠ none) : X'.H i ≠ none := by
  cases hb : X.H i with
  | none => exact absurd hb hi
  | some b =>
    cases b with
    | tok t v => obtain ⟨v', e, _⟩ := h.tok i t v hb; rw [e]; simp
    | cells _ => obtain ⟨⟨b', e, _⟩, _⟩ := h.loc i _ hb rfl; rw [e]; simp
    | arr _ _ => obtain ⟨⟨b', e, _⟩, _⟩ := h.loc i _ hb rfl; rw [e]; simp
    | mp _ _ _ _ _ => obtain ⟨⟨b', e, _⟩, _⟩ := h.loc i _ hb rfl; rw [e]; simp
    | obj _ => obtain ⟨⟨b', e, _⟩, _⟩ := h.loc i _ hb rfl; rw [e]; simp
    | iter _ _ _ => obtain ⟨⟨b', e, _⟩, _⟩ := h.loc i _ hb rfl; rw [e]; simp
    | dead => obtain ⟨⟨b', e, _⟩, _⟩ := h.loc i _ hb rfl; rw [e]; simp
    | bld _ _ => obtain ⟨⟨b', e, _⟩, _⟩ := h.loc i _ hb rfl; rw [e]; simp
    | buf _ _ => obtain ⟨⟨b', e, _⟩, _⟩ := h.loc i _ hb rfl; rw [e]; simp
    | roc _ _ => obtain ⟨⟨b', e, _⟩, _⟩ := h.loc i _ hb rfl; rw [e]; simp
    | rom _ _ _ _ _ _ => obtain ⟨⟨b', e, _⟩, _⟩ := h.loc i _ hb rfl; rw [e]; simp

theorem Ctx.le.trans {X Y Z : Ctx} (h : X.le Y) (k : Y.le Z) : X.le Z where
  ic a y hh := k.ic a y (h.ic a y hh)
  loc i b hb hm := by
    obtain ⟨⟨b', hb', hm'⟩, e⟩ := h.loc i b hb hm
    obtain ⟨q, e'⟩ := k.loc i b' hb' hm'
    exact ⟨q, e'.trans e⟩
  arr i row l hh := by
    rcases h.arr i row l hh with ⟨l', h1, h2⟩ | h1
    · rcases k.arr i row l' h1 with ⟨l'', h3, h4⟩ | h3
      · exact .inl ⟨l'', h3, h4.trans h2⟩
      · exact .inr h3
    · exact .inr (k.dead i h1)
  dead i hh := k.dead i (h.dead i hh)
  ca i b hb hm := by
    obtain ⟨⟨b', hb', hm'⟩, _⟩ := h.loc i b hb hm
    exact (k.ca i b' hb' hm').trans (h.ca i b hb hm)
  tok i t v hh := by
    obtain ⟨v', h1, h2, h3⟩ := h.tok i t v hh
    obtain ⟨v'', h4, h5, h6⟩ := k.tok i t v' h1
    refine ⟨v'', h4, Nat.le_trans h2 h5, fun e => ?_⟩
    obtain ⟨e1, f1⟩ := h3 (by omega)
    obtain ⟨e2, f2⟩ := h6 (by omega)
    exact ⟨e2.trans e1, fun e p q ht => f2 e p q (f1 e p q ht)⟩
  w0 := k.w0.trans h.w0
  lent := k.lent.trans h.lent
  oldeq := k.oldeq.trans h.oldeq
  drawn := Nat.le_trans h.drawn k.drawn

theorem Ctx.ArrAt.mono {X X' : Ctx} (h : X.le X') {i : Nat} {row : CT} {l : List row.den} (hh : X.ArrAt i row l) : (∃ l' : List row.den, X'.ArrAt i row l' ∧ l'.length = l.length) ∧ X'.φ i = X.φ i ∧ X'.ca i = X.ca i := by
  rcases hh with hh | hh
  · refine ⟨?_, (h.loc i _ hh rfl).2, h.ca i _ hh rfl⟩
    rcases h.arr i row l hh with ⟨l', h1, h2⟩ | h1
    · exact ⟨l', .inl h1, h2⟩
    · exact ⟨l, .inr h1, rfl⟩
  · exact ⟨⟨l, .inr (h.dead i hh), rfl⟩, (h.loc i _ hh rfl).2, h.ca i _ hh rfl⟩

theorem VRc.mono {X X' : Ctx} (h : X.le X') : ∀ (c : AC) (v : Value), VRc X c v → VRc X' c v
  | .unk, _, _ => trivial
  | .int _ _, _, e => e
  | .bool _, _, e => e
  | .str _, _, e => e
  | .nils, _, e => e
  | .nilz, _, e => e
  | .nilp, _, e => e
  | .nilf, _, e => e
  | .nilm, _, e => e
  | .sl row l m, v, ⟨A, n, cap, h1, h2, h3, h4, h5, h6⟩ => by
    refine ⟨A, n, cap, h1, h2, h3, h4, h5.imp id fun ⟨b, o, e, hh⟩ => ⟨b, o, e, fun j x hj => RelT.mono row x (fun _ _ hk => h.ic _ _ hk) h.ic (hh j x hj)⟩, ?_⟩
    cases m with
    | shared => trivial
    | full => exact h6
    | nn => exact h6
    | «at» _ _ => exact h6
    | own i ver =>
      obtain ⟨e, v0, g1, g2, g3⟩ := h6
      obtain ⟨v1, k1, k2, k3⟩ := h.tok i e v0 g1
      refine ⟨e, v1, k1, Nat.le_trans g2 k2, fun ev => ?_⟩
      obtain ⟨e1, f1⟩ := k3 (by omega)
      rcases g3 (by omega) with g | ⟨ga, gt⟩
      · exact .inl g
      · exact .inr ⟨by rw [e1]; exact ga, f1 _ _ _ gt⟩
  | .ptr i off, v, ⟨⟨b, hb, hm⟩, e⟩ => by
    obtain ⟨q, e'⟩ := h.loc i b hb hm
    exact ⟨q, by rw [e']; exact e⟩
  | .pti i off n len, v, ⟨⟨b, hb, hm⟩, e, h3, h4⟩ => by
    obtain ⟨q, e'⟩ := h.loc i b hb hm
    exact ⟨q, by rw [e']; exact e, h3, h4⟩
  | .elp row l i off, v, ⟨hi, b, o, e, hh⟩ => ⟨hi, b, o, e, fun x hx => RelT.mono row x (fun _ _ hk => h.ic _ _ hk) h.ic (hh x hx)⟩
  | .bsl row i off len mn, v, ⟨l, o, cap, h1, h2, h3, h4, h5, h6, h7⟩ => by
    obtain ⟨⟨l', g1, g2⟩, e', ec⟩ := h1.mono h
    exact ⟨l', o, cap, g1, by rw [e']; exact h2, h3, h4, by omega, h6, by rw [g2, ec]; exact h7⟩
  | .csl i off len cap, v, ⟨⟨b, hb, hm⟩, e, h3, h4⟩ => by
    obtain ⟨q, e'⟩ := h.loc i b hb hm
    exact ⟨q, by rw [e']; exact e, h3, h4⟩
  | .asl row i off len cap, v, ⟨l, h1, h2, h3, h4, h5⟩ => by
    obtain ⟨⟨l', g1, g2⟩, e', ec⟩ := h1.mono h
    exact ⟨l', g1, by rw [e']; exact h2, h3, h4, by omega⟩
  | .ael row i j d, v, ⟨l, h1, h2, h3⟩ => by
    obtain ⟨⟨l', g1, g2⟩, e', ec⟩ := h1.mono h
    exact ⟨l', g1, by omega, by rw [e']; exact h3⟩
  | .mth f i off, v, ⟨⟨b, hb, hm⟩, e⟩ => by
    obtain ⟨q, e'⟩ := h.loc i b hb hm
    exact ⟨q, by rw [e']; exact e⟩
  | .mref i, v, ⟨⟨b, hb, hm⟩, e⟩ => by
    obtain ⟨q, e'⟩ := h.loc i b hb hm
    exact ⟨q, by rw [e']; exact e⟩
  | .mdl kt vt ka va l, v, ⟨b, m, y, h1, h2, h3, h4⟩ => ⟨b, m, y, h1, h.ic _ _ h2, h.ic _ _ h3, h4⟩
  | .fn f caps, v, ⟨c, h1, h2, h3⟩ => ⟨c, h1, h2, fun j p hj => by
      obtain ⟨⟨b, hb, hm⟩, e⟩ := h3 j p hj
      obtain ⟨q, e'⟩ := h.loc p.1 b hb hm
      exact ⟨q, by rw [e']; exact e⟩⟩

/-- Pairwise related. -/
def PW {α β : Type} (R : α → β → Prop) (cs : List α) (vs : List β) : Prop :=
  cs.length = vs.length ∧ ∀ (j : Nat) c y, cs[j]? = some c → vs[j]? = some y → R c y

theorem PW.imp {α β : Type} {R S : α → β → Prop} {cs : List α} {vs : List β} (h : ∀ c y, R c y → S c y) (hh : PW R cs vs) : PW S cs vs :=
  ⟨hh.1, fun j c y hc hy => h c y (hh.2 j c y hc hy)⟩
theorem PW.nil {α β : Type} {R : α → β → Prop} : PW R [] [] := ⟨rfl, fun j c y hc _ => by simp at hc⟩
theorem PW.cons {α β : Type} {R : α → β → Prop} {c : α} {y : β} {cs : List α} {vs : List β} (h : R c y) (hh : PW R cs vs) : PW R (c :: cs) (y :: vs) := by
  refine ⟨by simp [hh.1], fun j d z hd hz => ?_⟩
  cases j with
  | zero => simp at hd hz; subst hd; subst hz; exact h
  | succ j => simp at hd hz; exact hh.2 j d z hd hz
theorem PW.append {α β : Type} {R : α → β → Prop} {cs ds : List α} {vs ws : List β} (h : PW R cs vs) (k : PW R ds ws) : PW R (cs ++ ds) (vs ++ ws) := by
  refine ⟨by simp [h.1, k.1], fun j d z hd hz => ?_⟩
  have hl := h.1
  by_cases e : j < cs.length
  · rw [List.getElem?_append_left e] at hd
    rw [List.getElem?_append_left (by omega)] at hz
    exact h.2 j d z hd hz
  · rw [List.getElem?_append_right (by omega)] at hd
    rw [List.getElem?_append_right (by omega), ← hl] at hz
    exact k.2 _ d z hd hz
theorem PW.drop {α β : Type} {R : α → β → Prop} {cs : List α} {vs : List β} (h : PW R cs vs) (n : Nat) : PW R (cs.drop n) (vs.drop n) :=
  ⟨by simp [h.1], fun j d z hd hz => by rw [List.getElem?_drop] at hd hz; exact h.2 _ d z hd hz⟩
theorem PW.take {α β : Type} {R : α → β → Prop} {cs : List α} {vs : List β} (h : PW R cs vs) (n : Nat) : PW R (cs.take n) (vs.take n) := by
  refine ⟨by simp [h.1], fun j d z hd hz => ?_⟩
  by_cases e : j < n
  · rw [List.getElem?_take_of_lt e] at hd hz; exact h.2 j d z hd hz
  · rw [List.getElem?_take_eq_none (by omega)] at hd; cases hd
theorem PW.at_ {α β : Type} {R : α → β → Prop} {cs : List α} {vs : List β} (h : PW R cs vs) {j : Nat} {c : α} (hc : cs[j]? = some c) : ∃ y, vs[j]? = some y ∧ R c y := by
  have hl : j < vs.length := by
    have := (List.getElem?_eq_some_iff.1 hc).1
    have := h.1
    omega
  exact ⟨vs[j], List.getElem?_eq_getElem hl, h.2 j c _ hc (List.getElem?_eq_getElem hl)⟩
theorem PW.get {α β : Type} {R : α → β → Prop} {cs : List α} {vs : List β} (h : PW R cs vs) {j : Nat} {y : β} (hc : vs[j]? = some y) : ∃ c, cs[j]? = some c ∧ R c y := by
  have hl : j < cs.length := by
    have := (List.getElem?_eq_some_iff.1 hc).1
    have := h.1
    omega
  exact ⟨cs[j], List.getElem?_eq_getElem hl, h.2 j _ y (List.getElem?_eq_getElem hl) hc⟩

def VRp (X : Ctx) : Bool × List AC → Value → Prop
  | (true, cs), y => ∃ ar : Array Value, y = .agg ar ∧ PW (VRc X) cs ar.toList
  | (false, cs), y => ∃ c, cs = [c] ∧ VRc X c y

/-- The blocks that a value names. -/
def idsC : AC → List Nat
  | .sl _ _ (.own i _) => [i]
  | .ptr i _ => [i]
  | .pti i _ _ _ => [i]
  | .bsl _ i _ _ _ => [i]
  | .csl i _ _ _ => [i]
  | .asl _ i _ _ _ => [i]
  | .ael _ i _ _ => [i]
  | .fn _ caps => caps.map (·.1)
  | .mth _ i _ => [i]
  | .mref i => [i]
  | _ => []
/-- A number, a truth value, a text. -/
def AC.bare : AC → Bool
  | .int _ _ => true
  | .bool _ => true
  | .str _ => true
  | _ => false
def VR (X : Ctx) : AV → Value → Prop
  | .one c, v => VRc X c v
  | .agg cs, v => VRp X (true, cs) v
  | .tup vs, v => ∃ arr : Array Value, v = .tuple arr ∧ PW (VRp X) vs arr.toList
  | .val y, v => v = y
  | .gd b g cs, v => (∀ i ∈ cs.flatMap idsC, X.H i ≠ none) ∧ (b = true → VRp X (g, cs) v) ∧ (b = false → v = undef)
  | .alt cs, v => (∀ i ∈ cs.flatMap idsC, X.H i ≠ none) ∧ ∃ c ∈ cs, VRc X c v
  | .clo f c, v => ∃ (a : Nat) (y : Value), v = .func (.func f) #[] #[.pointer (some ⟨a, 0, none⟩)] ∧ X.IC ⟨a, 0, none⟩ y ∧ VRc X c y

theorem VRp.mono {X X' : Ctx} (h : X.le X') : ∀ (p : Bool × List AC) (v : Value), VRp X p v → VRp X' p v
  | (true, cs), v, ⟨ar, e, hh⟩ => ⟨ar, e, hh.imp fun c y => VRc.mono h c y⟩
  | (false, cs), v, ⟨c, e, hh⟩ => ⟨c, e, VRc.mono h c v hh⟩

theorem VR.mono {X X' : Ctx} (h : X.le X') : ∀ (c : AV) (v : Value), VR X c v → VR X' c v
  | .one c, v, hh => VRc.mono h c v hh
  | .agg cs, v, hh => VRp.mono h (true, cs) v hh
  | .tup vs, v, ⟨arr, e, hh⟩ => ⟨arr, e, hh.imp fun p y => VRp.mono h p y⟩
  | .val _, _, e => e
  | .gd _ g cs, v, hh => ⟨fun i hi => h.has (hh.1 i hi), fun e => VRp.mono h (g, cs) v (hh.2.1 e), hh.2.2⟩
  | .alt cs, v, ⟨h1, c, hc, h2⟩ => ⟨fun i hi => h.has (h1 i hi), c, hc, VRc.mono h c v h2⟩
  | .clo f c, v, ⟨a, y, e, h1, h2⟩ => ⟨a, y, e, h.ic _ y h1, VRc.mono h c y h2⟩
end
section
open Go Go.RowKit

theorem MapOk.nil : MapOk #[] 0 0 := ⟨rfl, by simp, by simp, rfl⟩
theorem MapOk.push {es : Array MapEntry} {clock n : Nat} {x : MapEntry} (h : MapOk es clock n) (hx : x.born = clock) : MapOk (es.push x) (clock + 1) (n + 1) := by
  obtain ⟨h1, h2, h3, h4⟩ := h
  refine ⟨by simp [h1], fun b hb => ?_, ?_, by omega⟩
  · rw [Array.toList_push, List.map_append, List.mem_append] at hb
    rcases hb with hb | hb
    · exact Nat.lt_succ_of_lt (h2 b hb)
    · simp only [List.map_cons, List.map_nil, List.mem_singleton] at hb
      omega
  · rw [Array.toList_push, List.map_append, List.nodup_append]
    refine ⟨h3, by simp, fun a ha b hb e => ?_⟩
    simp only [List.map_cons, List.map_nil, List.mem_singleton] at hb
    have := h2 a ha
    omega
theorem MapOk.modify {es : Array MapEntry} {clock n j : Nat} {f : MapEntry → MapEntry} (h : MapOk es clock n) (hf : ∀ e, (f e).born = e.born) : MapOk (es.modify j f) clock n := by
  have e : (es.modify j f).toList.map (·.born) = es.toList.map (·.born) := by
    apply List.ext_getElem?
    intro i
    simp only [List.getElem?_map, Array.getElem?_toList, Array.getElem?_modify]
    split
    · cases es[i]? with
      | none => rfl
      | some x => simp [hf]
    · rfl
  exact ⟨by simp [h.1], by rw [e]; exact h.2.1, by rw [e]; exact h.2.2.1, h.2.2.2⟩

/-- A map's entries are a list's, in some order; no key comes twice. -/
def MRel (X : Ctx) (kt vt : CT) (ka va : Bool) (l : List (kt.den × vt.den)) (es : Array MapEntry) : Prop :=
  (l.map (·.1)).Nodup ∧ ∃ l' : List (kt.den × vt.den), l'.Perm l ∧
    ∀ (j : Nat) p e, l'[j]? = some p → es[j]? = some e → e.key = asV ka (kt.vals p.1) ∧ ∃ us : List Value, e.val = asV va us ∧ us.length = vt.width ∧ RelT vt p.2 (fun k y => us[k]? = some y) X.IC
/-- A builder's buffer: none, or an own row of bytes (named as a pointer: its block, and how many bytes). -/
def BufV (X : Ctx) : AC → Value → Prop
  | .nils, v => v = .slice none 0 0
  | .ptr j n, v => (∃ b, X.H j = some b ∧ b.pt = true) ∧ v = .slice (some ⟨X.φ j, 0, none⟩) n (X.ca j)
  | _, _ => False
theorem BufV.mono {X X' : Ctx} (h : X.le X') : ∀ (c : AC) (v : Value), BufV X c v → BufV X' c v := fun c v hc => by
  cases c with
  | nils => exact hc
  | ptr j n =>
    obtain ⟨⟨b, h1, h2⟩, h3⟩ := hc
    obtain ⟨g1, g2⟩ := h.loc j b h1 h2
    exact ⟨g1, by rw [g2, h.ca j b h1 h2]; exact h3⟩
  | _ => exact hc.elim
/-- A string's bytes as cells. -/
def bytesV (s : ByteArray) : List Value := s.data.toList.map fun b => Value.int .u8 b.toNat
/-- What an own block holds lies there. -/
def BRel (X : Ctx) (i : Nat) : AB → Prop
  | .cells cs => ∃ c t, X.w.heap[X.φ i]? = some (.cells c t (0, 0)) ∧ PW (VRc X) cs c.toList
  | .arr row l => ∃ (c : Array Value) (t : TypeId × (Nat × Nat)), X.w.heap[X.φ i]? = some (.cells c t.1 t.2) ∧ (l.length * row.width ≤ c.size ∧ (∀ o, o < c.size → ¬ (t.2.1 ≤ o ∧ o < t.2.2)) ∧ c.size = X.ca i) ∧
      ∀ (j : Nat) x, l[j]? = some x → RelT row x (fun k y => c[j * row.width + k]? = some y) X.IC
  | .tok _ _ => True
  | .dead => True
  | .bld t c => ∃ p v, X.w.heap[X.φ i]? = some (.cells #[p, v] t (0, 0)) ∧ (p = .pointer none ∨ p = .pointer (some ⟨X.φ i, 0, none⟩)) ∧ BufV X c v
  | .buf e s => ∃ cur : Array Value, X.w.heap[X.φ i]? = some (.cells cur e (0, 0)) ∧ cur.size = X.ca i ∧ s.size ≤ X.ca i ∧ X.ca i ≤ maxLen ∧ cur.toList.take s.size = bytesV s
  | .roc cs o => X.w.heap[X.φ i]? = some o ∧ ∃ c t, X.w.heap[X.φ i]? = some (.cells c t (0, 0)) ∧ PW (VRc X) cs c.toList
  | .rom kt vt ka va l o => X.w.heap[X.φ i]? = some o ∧ kt.flat = true ∧ ∃ es clock, X.w.heap[X.φ i]? = some (.map es clock) ∧ MapOk es clock l.length ∧ MRel X kt vt ka va l es
  | .obj o => X.w.heap[X.φ i]? = some o
  | .iter j n f => (∃ b, X.H j = some b ∧ b.pt = true) ∧ (f = true → X.w.heap[X.φ i]? = some (.mapIter (some (X.φ j)) n #[] n))
  | .mp kt vt ka va l => kt.flat = true ∧ ∃ es clock, X.w.heap[X.φ i]? = some (.map es clock) ∧ MapOk es clock l.length ∧ MRel X kt vt ka va l es

structure HRel (X : Ctx) : Prop where
  inj : ∀ i j b c, X.H i = some b → X.H j = some c → b.loc = true → c.loc = true → i ≠ j → X.φ i ≠ X.φ j
  injt : ∀ i j, X.tl i → X.tl j → i ≠ j → X.φ i ≠ X.φ j
  injm : ∀ i b j, X.H i = some b → b.loc = true → X.tl j → X.φ i ≠ X.φ j
  place : ∀ i b, X.H i = some b → b.wr = true → X.w0.heap.size ≤ X.φ i ∨ X.lent (X.φ i)
  placet : ∀ i, X.tl i → X.w0.heap.size ≤ X.φ i ∨ X.lent (X.φ i)
  lt : ∀ i b, X.H i = some b → b.pt = true → X.φ i < X.w.heap.size
  ltt : ∀ i, X.tl i → X.φ i < X.w.heap.size
  tlH : ∀ i, X.tl i → X.H i ≠ none
  frlt : ∀ b e, X.fr b = some e → b < X.w.heap.size
  blk : ∀ i b, X.H i = some b → BRel X i b
  below : ∀ k, k < X.w0.heap.size → ¬ X.lent k → X.w.heap[k]? = X.w0.heap[k]?
  os : X.w.os = X.w0.os
  tape : X.w.tape = X.w0.tape
  output : X.w.output = X.w0.output
  size : X.w0.heap.size ≤ X.w.heap.size
  old : ∀ a y, X.old a y → X.IC a y

theorem HRel.ltl {X : Ctx} (hX : HRel X) (i : Nat) (b : AB) (h : X.H i = some b) (hb : b.loc = true) : X.φ i < X.w.heap.size := hX.lt i b h (AB.pt_of hb)
theorem BRel.mono {X X' : Ctx} (h : X.le X') {i : Nat} {b : AB} (hφ : X'.φ i = X.φ i) (hca : X'.ca i = X.ca i) (hw : X'.w.heap[X.φ i]? = X.w.heap[X.φ i]?) (hb : BRel X i b) : BRel X' i b := by
  cases b with
  | tok _ _ => trivial
  | dead => trivial
  | bld t c =>
    obtain ⟨p, v, h1, h2, h3⟩ := hb
    exact ⟨p, v, by rw [hφ, hw]; exact h1, by rw [hφ]; exact h2, BufV.mono h c v h3⟩
  | buf e s =>
    obtain ⟨cur, h1, h2⟩ := hb
    exact ⟨cur, by rw [hφ, hw]; exact h1, by rw [hca]; exact h2⟩
  | cells cs =>
    obtain ⟨c, t, h1, h2⟩ := hb
    exact ⟨c, t, by rw [hφ, hw]; exact h1, h2.imp fun x y => VRc.mono h x y⟩
  | roc cs o =>
    obtain ⟨h0, c, t, h1, h2⟩ := hb
    exact ⟨by rw [hφ, hw]; exact h0, c, t, by rw [hφ, hw]; exact h1, h2.imp fun x y => VRc.mono h x y⟩
  | rom kt vt ka va l o =>
    obtain ⟨h0, hf, es, clock, h1, h2, h3⟩ := hb
    refine ⟨by rw [hφ, hw]; exact h0, hf, es, clock, by rw [hφ, hw]; exact h1, h2, h3.1, h3.2.imp fun l' hl' => ⟨hl'.1, fun j p e hp he => ?_⟩⟩
    obtain ⟨g1, us, g2, g3, g4⟩ := hl'.2 j p e hp he
    exact ⟨g1, us, g2, g3, RelT.mono vt p.2 (fun _ _ hk => hk) h.ic g4⟩
  | arr row l =>
    obtain ⟨c, t, h1, h2, h3⟩ := hb
    exact ⟨c, t, by rw [hφ, hw]; exact h1, by rw [hca]; exact h2, fun j x hj => RelT.mono row x (fun _ _ hk => hk) h.ic (h3 j x hj)⟩
  | obj o =>
    show X'.w.heap[X'.φ i]? = some o
    rw [hφ, hw]; exact hb
  | iter j n f =>
    obtain ⟨⟨b, h1, h2⟩, h3⟩ := hb
    obtain ⟨g1, g2⟩ := h.loc j b h1 h2
    exact ⟨g1, fun hf => by rw [hφ, hw, g2]; exact h3 hf⟩
  | mp kt vt ka va l =>
    obtain ⟨hf, es, clock, h1, h2, h3⟩ := hb
    refine ⟨hf, es, clock, by rw [hφ, hw]; exact h1, h2, h3.1, h3.2.imp fun l' hl' => ⟨hl'.1, fun j p e hp he => ?_⟩⟩
    obtain ⟨g1, us, g2, g3, g4⟩ := hl'.2 j p e hp he
    exact ⟨g1, us, g2, g3, RelT.mono vt p.2 (fun _ _ hk => hk) h.ic g4⟩

/-- The same known memory in a world whose old blocks are as they were. -/
def Ctx.withW (X : Ctx) (w' : World) : Ctx := { X with w := w' }

theorem Ctx.IC_lt {X : Ctx} {a : Addr} {y : Value} (h : X.IC a y) : a.block < X.w.heap.size := holds_lt h.2.2.1

theorem frozen_of_block {w w' : World} {a : Addr} (h : w'.heap[a.block]? = w.heap[a.block]?) : w'.frozen? a = w.frozen? a := by simp only [World.frozen?, h]

theorem frozen_off {w : World} {g j : Nat} {cs : Array Value} {t : TypeId} {m : Nat × Nat} (hg : w.heap[g]? = some (.cells cs t m)) (hm : m = (0, 0) ∨ m = (cs.size, cs.size + 1)) (hj : j < cs.size) : w.frozen? ⟨g, j, none⟩ = false := by
  rcases hm with rfl | rfl
  · simp [World.frozen?, hg]
  · simp only [World.frozen?, hg]
    simp [Nat.not_le.2 hj]
theorem frozen_same {w w' : World} {g j : Nat} {c c' : Array Value} {t t' : TypeId} {m : Nat × Nat} (h : w.heap[g]? = some (.cells c t m)) (h' : w'.heap[g]? = some (.cells c' t' m)) : w'.frozen? ⟨g, j, none⟩ = w.frozen? ⟨g, j, none⟩ := by
  simp only [World.frozen?, h, h']

theorem withW_le {X : Ctx} (hX : HRel X) {w' : World} (hb : Below X.w.heap.size X.w w') (hd : X.w.drawn * 0 ≤ w'.drawn * 0) : X.le (X.withW w') where
  ic a y h := by
    obtain ⟨h1, h2, h3, h4, h5⟩ := h
    have hl := holds_lt h3
    exact ⟨h1, h2, holds_of_block (hb.block _ hl) h3, h4, h5.1, (frozen_of_block (hb.block _ hl)).trans h5.2⟩
  loc i b h hm := ⟨⟨b, h, hm⟩, rfl⟩
  arr i row l h := .inl ⟨l, h, rfl⟩
  dead _ h := h
  ca _ _ _ _ := rfl
  tok i t v h := ⟨v, h, Nat.le_refl _, fun _ => ⟨rfl, fun e p q ⟨t1, t2, c, mk, t3, t4⟩ => ⟨t1, t2, c, mk, (hb.block _ (hX.ltt i t1)).trans t3, t4⟩⟩⟩
  w0 := rfl
  lent := rfl
  oldeq := rfl
  drawn := hd

theorem HRel.withW {X : Ctx} (hX : HRel X) {w' : World} (hb : Below X.w.heap.size X.w w') (hd : X.w.drawn * 0 ≤ w'.drawn * 0) : HRel (X.withW w') where
  inj := hX.inj
  injt := hX.injt
  injm := hX.injm
  place := hX.place
  placet := hX.placet
  lt i b h hm := Nat.lt_of_lt_of_le (hX.lt i b h hm) hb.size
  ltt i h := Nat.lt_of_lt_of_le (hX.ltt i h) hb.size
  tlH := hX.tlH
  frlt b e h := Nat.lt_of_lt_of_le (hX.frlt b e h) hb.size
  blk i b h := by
    cases hm : b.loc with
    | true => exact BRel.mono (withW_le hX hb hd) rfl rfl (hb.block _ (hX.lt i b h (AB.pt_of hm))) (hX.blk i b h)
    | false => cases b <;> first | trivial | cases hm
  below k hk hl := (hb.block k (Nat.lt_of_lt_of_le hk hX.size)).trans (hX.below k hk hl)
  os := hb.os.trans hX.os
  tape := hb.tape.trans hX.tape
  output := hb.output.trans hX.output
  size := Nat.le_trans hX.size hb.size
  old a y h := (withW_le hX hb hd).ic a y (hX.old a y h)

/-- A function at one more place. -/
def upd {α : Type} (f : Nat → α) (i : Nat) (x : α) : Nat → α := fun j => if j = i then x else f j
theorem upd_same {α : Type} (f : Nat → α) (i : Nat) (x : α) : upd f i x i = x := by simp [upd]
theorem upd_other {α : Type} (f : Nat → α) {i j : Nat} (x : α) (h : j ≠ i) : upd f i x j = f j := by simp [upd, h]

/-- How many cells an object has. -/
def _root_.Go.Obj.cellsSize : Obj → Nat
  | .cells c _ _ => c.size
  | _ => 0
/-- A new block of cells. -/
def Ctx.push (X : Ctx) (i : Nat) (b : AB) (o : Obj) : Ctx :=
  { X with φ := upd X.φ i X.w.heap.size, ca := upd X.ca i o.cellsSize, H := upd X.H i (some b), w := X.w.alloc o }

theorem push_le {X : Ctx} (hX : HRel X) {i : Nat} (hi : X.H i = none) (b : AB) (hbl : b.loc = true) (o : Obj) : X.le (X.push i b o) where
  ic a y h := by
    obtain ⟨h1, h2, h3, h4, h5⟩ := h
    have hl := holds_lt h3
    refine ⟨h1, h2, ?_, ?_, h5.1, (frozen_of_block (Below.heap_alloc _ _ _ hl)).trans h5.2⟩
    · exact holds_of_block (Below.heap_alloc _ _ _ hl) h3
    · intro j c hj hc
      by_cases e : j = i
      · subst e; simp only [Ctx.push, upd_same]; omega
      · simp only [Ctx.push, upd_other _ _ e] at hj ⊢; exact h4 j c hj hc
  loc j c hj hm := by
    have e : j ≠ i := fun e => by subst e; rw [hi] at hj; cases hj
    exact ⟨⟨c, by simp only [Ctx.push, upd_other _ _ e]; exact hj, hm⟩, by simp only [Ctx.push, upd_other _ _ e]⟩
  arr j row l hj := by
    have e : j ≠ i := fun e => by subst e; rw [hi] at hj; cases hj
    exact .inl ⟨l, by simp only [Ctx.push, upd_other _ _ e]; exact hj, rfl⟩
  dead j hj := by
    have e : j ≠ i := fun e => by subst e; rw [hi] at hj; cases hj
    simp only [Ctx.push, upd_other _ _ e]; exact hj
  ca j c hj hm := by
    have e : j ≠ i := fun e => by subst e; rw [hi] at hj; cases hj
    simp only [Ctx.push, upd_other _ _ e]
  tok j u v hj := by
    have e : j ≠ i := fun e => by subst e; rw [hi] at hj; cases hj
    refine ⟨v, by simp only [Ctx.push, upd_other _ _ e]; exact hj, Nat.le_refl _, fun _ => ⟨by simp only [Ctx.push, upd_other _ _ e], fun t p q ⟨t1, t2, c, mk, t3, t4⟩ => ⟨t1, ?_, c, mk, ?_, t4⟩⟩⟩
    · simp only [Ctx.push, upd_other _ _ e]; exact t2
    · simp only [Ctx.push, upd_other _ _ e]; exact (Below.heap_alloc _ _ _ (hX.ltt j t1)).trans t3
  w0 := rfl
  lent := rfl
  oldeq := rfl
  drawn := Nat.le_refl _

theorem HRel.push {X : Ctx} (hX : HRel X) {i : Nat} (hi : X.H i = none) (b : AB) (hbl : b.loc = true) (o : Obj)
    (hb : BRel (X.push i b o) i b) : HRel (X.push i b o) := by
  have hle := push_le hX hi b hbl o
  have hti : ¬ X.tl i := fun h => hX.tlH i h hi
  have old_of : ∀ j c, (X.push i b o).H j = some c → j ≠ i → X.H j = some c := fun j c hj e => by simpa only [Ctx.push, upd_other _ _ e] using hj
  have φ_of : ∀ j, j ≠ i → (X.push i b o).φ j = X.φ j := fun j e => by simp only [Ctx.push, upd_other _ _ e]
  have φ_i : (X.push i b o).φ i = X.w.heap.size := by simp only [Ctx.push, upd_same]
  refine ⟨?_, ?_, ?_, ?_, ?_, ?_, ?_, ?_, ?_, ?_, ?_, hX.os, hX.tape, hX.output, ?_, ?_⟩
  · intro j k c d hj hk hc hd hne
    by_cases ej : j = i
    · have ek : k ≠ i := fun e => hne (ej.trans e.symm)
      rw [ej, φ_i, φ_of k ek]
      have := hX.lt k d (old_of k d hk ek) (AB.pt_of hd)
      omega
    · by_cases ek : k = i
      · rw [ek, φ_i, φ_of j ej]
        have := hX.lt j c (old_of j c hj ej) (AB.pt_of hc)
        omega
      · rw [φ_of j ej, φ_of k ek]
        exact hX.inj j k c d (old_of j c hj ej) (old_of k d hk ek) hc hd hne
  · intro j k hj hk hne
    have ej : j ≠ i := fun e => hti (e ▸ hj)
    have ek : k ≠ i := fun e => hti (e ▸ hk)
    rw [φ_of j ej, φ_of k ek]
    exact hX.injt j k hj hk hne
  · intro j c k hj hc hk
    have ek : k ≠ i := fun e => hti (e ▸ hk)
    rw [φ_of k ek]
    by_cases ej : j = i
    · rw [ej, φ_i]
      have := hX.ltt k hk
      omega
    · rw [φ_of j ej]
      exact hX.injm j c k (old_of j c hj ej) hc hk
  · intro j c hj hc
    by_cases ej : j = i
    · rw [ej, φ_i]; exact .inl hX.size
    · rw [φ_of j ej]; exact hX.place j c (old_of j c hj ej) hc
  · intro j hj
    have ej : j ≠ i := fun e => hti (e ▸ hj)
    rw [φ_of j ej]; exact hX.placet j hj
  · intro j c hj hc
    show _ < (X.w.alloc o).heap.size
    rw [World.size_alloc]
    by_cases ej : j = i
    · rw [ej, φ_i]; omega
    · rw [φ_of j ej]
      have := hX.lt j c (old_of j c hj ej) hc
      omega
  · intro j hj
    show _ < (X.w.alloc o).heap.size
    rw [World.size_alloc]
    have ej : j ≠ i := fun e => hti (e ▸ hj)
    rw [φ_of j ej]
    have := hX.ltt j hj
    omega
  · intro j hj
    have ej : j ≠ i := fun e => hti (e ▸ hj)
    simp only [Ctx.push, upd_other _ _ ej]; exact hX.tlH j hj
  · intro k e h
    show _ < (X.w.alloc o).heap.size
    rw [World.size_alloc]
    have := hX.frlt k e h
    omega
  · intro j c hj
    by_cases ej : j = i
    · subst ej
      have : c = b := by simpa only [Ctx.push, upd_same, Option.some.injEq] using hj.symm
      subst this; exact hb
    · have hj' := old_of j c hj ej
      cases hm : c.loc with
      | true => exact BRel.mono hle (φ_of j ej) (hle.ca j c hj' (AB.pt_of hm)) (Below.heap_alloc _ _ _ (hX.lt j c hj' (AB.pt_of hm))) (hX.blk j c hj')
      | false => cases c <;> first | trivial | cases hm
  · intro k hk hl
    exact (Below.heap_alloc _ _ _ (Nat.lt_of_lt_of_le hk hX.size)).trans (hX.below k hk hl)
  · show _ ≤ (X.w.alloc o).heap.size
    rw [World.size_alloc]
    have := hX.size
    show X.w0.heap.size ≤ _
    omega
  · intro a y h
    exact hle.ic a y (hX.old a y h)
end
section
open Go Go.RowKit

/-- The own block i holds other things now: the world differs in that block alone. -/
def Ctx.put (X : Ctx) (i : Nat) (b : AB) (w' : World) : Ctx := { X with H := upd X.H i (some b), w := w' }

/-- What must hold of a world that differs from the one known in one own block. -/
structure OneBlock (X : Ctx) (i : Nat) (w' : World) : Prop where
  os : w'.os = X.w.os
  tape : w'.tape = X.w.tape
  output : w'.output = X.w.output
  size : w'.heap.size = X.w.heap.size
  other : ∀ k, k ≠ X.φ i → w'.heap[k]? = X.w.heap[k]?
  drawn : X.w.drawn * 0 ≤ w'.drawn * 0

theorem put_le {X : Ctx} (hX : HRel X) {i : Nat} {b b' : AB} (hi : X.H i = some b) (hbl : b.wr = true) (hbl' : b'.loc = true) {w' : World} (ho : OneBlock X i w')
    (harr : ∀ row l, b = .arr row l → ∃ l' : List row.den, b' = .arr row l' ∧ l'.length = l.length) : X.le (X.put i b' w') where
  ic a y h := by
    obtain ⟨h1, h2, h3, h4, h5⟩ := h
    refine ⟨h1, h2, ?_, ?_, h5.1, (frozen_of_block (ho.other _ (fun e => h4 i b hi hbl e.symm))).trans h5.2⟩
    · have : w'.heap[a.block]? = X.w.heap[a.block]? := ho.other _ (fun e => h4 i b hi hbl e.symm)
      exact holds_of_block this h3
    · intro j c hj hc
      by_cases e : j = i
      · subst e; exact h4 j b hi hbl
      · simp only [Ctx.put, upd_other _ _ e] at hj; exact h4 j c hj hc
  loc j c hj hm := by
    by_cases e : j = i
    · subst e; exact ⟨⟨b', by simp only [Ctx.put, upd_same], AB.pt_of hbl'⟩, rfl⟩
    · exact ⟨⟨c, by simp only [Ctx.put, upd_other _ _ e]; exact hj, hm⟩, rfl⟩
  arr j row l hj := by
    by_cases e : j = i
    · subst e
      rw [hi] at hj
      obtain ⟨l', h1, h2⟩ := harr row l (by injection hj)
      exact .inl ⟨l', by simp only [Ctx.put, upd_same, h1], h2⟩
    · exact .inl ⟨l, by simp only [Ctx.put, upd_other _ _ e]; exact hj, rfl⟩
  dead j hj := by
    have e : j ≠ i := fun e => by subst e; rw [hi] at hj; cases hj; cases hbl
    simp only [Ctx.put, upd_other _ _ e]; exact hj
  ca _ _ _ _ := rfl
  tok j u v hj := by
    have e : j ≠ i := fun e => by subst e; rw [hi] at hj; cases hj; cases hbl
    refine ⟨v, by simp only [Ctx.put, upd_other _ _ e]; exact hj, Nat.le_refl _, fun _ => ⟨rfl, fun t p q ⟨t1, t2, c, mk, t3, t4⟩ => ⟨t1, t2, c, mk, ?_, t4⟩⟩⟩
    exact (ho.other _ (fun ee => hX.injm i b j hi (AB.loc_of hbl) t1 ee.symm)).trans t3
  w0 := rfl
  lent := rfl
  oldeq := rfl
  drawn := ho.drawn

theorem HRel.put {X : Ctx} (hX : HRel X) {i : Nat} {b b' : AB} (hi : X.H i = some b) (hbl : b.wr = true) (hbl' : b'.loc = true) {w' : World} (ho : OneBlock X i w')
    (harr : ∀ row l, b = .arr row l → ∃ l' : List row.den, b' = .arr row l' ∧ l'.length = l.length) (hb : BRel (X.put i b' w') i b') : HRel (X.put i b' w') := by
  have hle := put_le hX hi hbl hbl' ho harr
  have old_of : ∀ j c, (X.put i b' w').H j = some c → j ≠ i → X.H j = some c := fun j c hj e => by simpa only [Ctx.put, upd_other _ _ e] using hj
  have any : ∀ j c, (X.put i b' w').H j = some c → c.loc = true → ∃ d, X.H j = some d ∧ d.loc = true := fun j c hj hc => by
    by_cases e : j = i
    · subst e; exact ⟨b, hi, AB.loc_of hbl⟩
    · exact ⟨c, old_of j c hj e, hc⟩
  refine ⟨?_, hX.injt, ?_, ?_, hX.placet, ?_, ?_, ?_, ?_, ?_, ?_, ho.os.trans hX.os, ho.tape.trans hX.tape, ho.output.trans hX.output, ?_, ?_⟩
  · intro j k c d hj hk hc hd hne
    obtain ⟨c', h1, h2⟩ := any j c hj hc
    obtain ⟨d', h3, h4⟩ := any k d hk hd
    exact hX.inj j k c' d' h1 h3 h2 h4 hne
  · intro j c k hj hc hk
    obtain ⟨c', h1, h2⟩ := any j c hj hc
    exact hX.injm j c' k h1 h2 hk
  · intro j c hj hc
    by_cases e : j = i
    · subst e; exact hX.place j b hi hbl
    · exact hX.place j c (old_of j c hj e) hc
  · intro j c hj hc
    show _ < w'.heap.size
    rw [ho.size]
    by_cases e : j = i
    · subst e; exact hX.lt j b hi (AB.pt_of (AB.loc_of hbl))
    · exact hX.lt j c (old_of j c hj e) hc
  · intro j hj
    show _ < w'.heap.size
    rw [ho.size]; exact hX.ltt j hj
  · intro j hj
    by_cases e : j = i
    · subst e; simp [Ctx.put, upd_same]
    · simp only [Ctx.put, upd_other _ _ e]; exact hX.tlH j hj
  · intro k e h
    show _ < w'.heap.size
    rw [ho.size]; exact hX.frlt k e h
  · intro j c hj
    by_cases ej : j = i
    · subst ej
      have : c = b' := by simpa only [Ctx.put, upd_same, Option.some.injEq] using hj.symm
      subst this; exact hb
    · have hj' := old_of j c hj ej
      cases hm : c.loc with
      | true => exact BRel.mono hle rfl rfl (ho.other _ (hX.inj j i c b hj' hi hm (AB.loc_of hbl) ej)) (hX.blk j c hj')
      | false => cases c <;> first | trivial | cases hm
  · intro k hk hl
    refine (ho.other k ?_).trans (hX.below k hk hl)
    intro e
    rcases hX.place i b hi hbl with h | h
    · have hk' : k < X.w0.heap.size := hk
      omega
    · exact hl (by rw [e]; exact h)
  · show X.w0.heap.size ≤ w'.heap.size
    rw [ho.size]; exact hX.size
  · intro a y h
    exact hle.ic a y (hX.old a y h)

theorem OneBlock.setCell (X : Ctx) (i off : Nat) (v : Value) : OneBlock X i (X.w.setCell ⟨X.φ i, off, none⟩ v) :=
  ⟨rfl, rfl, rfl, by simp, fun k hk => Below.heap_setCell _ _ _ _ hk, Nat.le_refl _⟩

/-- Several cells of one row, written one by one. -/
def setCells (w : World) (g off : Nat) : List Value → World
  | [] => w
  | v :: vs => setCells (w.setCell ⟨g, off, none⟩ v) g (off + 1) vs

theorem setCells_drawn (g : Nat) : ∀ (vs : List Value) (w : World) (off : Nat), (setCells w g off vs).drawn = w.drawn
  | [], _, _ => rfl
  | v :: vs, w, off => (setCells_drawn g vs _ _).trans rfl

theorem setCells_heap (g : Nat) (t : TypeId) : ∀ (vs : List Value) (w : World) (off : Nat) (c : Array Value), w.heap[g]? = some (.cells c t (0, 0)) → off + vs.length ≤ c.size →
    ∃ c' : Array Value, (setCells w g off vs).heap[g]? = some (.cells c' t (0, 0)) ∧ c'.size = c.size ∧
      (∀ j : Nat, c'[j]? = if off ≤ j ∧ j < off + vs.length then vs[j - off]? else c[j]?) ∧
      (setCells w g off vs).os = w.os ∧ (setCells w g off vs).tape = w.tape ∧ (setCells w g off vs).output = w.output ∧ (setCells w g off vs).heap.size = w.heap.size ∧
      ∀ k, k ≠ g → (setCells w g off vs).heap[k]? = w.heap[k]?
  | [], w, off, c, h, _ => ⟨c, h, rfl, fun j => by rw [if_neg (by simp only [List.length_nil]; omega)], rfl, rfl, rfl, rfl, fun _ _ => rfl⟩
  | v :: vs, w, off, c, h, hlen => by
    simp only [List.length_cons] at hlen
    have h1 : (w.setCell ⟨g, off, none⟩ v).heap[g]? = some (.cells (c.setIfInBounds off v) t (0, 0)) := by
      simp [World.setCell, Array.getElem?_modify, h]
    obtain ⟨c', g1, g2, g3, g4, g5, g6, g7, g8⟩ := setCells_heap g t vs (w.setCell ⟨g, off, none⟩ v) (off + 1) (c.setIfInBounds off v) h1 (by simp; omega)
    refine ⟨c', g1, by simpa using g2, fun j => ?_, g4, g5, g6, by simpa [setCells] using g7, fun k hk => (g8 k hk).trans (Below.heap_setCell _ _ _ _ hk)⟩
    rw [g3 j]
    by_cases e : j = off
    · subst e
      rw [if_neg (by omega), if_pos ⟨Nat.le_refl _, by simp⟩]
      simp [show j < c.size by omega]
    · by_cases hj : off + 1 ≤ j ∧ j < off + 1 + vs.length
      · rw [if_pos hj, if_pos (by simp; omega)]
        rw [show j - off = (j - (off + 1)) + 1 from by omega]
        simp
      · rw [if_neg hj, if_neg (by simp; omega)]
        simp [show ¬ off = j by omega]

theorem run_storeCells_at (P : Program) (g : Nat) (t : TypeId) : ∀ (vs : List Value) (w : World) (off i : Nat) (c : Array Value), w.heap[g]? = some (.cells c t (0, 0)) → off + i + vs.length ≤ c.size →
    (∀ v ∈ vs, v.oneCell' = true) → (storeCells ⟨g, off, none⟩ vs i).run P w = .ok () (setCells w g (off + i) vs)
  | [], w, off, i, c, _, _, _ => rfl
  | v :: vs, w, off, i, c, h, hlen, h1 => by
    simp only [List.length_cons] at hlen
    have hlt : off + i < c.size := by omega
    have hc : w.cell? ⟨g, off + i, none⟩ = some c[off + i] := by rw [cell_of_row w g (off + i) c t (0, 0) h]; simp [hlt]
    have hf : w.frozen? ⟨g, off + i, none⟩ = false := frozen_of_row w g (off + i) c t h
    have h2 : (w.setCell ⟨g, off + i, none⟩ v).heap[g]? = some (.cells (c.setIfInBounds (off + i) v) t (0, 0)) := by
      simp [World.setCell, Array.getElem?_modify, h]
    have ih := run_storeCells_at P g t vs (w.setCell ⟨g, off + i, none⟩ v) off (i + 1) (c.setIfInBounds (off + i) v) h2 (by simp; omega) (fun u hu => h1 u (List.mem_cons_of_mem _ hu))
    have hs := run_store P w ⟨g, off + i, none⟩ v .plain (h1 v (List.mem_cons_self ..))
    simp only [storeCells, Addr.add_lit, Sem.run_bind, hs, hc, hf]
    show (storeCells ⟨g, off, none⟩ vs (i + 1)).run P (w.setCell ⟨g, off + i, none⟩ v) = _
    rw [ih]
    rfl
theorem setCells_heap_m (m : Nat × Nat) (g : Nat) (t : TypeId) : ∀ (vs : List Value) (w : World) (off : Nat) (c : Array Value), w.heap[g]? = some (.cells c t m) → off + vs.length ≤ c.size →
    ∃ c' : Array Value, (setCells w g off vs).heap[g]? = some (.cells c' t m) ∧ c'.size = c.size ∧
      (∀ j : Nat, c'[j]? = if off ≤ j ∧ j < off + vs.length then vs[j - off]? else c[j]?) ∧
      (setCells w g off vs).os = w.os ∧ (setCells w g off vs).tape = w.tape ∧ (setCells w g off vs).output = w.output ∧ (setCells w g off vs).heap.size = w.heap.size ∧
      ∀ k, k ≠ g → (setCells w g off vs).heap[k]? = w.heap[k]?
  | [], w, off, c, h, _ => ⟨c, h, rfl, fun j => by rw [if_neg (by simp only [List.length_nil]; omega)], rfl, rfl, rfl, rfl, fun _ _ => rfl⟩
  | v :: vs, w, off, c, h, hlen => by
    simp only [List.length_cons] at hlen
    have h1 : (w.setCell ⟨g, off, none⟩ v).heap[g]? = some (.cells (c.setIfInBounds off v) t m) := by
      simp [World.setCell, Array.getElem?_modify, h]
    obtain ⟨c', g1, g2, g3, g4, g5, g6, g7, g8⟩ := setCells_heap_m m g t vs (w.setCell ⟨g, off, none⟩ v) (off + 1) (c.setIfInBounds off v) h1 (by simp; omega)
    refine ⟨c', g1, by simpa using g2, fun j => ?_, g4, g5, g6, by simpa [setCells] using g7, fun k hk => (g8 k hk).trans (Below.heap_setCell _ _ _ _ hk)⟩
    rw [g3 j]
    by_cases e : j = off
    · subst e
      rw [if_neg (by omega), if_pos ⟨Nat.le_refl _, by simp⟩]
      simp [show j < c.size by omega]
    · by_cases hj : off + 1 ≤ j ∧ j < off + 1 + vs.length
      · rw [if_pos hj, if_pos (by simp; omega)]
        rw [show j - off = (j - (off + 1)) + 1 from by omega]
        simp
      · rw [if_neg hj, if_neg (by simp; omega)]
        simp [show ¬ off = j by omega]

theorem run_storeCells_m (P : Program) (m : Nat × Nat) (g : Nat) (t : TypeId) : ∀ (vs : List Value) (w : World) (off i : Nat) (c : Array Value), (∀ o, o < c.size → ¬ (m.1 ≤ o ∧ o < m.2)) → w.heap[g]? = some (.cells c t m) → off + i + vs.length ≤ c.size →
    (∀ v ∈ vs, v.oneCell' = true) → (storeCells ⟨g, off, none⟩ vs i).run P w = .ok () (setCells w g (off + i) vs)
  | [], w, off, i, c, _, _, _, _ => rfl
  | v :: vs, w, off, i, c, hm, h, hlen, h1 => by
    simp only [List.length_cons] at hlen
    have hlt : off + i < c.size := by omega
    have hc : w.cell? ⟨g, off + i, none⟩ = some c[off + i] := by rw [cell_of_row w g (off + i) c t m h]; simp [hlt]
    have hf : w.frozen? ⟨g, off + i, none⟩ = false := by
      have := hm (off + i) hlt
      simp only [World.frozen?, h]
      cases m with
      | mk lo hi =>
        simp only at this ⊢
        rw [Bool.and_eq_false_iff]
        simp only [decide_eq_false_iff_not]
        by_cases hl : lo ≤ off + i
        · exact .inr fun hh => this ⟨hl, hh⟩
        · exact .inl hl
    have h2 : (w.setCell ⟨g, off + i, none⟩ v).heap[g]? = some (.cells (c.setIfInBounds (off + i) v) t m) := by
      simp [World.setCell, Array.getElem?_modify, h]
    have ih := run_storeCells_m P m g t vs (w.setCell ⟨g, off + i, none⟩ v) off (i + 1) (c.setIfInBounds (off + i) v) (by simpa using hm) h2 (by simp; omega) (fun u hu => h1 u (List.mem_cons_of_mem _ hu))
    have hs := run_store P w ⟨g, off + i, none⟩ v .plain (h1 v (List.mem_cons_self ..))
    simp only [storeCells, Addr.add_lit, Sem.run_bind, hs, hc, hf]
    show (storeCells ⟨g, off, none⟩ vs (i + 1)).run P (w.setCell ⟨g, off + i, none⟩ v) = _
    rw [ih]
    rfl
end
section
open Go Go.RowKit

/-- What a computation gives that looks at no memory. -/
def pr {α : Type} (P : Program) : Sem α → Option α
  | .pure a => some a
  | .program k => pr P (k P)
  | .mark _ k => pr P k
  | _ => none

theorem pr_run {α : Type} (P : Program) : ∀ (s : Sem α) (a : α) (w : World), pr P s = some a → s.run P w = .ok a w
  | .pure a, b, w, h => by simp only [pr, Option.some.injEq] at h; subst h; rfl
  | .program k, b, w, h => pr_run P (k P) b w h
  | .mark _ k, b, w, h => pr_run P k b w h
  | .load .., _, _, h => by cases h
  | .store .., _, _, h => by cases h
  | .new .., _, _, h => by cases h
  | .shape .., _, _, h => by cases h
  | .freeze .., _, _, h => by cases h
  | .frozen .., _, _, h => by cases h
  | .getObj .., _, _, h => by cases h
  | .setObj .., _, _, h => by cases h
  | .choose .., _, _, h => by cases h
  | .sys .., _, _, h => by cases h
  | .halt .., _, _, h => by cases h

/-- A plain value, as known. -/
def cv : Value → Option AC
  | .int k n => some (.int k n)
  | .bool b => some (.bool b)
  | .string s => some (.str s)
  | .slice none 0 0 => some .nils
  | .pointer none => some .nilp
  | .nilFunc => some .nilf
  | .map none => some .nilm
  | _ => none

def cvs : List Value → Option (List AC)
  | [] => some []
  | v :: vs => match cv v, cvs vs with
    | some c, some cs => some (c :: cs)
    | _, _ => none

def cvp : Value → Option (Bool × List AC)
  | .agg cs => (cvs cs.toList).map fun l => (true, l)
  | v => (cv v).map fun c => (false, [c])

def cvps : List Value → Option (List (Bool × List AC))
  | [] => some []
  | v :: vs => match cvp v, cvps vs with
    | some c, some cs => some (c :: cs)
    | _, _ => none

def cvv : Value → Option AV
  | .agg cs => (cvs cs.toList).map .agg
  | .tuple vs => (cvps vs.toList).map .tup
  | v => (cv v).map .one

theorem cv_rel (X : Ctx) {v : Value} {c : AC} (h : cv v = some c) : VRc X c v := by
  unfold cv at h
  split at h <;> first | (injection h with h; subst h; rfl) | cases h

theorem cvs_rel (X : Ctx) : ∀ {vs : List Value} {cs : List AC}, cvs vs = some cs → PW (VRc X) cs vs
  | [], cs, h => by simp only [cvs, Option.some.injEq] at h; subst h; exact PW.nil
  | v :: vs, cs, h => by
    simp only [cvs] at h
    split at h
    · rename_i c ds h1 h2
      injection h with h; subst h
      exact PW.cons (cv_rel X h1) (cvs_rel X h2)
    · cases h

theorem cvp_rel (X : Ctx) {v : Value} {p : Bool × List AC} (h : cvp v = some p) : VRp X p v := by
  unfold cvp at h
  split at h
  · rename_i cs
    cases hc : cvs cs.toList with
    | none => rw [hc] at h; cases h
    | some l => rw [hc] at h; simp only [Option.map_some, Option.some.injEq] at h; subst h; exact ⟨cs, rfl, cvs_rel X hc⟩
  · cases hc : cv v with
    | none => rw [hc] at h; cases h
    | some c => rw [hc] at h; simp only [Option.map_some, Option.some.injEq] at h; subst h; exact ⟨c, rfl, cv_rel X hc⟩

theorem cvps_rel (X : Ctx) : ∀ {vs : List Value} {cs : List (Bool × List AC)}, cvps vs = some cs → PW (VRp X) cs vs
  | [], cs, h => by simp only [cvps, Option.some.injEq] at h; subst h; exact PW.nil
  | v :: vs, cs, h => by
    simp only [cvps] at h
    split at h
    · rename_i c ds h1 h2
      injection h with h; subst h
      exact PW.cons (cvp_rel X h1) (cvps_rel X h2)
    · cases h

theorem cvv_rel (X : Ctx) {v : Value} {c : AV} (h : cvv v = some c) : VR X c v := by
  unfold cvv at h
  split at h
  · rename_i cs
    cases hc : cvs cs.toList with
    | none => rw [hc] at h; cases h
    | some l => rw [hc] at h; simp only [Option.map_some, Option.some.injEq] at h; subst h; exact ⟨cs, rfl, cvs_rel X hc⟩
  · rename_i vs
    cases hc : cvps vs.toList with
    | none => rw [hc] at h; cases h
    | some l => rw [hc] at h; simp only [Option.map_some, Option.some.injEq] at h; subst h; exact ⟨vs, rfl, cvps_rel X hc⟩
  · cases hc : cv v with
    | none => rw [hc] at h; cases h
    | some c => rw [hc] at h; simp only [Option.map_some, Option.some.injEq] at h; subst h; exact cv_rel X hc

/-- The plain value that is known. -/
def toV : AC → Option Value
  | .int k n => some (.int k n)
  | .bool b => some (.bool b)
  | .str s => some (.string s)
  | .nils => some (.slice none 0 0)
  | .nilp => some (.pointer none)
  | .nilf => some .nilFunc
  | .nilm => some (.map none)
  | _ => none

def toVs : List AC → Option (List Value)
  | [] => some []
  | v :: vs => match toV v, toVs vs with
    | some c, some cs => some (c :: cs)
    | _, _ => none

def toVV : AV → Option Value
  | .one c => toV c
  | .agg cs => (toVs cs).map fun l => .agg l.toArray
  | .tup _ => none
  | .val _ => none
  | .gd _ _ _ => none
  | .alt _ => none
  | .clo _ _ => none

theorem toV_rel {X : Ctx} {c : AC} {u v : Value} (h : toV c = some u) (hr : VRc X c v) : v = u := by
  cases c <;> simp only [toV] at h <;> first | (injection h with h; subst h; exact hr) | cases h

theorem toVs_rel {X : Ctx} : ∀ {cs : List AC} {us vs : List Value}, toVs cs = some us → PW (VRc X) cs vs → vs = us
  | [], us, vs, h, hr => by
    simp only [toVs, Option.some.injEq] at h; subst h
    exact List.eq_nil_of_length_eq_zero hr.1.symm
  | c :: cs, us, vs, h, hr => by
    simp only [toVs] at h
    split at h
    · rename_i u us' h1 h2
      injection h with h; subst h
      cases vs with
      | nil => exact absurd hr.1 (by simp)
      | cons y ys =>
        have e1 := toV_rel h1 (hr.2 0 c y rfl rfl)
        have e2 := toVs_rel h2 ⟨by simpa using hr.1, fun j d z hd hz => hr.2 (j + 1) d z (by simpa using hd) (by simpa using hz)⟩
        rw [e1, e2]
    · cases h

theorem toVV_rel {X : Ctx} {c : AV} {u v : Value} (h : toVV c = some u) (hr : VR X c v) : v = u := by
  cases c with
  | one c => exact toV_rel h hr
  | agg cs =>
    obtain ⟨ar, e, hp⟩ := hr
    simp only [toVV] at h
    cases hc : toVs cs with
    | none => rw [hc] at h; cases h
    | some l =>
      rw [hc] at h
      simp only [Option.map_some, Option.some.injEq] at h
      have := toVs_rel hc hp
      rw [e, ← h, ← this]
  | tup vs => cases h
  | val _ => cases h
  | gd _ _ => cases h
  | alt _ => cases h
  | clo _ _ => cases h

/-- The cells of a row's value. -/
def CT.cells : (t : CT) → t.den → List AC
  | .int k, n => [.int k n]
  | .bool, b => [.bool b]
  | .str, s => [.str s]
  | .sl row, l => [.sl row l .shared]
  | .mdl kt vt ka va, l => [.mdl kt vt ka va l]
  | .unit, _ => []
  | .pair c cs, v => c.cells v.1 ++ cs.cells v.2

theorem CT.cells_length : ∀ (t : CT) (v : t.den), (t.cells v).length = t.width
  | .int k, n => rfl
  | .bool, b => rfl
  | .str, s => rfl
  | .sl row, l => rfl
  | .mdl _ _ _ _, l => rfl
  | .unit, _ => rfl
  | .pair c cs, v => by rw [CT.cells, List.length_append, CT.cells_length c, CT.cells_length cs]; rfl

theorem RelT.cell {X : Ctx} : ∀ (t : CT) (v : t.den) (C : Nat → Value → Prop), RelT t v C X.IC → ∀ (k : Nat) c, (t.cells v)[k]? = some c → ∃ y, C k y ∧ VRc X c y
  | .int kk, n, C, h, k, c, hc => by
    cases k with
    | zero => simp [CT.cells] at hc; subst hc; exact ⟨_, h, rfl⟩
    | succ k => simp [CT.cells] at hc
  | .bool, n, C, h, k, c, hc => by
    cases k with
    | zero => simp [CT.cells] at hc; subst hc; exact ⟨_, h, rfl⟩
    | succ k => simp [CT.cells] at hc
  | .str, n, C, h, k, c, hc => by
    cases k with
    | zero => simp [CT.cells] at hc; subst hc; exact ⟨_, h, rfl⟩
    | succ k => simp [CT.cells] at hc
  | .sl row, l, C, ⟨A, n, cap, h1, h2, h3, h4, h5⟩, k, c, hc => by
    cases k with
    | zero => simp [CT.cells] at hc; subst hc; exact ⟨_, h1, A, n, cap, rfl, h2, h3, h4, h5, trivial⟩
    | succ k => simp [CT.cells] at hc
  | .mdl kt vt ka va, l, C, ⟨b, m, y, h1, h2⟩, k, c, hc => by
    cases k with
    | zero => simp [CT.cells] at hc; subst hc; exact ⟨_, h1, b, m, y, rfl, h2⟩
    | succ k => simp [CT.cells] at hc
  | .unit, _, C, h, k, c, hc => by simp [CT.cells] at hc
  | .pair a b, v, C, h, k, c, hc => by
    rw [CT.cells] at hc
    by_cases e : k < a.width
    · rw [List.getElem?_append_left (by rw [CT.cells_length]; exact e)] at hc
      exact RelT.cell a v.1 C h.1 k c hc
    · rw [List.getElem?_append_right (by rw [CT.cells_length]; omega), CT.cells_length] at hc
      obtain ⟨y, h1, h2⟩ := RelT.cell b v.2 _ h.2 _ c hc
      refine ⟨y, ?_, h2⟩
      have : a.width + (k - a.width) = k := by omega
      rwa [this] at h1

def CT.eqb : CT → CT → Bool
  | .int .i8, .int .i8 | .int .i16, .int .i16 | .int .i32, .int .i32 | .int .i64, .int .i64 => true
  | .int .u8, .int .u8 | .int .u16, .int .u16 | .int .u32, .int .u32 | .int .u64, .int .u64 => true
  | .bool, .bool => true
  | .str, .str => true
  | .sl a, .sl b => a.eqb b
  | .unit, .unit => true
  | .pair a b, .pair c d => a.eqb c && b.eqb d
  | .mdl a b p q, .mdl c d r s => a.eqb c && (b.eqb d && ((bif p then r else !r) && (bif q then s else !s)))
  | _, _ => false

theorem CT.eq_of_eqb : ∀ (a b : CT), a.eqb b = true → a = b := by
  intro a
  induction a with
  | int k => intro b h; cases b <;> first | (rename_i k'; cases k <;> cases k' <;> first | rfl | cases h) | (cases k <;> cases h)
  | bool => intro b h; cases b <;> first | rfl | cases h
  | str => intro b h; cases b <;> first | rfl | cases h
  | unit => intro b h; cases b <;> first | rfl | cases h
  | sl r ih => intro b h; cases b <;> first | (simp only [CT.eqb] at h; rw [ih _ h]) | cases h
  | pair r s ih ih2 =>
    intro b h
    cases b <;> first
      | (simp only [CT.eqb, Bool.and_eq_true] at h; rw [ih _ h.1, ih2 _ h.2])
      | cases h
  | mdl r s p q ih ih2 =>
    intro b h
    cases b with
    | mdl c d r' s' =>
      simp only [CT.eqb, Bool.and_eq_true] at h
      have e1 : p = r' := by have := h.2.2.1; cases p <;> cases r' <;> first | rfl | cases this
      have e2 : q = s' := by have := h.2.2.2; cases q <;> cases s' <;> first | rfl | cases this
      rw [ih _ h.1, ih2 _ h.2.1, e1, e2]
    | _ => cases h

/-- A list of one row's type, at another name of that type. -/
def castL (a b : CT) (h : a.eqb b = true) (l : List a.den) : List b.den := CT.eq_of_eqb a b h ▸ l

/-- A value of one row's type, at another name of that type. -/
def castD (a b : CT) (h : a.eqb b = true) (v : a.den) : b.den := CT.eq_of_eqb a b h ▸ v

/-- Cells, as a row's value, and what is left. -/
def CT.un : (t : CT) → List AC → Option (t.den × List AC)
  | .int k, .int k' n :: r => if (CT.int k).eqb (.int k') then some (n, r) else none
  | .bool, .bool b :: r => some (b, r)
  | .str, .str s :: r => some (s, r)
  | .sl row, .nils :: r => some (([] : List row.den), r)
  | .sl row, .sl row' l _ :: r => if h : row'.eqb row = true then some (castL row' row h l, r) else none
  | .mdl kt vt ka va, .mdl kt' vt' ka' va' l :: r => if h : (CT.mdl kt' vt' ka' va').eqb (.mdl kt vt ka va) = true then some (castD (.mdl kt' vt' ka' va') (.mdl kt vt ka va) h l, r) else none
  | .unit, r => some ((), r)
  | .pair c cs, r => match c.un r with
    | some (x, r') => match cs.un r' with
      | some (y, r'') => some ((x, y), r'')
      | none => none
    | none => none
  | _, _ => none

theorem CT.un_rel {X : Ctx} : ∀ (t : CT) (cs : List AC) (v : t.den) (r : List AC) (vs : List Value), t.un cs = some (v, r) → PW (VRc X) cs vs →
    cs.length = t.width + r.length ∧ PW (VRc X) r (vs.drop t.width) ∧ RelT t v (fun k y => vs[k]? = some y) X.IC
  | .int k, cs, v, r, vs, h, hp => by
    match cs, h with
    | .int k' n :: r', h =>
      simp only [CT.un] at h
      split at h
      · rename_i e
        have e' := CT.eq_of_eqb _ _ e
        injection e' with e'
        subst e'
        simp only [Option.some.injEq, Prod.mk.injEq] at h
        obtain ⟨rfl, rfl⟩ := h
        obtain ⟨y, hy, hr⟩ := hp.at_ (j := 0) rfl
        exact ⟨by simp [CT.width]; omega, hp.drop 1, by show vs[0]? = some _; rw [hy]; exact congrArg some hr⟩
      · cases h
  | .bool, cs, v, r, vs, h, hp => by
    match cs, h with
    | .bool b :: r', h =>
      simp only [CT.un, Option.some.injEq, Prod.mk.injEq] at h
      obtain ⟨rfl, rfl⟩ := h
      obtain ⟨y, hy, hr⟩ := hp.at_ (j := 0) rfl
      exact ⟨by simp [CT.width]; omega, hp.drop 1, by show vs[0]? = some _; rw [hy]; exact congrArg some hr⟩
  | .str, cs, v, r, vs, h, hp => by
    match cs, h with
    | .str b :: r', h =>
      simp only [CT.un, Option.some.injEq, Prod.mk.injEq] at h
      obtain ⟨rfl, rfl⟩ := h
      obtain ⟨y, hy, hr⟩ := hp.at_ (j := 0) rfl
      exact ⟨by simp [CT.width]; omega, hp.drop 1, by show vs[0]? = some _; rw [hy]; exact congrArg some hr⟩
  | .sl row, cs, v, r, vs, h, hp => by
    match cs, h with
    | .nils :: r', h =>
      simp only [CT.un, Option.some.injEq, Prod.mk.injEq] at h
      obtain ⟨rfl, rfl⟩ := h
      obtain ⟨y, hy, hr⟩ := hp.at_ (j := 0) rfl
      exact ⟨by simp [CT.width]; omega, hp.drop 1, none, 0, 0, by show vs[0]? = some _; rw [hy]; exact congrArg some hr, rfl, Nat.le_refl _, by simp [maxLen], .inl rfl⟩
    | .sl row' l m :: r', h =>
      simp only [CT.un] at h
      split at h
      · rename_i e
        have e' := CT.eq_of_eqb _ _ e
        subst e'
        simp only [Option.some.injEq, Prod.mk.injEq] at h
        obtain ⟨rfl, rfl⟩ := h
        obtain ⟨y, hy, A, n, cap, h1, h2, h3, h4, h5, _⟩ := hp.at_ (j := 0) rfl
        exact ⟨by simp [CT.width]; omega, hp.drop 1, A, n, cap, by show vs[0]? = some _; rw [hy]; exact congrArg some h1, h2, h3, h4, h5⟩
      · cases h
  | .mdl kt vt ka va, cs, v, r, vs, h, hp => by
    match cs, h with
    | .mdl kt' vt' ka' va' l :: r', h =>
      simp only [CT.un] at h
      split at h
      · rename_i e
        have e' := CT.eq_of_eqb _ _ e
        injection e' with e1 e2 e3 e4
        subst e1 e2 e3 e4
        simp only [Option.some.injEq, Prod.mk.injEq] at h
        obtain ⟨rfl, rfl⟩ := h
        obtain ⟨y, hy, b, m, z, h1, h2⟩ := hp.at_ (j := 0) rfl
        exact ⟨by simp [CT.width]; omega, hp.drop 1, b, m, z, by show vs[0]? = some _; rw [hy]; exact congrArg some h1, h2⟩
      · cases h
  | .unit, cs, v, r, vs, h, hp => by
    simp only [CT.un, Option.some.injEq, Prod.mk.injEq] at h
    obtain ⟨_, rfl⟩ := h
    exact ⟨by simp [CT.width], by simpa [CT.width] using hp, trivial⟩
  | .pair a b, cs, v, r, vs, h, hp => by
    simp only [CT.un] at h
    split at h
    · rename_i x r' h1
      split at h
      · rename_i y r'' h2
        simp only [Option.some.injEq, Prod.mk.injEq] at h
        obtain ⟨rfl, rfl⟩ := h
        obtain ⟨l1, p1, q1⟩ := CT.un_rel a cs x r' vs h1 hp
        obtain ⟨l2, p2, q2⟩ := CT.un_rel b r' y r'' _ h2 p1
        refine ⟨by simp only [CT.width]; omega, by simpa [CT.width, List.drop_drop] using p2, q1, ?_⟩
        exact RelT.mono b y (fun k z hz => by rw [List.getElem?_drop] at hz; exact hz) (fun _ _ hh => hh) q2
      · cases h
    · cases h
end
section
open Go Go.RowKit

variable {P : Program}

/-- What an operation does, as the engine sees it: from what is known to what is known behind it, with the value's account. -/
def OpSim (P : Program) (o : Oper) (a : Act) (X : Ctx) (v : AV) (H' : Nat → Option AB) : Prop :=
  ∀ (next : Act → World → Prop) (Q : Exit → Act → World → Prop),
    (∀ val X', X.le X' → HRel X' → X'.H = H' → VR X' v val → next (a.put o.dst val) X'.w) → o.wp P a X.w next Q

theorem OpSim.of_run {o : Oper} {a : Act} {X X' : Ctx} {v : AV} {val : Value} (hr : (execOp a.eval o).run P X.w = .ok (.value val) X'.w) (hle : X.le X') (hX : HRel X') (hv : VR X' v val) :
    OpSim P o a X v X'.H := by
  intro next Q h
  unfold Oper.wp
  rw [hr]
  exact h val X' hle hX rfl hv

theorem OpSim.of_skip {o : Oper} {a : Act} {X X' : Ctx} (hr : (execOp a.eval o).run P X.w = .ok .skip X'.w) (hle : X.le X') (hX : HRel X') : OpSim P o a X (.one .unk) X'.H := by
  intro next Q h
  unfold Oper.wp
  rw [hr]
  exact h undef X' hle hX rfl trivial

/-- Is the type one of rows, and how many cells has it? -/
def ty (P : Program) (t : TypeId) : Option (Bool × Nat) :=
  match P.underlying t, P.info? t with
  | some (.struct _), some i => some (true, i.size)
  | some (.array _ _), some i => some (true, i.size)
  | some _, some i => some (false, i.size)
  | _, _ => none

theorem run_size {t : TypeId} {i : TypeInfo} (h : P.info? t = some i) (w : World) : (sizeOf t).run P w = .ok i.size w := by
  simp [sizeOf, typeInfo, h]

theorem ty_run {t : TypeId} {ag : Bool} {n : Nat} (h : ty P t = some (ag, n)) (w : World) : (isAgg t).run P w = .ok ag w ∧ (sizeOf t).run P w = .ok n w := by
  unfold ty at h
  split at h
  · rename_i fs i hu hi
    simp only [Option.some.injEq, Prod.mk.injEq] at h
    obtain ⟨rfl, rfl⟩ := h
    exact ⟨by simp only [isAgg, Sem.run_bind, run_underlying hu, Result.andThen_ok]; rfl, run_size hi w⟩
  · rename_i n' e i hu hi
    simp only [Option.some.injEq, Prod.mk.injEq] at h
    obtain ⟨rfl, rfl⟩ := h
    exact ⟨by simp only [isAgg, Sem.run_bind, run_underlying hu, Result.andThen_ok]; rfl, run_size hi w⟩
  · rename_i d i h1 h2 hu hi
    simp only [Option.some.injEq, Prod.mk.injEq] at h
    obtain ⟨rfl, rfl⟩ := h
    refine ⟨?_, run_size hi w⟩
    simp only [isAgg, Sem.run_bind, run_underlying hu, Result.andThen_ok]
    rfl
  · cases h

def mkAV (ag : Bool) (cs : List AC) : Option AV :=
  if ag then some (.agg cs) else
    match cs with
    | [c] => some (.one c)
    | _ => none

/-- Cells that lie behind one another are read as a value. -/
theorem load_ok {X : Ctx} {t : TypeId} {ag : Bool} {n : Nat} (ht : ty P t = some (ag, n)) {cs : List AC} (hlen : cs.length = n) {b off : Nat}
    (h : ∀ (k : Nat) c, cs[k]? = some c → ∃ y, X.w.cell? ⟨b, off + k, none⟩ = some y ∧ VRc X c y) {v : AV} (hv : mkAV ag cs = some v) :
    ∃ val, (Instr.loadAt t (.pointer (some ⟨b, off, none⟩))).run P X.w = .ok val X.w ∧ VR X v val := by
  obtain ⟨h1, h2⟩ := ty_run ht X.w
  simp only [Instr.loadAt, Instr.sureAddr, Sem.run_bind, Sem.run_pure, Result.andThen_ok, loadVar, h1]
  cases ag with
  | true =>
    simp only [mkAV, if_true, Option.some.injEq] at hv
    subst hv
    have hf : ∀ j, j < n → X.w.cell? ((⟨b, off, none⟩ : Addr).add j) = some ((X.w.cell? ⟨b, off + j, none⟩).getD undef) := by
      intro j hj
      obtain ⟨y, hy, _⟩ := h j _ (List.getElem?_eq_getElem (by omega))
      rw [Addr.add_lit, hy]; rfl
    have hl := run_loadCells (P := P) X.w ⟨b, off, none⟩ n (fun j => (X.w.cell? ⟨b, off + j, none⟩).getD undef) hf
    simp only [if_true, Sem.run_bind, h2, Result.andThen_ok, hl, Sem.run_pure]
    refine ⟨_, rfl, _, rfl, by simp [hlen], fun j c y hc hy => ?_⟩
    obtain ⟨z, hz, hr⟩ := h j c hc
    have hj : j < n := by have := (List.getElem?_eq_some_iff.1 hc).1; omega
    simp only [List.getElem?_map, List.getElem?_range hj, Option.map_some, Option.some.injEq, hz, Option.getD_some] at hy
    subst hy; exact hr
  | false =>
    simp only [mkAV, Bool.false_eq_true, if_false] at hv ⊢
    match cs, hv with
    | [c], hv =>
      injection hv with hv
      subst hv
      obtain ⟨y, hy, hr⟩ := h 0 c rfl
      simp only [Nat.add_zero] at hy
      refine ⟨y, ?_, hr⟩
      simp only [run_load, hy]

theorem RelT.mono_lt0 : ∀ (t : CT) (v : t.den) {C C' : Nat → Value → Prop} {IC IC' : Addr → Value → Prop},
    (∀ k y, k < t.width → C k y → C' k y) → (∀ a y, IC a y → IC' a y) → RelT t v C IC → RelT t v C' IC'
  | .int k, n, _, _, _, _, hC, _, h => hC _ _ Nat.one_pos h
  | .bool, b, _, _, _, _, hC, _, h => hC _ _ Nat.one_pos h
  | .str, s, _, _, _, _, hC, _, h => hC _ _ Nat.one_pos h
  | .sl row, l, _, _, _, _, hC, hI, ⟨A, n, cap, h1, h2, h3, h4, h5⟩ =>
    ⟨A, n, cap, hC _ _ Nat.one_pos h1, h2, h3, h4, h5.imp id fun ⟨b, o, e, h⟩ => ⟨b, o, e, fun j x hj => RelT.mono row x (fun _ _ hk => hI _ _ hk) hI (h j x hj)⟩⟩
  | .unit, _, _, _, _, _, _, _, _ => trivial
  | .pair a b, v, _, _, _, _, hC, hI, ⟨h1, h2⟩ =>
    ⟨RelT.mono_lt0 a v.1 (fun k y hk h => hC k y (Nat.lt_of_lt_of_le hk (Nat.le_add_right _ _)) h) hI h1, RelT.mono_lt0 b v.2 (fun k y hk h => hC _ y (Nat.add_lt_add_left hk _) h) hI h2⟩
  | .mdl kt vt ka va, l, _, _, _, _, hC, hI, ⟨b, m, y, h1, h2, h3, h4⟩ => ⟨b, m, y, hC _ _ Nat.one_pos h1, hI _ _ h2, hI _ _ h3, h4⟩
theorem RelT.mono_lt' (t : CT) (v : t.den) {C C' : Nat → Value → Prop} {IC : Addr → Value → Prop} (hC : ∀ k y, k < t.width → C k y → C' k y) (h : RelT t v C IC) : RelT t v C' IC := RelT.mono_lt0 t v hC (fun _ _ h => h) h

/-- One of two, by a test that is not decided. -/
def mergeC (b : Bool) : AC → AC → Option AC
  | .bool x, .bool y => some (.bool (bif b then x else y))
  | .int k x, .int k' y => if (CT.int k).eqb (.int k') then some (.int k (bif b then x else y)) else none
  | .str x, .str y => some (.str (bif b then x else y))
  | _, _ => none

theorem mergeC_rel {X : Ctx} {b : Bool} {u v r : AC} (h : mergeC b u v = some r) {val : Value} (ht : b = true → VRc X u val) (hf : b = false → VRc X v val) : VRc X r val := by
  unfold mergeC at h
  split at h
  · injection h with h; subst h
    cases b
    · exact hf rfl
    · exact ht rfl
  · split at h
    · rename_i e
      have e' := CT.eq_of_eqb _ _ e
      injection e' with e'
      subst e'
      injection h with h; subst h
      cases b
      · exact hf rfl
      · exact ht rfl
    · cases h
  · injection h with h; subst h
    cases b
    · exact hf rfl
    · exact ht rfl
  · cases h

/-- The one of some cells at a place that is not known. -/
def pickAt : List AC → Nat → Int → Option AC
  | [], _, _ => none
  | [c], _, _ => some c
  | c :: r, j, n => match pickAt r (j + 1) n with
    | some d => mergeC (decide (n = (j : Int))) c d
    | none => none
def updAt (v : AC) : List AC → Nat → Int → Option (List AC)
  | [], _, _ => some []
  | c :: r, j, n => match mergeC (decide (n = (j : Int))) v c, updAt v r (j + 1) n with
    | some d, some l => some (d :: l)
    | _, _ => none

theorem pickAt_rel {X : Ctx} : ∀ (cs : List AC) (j : Nat) (n : Int) {d : AC}, pickAt cs j n = some d → (j : Int) ≤ n → n < j + cs.length → ∀ y, (∀ c, cs[(n - j).toNat]? = some c → VRc X c y) → VRc X d y
  | [], _, _, _, h, _, _, _, _ => by cases h
  | [c], j, n, d, h, h1, h2, y, hy => by
    simp only [pickAt, Option.some.injEq] at h
    subst h
    refine hy c ?_
    have : (n - j).toNat = 0 := by simp only [List.length_cons, List.length_nil] at h2; omega
    rw [this]; rfl
  | c :: c' :: r, j, n, d, h, h1, h2, y, hy => by
    simp only [pickAt] at h
    split at h
    · rename_i d' hd
      refine mergeC_rel h (fun e => ?_) (fun e => ?_)
      · simp only [decide_eq_true_eq] at e
        refine hy c ?_
        have : (n - j).toNat = 0 := by omega
        rw [this]; rfl
      · simp only [decide_eq_false_iff_not] at e
        refine pickAt_rel (c' :: r) (j + 1) n hd (by omega) (by simp only [List.length_cons] at h2 ⊢; omega) y fun q hq => hy q ?_
        have : (n - j).toNat = (n - ((j + 1 : Nat) : Int)).toNat + 1 := by omega
        rw [this]; simpa using hq
    · cases h

theorem updAt_rel {X : Ctx} {v : AC} {val : Value} (hv : VRc X v val) : ∀ (cs : List AC) (j : Nat) (n : Int) {l : List AC}, updAt v cs j n = some l → ∀ (vs : List Value), PW (VRc X) cs vs →
    PW (VRc X) l (if (j : Int) ≤ n then vs.set (n - j).toNat val else vs)
  | [], j, n, l, h, vs, hp => by
    simp only [updAt, Option.some.injEq] at h
    subst h
    have : vs = [] := List.eq_nil_of_length_eq_zero hp.1.symm
    subst this
    split <;> exact PW.nil
  | c :: r, j, n, l, h, vs, hp => by
    simp only [updAt] at h
    split at h
    · rename_i d l' hd hl
      injection h with h; subst h
      cases vs with
      | nil => have := hp.1; simp at this
      | cons y ys =>
        have hp' : PW (VRc X) r ys := ⟨by have := hp.1; simpa using this, fun k a b ha hb => hp.2 (k + 1) a b (by simpa using ha) (by simpa using hb)⟩
        have hc := hp.2 0 c y rfl rfl
        have ih := updAt_rel hv r (j + 1) n hl ys hp'
        by_cases e : n = (j : Int)
        · rw [if_neg (by omega)] at ih
          rw [if_pos (by omega)]
          have : (n - j).toNat = 0 := by omega
          rw [this, List.set_cons_zero]
          exact PW.cons (mergeC_rel hd (fun _ => hv) (fun e' => by simp [e] at e')) ih
        · by_cases h1 : (j : Int) ≤ n
          · rw [if_pos (by omega)] at ih
            rw [if_pos h1]
            have : (n - j).toNat = (n - ((j + 1 : Nat) : Int)).toNat + 1 := by omega
            rw [this, List.set_cons_succ]
            exact PW.cons (mergeC_rel hd (fun e' => absurd (by simpa using e') e) (fun _ => hc)) ih
          · rw [if_neg (by omega)] at ih
            rw [if_neg h1]
            exact PW.cons (mergeC_rel hd (fun e' => absurd (by simpa using e') e) (fun _ => hc)) ih
    · cases h

def aload (P : Program) (t : TypeId) (H : Nat → Option AB) (p : AV) : Option AV :=
  match p, ty P t with
  | .one (.ptr i off), some (ag, n) =>
    match H i with
    | some (.cells cs) => if ((cs.drop off).take n).length == n then mkAV ag ((cs.drop off).take n) else none
    | some (.roc cs _) => if ((cs.drop off).take n).length == n then mkAV ag ((cs.drop off).take n) else none
    | _ => none
  | .one (.elp row l i off), some (ag, n) =>
    if (((row.cells (l.getD i row.dflt)).drop off).take n).length == n then mkAV ag (((row.cells (l.getD i row.dflt)).drop off).take n) else none
  | .one (.ael row i j d), some (ag, n) =>
    match H i with
    | some (.arr row' l) => if h : row'.eqb row = true then
        if (((row.cells ((castL row' row h l).getD j row.dflt)).drop d).take n).length == n then mkAV ag (((row.cells ((castL row' row h l).getD j row.dflt)).drop d).take n) else none
      else none
    | _ => none
  | .one (.pti i off n len), some (false, 1) =>
    match H i with
    | some (.cells cs) => if ((cs.drop off).take len).length == len then (pickAt ((cs.drop off).take len) 0 n).map .one else none
    | _ => none
  | _, _ => none

theorem aload_ok {X : Ctx} (hX : HRel X) {t : TypeId} {p : AV} {v : AV} {pv : Value} (hp : VR X p pv) (h : aload P t X.H p = some v) :
    ∃ val, (Instr.loadAt t pv).run P X.w = .ok val X.w ∧ VR X v val := by
  unfold aload at h
  split at h
  · rename_i i off ag n ht
    split at h
    · rename_i cs hH
      split at h
      · rename_i hl
        obtain ⟨_, rfl⟩ := hp
        obtain ⟨c, t', h1, h2⟩ := hX.blk i _ hH
        refine load_ok ht (by simpa using hl) (fun k x hx => ?_) h
        have hk : k < n := by
          have h1 := (List.getElem?_eq_some_iff.1 hx).1
          have h2 : ((cs.drop off).take n).length = n := by simpa using hl
          omega
        rw [List.getElem?_take_of_lt hk, List.getElem?_drop] at hx
        obtain ⟨y, hy, hr⟩ := h2.at_ hx
        refine ⟨y, ?_, hr⟩
        rw [cell_of_row _ _ _ c t' (0, 0) h1]
        simpa using hy
      · cases h
    · rename_i cs ob hH
      split at h
      · rename_i hl
        obtain ⟨_, rfl⟩ := hp
        obtain ⟨_, c, t', h1, h2⟩ := hX.blk i _ hH
        refine load_ok ht (by simpa using hl) (fun k x hx => ?_) h
        have hk : k < n := by
          have h1 := (List.getElem?_eq_some_iff.1 hx).1
          have h2 : ((cs.drop off).take n).length = n := by simpa using hl
          omega
        rw [List.getElem?_take_of_lt hk, List.getElem?_drop] at hx
        obtain ⟨y, hy, hr⟩ := h2.at_ hx
        refine ⟨y, ?_, hr⟩
        rw [cell_of_row _ _ _ c t' (0, 0) h1]
        simpa using hy
      · cases h
    · cases h
  · rename_i row l i off ag n ht
    split at h
    · rename_i hl
      obtain ⟨hi, b, o, rfl, hr⟩ := hp
      have hg : l[i]? = some (l.getD i row.dflt) := by rw [List.getD_eq_getElem?_getD, List.getElem?_eq_getElem hi]; rfl
      have hrel := hr _ hg
      refine load_ok ht (by simpa using hl) (fun k x hx => ?_) h
      have hk : k < n := by
        have h1 := (List.getElem?_eq_some_iff.1 hx).1
        have h2 : (((row.cells (l.getD i row.dflt)).drop off).take n).length = n := by simpa using hl
        omega
      rw [List.getElem?_take_of_lt hk, List.getElem?_drop] at hx
      obtain ⟨y, hy, hv⟩ := RelT.cell row _ _ hrel _ _ hx
      refine ⟨y, ?_, hv⟩
      have := hy.2.2.1
      rwa [show o + i * row.width + off + k = o + i * row.width + (off + k) from by omega]
    · cases h
  · rename_i row i j d ag n ht
    split at h
    · rename_i row' l hH
      split at h
      · rename_i hrow
        have er := CT.eq_of_eqb _ _ hrow
        subst er
        split at h
        · rename_i hl
          obtain ⟨l', hH', hj, rfl⟩ := hp
          replace hH' := hH'.of hH; rw [hH] at hH'
          simp only [Option.some.injEq, AB.arr.injEq, heq_eq_eq, true_and] at hH'
          subst hH'
          obtain ⟨c, t', h1, h2, h3⟩ := hX.blk i _ hH
          have hg : l[j]? = some (l.getD j row'.dflt) := by rw [List.getD_eq_getElem?_getD, List.getElem?_eq_getElem hj]; rfl
          have hrel := h3 j _ hg
          refine load_ok ht (by simpa using hl) (fun k x hx => ?_) h
          have hk : k < n := by
            have h1 := (List.getElem?_eq_some_iff.1 hx).1
            have h2 : (((row'.cells ((castL row' row' hrow l).getD j row'.dflt)).drop d).take n).length = n := by simpa using hl
            omega
          rw [List.getElem?_take_of_lt hk, List.getElem?_drop] at hx
          obtain ⟨y, hy, hv⟩ := RelT.cell row' _ _ hrel _ _ hx
          refine ⟨y, ?_, hv⟩
          rw [cell_of_row _ _ _ c t'.1 t'.2 h1, show j * row'.width + d + k = j * row'.width + (d + k) from by omega]
          exact hy
        · cases h
      · cases h
    · cases h
  · rename_i i off n len ht
    split at h
    · rename_i cs hH
      split at h
      · rename_i hl
        obtain ⟨_, rfl, hn1, hn2⟩ := hp
        obtain ⟨c, t', h1, h2⟩ := hX.blk i _ hH
        cases hd : pickAt ((cs.drop off).take len) 0 n with
        | none => rw [hd] at h; cases h
        | some d =>
          rw [hd] at h
          simp only [Option.map_some, Option.some.injEq] at h
          subst h
          have hl' : ((cs.drop off).take len).length = len := by simpa using hl
          refine load_ok (cs := [d]) ht rfl (fun k x hx => ?_) rfl
          cases k with
          | succ k => simp at hx
          | zero =>
            simp only [List.getElem?_cons_zero, Option.some.injEq] at hx
            subst hx
            have hlt : n.toNat < ((cs.drop off).take len).length := by omega
            have hg : cs[off + n.toNat]? = some (((cs.drop off).take len)[n.toNat]) := by
              have := List.getElem?_eq_getElem hlt
              rw [List.getElem?_take_of_lt (by omega), List.getElem?_drop] at this
              exact this
            obtain ⟨y, hy, hr⟩ := h2.at_ hg
            refine ⟨y, ?_, pickAt_rel _ 0 n hd (by omega) (by omega) y fun c hc => ?_⟩
            · rw [Nat.add_zero, cell_of_row _ _ _ c t' (0, 0) h1]
              simpa using hy
            · have e0 : (n - ((0 : Nat) : Int)).toNat = n.toNat := by omega
              rw [e0, List.getElem?_eq_getElem hlt] at hc
              injection hc with hc; subst hc; exact hr
      · cases h
    · cases h
  · cases h

/-- Is it known that it is one cell's value? -/
def AC.known : AC → Bool
  | .unk => false
  | _ => true

theorem AC.known_one {X : Ctx} {c : AC} {v : Value} (hk : c.known = true) (h : VRc X c v) : v.oneCell' = true ∧ v.cells = #[v] := by
  cases c with
  | unk => cases hk
  | int k n => cases h; exact ⟨rfl, rfl⟩
  | bool b => cases h; exact ⟨rfl, rfl⟩
  | str s => cases h; exact ⟨rfl, rfl⟩
  | sl row l m => obtain ⟨A, n, cap, rfl, _⟩ := h; exact ⟨rfl, rfl⟩
  | nils => cases h; exact ⟨rfl, rfl⟩
  | nilz => obtain ⟨_, rfl⟩ := h; exact ⟨rfl, rfl⟩
  | nilp => cases h; exact ⟨rfl, rfl⟩
  | nilf => cases h; exact ⟨rfl, rfl⟩
  | nilm => cases h; exact ⟨rfl, rfl⟩
  | ptr i off => obtain ⟨_, rfl⟩ := h; exact ⟨rfl, rfl⟩
  | pti i off n len => obtain ⟨_, rfl, _⟩ := h; exact ⟨rfl, rfl⟩
  | elp row l i off => obtain ⟨_, b, o, rfl, _⟩ := h; exact ⟨rfl, rfl⟩
  | bsl row i off len mn => obtain ⟨l, o, cap, _, rfl, _⟩ := h; exact ⟨rfl, rfl⟩
  | csl i off len cap => obtain ⟨_, rfl, _⟩ := h; exact ⟨rfl, rfl⟩
  | asl row i off len cap => obtain ⟨l, _, rfl, _⟩ := h; exact ⟨rfl, rfl⟩
  | ael row i j d => obtain ⟨l, _, _, rfl⟩ := h; exact ⟨rfl, rfl⟩
  | fn f caps => obtain ⟨c, rfl, _⟩ := h; exact ⟨rfl, rfl⟩
  | mth f i off => obtain ⟨_, rfl⟩ := h; exact ⟨rfl, rfl⟩
  | mref i => obtain ⟨_, rfl⟩ := h; exact ⟨rfl, rfl⟩
  | mdl kt vt ka va l => obtain ⟨_, _, _, rfl, _⟩ := h; exact ⟨rfl, rfl⟩

/-- The cells of a value that is known to the last of them. -/
def AV.cs : AV → Option (List AC)
  | .one c => if c.known then some [c] else none
  | .agg cs => if cs.all AC.known then some cs else none
  | .tup _ => none
  | .val _ => none
  | .gd _ _ _ => none
  | .alt _ => none
  | .clo _ _ => none

theorem AV.cs_rel {X : Ctx} {v : AV} {cs : List AC} {val : Value} (h : v.cs = some cs) (hv : VR X v val) :
    PW (VRc X) cs val.cells.toList ∧ ∀ u ∈ val.cells.toList, u.oneCell' = true := by
  cases v with
  | one c =>
    simp only [AV.cs] at h
    split at h
    · rename_i hk
      injection h with h; subst h
      obtain ⟨h1, h2⟩ := AC.known_one hk hv
      rw [h2]
      exact ⟨PW.cons hv PW.nil, by simpa using h1⟩
    · cases h
  | agg l =>
    simp only [AV.cs] at h
    split at h
    · rename_i hk
      injection h with h; subst h
      obtain ⟨ar, rfl, hp⟩ := hv
      refine ⟨hp, fun u hu => ?_⟩
      obtain ⟨j, hj⟩ := List.getElem?_of_mem hu
      obtain ⟨c, hc, hr⟩ := hp.get hj
      exact (AC.known_one (List.all_eq_true.1 hk c (List.mem_of_getElem? hc)) hr).1
    · cases h
  | tup _ => cases h
  | val _ => cases h
  | gd _ _ => cases h
  | alt _ => cases h
  | clo _ _ => cases h

/-- The block behind a store. -/
def astore (P : Program) (t : TypeId) (H : Nat → Option AB) (p v : AV) : Option (Nat × AB) :=
  match p, ty P t, v.cs with
  | .one (.ptr i off), some (_, n), some vs =>
    match H i with
    | some (.cells cs) => if vs.length == n && Nat.ble (off + n) cs.length then some (i, .cells (cs.take off ++ (vs ++ cs.drop (off + n)))) else none
    | _ => none
  | .one (.ael row i j d), some (_, n), some vs =>
    match H i with
    | some (.arr row' l) => if h : row'.eqb row = true then
        if vs.length == n && Nat.ble (d + n) row.width then
          match row.un ((row.cells ((castL row' row h l).getD j row.dflt)).take d ++ (vs ++ (row.cells ((castL row' row h l).getD j row.dflt)).drop (d + n))) with
          | some (x, []) => some (i, .arr row ((castL row' row h l).set j x))
          | _ => none
        else none
      else none
    | _ => none
  | .one (.pti i off n len), some (_, 1), some [v] =>
    match H i with
    | some (.cells cs) => if Nat.ble (off + len) cs.length then match updAt v ((cs.drop off).take len) 0 n with
        | some mid => some (i, .cells (cs.take off ++ (mid ++ cs.drop (off + len))))
        | none => none
      else none
    | _ => none
  | _, _, _ => none

theorem astore_ok {X : Ctx} (hX : HRel X) {t : TypeId} {p v : AV} {pv val : Value} (hp : VR X p pv) (hv : VR X v val) {i : Nat} {b : AB} (h : astore P t X.H p v = some (i, b)) :
    ∃ w', (Instr.storeAt t pv val).run P X.w = .ok () w' ∧ X.le (X.put i b w') ∧ HRel (X.put i b w') := by
  unfold astore at h
  split at h
  · rename_i i' off ag n vs ht hvs
    split at h
    · rename_i cs hH
      split at h
      · rename_i hcond
        simp only [Option.some.injEq, Prod.mk.injEq] at h
        obtain ⟨rfl, rfl⟩ := h
        simp only [Bool.and_eq_true, beq_iff_eq, Nat.ble_eq] at hcond
        obtain ⟨hn, hle⟩ := hcond
        obtain ⟨hpw, hone⟩ := AV.cs_rel hvs hv
        obtain ⟨_, rfl⟩ := hp
        obtain ⟨c, t', h1, h2⟩ := hX.blk i' _ hH
        have hcs : c.size = cs.length := by rw [← Array.length_toList]; exact h2.1.symm
        have hvl : val.cells.toList.length = n := by rw [← hpw.1]; exact hn
        obtain ⟨_, hsz⟩ := ty_run ht X.w
        have hrun := run_storeCells_at P (X.φ i') t' val.cells.toList X.w off 0 c h1 (by omega) hone
        obtain ⟨c', g1, g2, g3, g4, g5, g6, g7, g8⟩ := setCells_heap (X.φ i') t' val.cells.toList X.w off c h1 (by omega)
        have ho : OneBlock X i' (setCells X.w (X.φ i') off val.cells.toList) := ⟨g4, g5, g6, g7, g8, by rw [setCells_drawn]; exact Nat.le_refl _⟩
        have harr : ∀ row l, AB.cells cs = .arr row l → ∃ l' : List row.den, AB.cells (cs.take off ++ (vs ++ cs.drop (off + n))) = .arr row l' ∧ l'.length = l.length := fun row l e => by cases e
        have hle' := put_le hX hH rfl (b' := .cells (cs.take off ++ (vs ++ cs.drop (off + n)))) rfl ho harr
        refine ⟨_, ?_, hle', hX.put hH rfl rfl ho harr ?_⟩
        · have hne : (val.cells.size ≠ n) = False := by
            have : val.cells.size = n := by rw [← Array.length_toList]; exact hvl
            simp [this]
          simp only [Instr.storeAt, Instr.sureAddr, Sem.run_bind, Sem.run_pure, Result.andThen_ok, storeVar, hsz]
          simp only [hne, if_false]
          exact hrun
        · refine ⟨c', t', g1, ?_⟩
          have hold : PW (VRc (X.put i' (.cells (cs.take off ++ (vs ++ cs.drop (off + n)))) (setCells X.w (X.φ i') off val.cells.toList))) cs c.toList := h2.imp fun x y => VRc.mono hle' x y
          have hnew : PW (VRc (X.put i' (.cells (cs.take off ++ (vs ++ cs.drop (off + n)))) (setCells X.w (X.φ i') off val.cells.toList))) vs val.cells.toList := hpw.imp fun x y => VRc.mono hle' x y
          have hc' : c'.toList = c.toList.take off ++ (val.cells.toList ++ c.toList.drop (off + n)) := by
            apply List.ext_getElem?
            intro j
            rw [Array.getElem?_toList, g3 j]
            have hcl : c.toList.length = c.size := Array.length_toList
            by_cases e1 : j < off
            · rw [if_neg (by omega), List.getElem?_append_left (by rw [List.length_take]; omega), List.getElem?_take_of_lt e1]; simp
            · by_cases e2 : j < off + n
              · rw [if_pos (by omega), List.getElem?_append_right (by rw [List.length_take]; omega), List.length_take, List.getElem?_append_left (by omega)]
                congr 1; omega
              · rw [if_neg (by omega), List.getElem?_append_right (by rw [List.length_take]; omega), List.length_take, List.getElem?_append_right (by omega), List.getElem?_drop, ← Array.getElem?_toList]
                congr 1; omega
          rw [hc']
          exact (hold.take off).append (hnew.append (hold.drop (off + n)))
      · cases h
    · cases h
  · rename_i row i' j d ag n vs ht hvs
    split at h
    · rename_i row' l hH
      split at h
      · rename_i hrow
        have er := CT.eq_of_eqb _ _ hrow
        subst er
        split at h
        · rename_i hcond
          simp only [Bool.and_eq_true, beq_iff_eq, Nat.ble_eq] at hcond
          obtain ⟨hn, hdn⟩ := hcond
          split at h
          · rename_i x hun
            simp only [Option.some.injEq, Prod.mk.injEq] at h
            obtain ⟨rfl, rfl⟩ := h
            obtain ⟨hpw, hone⟩ := AV.cs_rel hvs hv
            obtain ⟨l', hH', hj, rfl⟩ := hp
            replace hH' := hH'.of hH; rw [hH] at hH'
            simp only [Option.some.injEq, AB.arr.injEq, heq_eq_eq, true_and] at hH'
            subst hH'
            obtain ⟨c, t', h1, ⟨hsz, hmk, hca⟩, h3⟩ := hX.blk i' _ hH
            have hvl : val.cells.toList.length = n := by rw [← hpw.1]; exact hn
            have hjw : j * row'.width + row'.width ≤ c.size := by refine Nat.le_trans ?_ hsz; rw [← Nat.succ_mul]; exact Nat.mul_le_mul_right _ hj
            obtain ⟨_, hsize⟩ := ty_run ht X.w
            have hrun := run_storeCells_m P t'.2 (X.φ i') t'.1 val.cells.toList X.w (j * row'.width + d) 0 c hmk h1 (by omega) hone
            obtain ⟨c', g1, g2, g3, g4, g5, g6, g7, g8⟩ := setCells_heap_m t'.2 (X.φ i') t'.1 val.cells.toList X.w (j * row'.width + d) c h1 (by omega)
            have ho : OneBlock X i' (setCells X.w (X.φ i') (j * row'.width + d) val.cells.toList) := ⟨g4, g5, g6, g7, g8, by rw [setCells_drawn]; exact Nat.le_refl _⟩
            have harr : ∀ row l0, AB.arr row' l = .arr row l0 → ∃ l' : List row.den, AB.arr row' ((castL row' row' hrow l).set j x) = .arr row l' ∧ l'.length = l0.length := fun row l0 e => by
              cases e
              exact ⟨_, rfl, by simp [castL]⟩
            have hle' := put_le hX hH rfl (b' := .arr row' ((castL row' row' hrow l).set j x)) rfl ho harr
            refine ⟨_, ?_, hle', hX.put hH rfl rfl ho harr ?_⟩
            · have hne : (val.cells.size ≠ n) = False := by
                have : val.cells.size = n := by rw [← Array.length_toList]; exact hvl
                simp [this]
              simp only [Instr.storeAt, Instr.sureAddr, Sem.run_bind, Sem.run_pure, Result.andThen_ok, storeVar, hsize]
              simp only [hne, if_false]
              exact hrun
            · refine ⟨c', t', g1, ?_, fun q z hq => ?_⟩
              · rw [g2]; exact ⟨by simpa [castL] using hsz, hmk, hca⟩
              · have hmono : ∀ (t : CT) (v : t.den) (C : Nat → Value → Prop), RelT t v C X.IC → RelT t v C (X.put i' (.arr row' ((castL row' row' hrow l).set j x)) (setCells X.w (X.φ i') (j * row'.width + d) val.cells.toList)).IC :=
                  fun t v C h => RelT.mono t v (fun _ _ h => h) (fun a y h => hle'.ic a y h) h
                by_cases hqj : q = j
                · subst hqj
                  have hzx : z = x := by
                    rw [List.getElem?_set_self (by simpa [castL] using hj)] at hq
                    injection hq with hq; exact hq.symm
                  subst hzx
                  have hg : l[q]? = some (l.getD q row'.dflt) := by rw [List.getD_eq_getElem?_getD, List.getElem?_eq_getElem hj]; rfl
                  have hrow0 := hmono _ _ _ (h3 q _ hg)
                  have hold : PW (VRc (X.put i' (.arr row' ((castL row' row' hrow l).set q z)) (setCells X.w (X.φ i') (q * row'.width + d) val.cells.toList))) (row'.cells (l.getD q row'.dflt)) ((c.toList.drop (q * row'.width)).take row'.width) := by
                    refine ⟨by rw [CT.cells_length, List.length_take, List.length_drop, Array.length_toList]; omega, fun k a y ha hy => ?_⟩
                    obtain ⟨y', hy', hr⟩ := RelT.cell row' _ _ hrow0 k a ha
                    have hk : k < row'.width := by have := (List.getElem?_eq_some_iff.1 ha).1; rwa [CT.cells_length] at this
                    rw [List.getElem?_take_of_lt hk, List.getElem?_drop, Array.getElem?_toList, hy'] at hy
                    injection hy with hy; subst hy; exact hr
                  have hnew : PW (VRc (X.put i' (.arr row' ((castL row' row' hrow l).set q z)) (setCells X.w (X.φ i') (q * row'.width + d) val.cells.toList))) vs val.cells.toList := hpw.imp fun x y => VRc.mono hle' x y
                  have hall := (hold.take d).append (hnew.append (hold.drop (d + n)))
                  obtain ⟨_, _, hrel⟩ := CT.un_rel row' _ z [] _ hun hall
                  refine RelT.mono_lt' row' z (fun k y hk hy => ?_) hrel
                  rw [g3]
                  have hcl : c.toList.length = c.size := Array.length_toList
                  have hml : ((c.toList.drop (q * row'.width)).take row'.width).length = row'.width := by rw [List.length_take, List.length_drop]; omega
                  by_cases e1 : k < d
                  · rw [List.getElem?_append_left (by rw [List.length_take]; omega), List.getElem?_take_of_lt e1, List.getElem?_take_of_lt hk, List.getElem?_drop, Array.getElem?_toList] at hy
                    rw [if_neg (by omega)]; exact hy
                  · rw [List.getElem?_append_right (by rw [List.length_take]; omega), List.length_take] at hy
                    by_cases e2 : k < d + n
                    · rw [List.getElem?_append_left (by omega)] at hy
                      rw [if_pos (by omega), ← hy]; congr 1; omega
                    · rw [List.getElem?_append_right (by omega), List.getElem?_drop, List.getElem?_take_of_lt (by omega), List.getElem?_drop, Array.getElem?_toList] at hy
                      rw [if_neg (by omega), ← hy]; congr 1; omega
                · rw [List.getElem?_set_ne (fun e => hqj e.symm)] at hq
                  have hqc : (l : List row'.den)[q]? = some z := hq
                  refine RelT.mono_lt' row' z (fun k y hk hy => ?_) (hmono _ _ _ (h3 q z hqc))
                  rw [g3, if_neg ?_]
                  · exact hy
                  · intro ⟨a1, a2⟩
                    rcases Nat.lt_or_gt_of_ne hqj with hlt | hlt
                    · have : (q + 1) * row'.width ≤ j * row'.width := Nat.mul_le_mul_right _ hlt
                      rw [Nat.add_mul] at this; omega
                    · have : (j + 1) * row'.width ≤ q * row'.width := Nat.mul_le_mul_right _ hlt
                      rw [Nat.add_mul] at this; omega
          · cases h
        · cases h
      · cases h
    · cases h
  · rename_i i' off n len ag v ht hvs
    split at h
    · rename_i cs hH
      split at h
      · rename_i hle
        simp only [Nat.ble_eq] at hle
        split at h
        · rename_i mid hmid
          simp only [Option.some.injEq, Prod.mk.injEq] at h
          obtain ⟨rfl, rfl⟩ := h
          obtain ⟨hpw, hone⟩ := AV.cs_rel hvs hv
          obtain ⟨_, rfl, hn1, hn2⟩ := hp
          obtain ⟨c, t', h1, h2⟩ := hX.blk i' _ hH
          have hcs : c.size = cs.length := by rw [← Array.length_toList]; exact h2.1.symm
          have hvl : val.cells.toList.length = 1 := hpw.1.symm
          obtain ⟨u, hu⟩ : ∃ u, val.cells.toList = [u] := by
            match hq : val.cells.toList, hvl with
            | [u], _ => exact ⟨u, rfl⟩
          obtain ⟨_, hsz⟩ := ty_run ht X.w
          rw [hu] at hpw hone
          have hrun := run_storeCells_at P (X.φ i') t' [u] X.w (off + n.toNat) 0 c h1 (by simp only [List.length_cons, List.length_nil]; omega) hone
          obtain ⟨c', g1, g2, g3, g4, g5, g6, g7, g8⟩ := setCells_heap (X.φ i') t' [u] X.w (off + n.toNat) c h1 (by simp only [List.length_cons, List.length_nil]; omega)
          have ho : OneBlock X i' (setCells X.w (X.φ i') (off + n.toNat) [u]) := ⟨g4, g5, g6, g7, g8, by rw [setCells_drawn]; exact Nat.le_refl _⟩
          have harr : ∀ row l, AB.cells cs = .arr row l → ∃ l' : List row.den, AB.cells (cs.take off ++ (mid ++ cs.drop (off + len))) = .arr row l' ∧ l'.length = l.length := fun row l e => by cases e
          have hle' := put_le hX hH rfl (b' := .cells (cs.take off ++ (mid ++ cs.drop (off + len)))) rfl ho harr
          refine ⟨_, ?_, hle', hX.put hH rfl rfl ho harr ?_⟩
          · have hne : (val.cells.size ≠ 1) = False := by
              have : val.cells.size = 1 := by rw [← Array.length_toList]; exact hvl
              simp [this]
            simp only [Instr.storeAt, Instr.sureAddr, Sem.run_bind, Sem.run_pure, Result.andThen_ok, storeVar, hsz]
            simp only [hne, if_false, hu]
            exact hrun
          · refine ⟨c', t', g1, ?_⟩
            have hold : PW (VRc (X.put i' (.cells (cs.take off ++ (mid ++ cs.drop (off + len)))) (setCells X.w (X.φ i') (off + n.toNat) [u]))) cs c.toList := h2.imp fun x y => VRc.mono hle' x y
            have hnew : VRc (X.put i' (.cells (cs.take off ++ (mid ++ cs.drop (off + len)))) (setCells X.w (X.φ i') (off + n.toNat) [u])) v u := VRc.mono hle' _ _ (hpw.2 0 v u rfl rfl)
            have hmidp := updAt_rel hnew ((cs.drop off).take len) 0 n hmid ((c.toList.drop off).take len) ((hold.drop off).take len)
            rw [if_pos (by omega)] at hmidp
            have e0 : (n - ((0 : Nat) : Int)).toNat = n.toNat := by omega
            rw [e0] at hmidp
            have hc' : c'.toList = c.toList.take off ++ (((c.toList.drop off).take len).set n.toNat u ++ c.toList.drop (off + len)) := by
              apply List.ext_getElem?
              intro j
              rw [Array.getElem?_toList, g3 j]
              have hcl : c.toList.length = c.size := Array.length_toList
              simp only [List.length_cons, List.length_nil]
              by_cases e1 : j < off
              · rw [if_neg (by omega), List.getElem?_append_left (by rw [List.length_take]; omega), List.getElem?_take_of_lt e1]; simp
              · rw [List.getElem?_append_right (by rw [List.length_take]; omega), List.length_take]
                have em : min off c.toList.length = off := by omega
                rw [em]
                by_cases e2 : j < off + len
                · rw [List.getElem?_append_left (by rw [List.length_set, List.length_take, List.length_drop]; omega)]
                  by_cases e3 : j = off + n.toNat
                  · rw [if_pos (by omega)]
                    subst e3
                    rw [show off + n.toNat - off = n.toNat by omega, show off + n.toNat - (off + n.toNat) = 0 by omega, List.getElem?_set_self (by rw [List.length_take, List.length_drop]; omega)]
                    rfl
                  · rw [if_neg (by omega), List.getElem?_set_ne (by omega), List.getElem?_take_of_lt (by omega), List.getElem?_drop, ← Array.getElem?_toList]
                    congr 1; omega
                · rw [if_neg (by omega), List.getElem?_append_right (by rw [List.length_set, List.length_take, List.length_drop]; omega), List.length_set, List.length_take, List.length_drop, List.getElem?_drop, ← Array.getElem?_toList]
                  congr 1; omega
            rw [hc']
            exact (hold.take off).append (hmidp.append (hold.drop (off + len)))
        · cases h
      · cases h
    · cases h
  · cases h

/-- Cells of an own block are written, one behind the other. -/
theorem put_cells_ok {X : Ctx} (hX : HRel X) {i off : Nat} {cs vs : List AC} {vals : List Value} (hH : X.H i = some (.cells cs)) (hpw : PW (VRc X) vs vals) (hone : ∀ v ∈ vals, v.oneCell' = true) (hle : off + vs.length ≤ cs.length) :
    ∃ w', (storeCells ⟨X.φ i, off, none⟩ vals).run P X.w = .ok () w' ∧ X.le (X.put i (.cells (cs.take off ++ (vs ++ cs.drop (off + vs.length)))) w') ∧ HRel (X.put i (.cells (cs.take off ++ (vs ++ cs.drop (off + vs.length)))) w') := by
  obtain ⟨c, t', h1, h2⟩ := hX.blk i _ hH
  have hcs : c.size = cs.length := by rw [← Array.length_toList]; exact h2.1.symm
  have hvl : vals.length = vs.length := hpw.1.symm
  have hrun := run_storeCells_at P (X.φ i) t' vals X.w off 0 c h1 (by omega) hone
  obtain ⟨c', g1, g2, g3, g4, g5, g6, g7, g8⟩ := setCells_heap (X.φ i) t' vals X.w off c h1 (by omega)
  have ho : OneBlock X i (setCells X.w (X.φ i) off vals) := ⟨g4, g5, g6, g7, g8, by rw [setCells_drawn]; exact Nat.le_refl _⟩
  have harr : ∀ row l, AB.cells cs = .arr row l → ∃ l' : List row.den, AB.cells (cs.take off ++ (vs ++ cs.drop (off + vs.length))) = .arr row l' ∧ l'.length = l.length := fun row l e => by cases e
  have hle' := put_le hX hH rfl (b' := .cells (cs.take off ++ (vs ++ cs.drop (off + vs.length)))) rfl ho harr
  refine ⟨_, hrun, hle', hX.put hH rfl rfl ho harr ?_⟩
  refine ⟨c', t', g1, ?_⟩
  have hold : PW (VRc (X.put i (.cells (cs.take off ++ (vs ++ cs.drop (off + vs.length)))) (setCells X.w (X.φ i) off vals))) cs c.toList := h2.imp fun x y => VRc.mono hle' x y
  have hnew : PW (VRc (X.put i (.cells (cs.take off ++ (vs ++ cs.drop (off + vs.length)))) (setCells X.w (X.φ i) off vals))) vs vals := hpw.imp fun x y => VRc.mono hle' x y
  have hc' : c'.toList = c.toList.take off ++ (vals ++ c.toList.drop (off + vs.length)) := by
    apply List.ext_getElem?
    intro j
    rw [Array.getElem?_toList, g3 j]
    have hcl : c.toList.length = c.size := Array.length_toList
    by_cases e1 : j < off
    · rw [if_neg (by omega), List.getElem?_append_left (by rw [List.length_take]; omega), List.getElem?_take_of_lt e1]; simp
    · by_cases e2 : j < off + vs.length
      · rw [if_pos (by omega), List.getElem?_append_right (by rw [List.length_take]; omega), List.length_take, List.getElem?_append_left (by omega)]
        congr 1; omega
      · rw [if_neg (by omega), List.getElem?_append_right (by rw [List.length_take]; omega), List.length_take, List.getElem?_append_right (by omega), List.getElem?_drop, ← Array.getElem?_toList]
        congr 1; omega
  rw [hc']
  exact (hold.take off).append (hnew.append (hold.drop (off + vs.length)))

/-- A new variable of these cells. -/
theorem alloc_ok {X : Ctx} (hX : HRel X) {i : Nat} (hi : X.H i = none) {cs : List AC} {vs : Array Value} (hp : PW (VRc X) cs vs.toList) (t : TypeId) :
    X.le (X.push i (.cells cs) (.cells vs t)) ∧ HRel (X.push i (.cells cs) (.cells vs t)) ∧ VR (X.push i (.cells cs) (.cells vs t)) (.one (.ptr i 0)) (.pointer (some ⟨X.w.heap.size, 0, none⟩)) := by
  have hle := push_le hX hi (.cells cs) rfl (.cells vs t)
  refine ⟨hle, hX.push hi (.cells cs) rfl (.cells vs t) ⟨vs, t, ?_, hp.imp fun x y => VRc.mono hle x y⟩, ⟨.cells cs, ?_, rfl⟩, ?_⟩
  · simp only [Ctx.push, upd_same]; exact heap_alloc_new X.w _
  · simp only [Ctx.push, upd_same]
  · simp only [Ctx.push, upd_same]

def azero (P : Program) (t : TypeId) : Option (List AC) :=
  match P.info? t with
  | some i => match i.zero with
    | some z => cvs z.cells.toList
    | none => none
  | none => none

theorem azero_rel {X : Ctx} {t : TypeId} {cs : List AC} (h : azero P t = some cs) : ∃ z, (∀ w, (zeroValue t).run P w = .ok z w) ∧ PW (VRc X) cs z.cells.toList := by
  unfold azero at h
  split at h
  · rename_i i hi
    split at h
    · rename_i z hz
      exact ⟨z, fun w => by simp [zeroValue, typeInfo, hi, hz], cvs_rel X h⟩
    · cases h
  · cases h

theorem run_allocI {t : TypeId} {z : Value} (hz : ∀ w, (zeroValue t).run P w = .ok z w) (w : World) :
    (Instr.alloc t true (.tuple #[])).run P w = .ok (.pointer (some ⟨w.heap.size, 0, none⟩)) (w.alloc (.cells z.cells t)) := by
  simp only [Instr.alloc, Sem.run_bind, hz, Result.andThen_ok, newVar, newRow, Sem.run_pure, run_newObj]
  rfl

theorem run_boxI (t : TypeId) (v : Value) (w : World) : (Instr.box t v).run P w = .ok (.pointer (some ⟨w.heap.size, 0, none⟩)) (w.alloc (.cells v.cells t)) := by
  simp only [Instr.box, Sem.run_bind, Result.andThen_ok, newVar, newRow, Sem.run_pure, run_newObj]
  rfl

def fieldOf (P : Program) (s : TypeId) (f : Nat) : Option (Nat × TypeId) :=
  match P.underlying s with
  | some (.struct fs) => (fs[f]?).map fun x => (x.offset, x.type)
  | _ => none

def afield (P : Program) (s : TypeId) (f : Nat) (p : AV) : Option AV :=
  match p, fieldOf P s f with
  | .one (.ptr i off), some (d, t) => match ty P t with
    | some (_, n + 1) => some (.one (.ptr i (off + d)))
    | _ => none
  | .one (.elp row l i off), some (d, t) => match ty P t with
    | some (_, n + 1) => some (.one (.elp row l i (off + d)))
    | _ => none
  | .one (.ael row i j off), some (d, t) => match ty P t with
    | some (_, n + 1) => some (.one (.ael row i j (off + d)))
    | _ => none
  | _, _ => none

theorem run_fieldAt {s : TypeId} {f d : Nat} {t : TypeId} {ag : Bool} {n b off : Nat} (h1 : fieldOf P s f = some (d, t)) (h2 : ty P t = some (ag, n + 1)) (w : World) :
    (Instr.fieldAt s (.pointer (some ⟨b, off, none⟩)) f).run P w = .ok (.pointer (some ⟨b, off + d, none⟩)) w := by
  unfold fieldOf at h1
  split at h1
  · rename_i fs hu
    cases hf : fs[f]? with
    | none => rw [hf] at h1; cases h1
    | some x =>
      rw [hf] at h1
      simp only [Option.map_some, Option.some.injEq, Prod.mk.injEq] at h1
      obtain ⟨rfl, rfl⟩ := h1
      simp only [Instr.fieldAt, Sem.run_bind, run_underlying hu, Result.andThen_ok, hf, Instr.sureAddr, Sem.run_pure, fieldPlace, (ty_run h2 w).2]
      simp only [Nat.add_one_ne_zero, if_false, Sem.run_pure, Result.andThen_ok, Addr.add_lit]
  · cases h1

theorem afield_ok {X : Ctx} {s : TypeId} {f : Nat} {p v : AV} {pv : Value} (hp : VR X p pv) (h : afield P s f p = some v) :
    ∃ val, (Instr.fieldAt s pv f).run P X.w = .ok val X.w ∧ VR X v val := by
  unfold afield at h
  split at h
  · rename_i i off d t hf
    split at h
    · rename_i ag n ht
      injection h with h; subst h
      obtain ⟨hb, rfl⟩ := hp
      exact ⟨_, run_fieldAt hf ht _, hb, rfl⟩
    · cases h
  · rename_i row l i off d t hf
    split at h
    · rename_i ag n ht
      injection h with h; subst h
      obtain ⟨hi, b, o, rfl, hr⟩ := hp
      exact ⟨_, run_fieldAt hf ht _, hi, b, o, by rw [Nat.add_assoc], hr⟩
    · cases h
  · rename_i row i j off d t hf
    split at h
    · rename_i ag n ht
      injection h with h; subst h
      obtain ⟨l, hl, hj, rfl⟩ := hp
      exact ⟨_, run_fieldAt hf ht _, l, hl, hj, by rw [Nat.add_assoc]⟩
    · cases h
  · cases h
end
end Go.Eng
