import Derived.WalkKit
import Derived.WalkSpells
import Derived.WalkLawsBesides
set_option linter.unusedVariables false
namespace Go.Eng
open Go Go.RowKit

/-- What one cell, or a row of cells, is of. -/
inductive CT where
  | int (k : IntKind) | bool | str | sl (row : CT) | unit | pair (c cs : CT)

abbrev CT.den : CT → Type
  | .int _ => Int
  | .bool => Bool
  | .str => ByteArray
  | .sl row => List row.den
  | .unit => Unit
  | .pair c cs => c.den × cs.den

def CT.width : CT → Nat
  | .unit => 0
  | .pair c cs => c.width + cs.width
  | _ => 1

def CT.dflt : (t : CT) → t.den
  | .int _ => (0 : Int)
  | .bool => false
  | .str => ByteArray.empty
  | .sl _ => []
  | .unit => ()
  | .pair c cs => (c.dflt, cs.dflt)

/-- Is there no slice in it? -/
def CT.flat : CT → Bool
  | .sl _ => false
  | .pair c cs => c.flat && cs.flat
  | _ => true
/-- The cells' values of a row without slices. -/
def CT.vals : (t : CT) → t.den → List Value
  | .int k, n => [.int k n]
  | .bool, b => [.bool b]
  | .str, s => [.string s]
  | .sl _, _ => []
  | .unit, _ => []
  | .pair c cs, v => c.vals v.1 ++ cs.vals v.2
def CT.same : (t : CT) → t.den → t.den → Bool
  | .int _, a, b => (a : Int) == b
  | .bool, a, b => (a : Bool) == b
  | .str, a, b => (a : ByteArray) == b
  | .sl _, _, _ => true
  | .unit, _, _ => true
  | .pair c cs, a, b => c.same a.1 b.1 && cs.same a.2 b.2
/-- The value of a type whose cells these are. -/
def asV (ag : Bool) (xs : List Value) : Value := if ag then .agg xs.toArray else xs.headD undef

/-- How a slice stands to its array: nothing known; no spare; the one that may be appended to (token, version). -/
inductive SM where
  | shared | full | nn | own (i ver : Nat)

inductive AC where
  | unk
  | int (k : IntKind) (n : Int) | bool (b : Bool) | str (s : ByteArray)
  | sl (row : CT) (l : List row.den) (m : SM)
  | nils | nilz | nilp | nilf | nilm
  | ptr (i off : Nat)
  | pti (i off : Nat) (n : Int) (len : Nat)
  | elp (row : CT) (l : List row.den) (i off : Nat)
  | msl (i off len : Nat)
  | csl (i off len cap : Nat)
  | asl (row : CT) (i off len cap : Nat)
  | ael (row : CT) (i j d : Nat)
  | fn (f : Nat) (caps : List (Nat × Nat))
  | mth (f i off : Nat)
  | mref (i : Nat)

inductive AV where
  | one (c : AC) | agg (cs : List AC) | tup (vs : List (Bool × List AC))

inductive AB where
  | cells (cs : List AC)
  | arr (row : CT) (l : List row.den)
  | tok (e : TypeId) (ver : Nat)
  | mp (kt vt : CT) (ka va : Bool) (l : List (kt.den × vt.den))

/-- Memory as known: where own blocks lie, how far a block is promised, which tokens are live, what own blocks hold, the world; the world at the beginning, which of its blocks are lent, and which of its cells are promised. -/
structure Ctx where
  φ : Nat → Nat
  fr : Nat → Option Nat
  tl : Nat → Prop
  H : Nat → Option AB
  w : World
  w0 : World
  lent : Nat → Prop
  old : Addr → Value → Prop

def AB.loc : AB → Bool
  | .tok _ _ => false
  | _ => true

/-- A cell that is promised not to change. -/
def Ctx.IC (X : Ctx) (a : Addr) (y : Value) : Prop :=
  (X.w0.heap.size ≤ a.block ∨ X.lent a.block ∨ X.old a y) ∧ a.spot = none ∧ X.w.cell? a = some y ∧ (∀ i b, X.H i = some b → b.loc = true → X.φ i ≠ a.block) ∧
    (∀ e, X.fr a.block = some e → a.off < e)

/-- The value of a row's type lies in cells. -/
def RelT : (t : CT) → t.den → (C : Nat → Value → Prop) → (IC : Addr → Value → Prop) → Prop
  | .int k, n, C, _ => C 0 (.int k n)
  | .bool, b, C, _ => C 0 (.bool b)
  | .str, s, C, _ => C 0 (.string s)
  | .sl row, l, C, IC => ∃ A n cap, C 0 (.slice A n cap) ∧ n = l.length ∧ n ≤ cap ∧ cap ≤ maxLen ∧
      (n = 0 ∨ ∃ b o, A = some ⟨b, o, none⟩ ∧ ∀ j x, l[j]? = some x → RelT row x (fun k y => IC ⟨b, o + j * row.width + k, none⟩ y) IC)
  | .unit, _, _, _ => True
  | .pair c cs, v, C, IC => RelT c v.1 C IC ∧ RelT cs v.2 (fun k y => C (c.width + k) y) IC

theorem RelT.mono : ∀ (t : CT) (v : t.den) {C C' : Nat → Value → Prop} {IC IC' : Addr → Value → Prop},
    (∀ k y, C k y → C' k y) → (∀ a y, IC a y → IC' a y) → RelT t v C IC → RelT t v C' IC'
  | .int _, _, _, _, _, _, hC, _, h => hC _ _ h
  | .bool, _, _, _, _, _, hC, _, h => hC _ _ h
  | .str, _, _, _, _, _, hC, _, h => hC _ _ h
  | .sl row, l, _, _, _, _, hC, hI, ⟨A, n, cap, h1, h2, h3, h4, h5⟩ =>
    ⟨A, n, cap, hC _ _ h1, h2, h3, h4, h5.imp id fun ⟨b, o, e, h⟩ => ⟨b, o, e, fun j x hj => RelT.mono row x (fun _ _ hk => hI _ _ hk) hI (h j x hj)⟩⟩
  | .unit, _, _, _, _, _, _, _, _ => trivial
  | .pair c cs, v, _, _, _, _, hC, hI, h =>
    ⟨RelT.mono c v.1 hC hI h.1, RelT.mono cs v.2 (fun _ _ hk => hC _ _ hk) hI h.2⟩

/-- A token's array: where it is promised to, and what there is. -/
def Ctx.TokOk (X : Ctx) (i : Nat) (e : TypeId) (end_ lim : Nat) : Prop :=
  X.tl i ∧ X.fr (X.φ i) = some end_ ∧ ∃ c m, X.w.heap[X.φ i]? = some (.cells c e m) ∧ c.size = lim ∧ (m = (0, 0) ∨ m = (c.size, c.size + 1))

def VRc (X : Ctx) : AC → Value → Prop
  | .unk, _ => True
  | .int k n, v => v = .int k n
  | .bool b, v => v = .bool b
  | .str s, v => v = .string s
  | .sl row l m, v => ∃ A n cap, v = .slice A n cap ∧ n = l.length ∧ n ≤ cap ∧ cap ≤ maxLen ∧
      (n = 0 ∨ ∃ b o, A = some ⟨b, o, none⟩ ∧ ∀ j x, l[j]? = some x → RelT row x (fun k y => X.IC ⟨b, o + j * row.width + k, none⟩ y) X.IC) ∧
      (match m with
       | .shared => True
       | .full => cap = n
       | .nn => ∃ a, A = some a
       | .own i ver => ∃ e v0, X.H i = some (.tok e v0) ∧ ver ≤ v0 ∧ (ver = v0 → cap = n ∨ (A = some ⟨X.φ i, 0, none⟩ ∧ X.TokOk i e (n * row.width) (cap * row.width))))
  | .nils, v => v = .slice none 0 0
  | .nilz, v => ∃ c, v = .slice none 0 c
  | .nilp, v => v = .pointer none
  | .nilf, v => v = .nilFunc
  | .nilm, v => v = .map none
  | .ptr i off, v => (∃ b, X.H i = some b ∧ b.loc = true) ∧ v = .pointer (some ⟨X.φ i, off, none⟩)
  | .pti i off n len, v => (∃ b, X.H i = some b ∧ b.loc = true) ∧ v = .pointer (some ⟨X.φ i, off + n.toNat, none⟩) ∧ 0 ≤ n ∧ n < (len : Int)
  | .elp row l i off, v => i < l.length ∧ ∃ b o, v = .pointer (some ⟨b, o + i * row.width + off, none⟩) ∧ ∀ x, l[i]? = some x → RelT row x (fun k y => X.IC ⟨b, o + i * row.width + k, none⟩ y) X.IC
  | .msl i off len, v => ∃ row l cap, X.H i = some (.arr row l) ∧ v = .slice (some ⟨X.φ i, off * row.width, none⟩) len cap ∧ len ≤ cap ∧ cap ≤ maxLen ∧ off + len ≤ l.length
  | .csl i off len cap, v => (∃ b, X.H i = some b ∧ b.loc = true) ∧ v = .slice (some ⟨X.φ i, off, none⟩) len cap ∧ len ≤ cap ∧ cap ≤ maxLen
  | .asl row i off len cap, v => ∃ l : List row.den, X.H i = some (.arr row l) ∧ v = .slice (some ⟨X.φ i, off * row.width, none⟩) len cap ∧ len ≤ cap ∧ cap ≤ maxLen ∧ off + cap ≤ l.length
  | .ael row i j d, v => ∃ l : List row.den, X.H i = some (.arr row l) ∧ j < l.length ∧ v = .pointer (some ⟨X.φ i, j * row.width + d, none⟩)
  | .fn f caps, v => ∃ c : Array Value, v = .func (.func f) #[] c ∧ c.size = caps.length ∧
      ∀ (j : Nat) (p : Nat × Nat), caps[j]? = some p → (∃ b, X.H p.1 = some b ∧ b.loc = true) ∧ c[j]? = some (.pointer (some ⟨X.φ p.1, p.2, none⟩))
  | .mth f i off, v => (∃ b, X.H i = some b ∧ b.loc = true) ∧ v = .func (.func f) #[.pointer (some ⟨X.φ i, off, none⟩)] #[]
  | .mref i, v => (∃ b, X.H i = some b ∧ b.loc = true) ∧ v = .map (some (X.φ i))

/-- More is known, nothing is taken back. -/
structure Ctx.le (X X' : Ctx) : Prop where
  ic : ∀ a y, X.IC a y → X'.IC a y
  loc : ∀ i b, X.H i = some b → b.loc = true → (∃ b', X'.H i = some b' ∧ b'.loc = true) ∧ X'.φ i = X.φ i
  arr : ∀ i row l, X.H i = some (.arr row l) → ∃ l' : List row.den, X'.H i = some (.arr row l') ∧ l'.length = l.length
  tok : ∀ i t v, X.H i = some (.tok t v) → ∃ v', X'.H i = some (.tok t v') ∧ v ≤ v' ∧ (v = v' → X'.φ i = X.φ i ∧ ∀ e p q, X.TokOk i e p q → X'.TokOk i e p q)
  w0 : X'.w0 = X.w0
  lent : X'.lent = X.lent
  oldeq : X'.old = X.old

theorem Ctx.le.refl (X : Ctx) : X.le X :=
  ⟨fun _ _ h => h, fun i b h hm => ⟨⟨b, h, hm⟩, rfl⟩, fun i row l h => ⟨l, h, rfl⟩, fun i t v h => ⟨v, h, Nat.le_refl _, fun _ => ⟨rfl, fun _ _ _ h => h⟩⟩, rfl, rfl, rfl⟩

theorem Ctx.le.trans {X Y Z : Ctx} (h : X.le Y) (k : Y.le Z) : X.le Z where
  ic a y hh := k.ic a y (h.ic a y hh)
  loc i b hb hm := by
    obtain ⟨⟨b', hb', hm'⟩, e⟩ := h.loc i b hb hm
    obtain ⟨q, e'⟩ := k.loc i b' hb' hm'
    exact ⟨q, e'.trans e⟩
  arr i row l hh := by
    obtain ⟨l', h1, h2⟩ := h.arr i row l hh
    obtain ⟨l'', h3, h4⟩ := k.arr i row l' h1
    exact ⟨l'', h3, h4.trans h2⟩
  tok i t v hh := by
    obtain ⟨v', h1, h2, h3⟩ := h.tok i t v hh
    obtain ⟨v'', h4, h5, h6⟩ := k.tok i t v' h1
    refine ⟨v'', h4, Nat.le_trans h2 h5, fun e => ?_⟩
    obtain ⟨e1, f1⟩ := h3 (by omega)
    obtain ⟨e2, f2⟩ := h6 (by omega)
    exact ⟨e2.trans e1, fun e p q ht => f2 e p q (f1 e p q ht)⟩
  w0 := k.w0.trans h.w0
  lent := k.lent.trans h.lent
  oldeq := k.oldeq.trans h.oldeq

theorem VRc.mono {X X' : Ctx} (h : X.le X') : ∀ (c : AC) (v : Value), VRc X c v → VRc X' c v
  | .unk, _, _ => trivial
  | .int _ _, _, e => e
  | .bool _, _, e => e
  | .str _, _, e => e
  | .nils, _, e => e
  | .nilz, _, e => e
  | .nilp, _, e => e
  | .nilf, _, e => e
  | .nilm, _, e => e
  | .sl row l m, v, ⟨A, n, cap, h1, h2, h3, h4, h5, h6⟩ => by
    refine ⟨A, n, cap, h1, h2, h3, h4, h5.imp id fun ⟨b, o, e, hh⟩ => ⟨b, o, e, fun j x hj => RelT.mono row x (fun _ _ hk => h.ic _ _ hk) h.ic (hh j x hj)⟩, ?_⟩
    cases m with
    | shared => trivial
    | full => exact h6
    | nn => exact h6
    | own i ver =>
      obtain ⟨e, v0, g1, g2, g3⟩ := h6
      obtain ⟨v1, k1, k2, k3⟩ := h.tok i e v0 g1
      refine ⟨e, v1, k1, Nat.le_trans g2 k2, fun ev => ?_⟩
      obtain ⟨e1, f1⟩ := k3 (by omega)
      rcases g3 (by omega) with g | ⟨ga, gt⟩
      · exact .inl g
      · exact .inr ⟨by rw [e1]; exact ga, f1 _ _ _ gt⟩
  | .ptr i off, v, ⟨⟨b, hb, hm⟩, e⟩ => by
    obtain ⟨q, e'⟩ := h.loc i b hb hm
    exact ⟨q, by rw [e']; exact e⟩
  | .pti i off n len, v, ⟨⟨b, hb, hm⟩, e, h3, h4⟩ => by
    obtain ⟨q, e'⟩ := h.loc i b hb hm
    exact ⟨q, by rw [e']; exact e, h3, h4⟩
  | .elp row l i off, v, ⟨hi, b, o, e, hh⟩ => ⟨hi, b, o, e, fun x hx => RelT.mono row x (fun _ _ hk => h.ic _ _ hk) h.ic (hh x hx)⟩
  | .msl i off len, v, ⟨row, l, cap, h1, h2, h3, h4, h5⟩ => by
    obtain ⟨l', g1, g2⟩ := h.arr i row l h1
    obtain ⟨_, e'⟩ := h.loc i _ h1 rfl
    exact ⟨row, l', cap, g1, by rw [e']; exact h2, h3, h4, by omega⟩
  | .csl i off len cap, v, ⟨⟨b, hb, hm⟩, e, h3, h4⟩ => by
    obtain ⟨q, e'⟩ := h.loc i b hb hm
    exact ⟨q, by rw [e']; exact e, h3, h4⟩
  | .asl row i off len cap, v, ⟨l, h1, h2, h3, h4, h5⟩ => by
    obtain ⟨l', g1, g2⟩ := h.arr i row l h1
    obtain ⟨_, e'⟩ := h.loc i _ h1 rfl
    exact ⟨l', g1, by rw [e']; exact h2, h3, h4, by omega⟩
  | .ael row i j d, v, ⟨l, h1, h2, h3⟩ => by
    obtain ⟨l', g1, g2⟩ := h.arr i row l h1
    obtain ⟨_, e'⟩ := h.loc i _ h1 rfl
    exact ⟨l', g1, by omega, by rw [e']; exact h3⟩
  | .mth f i off, v, ⟨⟨b, hb, hm⟩, e⟩ => by
    obtain ⟨q, e'⟩ := h.loc i b hb hm
    exact ⟨q, by rw [e']; exact e⟩
  | .mref i, v, ⟨⟨b, hb, hm⟩, e⟩ => by
    obtain ⟨q, e'⟩ := h.loc i b hb hm
    exact ⟨q, by rw [e']; exact e⟩
  | .fn f caps, v, ⟨c, h1, h2, h3⟩ => ⟨c, h1, h2, fun j p hj => by
      obtain ⟨⟨b, hb, hm⟩, e⟩ := h3 j p hj
      obtain ⟨q, e'⟩ := h.loc p.1 b hb hm
      exact ⟨q, by rw [e']; exact e⟩⟩

/-- Pairwise related. -/
def PW {α β : Type} (R : α → β → Prop) (cs : List α) (vs : List β) : Prop :=
  cs.length = vs.length ∧ ∀ (j : Nat) c y, cs[j]? = some c → vs[j]? = some y → R c y

theorem PW.imp {α β : Type} {R S : α → β → Prop} {cs : List α} {vs : List β} (h : ∀ c y, R c y → S c y) (hh : PW R cs vs) : PW S cs vs :=
  ⟨hh.1, fun j c y hc hy => h c y (hh.2 j c y hc hy)⟩
theorem PW.nil {α β : Type} {R : α → β → Prop} : PW R [] [] := ⟨rfl, fun j c y hc _ => by simp at hc⟩
theorem PW.cons {α β : Type} {R : α → β → Prop} {c : α} {y : β} {cs : List α} {vs : List β} (h : R c y) (hh : PW R cs vs) : PW R (c :: cs) (y :: vs) := by
  refine ⟨by simp [hh.1], fun j d z hd hz => ?_⟩
  cases j with
  | zero => simp at hd hz; subst hd; subst hz; exact h
  | succ j => simp at hd hz; exact hh.2 j d z hd hz
theorem PW.append {α β : Type} {R : α → β → Prop} {cs ds : List α} {vs ws : List β} (h : PW R cs vs) (k : PW R ds ws) : PW R (cs ++ ds) (vs ++ ws) := by
  refine ⟨by simp [h.1, k.1], fun j d z hd hz => ?_⟩
  have hl := h.1
  by_cases e : j < cs.length
  · rw [List.getElem?_append_left e] at hd
    rw [List.getElem?_append_left (by omega)] at hz
    exact h.2 j d z hd hz
  · rw [List.getElem?_append_right (by omega)] at hd
    rw [List.getElem?_append_right (by omega), ← hl] at hz
    exact k.2 _ d z hd hz
theorem PW.drop {α β : Type} {R : α → β → Prop} {cs : List α} {vs : List β} (h : PW R cs vs) (n : Nat) : PW R (cs.drop n) (vs.drop n) :=
  ⟨by simp [h.1], fun j d z hd hz => by rw [List.getElem?_drop] at hd hz; exact h.2 _ d z hd hz⟩
theorem PW.take {α β : Type} {R : α → β → Prop} {cs : List α} {vs : List β} (h : PW R cs vs) (n : Nat) : PW R (cs.take n) (vs.take n) := by
  refine ⟨by simp [h.1], fun j d z hd hz => ?_⟩
  by_cases e : j < n
  · rw [List.getElem?_take_of_lt e] at hd hz; exact h.2 j d z hd hz
  · rw [List.getElem?_take_eq_none (by omega)] at hd; cases hd
theorem PW.at_ {α β : Type} {R : α → β → Prop} {cs : List α} {vs : List β} (h : PW R cs vs) {j : Nat} {c : α} (hc : cs[j]? = some c) : ∃ y, vs[j]? = some y ∧ R c y := by
  have hl : j < vs.length := by
    have := (List.getElem?_eq_some_iff.1 hc).1
    have := h.1
    omega
  exact ⟨vs[j], List.getElem?_eq_getElem hl, h.2 j c _ hc (List.getElem?_eq_getElem hl)⟩
theorem PW.get {α β : Type} {R : α → β → Prop} {cs : List α} {vs : List β} (h : PW R cs vs) {j : Nat} {y : β} (hc : vs[j]? = some y) : ∃ c, cs[j]? = some c ∧ R c y := by
  have hl : j < cs.length := by
    have := (List.getElem?_eq_some_iff.1 hc).1
    have := h.1
    omega
  exact ⟨cs[j], List.getElem?_eq_getElem hl, h.2 j _ y (List.getElem?_eq_getElem hl) hc⟩

def VRp (X : Ctx) : Bool × List AC → Value → Prop
  | (true, cs), y => ∃ ar : Array Value, y = .agg ar ∧ PW (VRc X) cs ar.toList
  | (false, cs), y => ∃ c, cs = [c] ∧ VRc X c y

def VR (X : Ctx) : AV → Value → Prop
  | .one c, v => VRc X c v
  | .agg cs, v => VRp X (true, cs) v
  | .tup vs, v => ∃ arr : Array Value, v = .tuple arr ∧ PW (VRp X) vs arr.toList

theorem VRp.mono {X X' : Ctx} (h : X.le X') : ∀ (p : Bool × List AC) (v : Value), VRp X p v → VRp X' p v
  | (true, cs), v, ⟨ar, e, hh⟩ => ⟨ar, e, hh.imp fun c y => VRc.mono h c y⟩
  | (false, cs), v, ⟨c, e, hh⟩ => ⟨c, e, VRc.mono h c v hh⟩

theorem VR.mono {X X' : Ctx} (h : X.le X') : ∀ (c : AV) (v : Value), VR X c v → VR X' c v
  | .one c, v, hh => VRc.mono h c v hh
  | .agg cs, v, hh => VRp.mono h (true, cs) v hh
  | .tup vs, v, ⟨arr, e, hh⟩ => ⟨arr, e, hh.imp fun p y => VRp.mono h p y⟩
end Go.Eng
