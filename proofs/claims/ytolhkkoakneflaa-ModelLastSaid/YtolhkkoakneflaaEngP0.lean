import Derived.Test.YtolhkkoakneflaaEngO
set_option linter.unusedVariables false
namespace Go.Eng
open Go Go.RowKit
variable {P : Program}

/-- Cells as one row. -/
def cellRow : AC → Option ((row : CT) × row.den)
  | .int k n => some ⟨.int k, n⟩
  | .bool b => some ⟨.bool, b⟩
  | .str s => some ⟨.str, s⟩
  | .sl row l _ => some ⟨.sl row, l⟩
  | .nils => some ⟨.sl .unit, []⟩
  | _ => none

def toRow : List AC → Option ((row : CT) × row.den)
  | [] => some ⟨.unit, ()⟩
  | c :: r => match cellRow c, toRow r with
    | some ⟨a, x⟩, some ⟨b, y⟩ => some ⟨.pair a b, (x, y)⟩
    | _, _ => none

theorem cellRow_rel {X : Ctx} {c : AC} {row : CT} {x : row.den} (h : cellRow c = some ⟨row, x⟩) {v : Value} (hv : VRc X c v) : row.width = 1 ∧ ∀ (C : Nat → Value → Prop), C 0 v → RelT row x C X.IC := by
  unfold cellRow at h
  split at h
  · simp only [Option.some.injEq, Sigma.mk.injEq] at h
    obtain ⟨rfl, hx⟩ := h
    cases eq_of_heq hx
    cases hv
    exact ⟨rfl, fun C hc => hc⟩
  · simp only [Option.some.injEq, Sigma.mk.injEq] at h
    obtain ⟨rfl, hx⟩ := h
    cases eq_of_heq hx
    cases hv
    exact ⟨rfl, fun C hc => hc⟩
  · simp only [Option.some.injEq, Sigma.mk.injEq] at h
    obtain ⟨rfl, hx⟩ := h
    cases eq_of_heq hx
    cases hv
    exact ⟨rfl, fun C hc => hc⟩
  · simp only [Option.some.injEq, Sigma.mk.injEq] at h
    obtain ⟨rfl, hx⟩ := h
    cases eq_of_heq hx
    obtain ⟨A, n, cap, rfl, h2, h3, h4, h5, _⟩ := hv
    exact ⟨rfl, fun C hc => ⟨A, n, cap, hc, h2, h3, h4, h5⟩⟩
  · simp only [Option.some.injEq, Sigma.mk.injEq] at h
    obtain ⟨rfl, hx⟩ := h
    cases eq_of_heq hx
    cases hv
    exact ⟨rfl, fun C hc => ⟨none, 0, 0, hc, rfl, Nat.le_refl _, by simp [maxLen], .inl rfl⟩⟩
  · cases h

theorem toRow_rel {X : Ctx} : ∀ {cs : List AC} {row : CT} {x : row.den}, toRow cs = some ⟨row, x⟩ → ∀ {vs : List Value}, PW (VRc X) cs vs → row.width = cs.length ∧ RelT row x (fun k y => vs[k]? = some y) X.IC
  | [], row, x, h, vs, hv => by
    simp only [toRow, Option.some.injEq, Sigma.mk.injEq] at h
    obtain ⟨rfl, _⟩ := h
    exact ⟨rfl, trivial⟩
  | c :: r, row, x, h, vs, hv => by
    simp only [toRow] at h
    split at h
    · rename_i a x1 b y1 h1 h2
      simp only [Option.some.injEq, Sigma.mk.injEq] at h
      obtain ⟨rfl, hx⟩ := h
      cases eq_of_heq hx
      cases vs with
      | nil => have := hv.1; simp at this
      | cons v vs =>
        obtain ⟨g1, g2⟩ := cellRow_rel h1 (hv.2 0 c v rfl rfl)
        obtain ⟨g3, g4⟩ := toRow_rel h2 (vs := vs) ⟨by have := hv.1; simpa using this, fun j d z hd hz => hv.2 (j + 1) d z (by simpa using hd) (by simpa using hz)⟩
        refine ⟨by show a.width + b.width = _; rw [g1, g3, List.length_cons]; omega, g2 _ rfl, ?_⟩
        refine RelT.mono b _ (fun k y hk => ?_) (fun _ _ hh => hh) g4
        rw [g1, Nat.add_comm]
        simpa using hk
    · cases h

/-- A value, as one who only reads may have it: own blocks as rows that are promised. -/
def seeC (H : Nat → Option AB) : AC → Option AC
  | .ptr i off => match H i with
    | some (.cells cs) => match toRow cs with
      | some ⟨row, x⟩ => some (.elp row [x] 0 off)
      | none => none
    | _ => none
  | .int k n => some (.int k n)
  | .bool b => some (.bool b)
  | .str s => some (.str s)
  | .sl row l _ => some (.sl row l .shared)
  | .nils => some .nils
  | .nilp => some .nilp
  | .nilf => some .nilf
  | .elp row l i off => some (.elp row l i off)
  | .fn f [] => some (.fn f [])
  | .asl row i off len _ => (aslRows H row i off len).map fun l => .sl row l .shared
  | _ => none

def seeCs (H : Nat → Option AB) : List AC → Option (List AC)
  | [] => some []
  | c :: r => match seeC H c, seeCs H r with
    | some x, some l => some (x :: l)
    | _, _ => none

def seeA (P : Program) (H : Nat → Option AB) (t : Option TypeId) : AV → Option AV
  | .one (.csl i off len cap) => match t.bind P.underlying with
    | some (.slice e) => match cslRows P H e i off len with
      | some ⟨row, l⟩ => some (.one (.sl row l .shared))
      | none => none
    | _ => none
  | .one c => (seeC H c).map .one
  | .agg cs => (seeCs H cs).map .agg
  | .tup _ => none

def seeAs (P : Program) (H : Nat → Option AB) : List TypeId → List AV → Option (List AV)
  | _, [] => some []
  | ts, v :: r => match seeA P H ts.head? v, seeAs P H ts.tail r with
    | some x, some l => some (x :: l)
    | _, _ => none

/-- All that lies there now is promised. -/
def freshAll (X : Ctx) : Ctx := { φ := fun _ => 0, fr := fun _ => none, tl := fun _ => False, H := fun _ => none, w := X.w, w0 := X.w, lent := fun _ => False, old := fun a y => a.spot = none ∧ X.w.cell? a = some y }

theorem freshAll_IC {X : Ctx} {a : Addr} {y : Value} (h1 : a.spot = none) (h2 : X.w.cell? a = some y) : (freshAll X).IC a y :=
  ⟨.inr (.inr ⟨h1, h2⟩), h1, h2, fun i b hb => (by cases hb), fun e he => (by cases he)⟩

theorem HRel.freshAll (X : Ctx) : HRel (freshAll X) where
  inj i j b c h := by cases h
  injt i j h := h.elim
  injm i b j h := by cases h
  place i b h := by cases h
  placet i h := h.elim
  lt i b h := by cases h
  ltt i h := h.elim
  tlH i h := h.elim
  frlt b e h := by cases h
  blk i b h := by cases h
  below k _ _ := rfl
  os := rfl
  tape := rfl
  output := rfl
  size := Nat.le_refl _
  old a y h := freshAll_IC h.1 h.2

theorem all_IC {X : Ctx} {a : Addr} {y : Value} (h : X.IC a y) : (freshAll X).IC a y := freshAll_IC h.2.1 h.2.2.1

theorem seeC_rel {X : Ctx} (hX : HRel X) {c c' : AC} (h : seeC X.H c = some c') {v : Value} (hv : VRc X c v) : VRc (freshAll X) c' v := by
  have rows : ∀ {row : CT} {l : List row.den} {A : Option Addr} {n : Nat}, (n = 0 ∨ ∃ b o, A = some ⟨b, o, none⟩ ∧ ∀ j x, l[j]? = some x → RelT row x (fun k y => X.IC ⟨b, o + j * row.width + k, none⟩ y) X.IC) →
      (n = 0 ∨ ∃ b o, A = some (⟨b, o, none⟩ : Addr) ∧ ∀ j x, l[j]? = some x → RelT row x (fun k y => (freshAll X).IC ⟨b, o + j * row.width + k, none⟩ y) (freshAll X).IC) :=
    fun h => h.imp id fun ⟨b, o, e, hh⟩ => ⟨b, o, e, fun j x hj => RelT.mono _ x (fun _ _ hk => all_IC hk) (fun _ _ => all_IC) (hh j x hj)⟩
  unfold seeC at h
  split at h
  · rename_i i off
    split at h
    · rename_i cs hH
      split at h
      · rename_i row x hr
        injection h with h; subst h
        obtain ⟨_, rfl⟩ := hv
        obtain ⟨c, t', h1, h2⟩ := hX.blk i _ hH
        obtain ⟨_, g2⟩ := toRow_rel hr h2
        refine ⟨by simp, X.φ i, 0, by simp, fun y hy => ?_⟩
        simp only [List.getElem?_cons_zero, Option.some.injEq] at hy
        subst hy
        refine RelT.mono row x (fun k y hk => freshAll_IC rfl ?_) (fun _ _ => all_IC) g2
        simp only [Nat.zero_mul, Nat.zero_add]
        rw [cell_of_row _ _ _ c t' (0, 0) h1]
        simpa using hk
      · cases h
    · cases h
  · injection h with h; subst h; exact hv
  · injection h with h; subst h; exact hv
  · injection h with h; subst h; exact hv
  · injection h with h; subst h
    obtain ⟨A, n, cap, h1, h2, h3, h4, h5, _⟩ := hv
    exact ⟨A, n, cap, h1, h2, h3, h4, rows h5, trivial⟩
  · injection h with h; subst h; exact hv
  · injection h with h; subst h; exact hv
  · injection h with h; subst h; exact hv
  · injection h with h; subst h
    obtain ⟨hi, b, o, e, hh⟩ := hv
    exact ⟨hi, b, o, e, fun x hx => RelT.mono _ x (fun _ _ hk => all_IC hk) (fun _ _ => all_IC) (hh x hx)⟩
  · injection h with h; subst h
    obtain ⟨c, h1, h2, h3⟩ := hv
    exact ⟨c, h1, h2, fun j p hj => by simp at hj⟩
  · rename_i row i off len cap
    cases ha : aslRows X.H row i off len with
    | none => rw [ha] at h; cases h
    | some r =>
      rw [ha] at h
      simp only [Option.map_some, Option.some.injEq] at h
      subst h
      obtain ⟨l, hH, rfl⟩ := aslRows_some ha
      obtain ⟨l', hH', rfl, hlc, hcm, hfit⟩ := hv
      rw [hH] at hH'
      simp only [Option.some.injEq, AB.arr.injEq, heq_eq_eq, true_and] at hH'
      subst hH'
      obtain ⟨vs, g2, g3, g4⟩ := arr_vals hX hH off len (by omega)
      have hlen : ((l.drop off).take len).length = len := by rw [List.length_take, List.length_drop]; omega
      refine ⟨_, len, cap, rfl, hlen.symm, hlc, hcm, .inr ⟨_, _, rfl, fun j x hj => ?_⟩, trivial⟩
      refine RelT.mono row x (fun k y hk => freshAll_IC rfl ?_) (fun _ _ => all_IC) (g2.2 j x hj)
      have := g4 _ _ hk
      rwa [← Nat.add_assoc] at this
  · cases h

theorem seeCs_rel {X : Ctx} (hX : HRel X) : ∀ {cs cs' : List AC}, seeCs X.H cs = some cs' → ∀ {vs : List Value}, PW (VRc X) cs vs → PW (VRc (freshAll X)) cs' vs
  | [], cs', h, vs, hv => by
    simp only [seeCs, Option.some.injEq] at h
    subst h
    have : vs = [] := List.eq_nil_of_length_eq_zero hv.1.symm
    subst this; exact PW.nil
  | c :: l, cs', h, vs, hv => by
    simp only [seeCs] at h
    split at h
    · rename_i p q h1 h2
      injection h with h; subst h
      cases vs with
      | nil => have := hv.1; simp at this
      | cons y ys => exact PW.cons (seeC_rel hX h1 (hv.2 0 c y rfl rfl)) (seeCs_rel hX h2 ⟨by have := hv.1; simpa using this, fun j d z hd hz => hv.2 (j + 1) d z (by simpa using hd) (by simpa using hz)⟩)
    · cases h
theorem seeA_rel {X : Ctx} (hX : HRel X) {t : Option TypeId} {c c' : AV} (h : seeA P X.H t c = some c') {v : Value} (hv : VR X c v) : VR (freshAll X) c' v := by
  unfold seeA at h
  split at h
  · rename_i i off len cap
    split at h
    · rename_i e hu
      split at h
      · rename_i row l hr
        injection h with h; subst h
        obtain ⟨_, rfl, hc, hm⟩ := hv
        obtain ⟨g1, vs, g2, g3, g4⟩ := cslRows_ok hX hr hc hm
        refine ⟨_, len, cap, rfl, g1.symm, hc, hm, .inr ⟨_, _, rfl, fun j x hj => ?_⟩, trivial⟩
        refine RelT.mono row x (fun k y hk => freshAll_IC rfl ?_) (fun _ _ => all_IC) (g2.2 j x hj)
        have := g4 _ _ hk
        rwa [← Nat.add_assoc] at this
      · cases h
    · cases h
  · rename_i c hne
    cases hc : seeC X.H c with
    | none => rw [hc] at h; cases h
    | some c1 =>
      rw [hc] at h
      simp only [Option.map_some, Option.some.injEq] at h
      subst h
      exact seeC_rel hX hc hv
  · rename_i cs
    cases hc : seeCs X.H cs with
    | none => rw [hc] at h; cases h
    | some c1 =>
      rw [hc] at h
      simp only [Option.map_some, Option.some.injEq] at h
      subst h
      obtain ⟨ar, e, hp⟩ := hv
      exact ⟨ar, e, seeCs_rel hX hc hp⟩
  · cases h

theorem seeAs_rel {X : Ctx} (hX : HRel X) : ∀ {ts : List TypeId} {cs cs' : List AV}, seeAs P X.H ts cs = some cs' → ∀ {vs : List Value}, PW (VR X) cs vs → PW (VR (freshAll X)) cs' vs
  | ts, [], cs', h, vs, hv => by
    simp only [seeAs, Option.some.injEq] at h
    subst h
    have : vs = [] := List.eq_nil_of_length_eq_zero hv.1.symm
    subst this; exact PW.nil
  | ts, c :: l, cs', h, vs, hv => by
    simp only [seeAs] at h
    split at h
    · rename_i p q h1 h2
      injection h with h; subst h
      cases vs with
      | nil => have := hv.1; simp at this
      | cons y ys => exact PW.cons (seeA_rel (P := P) hX h1 (hv.2 0 c y rfl rfl)) (seeAs_rel hX h2 ⟨by have := hv.1; simpa using this, fun j d z hd hz => hv.2 (j + 1) d z (by simpa using hd) (by simpa using hz)⟩)
    · cases h

/-- A value that names no memory. -/
def bareC : AC → Bool
  | .int .. => true
  | .bool _ => true
  | .str _ => true
  | _ => false

def bareA : AV → Bool
  | .one c => bareC c
  | .agg cs => cs.all bareC
  | .tup ps => ps.all fun p => p.2.all bareC

theorem bareC_rel {X Z : Ctx} {c : AC} (h : bareC c = true) {v : Value} (hv : VRc X c v) : VRc Z c v := by
  cases c <;> first | exact hv | cases h

theorem bareP_rel {X Z : Ctx} {p : Bool × List AC} (h : p.2.all bareC = true) {v : Value} (hv : VRp X p v) : VRp Z p v := by
  obtain ⟨b, cs⟩ := p
  have hb := List.all_eq_true.1 h
  cases b with
  | true =>
    obtain ⟨ar, e, hl, hp⟩ := hv
    exact ⟨ar, e, hl, fun j c y hc hy => bareC_rel (hb c (List.mem_of_getElem? hc)) (hp j c y hc hy)⟩
  | false =>
    obtain ⟨c, e, hc⟩ := hv
    exact ⟨c, e, bareC_rel (hb c (by rw [show cs = [c] from e]; exact List.mem_cons_self ..)) hc⟩

theorem bareA_rel {X Z : Ctx} {c : AV} (h : bareA c = true) {v : Value} (hv : VR X c v) : VR Z c v := by
  cases c with
  | one c => exact bareC_rel h hv
  | agg cs => exact bareP_rel (p := (true, cs)) h hv
  | tup ps =>
    obtain ⟨arr, e, hl, hp⟩ := hv
    exact ⟨arr, e, hl, fun j c y hc hy => bareP_rel (List.all_eq_true.1 h c (List.mem_of_getElem? hc)) (hp j c y hc hy)⟩

/-- A call that only reads the caller's blocks. -/
theorem see_call {kp : KP} (hkp : KPok P kp) {X : Ctx} (hX : HRel X) {k : Nat} {ts : List TypeId} {args args' : List AV} {os : List Bool} {v : AV} {cs os' : List Bool} (ha : seeAs P X.H ts args = some args')
    (hk : kp k args' os = some (v, cs, os')) (hb : bareA v = true) (hcs : ∀ c ∈ cs, c = true) {vs : List Value} (hv : PW (VR X) args vs) :
    (∃ fn, P.funcs[k]? = some fn ∧ (fn.name == "runtime.NumGoroutine") = false ∧ fn.body.isNone = false) ∧
    Calls P k vs.toArray X.w fun e w' => ∃ val X', e = .returned val ∧ X'.w = w' ∧ X.le X' ∧ HRel X' ∧ X'.H = X.H ∧ VR X' v val := by
  obtain ⟨h1, h2⟩ := hkp k args' os v cs os' hk hcs (freshAll X) vs (HRel.freshAll X) (seeAs_rel hX ha hv)
  refine ⟨h1, h2.mono fun e w' hh => ?_⟩
  obtain ⟨val, Y', rfl, rfl, hle, hY, _, hval⟩ := hh
  have h0 : Y'.w0 = X.w := hle.w0
  have hl : Y'.lent = fun _ => False := hle.lent
  have hbel : Below X.w.heap.size X.w Y'.w := by
    refine ⟨?_, ?_, ?_, ?_, ?_⟩
    · have := hY.os; rw [h0] at this; exact this
    · have := hY.tape; rw [h0] at this; exact this
    · have := hY.output; rw [h0] at this; exact this
    · have := hY.size; rw [h0] at this; exact this
    · intro k hk; have := hY.below k (by rw [h0]; exact hk) (by rw [hl]; exact id); rw [h0] at this; exact this
  exact ⟨val, X.withW Y'.w, rfl, rfl, withW_le hX hbel, hX.withW hbel, rfl, bareA_rel hb hval⟩
end Go.Eng
