import Derived.Test.YtolhkkoakneflaaEngZ2
set_option linter.unusedVariables false
namespace Go.Eng
open Go Go.RowKit
variable {P : Program}

/-! ### Typed arguments -/
inductive PT where
  | one (t : CT) | agg (t : CT)

abbrev PT.den : PT → Type
  | .one t => t.den
  | .agg t => t.den

def oneAC : (t : CT) → t.den → AC
  | .int k, n => .int k n
  | .bool, b => .bool b
  | .str, s => .str s
  | .sl row, l => .sl row l .shared
  | .unit, _ => .unk
  | .pair _ _, _ => .unk

def PT.enc : (t : PT) → t.den → AV
  | .one t, v => .one (oneAC t v)
  | .agg t, v => .agg (t.cells v)

def unOne : (t : CT) → AC → Option t.den
  | .int k, .int k' n => if (CT.int k).eqb (.int k') then some n else none
  | .bool, .bool b => some b
  | .str, .str s => some s
  | .sl row, .nils => some ([] : List row.den)
  | .sl row, .sl row' l _ => if h : row'.eqb row = true then some (castL row' row h l) else none
  | _, _ => none

def PT.dec : (t : PT) → AV → Option t.den
  | .one t, .one c => unOne t c
  | .agg t, .agg cs => match t.un cs with
    | some (v, []) => some v
    | _ => none
  | _, _ => none

theorem castL_shared {X : Ctx} {row row' : CT} (h : row'.eqb row = true) {l : List row'.den} {m : SM} {v : Value} (hv : VRc X (.sl row' l m) v) : VRc X (.sl row (castL row' row h l) .shared) v := by
  have e := CT.eq_of_eqb _ _ h
  subst e
  obtain ⟨A, n, cap, h1, h2, h3, h4, h5, _⟩ := hv
  exact ⟨A, n, cap, h1, h2, h3, h4, h5, trivial⟩

theorem unOne_rel {X : Ctx} (t : CT) {c : AC} {d : t.den} (h : unOne t c = some d) {v : Value} (hv : VRc X c v) : VRc X (oneAC t d) v := by
  unfold unOne at h
  split at h
  · split at h
    · rename_i k k' n he
      injection h with h; subst h
      have e := CT.eq_of_eqb _ _ he
      injection e with e; subst e
      exact hv
    · cases h
  · injection h with h; subst h; exact hv
  · injection h with h; subst h; exact hv
  · injection h with h; subst h
    exact ⟨none, 0, 0, hv, rfl, Nat.le_refl _, Nat.zero_le _, .inl rfl, trivial⟩
  · split at h
    · rename_i row row' l m he
      injection h with h; subst h
      exact castL_shared he hv
    · cases h
  · cases h

theorem cells_pw {X : Ctx} (t : CT) (d : t.den) (vs : List Value) (hl : vs.length = t.width) (h : RelT t d (fun k y => vs[k]? = some y) X.IC) : PW (VRc X) (t.cells d) vs :=
  ⟨by rw [CT.cells_length, hl], fun j c y hc hy => by
    obtain ⟨y', h1, h2⟩ := RelT.cell t d _ h j c hc
    rw [hy] at h1; injection h1 with h1; subst h1; exact h2⟩

theorem PT.dec_rel {X : Ctx} (t : PT) {a : AV} {d : t.den} (h : t.dec a = some d) {v : Value} (hv : VR X a v) : VR X (t.enc d) v := by
  unfold PT.dec at h
  split at h
  · exact unOne_rel _ h hv
  · rename_i t cs
    split at h
    · rename_i v0 hu
      injection h with h; subst h
      obtain ⟨ar, e, hp⟩ := hv
      obtain ⟨h1, _, h2⟩ := CT.un_rel (X := X) t cs v0 [] ar.toList hu hp
      refine ⟨ar, e, cells_pw t v0 _ ?_ h2⟩
      have := hp.1
      simp only [List.length_nil, Nat.add_zero] at h1
      rw [← this, h1]
    · cases h
  · cases h

abbrev dens : List PT → Type
  | [] => Unit
  | t :: r => t.den × dens r
def encs : (l : List PT) → dens l → List AV
  | [], _ => []
  | t :: r, d => t.enc d.1 :: encs r d.2
def decs : (l : List PT) → List AV → Option (dens l)
  | [], [] => some ()
  | t :: r, a :: as => match t.dec a, decs r as with
    | some x, some y => some (x, y)
    | _, _ => none
  | _, _ => none

theorem decs_rel {X : Ctx} : ∀ (l : List PT) {args : List AV} {d : dens l}, decs l args = some d → ∀ {vs : List Value}, PW (VR X) args vs → PW (VR X) (encs l d) vs
  | [], args, d, h, vs, hv => by
    cases args with
    | nil => exact ⟨hv.1, fun j c y hc => by simp [encs] at hc⟩
    | cons a as => cases h
  | t :: r, args, d, h, vs, hv => by
    cases args with
    | nil => cases h
    | cons a as =>
      simp only [decs] at h
      split at h
      · rename_i x y h1 h2
        injection h with h; subst h
        cases vs with
        | nil => have := hv.1; simp at this
        | cons z zs =>
          exact PW.cons (PT.dec_rel t h1 (hv.2 0 a z rfl rfl)) (decs_rel r h2 ⟨by have := hv.1; simpa using this, fun j c w hc hw => hv.2 (j + 1) c w (by simpa using hc) (by simpa using hw)⟩)
      · cases h

theorem encs_length : ∀ (l : List PT) (d : dens l), (encs l d).length = l.length
  | [], _ => rfl
  | t :: r, d => by simp [encs, encs_length r d.2]

/-! ### Contracts -/

/-- From these arguments and blocks a function comes to this. -/
def HeapCall (P : Program) (f : Nat) (args : List AV) (hp : List AB) (r : AV) (hp' : List AB) : Prop :=
  (∃ fn, P.funcs[f]? = some fn ∧ (fn.name == "runtime.NumGoroutine") = false ∧ fn.body.isNone = false) ∧
  ∀ X vs, HRel X → (X.H = fun i => hp[i]?) → PW (VR X) args vs →
    Calls P f vs.toArray X.w fun e w' => ∃ val X', e = .returned val ∧ X'.w = w' ∧ X.le X' ∧ HRel X' ∧ (X'.H = fun i => hp'[i]?) ∧ VR X' r val

theorem PureCall.weaken {f : Nat} {args args' : List AV} {r : AV} (h : PureCall P f args' r) (hw : ∀ X vs, HRel X → PW (VR X) args vs → PW (VR X) args' vs) : PureCall P f args r :=
  ⟨h.1, fun X vs hX hv => h.2 X vs hX (hw X vs hX hv)⟩
/-- What is known of the arguments may be used. -/
theorem PureCall.facts {f : Nat} {args : List AV} {r : AV} (hf : ∃ fn, P.funcs[f]? = some fn ∧ (fn.name == "runtime.NumGoroutine") = false ∧ fn.body.isNone = false)
    (h : (∃ X vs, HRel X ∧ PW (VR X) args vs) → PureCall P f args r) : PureCall P f args r :=
  ⟨hf, fun X vs hX hv => (h ⟨X, vs, hX, hv⟩).2 X vs hX hv⟩
theorem PureCall.res {f : Nat} {args : List AV} {r r' : AV} (h : PureCall P f args r) (e : r = r') : PureCall P f args r' := e ▸ h
theorem PureCall.resw {f : Nat} {args : List AV} {r r' : AV} (h : PureCall P f args r) (hw : ∀ X v, HRel X → VR X r v → VR X r' v) : PureCall P f args r' :=
  ⟨h.1, fun X vs hX hv => (h.2 X vs hX hv).mono fun e w' ⟨val, X', h1, h2, h3, h4, h5, h6⟩ => ⟨val, X', h1, h2, h3, h4, h5, hw X' val h4 h6⟩⟩

/-! What a pure call hands back: its own arrays are promised from then on. -/
def wkRC (H : Nat → Option AB) (c : AC) (os : List Bool) : Option (AC × List Bool × List Bool) :=
  match c with
  | .asl row i off len cap => match aslRows H row i off len with
    | some l => match br (Nat.beq len cap) os with
      | (true, cs, r) => some (.sl row l .full, cs, r)
      | (false, cs, r) => some (.sl row l .shared, cs, r)
    | none => none
  | c => (wkC c).map fun c => (c, [], os)
def wkRCs (H : Nat → Option AB) : List AC → List Bool → Option (List AC × List Bool × List Bool)
  | [], os => some ([], [], os)
  | c :: r, os => match wkRC H c os with
    | some (x, c1, os1) => match wkRCs H r os1 with
      | some (l, c2, os2) => some (x :: l, c2 ++ c1, os2)
      | none => none
    | none => none
def wkRPs (H : Nat → Option AB) : List (Bool × List AC) → List Bool → Option (List (Bool × List AC) × List Bool × List Bool)
  | [], os => some ([], [], os)
  | (b, c) :: r, os => match wkRCs H c os with
    | some (x, c1, os1) => match wkRPs H r os1 with
      | some (l, c2, os2) => some ((b, x) :: l, c2 ++ c1, os2)
      | none => none
    | none => none
def wkRA (H : Nat → Option AB) (v : AV) (os : List Bool) : Option (AV × List Bool × List Bool) :=
  match v with
  | .one c => (wkRC H c os).map fun x => (.one x.1, x.2)
  | .agg cs => (wkRCs H cs os).map fun x => (.agg x.1, x.2)
  | .tup ps => (wkRPs H ps os).map fun x => (.tup x.1, x.2)

theorem own_IC {X Y' : Ctx} (hX : HRel X) (hle : (fresh X).le Y') (hY : HRel Y') {i : Nat} {b : AB} (hb : Y'.H i = some b) (hl : b.loc = true) {o : Nat} {y : Value} (hc : Y'.w.cell? ⟨Y'.φ i, o, none⟩ = some y) : (X.withW Y'.w).IC ⟨Y'.φ i, o, none⟩ y := by
  have hp := hY.place i b hb hl
  rw [hle.w0, hle.lent] at hp
  have hp' : X.w.heap.size ≤ Y'.φ i := by
    rcases hp with h | h
    · exact h
    · exact h.elim
  refine ⟨.inl (Nat.le_trans hX.size hp'), rfl, hc, fun j b' hb' hl' => ?_, fun e he => ?_⟩
  · have := hX.lt j b' hb' hl'
    show X.φ j ≠ _
    simp only; omega
  · have := hX.frlt _ _ he
    simp only at this; omega

theorem wkRC_rel {X Y' : Ctx} (hX : HRel X) (hle : (fresh X).le Y') (hY : HRel Y') {c c' : AC} {os cs os' : List Bool} (h : wkRC Y'.H c os = some (c', cs, os')) {v : Value} (hv : VRc Y' c v) (hcs : ∀ c ∈ cs, c = true) : VRc (X.withW Y'.w) c' v := by
  unfold wkRC at h
  split at h
  · rename_i row i off len cap
    split at h
    · rename_i l hl
      obtain ⟨l0, hH, rfl⟩ := aslRows_some hl
      obtain ⟨l', hH', rfl, hlc, hcm, hfit⟩ := hv
      rw [hH] at hH'
      simp only [Option.some.injEq, AB.arr.injEq, heq_eq_eq, true_and] at hH'
      subst hH'
      obtain ⟨vs, g2, g3, g4⟩ := arr_vals hY hH off len (by omega)
      have hlen : ((l0.drop off).take len).length = len := by rw [List.length_take, List.length_drop]; omega
      have base : ∀ (m : SM), (match m with | .shared => True | .full => cap = len | _ => False) → VRc (X.withW Y'.w) (.sl row ((l0.drop off).take len) m) (.slice (some ⟨Y'.φ i, off * row.width, none⟩) len cap) := by
        intro m hm
        refine ⟨_, len, cap, rfl, hlen.symm, hlc, hcm, .inr ⟨_, _, rfl, fun j x hj => ?_⟩, ?_⟩
        · refine RelT.mono row x (fun k y hk => ?_) (fun a y => back_IC hX hle) (g2.2 j x hj)
          have := g4 _ _ hk
          rw [← Nat.add_assoc] at this
          exact own_IC hX hle hY hH rfl this
        · cases m with
          | shared => trivial
          | full => exact hm
          | nn => exact hm.elim
          | own _ _ => exact hm.elim
      split at h
      · rename_i cs1 r hbr
        simp only [Option.some.injEq, Prod.mk.injEq] at h
        obtain ⟨rfl, rfl, rfl⟩ := h
        have := br_eq (b := Nat.beq len cap) (os := os) (by rw [hbr]; exact hcs)
        rw [hbr] at this
        simp only [Eq.comm (a := true), Nat.beq_eq] at this
        exact base .full this.symm
      · simp only [Option.some.injEq, Prod.mk.injEq] at h
        obtain ⟨rfl, rfl, rfl⟩ := h
        exact base .shared trivial
    · cases h
  · rename_i hne
    cases hw : wkC c with
    | none => rw [hw] at h; cases h
    | some c1 =>
      rw [hw] at h
      simp only [Option.map_some, Option.some.injEq, Prod.mk.injEq] at h
      obtain ⟨rfl, rfl, rfl⟩ := h
      exact wkC_rel (fun a y h => back_IC hX hle h) hw hv

theorem wkRCs_rel {X Y' : Ctx} (hX : HRel X) (hle : (fresh X).le Y') (hY : HRel Y') : ∀ {l l' : List AC} {os cs os' : List Bool}, wkRCs Y'.H l os = some (l', cs, os') → (∀ c ∈ cs, c = true) → ∀ {vs : List Value}, PW (VRc Y') l vs → PW (VRc (X.withW Y'.w)) l' vs
  | [], l', os, cs, os', h, _, vs, hv => by
    simp only [wkRCs, Option.some.injEq, Prod.mk.injEq] at h
    obtain ⟨rfl, _, _⟩ := h
    have : vs = [] := List.eq_nil_of_length_eq_zero hv.1.symm
    subst this; exact PW.nil
  | c :: l, l', os, cs, os', h, hcs, vs, hv => by
    simp only [wkRCs] at h
    split at h
    · rename_i x c1 os1 h1
      split at h
      · rename_i l2 c2 os2 h2
        simp only [Option.some.injEq, Prod.mk.injEq] at h
        obtain ⟨rfl, rfl, rfl⟩ := h
        cases vs with
        | nil => have := hv.1; simp at this
        | cons y ys =>
          exact PW.cons (wkRC_rel hX hle hY h1 (hv.2 0 c y rfl rfl) fun q hq => hcs q (List.mem_append_right _ hq))
            (wkRCs_rel hX hle hY h2 (fun q hq => hcs q (List.mem_append_left _ hq)) ⟨by have := hv.1; simpa using this, fun j d z hd hz => hv.2 (j + 1) d z (by simpa using hd) (by simpa using hz)⟩)
      · cases h
    · cases h
theorem wkRCs_one {H : Nat → Option AB} {c : AC} {l' : List AC} {os cs os' : List Bool} (h : wkRCs H [c] os = some (l', cs, os')) : ∃ c', l' = [c'] := by
  simp only [wkRCs] at h
  split at h
  · simp only [Option.some.injEq, Prod.mk.injEq] at h
    exact ⟨_, h.1.symm⟩
  · cases h
theorem wkRP_rel {X Y' : Ctx} (hX : HRel X) (hle : (fresh X).le Y') (hY : HRel Y') {b : Bool} {l l' : List AC} {os cs os' : List Bool} (h : wkRCs Y'.H l os = some (l', cs, os')) (hcs : ∀ c ∈ cs, c = true) {v : Value} (hv : VRp Y' (b, l) v) : VRp (X.withW Y'.w) (b, l') v := by
  cases b with
  | true =>
    obtain ⟨ar, e, hp⟩ := hv
    exact ⟨ar, e, wkRCs_rel hX hle hY h hcs hp⟩
  | false =>
    obtain ⟨c, rfl, hc⟩ := hv
    obtain ⟨c', rfl⟩ := wkRCs_one h
    have := wkRCs_rel hX hle hY h hcs (vs := [v]) (PW.cons hc PW.nil)
    exact ⟨c', rfl, this.2 0 _ _ rfl rfl⟩
theorem wkRPs_rel {X Y' : Ctx} (hX : HRel X) (hle : (fresh X).le Y') (hY : HRel Y') : ∀ {l l' : List (Bool × List AC)} {os cs os' : List Bool}, wkRPs Y'.H l os = some (l', cs, os') → (∀ c ∈ cs, c = true) → ∀ {vs : List Value}, PW (VRp Y') l vs → PW (VRp (X.withW Y'.w)) l' vs
  | [], l', os, cs, os', h, _, vs, hv => by
    simp only [wkRPs, Option.some.injEq, Prod.mk.injEq] at h
    obtain ⟨rfl, _, _⟩ := h
    have : vs = [] := List.eq_nil_of_length_eq_zero hv.1.symm
    subst this; exact PW.nil
  | (b, c) :: l, l', os, cs, os', h, hcs, vs, hv => by
    simp only [wkRPs] at h
    split at h
    · rename_i x c1 os1 h1
      split at h
      · rename_i l2 c2 os2 h2
        simp only [Option.some.injEq, Prod.mk.injEq] at h
        obtain ⟨rfl, rfl, rfl⟩ := h
        cases vs with
        | nil => have := hv.1; simp at this
        | cons y ys =>
          exact PW.cons (wkRP_rel hX hle hY h1 (fun q hq => hcs q (List.mem_append_right _ hq)) (hv.2 0 _ y rfl rfl))
            (wkRPs_rel hX hle hY h2 (fun q hq => hcs q (List.mem_append_left _ hq)) ⟨by have := hv.1; simpa using this, fun j d z hd hz => hv.2 (j + 1) d z (by simpa using hd) (by simpa using hz)⟩)
      · cases h
    · cases h
theorem wkRA_rel {X Y' : Ctx} (hX : HRel X) (hle : (fresh X).le Y') (hY : HRel Y') {c c' : AV} {os cs os' : List Bool} (h : wkRA Y'.H c os = some (c', cs, os')) (hcs : ∀ c ∈ cs, c = true) {v : Value} (hv : VR Y' c v) : VR (X.withW Y'.w) c' v := by
  cases c with
  | one c =>
    simp only [wkRA] at h
    cases hc : wkRC Y'.H c os with
    | none => rw [hc] at h; cases h
    | some x =>
      rw [hc] at h
      simp only [Option.map_some, Option.some.injEq, Prod.mk.injEq] at h
      obtain ⟨rfl, e⟩ := h
      have e1 : x.2.1 = cs := by rw [e]
      subst e1
      exact wkRC_rel hX hle hY (c' := x.1) (cs := x.2.1) (os' := x.2.2) hc hv hcs
  | agg l =>
    simp only [wkRA] at h
    cases hc : wkRCs Y'.H l os with
    | none => rw [hc] at h; cases h
    | some x =>
      rw [hc] at h
      simp only [Option.map_some, Option.some.injEq, Prod.mk.injEq] at h
      obtain ⟨rfl, e⟩ := h
      have e1 : x.2.1 = cs := by rw [e]
      subst e1
      exact wkRP_rel hX hle hY (b := true) (l' := x.1) (cs := x.2.1) (os' := x.2.2) hc hcs hv
  | tup l =>
    simp only [wkRA] at h
    cases hc : wkRPs Y'.H l os with
    | none => rw [hc] at h; cases h
    | some x =>
      rw [hc] at h
      simp only [Option.map_some, Option.some.injEq, Prod.mk.injEq] at h
      obtain ⟨rfl, e⟩ := h
      have e1 : x.2.1 = cs := by rw [e]
      subst e1
      obtain ⟨arr, e, hp⟩ := hv
      exact ⟨arr, e, wkRPs_rel hX hle hY (l' := x.1) (cs := x.2.1) (os' := x.2.2) hc hcs hp⟩

/-- What a run from nothing hands back. -/
def backR (x : Option (AV × List AB × List Bool × List Bool)) : Option (AV × List Bool × List Bool) :=
  match x with
  | some (r, hp', cs, os') => match wkRA (fun i => hp'[i]?) r os' with
    | some (r', cs2, os2) => some (r', cs2 ++ cs, os2)
    | none => none
  | none => none

theorem pure_of_run2 (hm : P.follows .mixedOrders = true) {kp : KP} {kq : KX} {kh : KH} (hkp : KPok P kp) (hkq : KXok P kq) (hkh : KHok P kh) {lc : LC} {n f : Nat} {fn : Func} {c : Code} (hf : P.funcs[f]? = some fn) (hne : (fn.name == "runtime.NumGoroutine") = false)
    (hb : fn.body = some c) (hlc : LCok P lc c) {args args' : List AV} (ha : wkAs args = some args') {os : List Bool} {r' : AV} {cs os' : List Bool}
    (h : backR (runF P kp kq kh lc n fn c args' [] os) = some (r', cs, os')) (hcs : ∀ c ∈ cs, c = true) : PureCall P f args r' := by
  unfold backR at h
  split at h
  · rename_i r hp' cs0 os0 hrun
    split at h
    · rename_i r1 cs2 os2 hr
      simp only [Option.some.injEq, Prod.mk.injEq] at h
      obtain ⟨rfl, rfl, rfl⟩ := h
      refine ⟨⟨fn, hf, hne, by rw [hb]; rfl⟩, fun X vs hX hv => ?_⟩
      have hv' : PW (VR (fresh X)) args' vs := wkAs_rel (fun a y h => fresh_IC h) ha hv
      refine (runF_sim hm hkp hkq hkh hf hb hlc hrun (fun q hq => hcs q (List.mem_append_right _ hq)) (HRel.fresh X) (by funext i; simp [fresh]) hv').mono fun e w' hh => ?_
      obtain ⟨val, Y', rfl, rfl, hle, hY, hH, hval⟩ := hh
      have hbel := below_of hle hY
      refine ⟨val, X.withW Y'.w, rfl, rfl, withW_le hX hbel, hX.withW hbel, rfl, ?_⟩
      rw [← hH] at hr
      exact wkRA_rel hX hle hY hr (fun q hq => hcs q (List.mem_append_left _ hq)) hval
    · cases h
  · cases h

/-- Blocks that nothing names any more are let go. -/
def trimR (m : Nat) (x : Option (AV × List AB × List Bool × List Bool)) : Option (AV × List AB × List Bool × List Bool) :=
  match x with
  | some (r, hp', cs, os') => if (idsV r).all (fun i => Nat.blt i m) && (hp'.take m).all (fun b => (idsB b).all fun i => Nat.blt i m) then some (r, hp'.take m, cs, os') else some (r, hp', cs, os')
  | none => none

theorem trimR_ok {m : Nat} {x : Option (AV × List AB × List Bool × List Bool)} {r : AV} {hp1 : List AB} {cs os' : List Bool} (h : trimR m x = some (r, hp1, cs, os')) : ∃ hp', x = some (r, hp', cs, os') ∧
    ∀ {X0 X : Ctx} {val : Value}, X0.le X → HRel X → (X.H = fun i => hp'[i]?) → VR X r val → (∀ i, m ≤ i → X0.H i = none) → ∃ X', X'.w = X.w ∧ X0.le X' ∧ HRel X' ∧ (X'.H = fun i => hp1[i]?) ∧ VR X' r val := by
  unfold trimR at h
  split at h
  · rename_i r0 hp' cs0 os0
    split at h
    · rename_i hc
      simp only [Option.some.injEq, Prod.mk.injEq] at h
      obtain ⟨rfl, rfl, rfl, rfl⟩ := h
      refine ⟨hp', rfl, fun {X0 X val} hle hX hH hv hm => ⟨X.cut m, rfl, cut_le hle hm, hX.cut fun i b hi hb j hj => ?_, ?_, VR.cut _ _ (fun i hi => ?_) hv⟩⟩
      · simp only [Bool.and_eq_true, List.all_eq_true, Nat.blt_eq] at hc
        rw [hH] at hb
        exact hc.2 b (List.mem_of_getElem? (i := i) (by rw [List.getElem?_take, if_pos hi]; exact hb)) j hj
      · funext i
        simp only [Ctx.cut, hH, List.getElem?_take]
      · simp only [Bool.and_eq_true, List.all_eq_true, Nat.blt_eq] at hc
        exact hc.1 i hi
    · simp only [Option.some.injEq, Prod.mk.injEq] at h
      obtain ⟨rfl, rfl, rfl, rfl⟩ := h
      exact ⟨hp', rfl, fun {X0 X val} hle hX hH hv hm => ⟨X, rfl, hle, hX, hH, hv⟩⟩
  · cases h

/-- A function's body, walked where it is called, where no contract serves. -/
def khM (P : Program) (kp : KP) (kq : KX) (kh0 : KH) (lcs : Nat → LC) (rounds : Nat) : Nat → KH
  | 0 => kh0
  | d + 1 => fun f args hp os => match kh0 f args hp os with
    | some r => some r
    | none => match P.funcs[f]? with
      | some fn => if fn.name == "runtime.NumGoroutine" then none else match fn.body with
        | some c => trimR hp.length (runF P kp kq (khM P kp kq kh0 lcs rounds d) (lcs f) rounds fn c args hp os)
        | none => none
      | none => none

theorem khM_ok (hm : P.follows .mixedOrders = true) {kp : KP} {kq : KX} (hkp : KPok P kp) (hkq : KXok P kq) {kh0 : KH} (hk0 : KHok P kh0) {lcs : Nat → LC} (hl : LCsOk P lcs) {rounds : Nat} : ∀ d, KHok P (khM P kp kq kh0 lcs rounds d)
  | 0 => hk0
  | d + 1 => fun f args hp os r hp' cs os' h hcs X vs hX hH hv => by
    simp only [khM] at h
    split at h
    · rename_i r0 h0
      injection h with h; subst h
      exact hk0 _ _ _ _ _ _ _ _ h0 hcs X vs hX hH hv
    · split at h
      · rename_i fn hf
        split at h
        · cases h
        · rename_i hne
          split at h
          · rename_i c hb
            refine ⟨⟨fn, hf, by simpa using hne, by rw [hb]; rfl⟩, ?_⟩
            obtain ⟨hp1, hrun, htr⟩ := trimR_ok h
            refine (runF_sim hm hkp hkq (khM_ok hm hkp hkq hk0 hl d) hf hb (hl f fn c hf hb) hrun hcs hX hH hv).mono fun e w' ⟨val, X', h1, h2, h3, h4, h5, h6⟩ => ?_
            obtain ⟨X'', g1, g2, g3, g4, g5⟩ := htr h3 h4 h5 h6 (fun i hi => by rw [hH]; exact List.getElem?_eq_none hi)
            exact ⟨val, X'', h1, g1.trans h2, g2, g3, g4, g5⟩
          · cases h
      · cases h

def kpM (P : Program) (kp : KP) (kh0 : KH) (lcs : Nat → LC) (rounds : Nat) : Nat → KP
  | 0 => kp
  | d + 1 => fun f args os => match kp f args os with
    | some r => some r
    | none => match P.funcs[f]?, wkAs args with
        | some fn, some args' => if fn.name == "runtime.NumGoroutine" then none else match fn.body with
          | some c => backR (runF P kp (kxN (kpM P kp kh0 lcs rounds d)) (khM P kp (kxN (kpM P kp kh0 lcs rounds d)) kh0 lcs rounds d) (lcs f) rounds fn c args' [] os)
          | none => none
        | _, _ => none

theorem kpM_ok (hm : P.follows .mixedOrders = true) {kp : KP} (hkp : KPok P kp) {kh0 : KH} (hk0 : KHok P kh0) {lcs : Nat → LC} (hl : LCsOk P lcs) {rounds : Nat} : ∀ d, KPok P (kpM P kp kh0 lcs rounds d)
  | 0 => hkp
  | d + 1 => fun f args os r cs os' h hcs X vs hX hv => by
    simp only [kpM] at h
    split at h
    · rename_i r0 h0
      injection h with h; subst h
      exact hkp f args os r cs os' h0 hcs X vs hX hv
    · split at h
      · rename_i fn args' hf ha
        split at h
        · cases h
        · rename_i hne
          split at h
          · rename_i c hb
            have hq := kpM_ok hm hkp hk0 hl (rounds := rounds) d
            have := pure_of_run2 hm hkp (kxN_ok hq) (khM_ok hm hkp (kxN_ok hq) hk0 hl d) hf (by simpa using hne) hb (hl f fn c hf hb) ha h hcs
            exact ⟨this.1, this.2 X vs hX hv⟩
          · cases h
      · cases h

/-- A contract of a function that only reads, at blocks of the caller's own. -/
def khSee (P : Program) (kp : KP) (kh : KH) : KH := fun f args hp os => match kh f args hp os with
  | some r => some r
  | none => match seeAs P (fun i => hp[i]?) (paramsOf P f) args with
    | some args' => match kp f args' os with
      | some (v, cs, r) => if bareA v then some (v, hp, cs, r) else none
      | none => none
    | none => none

theorem khSee_ok {kp : KP} (hkp : KPok P kp) {kh : KH} (hkh : KHok P kh) : KHok P (khSee P kp kh) := fun f args hp os r hp' cs os' h hcs X vs hX hH hv => by
  unfold khSee at h
  split at h
  · rename_i r0 h0
    injection h with h; subst h
    exact hkh _ _ _ _ _ _ _ _ h0 hcs X vs hX hH hv
  · split at h
    · rename_i args' ha
      split at h
      · rename_i v cs0 r0 hk
        split at h
        · rename_i hb
          simp only [Option.some.injEq, Prod.mk.injEq] at h
          obtain ⟨rfl, rfl, rfl, rfl⟩ := h
          obtain ⟨g1, g2⟩ := see_call hkp hX (by rw [hH]; exact ha) hk hb hcs hv
          exact ⟨g1, g2.mono fun e w' ⟨val, X', h1, h2, h3, h4, h5, h6⟩ => ⟨val, X', h1, h2, h3, h4, by rw [h5, hH], h6⟩⟩
        · cases h
      · cases h
    · cases h

structure Env (P : Program) where
  hm : P.follows .mixedOrders = true
  kp : KP
  hkp : KPok P kp
  kh : KH
  hkh : KHok P kh
  lcs : Nat → LC
  hlc : LCsOk P lcs
  hkeep : ∀ f fn c, P.funcs[f]? = some fn → fn.body = some c → LCkeep (lcs f) c
  kl : KL
  kd : Nat → Bool
  hkl : KLok P kl

def kh0 : KH := fun _ _ _ _ => none
def Env.base (hm : P.follows .mixedOrders = true) : Env P :=
  { hm, kp := kp0, hkp := kp0_ok, kh := kh0, hkh := (fun _ _ _ _ _ _ _ _ h => by cases h), lcs := lcs0, hlc := lcs0_ok, hkeep := (fun _ _ _ _ _ _ _ _ _ _ _ _ h => by cases h), kl := klN, kd := fun _ => false, hkl := klN_ok }

def rounds0 : Nat := 300
def depth0 : Nat := 9
def Env.khs (E : Env P) : KH := khSee P E.kp E.kh
def Env.kq (E : Env P) : KP := kpM P E.kp E.khs E.lcs rounds0 depth0
def Env.kx (E : Env P) : KX := ⟨E.kq, E.kl, E.kd⟩
def Env.kk (E : Env P) : KH := khM P E.kp E.kx E.khs E.lcs rounds0 depth0
theorem Env.khs_ok (E : Env P) : KHok P E.khs := khSee_ok E.hkp E.hkh
theorem Env.kq_ok (E : Env P) : KPok P E.kq := kpM_ok E.hm E.hkp E.khs_ok E.hlc _
theorem Env.kx_ok (E : Env P) : KXok P E.kx := ⟨E.kq_ok, E.hkl⟩
theorem Env.kk_ok (E : Env P) : KHok P E.kk := khM_ok E.hm E.hkp E.kx_ok E.khs_ok E.hlc _

/-- A function's run. -/
def Env.run (E : Env P) (f : Nat) (args : List AV) (hp : List AB) (os : List Bool) : Option (AV × List AB × List Bool) :=
  match P.funcs[f]? with
  | some fn => if fn.name == "runtime.NumGoroutine" then none else match fn.body with
    | some c => match runF P E.kp E.kx E.kk (E.lcs f) rounds0 fn c args hp os with
      | some (r, hp', cs, _) => some (r, hp', cs)
      | none => none
    | none => none
  | none => none

def Env.pureRun (E : Env P) (f : Nat) (args : List AV) (os : List Bool) : Option (AV × List Bool) :=
  match wkAs args, P.funcs[f]? with
  | some args', some fn => if fn.name == "runtime.NumGoroutine" then none else match fn.body with
    | some c => match backR (runF P E.kp E.kx E.kk (E.lcs f) rounds0 fn c args' [] os) with
      | some (r, cs, _) => some (r, cs)
      | none => none
    | none => none
  | _, _ => none

theorem Env.heap_ok (E : Env P) {f : Nat} {args : List AV} {hp : List AB} {os : List Bool} {r : AV} {hp' : List AB} {cs : List Bool} (h : E.run f args hp os = some (r, hp', cs)) (hcs : ∀ c ∈ cs, c = true) : HeapCall P f args hp r hp' := by
  unfold Env.run at h
  split at h
  · rename_i fn hf
    split at h
    · cases h
    · rename_i hne
      split at h
      · rename_i c hb
        split at h
        · rename_i hrun
          simp only [Option.some.injEq, Prod.mk.injEq] at h
          obtain ⟨rfl, rfl, rfl⟩ := h
          refine ⟨⟨fn, hf, by simpa using hne, by rw [hb]; rfl⟩, fun X vs hX hH hv => ?_⟩
          exact runF_sim E.hm E.hkp E.kx_ok E.kk_ok hf hb (E.hlc f fn c hf hb) hrun hcs hX hH hv
        · cases h
      · cases h
  · cases h

theorem Env.pure_ok (E : Env P) {f : Nat} {args : List AV} {os : List Bool} {r : AV} {cs : List Bool} (h : E.pureRun f args os = some (r, cs)) (hcs : ∀ c ∈ cs, c = true) : PureCall P f args r := by
  unfold Env.pureRun at h
  split at h
  · rename_i args' fn ha hf
    split at h
    · cases h
    · rename_i hne
      split at h
      · rename_i c hb
        split at h
        · rename_i hrun
          simp only [Option.some.injEq, Prod.mk.injEq] at h
          obtain ⟨rfl, rfl⟩ := h
          exact pure_of_run2 E.hm E.hkp E.kx_ok E.kk_ok hf (by simpa using hne) hb (E.hlc f fn c hf hb) ha hrun hcs
        · cases h
      · cases h
  · cases h

/-- What a contract gives, what it takes for granted, the choices left. -/
def ret1 {α : Type} (x : α) (os : List Bool) : Option (α × List Bool × List Bool) := some (x, [], os)
def retC {α : Type} (x : α) (cs : List Bool) (os : List Bool) : Option (α × List Bool × List Bool) := some (x, cs, os)
/-- One of two, by a choice. -/
def brL {α : Type} (b : Bool) (os : List Bool) (t f : List Bool → Option (α × List Bool × List Bool)) : Option (α × List Bool × List Bool) :=
  match br b os with
  | (true, c, r) => match t r with
    | some (x, cs, r') => some (x, cs ++ c, r')
    | none => none
  | (false, c, r) => match f r with
    | some (x, cs, r') => some (x, cs ++ c, r')
    | none => none
theorem brL_some {α : Type} {b : Bool} {os : List Bool} {t f : List Bool → Option (α × List Bool × List Bool)} {x : α} {cs r : List Bool} (h : brL b os t f = some (x, cs, r)) (hcs : ∀ c ∈ cs, c = true) :
    (b = true ∧ ∃ os' cs', t os' = some (x, cs', r) ∧ ∀ c ∈ cs', c = true) ∨ (b = false ∧ ∃ os' cs', f os' = some (x, cs', r) ∧ ∀ c ∈ cs', c = true) := by
  unfold brL at h
  split at h
  · rename_i c r0 hb
    split at h
    · rename_i y cs' r' ht
      simp only [Option.some.injEq, Prod.mk.injEq] at h
      obtain ⟨rfl, rfl, rfl⟩ := h
      have := br_eq (b := b) (os := os) (by rw [hb]; intro q hq; exact hcs q (List.mem_append_right _ hq))
      rw [hb] at this
      exact .inl ⟨this.symm, r0, cs', ht, fun q hq => hcs q (List.mem_append_left _ hq)⟩
    · cases h
  · rename_i c r0 hb
    split at h
    · rename_i y cs' r' ht
      simp only [Option.some.injEq, Prod.mk.injEq] at h
      obtain ⟨rfl, rfl, rfl⟩ := h
      have := br_eq (b := b) (os := os) (by rw [hb]; intro q hq; exact hcs q (List.mem_append_right _ hq))
      rw [hb] at this
      exact .inr ⟨this.symm, r0, cs', ht, fun q hq => hcs q (List.mem_append_left _ hq)⟩
    · cases h

/-- One contract more. -/
def addKP (kp : KP) (f : Nat) (fn : List AV → List Bool → Option (AV × List Bool × List Bool)) : KP := fun g args os =>
  if Nat.beq g f then match fn args os with
    | some r => some r
    | none => kp g args os
  else kp g args os
theorem addKP_ok {kp : KP} (hkp : KPok P kp) {f : Nat} {fn : List AV → List Bool → Option (AV × List Bool × List Bool)} (ok : ∀ args os r cs os', fn args os = some (r, cs, os') → (∀ c ∈ cs, c = true) → PureCall P f args r) : KPok P (addKP kp f fn) :=
  fun g args os r cs os' h hcs X vs hX hv => by
    unfold addKP at h
    split at h
    · rename_i e
      simp only [Nat.beq_eq] at e
      subst e
      split at h
      · rename_i r0 hf
        injection h with h; subst h
        exact ⟨(ok _ _ _ _ _ hf hcs).1, (ok _ _ _ _ _ hf hcs).2 X vs hX hv⟩
      · exact hkp _ _ _ _ _ _ h hcs X vs hX hv
    · exact hkp _ _ _ _ _ _ h hcs X vs hX hv

def Env.addP (E : Env P) (f : Nat) (fn : List AV → List Bool → Option (AV × List Bool × List Bool)) (ok : ∀ args os r cs os', fn args os = some (r, cs, os') → (∀ c ∈ cs, c = true) → PureCall P f args r) : Env P :=
  { E with kp := addKP E.kp f fn, hkp := addKP_ok E.hkp ok }

/-- One contract more, typed. -/
def Env.addT (E : Env P) (f : Nat) (sig : List PT) (res : dens sig → List Bool → Option (AV × List Bool × List Bool)) (ok : ∀ d os r cs os', res d os = some (r, cs, os') → (∀ c ∈ cs, c = true) → PureCall P f (encs sig d) r) : Env P :=
  E.addP f (fun args os => match decs sig args with
    | some d => res d os
    | none => none) fun args os r cs os' h hcs => by
    split at h
    · rename_i d hd
      exact (ok d os r cs os' h hcs).weaken fun X vs _ hv => decs_rel sig hd hv
    · cases h
/-- One that comes to one thing. -/
def Env.addT1 (E : Env P) (f : Nat) (sig : List PT) (res : dens sig → AV) (cs : dens sig → List Bool) (ok : ∀ d, (∀ c ∈ cs d, c = true) → PureCall P f (encs sig d) (res d)) : Env P :=
  E.addT f sig (fun d os => some (res d, cs d, os)) fun d os r c os' h hcs => by
    simp only [Option.some.injEq, Prod.mk.injEq] at h
    obtain ⟨rfl, rfl, rfl⟩ := h
    exact ok d hcs

def addKH (kh : KH) (f : Nat) (fn : List AV → List AB → List Bool → Option ((AV × List AB) × List Bool × List Bool)) : KH := fun g args hp os =>
  if Nat.beq g f then match fn args hp os with
    | some ((r, hp'), cs, os') => some (r, hp', cs, os')
    | none => kh g args hp os
  else kh g args hp os
theorem addKH_ok {kh : KH} (hkh : KHok P kh) {f : Nat} {fn : List AV → List AB → List Bool → Option ((AV × List AB) × List Bool × List Bool)} (ok : ∀ args hp os r hp' cs os', fn args hp os = some ((r, hp'), cs, os') → (∀ c ∈ cs, c = true) → HeapCall P f args hp r hp') : KHok P (addKH kh f fn) :=
  fun g args hp os r hp' cs os' h hcs X vs hX hH hv => by
    unfold addKH at h
    split at h
    · rename_i e
      simp only [Nat.beq_eq] at e
      subst e
      split at h
      · rename_i r0 hp0 cs0 os0 hf
        simp only [Option.some.injEq, Prod.mk.injEq] at h
        obtain ⟨rfl, rfl, rfl, rfl⟩ := h
        exact ⟨(ok _ _ _ _ _ _ _ hf hcs).1, (ok _ _ _ _ _ _ _ hf hcs).2 X vs hX hH hv⟩
      · exact hkh _ _ _ _ _ _ _ _ h hcs X vs hX hH hv
    · exact hkh _ _ _ _ _ _ _ _ h hcs X vs hX hH hv
def Env.addH (E : Env P) (f : Nat) (fn : List AV → List AB → List Bool → Option ((AV × List AB) × List Bool × List Bool)) (ok : ∀ args hp os r hp' cs os', fn args hp os = some ((r, hp'), cs, os') → (∀ c ∈ cs, c = true) → HeapCall P f args hp r hp') : Env P :=
  { E with kh := addKH E.kh f fn, hkh := addKH_ok E.hkh ok }

/-- A closed function, its whole run laid out by the kernel. -/
theorem Env.closed (E : Env P) {f : Nat} {v : AV} {os : List Bool} {cs : List Bool} {hp : List AB} (h : E.run f [] [] os = some (v, hp, cs)) (hcs : ∀ c ∈ cs, c = true) (hv : v = .one (.bool true)) (W : World) :
    Calls P f #[] W fun e w' => e = .returned (.bool true) ∧ Below W.heap.size W w' := by
  subst hv
  refine ((E.heap_ok h hcs).2 (topC W) [] (HRel.topC W) (by funext i; simp [topC, freshAll]) PW.nil).mono fun e w' hh => ?_
  obtain ⟨val, X', rfl, rfl, hle, hY, _, hval⟩ := hh
  have hval' : val = .bool true := hval
  exact ⟨by rw [hval'], below_top hle hY⟩
end Go.Eng
