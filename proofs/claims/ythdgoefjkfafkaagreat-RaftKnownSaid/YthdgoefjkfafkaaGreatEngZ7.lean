import Derived.ChangeArms
import Derived.ChangeCalls
import Derived.OpenShut
import Derived.SizedLaws
import Derived.WideKeyArgs
import Derived.HandedShaped
import Derived.Test.YthdgoefjkfafkaaGreatEngZ2
set_option linter.unusedVariables false
namespace Go.Eng
section
open Go Go.RowKit
variable {P : Program}

/-! ### Typed arguments -/
inductive PT where
  | one (t : CT) | agg (t : CT)

abbrev PT.den : PT → Type
  | .one t => t.den
  | .agg t => t.den

def oneAC : (t : CT) → t.den → AC
  | .int k, n => .int k n
  | .bool, b => .bool b
  | .str, s => .str s
  | .sl row, l => .sl row l .shared
  | .unit, _ => .unk
  | .pair _ _, _ => .unk

def PT.enc : (t : PT) → t.den → AV
  | .one t, v => .one (oneAC t v)
  | .agg t, v => .agg (t.cells v)

def unOne : (t : CT) → AC → Option t.den
  | .int k, .int k' n => if (CT.int k).eqb (.int k') then some n else none
  | .bool, .bool b => some b
  | .str, .str s => some s
  | .sl row, .nils => some ([] : List row.den)
  | .sl row, .sl row' l _ => if h : row'.eqb row = true then some (castL row' row h l) else none
  | _, _ => none

def PT.dec : (t : PT) → AV → Option t.den
  | .one t, .one c => unOne t c
  | .agg t, .agg cs => match t.un cs with
    | some (v, []) => some v
    | _ => none
  | _, _ => none

theorem castL_shared {X : Ctx} {row row' : CT} (h : row'.eqb row = true) {l : List row'.den} {m : SM} {v : Value} (hv : VRc X (.sl row' l m) v) : VRc X (.sl row (castL row' row h l) .shared) v := by
  have e := CT.eq_of_eqb _ _ h
  subst e
  obtain ⟨A, n, cap, h1, h2, h3, h4, h5, _⟩ := hv
  exact ⟨A, n, cap, h1, h2, h3, h4, h5, trivial⟩

theorem unOne_rel {X : Ctx} (t : CT) {c : AC} {d : t.den} (h : unOne t c = some d) {v : Value} (hv : VRc X c v) : VRc X (oneAC t d) v := by
  unfold unOne at h
  split at h
  · split at h
    · rename_i k k' n he
      injection h with h; subst h
      have e := CT.eq_of_eqb _ _ he
      injection e with e; subst e
      exact hv
    · cases h
  · injection h with h; subst h; exact hv
  · injection h with h; subst h; exact hv
  · injection h with h; subst h
    exact ⟨none, 0, 0, hv, rfl, Nat.le_refl _, Nat.zero_le _, .inl rfl, trivial⟩
  · split at h
    · rename_i row row' l m he
      injection h with h; subst h
      exact castL_shared he hv
    · cases h
  · cases h

theorem cells_pw {X : Ctx} (t : CT) (d : t.den) (vs : List Value) (hl : vs.length = t.width) (h : RelT t d (fun k y => vs[k]? = some y) X.IC) : PW (VRc X) (t.cells d) vs :=
  ⟨by rw [CT.cells_length, hl], fun j c y hc hy => by
    obtain ⟨y', h1, h2⟩ := RelT.cell t d _ h j c hc
    rw [hy] at h1; injection h1 with h1; subst h1; exact h2⟩

theorem PT.dec_rel {X : Ctx} (t : PT) {a : AV} {d : t.den} (h : t.dec a = some d) {v : Value} (hv : VR X a v) : VR X (t.enc d) v := by
  unfold PT.dec at h
  split at h
  · exact unOne_rel _ h hv
  · rename_i t cs
    split at h
    · rename_i v0 hu
      injection h with h; subst h
      obtain ⟨ar, e, hp⟩ := hv
      obtain ⟨h1, _, h2⟩ := CT.un_rel (X := X) t cs v0 [] ar.toList hu hp
      refine ⟨ar, e, cells_pw t v0 _ ?_ h2⟩
      have := hp.1
      simp only [List.length_nil, Nat.add_zero] at h1
      rw [← this, h1]
    · cases h
  · cases h

abbrev dens : List PT → Type
  | [] => Unit
  | t :: r => t.den × dens r
def encs : (l : List PT) → dens l → List AV
  | [], _ => []
  | t :: r, d => t.enc d.1 :: encs r d.2
def decs : (l : List PT) → List AV → Option (dens l)
  | [], [] => some ()
  | t :: r, a :: as => match t.dec a, decs r as with
    | some x, some y => some (x, y)
    | _, _ => none
  | _, _ => none

theorem decs_rel {X : Ctx} : ∀ (l : List PT) {args : List AV} {d : dens l}, decs l args = some d → ∀ {vs : List Value}, PW (VR X) args vs → PW (VR X) (encs l d) vs
  | [], args, d, h, vs, hv => by
    cases args with
    | nil => exact ⟨hv.1, fun j c y hc => by simp [encs] at hc⟩
    | cons a as => cases h
  | t :: r, args, d, h, vs, hv => by
    cases args with
    | nil => cases h
    | cons a as =>
      simp only [decs] at h
      split at h
      · rename_i x y h1 h2
        injection h with h; subst h
        cases vs with
        | nil => have := hv.1; simp at this
        | cons z zs =>
          exact PW.cons (PT.dec_rel t h1 (hv.2 0 a z rfl rfl)) (decs_rel r h2 ⟨by have := hv.1; simpa using this, fun j c w hc hw => hv.2 (j + 1) c w (by simpa using hc) (by simpa using hw)⟩)
      · cases h

theorem encs_length : ∀ (l : List PT) (d : dens l), (encs l d).length = l.length
  | [], _ => rfl
  | t :: r, d => by simp [encs, encs_length r d.2]

/-! ### Contracts -/

/-- From these arguments and blocks a function comes to this. -/
def HeapCall (P : Program) (f : Nat) (args : List AV) (hp : List AB) (r : AV) (hp' : List AB) : Prop :=
  (∃ fn, P.funcs[f]? = some fn ∧ (fn.name == "runtime.NumGoroutine") = false ∧ fn.body.isNone = false) ∧
  ∀ X vs, HRel X → (X.H = fun i => hp[i]?) → PW (VR X) args vs →
    Calls P f vs.toArray X.w fun e w' => ∃ val X', e = .returned val ∧ X'.w = w' ∧ X.le X' ∧ HRel X' ∧ (X'.H = fun i => hp'[i]?) ∧ VR X' r val

theorem PureCall.weaken {f : Nat} {args args' : List AV} {r : AV} (h : PureCall P f args' r) (hw : ∀ X vs, HRel X → PW (VR X) args vs → PW (VR X) args' vs) : PureCall P f args r :=
  ⟨h.1, fun X vs hX hv => h.2 X vs hX (hw X vs hX hv)⟩
/-- What is known of the arguments may be used. -/
theorem PureCall.facts {f : Nat} {args : List AV} {r : AV} (hf : ∃ fn, P.funcs[f]? = some fn ∧ (fn.name == "runtime.NumGoroutine") = false ∧ fn.body.isNone = false)
    (h : (∃ X vs, HRel X ∧ PW (VR X) args vs) → PureCall P f args r) : PureCall P f args r :=
  ⟨hf, fun X vs hX hv => (h ⟨X, vs, hX, hv⟩).2 X vs hX hv⟩
theorem PureCall.res {f : Nat} {args : List AV} {r r' : AV} (h : PureCall P f args r) (e : r = r') : PureCall P f args r' := e ▸ h
theorem PureCall.resw {f : Nat} {args : List AV} {r r' : AV} (h : PureCall P f args r) (hw : ∀ X v, HRel X → VR X r v → VR X r' v) : PureCall P f args r' :=
  ⟨h.1, fun X vs hX hv => (h.2 X vs hX hv).mono fun e w' ⟨val, X', h1, h2, h3, h4, h5, h6⟩ => ⟨val, X', h1, h2, h3, h4, h5, hw X' val h4 h6⟩⟩

/-! What a pure call hands back: its own arrays are promised from then on. -/
def wkRC (H : Nat → Option AB) (c : AC) (os : List Bool) : Option (AC × List Bool × List Bool) :=
  match c with
  | .asl row i off len cap => match aslRows H row i off len with
    | some l => match br (Nat.beq len cap) os with
      | (true, cs, r) => some (.sl row l .full, cs, r)
      | (false, cs, r) => some (.sl row l .shared, cs, r)
    | none => none
  | .msl row i off len => match aslRows H row i off len with
    | some l => some (.sl row l .shared, [], os)
    | none => none
  | c => (wkC c).map fun c => (c, [], os)
def wkRCs (H : Nat → Option AB) : List AC → List Bool → Option (List AC × List Bool × List Bool)
  | [], os => some ([], [], os)
  | c :: r, os => match wkRC H c os with
    | some (x, c1, os1) => match wkRCs H r os1 with
      | some (l, c2, os2) => some (x :: l, c2 ++ c1, os2)
      | none => none
    | none => none
def wkRPs (H : Nat → Option AB) : List (Bool × List AC) → List Bool → Option (List (Bool × List AC) × List Bool × List Bool)
  | [], os => some ([], [], os)
  | (b, c) :: r, os => match wkRCs H c os with
    | some (x, c1, os1) => match wkRPs H r os1 with
      | some (l, c2, os2) => some ((b, x) :: l, c2 ++ c1, os2)
      | none => none
    | none => none
def wkRA (H : Nat → Option AB) (v : AV) (os : List Bool) : Option (AV × List Bool × List Bool) :=
  match v with
  | .one c => (wkRC H c os).map fun x => (.one x.1, x.2)
  | .agg cs => (wkRCs H cs os).map fun x => (.agg x.1, x.2)
  | .tup ps => (wkRPs H ps os).map fun x => (.tup x.1, x.2)
  | .val y => some (.val y, [], os)
  | .gd _ _ _ => none
  | .alt _ => none
  | .clo _ _ => none

theorem own_IC {X Y' : Ctx} (hX : HRel X) (hle : (fresh X).le Y') (hY : HRel Y') {i : Nat} {b : AB} (hb : Y'.H i = some b) (hl : b.loc = true) {o : Nat} {y : Value} (hc : Y'.w.cell? ⟨Y'.φ i, o, none⟩ = some y) (hf : Y'.w.frozen? ⟨Y'.φ i, o, none⟩ = false) : (X.withW Y'.w).IC ⟨Y'.φ i, o, none⟩ y := by
  have hp := hY.place i b hb hl
  rw [hle.w0, hle.lent] at hp
  have hp' : X.w.heap.size ≤ Y'.φ i := by
    rcases hp with h | h
    · exact h
    · exact h.elim
  refine ⟨.inl (Nat.le_trans hX.size hp'), rfl, hc, fun j b' hb' hl' => ?_, fun e he => ?_, hf⟩
  · have := hX.lt j b' hb' hl'
    show X.φ j ≠ _
    simp only; omega
  · have := hX.frlt _ _ he
    simp only at this; omega

theorem wkRC_rel {X Y' : Ctx} (hX : HRel X) (hle : (fresh X).le Y') (hY : HRel Y') {c c' : AC} {os cs os' : List Bool} (h : wkRC Y'.H c os = some (c', cs, os')) {v : Value} (hv : VRc Y' c v) (hcs : ∀ c ∈ cs, c = true) : VRc (X.withW Y'.w) c' v := by
  unfold wkRC at h
  split at h
  · rename_i row i off len cap
    split at h
    · rename_i l hl
      obtain ⟨l0, hH, rfl⟩ := aslRows_some hl
      obtain ⟨l', hH', rfl, hlc, hcm, hfit⟩ := hv
      rw [hH] at hH'
      simp only [Option.some.injEq, AB.arr.injEq, heq_eq_eq, true_and] at hH'
      subst hH'
      obtain ⟨vs, g2, g3, g4⟩ := arr_vals hY hH off len (by omega)
      have hlen : ((l0.drop off).take len).length = len := by rw [List.length_take, List.length_drop]; omega
      have base : ∀ (m : SM), (match m with | .shared => True | .full => cap = len | _ => False) → VRc (X.withW Y'.w) (.sl row ((l0.drop off).take len) m) (.slice (some ⟨Y'.φ i, off * row.width, none⟩) len cap) := by
        intro m hm
        refine ⟨_, len, cap, rfl, hlen.symm, hlc, hcm, .inr ⟨_, _, rfl, fun j x hj => ?_⟩, ?_⟩
        · refine RelT.mono row x (fun k y hk => ?_) (fun a y => back_IC hX hle) (g2.2 j x hj)
          have := g4 _ _ hk
          rw [← Nat.add_assoc] at this
          exact own_IC hX hle hY hH rfl this (arr_fz hY hH this)
        · cases m with
          | shared => trivial
          | full => exact hm
          | nn => exact hm.elim
          | «at» _ _ => exact hm.elim
          | own _ _ => exact hm.elim
      split at h
      · rename_i cs1 r hbr
        simp only [Option.some.injEq, Prod.mk.injEq] at h
        obtain ⟨rfl, rfl, rfl⟩ := h
        have := br_eq (b := Nat.beq len cap) (os := os) (by rw [hbr]; exact hcs)
        rw [hbr] at this
        simp only [Eq.comm (a := true), Nat.beq_eq] at this
        exact base .full this.symm
      · simp only [Option.some.injEq, Prod.mk.injEq] at h
        obtain ⟨rfl, rfl, rfl⟩ := h
        exact base .shared trivial
    · cases h
  · rename_i row i off len
    split at h
    · rename_i l hl
      obtain ⟨l0, hH, rfl⟩ := aslRows_some hl
      obtain ⟨l', o, cap, hH', rfl, hlc, hcm, hfit, ho⟩ := hv
      rw [hH] at hH'
      simp only [Option.some.injEq, AB.arr.injEq, heq_eq_eq, true_and] at hH'
      subst hH'
      obtain ⟨vs, g2, g3, g4⟩ := arr_vals hY hH off len (by omega)
      have hlen : ((l0.drop off).take len).length = len := by rw [List.length_take, List.length_drop]; omega
      simp only [Option.some.injEq, Prod.mk.injEq] at h
      obtain ⟨rfl, rfl, rfl⟩ := h
      rcases Nat.eq_zero_or_pos len with h0 | h0
      · exact ⟨_, len, cap, rfl, hlen.symm, hlc, hcm, .inl h0, trivial⟩
      have ho' := ho h0
      subst ho'
      refine ⟨_, len, cap, rfl, hlen.symm, hlc, hcm, .inr ⟨_, _, rfl, fun j x hj => ?_⟩, trivial⟩
      refine RelT.mono row x (fun k y hk => ?_) (fun a y => back_IC hX hle) (g2.2 j x hj)
      have := g4 _ _ hk
      rw [← Nat.add_assoc] at this
      exact own_IC hX hle hY hH rfl this (arr_fz hY hH this)
    · cases h
  · rename_i hne
    cases hw : wkC c with
    | none => rw [hw] at h; cases h
    | some c1 =>
      rw [hw] at h
      simp only [Option.map_some, Option.some.injEq, Prod.mk.injEq] at h
      obtain ⟨rfl, rfl, rfl⟩ := h
      exact wkC_rel (fun a y h => back_IC hX hle h) hw hv

theorem wkRCs_rel {X Y' : Ctx} (hX : HRel X) (hle : (fresh X).le Y') (hY : HRel Y') : ∀ {l l' : List AC} {os cs os' : List Bool}, wkRCs Y'.H l os = some (l', cs, os') → (∀ c ∈ cs, c = true) → ∀ {vs : List Value}, PW (VRc Y') l vs → PW (VRc (X.withW Y'.w)) l' vs
  | [], l', os, cs, os', h, _, vs, hv => by
    simp only [wkRCs, Option.some.injEq, Prod.mk.injEq] at h
    obtain ⟨rfl, _, _⟩ := h
    have : vs = [] := List.eq_nil_of_length_eq_zero hv.1.symm
    subst this; exact PW.nil
  | c :: l, l', os, cs, os', h, hcs, vs, hv => by
    simp only [wkRCs] at h
    split at h
    · rename_i x c1 os1 h1
      split at h
      · rename_i l2 c2 os2 h2
        simp only [Option.some.injEq, Prod.mk.injEq] at h
        obtain ⟨rfl, rfl, rfl⟩ := h
        cases vs with
        | nil => have := hv.1; simp at this
        | cons y ys =>
          exact PW.cons (wkRC_rel hX hle hY h1 (hv.2 0 c y rfl rfl) fun q hq => hcs q (List.mem_append_right _ hq))
            (wkRCs_rel hX hle hY h2 (fun q hq => hcs q (List.mem_append_left _ hq)) ⟨by have := hv.1; simpa using this, fun j d z hd hz => hv.2 (j + 1) d z (by simpa using hd) (by simpa using hz)⟩)
      · cases h
    · cases h
theorem wkRCs_one {H : Nat → Option AB} {c : AC} {l' : List AC} {os cs os' : List Bool} (h : wkRCs H [c] os = some (l', cs, os')) : ∃ c', l' = [c'] := by
  simp only [wkRCs] at h
  split at h
  · simp only [Option.some.injEq, Prod.mk.injEq] at h
    exact ⟨_, h.1.symm⟩
  · cases h
theorem wkRP_rel {X Y' : Ctx} (hX : HRel X) (hle : (fresh X).le Y') (hY : HRel Y') {b : Bool} {l l' : List AC} {os cs os' : List Bool} (h : wkRCs Y'.H l os = some (l', cs, os')) (hcs : ∀ c ∈ cs, c = true) {v : Value} (hv : VRp Y' (b, l) v) : VRp (X.withW Y'.w) (b, l') v := by
  cases b with
  | true =>
    obtain ⟨ar, e, hp⟩ := hv
    exact ⟨ar, e, wkRCs_rel hX hle hY h hcs hp⟩
  | false =>
    obtain ⟨c, rfl, hc⟩ := hv
    obtain ⟨c', rfl⟩ := wkRCs_one h
    have := wkRCs_rel hX hle hY h hcs (vs := [v]) (PW.cons hc PW.nil)
    exact ⟨c', rfl, this.2 0 _ _ rfl rfl⟩
theorem wkRPs_rel {X Y' : Ctx} (hX : HRel X) (hle : (fresh X).le Y') (hY : HRel Y') : ∀ {l l' : List (Bool × List AC)} {os cs os' : List Bool}, wkRPs Y'.H l os = some (l', cs, os') → (∀ c ∈ cs, c = true) → ∀ {vs : List Value}, PW (VRp Y') l vs → PW (VRp (X.withW Y'.w)) l' vs
  | [], l', os, cs, os', h, _, vs, hv => by
    simp only [wkRPs, Option.some.injEq, Prod.mk.injEq] at h
    obtain ⟨rfl, _, _⟩ := h
    have : vs = [] := List.eq_nil_of_length_eq_zero hv.1.symm
    subst this; exact PW.nil
  | (b, c) :: l, l', os, cs, os', h, hcs, vs, hv => by
    simp only [wkRPs] at h
    split at h
    · rename_i x c1 os1 h1
      split at h
      · rename_i l2 c2 os2 h2
        simp only [Option.some.injEq, Prod.mk.injEq] at h
        obtain ⟨rfl, rfl, rfl⟩ := h
        cases vs with
        | nil => have := hv.1; simp at this
        | cons y ys =>
          exact PW.cons (wkRP_rel hX hle hY h1 (fun q hq => hcs q (List.mem_append_right _ hq)) (hv.2 0 _ y rfl rfl))
            (wkRPs_rel hX hle hY h2 (fun q hq => hcs q (List.mem_append_left _ hq)) ⟨by have := hv.1; simpa using this, fun j d z hd hz => hv.2 (j + 1) d z (by simpa using hd) (by simpa using hz)⟩)
      · cases h
    · cases h
theorem wkRA_rel {X Y' : Ctx} (hX : HRel X) (hle : (fresh X).le Y') (hY : HRel Y') {c c' : AV} {os cs os' : List Bool} (h : wkRA Y'.H c os = some (c', cs, os')) (hcs : ∀ c ∈ cs, c = true) {v : Value} (hv : VR Y' c v) : VR (X.withW Y'.w) c' v := by
  cases c with
  | one c =>
    simp only [wkRA] at h
    cases hc : wkRC Y'.H c os with
    | none => rw [hc] at h; cases h
    | some x =>
      rw [hc] at h
      simp only [Option.map_some, Option.some.injEq, Prod.mk.injEq] at h
      obtain ⟨rfl, e⟩ := h
      have e1 : x.2.1 = cs := by rw [e]
      subst e1
      exact wkRC_rel hX hle hY (c' := x.1) (cs := x.2.1) (os' := x.2.2) hc hv hcs
  | val y =>
    simp only [wkRA, Option.some.injEq, Prod.mk.injEq] at h
    obtain ⟨rfl, rfl, rfl⟩ := h
    exact hv
  | gd b g c => cases h
  | alt _ => cases h
  | clo _ _ => cases h
  | agg l =>
    simp only [wkRA] at h
    cases hc : wkRCs Y'.H l os with
    | none => rw [hc] at h; cases h
    | some x =>
      rw [hc] at h
      simp only [Option.map_some, Option.some.injEq, Prod.mk.injEq] at h
      obtain ⟨rfl, e⟩ := h
      have e1 : x.2.1 = cs := by rw [e]
      subst e1
      exact wkRP_rel hX hle hY (b := true) (l' := x.1) (cs := x.2.1) (os' := x.2.2) hc hcs hv
  | tup l =>
    simp only [wkRA] at h
    cases hc : wkRPs Y'.H l os with
    | none => rw [hc] at h; cases h
    | some x =>
      rw [hc] at h
      simp only [Option.map_some, Option.some.injEq, Prod.mk.injEq] at h
      obtain ⟨rfl, e⟩ := h
      have e1 : x.2.1 = cs := by rw [e]
      subst e1
      obtain ⟨arr, e, hp⟩ := hv
      exact ⟨arr, e, wkRPs_rel hX hle hY (l' := x.1) (cs := x.2.1) (os' := x.2.2) hc hcs hp⟩

/-- What a run from nothing hands back. -/
def backR (x : Option (AV × List AB × List Bool × List Bool)) : Option (AV × List Bool × List Bool) :=
  match x with
  | some (r, hp', cs, os') => match wkRA (fun i => hp'[i]?) r os' with
    | some (r', cs2, os2) => some (r', cs2 ++ cs, os2)
    | none => none
  | none => none

theorem pure_of_run2 (hm : P.follows .mixedOrders = true) {kp : KP} {kq : KX} {kh : KH} (hkp : KPok P kp) (hkq : KXok P kq) (hkh : KHok P kh) {lc : LC} {n f : Nat} {fn : Func} {c : Code} (hf : P.funcs[f]? = some fn) (hne : (fn.name == "runtime.NumGoroutine") = false)
    (hb : fn.body = some c) (hlc : LCok P lc c) {args args' : List AV} (ha : wkAs args = some args') {os : List Bool} {r' : AV} {cs os' : List Bool}
    (h : backR (runF P kp kq kh lc n fn c args' [] os) = some (r', cs, os')) (hcs : ∀ c ∈ cs, c = true) : PureCall P f args r' := by
  unfold backR at h
  split at h
  · rename_i r hp' cs0 os0 hrun
    split at h
    · rename_i r1 cs2 os2 hr
      simp only [Option.some.injEq, Prod.mk.injEq] at h
      obtain ⟨rfl, rfl, rfl⟩ := h
      refine ⟨⟨fn, hf, hne, by rw [hb]; rfl⟩, fun X vs hX hv => ?_⟩
      have hv' : PW (VR (fresh X)) args' vs := wkAs_rel (fun a y h => fresh_IC h) ha hv
      refine (runF_sim hm hkp hkq hkh hf hb hlc hrun (fun q hq => hcs q (List.mem_append_right _ hq)) (HRel.fresh X) (by funext i; simp [fresh]) hv').mono fun e w' hh => ?_
      obtain ⟨val, Y', rfl, rfl, hle, hY, hH, hval⟩ := hh
      have hbel := below_of hle hY
      refine ⟨val, X.withW Y'.w, rfl, rfl, withW_le hX hbel hle.drawn, hX.withW hbel hle.drawn, rfl, ?_⟩
      rw [← hH] at hr
      exact wkRA_rel hX hle hY hr (fun q hq => hcs q (List.mem_append_left _ hq)) hval
    · cases h
  · cases h

/-- Blocks that nothing names any more are let go. -/
def trimR (m : Nat) (x : Option (AV × List AB × List Bool × List Bool)) : Option (AV × List AB × List Bool × List Bool) :=
  match x with
  | some (r, hp', cs, os') => if (idsV r).all (fun i => Nat.blt i m) && (hp'.take m).all (fun b => (idsB b).all fun i => Nat.blt i m) then some (r, hp'.take m, cs, os') else some (r, hp', cs, os')
  | none => none

theorem trimR_ok {m : Nat} {x : Option (AV × List AB × List Bool × List Bool)} {r : AV} {hp1 : List AB} {cs os' : List Bool} (h : trimR m x = some (r, hp1, cs, os')) : ∃ hp', x = some (r, hp', cs, os') ∧
    ∀ {X0 X : Ctx} {val : Value}, X0.le X → HRel X → (X.H = fun i => hp'[i]?) → VR X r val → (∀ i, m ≤ i → X0.H i = none) → ∃ X', X'.w = X.w ∧ X0.le X' ∧ HRel X' ∧ (X'.H = fun i => hp1[i]?) ∧ VR X' r val := by
  unfold trimR at h
  split at h
  · rename_i r0 hp' cs0 os0
    split at h
    · rename_i hc
      simp only [Option.some.injEq, Prod.mk.injEq] at h
      obtain ⟨rfl, rfl, rfl, rfl⟩ := h
      refine ⟨hp', rfl, fun {X0 X val} hle hX hH hv hm => ⟨X.cut m, rfl, cut_le hle hm, hX.cut fun i b hi hb j hj => ?_, ?_, VR.cut _ _ (fun i hi => ?_) hv⟩⟩
      · simp only [Bool.and_eq_true, List.all_eq_true, Nat.blt_eq] at hc
        rw [hH] at hb
        exact hc.2 b (List.mem_of_getElem? (i := i) (by rw [List.getElem?_take, if_pos hi]; exact hb)) j hj
      · funext i
        simp only [Ctx.cut, hH, List.getElem?_take]
      · simp only [Bool.and_eq_true, List.all_eq_true, Nat.blt_eq] at hc
        exact hc.1 i hi
    · simp only [Option.some.injEq, Prod.mk.injEq] at h
      obtain ⟨rfl, rfl, rfl, rfl⟩ := h
      exact ⟨hp', rfl, fun {X0 X val} hle hX hH hv hm => ⟨X, rfl, hle, hX, hH, hv⟩⟩
  · cases h

/-- A function's body, walked where it is called, where no contract serves. -/
def khM (P : Program) (kp : KP) (kq : KX) (kh0 : KH) (lcs : Nat → LC) (rounds : Nat) : Nat → KH
  | 0 => kh0
  | d + 1 => fun f args hp os => match kh0 f args hp os with
    | some r => some r
    | none => match P.funcs[f]? with
      | some fn => if fn.name == "runtime.NumGoroutine" then none else match fn.body with
        | some c => trimR hp.length (runF P kp kq (khM P kp kq kh0 lcs rounds d) (lcs f) rounds fn c args hp os)
        | none => none
      | none => none

theorem khM_ok (hm : P.follows .mixedOrders = true) {kp : KP} {kq : KX} (hkp : KPok P kp) (hkq : KXok P kq) {kh0 : KH} (hk0 : KHok P kh0) {lcs : Nat → LC} (hl : LCsOk P lcs) {rounds : Nat} : ∀ d, KHok P (khM P kp kq kh0 lcs rounds d)
  | 0 => hk0
  | d + 1 => fun f args hp os r hp' cs os' h hcs X vs hX hH hv => by
    simp only [khM] at h
    split at h
    · rename_i r0 h0
      injection h with h; subst h
      exact hk0 _ _ _ _ _ _ _ _ h0 hcs X vs hX hH hv
    · split at h
      · rename_i fn hf
        split at h
        · cases h
        · rename_i hne
          split at h
          · rename_i c hb
            refine ⟨⟨fn, hf, by simpa using hne, by rw [hb]; rfl⟩, ?_⟩
            obtain ⟨hp1, hrun, htr⟩ := trimR_ok h
            refine (runF_sim hm hkp hkq (khM_ok hm hkp hkq hk0 hl d) hf hb (hl f fn c hf hb) hrun hcs hX hH hv).mono fun e w' ⟨val, X', h1, h2, h3, h4, h5, h6⟩ => ?_
            obtain ⟨X'', g1, g2, g3, g4, g5⟩ := htr h3 h4 h5 h6 (fun i hi => by rw [hH]; exact List.getElem?_eq_none hi)
            exact ⟨val, X'', h1, g1.trans h2, g2, g3, g4, g5⟩
          · cases h
      · cases h

def kpM (P : Program) (sp : Bool) (kp : KP) (kh0 : KH) (lcs : Nat → LC) (rounds : Nat) : Nat → KP
  | 0 => kp
  | d + 1 => fun f args os => match kp f args os with
    | some r => some r
    | none => match P.funcs[f]?, wkAs args with
        | some fn, some args' => if fn.name == "runtime.NumGoroutine" then none else match fn.body with
          | some c => backR (runF P kp (kxN (kpM P sp kp kh0 lcs rounds d) sp) (khM P kp (kxN (kpM P sp kp kh0 lcs rounds d) sp) kh0 lcs rounds d) (lcs f) rounds fn c args' [] os)
          | none => none
        | _, _ => none

theorem kpM_ok (hm : P.follows .mixedOrders = true) {kp : KP} (hkp : KPok P kp) {kh0 : KH} (hk0 : KHok P kh0) {lcs : Nat → LC} (hl : LCsOk P lcs) {rounds : Nat} {sp : Bool} : ∀ d, KPok P (kpM P sp kp kh0 lcs rounds d)
  | 0 => hkp
  | d + 1 => fun f args os r cs os' h hcs X vs hX hv => by
    simp only [kpM] at h
    split at h
    · rename_i r0 h0
      injection h with h; subst h
      exact hkp f args os r cs os' h0 hcs X vs hX hv
    · split at h
      · rename_i fn args' hf ha
        split at h
        · cases h
        · rename_i hne
          split at h
          · rename_i c hb
            have hq := kpM_ok hm hkp hk0 hl (rounds := rounds) (sp := sp) d
            have := pure_of_run2 hm hkp (kxN_ok hq) (khM_ok hm hkp (kxN_ok hq) hk0 hl d) hf (by simpa using hne) hb (hl f fn c hf hb) ha h hcs
            exact ⟨this.1, this.2 X vs hX hv⟩
          · cases h
      · cases h

/-- A contract of a function that only reads, at blocks of the caller's own. -/
def khSee (P : Program) (kp : KP) (kh : KH) : KH := fun f args hp os => match kh f args hp os with
  | some r => some r
  | none => match seeAs P (fun i => hp[i]?) (paramsOf P f) args with
    | some args' => match kp f args' os with
      | some (v, cs, r) => if bareA v then some (v, hp, cs, r) else none
      | none => none
    | none => none

theorem khSee_ok {kp : KP} (hkp : KPok P kp) {kh : KH} (hkh : KHok P kh) : KHok P (khSee P kp kh) := fun f args hp os r hp' cs os' h hcs X vs hX hH hv => by
  unfold khSee at h
  split at h
  · rename_i r0 h0
    injection h with h; subst h
    exact hkh _ _ _ _ _ _ _ _ h0 hcs X vs hX hH hv
  · split at h
    · rename_i args' ha
      split at h
      · rename_i v cs0 r0 hk
        split at h
        · rename_i hb
          simp only [Option.some.injEq, Prod.mk.injEq] at h
          obtain ⟨rfl, rfl, rfl, rfl⟩ := h
          obtain ⟨g1, g2⟩ := see_call hkp hX (by rw [hH]; exact ha) hk hb hcs hv
          exact ⟨g1, g2.mono fun e w' ⟨val, X', h1, h2, h3, h4, h5, h6⟩ => ⟨val, X', h1, h2, h3, h4, by rw [h5, hH], h6⟩⟩
        · cases h
      · cases h
    · cases h

structure Env (P : Program) where
  hm : P.follows .mixedOrders = true
  kp : KP
  hkp : KPok P kp
  kh : KH
  hkh : KHok P kh
  lcs : Nat → LC
  hlc : LCsOk P lcs
  hkeep : ∀ f fn c, P.funcs[f]? = some fn → fn.body = some c → LCkeep (lcs f) c
  kl : KL
  kd : Nat → Bool
  hkl : KLok P kl
  sp : Bool := false

def kh0 : KH := fun _ _ _ _ => none
def Env.base (hm : P.follows .mixedOrders = true) : Env P :=
  { hm, kp := kp0, hkp := kp0_ok, kh := kh0, hkh := (fun _ _ _ _ _ _ _ _ h => by cases h), lcs := lcs0, hlc := lcs0_ok, hkeep := (fun _ _ _ _ _ _ _ _ _ _ _ _ h => by cases h), kl := klN, kd := fun _ => false, hkl := klN_ok }

def rounds0 : Nat := 300
def depth0 : Nat := 14
def Env.khs (E : Env P) : KH := khSee P E.kp E.kh
def Env.kq (E : Env P) : KP := kpM P E.sp E.kp E.khs E.lcs rounds0 depth0
def Env.kx (E : Env P) : KX := ⟨E.kq, E.kl, E.kd, E.sp⟩
/-- Tests are looked behind where it costs nothing. -/
def Env.spec (E : Env P) : Env P := { E with sp := true }
def Env.kk (E : Env P) : KH := khM P E.kp E.kx E.khs E.lcs rounds0 depth0
theorem Env.khs_ok (E : Env P) : KHok P E.khs := khSee_ok E.hkp E.hkh
theorem Env.kq_ok (E : Env P) : KPok P E.kq := kpM_ok E.hm E.hkp E.khs_ok E.hlc _
theorem Env.kx_ok (E : Env P) : KXok P E.kx := ⟨E.kq_ok, E.hkl⟩
theorem Env.kk_ok (E : Env P) : KHok P E.kk := khM_ok E.hm E.hkp E.kx_ok E.khs_ok E.hlc _

/-- A function's run. -/
def Env.run (E : Env P) (f : Nat) (args : List AV) (hp : List AB) (os : List Bool) : Option (AV × List AB × List Bool) :=
  match P.funcs[f]? with
  | some fn => if fn.name == "runtime.NumGoroutine" then none else match fn.body with
    | some c => match runF P E.kp E.kx E.kk (E.lcs f) rounds0 fn c args hp os with
      | some (r, hp', cs, _) => some (r, hp', cs)
      | none => none
    | none => none
  | none => none

def Env.pureRun (E : Env P) (f : Nat) (args : List AV) (os : List Bool) : Option (AV × List Bool) :=
  match wkAs args, P.funcs[f]? with
  | some args', some fn => if fn.name == "runtime.NumGoroutine" then none else match fn.body with
    | some c => match backR (runF P E.kp E.kx E.kk (E.lcs f) rounds0 fn c args' [] os) with
      | some (r, cs, _) => some (r, cs)
      | none => none
    | none => none
  | _, _ => none

theorem Env.heap_ok (E : Env P) {f : Nat} {args : List AV} {hp : List AB} {os : List Bool} {r : AV} {hp' : List AB} {cs : List Bool} (h : E.run f args hp os = some (r, hp', cs)) (hcs : ∀ c ∈ cs, c = true) : HeapCall P f args hp r hp' := by
  unfold Env.run at h
  split at h
  · rename_i fn hf
    split at h
    · cases h
    · rename_i hne
      split at h
      · rename_i c hb
        split at h
        · rename_i hrun
          simp only [Option.some.injEq, Prod.mk.injEq] at h
          obtain ⟨rfl, rfl, rfl⟩ := h
          refine ⟨⟨fn, hf, by simpa using hne, by rw [hb]; rfl⟩, fun X vs hX hH hv => ?_⟩
          exact runF_sim E.hm E.hkp E.kx_ok E.kk_ok hf hb (E.hlc f fn c hf hb) hrun hcs hX hH hv
        · cases h
      · cases h
  · cases h

theorem Env.pure_ok (E : Env P) {f : Nat} {args : List AV} {os : List Bool} {r : AV} {cs : List Bool} (h : E.pureRun f args os = some (r, cs)) (hcs : ∀ c ∈ cs, c = true) : PureCall P f args r := by
  unfold Env.pureRun at h
  split at h
  · rename_i args' fn ha hf
    split at h
    · cases h
    · rename_i hne
      split at h
      · rename_i c hb
        split at h
        · rename_i hrun
          simp only [Option.some.injEq, Prod.mk.injEq] at h
          obtain ⟨rfl, rfl⟩ := h
          exact pure_of_run2 E.hm E.hkp E.kx_ok E.kk_ok hf (by simpa using hne) hb (E.hlc f fn c hf hb) ha hrun hcs
        · cases h
      · cases h
  · cases h

/-- What a contract gives, what it takes for granted, the choices left. -/
def ret1 {α : Type} (x : α) (os : List Bool) : Option (α × List Bool × List Bool) := some (x, [], os)
def retC {α : Type} (x : α) (cs : List Bool) (os : List Bool) : Option (α × List Bool × List Bool) := some (x, cs, os)
/-- One of two, by a choice. -/
def brL {α : Type} (b : Bool) (os : List Bool) (t f : List Bool → Option (α × List Bool × List Bool)) : Option (α × List Bool × List Bool) :=
  match br b os with
  | (true, c, r) => match t r with
    | some (x, cs, r') => some (x, cs ++ c, r')
    | none => none
  | (false, c, r) => match f r with
    | some (x, cs, r') => some (x, cs ++ c, r')
    | none => none
theorem brL_some {α : Type} {b : Bool} {os : List Bool} {t f : List Bool → Option (α × List Bool × List Bool)} {x : α} {cs r : List Bool} (h : brL b os t f = some (x, cs, r)) (hcs : ∀ c ∈ cs, c = true) :
    (b = true ∧ ∃ os' cs', t os' = some (x, cs', r) ∧ ∀ c ∈ cs', c = true) ∨ (b = false ∧ ∃ os' cs', f os' = some (x, cs', r) ∧ ∀ c ∈ cs', c = true) := by
  unfold brL at h
  split at h
  · rename_i c r0 hb
    split at h
    · rename_i y cs' r' ht
      simp only [Option.some.injEq, Prod.mk.injEq] at h
      obtain ⟨rfl, rfl, rfl⟩ := h
      have := br_eq (b := b) (os := os) (by rw [hb]; intro q hq; exact hcs q (List.mem_append_right _ hq))
      rw [hb] at this
      exact .inl ⟨this.symm, r0, cs', ht, fun q hq => hcs q (List.mem_append_left _ hq)⟩
    · cases h
  · rename_i c r0 hb
    split at h
    · rename_i y cs' r' ht
      simp only [Option.some.injEq, Prod.mk.injEq] at h
      obtain ⟨rfl, rfl, rfl⟩ := h
      have := br_eq (b := b) (os := os) (by rw [hb]; intro q hq; exact hcs q (List.mem_append_right _ hq))
      rw [hb] at this
      exact .inr ⟨this.symm, r0, cs', ht, fun q hq => hcs q (List.mem_append_left _ hq)⟩
    · cases h

/-- One contract more. -/
def addKP (kp : KP) (f : Nat) (fn : List AV → List Bool → Option (AV × List Bool × List Bool)) : KP := fun g args os =>
  if Nat.beq g f then match fn args os with
    | some r => some r
    | none => kp g args os
  else kp g args os
theorem addKP_ok {kp : KP} (hkp : KPok P kp) {f : Nat} {fn : List AV → List Bool → Option (AV × List Bool × List Bool)} (ok : ∀ args os r cs os', fn args os = some (r, cs, os') → (∀ c ∈ cs, c = true) → PureCall P f args r) : KPok P (addKP kp f fn) :=
  fun g args os r cs os' h hcs X vs hX hv => by
    unfold addKP at h
    split at h
    · rename_i e
      simp only [Nat.beq_eq] at e
      subst e
      split at h
      · rename_i r0 hf
        injection h with h; subst h
        exact ⟨(ok _ _ _ _ _ hf hcs).1, (ok _ _ _ _ _ hf hcs).2 X vs hX hv⟩
      · exact hkp _ _ _ _ _ _ h hcs X vs hX hv
    · exact hkp _ _ _ _ _ _ h hcs X vs hX hv

def Env.addP (E : Env P) (f : Nat) (fn : List AV → List Bool → Option (AV × List Bool × List Bool)) (ok : ∀ args os r cs os', fn args os = some (r, cs, os') → (∀ c ∈ cs, c = true) → PureCall P f args r) : Env P :=
  { E with kp := addKP E.kp f fn, hkp := addKP_ok E.hkp ok }

/-- One contract more, typed. -/
def Env.addT (E : Env P) (f : Nat) (sig : List PT) (res : dens sig → List Bool → Option (AV × List Bool × List Bool)) (ok : ∀ d os r cs os', res d os = some (r, cs, os') → (∀ c ∈ cs, c = true) → PureCall P f (encs sig d) r) : Env P :=
  E.addP f (fun args os => match decs sig args with
    | some d => res d os
    | none => none) fun args os r cs os' h hcs => by
    split at h
    · rename_i d hd
      exact (ok d os r cs os' h hcs).weaken fun X vs _ hv => decs_rel sig hd hv
    · cases h
/-- One that comes to one thing. -/
def Env.addT1 (E : Env P) (f : Nat) (sig : List PT) (res : dens sig → AV) (cs : dens sig → List Bool) (ok : ∀ d, (∀ c ∈ cs d, c = true) → PureCall P f (encs sig d) (res d)) : Env P :=
  E.addT f sig (fun d os => some (res d, cs d, os)) fun d os r c os' h hcs => by
    simp only [Option.some.injEq, Prod.mk.injEq] at h
    obtain ⟨rfl, rfl, rfl⟩ := h
    exact ok d hcs

def addKH (kh : KH) (f : Nat) (fn : List AV → List AB → List Bool → Option ((AV × List AB) × List Bool × List Bool)) : KH := fun g args hp os =>
  if Nat.beq g f then match fn args hp os with
    | some ((r, hp'), cs, os') => some (r, hp', cs, os')
    | none => kh g args hp os
  else kh g args hp os
theorem addKH_ok {kh : KH} (hkh : KHok P kh) {f : Nat} {fn : List AV → List AB → List Bool → Option ((AV × List AB) × List Bool × List Bool)} (ok : ∀ args hp os r hp' cs os', fn args hp os = some ((r, hp'), cs, os') → (∀ c ∈ cs, c = true) → HeapCall P f args hp r hp') : KHok P (addKH kh f fn) :=
  fun g args hp os r hp' cs os' h hcs X vs hX hH hv => by
    unfold addKH at h
    split at h
    · rename_i e
      simp only [Nat.beq_eq] at e
      subst e
      split at h
      · rename_i r0 hp0 cs0 os0 hf
        simp only [Option.some.injEq, Prod.mk.injEq] at h
        obtain ⟨rfl, rfl, rfl, rfl⟩ := h
        exact ⟨(ok _ _ _ _ _ _ _ hf hcs).1, (ok _ _ _ _ _ _ _ hf hcs).2 X vs hX hH hv⟩
      · exact hkh _ _ _ _ _ _ _ _ h hcs X vs hX hH hv
    · exact hkh _ _ _ _ _ _ _ _ h hcs X vs hX hH hv
def Env.addH (E : Env P) (f : Nat) (fn : List AV → List AB → List Bool → Option ((AV × List AB) × List Bool × List Bool)) (ok : ∀ args hp os r hp' cs os', fn args hp os = some ((r, hp'), cs, os') → (∀ c ∈ cs, c = true) → HeapCall P f args hp r hp') : Env P :=
  { E with kh := addKH E.kh f fn, hkh := addKH_ok E.hkh ok }

/-- A closed function, its whole run laid out by the kernel. -/
theorem Env.closed (E : Env P) {f : Nat} {v : AV} {os : List Bool} {cs : List Bool} {hp : List AB} (h : E.run f [] [] os = some (v, hp, cs)) (hcs : ∀ c ∈ cs, c = true) (hv : v = .one (.bool true)) (W : World) :
    Calls P f #[] W fun e w' => e = .returned (.bool true) ∧ Below W.heap.size W w' := by
  subst hv
  refine ((E.heap_ok h hcs).2 (topC W) [] (HRel.topC W) (by funext i; simp [topC, freshAll]) PW.nil).mono fun e w' hh => ?_
  obtain ⟨val, X', rfl, rfl, hle, hY, _, hval⟩ := hh
  have hval' : val = .bool true := hval
  exact ⟨by rw [hval'], below_top hle hY⟩
end
section
open Go Go.RowKit
variable {P : Program}

/-! ### Loops by rounds -/

def zipT : List Nat → List AV → List (Nat × AV)
  | s :: ss, v :: vs => (s, v) :: zipT ss vs
  | _, _ => []
def stripT (ds : List Nat) : List (Nat × AV) → List (Nat × AV)
  | [] => []
  | (s, v) :: r => if isIn s ds then stripT ds r else (s, v) :: stripT ds r
def looks (tm : List (Nat × AV)) : List Nat → Option (List AV)
  | [] => some []
  | s :: ss => match lookT tm s, looks tm ss with
    | some v, some vs => some (v :: vs)
    | _, _ => none
/-- What is seen of a round: how it ends, some slots, blocks, what was taken for granted. -/
def view (slots : List Nat) : Option (XE × St) → Option (XE × List AV × List AB × List Bool)
  | some (e, σ) => match looks σ.tm slots with
    | some vs => some (e, vs, σ.hp, σ.cs)
    | none => none
  | none => none

theorem lookT_strip {ds : List Nat} {t : Nat} : ∀ (tm : List (Nat × AV)), lookT (stripT ds tm) t = if t ∈ ds then none else lookT tm t
  | [] => by simp [stripT, lookT]
  | (s, v) :: r => by
    have ih := lookT_strip (ds := ds) (t := t) r
    simp only [stripT]
    by_cases hs : isIn s ds = true
    · rw [if_pos hs, ih]
      by_cases ht : t ∈ ds
      · simp [ht]
      · have : Nat.beq s t = false := by
          rw [Bool.eq_false_iff]; intro e; simp only [Nat.beq_eq] at e; subst e; exact ht (isIn_iff.1 hs)
        simp [ht, lookT, this]
    · rw [if_neg hs]
      simp only [lookT]
      split
      · rename_i e
        simp only [Nat.beq_eq] at e; subst e
        rw [if_neg fun h => hs (isIn_iff.2 h)]
      · exact ih
theorem lookT_app {t : Nat} {b : List (Nat × AV)} : ∀ (a : List (Nat × AV)), lookT (a ++ b) t = match lookT a t with | some v => some v | none => lookT b t
  | [] => rfl
  | (s, v) :: r => by
    simp only [List.cons_append, lookT]
    split
    · rfl
    · exact lookT_app r
theorem lookT_zip_none {t : Nat} : ∀ (ss : List Nat) (vs : List AV), t ∉ ss → lookT (zipT ss vs) t = none
  | [], vs, _ => by cases vs <;> rfl
  | s :: ss, [], _ => rfl
  | s :: ss, v :: vs, h => by
    have : Nat.beq s t = false := by
      rw [Bool.eq_false_iff]; intro e; simp only [Nat.beq_eq] at e; subst e; exact h (List.mem_cons_self ..)
    simp only [zipT, lookT, this]
    exact lookT_zip_none ss vs fun hh => h (List.mem_cons_of_mem _ hh)

def Wk (hp : List AB) (v v' : AV) : Prop := ∀ X y, HRel X → (∀ i b, hp[i]? = some b → X.H i = some b) → VR X v y → VR X v' y
def Wks (hp : List AB) : List AV → List AV → Prop
  | [], [] => True
  | a :: as, b :: bs => Wk hp a b ∧ Wks hp as bs
  | _, _ => False
theorem Wk.refl {hp : List AB} {v : AV} : Wk hp v v := fun _ _ _ _ h => h
theorem Wk.of_eq {hp : List AB} {v v' : AV} (h : v = v') : Wk hp v v' := h ▸ .refl
theorem Wk.unk {hp : List AB} {v : AV} : Wk hp v (.one .unk) := fun _ _ _ _ _ => trivial
theorem Wks.refl {hp : List AB} : ∀ (l : List AV), Wks hp l l
  | [] => trivial
  | _ :: r => ⟨.refl, Wks.refl r⟩
theorem Wks.of_eq {hp : List AB} {l l' : List AV} (h : l = l') : Wks hp l l' := h ▸ .refl l
theorem Wk.shared {hp : List AB} {row : CT} {l : List row.den} {m : SM} : Wk hp (.one (.sl row l m)) (.one (.sl row l .shared)) :=
  fun X y _ _ ⟨A, n, cap, h1, h2, h3, h4, h5, _⟩ => ⟨A, n, cap, h1, h2, h3, h4, h5, trivial⟩
theorem Wk.nils {hp : List AB} {row : CT} : Wk hp (.one .nils) (.one (.sl row [] .shared)) :=
  fun X y _ _ h => ⟨none, 0, 0, h, rfl, Nat.le_refl _, Nat.zero_le _, .inl rfl, trivial⟩
theorem Wk.nils_own {hp : List AB} {row : CT} {k v : Nat} {e : TypeId} (hk : hp[k]? = some (.tok e v)) : Wk hp (.one .nils) (.one (.sl row [] (.own k v))) :=
  fun X y _ hH h => ⟨none, 0, 0, h, rfl, Nat.le_refl _, Nat.zero_le _, .inl rfl, e, v, hH _ _ hk, Nat.le_refl _, fun _ => .inl ⟨rfl, rfl⟩⟩

theorem zip_mem {t : Nat} {v : AV} : ∀ (ss : List Nat) (vs : List AV), lookT (zipT ss vs) t = some v → v ∈ vs
  | [], vs, h => by cases vs <;> cases h
  | s :: ss, [], h => by cases h
  | s :: ss, b :: bs, h => by
    simp only [zipT, lookT] at h
    split at h
    · injection h with h; subst h; exact List.mem_cons_self ..
    · exact List.mem_cons_of_mem _ (zip_mem ss bs h)
theorem zip_look {hp : List AB} {tm : List (Nat × AV)} {t : Nat} {v : AV} : ∀ (ss : List Nat) (vs vs' : List AV), looks tm ss = some vs → Wks hp vs vs' → lookT (zipT ss vs') t = some v → ∃ u, lookT tm t = some u ∧ Wk hp u v
  | [], vs, vs', _, _, h => by cases vs' <;> cases h
  | s :: ss, vs, vs', hl, hw, h => by
    simp only [looks] at hl
    split at hl
    · rename_i u us h1 h2
      injection hl with hl; subst hl
      cases vs' with
      | nil => cases hw
      | cons b bs =>
        simp only [zipT, lookT] at h
        split at h
        · rename_i e
          simp only [Nat.beq_eq] at e; subst e
          injection h with h; subst h
          exact ⟨u, h1, hw.1⟩
        · exact zip_look ss us bs h2 hw.2 h
    · cases hl

def theLoop (P : Program) (f i : Nat) : Option Code :=
  match P.funcs[f]? with
  | some fn => match fn.body with
    | some c => match (loopsOf c).filter (fun b => firstId b == some i) with
      | [b] => some b
      | _ => none
    | none => none
  | none => none

theorem theLoop_eq {f i : Nat} {body : Code} (h : theLoop P f i = some body) {fn : Func} {c : Code} (hf : P.funcs[f]? = some fn) (hb : fn.body = some c) : ∀ b ∈ loopsOf c, firstId b = some i → b = body := by
  intro b hm hi
  unfold theLoop at h
  rw [hf] at h
  simp only [hb] at h
  split at h
  · rename_i b' hfil
    injection h with h; subst h
    have : b ∈ (loopsOf c).filter (fun b => firstId b == some i) := List.mem_filter.2 ⟨hm, by rw [hi]; simp⟩
    rw [hfil] at this
    simpa using this
  · cases h
theorem theLoop_mem {f i : Nat} {body : Code} (h : theLoop P f i = some body) : ∃ fn c, P.funcs[f]? = some fn ∧ fn.body = some c ∧ body ∈ loopsOf c ∧ firstId body = some i := by
  unfold theLoop at h
  split at h
  · rename_i fn hf
    split at h
    · rename_i c hb
      split at h
      · rename_i b' hfil
        injection h with h; subst h
        have : b' ∈ (loopsOf c).filter (fun b => firstId b == some i) := by rw [hfil]; simp
        obtain ⟨h1, h2⟩ := List.mem_filter.1 this
        exact ⟨fn, c, hf, hb, h1, by simpa using h2⟩
      · cases h
    · cases h
  · cases h

theorem loopsOf_trans : ∀ (c : Code) {body b : Code}, body ∈ loopsOf c → b ∈ loopsOf body → b ∈ loopsOf c := by
  intro c
  induction c with
  | seq x y ihx ihy =>
    intro body b h1 h2
    rcases List.mem_append.1 h1 with h | h
    · exact List.mem_append_left _ (ihx h h2)
    · exact List.mem_append_right _ (ihy h h2)
  | cond c x y ihx ihy =>
    intro body b h1 h2
    rcases List.mem_append.1 h1 with h | h
    · exact List.mem_append_left _ (ihx h h2)
    · exact List.mem_append_right _ (ihy h h2)
  | block id c ih => intro body b h1 h2; exact ih h1 h2
  | scope c ih => intro body b h1 h2; exact ih h1 h2
  | loop c ih =>
    intro body b h1 h2
    rcases List.mem_cons.1 h1 with rfl | h
    · exact List.mem_cons_of_mem _ h2
    · exact List.mem_cons_of_mem _ (ih h h2)
  | skip | label | ret | exit | region | rangeFunc | goto | refuse => intro body b h1 h2; cases h1

def Env.round (E : Env P) (f : Nat) (body : Code) (σ : St) : Option (XE × St) := exec P E.kp E.kx E.kk (E.lcs f) rounds0 body σ

/-- What is known at a loop's head. -/
def headS (nt : Nat) (tm : List (Nat × AV)) (hp : List AB) (os : List Bool) : St := { tm, tg := [], hp, os, cs := [], nt, spec := false }

def idsLt (m : Nat) (vs : List AV) (hp : List AB) : Prop := (∀ v ∈ vs, ∀ i ∈ idsV v, i < m) ∧ ∀ b ∈ hp, ∀ i ∈ idsB b, i < m

def viewT (m : Nat) (slots : List Nat) : Option (XE × St) → Option (XE × List AV × List AB × List Bool)
  | some (e, σ) => match looks σ.tm slots with
    | some vs => some (e, vs, σ.hp.take m, σ.cs)
    | none => none
  | none => none
/-! Own slices over tokens that are let go are slices of which less is known. -/
def softC (m : Nat) : AC → AC
  | .sl row l (.own i v) => if Nat.blt i m then .sl row l (.own i v) else .sl row l .shared
  | c => c
def softB (m : Nat) : AB → AB
  | .cells cs => .cells (cs.map (softC m))
  | b => b
def softs (m : Nat) (hp : List AB) : List AB := hp.map (softB m)
theorem softC_rel {X : Ctx} {m : Nat} {c : AC} {v : Value} (h : VRc X c v) : VRc X (softC m c) v := by
  unfold softC
  split
  · split
    · exact h
    · obtain ⟨A, n, cap, h1, h2, h3, h4, h5, _⟩ := h
      exact ⟨A, n, cap, h1, h2, h3, h4, h5, trivial⟩
  · exact h
theorem softB_loc {m : Nat} (b : AB) : (softB m b).loc = b.loc := by cases b <;> rfl
def Ctx.soft (X : Ctx) (m : Nat) : Ctx := { X with H := fun i => (X.H i).map (softB m) }
theorem soft_H {X : Ctx} {m i : Nat} {b : AB} (h : (X.soft m).H i = some b) : ∃ b0, X.H i = some b0 ∧ b = softB m b0 := by
  simp only [Ctx.soft, Option.map_eq_some_iff] at h
  obtain ⟨b0, h1, h2⟩ := h
  exact ⟨b0, h1, h2.symm⟩
theorem soft_some {X : Ctx} {m i : Nat} {b : AB} (h : X.H i = some b) : (X.soft m).H i = some (softB m b) := by simp only [Ctx.soft, h, Option.map_some]
theorem soft_IC {X : Ctx} {m : Nat} {a : Addr} {y : Value} : (X.soft m).IC a y ↔ X.IC a y := by
  constructor
  · intro ⟨h1, h2, h3, h4, h5⟩
    exact ⟨h1, h2, h3, fun i b hb hl => h4 i _ (soft_some hb) (by rw [softB_loc]; exact hl), h5⟩
  · intro ⟨h1, h2, h3, h4, h5⟩
    exact ⟨h1, h2, h3, fun i b hb hl => by
      obtain ⟨b0, g1, rfl⟩ := soft_H hb
      exact h4 i b0 g1 (by rw [softB_loc] at hl; exact hl), h5⟩
theorem soft_le (X : Ctx) (m : Nat) : X.le (X.soft m) where
  ic a y h := soft_IC.2 h
  loc i b hb hm := ⟨⟨_, soft_some hb, by rw [softB_loc]; exact hm⟩, rfl⟩
  arr i row l hb := ⟨l, soft_some hb, rfl⟩
  tok i t v hb := ⟨v, soft_some hb, Nat.le_refl _, fun _ => ⟨rfl, fun e p q h => h⟩⟩
  w0 := rfl
  lent := rfl
  oldeq := rfl
  drawn := .le (Nat.le_refl _)
theorem HRel.soft {X : Ctx} (hX : HRel X) (m : Nat) : HRel (X.soft m) where
  inj i j b c hi hj hb hc hne := by
    obtain ⟨b0, g1, rfl⟩ := soft_H hi
    obtain ⟨c0, g2, rfl⟩ := soft_H hj
    exact hX.inj i j b0 c0 g1 g2 (by rw [softB_loc] at hb; exact hb) (by rw [softB_loc] at hc; exact hc) hne
  injt := hX.injt
  injm i b j hi hb := by
    obtain ⟨b0, g1, rfl⟩ := soft_H hi
    exact hX.injm i b0 j g1 (by rw [softB_loc] at hb; exact hb)
  place i b hi hb := by
    obtain ⟨b0, g1, rfl⟩ := soft_H hi
    exact hX.place i b0 g1 (by rw [softB_loc] at hb; exact hb)
  placet := hX.placet
  lt i b hi hb := by
    obtain ⟨b0, g1, rfl⟩ := soft_H hi
    exact hX.lt i b0 g1 (by rw [softB_loc] at hb; exact hb)
  ltt := hX.ltt
  tlH i h := by
    intro hn
    cases hb : X.H i with
    | none => exact hX.tlH i h hb
    | some b => rw [soft_some hb] at hn; cases hn
  frlt := hX.frlt
  blk i b hi := by
    obtain ⟨b0, g1, rfl⟩ := soft_H hi
    have h0 := BRel.mono (soft_le X m) (i := i) (b := b0) rfl rfl (hX.blk i b0 g1)
    cases b0 with
    | cells cs =>
      obtain ⟨c, t, k1, k2⟩ := h0
      refine ⟨c, t, k1, by simpa using k2.1, fun j d y hd hy => ?_⟩
      rw [List.getElem?_map] at hd
      cases hc : cs[j]? with
      | none => rw [hc] at hd; cases hd
      | some d0 =>
        rw [hc] at hd
        simp only [Option.map_some, Option.some.injEq] at hd
        subst hd
        exact softC_rel (k2.2 j d0 y hc hy)
    | rcells _ => exact h0
    | arr row l => exact h0
    | tok _ _ => trivial
    | mp _ _ _ _ _ => exact h0
    | obj _ => exact h0
    | iter _ _ _ => exact h0
  below := hX.below
  os := hX.os
  tape := hX.tape
  output := hX.output
  size := hX.size
  old a y h := soft_IC.2 (hX.old a y h)
theorem Rel.soft {X : Ctx} {σ : St} {a : Act} (h : Rel X σ a) (m : Nat) : Rel (X.soft m) { σ with hp := softs m σ.hp } a where
  hrel := h.hrel.soft m
  heap := by
    funext i
    have := congrFun h.heap i
    show (X.H i).map (softB m) = (softs m σ.hp)[i]?
    rw [this]
    simp [St.H, softs]
  size := h.size
  defers := h.defers
  tm t v hv := VR.mono (soft_le X m) _ _ (h.tm t v hv)
  tg t s w v hv := ⟨fun hs => VR.mono (soft_le X m) _ _ ((h.tg t s w v hv).1 hs), (h.tg t s w v hv).2⟩
theorem softs_take (m k : Nat) (hp : List AB) : (softs m hp).take k = softs m (hp.take k) := by simp [softs, List.map_take]
theorem softs_len (m : Nat) (hp : List AB) : (softs m hp).length = hp.length := by simp [softs]

/-- A round: what is seen of it, at any rest; it goes on to another state of the same make, or ends the loop. -/
def OneRound (E : Env P) (f : Nat) (body : Code) (nt m : Nat) (slots : List Nat) (known : List (Nat × AV)) {S : Type} (vals : S → List AV) (hp : S → List AB) (Inv : S → Prop) (mu : S → Nat) (e : XE) (outs : List AV) (hpo : List AB) (s : S) : Prop :=
  ∃ os e' vs, ∀ rest, ∃ σ', E.round f body (headS nt (zipT slots (vals s) ++ (known ++ rest)) (hp s) os) = some (e', σ') ∧ looks σ'.tm slots = some vs ∧ (∀ c ∈ σ'.cs, c = true) ∧
    ∃ hq, (hq = σ'.hp.take m ∨ hq = softs m (σ'.hp.take m)) ∧
    ((e' = .normal ∧ ∃ s', Inv s' ∧ mu s' < mu s ∧ Wks hq vs (vals s') ∧ hq = hp s' ∧ (σ'.hp.length ≤ m ∨ idsLt m (vals s') (hp s'))) ∨
     (e' = e ∧ e ≠ .normal ∧ Wks hq vs outs ∧ hq = hpo ∧ (σ'.hp.length ≤ m ∨ idsLt m outs hpo)))

theorem looks_of_view {slots : List Nat} {r : Option (XE × St)} {e : XE} {vs : List AV} {hp : List AB} {cs : List Bool} (h : view slots r = some (e, vs, hp, cs)) : ∃ σ, r = some (e, σ) ∧ looks σ.tm slots = some vs ∧ σ.hp = hp ∧ σ.cs = cs := by
  unfold view at h
  split at h
  · rename_i e' σ
    split at h
    · rename_i vs' hl
      simp only [Option.some.injEq, Prod.mk.injEq] at h
      obtain ⟨rfl, rfl, rfl, rfl⟩ := h
      exact ⟨σ, rfl, hl, rfl, rfl⟩
    · cases h
  · cases h
theorem looks_of_viewT {m : Nat} {slots : List Nat} {r : Option (XE × St)} {e : XE} {vs : List AV} {hp : List AB} {cs : List Bool} (h : viewT m slots r = some (e, vs, hp, cs)) : ∃ σ, r = some (e, σ) ∧ looks σ.tm slots = some vs ∧ σ.hp.take m = hp ∧ σ.cs = cs := by
  unfold viewT at h
  split at h
  · rename_i e' σ
    split at h
    · rename_i vs' hl
      simp only [Option.some.injEq, Prod.mk.injEq] at h
      obtain ⟨rfl, rfl, rfl, rfl⟩ := h
      exact ⟨σ, rfl, hl, rfl, rfl⟩
    · cases h
  · cases h

theorem OneRound.go {E : Env P} {f : Nat} {body : Code} {nt m : Nat} {slots : List Nat} {known : List (Nat × AV)} {S : Type} {vals : S → List AV} {hp : S → List AB} {Inv : S → Prop} {mu : S → Nat} {e : XE} {outs : List AV} {hpo : List AB} {s : S}
    (os : List Bool) {vs : List AV} {hp' : List AB} {cs : List Bool} (hv : ∀ rest, view slots (E.round f body (headS nt (zipT slots (vals s) ++ (known ++ rest)) (hp s) os)) = some (.normal, vs, hp', cs)) (hcs : ∀ c ∈ cs, c = true)
    (s' : S) (hI : Inv s') (hmu : mu s' < mu s) (hw : Wks (hp'.take m) vs (vals s')) (htk : hp'.take m = hp s') (hi : hp'.length ≤ m ∨ idsLt m (vals s') (hp s')) : OneRound E f body nt m slots known vals hp Inv mu e outs hpo s :=
  ⟨os, .normal, vs, fun rest => by
    obtain ⟨σ, h1, h2, h3, h4⟩ := looks_of_view (hv rest)
    subst h3; subst h4
    exact ⟨σ, h1, h2, hcs, _, .inl rfl, .inl ⟨rfl, s', hI, hmu, hw, htk, hi⟩⟩⟩
theorem OneRound.stop {E : Env P} {f : Nat} {body : Code} {nt m : Nat} {slots : List Nat} {known : List (Nat × AV)} {S : Type} {vals : S → List AV} {hp : S → List AB} {Inv : S → Prop} {mu : S → Nat} {e : XE} {outs : List AV} {hpo : List AB} {s : S}
    (os : List Bool) {vs : List AV} {hp' : List AB} {cs : List Bool} (hv : ∀ rest, view slots (E.round f body (headS nt (zipT slots (vals s) ++ (known ++ rest)) (hp s) os)) = some (e, vs, hp', cs)) (hcs : ∀ c ∈ cs, c = true)
    (hne : e ≠ .normal) (hw : Wks (hp'.take m) vs outs) (htk : hp'.take m = hpo) (hi : hp'.length ≤ m ∨ idsLt m outs hpo) : OneRound E f body nt m slots known vals hp Inv mu e outs hpo s :=
  ⟨os, e, vs, fun rest => by
    obtain ⟨σ, h1, h2, h3, h4⟩ := looks_of_view (hv rest)
    subst h3; subst h4
    exact ⟨σ, h1, h2, hcs, _, .inl rfl, .inr ⟨rfl, hne, hw, htk, hi⟩⟩⟩
/-- The same, blocks seen up to a number. -/
theorem OneRound.goT {E : Env P} {f : Nat} {body : Code} {nt m : Nat} {slots : List Nat} {known : List (Nat × AV)} {S : Type} {vals : S → List AV} {hp : S → List AB} {Inv : S → Prop} {mu : S → Nat} {e : XE} {outs : List AV} {hpo : List AB} {s : S}
    (os : List Bool) {vs : List AV} {hp' : List AB} {cs : List Bool} (hv : ∀ rest, viewT m slots (E.round f body (headS nt (zipT slots (vals s) ++ (known ++ rest)) (hp s) os)) = some (.normal, vs, hp', cs)) (hcs : ∀ c ∈ cs, c = true)
    (s' : S) (hI : Inv s') (hmu : mu s' < mu s) (hw : Wks hp' vs (vals s')) (htk : hp' = hp s') (hi : idsLt m (vals s') (hp s')) : OneRound E f body nt m slots known vals hp Inv mu e outs hpo s :=
  ⟨os, .normal, vs, fun rest => by
    obtain ⟨σ, h1, h2, h3, h4⟩ := looks_of_viewT (hv rest)
    subst h3; subst h4
    exact ⟨σ, h1, h2, hcs, _, .inl rfl, .inl ⟨rfl, s', hI, hmu, hw, htk, .inr hi⟩⟩⟩
theorem OneRound.stopT {E : Env P} {f : Nat} {body : Code} {nt m : Nat} {slots : List Nat} {known : List (Nat × AV)} {S : Type} {vals : S → List AV} {hp : S → List AB} {Inv : S → Prop} {mu : S → Nat} {e : XE} {outs : List AV} {hpo : List AB} {s : S}
    (os : List Bool) {vs : List AV} {hp' : List AB} {cs : List Bool} (hv : ∀ rest, viewT m slots (E.round f body (headS nt (zipT slots (vals s) ++ (known ++ rest)) (hp s) os)) = some (e, vs, hp', cs)) (hcs : ∀ c ∈ cs, c = true)
    (hne : e ≠ .normal) (hw : Wks hp' vs outs) (htk : hp' = hpo) (hi : idsLt m outs hpo) : OneRound E f body nt m slots known vals hp Inv mu e outs hpo s :=
  ⟨os, e, vs, fun rest => by
    obtain ⟨σ, h1, h2, h3, h4⟩ := looks_of_viewT (hv rest)
    subst h3; subst h4
    exact ⟨σ, h1, h2, hcs, _, .inl rfl, .inr ⟨rfl, hne, hw, htk, .inr hi⟩⟩⟩

/-- The same, tokens that are let go forgotten in the blocks. -/
theorem OneRound.goS {E : Env P} {f : Nat} {body : Code} {nt m : Nat} {slots : List Nat} {known : List (Nat × AV)} {S : Type} {vals : S → List AV} {hp : S → List AB} {Inv : S → Prop} {mu : S → Nat} {e : XE} {outs : List AV} {hpo : List AB} {s : S}
    (os : List Bool) {vs : List AV} {hp' : List AB} {cs : List Bool} (hv : ∀ rest, viewT m slots (E.round f body (headS nt (zipT slots (vals s) ++ (known ++ rest)) (hp s) os)) = some (.normal, vs, hp', cs)) (hcs : ∀ c ∈ cs, c = true)
    (s' : S) (hI : Inv s') (hmu : mu s' < mu s) (hw : Wks (softs m hp') vs (vals s')) (htk : softs m hp' = hp s') (hi : idsLt m (vals s') (hp s')) : OneRound E f body nt m slots known vals hp Inv mu e outs hpo s :=
  ⟨os, .normal, vs, fun rest => by
    obtain ⟨σ, h1, h2, h3, h4⟩ := looks_of_viewT (hv rest)
    subst h3; subst h4
    exact ⟨σ, h1, h2, hcs, _, .inr rfl, .inl ⟨rfl, s', hI, hmu, hw, htk, .inr hi⟩⟩⟩
theorem OneRound.stopS {E : Env P} {f : Nat} {body : Code} {nt m : Nat} {slots : List Nat} {known : List (Nat × AV)} {S : Type} {vals : S → List AV} {hp : S → List AB} {Inv : S → Prop} {mu : S → Nat} {e : XE} {outs : List AV} {hpo : List AB} {s : S}
    (os : List Bool) {vs : List AV} {hp' : List AB} {cs : List Bool} (hv : ∀ rest, viewT m slots (E.round f body (headS nt (zipT slots (vals s) ++ (known ++ rest)) (hp s) os)) = some (e, vs, hp', cs)) (hcs : ∀ c ∈ cs, c = true)
    (hne : e ≠ .normal) (hw : Wks (softs m hp') vs outs) (htk : softs m hp' = hpo) (hi : idsLt m outs hpo) : OneRound E f body nt m slots known vals hp Inv mu e outs hpo s :=
  ⟨os, e, vs, fun rest => by
    obtain ⟨σ, h1, h2, h3, h4⟩ := looks_of_viewT (hv rest)
    subst h3; subst h4
    exact ⟨σ, h1, h2, hcs, _, .inr rfl, .inr ⟨rfl, hne, hw, htk, .inr hi⟩⟩⟩

/-- A list's length fits. -/
theorem sl_len {X : Ctx} {row : CT} {l : List row.den} {m : SM} {y : Value} (h : VR X (.one (.sl row l m)) y) : l.length ≤ maxLen := by
  obtain ⟨A, n, cap, _, h2, h3, h4, _⟩ := h
  omega

theorem Rel.head {X' : Ctx} {σ' : St} {a' : Act} (h : Rel X' σ' a') {nt m : Nat} {ds slots : List Nat} (hss : ∀ t ∈ slots, t ∈ ds) {vals vs vs' : List AV} {rest : List (Nat × AV)} {hp : List AB} {os : List Bool}
    (hk : Keeps ds (headS nt (zipT slots vals ++ rest) hp os) σ') (hl : looks σ'.tm slots = some vs) (hw : Wks (σ'.hp.take m) vs vs') (hrest : ∀ t ∈ ds, lookT rest t = none) (hids : ∀ t v, lookT rest t = some v → ∀ i ∈ idsV v, i < m)
    (hi : σ'.hp.length ≤ m ∨ idsLt m vs' (σ'.hp.take m)) (os' : List Bool) : Rel (X'.cut m) (headS nt (zipT slots vs' ++ rest) (σ'.hp.take m) os') a' := by
  have hH : X'.H = fun i => σ'.hp[i]? := h.heap
  have hlt : ∀ i, X'.H i ≠ none → i < σ'.hp.length := fun i hi => by
    rw [hH] at hi
    by_cases hlt : i < σ'.hp.length
    · exact hlt
    · exact absurd (List.getElem?_eq_none (by omega)) hi
  refine ⟨h.hrel.cut fun i b him hb j hj => ?_, ?_, h.size.trans hk.nt, h.defers, fun t v hv => ?_, fun t s w v hv => by cases hv⟩
  · rcases hi with hi | hi
    · exact Nat.lt_of_lt_of_le (hlt j (BRel.has (h.hrel.blk i b hb) j hj)) hi
    · refine hi.2 b ?_ j hj
      rw [hH] at hb
      exact List.mem_of_getElem? (i := i) (by rw [List.getElem?_take, if_pos him]; exact hb)
  · funext i
    simp only [Ctx.cut, hH, headS, St.H, List.getElem?_take]
  · simp only [headS] at hv
    rw [lookT_app] at hv
    split at hv
    · rename_i v' hz
      injection hv with hv; subst hv
      obtain ⟨u, hu1, hu2⟩ := zip_look slots vs vs' hl hw hz
      have h1 := hu2 X' _ h.hrel (fun i b hb => by
        rw [List.getElem?_take] at hb
        split at hb
        · rw [hH]; exact hb
        · cases hb) (h.tm t u hu1)
      refine VR.cut _ _ (fun i hi' => ?_) h1
      rcases hi with hi | hi
      · exact Nat.lt_of_lt_of_le (hlt i (VR.has _ _ h1 i hi')) hi
      · refine hi.1 v' ?_ i hi'
        exact zip_mem slots vs' hz
    · have htd : t ∉ ds := fun ht => by rw [hrest t ht] at hv; cases hv
      have h0 := hk.tm t htd
      simp only [headS] at h0
      rw [lookT_app, lookT_zip_none _ _ (fun hh => htd (hss t hh))] at h0
      simp only at h0
      exact VR.cut _ _ (hids t v hv) (h.tm t v (h0.trans hv))

theorem rounds_ok (E : Env P) {f nt m : Nat} {body : Code} (hlc : LCok P (E.lcs f) body) (hkp : LCkeep (E.lcs f) body) {slots : List Nat} (hss : ∀ t ∈ slots, t ∈ dstsC body) {known : List (Nat × AV)} {S : Type} {vals : S → List AV} {hp : S → List AB} {Inv : S → Prop} {mu : S → Nat} {e : XE} {outs : List AV} {hpo : List AB}
    (step : ∀ s, Inv s → OneRound E f body nt m slots known vals hp Inv mu e outs hpo s) {rest : List (Nat × AV)} (hrest : ∀ t ∈ dstsC body, lookT (known ++ rest) t = none) (hids : ∀ t v, lookT (known ++ rest) t = some v → ∀ i ∈ idsV v, i < m)
    {X0 : Ctx} (hm : ∀ i, m ≤ i → X0.H i = none) : ∀ (n : Nat) (s : S), mu s < n → Inv s → ∀ {X : Ctx} {a : Act} {Q : Exit → Act → World → Prop}, X0.le X → Rel X (headS nt (zipT slots (vals s) ++ (known ++ rest)) (hp s) []) a →
      (∀ X' a', X0.le X' → Rel X' (headS nt (zipT slots outs ++ (known ++ rest)) hpo []) a' → Q e.out a' X'.w) → LoopAt P body Q a X.w
  | 0, s, h, _ => by omega
  | n + 1, s, hn, hI => by
    rename_i X a Q
    intro h0 hr hq
    obtain ⟨os, e', vs, hview⟩ := step s hI
    obtain ⟨σ', hex, hl, hcs, hq', hqs, hend⟩ := hview rest
    refine LoopAt.round ?_
    have hr' : Rel X (headS nt (zipT slots (vals s) ++ (known ++ rest)) (hp s) os) a := hr.cs os []
    have hk := exec_keeps body hkp hex
    refine exec_sim E.hm E.hkp E.kx_ok E.kk_ok body hlc hex hcs hr' fun X' a' hle hrel => ?_
    have hsoft : ∃ (X2 : Ctx) (σ2 : St), X'.le X2 ∧ X2.w = X'.w ∧ Rel X2 σ2 a' ∧ Keeps (dstsC body) (headS nt (zipT slots (vals s) ++ (known ++ rest)) (hp s) os) σ2 ∧ looks σ2.tm slots = some vs ∧ σ2.hp.take m = hq' ∧ σ2.hp.length = σ'.hp.length := by
      rcases hqs with e | e
      · exact ⟨X', σ', .refl X', rfl, hrel, hk, hl, e.symm, rfl⟩
      · exact ⟨X'.soft m, { σ' with hp := softs m σ'.hp }, soft_le X' m, rfl, hrel.soft m, ⟨hk.nt, hk.spec, hk.tg, hk.tm⟩, hl, by rw [e]; exact softs_take m m σ'.hp, softs_len m σ'.hp⟩
    obtain ⟨X2, σ2, hle2, hw2, hrel2, hk2, hl2, htk2, hlen2⟩ := hsoft
    rw [← hlen2] at hend
    rw [← htk2] at hend
    rcases hend with ⟨rfl, s', hI', hmu, hw, htk, hi⟩ | ⟨rfl, hne, hw, htk, hi⟩
    · have := hrel2.head (m := m) (vs' := vals s') hss hk2 hl2 hw hrest hids (by rw [htk]; exact hi) []
      rw [htk] at this
      have := rounds_ok E hlc hkp hss step hrest hids hm n s' (by omega) hI' (X := X2.cut m) (cut_le ((h0.trans hle).trans hle2) hm) this hq
      exact hw2 ▸ this
    · have := hrel2.head (m := m) (vs' := outs) hss hk2 hl2 hw hrest hids (by rw [htk]; exact hi) []
      rw [htk] at this
      have := hq (X2.cut m) a' (cut_le ((h0.trans hle).trans hle2) hm) this
      have : Q e'.out a' X'.w := hw2 ▸ this
      cases e' with
      | normal => exact absurd rfl hne
      | exit i => exact this
      | ret => exact this

/-- From these slots and blocks at its head, at any rest, a loop comes to this. -/
def LoopOk (P : Program) (body : Code) (nt : Nat) (slots ro : List Nat) (vals rov : List AV) (hp : List AB) (e : XE) (outs : List AV) (hp' : List AB) : Prop :=
  ∀ X a rest, (∀ t ∈ dstsC body, lookT (zipT ro rov ++ rest) t = none) → Rel X (headS nt (zipT slots vals ++ (zipT ro rov ++ rest)) hp []) a →
    ∀ Q : Exit → Act → World → Prop, (∀ X' a', X.le X' → Rel X' (headS nt (zipT slots outs ++ (zipT ro rov ++ rest)) hp' []) a' → Q e.out a' X'.w) → LoopAt P body Q a X.w

theorem LoopOk.rounds (E : Env P) {f i nt : Nat} {body : Code} (hb : theLoop P f i = some body) {slots ro : List Nat} (hss : (slots.all fun t => isIn t (dstsC body)) = true) {rov : List AV} {S : Type} (vals : S → List AV) (hp : S → List AB) (Inv : S → Prop) (mu : S → Nat) {e : XE} {outs : List AV} {hpo : List AB} (s : S) (hI : Inv s)
    (step : ∀ s, Inv s → OneRound E f body nt (hp s).length slots (zipT ro rov) vals hp Inv mu e outs hpo s) (hlen : ∀ s', Inv s' → (hp s').length = (hp s).length) : LoopOk P body nt slots ro (vals s) rov (hp s) e outs hpo := by
  intro X a rest hrest hr Q hq
  obtain ⟨fn, c, hf, hbd, hmem, hfi⟩ := theLoop_mem hb
  have hlc : LCok P (E.lcs f) body := fun b hb' => E.hlc f fn c hf hbd b (loopsOf_trans c hmem hb')
  have hkp : LCkeep (E.lcs f) body := fun b hb' => E.hkeep f fn c hf hbd b (loopsOf_trans c hmem hb')
  have hss' : ∀ t ∈ slots, t ∈ dstsC body := fun t ht => isIn_iff.1 (List.all_eq_true.1 hss t ht)
  have hH : X.H = fun i => (hp s)[i]? := hr.heap
  refine rounds_ok E (m := (hp s).length) hlc hkp hss' (fun s' hs' => by have := step s' hs'; rw [hlen s' hs'] at this; exact this) hrest (fun t v hv i hi => ?_) (fun i hi => by rw [hH]; exact List.getElem?_eq_none hi) (mu s + 1) s (by omega) hI (.refl X) hr hq
  have ht : t ∉ dstsC body := fun ht => by rw [hrest t ht] at hv; cases hv
  have h1 := hr.tm t v (by simp only [headS]; rw [lookT_app, lookT_zip_none _ _ (fun hh => ht (hss' t hh))]; exact hv)
  have h2 := VR.has _ _ h1 i hi
  rw [hH] at h2
  by_cases hlt : i < (hp s).length
  · exact hlt
  · exact absurd (List.getElem?_eq_none (by omega)) h2

/-- What is known at the head may be used. -/
theorem LoopOk.facts {body : Code} {nt : Nat} {slots ro : List Nat} {vals rov : List AV} {hp : List AB} {e : XE} {outs : List AV} {hp' : List AB}
    (hns : slots.Nodup) (hnr : ro.Nodup) (hd : ∀ t ∈ ro, t ∉ slots) (hls : vals.length = slots.length) (hlr : rov.length = ro.length)
    (h : (∃ X, HRel X ∧ (X.H = fun i => hp[i]?) ∧ (∀ v ∈ vals, ∃ y, VR X v y) ∧ ∀ v ∈ rov, ∃ y, VR X v y) → LoopOk P body nt slots ro vals rov hp e outs hp') : LoopOk P body nt slots ro vals rov hp e outs hp' := by
  intro X a rest hrest hr Q hq
  have key : ∀ (ss : List Nat) (vs : List AV), ss.Nodup → vs.length = ss.length → ∀ v ∈ vs, ∃ t ∈ ss, lookT (zipT ss vs) t = some v := by
    intro ss
    induction ss with
    | nil => intro vs _ hl v hv; cases vs with | nil => cases hv | cons _ _ => simp at hl
    | cons s ss ih =>
      intro vs hnd hl v hv
      cases vs with
      | nil => cases hv
      | cons b bs =>
        rcases List.mem_cons.1 hv with rfl | hv
        · exact ⟨s, List.mem_cons_self .., by simp [zipT, lookT]⟩
        · obtain ⟨t, ht, hl'⟩ := ih bs (List.nodup_cons.1 hnd).2 (by simpa using hl) v hv
          refine ⟨t, List.mem_cons_of_mem _ ht, ?_⟩
          have : Nat.beq s t = false := by
            rw [Bool.eq_false_iff]; intro e; simp only [Nat.beq_eq] at e; subst e; exact (List.nodup_cons.1 hnd).1 ht
          simp only [zipT, lookT, this]; exact hl'
  refine h ⟨X, hr.hrel, hr.heap, fun v hv => ?_, fun v hv => ?_⟩ X a rest hrest hr Q hq
  · obtain ⟨t, _, hl⟩ := key slots vals hns hls v hv
    exact ⟨_, hr.tm t v (by simp only [headS]; rw [lookT_app, hl])⟩
  · obtain ⟨t, ht, hl⟩ := key ro rov hnr hlr v hv
    exact ⟨_, hr.tm t v (by simp only [headS]; rw [lookT_app, lookT_zip_none _ _ (hd t ht), lookT_app, hl])⟩

/-- Less may be known at the head, more behind the loop. -/
theorem LoopOk.weaken {body : Code} {nt : Nat} {slots ro : List Nat} {vals vals' rov rov' : List AV} {hp : List AB} {e : XE} {outs : List AV} {hp' : List AB} (hw : Wks hp vals vals') (hr : Wks hp rov rov')
    (h : LoopOk P body nt slots ro vals' rov' hp e outs hp') (hro : rov = rov' ∨ True := .inr trivial) : ∀ X a rest, (∀ t ∈ dstsC body, lookT (zipT ro rov' ++ rest) t = none) → Rel X (headS nt (zipT slots vals ++ (zipT ro rov ++ rest)) hp []) a →
    ∀ Q : Exit → Act → World → Prop, (∀ X' a', X.le X' → Rel X' (headS nt (zipT slots outs ++ (zipT ro rov' ++ rest)) hp' []) a' → Q e.out a' X'.w) → LoopAt P body Q a X.w := by
  intro X a rest hrest hrel Q hq
  have key : ∀ (ss : List Nat) (us us' : List AV) (r r' : List (Nat × AV)), Wks hp us us' → (∀ t v, lookT r' t = some v → ∃ u, lookT r t = some u ∧ Wk hp u v) → ∀ t v, lookT (zipT ss us' ++ r') t = some v → ∃ u, lookT (zipT ss us ++ r) t = some u ∧ Wk hp u v := by
    intro ss
    induction ss with
    | nil => intro us us' r r' _ hh t v hv; cases us <;> cases us' <;> exact hh t v hv
    | cons s ss ih =>
      intro us us' r r' hw hh t v hv
      cases us with
      | nil => cases us' with
        | nil => exact hh t v hv
        | cons _ _ => cases hw
      | cons b bs => cases us' with
        | nil => cases hw
        | cons b' bs' =>
          simp only [zipT, List.cons_append, lookT] at hv ⊢
          by_cases e : s.beq t = true
          · rw [if_pos e] at hv ⊢
            injection hv with hv; subst hv
            exact ⟨b, rfl, hw.1⟩
          · rw [if_neg e] at hv ⊢
            exact ih bs bs' r r' hw.2 hh t v hv
  refine h X a rest hrest ⟨hrel.hrel, hrel.heap, hrel.size, hrel.defers, fun t v hv => ?_, fun t s w v hv => by cases hv⟩ Q hq
  obtain ⟨u, h1, h2⟩ := key slots vals vals' _ _ hw (key ro rov rov' rest rest hr fun t v hv => ⟨v, hv, .refl⟩) t v hv
  exact h2 X _ hrel.hrel (fun i b hb => by rw [hrel.heap]; exact hb) (hrel.tm t u h1)

/-- A token for a list that grows in the loop. -/
theorem LoopOk.coin {body : Code} {nt : Nat} {slots ro : List Nat} {vals vals' rov : List AV} {hp : List AB} (ty : TypeId) {e : XE} {outs : List AV} {hp' : List AB} (hw : Wks (hp ++ [.tok ty 0]) vals vals')
    (h : LoopOk P body nt slots ro vals' rov (hp ++ [.tok ty 0]) e outs hp') : LoopOk P body nt slots ro vals rov hp e outs hp' := by
  intro X a rest hrest hr Q hq
  have hH : X.H = fun i => hp[i]? := hr.heap
  have hn : X.H hp.length = none := by rw [hH]; exact List.getElem?_eq_none (Nat.le_refl _)
  have hle := coin_le (e := ty) (ver := 0) hn
  have hH' : (X.coin hp.length ty).H = fun i => (hp ++ [AB.tok ty 0])[i]? := by
    funext i
    simp only [Ctx.coin, upd, hH]
    by_cases hi : i = hp.length
    · subst hi; simp
    · rw [if_neg hi]
      by_cases hlt : i < hp.length
      · rw [List.getElem?_append_left hlt]
      · rw [List.getElem?_eq_none (by omega), List.getElem?_eq_none (by simp; omega)]
  refine LoopOk.weaken (rov := rov) (rov' := rov) hw (.refl _) h (.inr trivial) (X.coin hp.length ty) a rest hrest ?_ Q fun X' a' hle' hr' => hq X' a' (hle.trans hle') hr'
  exact ⟨hr.hrel.coin hn, hH', hr.size, hr.defers, fun t v hv => VR.mono hle _ _ (hr.tm t v hv), fun t s w v hv => by cases hv⟩

def mkLC (nt : Nat) (ds slots ro : List Nat) (fn : List AV → List AV → List AB → List Bool → Option ((XE × List AV × List AB) × List Bool × List Bool)) (σ : St) : Option (XE × St) :=
  if Nat.beq σ.nt nt then
    match looks σ.tm slots, looks σ.tm ro with
    | some vals, some rov => match fn vals rov σ.hp σ.os with
      | some ((e, outs, hp'), cs, os') => some (e, { σ with tm := zipT slots outs ++ stripT ds σ.tm, tg := [], hp := hp', os := os', cs := cs ++ σ.cs })
      | none => none
    | _, _ => none
  else none

theorem mkLC_keeps {nt : Nat} {ds slots ro : List Nat} {fn} {σ σ' : St} {e : XE} (hss : ∀ t ∈ slots, t ∈ ds) (h : mkLC nt ds slots ro fn σ = some (e, σ')) : Keeps ds σ σ' := by
  unfold mkLC at h
  split at h
  · split at h
    · split at h
      · simp only [Option.some.injEq, Prod.mk.injEq] at h
        obtain ⟨rfl, rfl⟩ := h
        refine ⟨rfl, rfl, fun _ => rfl, fun t ht => ?_⟩
        simp only
        rw [lookT_app, lookT_zip_none _ _ fun hh => ht (hss t hh)]
        simp only
        rw [lookT_strip, if_neg ht]
      · cases h
    · cases h
  · cases h

theorem looks_look {tm : List (Nat × AV)} {t : Nat} {v : AV} : ∀ (ss : List Nat) (vs : List AV), looks tm ss = some vs → lookT (zipT ss vs) t = some v → lookT tm t = some v
  | [], vs, _, h => by cases vs <;> cases h
  | s :: ss, vs, hl, h => by
    simp only [looks] at hl
    split at hl
    · rename_i u us h1 h2
      injection hl with hl; subst hl
      simp only [zipT, lookT] at h
      split at h
      · rename_i e
        simp only [Nat.beq_eq] at e; subst e
        injection h with h; subst h
        exact h1
      · exact looks_look ss us h2 h
    · cases hl

/-- A loop's contract more. -/
theorem mkLC_sim {nt : Nat} {body : Code} {slots ro : List Nat} {fn} (hss : ∀ t ∈ slots, t ∈ dstsC body) (hro : ∀ t ∈ ro, t ∉ dstsC body)
    (ok : ∀ vals rov hp os e outs hp' cs os', fn vals rov hp os = some ((e, outs, hp'), cs, os') → (∀ c ∈ cs, c = true) → LoopOk P body nt slots ro vals rov hp e outs hp') {σ σ' : St} {e : XE} (h : mkLC nt (dstsC body) slots ro fn σ = some (e, σ')) :
    (∃ cs, σ'.cs = cs ++ σ.cs) ∧ ((∀ c ∈ σ'.cs, c = true) → LoopSim P body σ e σ') := by
  unfold mkLC at h
  split at h
  · rename_i hnt
    simp only [Nat.beq_eq] at hnt
    split at h
    · rename_i vals rov hv hrv
      split at h
      · rename_i e0 outs hp' cs os' hfn
        simp only [Option.some.injEq, Prod.mk.injEq] at h
        obtain ⟨rfl, rfl⟩ := h
        refine ⟨⟨cs, rfl⟩, fun hc X a Q hrel hq => ?_⟩
        have hc' : ∀ c ∈ cs, c = true := fun c hcc => hc c (List.mem_append_left _ hcc)
        refine ok vals rov σ.hp σ.os e0 outs hp' cs os' hfn hc' X a (stripT (dstsC body) σ.tm) ?_ ?_ Q fun X' a' hle hr' => hq X' a' hle ?_
        · intro t ht
          rw [lookT_app, lookT_zip_none _ _ fun hh => hro t hh ht, lookT_strip, if_pos ht]
        · refine ⟨hrel.hrel, hrel.heap, by rw [hrel.size, hnt]; rfl, hrel.defers, fun t v hv' => ?_, fun t s w v hv' => by cases hv'⟩
          simp only [headS] at hv'
          rw [lookT_app] at hv'
          split at hv'
          · rename_i v' hz
            injection hv' with hv'; subst hv'
            exact hrel.tm t v' (looks_look slots vals hv hz)
          · rw [lookT_app] at hv'
            split at hv'
            · rename_i v' hz
              injection hv' with hv'; subst hv'
              exact hrel.tm t v' (looks_look ro rov hrv hz)
            · rw [lookT_strip] at hv'
              split at hv'
              · cases hv'
              · exact hrel.tm t v hv'
        · refine ⟨hr'.hrel, hr'.heap, by rw [hr'.size, hnt]; rfl, hr'.defers, fun t v hv' => ?_, fun t s w v hv' => by cases hv'⟩
          simp only at hv'
          refine hr'.tm t v ?_
          simp only [headS]
          rw [lookT_app] at hv' ⊢
          split at hv'
          · exact hv'
          · rename_i hz
            rw [lookT_app]
            by_cases ht : t ∈ ro
            · rw [lookT_strip, if_neg (hro t ht)] at hv'
              have : lookT (zipT ro rov) t = some v := by
                clear hfn ok hr'
                induction ro generalizing rov with
                | nil => cases ht
                | cons s ss ih =>
                  simp only [looks] at hrv
                  split at hrv
                  · rename_i u us h1 h2
                    injection hrv with hrv; subst hrv
                    simp only [zipT, lookT]
                    by_cases hs : s = t
                    · subst hs
                      rw [h1] at hv'
                      injection hv' with hv'; subst hv'
                      simp
                    · have : Nat.beq s t = false := by
                        rw [Bool.eq_false_iff]; intro e; simp only [Nat.beq_eq] at e; exact hs e
                      simp only [this]
                      rcases List.mem_cons.1 ht with h' | h'
                      · exact absurd h'.symm hs
                      · exact ih (fun t ht => hro t (List.mem_cons_of_mem _ ht)) us h2 h'
                  · cases hrv
              rw [this]
            · rw [lookT_zip_none _ _ ht]; exact hv'
      · cases h
    · cases h
  · cases h

def addLC (lcs : Nat → LC) (f i : Nat) (lc : St → Option (XE × St)) : Nat → LC := fun g j σ =>
  if Nat.beq g f && Nat.beq j i then match lc σ with
    | some r => some r
    | none => lcs g j σ
  else lcs g j σ

def Env.addL (E : Env P) (f i : Nat) {body : Code} (hb : theLoop P f i = some body) (nt : Nat) (slots ro : List Nat) (chk : (slots.all (fun t => isIn t (dstsC body)) && ro.all fun t => !isIn t (dstsC body)) = true)
    (fn : List AV → List AV → List AB → List Bool → Option ((XE × List AV × List AB) × List Bool × List Bool))
    (ok : ∀ vals rov hp os e outs hp' cs os', fn vals rov hp os = some ((e, outs, hp'), cs, os') → (∀ c ∈ cs, c = true) → LoopOk P body nt slots ro vals rov hp e outs hp') : Env P :=
  have hss : ∀ t ∈ slots, t ∈ dstsC body := fun t ht => by
    simp only [Bool.and_eq_true, List.all_eq_true] at chk
    exact isIn_iff.1 (chk.1 t ht)
  have hro : ∀ t ∈ ro, t ∉ dstsC body := fun t ht hh => by
    simp only [Bool.and_eq_true, List.all_eq_true] at chk
    have := chk.2 t ht
    rw [isIn_iff.2 hh] at this; cases this
  { E with
    lcs := addLC E.lcs f i (mkLC nt (dstsC body) slots ro fn)
    hlc := fun g gn c hg hc b hbm j hj σ e σ' h => by
      unfold addLC at h
      split at h
      · rename_i hgj
        simp only [Bool.and_eq_true, Nat.beq_eq] at hgj
        obtain ⟨rfl, rfl⟩ := hgj
        split at h
        · rename_i r hr
          injection h with h; subst h
          have : b = body := theLoop_eq hb hg hc b hbm hj
          subst this
          exact mkLC_sim hss hro ok hr
        · exact E.hlc g gn c hg hc b hbm j hj σ e σ' h
      · exact E.hlc g gn c hg hc b hbm j hj σ e σ' h
    hkeep := fun g gn c hg hc b hbm j hj σ e σ' h => by
      unfold addLC at h
      split at h
      · rename_i hgj
        simp only [Bool.and_eq_true, Nat.beq_eq] at hgj
        obtain ⟨rfl, rfl⟩ := hgj
        split at h
        · rename_i r hr
          injection h with h; subst h
          have : b = body := theLoop_eq hb hg hc b hbm hj
          subst this
          exact mkLC_keeps hss hr
        · exact E.hkeep g gn c hg hc b hbm j hj σ e σ' h
      · exact E.hkeep g gn c hg hc b hbm j hj σ e σ' h }

/-! Slots that a loop only reads are taken as they are. -/
inductive RT where
  | one (t : CT) | sl (row : CT) | any
abbrev RT.den : RT → Type
  | .one t => t.den
  | .sl row => List row.den × SM
  | .any => AV
def RT.enc : (t : RT) → t.den → AV
  | .one t, v => .one (oneAC t v)
  | .sl row, v => .one (.sl row v.1 v.2)
  | .any, v => v
def RT.dec : (t : RT) → AV → Option t.den
  | .one (.int k), .one (.int k' n) => if (CT.int k).eqb (.int k') then some n else none
  | .one .bool, .one (.bool b) => some b
  | .one .str, .one (.str s) => some s
  | .sl row, .one (.sl row' l m) => if h : row'.eqb row = true then some (castL row' row h l, m) else none
  | .any, v => some v
  | _, _ => none
theorem RT.dec_eq (t : RT) {a : AV} {d : t.den} (h : t.dec a = some d) : a = t.enc d := by
  unfold RT.dec at h
  split at h
  · split at h
    · rename_i k k' n he
      injection h with h; subst h
      have e := CT.eq_of_eqb _ _ he
      injection e with e; subst e; rfl
    · cases h
  · injection h with h; subst h; rfl
  · injection h with h; subst h; rfl
  · split at h
    · rename_i row row' l m he
      injection h with h; subst h
      have e := CT.eq_of_eqb _ _ he
      subst e; rfl
    · cases h
  · injection h with h
  · cases h
abbrev rdens : List RT → Type
  | [] => Unit
  | t :: r => t.den × rdens r
def rencs : (l : List RT) → rdens l → List AV
  | [], _ => []
  | t :: r, d => t.enc d.1 :: rencs r d.2
def rdecs : (l : List RT) → List AV → Option (rdens l)
  | [], [] => some ()
  | t :: r, a :: as => match t.dec a, rdecs r as with
    | some x, some y => some (x, y)
    | _, _ => none
  | _, _ => none
theorem rdecs_eq : ∀ (l : List RT) {args : List AV} {d : rdens l}, rdecs l args = some d → args = rencs l d
  | [], [], _, _ => rfl
  | [], _ :: _, _, h => by cases h
  | _ :: _, [], _, h => by cases h
  | t :: r, a :: as, d, h => by
    simp only [rdecs] at h
    split at h
    · rename_i x y h1 h2
      injection h with h; subst h
      simp only [rencs]
      rw [← RT.dec_eq t h1, ← rdecs_eq r h2]
    · cases h

theorem decs_wks {hp : List AB} : ∀ (sg : List PT) (us : List AV) (d : dens sg), decs sg us = some d → Wks hp us (encs sg d)
  | [], [], _, _ => trivial
  | [], _ :: _, _, h => by cases h
  | _ :: _, [], _, h => by cases h
  | p :: sg, u :: us, d, h => by
    simp only [decs] at h
    split at h
    · rename_i x y h1 h2
      injection h with h; subst h
      exact ⟨fun X y _ _ hy => PT.dec_rel p h1 hy, decs_wks sg us _ h2⟩
    · cases h

/-- A loop's contract more, typed. -/
def Env.addLT (E : Env P) (f i : Nat) {body : Code} (hb : theLoop P f i = some body) (nt : Nat) (slots ro : List Nat) (chk : (slots.all (fun t => isIn t (dstsC body)) && ro.all fun t => !isIn t (dstsC body)) = true)
    (sig : List PT) (rsig : List RT) (res : dens sig → rdens rsig → List AB → List Bool → Option ((XE × List AV × List AB) × List Bool × List Bool))
    (ok : ∀ d r hp os e outs hp' cs os', res d r hp os = some ((e, outs, hp'), cs, os') → (∀ c ∈ cs, c = true) → LoopOk P body nt slots ro (encs sig d) (rencs rsig r) hp e outs hp') : Env P :=
  E.addL f i hb nt slots ro chk (fun vals rov hp os => match decs sig vals, rdecs rsig rov with
    | some d, some r => res d r hp os
    | _, _ => none) fun vals rov hp os e outs hp' cs os' h hc => by
      split at h
      · rename_i d r hd hr
        have e := rdecs_eq rsig hr
        subst e
        exact LoopOk.weaken (rov := rencs rsig r) (rov' := rencs rsig r) (decs_wks sig vals d hd) (.refl _) (ok d r hp os e outs hp' cs os' h hc) (.inr trivial)
      · cases h
end
section
open Go Go.RowKit Go.ChangeShapes Go.WideShapes
variable {P : Program}

/-! ### A law's arguments, as rows -/

def ikBytes : IntKind → Nat
  | .i8 | .u8 => 1
  | .i16 | .u16 => 2
  | .i32 | .u32 => 4
  | .i64 | .u64 => 8
def upTo (o a : Nat) : Nat := (o + (a - 1)) / a * a
/-- Bytes and alignment of one that stands at an offset, behind others. -/
def CT.layF : CT → Nat → Nat → Nat × Nat
  | .int k, o, a => (upTo o (ikBytes k) + ikBytes k, max a (ikBytes k))
  | .bool, o, a => (o + 1, a)
  | .str, o, a => (upTo o 8 + 16, max a 8)
  | .sl _, o, a => (upTo o 8 + 24, max a 8)
  | .unit, o, a => (o, a)
  | .pair c cs, o, a =>
    let (s, al) := match c with
      | .pair _ _ => let r := c.layF 0 1; (upTo r.1 r.2, r.2)
      | _ => c.layF 0 1
    cs.layF (upTo o al + s) (max a al)
def CT.bytes (t : CT) : Nat := match t with
  | .pair _ _ => let r := t.layF 0 1; upTo r.1 r.2
  | _ => (t.layF 0 1).1

def WF : (t : CT) → t.den → Prop
  | .int k, n => k.min ≤ n ∧ n ≤ k.max
  | .bool, _ => True
  | .str, s => s.size ≤ reachBytes
  | .sl row, l => l.length * row.bytes ≤ reachBytes ∧ ∀ x ∈ l, WF row x
  | .unit, _ => True
  | .pair c cs, v => WF c v.1 ∧ WF cs v.2

def fieldsC (g : TypeId → Option CT) (P : Program) : List Field → Nat → Option CT
  | [], _ => some .unit
  | f :: fs, off => if Nat.beq f.offset off then
      match g f.type with
      | some a => if Nat.beq a.width (P.cellsOf f.type) then match fieldsC g P fs (off + a.width) with
          | some r => some (.pair a r)
          | none => none
        else none
      | none => none
    else none
def repC (row : CT) : Nat → CT
  | 0 => .unit
  | n + 1 => .pair row (repC row n)
def rowC (P : Program) : Nat → TypeId → Option CT
  | 0, _ => none
  | d + 1, t => match P.underlying t with
    | some (.int k) => some (.int k)
    | some .bool => some .bool
    | some .string => some .str
    | some (.slice e) => match rowC P d e with
      | some row => if Nat.beq row.width (P.cellsOf e) && Nat.blt 0 row.width && Nat.beq row.bytes (P.bytesOf e) then some (.sl row) else none
      | none => none
    | some (.struct fs) => fieldsC (rowC P d) P fs.toList 0
    | some (.array n e) => match rowC P d e with
      | some row => if Nat.beq row.width (P.cellsOf e) then some (repC row n) else none
      | none => none
    | _ => none

section
variable {H : Type} {enc : TypeId × Value → H} {w : World} {sp : Nat → Bool} {held : Bool}

/-- Cells that are promised at the start. -/
def IC0 (w : World) : Addr → Value → Prop := fun a y => a.spot = none ∧ w.cell? a = some y ∧ w.frozen? a = false
theorem noneFrozen_sub {w : World} {ps qs : List MemPlace} (h : w.noneFrozen ps) (hs : ∀ p ∈ qs, p ∈ ps) : w.noneFrozen qs := fun b off hm => h b off (hs _ hm)

theorem weightsAll_mem {e : TypeId} : ∀ {l : List (DataW H)} {d : DataW H}, d ∈ l → ∀ n ∈ d.weights P e, n ∈ DataW.weightsAll P e l
  | [], d, h, _, _ => by cases h
  | x :: r, d, h, n, hn => by
    simp only [DataW.weightsAll, List.mem_append]
    rcases List.mem_cons.1 h with rfl | h
    · exact .inl hn
    · exact .inr (weightsAll_mem h n hn)

def OpenAt (P : Program) (enc : TypeId × Value → H) (w : World) (sp : Nat → Bool) (held : Bool) (g : TypeId → Option CT) (n : Nat) : Prop :=
  ∀ t row, g t = some row → ∀ cs dt ps, DataW.trod enc P w 0 sp held n t cs = some (dt, ps) → (∀ m ∈ dt.weights P t, m ≤ reachBytes) → w.noneFrozen ps →
    ∃ v : row.den, RelT row v (fun k y => cs[k]? = some y) (IC0 w) ∧ WF row v

theorem fields_open {g : TypeId → Option CT} {n : Nat} (ih : OpenAt P enc w sp held g n) {cs : List Value} : ∀ (fs : List Field) (off : Nat) (row : CT), fieldsC g P fs off = some row → ∀ (xs : List (DataW H × List MemPlace)), xs.length = fs.length →
    (∀ (i : Nat) f, fs[i]? = some f → DataW.trod enc P w 0 sp held n f.type ((cs.drop f.offset).take (P.cellsOf f.type)) = xs[i]?) → (∀ m ∈ DataW.weightsEach P (fs.map (·.type)) (xs.map (·.1)), m ≤ reachBytes) → w.noneFrozen (xs.flatMap (·.2)) →
    ∃ v : row.den, RelT row v (fun k y => cs[off + k]? = some y) (IC0 w) ∧ WF row v
  | [], off, row, h, xs, _, _, _, _ => by
    simp only [fieldsC, Option.some.injEq] at h
    subst h
    exact ⟨(), trivial, trivial⟩
  | f :: fs, off, row, h, xs, hl, hx, hw, hz => by
    simp only [fieldsC] at h
    split at h
    · rename_i ho
      simp only [Nat.beq_eq] at ho
      split at h
      · rename_i a ha
        split at h
        · rename_i haw
          simp only [Nat.beq_eq] at haw
          split at h
          · rename_i r hr
            injection h with h; subst h
            cases xs with
            | nil => simp at hl
            | cons x xs =>
              have h0 := hx 0 f rfl
              simp only [List.getElem?_cons_zero] at h0
              simp only [List.map_cons, DataW.weightsEach, List.mem_append] at hw
              simp only [List.flatMap_cons] at hz
              obtain ⟨v, hv, hwf⟩ := ih f.type a ha _ x.1 x.2 h0 (fun m hm => hw m (.inl hm)) (noneFrozen_sub hz fun p hp => List.mem_append_left _ hp)
              obtain ⟨u, hu, hwf'⟩ := fields_open ih fs (off + a.width) r hr xs (by simpa using hl) (fun i f' hf' => by
                have := hx (i + 1) f' (by simpa using hf')
                simpa using this) (fun m hm => hw m (.inr hm)) (noneFrozen_sub hz fun p hp => List.mem_append_right _ hp)
              refine ⟨(v, u), ⟨RelT.mono a v (fun k y hy => ?_) (fun _ _ h => h) hv, RelT.mono r u (fun k y hy => ?_) (fun _ _ h => h) hu⟩, hwf, hwf'⟩
              · rw [List.getElem?_take] at hy
                split at hy
                · rw [List.getElem?_drop, ho] at hy; exact hy
                · cases hy
              · show cs[off + (a.width + k)]? = some y
                rw [← Nat.add_assoc]; exact hy
          · cases h
        · cases h
      · cases h
    · cases h

theorem rep_open {g : TypeId → Option CT} {n : Nat} (ih : OpenAt P enc w sp held g n) {e : TypeId} {row : CT} (hg : g e = some row) (hwid : row.width = P.cellsOf e) {cs : List Value} : ∀ (k i : Nat) (xs : List (DataW H × List MemPlace)), xs.length = k →
    (∀ (j : Nat), j < k → DataW.trod enc P w 0 sp held n e ((cs.drop ((i + j) * P.cellsOf e)).take (P.cellsOf e)) = xs[j]?) → (∀ m ∈ DataW.weightsAll P e (xs.map (·.1)), m ≤ reachBytes) → w.noneFrozen (xs.flatMap (·.2)) →
    ∃ v : (repC row k).den, RelT (repC row k) v (fun q y => cs[i * row.width + q]? = some y) (IC0 w) ∧ WF (repC row k) v
  | 0, i, xs, _, _, _, _ => ⟨(), trivial, trivial⟩
  | k + 1, i, xs, hl, hx, hw, hz => by
    cases xs with
    | nil => simp at hl
    | cons x xs =>
      have h0 := hx 0 (by omega)
      simp only [List.getElem?_cons_zero, Nat.add_zero] at h0
      simp only [List.map_cons, DataW.weightsAll, List.mem_append] at hw
      simp only [List.flatMap_cons] at hz
      obtain ⟨v, hv, hwf⟩ := ih e row hg _ x.1 x.2 h0 (fun m hm => hw m (.inl hm)) (noneFrozen_sub hz fun p hp => List.mem_append_left _ hp)
      obtain ⟨u, hu, hwf'⟩ := rep_open ih hg hwid k (i + 1) xs (by simpa using hl) (fun j hj => by
        have := hx (j + 1) (by omega)
        rw [show i + (j + 1) = i + 1 + j by omega] at this
        simpa using this) (fun m hm => hw m (.inr hm)) (noneFrozen_sub hz fun p hp => List.mem_append_right _ hp)
      refine ⟨(v, u), ⟨RelT.mono row v (fun q y hy => ?_) (fun _ _ h => h) hv, RelT.mono (repC row k) u (fun q y hy => ?_) (fun _ _ h => h) hu⟩, hwf, hwf'⟩
      · rw [List.getElem?_take] at hy
        split at hy
        · rw [List.getElem?_drop, ← hwid] at hy; exact hy
        · cases hy
      · show cs[i * row.width + (row.width + q)]? = some y
        rw [show i * row.width + (row.width + q) = (i + 1) * row.width + q by rw [Nat.add_mul]; omega]; exact hy

theorem trod_open : ∀ (d n : Nat), OpenAt P enc w (fun _ => true) held (rowC P d) n
  | 0, n => fun t row h => by cases h
  | d + 1, n => fun t row h cs dt ps ht hw hz => by
    simp only [rowC] at h
    split at h
    · rename_i k hu
      injection h with h; subst h
      obtain ⟨z, rfl, hx, hwf⟩ := DataW.trod_int hu ht
      simp only [Lit.wf, Bool.and_eq_true, decide_eq_true_eq] at hwf
      exact ⟨z, rfl, hwf⟩
    · rename_i hu
      injection h with h; subst h
      obtain ⟨b, rfl, hx⟩ := DataW.trod_bool hu ht
      exact ⟨b, rfl, trivial⟩
    · rename_i hu
      injection h with h; subst h
      obtain ⟨s, rfl, hx, hs⟩ := DataW.trod_string hu ht
      refine ⟨s, rfl, ?_⟩
      simp only [Prod.mk.injEq] at hx
      have := hw s.data.toList.length (by rw [hx.1]; simp [DataW.weights])
      simpa [WF] using this
    · rename_i e hu
      split at h
      · rename_i r hr
        split at h
        · rename_i hc
          simp only [Bool.and_eq_true, Nat.beq_eq, Nat.blt_eq] at hc
          obtain ⟨⟨h1, h2⟩, h3⟩ := hc
          injection h with h; subst h
          rcases DataW.trod_slice hu ht with ⟨rfl, hx⟩ | ⟨a, len, cap, elems, rest, m, _, rfl, hx, _, hle, hmx, hlen, hel, _, _⟩
          · exact ⟨([] : List r.den), ⟨none, 0, 0, rfl, rfl, Nat.le_refl _, Nat.zero_le _, .inl rfl⟩, by simp [reachBytes], fun x hx => by cases hx⟩
          · simp only [Prod.mk.injEq] at hx
            obtain ⟨rfl, rfl⟩ := hx
            have hw' := hw
            simp only [DataW.weights, hu, List.mem_cons, List.mem_append, List.length_map] at hw'
            have each : ∀ i, i < len → ∃ v : r.den, RelT r v (fun k y => IC0 w ⟨a.block, a.off + i * r.width + k, none⟩ y) (IC0 w) ∧ WF r v := by
              intro i hi
              have he := hel i hi
              have hi' : i < elems.length := by omega
              rw [List.getElem?_eq_getElem hi'] at he
              cases hcs : w.cells? 0 (a.add (i * P.cellsOf e)) (P.cellsOf e) with
              | none => rw [hcs] at he; cases he
              | some cs' =>
                rw [hcs] at he
                simp only [Option.bind_some] at he
                obtain ⟨v, hv, hwf⟩ := trod_open d m e r hr cs' elems[i].1 elems[i].2 he (fun k hk => hw' k (.inr (.inl (weightsAll_mem (List.mem_map_of_mem (List.getElem_mem hi')) k hk)))) (noneFrozen_sub hz fun p hp => List.mem_append_right _ (List.mem_flatMap.2 ⟨_, List.mem_append_left _ (List.getElem_mem hi'), hp⟩))
                obtain ⟨_, hl, hc⟩ := World.cells?_some hcs
                refine ⟨v, RelT.mono_lt r v (fun k y hk hy => ⟨rfl, ?_, hz _ _ (List.mem_append_left _ (List.mem_map.2 ⟨i * r.width + k, ?_, by rw [Nat.add_assoc]⟩))⟩) (fun _ _ h => h) hv, hwf⟩
                rotate_left
                · rw [List.mem_range, ← h1]
                  have h5 : (i + 1) * r.width ≤ (elems.length + rest.length) * r.width := Nat.mul_le_mul_right _ (by omega)
                  rw [Nat.add_mul, Nat.one_mul] at h5
                  omega
                have h4 := hc k (by omega)
                rw [hy] at h4
                have : ((a.add (i * P.cellsOf e)).add k) = ⟨a.block, a.off + i * r.width + k, none⟩ ∨ True := .inr trivial
                have hsp : ((a.add (i * P.cellsOf e)).add k).spot = none := by
                  unfold World.cell? at h4
                  split at h4
                  · split at h4
                    · cases h4
                    · rename_i hs; simpa using hs
                  · cases h4
                have heq : ((a.add (i * P.cellsOf e)).add k) = ⟨a.block, a.off + i * r.width + k, none⟩ := by
                  have hb : ∀ (a : Addr) n, (a.add n).block = a.block ∧ (a.add n).off = a.off + n := fun a n => by
                    unfold Addr.add; split
                    · rename_i h0; subst h0; exact ⟨rfl, rfl⟩
                    · exact ⟨rfl, rfl⟩
                  have e1 := (hb (a.add (i * P.cellsOf e)) k)
                  have e2 := (hb a (i * P.cellsOf e))
                  cases hq : (a.add (i * P.cellsOf e)).add k with
                  | mk b o s =>
                    rw [hq] at e1 hsp
                    simp only at e1 hsp
                    rw [e1.1, e1.2, e2.1, e2.2, hsp, h1]
                rw [← heq]; exact h4
            have : ∃ g : Nat → r.den, ∀ i, i < len → RelT r (g i) (fun k y => IC0 w ⟨a.block, a.off + i * r.width + k, none⟩ y) (IC0 w) ∧ WF r (g i) :=
              ⟨fun i => if h : i < len then Classical.choose (each i h) else r.dflt, fun i hi => by simp only [dif_pos hi]; exact Classical.choose_spec (each i hi)⟩
            obtain ⟨g, hg⟩ := this
            refine ⟨(List.range len).map g, ⟨some a, len, cap, rfl, by simp, hle, hmx, ?_⟩, ?_, ?_⟩
            · by_cases hz : len = 0
              · exact .inl hz
              · right
                have h0 := hg 0 (by omega)
                have hsp : a.spot = none := by
                  have he := hel 0 (by omega)
                  rw [List.getElem?_eq_getElem (by omega)] at he
                  cases hcs : w.cells? 0 (a.add (0 * P.cellsOf e)) (P.cellsOf e) with
                  | none => rw [hcs] at he; cases he
                  | some cs' =>
                    obtain ⟨_, hl, hc⟩ := World.cells?_some hcs
                    have h4 := hc 0 (by omega)
                    simp only [Nat.zero_mul, Addr.add, if_true] at h4
                    rw [List.getElem?_eq_getElem (by omega)] at h4
                    unfold World.cell? at h4
                    split at h4
                    · split at h4
                      · cases h4
                      · rename_i hs; simpa using hs
                    · cases h4
                refine ⟨a.block, a.off, by cases a; simp only at hsp; subst hsp; rfl, fun j x hj => ?_⟩
                rw [List.getElem?_map] at hj
                by_cases hjl : j < len
                · rw [List.getElem?_range hjl] at hj
                  simp only [Option.map_some, Option.some.injEq] at hj
                  subst hj
                  exact (hg j hjl).1
                · rw [List.getElem?_eq_none (by simpa using hjl)] at hj; cases hj
            · have h0 := hw' _ (.inl rfl)
              rw [hlen] at h0
              simp only [List.length_map, List.length_range, h3]
              exact Nat.le_trans (Nat.mul_le_mul_right _ (by omega)) h0
            · intro x hx
              obtain ⟨i, hi, rfl⟩ := List.mem_map.1 hx
              exact (hg i (by simpa using hi)).2
        · cases h
      · cases h
    · rename_i fs hu
      obtain ⟨xs, m, _, hx, hl, hxl, hxs⟩ := DataW.trod_struct hu ht
      simp only [Prod.mk.injEq] at hx
      obtain ⟨rfl, rfl⟩ := hx
      have := fields_open (trod_open d m) (cs := cs) fs.toList 0 row h xs (by simpa using hxl) (fun i f hf => hxs i f (by simpa using hf)) (fun k hk => hw k (by simp only [DataW.weights, hu]; exact hk)) hz
      obtain ⟨v, hv, hwf⟩ := this
      exact ⟨v, RelT.mono row v (fun k y hy => by rw [Nat.zero_add] at hy; exact hy) (fun _ _ h => h) hv, hwf⟩
    · rename_i k e hu
      split at h
      · rename_i r hr
        split at h
        · rename_i hc
          simp only [Nat.beq_eq] at hc
          injection h with h; subst h
          obtain ⟨xs, m, _, hx, hl, hxl, hxs⟩ := DataW.trod_array hu ht
          simp only [Prod.mk.injEq] at hx
          obtain ⟨rfl, rfl⟩ := hx
          have := rep_open (trod_open d m) hr hc (cs := cs) k 0 xs hxl (fun j hj => by rw [Nat.zero_add]; exact hxs j hj) (fun q hq => hw q (by simp only [DataW.weights, hu]; exact hq)) hz
          obtain ⟨v, hv, hwf⟩ := this
          exact ⟨v, RelT.mono _ v (fun k y hy => by rw [Nat.zero_mul, Nat.zero_add] at hy; exact hy) (fun _ _ h => h) hv, hwf⟩
        · cases h
      · cases h
    · cases h
end

/-- Parameters as typed. -/
def ptC (P : Program) (t : TypeId) : Option PT :=
  match P.underlying t with
  | some (.struct _) => (rowC P 12 t).bind fun r => if Nat.beq r.width (P.cellsOf t) then some (.agg r) else none
  | some (.array _ _) => (rowC P 12 t).bind fun r => if Nat.beq r.width (P.cellsOf t) then some (.agg r) else none
  | some (.int k) => some (.one (.int k))
  | some .bool => some (.one .bool)
  | some .string => some (.one .str)
  | some (.slice _) => (rowC P 12 t).map .one
  | _ => none
def ptsC (P : Program) : List TypeId → Option (List PT)
  | [] => some []
  | t :: ts => match ptC P t, ptsC P ts with
    | some p, some l => some (p :: l)
    | _, _ => none
def WFp : (p : PT) → p.den → Prop
  | .one t, v => WF t v
  | .agg t, v => WF t v
def WFs : (l : List PT) → dens l → Prop
  | [], _ => True
  | p :: l, d => WFp p d.1 ∧ WFs l d.2

theorem IC_top {W : World} {a : Addr} {y : Value} (h : IC0 W a y) : (topC W).IC a y := freshAll_IC h.1 h.2.1 h.2.2

section
variable {H : Type} {enc : TypeId × Value → H}
theorem relT_vr {W : World} {t : CT} {v : t.den} {x : Value} (h1 : t.width = 1) (h : RelT t v (fun k y => [x][k]? = some y) (IC0 W)) (hu : t ≠ .unit ∧ ∀ c cs, t ≠ .pair c cs) : VRc (topC W) (oneAC t v) x := by
  have h' := RelT.mono t v (fun k y hy => hy) (fun a y => IC_top) h
  cases t with
  | int k => have : x = .int k v := by simpa [RelT] using h'
             exact this
  | bool => have : x = .bool v := by simpa [RelT] using h'
            exact this
  | str => have : x = .string v := by simpa [RelT] using h'
           exact this
  | sl row =>
    obtain ⟨A, n, cap, e, hn, hc, hm, hh⟩ := h'
    have : x = .slice A n cap := by simpa using e
    exact ⟨A, n, cap, this, hn, hc, hm, hh, trivial⟩
  | unit => exact absurd rfl hu.1
  | pair c cs => exact absurd rfl (hu.2 c cs)

theorem arg_open {W : World} {t : TypeId} {p : PT} (hp : ptC P t = some p) {v : Value} {d : DataW H} {ps : List MemPlace} {b : Nat} (hval : Value.okWide P W .any b t v) (h : DataW.Trod enc P W 0 (fun _ => true) true t v d ps)
    (hw : ∀ m ∈ d.weights P t, m ≤ reachBytes) (hz : W.noneFrozen ps) : ∃ x : p.den, VR (topC W) (p.enc x) v ∧ WFp p x := by
  obtain ⟨fuel, hf⟩ := h
  have agg : ∀ r, rowC P 12 t = some r → r.width = P.cellsOf t → (∃ cs, v = .agg cs ∧ cs.size = P.cellsOf t) → ∃ x : r.den, VR (topC W) (.agg (r.cells x)) v ∧ WF r x := by
    intro r hr hrw ⟨cs, e, hs⟩
    subst e
    obtain ⟨x, hx, hwf⟩ := trod_open 12 fuel t r hr _ _ _ hf hw hz
    refine ⟨x, ⟨cs, rfl, cells_pw r x cs.toList (by rw [hrw, ← hs]; simp) ?_⟩, hwf⟩
    exact RelT.mono r x (fun k y hy => by simpa [Value.cells] using hy) (fun a y => IC_top) hx
  unfold ptC at hp
  split at hp
  · rename_i fs hu
    cases hr : rowC P 12 t with
    | none => rw [hr] at hp; cases hp
    | some r =>
      rw [hr] at hp
      simp only [Option.bind_some] at hp
      split at hp
      · rename_i hc
        injection hp with hp; subst hp
        exact agg r hr (by simpa using hc) (okWide_struct hu hval)
      · cases hp
  · rename_i k e hu
    cases hr : rowC P 12 t with
    | none => rw [hr] at hp; cases hp
    | some r =>
      rw [hr] at hp
      simp only [Option.bind_some] at hp
      split at hp
      · rename_i hc
        injection hp with hp; subst hp
        refine agg r hr (by simpa using hc) ?_
        unfold Value.okWide at hval
        rw [hu] at hval
        obtain ⟨cs, h1, h2, _⟩ := hval
        exact ⟨cs, h1, h2⟩
      · cases hp
  · rename_i k hu
    injection hp with hp; subst hp
    obtain ⟨n, rfl⟩ := okWide_int hu hval
    obtain ⟨z, hz, _, hwf⟩ := DataW.trod_int hu hf
    simp only [Value.cells] at hz
    have : z = n := by simpa using hz.symm
    subst this
    simp only [Lit.wf, Bool.and_eq_true, decide_eq_true_eq] at hwf
    exact ⟨z, rfl, hwf⟩
  · rename_i hu
    injection hp with hp; subst hp
    obtain ⟨n, rfl⟩ := okWide_bool hu hval
    exact ⟨n, rfl, trivial⟩
  · rename_i hu
    injection hp with hp; subst hp
    obtain ⟨n, rfl⟩ := okWide_string hu hval
    obtain ⟨s, hz, hx, hs⟩ := DataW.trod_string hu hf
    simp only [Value.cells] at hz
    have : s = n := by simpa using hz.symm
    subst this
    simp only [Prod.mk.injEq] at hx
    have := hw s.data.toList.length (by rw [hx.1]; simp [DataW.weights])
    exact ⟨s, rfl, by simpa [WFp, WF] using this⟩
  · rename_i e hu
    cases hr : rowC P 12 t with
    | none => rw [hr] at hp; cases hp
    | some r =>
      rw [hr] at hp
      simp only [Option.map_some, Option.some.injEq] at hp
      subst hp
      obtain ⟨a, len, cap, rfl⟩ := okWide_slice hu hval
      obtain ⟨x, hx, hwf⟩ := trod_open 12 fuel t r hr _ _ _ hf hw hz
      have hr' : ∃ row, r = .sl row := by
        simp only [rowC, hu] at hr
        split at hr
        · split at hr
          · injection hr with hr; exact ⟨_, hr.symm⟩
          · cases hr
        · cases hr
      obtain ⟨row, rfl⟩ := hr'
      exact ⟨x, (relT_vr (t := .sl row) (v := x) rfl (by simpa [Value.cells] using hx) ⟨by simp, by simp⟩ : VRc (topC W) (oneAC (.sl row) x) (.slice a len cap)), hwf⟩
  · cases hp

theorem args_open {W : World} {b : Nat} : ∀ {ts : List TypeId} {l : List PT}, ptsC P ts = some l → ∀ {vs : List Value} {ds : List (DataW H)} {ps : List MemPlace},
    (∀ (j : Nat) t v, ts[j]? = some t → vs[j]? = some v → Value.okWide P W .any b t v) → DataW.TrodAll enc P W 0 (fun _ => true) true ts vs ds ps → (∀ m ∈ DataW.weightsEach P ts ds, m ≤ reachBytes) → W.noneFrozen ps →
    ∃ x : dens l, PW (VR (topC W)) (encs l x) vs ∧ WFs l x
  | [], l, h, vs, ds, ps, hval, ht, hw, hz => by
    simp only [ptsC, Option.some.injEq] at h
    subst h
    obtain ⟨rfl, _, _⟩ := trodAll_nil ht
    exact ⟨(), PW.nil, trivial⟩
  | t :: ts, l, h, vs, ds, ps, hval, ht, hw, hz => by
    simp only [ptsC] at h
    split at h
    · rename_i p l' hp hl
      injection h with h; subst h
      cases vs with
      | nil => cases ds <;> exact ht.elim
      | cons v vs => cases ds with
        | nil => exact ht.elim
        | cons d ds =>
          obtain ⟨q1, q2, h1, h2, e⟩ := ht
          simp only [DataW.weightsEach, List.mem_append] at hw
          obtain ⟨x, hx, hwf⟩ := arg_open hp (hval 0 t v rfl rfl) h1 (fun m hm => hw m (.inl hm)) (noneFrozen_sub hz fun p hp => by rw [e]; exact List.mem_append_left _ hp)
          obtain ⟨y, hy, hwf'⟩ := args_open hl (fun j t v hj hv => hval (j + 1) t v (by simpa using hj) (by simpa using hv)) h2 (fun m hm => hw m (.inr hm)) (noneFrozen_sub hz fun p hp => by rw [e]; exact List.mem_append_right _ hp)
          exact ⟨(x, y), PW.cons hx hy, hwf, hwf'⟩
    · cases h

theorem args_stay {W W' : World} (hl : laidOutB P = true) (hb : Below W.heap.size W W') {sp : Nat → Bool} : ∀ {ts : List TypeId} {vs : List Value} {ds : List (DataW H)} {ps : List MemPlace}, (ts.all fun t => P.readableRec t && decide (t < P.types.size)) = true →
    DataW.TrodAll enc P W 0 (fun _ => true) true ts vs ds ps → (∀ x ∈ ps, x.block < W.heap.size) → (∀ x ∈ ps, sp x.block = true) → DataW.TrodAll enc P W' 0 sp true ts vs ds ps
  | [], vs, ds, ps, _, h, _, _ => by
    obtain ⟨rfl, rfl, rfl⟩ := trodAll_nil h
    exact rfl
  | t :: ts, [], ds, ps, _, h, _, _ => by cases ds <;> exact h.elim
  | t :: ts, v :: vs, [], ps, _, h, _, _ => h.elim
  | t :: ts, v :: vs, d :: ds, ps, hr, ⟨p, q, h1, h2, e⟩, hlt, hs => by
    simp only [List.all_cons, Bool.and_eq_true, decide_eq_true_eq] at hr
    subst e
    exact ⟨p, q, WideElems.Trod_stays hl hr.1.1 hr.1.2 h1 (fun x hx => hb.same (hlt x (List.mem_append_left _ hx))) (fun x hx => hs x (List.mem_append_left _ hx)),
      args_stay hl hb (by simpa using hr.2) h2 (fun x hx => hlt x (List.mem_append_right _ hx)) (fun x hx => hs x (List.mem_append_right _ hx)), rfl⟩

/-- A law's call, from what it comes to at typed arguments. -/
theorem law_calls {f : Nat} {fn : Func} {s : ChangeSpec} {apart fresh handsOn again : Bool} (hvars : s.vars = []) {tb : TypeId} (hrt : fn.resultTypes = #[tb]) (hbt : P.underlying tb = some .bool)
    (hspec : ∀ ds : List (DataW H), ds.length = fn.params.toList.length → s.fn H ds = { results := [.lit (.bool true)], args := ds }) (hl : laidOutB P = true) (hread : (fn.params.toList.all fun t => P.readableRec t && decide (t < P.types.size)) = true)
    {sig : List PT} (hsig : ptsC P fn.params.toList = some sig) (law : ∀ d : dens sig, WFs sig d → ∀ (w : World), PureCall P f (encs sig d) (.one (.bool true)))
    (W : World) (base : Nat) (args : Array Value) (ds gs : List (DataW H)) (before : List MemPlace)
    (hval : ∀ (j : Nat) t v, fn.params[j]? = some t → args[j]? = some v → Value.okWide P W .any base t v) (hW : DataW.Whole enc P fn.params.toList s.vars apart W args.toList ds gs before)
    (hz : (DataW.weightsEach P (fn.params.toList ++ s.plain.varTypes P) (ds ++ gs)).all (· ≤ reachBytes) = true) :
    Calls P f args W fun e W' => ∃ v, e = .returned v ∧ s.post enc P fn apart fresh handsOn again W args v W' := by
  have hW' := hW
  obtain ⟨p, q, hA, hV, hpq, hfz, hnd⟩ := hW
  rw [hvars] at hV
  obtain ⟨hgs, hq⟩ : gs = [] ∧ q = [] := by
    cases gs with
    | nil => exact ⟨rfl, hV⟩
    | cons g gs => exact hV.elim
  subst hgs; subst hq
  simp only [List.append_nil] at hpq
  subst hpq
  have hlen := trodAll_length hA
  have hvt : s.plain.varTypes P = [] := by
    simp [DataSpec.varTypes, ChangeSpec.plain, hvars]
  rw [hvt] at hz
  simp only [List.append_nil, List.all_eq_true, decide_eq_true_eq] at hz
  obtain ⟨x, hx, hwf⟩ := args_open hsig (fun j t v hj hv => hval j t v (by simpa using hj) (by simpa using hv)) hA (fun m hm => hz m hm) hfz
  have hcall := (law x hwf W).2 (topC W) args.toList (HRel.topC W) hx
  have e0 : args.toList.toArray = args := by simp
  rw [e0] at hcall
  refine hcall.mono fun e W' hh => ?_
  obtain ⟨val, Y, rfl, rfl, hle, hY, _, hv⟩ := hh
  have hv' : val = .bool true := hv
  subst hv'
  have hbel := below_top hle hY
  have hlt : ∀ x ∈ before, x.block < W.heap.size := fun x hx => hW'.lt x hx
  have hsp := hspec ds (by rw [← hlen.2])
  refine ⟨_, rfl, post_of_below (pa := before) (pv := []) hW' (fun b sp hd => ?_) (fun sp hs => ?_) (fun sp hs => ?_) (by simp) hbel (ok_one hrt rfl (okWide_bool_mk hbt true))⟩
  · simp only [List.append_nil, hsp, hrt]
    exact trodAll_cons_mk (shut_bool hbt true) trodAll_mk0
  · simp only [List.append_nil, hsp]
    exact args_stay hl hbel hread hA hlt hs
  · simp only [List.append_nil, hsp, hvars]
    exact rfl
end

/-- Plain arguments of a law: an input that there is. -/
def zeroArgs (P : Program) (ts : List TypeId) : Array Value := (ts.map fun t => ((P.info? t).bind (·.zero)).getD undef).toArray
end
section
open Go Go.RowKit
variable {P : Program}

/-! ### Short words -/
abbrev cI : CT := .int .i64
abbrev cU : CT := .int .u64
abbrev cB : CT := .int .u8
abbrev vI (n : Int) : AV := .one (.int .i64 n)
abbrev vU (n : Int) : AV := .one (.int .u64 n)
abbrev vY (n : Int) : AV := .one (.int .u8 n)
abbrev vB (b : Bool) : AV := .one (.bool b)
abbrev vS (s : ByteArray) : AV := .one (.str s)
abbrev vL (row : CT) (l : List row.den) : AV := .one (.sl row l .shared)
abbrev vX : AV := .one .unk

theorem allT0 : ∀ c ∈ ([] : List Bool), c = true := fun c hc => by cases hc
theorem allT1 {a : Bool} (h : a = true) : ∀ c ∈ [a], c = true := fun c hc => by rcases List.mem_singleton.1 hc with rfl; exact h
theorem allTc {a : Bool} {l : List Bool} (h : a = true) (hl : ∀ c ∈ l, c = true) : ∀ c ∈ a :: l, c = true := fun c hc => by
  rcases List.mem_cons.1 hc with rfl | hc
  · exact h
  · exact hl c hc
theorem of_allTc {a : Bool} {l : List Bool} (h : ∀ c ∈ a :: l, c = true) : a = true ∧ ∀ c ∈ l, c = true := ⟨h _ (List.mem_cons_self ..), fun c hc => h c (List.mem_cons_of_mem _ hc)⟩
theorem wrap64 {n : Int} (h1 : -9223372036854775808 ≤ n) (h2 : n ≤ 9223372036854775807) : IntKind.i64.wrap n = n := by
  simp only [IntKind.wrap, IntKind.signed, IntKind.bits, Bool.true_and]
  split <;> simp_all <;> omega
theorem wrapU64 {n : Int} (h1 : 0 ≤ n) (h2 : n < 18446744073709551616) : IntKind.u64.wrap n = n := by
  simp only [IntKind.wrap, IntKind.signed, IntKind.bits, Bool.false_and]
  simp; omega
theorem wrapU8 {n : Int} (h1 : 0 ≤ n) (h2 : n < 256) : IntKind.u8.wrap n = n := by
  simp only [IntKind.wrap, IntKind.signed, IntKind.bits, Bool.false_and]
  simp; omega
theorem inB_of {n : Int} {len : Nat} (h1 : 0 ≤ n) (h2 : n < len) : inB n len = true := by simp [inB]; omega
theorem inB_iff {n : Int} {len : Nat} : inB n len = true ↔ 0 ≤ n ∧ n < len := by simp [inB]
theorem eqT {a : Bool} (h : a = true) : (a == true) = true := by rw [h]; rfl
theorem eqF {a : Bool} (h : a = false) : (a == false) = true := by rw [h]; rfl
theorem dT {p : Prop} [Decidable p] (h : p) : (decide p == true) = true := by simp [h]
theorem dF {p : Prop} [Decidable p] (h : ¬ p) : (decide p == false) = true := by simp [h]
theorem getD_get {α : Type} {l : List α} {k : Nat} {d : α} (h : k < l.length) : l[k]? = some (l.getD k d) := by
  rw [List.getD_eq_getElem?_getD, List.getElem?_eq_getElem h]; rfl
theorem take_all {α : Type} {l : List α} {m : Nat} (h : l.length = m) : l.take m = l := by subst h; exact List.take_length

/-- slices.Clone: by what it does of nil, of an empty one, of another. -/
theorem clone_of (E : Env P) {f : Nat} {row : CT} {l : List row.den} {os : List Bool} {cs : List Bool} (h0 : E.pureRun f [.one .nilz] [] = some (.one .nils, [])) (h1 : E.pureRun f [.one (.sl row [] .nn)] [] = some (.one (.sl row [] .full), []))
    (h2 : l ≠ [] → E.pureRun f [.one (.sl row l .nn)] os = some (vL row l, cs)) (hcs : l ≠ [] → ∀ c ∈ cs, c = true) : PureCall P f [vL row l] (vL row l) := by
  have p0 := E.pure_ok h0 allT0
  refine ⟨p0.1, fun X vs hX hv => ?_⟩
  obtain ⟨y, hvs, hy⟩ : ∃ y, vs = [y] ∧ VR X (vL row l) y := by
    have hl := hv.1
    match vs, hl with
    | [y], _ => exact ⟨y, rfl, hv.2 0 _ _ rfl rfl⟩
  subst hvs
  obtain ⟨A, n, cap, e, hn, hc, hm, hh, _⟩ := hy
  have toShared : ∀ (X' : Ctx) (m : SM) (v : Value), VR X' (.one (.sl row l m)) v → VR X' (vL row l) v := fun X' m v ⟨A, n, cap, h1, h2, h3, h4, h5, _⟩ => ⟨A, n, cap, h1, h2, h3, h4, h5, trivial⟩
  cases A with
  | none =>
    have hz : n = 0 := by
      rcases hh with h | ⟨b, o, h, _⟩
      · exact h
      · cases h
    have hl : l = [] := List.eq_nil_of_length_eq_zero (by omega)
    subst hl
    subst hz
    exact (p0.2 X [y] hX (PW.cons ⟨cap, e⟩ PW.nil)).mono fun e w' ⟨val, X', h1, h2, h3, h4, h5, h6⟩ => ⟨val, X', h1, h2, h3, h4, h5, ⟨none, 0, 0, h6, rfl, Nat.le_refl _, Nat.zero_le _, .inl rfl, trivial⟩⟩
  | some a =>
    have hnn : VR X (.one (.sl row l .nn)) y := ⟨some a, n, cap, e, hn, hc, hm, hh, a, rfl⟩
    by_cases hl : l = []
    · subst hl
      exact ((E.pure_ok h1 allT0).2 X [y] hX (PW.cons hnn PW.nil)).mono fun e w' ⟨val, X', h1, h2, h3, h4, h5, h6⟩ => ⟨val, X', h1, h2, h3, h4, h5, toShared X' _ _ h6⟩
    · exact (E.pure_ok (h2 hl) (hcs hl)).2 X [y] hX (PW.cons hnn PW.nil)

/-- It came to true, and all that was taken for granted is so. -/
def cameT (o : Option (AV × List AB × List Bool)) : Bool :=
  match o with
  | some (.one (.bool b), _, cs) => b && cs.all (fun c => c)
  | _ => false
theorem cameT_spec {o : Option (AV × List AB × List Bool)} (h : cameT o = true) : ∃ hp cs, o = some (vB true, hp, cs) ∧ ∀ c ∈ cs, c = true := by
  unfold cameT at h
  split at h
  · rename_i b hp cs
    simp only [Bool.and_eq_true, List.all_eq_true] at h
    obtain ⟨rfl, h⟩ := h
    exact ⟨hp, cs, rfl, h⟩
  · cases h
theorem Env.closedT (E : Env P) {f : Nat} (h : cameT (E.run f [] [] []) = true) (W : World) : Calls P f #[] W fun e w' => e = .returned (.bool true) ∧ Below W.heap.size W w' := by
  obtain ⟨hp, cs, hr, hcs⟩ := cameT_spec h
  exact E.closed hr hcs rfl W
/-- A closed function that is pure. -/
theorem Env.closedP (E : Env P) {f : Nat} (h : (match E.pureRun f [] [] with | some (.one (.bool b), cs) => b && cs.all (fun c => c) | _ => false) = true) : PureCall P f [] (vB true) := by
  split at h
  · rename_i b cs hr
    simp only [Bool.and_eq_true, List.all_eq_true] at h
    obtain ⟨rfl, h⟩ := h
    exact E.pure_ok hr h
  · cases h

/-! ### What is known of arguments -/
def isFn (P : Program) (f : Nat) : Bool := match P.funcs[f]? with
  | some fn => !(fn.name == "runtime.NumGoroutine") && !fn.body.isNone
  | none => false
theorem PureCall.facts' {f : Nat} {args : List AV} {r : AV} (hf : isFn P f = true) (h : (∃ X vs, HRel X ∧ PW (VR X) args vs) → PureCall P f args r) : PureCall P f args r := by
  refine PureCall.facts ?_ h
  unfold isFn at hf
  split at hf
  · rename_i fn hfn
    simp only [Bool.and_eq_true, Bool.not_eq_true'] at hf
    exact ⟨fn, hfn, hf.1, hf.2⟩
  · cases hf
theorem len_of {X : Ctx} {vs : List Value} {args : List AV} (hv : PW (VR X) args vs) (i : Nat) {row : CT} {l : List row.den} {m : SM} (h : args[i]? = some (.one (.sl row l m))) : l.length ≤ maxLen := by
  have hi := (List.getElem?_eq_some_iff.1 h).1
  have h2 : i < vs.length := by rw [← hv.1]; exact hi
  exact sl_len (hv.2 i _ _ h (List.getElem?_eq_getElem h2))

/-- A list that a pure call comes to, of nothing unknown. -/
def cameL (o : Option (AV × List Bool)) (L : List Int) : Bool :=
  match o with
  | some (.one (.sl (.int .i64) l .shared), cs) => (l == L) && cs.all fun c => c
  | some (.one .nils, cs) => L.isEmpty && cs.all fun c => c
  | _ => false
theorem cameL_ok (E : Env P) {f : Nat} {args : List AV} {os : List Bool} {L : List Int} (h : cameL (E.pureRun f args os) L = true) : PureCall P f args (vL cI L) := by
  unfold cameL at h
  split at h
  · rename_i l cs hr
    simp only [Bool.and_eq_true, List.all_eq_true, beq_iff_eq] at h
    obtain ⟨rfl, h⟩ := h
    exact E.pure_ok hr h
  · rename_i cs hr
    simp only [Bool.and_eq_true, List.all_eq_true, List.isEmpty_iff] at h
    obtain ⟨rfl, h⟩ := h
    exact (E.pure_ok hr h).resw fun X v _ hv => ⟨none, 0, 0, hv, rfl, Nat.le_refl _, Nat.zero_le _, .inl rfl, trivial⟩
  · cases h

theorem getD_take {α : Type} {l : List α} {n k : Nat} {d : α} (h : k < n) : (l.take n).getD k d = l.getD k d := by
  simp only [List.getD_eq_getElem?_getD, List.getElem?_take, if_pos h]
end
section
open Go Go.RowKit
variable {P : Program}

/-! ### A call that sees a map and the cell that holds it, and nothing else of the caller's blocks -/

/-- Only the first two blocks are lent. -/
def two (X : Ctx) : Ctx := { φ := X.φ, fr := fun _ => none, tl := fun _ => False, H := fun k => if k < 2 then X.H k else none, w := X.w, w0 := X.w, lent := fun k => k = X.φ 0 ∨ k = X.φ 1, old := X.IC }

theorem two_IC {X : Ctx} {a : Addr} {y : Value} (h : X.IC a y) : (two X).IC a y :=
  ⟨.inr (.inr h), h.2.1, h.2.2.1, (fun i b hb hl => by
    have hb : (if i < 2 then X.H i else none) = some b := hb
    split at hb
    · exact h.2.2.2.1 i b hb hl
    · cases hb), (fun e he => by cases he), h.2.2.2.2.2⟩

section
variable {kt vt : CT} {ka va : Bool} {l l' : List (kt.den × vt.den)}

theorem two_rel {X : Ctx} (hX : HRel X) (h0 : X.H 0 = some (.mp kt vt ka va l)) (h1 : X.H 1 = some (.cells [.mref 0])) : HRel (two X) := by
  have sub : ∀ i b, (two X).H i = some b → X.H i = some b ∧ i < 2 := fun i b hb => by
    simp only [two] at hb
    split at hb
    · exact ⟨hb, by assumption⟩
    · cases hb
  refine ⟨fun i j b c hi hj hb hc hne => hX.inj i j b c (sub i b hi).1 (sub j c hj).1 hb hc hne, fun i j h => h.elim, fun i b j _ _ h => h.elim, fun i b hi hb => ?_, fun i h => h.elim, fun i b hi hb => hX.lt i b (sub i b hi).1 hb, fun i h => h.elim, fun i h => h.elim, (fun b e h => by cases h), fun i b hi => ?_, fun k _ _ => rfl, rfl, rfl, rfl, Nat.le_refl _, fun a y h => two_IC h⟩
  · obtain ⟨_, hlt⟩ := sub i b hi
    right
    have : i = 0 ∨ i = 1 := by omega
    rcases this with rfl | rfl
    · exact .inl rfl
    · exact .inr rfl
  · obtain ⟨hb, hlt⟩ := sub i b hi
    have : i = 0 ∨ i = 1 := by omega
    rcases this with rfl | rfl
    · rw [h0] at hb; injection hb with hb; subst hb
      obtain ⟨hf, es, clock, g1, g2, g3⟩ := hX.blk 0 _ h0
      refine ⟨hf, es, clock, g1, g2, g3.1, g3.2.imp fun l' hl' => ⟨hl'.1, fun j p e hp he => ?_⟩⟩
      obtain ⟨q1, us, q2, q3, q4⟩ := hl'.2 j p e hp he
      exact ⟨q1, us, q2, q3, RelT.mono vt p.2 (fun _ _ hh => hh) (fun _ _ => two_IC) q4⟩
    · rw [h1] at hb; injection hb with hb; subst hb
      obtain ⟨c, t, g1, g2⟩ := hX.blk 1 _ h1
      refine ⟨c, t, g1, g2.1, fun j d y hd hy => ?_⟩
      have hr := g2.2 j d y hd hy
      cases j with
      | zero =>
        simp only [List.getElem?_cons_zero, Option.some.injEq] at hd
        subst hd
        exact ⟨⟨_, by simp only [two]; exact h0, rfl⟩, hr.2⟩
      | succ j => simp at hd

/-- The caller's blocks behind the call. -/
def twoBack (X : Ctx) (b : AB) (w' : World) : Ctx := { X with H := upd X.H 0 (some b), w := w' }

theorem two_back {X Y' : Ctx} (hX : HRel X) (h0 : X.H 0 = some (.mp kt vt ka va l)) (h1 : X.H 1 = some (.cells [.mref 0])) (hle : (two X).le Y') (hY : HRel Y') (hH : Y'.H = fun i => [AB.mp kt vt ka va l', .cells [.mref 0]][i]?) :
    X.le (twoBack X (.mp kt vt ka va l') Y'.w) ∧ HRel (twoBack X (.mp kt vt ka va l') Y'.w) := by
  have hw0 : Y'.w0 = X.w := hle.w0
  have hlent : Y'.lent = fun k => k = X.φ 0 ∨ k = X.φ 1 := hle.lent
  have hφ0 : Y'.φ 0 = X.φ 0 := (hle.loc 0 _ (show (two X).H 0 = _ from h0) rfl).2
  have hφ1 : Y'.φ 1 = X.φ 1 := (hle.loc 1 _ (show (two X).H 1 = _ from h1) rfl).2
  have hsz : X.w.heap.size ≤ Y'.w.heap.size := by have := hY.size; rw [hw0] at this; exact this
  have hfr : ∀ k, k < X.w.heap.size → k ≠ X.φ 0 → k ≠ X.φ 1 → Y'.w.heap[k]? = X.w.heap[k]? := fun k hk n0 n1 => by
    have := hY.below k (by rw [hw0]; exact hk) (by rw [hlent]; rintro (h | h) <;> contradiction)
    rw [hw0] at this; exact this
  have hIC : ∀ a y, X.IC a y → (twoBack X (.mp kt vt ka va l') Y'.w).IC a y := fun a y ⟨q1, q2, q3, q4, q5⟩ => by
    have hl := World.block_lt_of_cell? _ _ q3
    refine ⟨q1, q2, ?_, fun i b hi hb => ?_, q5.1, (frozen_of_block (hfr _ hl (fun e => q4 0 _ h0 rfl e.symm) (fun e => q4 1 _ h1 rfl e.symm))).trans q5.2⟩
    · exact (World.cell?_of_block (hfr _ hl (fun e => q4 0 _ h0 rfl e.symm) (fun e => q4 1 _ h1 rfl e.symm))).trans q3
    · by_cases e : i = 0
      · subst e; exact q4 0 _ h0 rfl
      · simp only [twoBack, upd_other _ _ e] at hi; exact q4 i b hi hb
  have hle' : X.le (twoBack X (.mp kt vt ka va l') Y'.w) := by
    refine ⟨hIC, fun i b hi hb => ?_, fun i row r hi => ?_, fun i t v hi => ?_, rfl, rfl, rfl, hle.drawn⟩
    · by_cases e : i = 0
      · subst e; exact ⟨⟨.mp kt vt ka va l', by simp only [twoBack, upd_same], rfl⟩, rfl⟩
      · exact ⟨⟨b, by simp only [twoBack, upd_other _ _ e]; exact hi, hb⟩, rfl⟩
    · have e : i ≠ 0 := fun e => by subst e; rw [h0] at hi; cases hi
      exact ⟨r, by simp only [twoBack, upd_other _ _ e]; exact hi, rfl⟩
    · have e : i ≠ 0 := fun e => by subst e; rw [h0] at hi; cases hi
      refine ⟨v, by simp only [twoBack, upd_other _ _ e]; exact hi, Nat.le_refl _, fun _ => ⟨rfl, fun t p q ⟨t1, t2, c, mk, t3, t4⟩ => ⟨t1, t2, c, mk, ?_, t4⟩⟩⟩
      exact (hfr _ (hX.ltt i t1) (fun e => hX.injm 0 _ i h0 rfl t1 e.symm) (fun e => hX.injm 1 _ i h1 rfl t1 e.symm)).trans t3
  have bIC : ∀ a y, Y'.IC a y → (twoBack X (.mp kt vt ka va l') Y'.w).IC a y := fun a y ⟨q1, q2, q3, q4, q5⟩ => by
    rw [hw0, hlent, hle.oldeq] at q1
    rcases q1 with q1 | q1 | q1
    · have q1' : X.w.heap.size ≤ a.block := q1
      refine ⟨.inl (Nat.le_trans hX.size q1'), q2, q3, fun i b hi hb => ?_, fun e he => ?_, q5.2⟩
      · have : X.φ i < X.w.heap.size := by
          by_cases e : i = 0
          · subst e; exact hX.lt 0 _ h0 rfl
          · simp only [twoBack, upd_other _ _ e] at hi; exact hX.lt i b hi hb
        show X.φ i ≠ _
        omega
      · have := hX.frlt _ _ he
        omega
    · rcases q1 with q1 | q1
      · exact absurd q1.symm (by rw [← hφ0]; exact q4 0 (.mp kt vt ka va l') (by rw [hH]; rfl) rfl)
      · exact absurd q1.symm (by rw [← hφ1]; exact q4 1 (.cells [.mref 0]) (by rw [hH]; rfl) rfl)
    · have q1' : X.IC a y := q1
      exact hIC a y q1'
  have any : ∀ j c, (twoBack X (.mp kt vt ka va l') Y'.w).H j = some c → c.loc = true → ∃ d, X.H j = some d ∧ d.loc = true := fun j c hj hc => by
    by_cases e : j = 0
    · subst e; exact ⟨_, h0, rfl⟩
    · simp only [twoBack, upd_other _ _ e] at hj; exact ⟨c, hj, hc⟩
  refine ⟨hle', fun i j b c hi hj hb hc hne => ?_, hX.injt, fun i b j hi hb hj => ?_, fun i b hi hb => ?_, hX.placet, fun i b hi hb => ?_, fun i hi => Nat.lt_of_lt_of_le (hX.ltt i hi) hsz, fun i hi => ?_, fun b e h => Nat.lt_of_lt_of_le (hX.frlt b e h) hsz, fun i b hi => ?_, fun k hk hl => ?_, ?_, ?_, ?_, Nat.le_trans hX.size hsz, fun a y h => hle'.ic a y (hX.old a y h)⟩
  · obtain ⟨b', g1, g2⟩ := any i b hi hb
    obtain ⟨c', g3, g4⟩ := any j c hj hc
    exact hX.inj i j b' c' g1 g3 g2 g4 hne
  · obtain ⟨b', g1, g2⟩ := any i b hi hb
    exact hX.injm i b' j g1 g2 hj
  · obtain ⟨b', g1, g2⟩ := any i b hi hb
    exact hX.place i b' g1 g2
  · obtain ⟨b', g1, g2⟩ := any i b hi hb
    exact Nat.lt_of_lt_of_le (hX.lt i b' g1 g2) hsz
  · by_cases e : i = 0
    · subst e; simp [twoBack, upd_same]
    · simp only [twoBack, upd_other _ _ e]; exact hX.tlH i hi
  · by_cases e : i = 0
    · subst e
      simp only [twoBack, upd_same, Option.some.injEq] at hi
      subst hi
      obtain ⟨hf, es, clock, g1, g2, g3⟩ := hY.blk 0 (.mp kt vt ka va l') (by rw [hH]; rfl)
      refine ⟨hf, es, clock, by rw [hφ0] at g1; exact g1, g2, g3.1, g3.2.imp fun l' hl' => ⟨hl'.1, fun j p e hp he => ?_⟩⟩
      obtain ⟨q1, us, q2, q3, q4⟩ := hl'.2 j p e hp he
      exact ⟨q1, us, q2, q3, RelT.mono vt p.2 (fun _ _ hh => hh) bIC q4⟩
    · have hi' : X.H i = some b := by simpa only [twoBack, upd_other _ _ e] using hi
      by_cases e1 : i = 1
      · subst e1
        rw [h1] at hi'; injection hi' with hi'; subst hi'
        obtain ⟨c, t, g1, g2⟩ := hY.blk 1 (.cells [.mref 0]) (by rw [hH]; rfl)
        refine ⟨c, t, by rw [hφ1] at g1; exact g1, g2.1, fun j d y hd hy => ?_⟩
        have hr := g2.2 j d y hd hy
        cases j with
        | zero =>
          simp only [List.getElem?_cons_zero, Option.some.injEq] at hd
          subst hd
          exact ⟨⟨.mp kt vt ka va l', by simp only [twoBack, upd_same], rfl⟩, by have := hr.2; rw [hφ0] at this; exact this⟩
        | succ j => simp at hd
      · cases hm : b.loc with
        | true => exact BRel.mono hle' rfl (hfr _ (hX.lt i b hi' hm) (hX.inj i 0 _ _ hi' h0 hm rfl e) (hX.inj i 1 _ _ hi' h1 hm rfl e1)) (hX.blk i b hi')
        | false => cases b <;> first | trivial | cases hm
  · have hk' : k < X.w0.heap.size := hk
    have n0 : k ≠ X.φ 0 := fun e => by
      rcases hX.place 0 _ h0 rfl with h | h
      · omega
      · exact hl (by rw [e]; exact h)
    have n1 : k ≠ X.φ 1 := fun e => by
      rcases hX.place 1 _ h1 rfl with h | h
      · omega
      · exact hl (by rw [e]; exact h)
    exact (hfr k (Nat.lt_of_lt_of_le hk' hX.size) n0 n1).trans (hX.below k hk hl)
  · have := hY.os; rw [hw0] at this; exact this.trans hX.os
  · have := hY.tape; rw [hw0] at this; exact this.trans hX.tape
  · have := hY.output; rw [hw0] at this; exact this.trans hX.output

/-- A call that changes the map alone. -/
theorem local_map {f : Nat} {cs : List AC} {r : AV} (ha : bareA (.agg cs) = true) (hr : bareA r = true)
    (h : HeapCall P f [.one (.ptr 1 0), .agg cs] [.mp kt vt ka va l, .cells [.mref 0]] r [.mp kt vt ka va l', .cells [.mref 0]])
    {X : Ctx} (hX : HRel X) (h0 : X.H 0 = some (.mp kt vt ka va l)) (h1 : X.H 1 = some (.cells [.mref 0])) {vs : List Value} (hv : PW (VR X) [.one (.ptr 1 0), .agg cs] vs) :
    (∃ fn, P.funcs[f]? = some fn ∧ (fn.name == "runtime.NumGoroutine") = false ∧ fn.body.isNone = false) ∧
    Calls P f vs.toArray X.w fun e w' => ∃ val X', e = .returned val ∧ X'.w = w' ∧ X.le X' ∧ HRel X' ∧ X'.H = upd X.H 0 (some (.mp kt vt ka va l')) ∧ VR X' r val := by
  refine ⟨h.1, (h.2 (two X) vs (two_rel hX h0 h1) ?_ ⟨hv.1, fun j c y hc hy => ?_⟩).mono fun e w' ⟨val, Y', g1, g2, g3, g4, g5, g6⟩ => ?_⟩
  · funext i
    simp only [two]
    match i with
    | 0 => exact h0
    | 1 => exact h1
    | i + 2 => rfl
  · have hr := hv.2 j c y hc hy
    match j, hc with
    | 0, hc =>
      have hc : some (AV.one (.ptr 1 0)) = some c := hc
      injection hc with hc; subst hc
      exact ⟨⟨_, h1, rfl⟩, hr.2⟩
    | 1, hc =>
      have hc : some (AV.agg cs) = some c := hc
      injection hc with hc; subst hc
      exact bareA_rel ha hr
  · obtain ⟨b1, b2⟩ := two_back hX h0 h1 g3 g4 g5
    subst g2
    exact ⟨val, twoBack X (.mp kt vt ka va l') Y'.w, g1, rfl, b1, b2, rfl, bareA_rel hr g6⟩
end

/-- A function's contract in regions whose order is drawn. -/
def Env.addK (E : Env P) (f : Nat) (kl : KL) (hkl : KLok P kl) : Env P := { E with kl := kl, kd := fun g => Nat.beq g f, hkl := hkl }
end
end Go.Eng
