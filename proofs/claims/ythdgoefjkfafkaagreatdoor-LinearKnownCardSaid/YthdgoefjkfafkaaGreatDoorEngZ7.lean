import Derived.ChangeArms
import Derived.ChangeCalls
import Derived.OpenShut
import Derived.SizedLaws
import Derived.WideKeyArgs
import Derived.HandedShaped
import Derived.Test.YthdgoefjkfafkaaGreatDoorEngZ2
set_option linter.unusedVariables false
namespace Go.Eng
section
open Go Go.RowKit
variable {P : Program}

/-! ### Typed arguments -/
inductive PT where
  | one (t : CT) | agg (t : CT)

abbrev PT.den : PT → Type
  | .one t => t.den
  | .agg t => t.den

def oneAC : (t : CT) → t.den → AC
  | .int k, n => .int k n
  | .bool, b => .bool b
  | .str, s => .str s
  | .sl row, l => .sl row l .shared
  | .mdl kt vt ka va, l => .mdl kt vt ka va l
  | .unit, _ => .unk
  | .pair _ _, _ => .unk

def PT.enc : (t : PT) → t.den → AV
  | .one t, v => .one (oneAC t v)
  | .agg t, v => .agg (t.cells v)

def unOne : (t : CT) → AC → Option t.den
  | .int k, .int k' n => if (CT.int k).eqb (.int k') then some n else none
  | .bool, .bool b => some b
  | .str, .str s => some s
  | .sl row, .nils => some ([] : List row.den)
  | .sl row, .sl row' l _ => if h : row'.eqb row = true then some (castL row' row h l) else none
  | .mdl kt vt ka va, .mdl kt' vt' ka' va' l => if h : (CT.mdl kt' vt' ka' va').eqb (.mdl kt vt ka va) = true then some (castD (.mdl kt' vt' ka' va') (.mdl kt vt ka va) h l) else none
  | _, _ => none

def PT.dec : (t : PT) → AV → Option t.den
  | .one t, .one c => unOne t c
  | .agg t, .agg cs => match t.un cs with
    | some (v, []) => some v
    | _ => none
  | _, _ => none

theorem castL_shared {X : Ctx} {row row' : CT} (h : row'.eqb row = true) {l : List row'.den} {m : SM} {v : Value} (hv : VRc X (.sl row' l m) v) : VRc X (.sl row (castL row' row h l) .shared) v := by
  have e := CT.eq_of_eqb _ _ h
  subst e
  obtain ⟨A, n, cap, h1, h2, h3, h4, h5, _⟩ := hv
  exact ⟨A, n, cap, h1, h2, h3, h4, h5, trivial⟩

theorem unOne_rel {X : Ctx} (t : CT) {c : AC} {d : t.den} (h : unOne t c = some d) {v : Value} (hv : VRc X c v) : VRc X (oneAC t d) v := by
  unfold unOne at h
  split at h
  · split at h
    · rename_i k k' n he
      injection h with h; subst h
      have e := CT.eq_of_eqb _ _ he
      injection e with e; subst e
      exact hv
    · cases h
  · injection h with h; subst h; exact hv
  · injection h with h; subst h; exact hv
  · injection h with h; subst h
    exact ⟨none, 0, 0, hv, rfl, Nat.le_refl _, Nat.zero_le _, .inl rfl, trivial⟩
  · split at h
    · rename_i row row' l m he
      injection h with h; subst h
      exact castL_shared he hv
    · cases h
  · split at h
    · rename_i kt vt ka va kt' vt' ka' va' l he
      injection h with h; subst h
      have e := CT.eq_of_eqb _ _ he
      injection e with e1 e2 e3 e4
      subst e1 e2 e3 e4
      exact hv
    · cases h
  · cases h

theorem cells_pw {X : Ctx} (t : CT) (d : t.den) (vs : List Value) (hl : vs.length = t.width) (h : RelT t d (fun k y => vs[k]? = some y) X.IC) : PW (VRc X) (t.cells d) vs :=
  ⟨by rw [CT.cells_length, hl], fun j c y hc hy => by
    obtain ⟨y', h1, h2⟩ := RelT.cell t d _ h j c hc
    rw [hy] at h1; injection h1 with h1; subst h1; exact h2⟩

theorem PT.dec_rel {X : Ctx} (t : PT) {a : AV} {d : t.den} (h : t.dec a = some d) {v : Value} (hv : VR X a v) : VR X (t.enc d) v := by
  unfold PT.dec at h
  split at h
  · exact unOne_rel _ h hv
  · rename_i t cs
    split at h
    · rename_i v0 hu
      injection h with h; subst h
      obtain ⟨ar, e, hp⟩ := hv
      obtain ⟨h1, _, h2⟩ := CT.un_rel (X := X) t cs v0 [] ar.toList hu hp
      refine ⟨ar, e, cells_pw t v0 _ ?_ h2⟩
      have := hp.1
      simp only [List.length_nil, Nat.add_zero] at h1
      rw [← this, h1]
    · cases h
  · cases h

abbrev dens : List PT → Type
  | [] => Unit
  | t :: r => t.den × dens r
def encs : (l : List PT) → dens l → List AV
  | [], _ => []
  | t :: r, d => t.enc d.1 :: encs r d.2
def decs : (l : List PT) → List AV → Option (dens l)
  | [], [] => some ()
  | t :: r, a :: as => match t.dec a, decs r as with
    | some x, some y => some (x, y)
    | _, _ => none
  | _, _ => none

theorem decs_rel {X : Ctx} : ∀ (l : List PT) {args : List AV} {d : dens l}, decs l args = some d → ∀ {vs : List Value}, PW (VR X) args vs → PW (VR X) (encs l d) vs
  | [], args, d, h, vs, hv => by
    cases args with
    | nil => exact ⟨hv.1, fun j c y hc => by simp [encs] at hc⟩
    | cons a as => cases h
  | t :: r, args, d, h, vs, hv => by
    cases args with
    | nil => cases h
    | cons a as =>
      simp only [decs] at h
      split at h
      · rename_i x y h1 h2
        injection h with h; subst h
        cases vs with
        | nil => have := hv.1; simp at this
        | cons z zs =>
          exact PW.cons (PT.dec_rel t h1 (hv.2 0 a z rfl rfl)) (decs_rel r h2 ⟨by have := hv.1; simpa using this, fun j c w hc hw => hv.2 (j + 1) c w (by simpa using hc) (by simpa using hw)⟩)
      · cases h

/-! ### Contracts -/

/-- From these arguments and blocks a function comes to this. -/
def HeapCall (P : Program) (f : Nat) (args : List AV) (hp : List AB) (r : AV) (hp' : List AB) : Prop :=
  (∃ fn, P.funcs[f]? = some fn ∧ (fn.name == "runtime.NumGoroutine") = false ∧ fn.body.isNone = false) ∧
  ∀ X vs, HRel X → (X.H = fun i => hp[i]?) → PW (VR X) args vs →
    Calls P f vs.toArray X.w fun e w' => ∃ val X', e = .returned val ∧ X'.w = w' ∧ X.le X' ∧ HRel X' ∧ (X'.H = fun i => hp'[i]?) ∧ VR X' r val

theorem PureCall.weaken {f : Nat} {args args' : List AV} {r : AV} (h : PureCall P f args' r) (hw : ∀ X vs, HRel X → PW (VR X) args vs → PW (VR X) args' vs) : PureCall P f args r :=
  ⟨h.1, fun X vs hX hv => h.2 X vs hX (hw X vs hX hv)⟩
theorem PureCall.res {f : Nat} {args : List AV} {r r' : AV} (h : PureCall P f args r) (e : r = r') : PureCall P f args r' := e ▸ h
/-! What a pure call hands back: its own arrays are promised from then on. -/
def wkRC (H : Nat → Option AB) (c : AC) (os : List Bool) : Option (AC × List Bool × List Bool) :=
  match c with
  | .asl row i off len cap => match aslRows H row i off len with
    | some l => match br (Nat.beq len cap) os with
      | (true, cs, r) => some (.sl row l .full, cs, r)
      | (false, cs, r) => some (.sl row l .shared, cs, r)
    | none => none
  | .bsl row i off len _ => match aslRows H row i off len with
    | some l => some (.sl row l .shared, [], os)
    | none => none
  | c => (wkC c).map fun c => (c, [], os)
def wkRCs (H : Nat → Option AB) : List AC → List Bool → Option (List AC × List Bool × List Bool)
  | [], os => some ([], [], os)
  | c :: r, os => match wkRC H c os with
    | some (x, c1, os1) => match wkRCs H r os1 with
      | some (l, c2, os2) => some (x :: l, c2 ++ c1, os2)
      | none => none
    | none => none
def wkRPs (H : Nat → Option AB) : List (Bool × List AC) → List Bool → Option (List (Bool × List AC) × List Bool × List Bool)
  | [], os => some ([], [], os)
  | (b, c) :: r, os => match wkRCs H c os with
    | some (x, c1, os1) => match wkRPs H r os1 with
      | some (l, c2, os2) => some ((b, x) :: l, c2 ++ c1, os2)
      | none => none
    | none => none
def wkRA (H : Nat → Option AB) (v : AV) (os : List Bool) : Option (AV × List Bool × List Bool) :=
  match v with
  | .one c => (wkRC H c os).map fun x => (.one x.1, x.2)
  | .agg cs => (wkRCs H cs os).map fun x => (.agg x.1, x.2)
  | .tup ps => (wkRPs H ps os).map fun x => (.tup x.1, x.2)
  | .val y => some (.val y, [], os)
  | .gd _ _ _ => none
  | .alt _ => none
  | .clo _ _ => none

theorem own_IC {X Y' : Ctx} (hX : HRel X) (hle : (fresh X).le Y') (hY : HRel Y') {i : Nat} {b : AB} (hb : Y'.H i = some b) (hl : b.wr = true) {o : Nat} {y : Value} (hc : Y'.w.cell? ⟨Y'.φ i, o, none⟩ = some y) (hf : Y'.w.frozen? ⟨Y'.φ i, o, none⟩ = false) : (X.withW Y'.w).IC ⟨Y'.φ i, o, none⟩ y := by
  have hp := hY.place i b hb hl
  rw [hle.w0, hle.lent] at hp
  have hp' : X.w.heap.size ≤ Y'.φ i := by
    rcases hp with h | h
    · exact h
    · exact h.elim
  refine ⟨.inl (Nat.le_trans hX.size hp'), rfl, hc, fun j b' hb' hl' => ?_, fun e he => ?_, hf⟩
  · have := hX.ltl j b' hb' (AB.loc_of hl')
    show X.φ j ≠ _
    simp only; omega
  · have := hX.frlt _ _ he
    simp only at this; omega

theorem wkRC_rel {X Y' : Ctx} (hX : HRel X) (hle : (fresh X).le Y') (hY : HRel Y') {c c' : AC} {os cs os' : List Bool} (h : wkRC Y'.H c os = some (c', cs, os')) {v : Value} (hv : VRc Y' c v) (hcs : ∀ c ∈ cs, c = true) : VRc (X.withW Y'.w) c' v := by
  unfold wkRC at h
  split at h
  · rename_i row i off len cap
    split at h
    · rename_i l hl
      obtain ⟨l0, hH, rfl⟩ := aslRows_some hl
      obtain ⟨l', hH', rfl, hlc, hcm, hfit⟩ := hv
      replace hH' := hH'.of hH; rw [hH] at hH'
      simp only [Option.some.injEq, AB.arr.injEq, heq_eq_eq, true_and] at hH'
      subst hH'
      obtain ⟨vs, g2, g3, g4⟩ := arr_vals hY hH off len (by omega)
      have hlen : ((l0.drop off).take len).length = len := by rw [List.length_take, List.length_drop]; omega
      have base : ∀ (m : SM), (match m with | .shared => True | .full => cap = len | _ => False) → VRc (X.withW Y'.w) (.sl row ((l0.drop off).take len) m) (.slice (some ⟨Y'.φ i, off * row.width, none⟩) len cap) := by
        intro m hm
        refine ⟨_, len, cap, rfl, hlen.symm, hlc, hcm, .inr ⟨_, _, rfl, fun j x hj => ?_⟩, ?_⟩
        · refine RelT.mono row x (fun k y hk => ?_) (fun a y => back_IC hX hle) (g2.2 j x hj)
          have := g4 _ _ hk
          rw [← Nat.add_assoc] at this
          exact own_IC hX hle hY hH rfl this (arr_fz hY hH this)
        · cases m with
          | shared => trivial
          | full => exact hm
          | nn => exact hm.elim
          | «at» _ _ => exact hm.elim
          | own _ _ => exact hm.elim
      split at h
      · rename_i cs1 r hbr
        simp only [Option.some.injEq, Prod.mk.injEq] at h
        obtain ⟨rfl, rfl, rfl⟩ := h
        have := br_eq (b := Nat.beq len cap) (os := os) (by rw [hbr]; exact hcs)
        rw [hbr] at this
        simp only [Eq.comm (a := true), Nat.beq_eq] at this
        exact base .full this.symm
      · simp only [Option.some.injEq, Prod.mk.injEq] at h
        obtain ⟨rfl, rfl, rfl⟩ := h
        exact base .shared trivial
    · cases h
  · rename_i row i off len mn
    split at h
    · rename_i l hl
      obtain ⟨l0, hH, rfl⟩ := aslRows_some hl
      obtain ⟨l', o, cap, hH', rfl, hlc, hcm, hfit, ho, _⟩ := hv
      replace hH' := hH'.of hH; rw [hH] at hH'
      simp only [Option.some.injEq, AB.arr.injEq, heq_eq_eq, true_and] at hH'
      subst hH'
      obtain ⟨vs, g2, g3, g4⟩ := arr_vals hY hH off len (by omega)
      have hlen : ((l0.drop off).take len).length = len := by rw [List.length_take, List.length_drop]; omega
      simp only [Option.some.injEq, Prod.mk.injEq] at h
      obtain ⟨rfl, rfl, rfl⟩ := h
      rcases Nat.eq_zero_or_pos len with h0 | h0
      · exact ⟨_, len, cap, rfl, hlen.symm, hlc, hcm, .inl h0, trivial⟩
      have ho' := ho h0
      subst ho'
      refine ⟨_, len, cap, rfl, hlen.symm, hlc, hcm, .inr ⟨_, _, rfl, fun j x hj => ?_⟩, trivial⟩
      refine RelT.mono row x (fun k y hk => ?_) (fun a y => back_IC hX hle) (g2.2 j x hj)
      have := g4 _ _ hk
      rw [← Nat.add_assoc] at this
      exact own_IC hX hle hY hH rfl this (arr_fz hY hH this)
    · cases h
  · rename_i hne
    cases hw : wkC c with
    | none => rw [hw] at h; cases h
    | some c1 =>
      rw [hw] at h
      simp only [Option.map_some, Option.some.injEq, Prod.mk.injEq] at h
      obtain ⟨rfl, rfl, rfl⟩ := h
      exact wkC_rel (fun a y h => back_IC hX hle h) hw hv

theorem wkRCs_rel {X Y' : Ctx} (hX : HRel X) (hle : (fresh X).le Y') (hY : HRel Y') : ∀ {l l' : List AC} {os cs os' : List Bool}, wkRCs Y'.H l os = some (l', cs, os') → (∀ c ∈ cs, c = true) → ∀ {vs : List Value}, PW (VRc Y') l vs → PW (VRc (X.withW Y'.w)) l' vs
  | [], l', os, cs, os', h, _, vs, hv => by
    simp only [wkRCs, Option.some.injEq, Prod.mk.injEq] at h
    obtain ⟨rfl, _, _⟩ := h
    have : vs = [] := List.eq_nil_of_length_eq_zero hv.1.symm
    subst this; exact PW.nil
  | c :: l, l', os, cs, os', h, hcs, vs, hv => by
    simp only [wkRCs] at h
    split at h
    · rename_i x c1 os1 h1
      split at h
      · rename_i l2 c2 os2 h2
        simp only [Option.some.injEq, Prod.mk.injEq] at h
        obtain ⟨rfl, rfl, rfl⟩ := h
        cases vs with
        | nil => have := hv.1; simp at this
        | cons y ys =>
          exact PW.cons (wkRC_rel hX hle hY h1 (hv.2 0 c y rfl rfl) fun q hq => hcs q (List.mem_append_right _ hq))
            (wkRCs_rel hX hle hY h2 (fun q hq => hcs q (List.mem_append_left _ hq)) ⟨by have := hv.1; simpa using this, fun j d z hd hz => hv.2 (j + 1) d z (by simpa using hd) (by simpa using hz)⟩)
      · cases h
    · cases h
theorem wkRCs_one {H : Nat → Option AB} {c : AC} {l' : List AC} {os cs os' : List Bool} (h : wkRCs H [c] os = some (l', cs, os')) : ∃ c', l' = [c'] := by
  simp only [wkRCs] at h
  split at h
  · simp only [Option.some.injEq, Prod.mk.injEq] at h
    exact ⟨_, h.1.symm⟩
  · cases h
theorem wkRP_rel {X Y' : Ctx} (hX : HRel X) (hle : (fresh X).le Y') (hY : HRel Y') {b : Bool} {l l' : List AC} {os cs os' : List Bool} (h : wkRCs Y'.H l os = some (l', cs, os')) (hcs : ∀ c ∈ cs, c = true) {v : Value} (hv : VRp Y' (b, l) v) : VRp (X.withW Y'.w) (b, l') v := by
  cases b with
  | true =>
    obtain ⟨ar, e, hp⟩ := hv
    exact ⟨ar, e, wkRCs_rel hX hle hY h hcs hp⟩
  | false =>
    obtain ⟨c, rfl, hc⟩ := hv
    obtain ⟨c', rfl⟩ := wkRCs_one h
    have := wkRCs_rel hX hle hY h hcs (vs := [v]) (PW.cons hc PW.nil)
    exact ⟨c', rfl, this.2 0 _ _ rfl rfl⟩
theorem wkRPs_rel {X Y' : Ctx} (hX : HRel X) (hle : (fresh X).le Y') (hY : HRel Y') : ∀ {l l' : List (Bool × List AC)} {os cs os' : List Bool}, wkRPs Y'.H l os = some (l', cs, os') → (∀ c ∈ cs, c = true) → ∀ {vs : List Value}, PW (VRp Y') l vs → PW (VRp (X.withW Y'.w)) l' vs
  | [], l', os, cs, os', h, _, vs, hv => by
    simp only [wkRPs, Option.some.injEq, Prod.mk.injEq] at h
    obtain ⟨rfl, _, _⟩ := h
    have : vs = [] := List.eq_nil_of_length_eq_zero hv.1.symm
    subst this; exact PW.nil
  | (b, c) :: l, l', os, cs, os', h, hcs, vs, hv => by
    simp only [wkRPs] at h
    split at h
    · rename_i x c1 os1 h1
      split at h
      · rename_i l2 c2 os2 h2
        simp only [Option.some.injEq, Prod.mk.injEq] at h
        obtain ⟨rfl, rfl, rfl⟩ := h
        cases vs with
        | nil => have := hv.1; simp at this
        | cons y ys =>
          exact PW.cons (wkRP_rel hX hle hY h1 (fun q hq => hcs q (List.mem_append_right _ hq)) (hv.2 0 _ y rfl rfl))
            (wkRPs_rel hX hle hY h2 (fun q hq => hcs q (List.mem_append_left _ hq)) ⟨by have := hv.1; simpa using this, fun j d z hd hz => hv.2 (j + 1) d z (by simpa using hd) (by simpa using hz)⟩)
      · cases h
    · cases h
theorem wkRA_rel {X Y' : Ctx} (hX : HRel X) (hle : (fresh X).le Y') (hY : HRel Y') {c c' : AV} {os cs os' : List Bool} (h : wkRA Y'.H c os = some (c', cs, os')) (hcs : ∀ c ∈ cs, c = true) {v : Value} (hv : VR Y' c v) : VR (X.withW Y'.w) c' v := by
  cases c with
  | one c =>
    simp only [wkRA] at h
    cases hc : wkRC Y'.H c os with
    | none => rw [hc] at h; cases h
    | some x =>
      rw [hc] at h
      simp only [Option.map_some, Option.some.injEq, Prod.mk.injEq] at h
      obtain ⟨rfl, e⟩ := h
      have e1 : x.2.1 = cs := by rw [e]
      subst e1
      exact wkRC_rel hX hle hY (c' := x.1) (cs := x.2.1) (os' := x.2.2) hc hv hcs
  | val y =>
    simp only [wkRA, Option.some.injEq, Prod.mk.injEq] at h
    obtain ⟨rfl, rfl, rfl⟩ := h
    exact hv
  | gd b g c => cases h
  | alt _ => cases h
  | clo _ _ => cases h
  | agg l =>
    simp only [wkRA] at h
    cases hc : wkRCs Y'.H l os with
    | none => rw [hc] at h; cases h
    | some x =>
      rw [hc] at h
      simp only [Option.map_some, Option.some.injEq, Prod.mk.injEq] at h
      obtain ⟨rfl, e⟩ := h
      have e1 : x.2.1 = cs := by rw [e]
      subst e1
      exact wkRP_rel hX hle hY (b := true) (l' := x.1) (cs := x.2.1) (os' := x.2.2) hc hcs hv
  | tup l =>
    simp only [wkRA] at h
    cases hc : wkRPs Y'.H l os with
    | none => rw [hc] at h; cases h
    | some x =>
      rw [hc] at h
      simp only [Option.map_some, Option.some.injEq, Prod.mk.injEq] at h
      obtain ⟨rfl, e⟩ := h
      have e1 : x.2.1 = cs := by rw [e]
      subst e1
      obtain ⟨arr, e, hp⟩ := hv
      exact ⟨arr, e, wkRPs_rel hX hle hY (l' := x.1) (cs := x.2.1) (os' := x.2.2) hc hcs hp⟩

/-- What a run from nothing hands back. -/
def backR (x : Option (AV × List AB × List Bool × List Bool)) : Option (AV × List Bool × List Bool) :=
  match x with
  | some (r, hp', cs, os') => match wkRA (fun i => hp'[i]?) r os' with
    | some (r', cs2, os2) => some (r', cs2 ++ cs, os2)
    | none => none
  | none => none

theorem pure_of_run2 (hm : P.follows .mixedOrders = true) {kp : KP} {kq : KX} {kh : KH} (hkp : KPok P kp) (hkq : KXok P kq) (hkh : KHok P kh) {lc : LC} {n f : Nat} {fn : Func} {c : Code} (hf : P.funcs[f]? = some fn) (hne : (fn.name == "runtime.NumGoroutine") = false)
    (hb : fn.body = some c) (hlc : LCok P lc c) {args args' : List AV} (ha : wkAs args = some args') {os : List Bool} {r' : AV} {cs os' : List Bool}
    (h : backR (runF P kp kq kh lc n fn c args' [] os) = some (r', cs, os')) (hcs : ∀ c ∈ cs, c = true) : PureCall P f args r' := by
  unfold backR at h
  split at h
  · rename_i r hp' cs0 os0 hrun
    split at h
    · rename_i r1 cs2 os2 hr
      simp only [Option.some.injEq, Prod.mk.injEq] at h
      obtain ⟨rfl, rfl, rfl⟩ := h
      refine ⟨⟨fn, hf, hne, by rw [hb]; rfl⟩, fun X vs hX hv => ?_⟩
      have hv' : PW (VR (fresh X)) args' vs := wkAs_rel (fun a y h => fresh_IC h) ha hv
      refine (runF_sim hm hkp hkq hkh hf hb hlc hrun (fun q hq => hcs q (List.mem_append_right _ hq)) (HRel.fresh X) (by funext i; simp [fresh]) hv').mono fun e w' hh => ?_
      obtain ⟨val, Y', rfl, rfl, hle, hY, hH, hval⟩ := hh
      have hbel := below_of hle hY
      refine ⟨val, X.withW Y'.w, rfl, rfl, withW_le hX hbel hle.drawn, hX.withW hbel hle.drawn, rfl, ?_⟩
      rw [← hH] at hr
      exact wkRA_rel hX hle hY hr (fun q hq => hcs q (List.mem_append_left _ hq)) hval
    · cases h
  · cases h

/-- Blocks that nothing names any more are let go. -/
def trimR (m : Nat) (x : Option (AV × List AB × List Bool × List Bool)) : Option (AV × List AB × List Bool × List Bool) :=
  match x with
  | some (r, hp', cs, os') => if (idsV r).all (fun i => Nat.blt i m) && (hp'.take m).all (fun b => (idsB b).all fun i => Nat.blt i m) then some (r, hp'.take m, cs, os') else some (r, hp', cs, os')
  | none => none

theorem trimR_ok {m : Nat} {x : Option (AV × List AB × List Bool × List Bool)} {r : AV} {hp1 : List AB} {cs os' : List Bool} (h : trimR m x = some (r, hp1, cs, os')) : ∃ hp', x = some (r, hp', cs, os') ∧
    ∀ {X0 X : Ctx} {val : Value}, X0.le X → HRel X → (X.H = fun i => hp'[i]?) → VR X r val → (∀ i, m ≤ i → X0.H i = none) → ∃ X', X'.w = X.w ∧ X0.le X' ∧ HRel X' ∧ (X'.H = fun i => hp1[i]?) ∧ VR X' r val := by
  unfold trimR at h
  split at h
  · rename_i r0 hp' cs0 os0
    split at h
    · rename_i hc
      simp only [Option.some.injEq, Prod.mk.injEq] at h
      obtain ⟨rfl, rfl, rfl, rfl⟩ := h
      refine ⟨hp', rfl, fun {X0 X val} hle hX hH hv hm => ⟨X.cut m, rfl, cut_le hle hm, hX.cut fun i b hi hb j hj => ?_, ?_, VR.cut _ _ (fun i hi => ?_) hv⟩⟩
      · simp only [Bool.and_eq_true, List.all_eq_true, Nat.blt_eq] at hc
        rw [hH] at hb
        exact hc.2 b (List.mem_of_getElem? (i := i) (by rw [List.getElem?_take, if_pos hi]; exact hb)) j hj
      · funext i
        simp only [Ctx.cut, hH, List.getElem?_take]
      · simp only [Bool.and_eq_true, List.all_eq_true, Nat.blt_eq] at hc
        exact hc.1 i hi
    · simp only [Option.some.injEq, Prod.mk.injEq] at h
      obtain ⟨rfl, rfl, rfl, rfl⟩ := h
      exact ⟨hp', rfl, fun {X0 X val} hle hX hH hv hm => ⟨X, rfl, hle, hX, hH, hv⟩⟩
  · cases h

/-! #### What is own is given up: from then on it is promised -/
def frz (X : Ctx) (i : Nat) : Ctx := { X with H := upd X.H i (some .dead), fr := fun b => if b = X.φ i then none else X.fr b }
section
variable {X : Ctx} {i : Nat} {b : AB}
theorem frz_old {j : Nat} {c : AB} (h : (frz X i).H j = some c) (hl : c.loc = true) : j ≠ i ∧ X.H j = some c := by
  by_cases e : j = i
  · subst e; simp only [frz, upd_same, Option.some.injEq] at h; subst h; cases hl
  · simp only [frz, upd_other _ _ e] at h; exact ⟨e, h⟩
theorem frz_IC {a : Addr} {y : Value} (h : X.IC a y) : (frz X i).IC a y := by
  obtain ⟨h1, h2, h3, h4, h5, h6⟩ := h
  refine ⟨h1, h2, h3, fun j c hj hc => h4 j c (frz_old hj (AB.loc_of hc)).2 hc, fun e he => ?_, h6⟩
  have he' : (if a.block = X.φ i then none else X.fr a.block) = some e := he
  split at he'
  · cases he'
  · exact h5 e he'
theorem frz_le (hX : HRel X) (hi : X.H i = some b) (hb : b.loc = true) : X.le (frz X i) := by
  refine ⟨fun a y h => frz_IC h, fun j c hj hc => ?_, fun j row l hj => ?_, fun j hj => ?_, fun _ _ _ _ => rfl, fun j t v hj => ?_, rfl, rfl, rfl, Nat.le_refl _⟩
  · by_cases e : j = i
    · subst e; exact ⟨⟨.dead, by simp only [frz, upd_same], rfl⟩, rfl⟩
    · exact ⟨⟨c, by simp only [frz, upd_other _ _ e]; exact hj, hc⟩, rfl⟩
  · by_cases e : j = i
    · subst e; exact .inr (by simp only [frz, upd_same])
    · exact .inl ⟨l, by simp only [frz, upd_other _ _ e]; exact hj, rfl⟩
  · by_cases e : j = i
    · subst e; simp only [frz, upd_same]
    · simp only [frz, upd_other _ _ e]; exact hj
  · have e : j ≠ i := fun e => by subst e; rw [hi] at hj; injection hj with hj; subst hj; cases hb
    refine ⟨v, by simp only [frz, upd_other _ _ e]; exact hj, Nat.le_refl _, fun _ => ⟨rfl, fun t p q ⟨t1, t2, c, mk, t3, t4⟩ => ⟨t1, ?_, c, mk, t3, t4⟩⟩⟩
    show (if X.φ j = X.φ i then none else X.fr (X.φ j)) = some p
    rw [if_neg (fun e' => hX.injm i b j hi hb t1 e'.symm)]; exact t2
theorem frz_rel (hX : HRel X) (hi : X.H i = some b) (hb : b.loc = true) : HRel (frz X i) := by
  have hle := frz_le hX hi hb
  refine ⟨fun j k c d hj hk hc hd hne => hX.inj j k c d (frz_old hj hc).2 (frz_old hk hd).2 hc hd hne, hX.injt, fun j c k hj hc hk => hX.injm j c k (frz_old hj hc).2 hc hk,
    fun j c hj hc => hX.place j c (frz_old hj (AB.loc_of hc)).2 hc, hX.placet, fun j c hj hc => ?_, hX.ltt, fun j hj => ?_, fun a e he => ?_, fun j c hj => ?_, hX.below, hX.os, hX.tape, hX.output, hX.size, fun a y h => frz_IC (hX.old a y h)⟩
  · by_cases e : j = i
    · subst e; exact hX.lt j b hi (AB.pt_of hb)
    · simp only [frz, upd_other _ _ e] at hj; exact hX.lt j c hj hc
  · by_cases e : j = i
    · subst e; simp [frz, upd_same]
    · simp only [frz, upd_other _ _ e]; exact hX.tlH j hj
  · have he' : (if a = X.φ i then none else X.fr a) = some e := he
    split at he'
    · cases he'
    · exact hX.frlt a e he'
  · by_cases e : j = i
    · subst e; simp only [frz, upd_same, Option.some.injEq] at hj; subst hj; trivial
    · simp only [frz, upd_other _ _ e] at hj; exact BRel.mono hle rfl rfl rfl (hX.blk j c hj)
theorem frz_at (hX : HRel X) (hi : X.H i = some b) (hb : b.wr = true) {o : Nat} {s : Option Nat} {y : Value} (hc : holds X.w ⟨X.φ i, o, s⟩ y) (hf : X.w.frozen? ⟨X.φ i, o, s⟩ = false) : (frz X i).IC ⟨X.φ i, o, s⟩ y := by
  refine ⟨?_, rfl, hc, fun j c hj hcl => ?_, fun e he => ?_, hf⟩
  · rcases hX.place i b hi hb with h | h
    · exact .inl h
    · exact .inr (.inl h)
  · obtain ⟨hne, hj⟩ := frz_old hj (AB.loc_of hcl)
    exact hX.inj j i c b hj hi (AB.loc_of hcl) (AB.loc_of hb) hne
  · have he' : (if X.φ i = X.φ i then none else X.fr (X.φ i)) = some e := he
    rw [if_pos rfl] at he'; cases he'
theorem frz_arr (hX : HRel X) {row : CT} {l : List row.den} (hi : X.H i = some (.arr row l)) {off len : Nat} (hfit : off + len ≤ l.length) {cap : Nat} (hlc : len ≤ cap) (hcm : cap ≤ maxLen) {o : Nat} (ho : 0 < len → o = off * row.width) :
    VRc (frz X i) (.sl row ((l.drop off).take len) .shared) (.slice (some ⟨X.φ i, o, none⟩) len cap) := by
  obtain ⟨vs, g2, g3, g4⟩ := arr_vals hX hi off len hfit
  have hlen : ((l.drop off).take len).length = len := by rw [List.length_take, List.length_drop]; omega
  rcases Nat.eq_zero_or_pos len with h0 | h0
  · exact ⟨_, len, cap, rfl, hlen.symm, hlc, hcm, .inl h0, trivial⟩
  have ho' := ho h0
  subst ho'
  refine ⟨_, len, cap, rfl, hlen.symm, hlc, hcm, .inr ⟨_, _, rfl, fun j x hj => ?_⟩, trivial⟩
  refine RelT.mono row x (fun k y hk => ?_) (fun a y => frz_IC) (g2.2 j x hj)
  have := g4 _ _ hk
  rw [← Nat.add_assoc] at this
  exact frz_at hX hi rfl this (arr_fz hX hi this)
theorem frz_mdl (hX : HRel X) {j : Nat} {kt vt : CT} {ka va : Bool} {l : List (kt.den × vt.den)} (hi : X.H i = some (.cells [.mref j])) (hj : X.H j = some (.mp kt vt ka va l)) (hvf : vt.flat = true) :
    VRc (frz (frz X i) j) (.mdl kt vt ka va l) (.pointer (some ⟨X.φ i, 0, none⟩)) := by
  have hne : j ≠ i := fun e => by subst e; rw [hi] at hj; cases hj
  obtain ⟨c, t, h1, h2⟩ := hX.blk i _ hi
  obtain ⟨y0, hy0, hr⟩ := h2.at_ (j := 0) rfl
  obtain ⟨_, hy⟩ := hr
  have hcs : c = #[.map (some (X.φ j))] := by
    have hl : c.size = 1 := by have := h2.1; simpa using this.symm
    apply Array.ext_getElem?
    intro k
    cases k with
    | zero => rw [← Array.getElem?_toList, hy0, hy]; rfl
    | succ k => rw [Array.getElem?_eq_none (by omega), Array.getElem?_eq_none (by simp)]
  have hcell : holds X.w ⟨X.φ i, 0, some 1⟩ (.map (some (X.φ j))) := ⟨t, by rw [← hcs]; exact h1⟩
  have hfz : X.w.frozen? ⟨X.φ i, 0, some 1⟩ = false := by
    simp only [World.frozen?, h1]; simp
  have hX1 := frz_rel hX hi rfl
  have hj1 : (frz X i).H j = some (.mp kt vt ka va l) := by simp only [frz, upd_other _ _ hne]; exact hj
  obtain ⟨hf, es, clock, g1, g2, g3, l', g4, g5⟩ := hX1.blk j _ hj1
  have hsz : l'.length = es.size := by rw [g4.length_eq, g2.1]
  have hes : es.toList.map (fun e => (e.key, e.val)) = l'.map (fun p => (asV ka (kt.vals p.1), asV va (vt.vals p.2))) := by
    apply List.ext_getElem?
    intro k
    rw [List.getElem?_map, List.getElem?_map, Array.getElem?_toList]
    by_cases hk : k < es.size
    · have ek : es[k]? = some es[k] := Array.getElem?_eq_getElem hk
      have el : l'[k]? = some l'[k] := List.getElem?_eq_getElem (by omega)
      obtain ⟨k1, us, k2, k3, k4⟩ := g5 k _ _ el ek
      have := flat_vals vt _ us hvf k3 k4
      rw [ek, el, Option.map_some, Option.map_some, k1, k2, this]
    · rw [Array.getElem?_eq_none (by omega), List.getElem?_eq_none (by omega)]; rfl
  refine ⟨X.φ i, X.φ j, encM (l.map fun p => (asV ka (kt.vals p.1), asV va (vt.vals p.2))), rfl, frz_IC (frz_at hX hi rfl hcell hfz), ?_, hf, hvf, g3, rfl⟩
  have hh : holds (frz X i).w ⟨(frz X i).φ j, 0, some 0⟩ (encM (l.map fun p => (asV ka (kt.vals p.1), asV va (vt.vals p.2)))) :=
    ⟨es, clock, _, g1, by rw [g2.1]; exact g2, rfl, by rw [hes]; exact (g4.map _).symm⟩
  refine frz_at hX1 hj1 rfl hh ?_
  simp only [World.frozen?, g1]
end
/-- One cell's account, what it names given up. -/
def frz1 (c : AC) (hp : List AB) : AC × List AB :=
  match c with
  | .ptr i 0 => match hp[i]? with
    | some (.cells [.mref j]) => match hp[j]? with
      | some (.mp kt vt ka va l) => if vt.flat then (.mdl kt vt ka va l, (hp.set i .dead).set j .dead) else (c, hp)
      | _ => (c, hp)
    | _ => (c, hp)
  | .asl row i off len cap => match aslRows (fun i => hp[i]?) row i off len with
    | some l => (.sl row l .shared, hp.set i .dead)
    | none => (c, hp)
  | .bsl row i off len _ => match aslRows (fun i => hp[i]?) row i off len with
    | some l => (.sl row l .shared, hp.set i .dead)
    | none => (c, hp)
  | c => (c, hp)
theorem set_H {X : Ctx} {hp : List AB} (hH : X.H = fun i => hp[i]?) {i : Nat} {b : AB} (hi : X.H i = some b) : (frz X i).H = fun k => (hp.set i .dead)[k]? := by
  have hlt : i < hp.length := by rw [hH] at hi; exact (List.getElem?_eq_some_iff.1 hi).1
  funext k
  by_cases e : k = i
  · subst e; simp only [frz, upd_same]; rw [List.getElem?_set_self hlt]
  · simp only [frz, upd_other _ _ e]; rw [List.getElem?_set_ne (fun h => e h.symm), hH]
theorem frz1_ok {X : Ctx} (hX : HRel X) {hp : List AB} (hH : X.H = fun i => hp[i]?) {c : AC} {v : Value} (hv : VRc X c v) :
    ∃ X', X'.w = X.w ∧ X.le X' ∧ HRel X' ∧ (X'.H = fun i => (frz1 c hp).2[i]?) ∧ VRc X' (frz1 c hp).1 v := by
  have same : ∀ {c : AC}, VRc X c v → ∃ X', X'.w = X.w ∧ X.le X' ∧ HRel X' ∧ (X'.H = fun i => hp[i]?) ∧ VRc X' c v := fun h => ⟨X, rfl, .refl X, hX, hH, h⟩
  unfold frz1
  split
  · rename_i i
    split
    · rename_i j hi
      split
      · rename_i kt vt ka va l hj
        split
        · rename_i hvf
          have hi' : X.H i = some (.cells [.mref j]) := by rw [hH]; exact hi
          have hj' : X.H j = some (.mp kt vt ka va l) := by rw [hH]; exact hj
          have hne : j ≠ i := fun e => by subst e; rw [hi'] at hj'; cases hj'
          have hX1 := frz_rel hX hi' rfl
          have hj1 : (frz X i).H j = some (.mp kt vt ka va l) := by simp only [frz, upd_other _ _ hne]; exact hj'
          have hH1 := set_H hH hi'
          obtain ⟨_, rfl⟩ := hv
          exact ⟨frz (frz X i) j, rfl, (frz_le hX hi' rfl).trans (frz_le hX1 hj1 rfl), frz_rel hX1 hj1 rfl, set_H hH1 hj1, frz_mdl hX hi' hj' hvf⟩
        · exact same hv
      · exact same hv
    · exact same hv
  · rename_i row i off len cap
    split
    · rename_i l hl
      have hl' : aslRows X.H row i off len = some l := by rw [hH]; exact hl
      obtain ⟨l0, hHi, rfl⟩ := aslRows_some hl'
      obtain ⟨l', hH', rfl, hlc, hcm, hfit⟩ := hv
      replace hH' := hH'.of hHi; rw [hHi] at hH'
      simp only [Option.some.injEq, AB.arr.injEq, heq_eq_eq, true_and] at hH'
      subst hH'
      exact ⟨frz X i, rfl, frz_le hX hHi rfl, frz_rel hX hHi rfl, set_H hH hHi, frz_arr hX hHi (by omega) hlc hcm (fun _ => rfl)⟩
    · exact same hv
  · rename_i row i off len mn
    split
    · rename_i l hl
      have hl' : aslRows X.H row i off len = some l := by rw [hH]; exact hl
      obtain ⟨l0, hHi, rfl⟩ := aslRows_some hl'
      obtain ⟨l', o, cap, hH', rfl, hlc, hcm, hfit, ho, _⟩ := hv
      replace hH' := hH'.of hHi; rw [hHi] at hH'
      simp only [Option.some.injEq, AB.arr.injEq, heq_eq_eq, true_and] at hH'
      subst hH'
      exact ⟨frz X i, rfl, frz_le hX hHi rfl, frz_rel hX hHi rfl, set_H hH hHi, frz_arr hX hHi (by omega) hlc hcm ho⟩
    · exact same hv
  · exact same hv
def frzL : List AC → List AB → List AC × List AB
  | [], hp => ([], hp)
  | c :: r, hp => let (c', hp1) := frz1 c hp; let (r', hp2) := frzL r hp1; (c' :: r', hp2)
theorem frzL_ok : ∀ {cs : List AC} {X : Ctx} (hX : HRel X) {hp : List AB} (hH : X.H = fun i => hp[i]?) {vs : List Value} (hv : PW (VRc X) cs vs),
    ∃ X', X'.w = X.w ∧ X.le X' ∧ HRel X' ∧ (X'.H = fun i => (frzL cs hp).2[i]?) ∧ PW (VRc X') (frzL cs hp).1 vs
  | [], X, hX, hp, hH, vs, hv => ⟨X, rfl, .refl X, hX, hH, hv⟩
  | c :: r, X, hX, hp, hH, vs, hv => by
    cases vs with
    | nil => have := hv.1; simp at this
    | cons y ys =>
      obtain ⟨X1, e1, l1, r1, H1, v1⟩ := frz1_ok hX hH (hv.2 0 c y rfl rfl)
      have hv2 : PW (VRc X1) r ys := ⟨by have := hv.1; simpa using this, fun j d z hd hz => VRc.mono l1 d z (hv.2 (j + 1) d z (by simpa using hd) (by simpa using hz))⟩
      obtain ⟨X2, e2, l2, r2, H2, v2⟩ := frzL_ok r1 H1 hv2
      exact ⟨X2, e2.trans e1, l1.trans l2, r2, H2, PW.cons (VRc.mono l2 _ _ v1) v2⟩
def frzAs : List AV → List AB → List AV × List AB
  | [], hp => ([], hp)
  | .agg cs :: r, hp => let (cs', hp1) := frzL cs hp; let (r', hp2) := frzAs r hp1; (.agg cs' :: r', hp2)
  | a :: r, hp => let (r', hp2) := frzAs r hp; (a :: r', hp2)
theorem frzAs_ok : ∀ {as : List AV} {X : Ctx} (hX : HRel X) {hp : List AB} (hH : X.H = fun i => hp[i]?) {vs : List Value} (hv : PW (VR X) as vs),
    ∃ X', X'.w = X.w ∧ X.le X' ∧ HRel X' ∧ (X'.H = fun i => (frzAs as hp).2[i]?) ∧ PW (VR X') (frzAs as hp).1 vs
  | [], X, hX, hp, hH, vs, hv => ⟨X, rfl, .refl X, hX, hH, hv⟩
  | a :: r, X, hX, hp, hH, vs, hv => by
    cases vs with
    | nil => have := hv.1; simp at this
    | cons y ys =>
      have tail : ∀ {X1 : Ctx}, X.le X1 → PW (VR X1) r ys := fun {X1} l1 => ⟨by have := hv.1; simpa using this, fun j d z hd hz => VR.mono l1 d z (hv.2 (j + 1) d z (by simpa using hd) (by simpa using hz))⟩
      have hy := hv.2 0 a y rfl rfl
      have rest : frzAs (a :: r) hp = (a :: (frzAs r hp).1, (frzAs r hp).2) → ∃ X', X'.w = X.w ∧ X.le X' ∧ HRel X' ∧ (X'.H = fun i => (frzAs (a :: r) hp).2[i]?) ∧ PW (VR X') (frzAs (a :: r) hp).1 (y :: ys) := fun e => by
        rw [e]
        obtain ⟨X2, e2, l2, r2, H2, v2⟩ := frzAs_ok hX hH (tail (.refl X))
        exact ⟨X2, e2, l2, r2, H2, PW.cons (VR.mono l2 _ _ hy) v2⟩
      cases a with
      | agg cs =>
        obtain ⟨ar, e, hp0⟩ := hy
        obtain ⟨X1, e1, l1, r1, H1, v1⟩ := frzL_ok hX hH hp0
        obtain ⟨X2, e2, l2, r2, H2, v2⟩ := frzAs_ok r1 H1 (tail l1)
        exact ⟨X2, e2.trans e1, l1.trans l2, r2, H2, PW.cons ⟨ar, e, v1.imp fun c y => VRc.mono l2 c y⟩ v2⟩
      | one c => exact rest rfl
      | tup c => exact rest rfl
      | val c => exact rest rfl
      | gd _ _ _ => exact rest rfl
      | alt _ => exact rest rfl
      | clo _ _ => exact rest rfl
/-- Functions at whose calls what is handed over is given up. -/
def frzFns : List String := ["(*acreage/linear.bag).put"]
def frzIf (n : String) (args : List AV) (hp : List AB) : List AV × List AB := if frzFns.isEmpty then (args, hp) else if frzFns.contains n then frzAs args hp else (args, hp)
theorem frzIf_ok {n : String} {as : List AV} {X : Ctx} (hX : HRel X) {hp : List AB} (hH : X.H = fun i => hp[i]?) {vs : List Value} (hv : PW (VR X) as vs) :
    ∃ X', X'.w = X.w ∧ X.le X' ∧ HRel X' ∧ (X'.H = fun i => (frzIf n as hp).2[i]?) ∧ PW (VR X') (frzIf n as hp).1 vs := by
  unfold frzIf
  split
  · exact ⟨X, rfl, .refl X, hX, hH, hv⟩
  · split
    · exact frzAs_ok hX hH hv
    · exact ⟨X, rfl, .refl X, hX, hH, hv⟩
/-- A function's body, walked where it is called, where no contract serves. -/
def khM (P : Program) (kp : KP) (kq : KX) (kh0 : KH) (lcs : Nat → LC) (rounds : Nat) : Nat → KH
  | 0 => kh0
  | d + 1 => fun f args hp os => match kh0 f args hp os with
    | some r => some r
    | none => match P.funcs[f]? with
      | some fn => if fn.name == "runtime.NumGoroutine" then none else match fn.body with
        | some c => trimR hp.length (runF P kp kq (khM P kp kq kh0 lcs rounds d) (lcs f) rounds fn c (frzIf fn.name args hp).1 (frzIf fn.name args hp).2 os)
        | none => none
      | none => none

theorem khM_ok (hm : P.follows .mixedOrders = true) {kp : KP} {kq : KX} (hkp : KPok P kp) (hkq : KXok P kq) {kh0 : KH} (hk0 : KHok P kh0) {lcs : Nat → LC} (hl : LCsOk P lcs) {rounds : Nat} : ∀ d, KHok P (khM P kp kq kh0 lcs rounds d)
  | 0 => hk0
  | d + 1 => fun f args hp os r hp' cs os' h hcs X vs hX hH hv => by
    simp only [khM] at h
    split at h
    · rename_i r0 h0
      injection h with h; subst h
      exact hk0 _ _ _ _ _ _ _ _ h0 hcs X vs hX hH hv
    · split at h
      · rename_i fn hf
        split at h
        · cases h
        · rename_i hne
          split at h
          · rename_i c hb
            refine ⟨⟨fn, hf, by simpa using hne, by rw [hb]; rfl⟩, ?_⟩
            obtain ⟨hp1, hrun, htr⟩ := trimR_ok h
            obtain ⟨X1, e1, l1, r1, H1, v1⟩ := frzIf_ok (n := fn.name) hX hH hv
            rw [← e1]
            refine (runF_sim hm hkp hkq (khM_ok hm hkp hkq hk0 hl d) hf hb (hl f fn c hf hb) hrun hcs r1 H1 v1).mono fun e w' ⟨val, X', h1, h2, h3, h4, h5, h6⟩ => ?_
            obtain ⟨X'', g1, g2, g3, g4, g5⟩ := htr (l1.trans h3) h4 h5 h6 (fun i hi => by rw [hH]; exact List.getElem?_eq_none hi)
            exact ⟨val, X'', h1, g1.trans h2, g2, g3, g4, g5⟩
          · cases h
      · cases h

def kpM (P : Program) (sp : Bool) (kp : KP) (kh0 : KH) (lcs : Nat → LC) (rounds : Nat) : Nat → KP
  | 0 => kp
  | d + 1 => fun f args os => match kp f args os with
    | some r => some r
    | none => match P.funcs[f]?, wkAs args with
        | some fn, some args' => if fn.name == "runtime.NumGoroutine" then none else match fn.body with
          | some c => backR (runF P kp (kxN (kpM P sp kp kh0 lcs rounds d) sp) (khM P kp (kxN (kpM P sp kp kh0 lcs rounds d) sp) kh0 lcs rounds d) (lcs f) rounds fn c args' [] os)
          | none => none
        | _, _ => none

theorem kpM_ok (hm : P.follows .mixedOrders = true) {kp : KP} (hkp : KPok P kp) {kh0 : KH} (hk0 : KHok P kh0) {lcs : Nat → LC} (hl : LCsOk P lcs) {rounds : Nat} {sp : Bool} : ∀ d, KPok P (kpM P sp kp kh0 lcs rounds d)
  | 0 => hkp
  | d + 1 => fun f args os r cs os' h hcs X vs hX hv => by
    simp only [kpM] at h
    split at h
    · rename_i r0 h0
      injection h with h; subst h
      exact hkp f args os r cs os' h0 hcs X vs hX hv
    · split at h
      · rename_i fn args' hf ha
        split at h
        · cases h
        · rename_i hne
          split at h
          · rename_i c hb
            have hq := kpM_ok hm hkp hk0 hl (rounds := rounds) (sp := sp) d
            have := pure_of_run2 hm hkp (kxN_ok hq) (khM_ok hm hkp (kxN_ok hq) hk0 hl d) hf (by simpa using hne) hb (hl f fn c hf hb) ha h hcs
            exact ⟨this.1, this.2 X vs hX hv⟩
          · cases h
      · cases h

/-- A contract of a function that only reads, at blocks of the caller's own. -/
def khSee (P : Program) (kp : KP) (kh : KH) : KH := fun f args hp os => match kh f args hp os with
  | some r => some r
  | none => match seeAs P (fun i => hp[i]?) (paramsOf P f) args with
    | some args' => match kp f args' os with
      | some (v, cs, r) => if bareA v then some (v, hp, cs, r) else none
      | none => none
    | none => none

theorem khSee_ok {kp : KP} (hkp : KPok P kp) {kh : KH} (hkh : KHok P kh) : KHok P (khSee P kp kh) := fun f args hp os r hp' cs os' h hcs X vs hX hH hv => by
  unfold khSee at h
  split at h
  · rename_i r0 h0
    injection h with h; subst h
    exact hkh _ _ _ _ _ _ _ _ h0 hcs X vs hX hH hv
  · split at h
    · rename_i args' ha
      split at h
      · rename_i v cs0 r0 hk
        split at h
        · rename_i hb
          simp only [Option.some.injEq, Prod.mk.injEq] at h
          obtain ⟨rfl, rfl, rfl, rfl⟩ := h
          obtain ⟨g1, g2⟩ := see_call hkp hX (by rw [hH]; exact ha) hk hb hcs hv
          exact ⟨g1, g2.mono fun e w' ⟨val, X', h1, h2, h3, h4, h5, h6⟩ => ⟨val, X', h1, h2, h3, h4, by rw [h5, hH], h6⟩⟩
        · cases h
      · cases h
    · cases h

structure Env (P : Program) where
  hm : P.follows .mixedOrders = true
  kp : KP
  hkp : KPok P kp
  kh : KH
  hkh : KHok P kh
  lcs : Nat → LC
  hlc : LCsOk P lcs
  hkeep : ∀ f fn c, P.funcs[f]? = some fn → fn.body = some c → LCkeep (lcs f) c
  kl : KL
  kd : Nat → Bool
  hkl : KLok P kl
  sp : Bool := false
  kn : KN := knN
  nf : Nat → Nat := fun _ => 0
  hkn : KNok P kn := by exact knN_ok

def kh0 : KH := fun _ _ _ _ => none
def Env.base (hm : P.follows .mixedOrders = true) : Env P :=
  { hm, kp := kp0, hkp := kp0_ok, kh := kh0, hkh := (fun _ _ _ _ _ _ _ _ h => by cases h), lcs := lcs0, hlc := lcs0_ok, hkeep := (fun _ _ _ _ _ _ _ _ _ _ _ _ h => by cases h), kl := klN, kd := fun _ => false, hkl := klN_ok, hkn := knN_ok }

def rounds0 : Nat := 300
def depth0 : Nat := 14
def Env.khs (E : Env P) : KH := khSee P E.kp E.kh
def Env.kq (E : Env P) : KP := kpM P E.sp E.kp E.khs E.lcs rounds0 depth0
def Env.kx (E : Env P) : KX := ⟨E.kq, E.kl, E.kd, E.sp, E.kn, E.nf⟩
/-- Tests are looked behind where it costs nothing. -/
def Env.spec (E : Env P) : Env P := { E with sp := true }
def Env.kk (E : Env P) : KH := khM P E.kp E.kx E.khs E.lcs rounds0 depth0
theorem Env.khs_ok (E : Env P) : KHok P E.khs := khSee_ok E.hkp E.hkh
theorem Env.kq_ok (E : Env P) : KPok P E.kq := kpM_ok E.hm E.hkp E.khs_ok E.hlc _
theorem Env.kx_ok (E : Env P) : KXok P E.kx := ⟨E.kq_ok, E.hkl, E.hkn⟩
theorem Env.kk_ok (E : Env P) : KHok P E.kk := khM_ok E.hm E.hkp E.kx_ok E.khs_ok E.hlc _

/-- A function's run. -/
def Env.run (E : Env P) (f : Nat) (args : List AV) (hp : List AB) (os : List Bool) : Option (AV × List AB × List Bool) :=
  match P.funcs[f]? with
  | some fn => if fn.name == "runtime.NumGoroutine" then none else match fn.body with
    | some c => match runF P E.kp E.kx E.kk (E.lcs f) rounds0 fn c args hp os with
      | some (r, hp', cs, _) => some (r, hp', cs)
      | none => none
    | none => none
  | none => none

def Env.pureRun (E : Env P) (f : Nat) (args : List AV) (os : List Bool) : Option (AV × List Bool) :=
  match wkAs args, P.funcs[f]? with
  | some args', some fn => if fn.name == "runtime.NumGoroutine" then none else match fn.body with
    | some c => match backR (runF P E.kp E.kx E.kk (E.lcs f) rounds0 fn c args' [] os) with
      | some (r, cs, _) => some (r, cs)
      | none => none
    | none => none
  | _, _ => none

theorem Env.heap_ok (E : Env P) {f : Nat} {args : List AV} {hp : List AB} {os : List Bool} {r : AV} {hp' : List AB} {cs : List Bool} (h : E.run f args hp os = some (r, hp', cs)) (hcs : ∀ c ∈ cs, c = true) : HeapCall P f args hp r hp' := by
  unfold Env.run at h
  split at h
  · rename_i fn hf
    split at h
    · cases h
    · rename_i hne
      split at h
      · rename_i c hb
        split at h
        · rename_i hrun
          simp only [Option.some.injEq, Prod.mk.injEq] at h
          obtain ⟨rfl, rfl, rfl⟩ := h
          refine ⟨⟨fn, hf, by simpa using hne, by rw [hb]; rfl⟩, fun X vs hX hH hv => ?_⟩
          exact runF_sim E.hm E.hkp E.kx_ok E.kk_ok hf hb (E.hlc f fn c hf hb) hrun hcs hX hH hv
        · cases h
      · cases h
  · cases h

theorem Env.pure_ok (E : Env P) {f : Nat} {args : List AV} {os : List Bool} {r : AV} {cs : List Bool} (h : E.pureRun f args os = some (r, cs)) (hcs : ∀ c ∈ cs, c = true) : PureCall P f args r := by
  unfold Env.pureRun at h
  split at h
  · rename_i args' fn ha hf
    split at h
    · cases h
    · rename_i hne
      split at h
      · rename_i c hb
        split at h
        · rename_i hrun
          simp only [Option.some.injEq, Prod.mk.injEq] at h
          obtain ⟨rfl, rfl⟩ := h
          exact pure_of_run2 E.hm E.hkp E.kx_ok E.kk_ok hf (by simpa using hne) hb (E.hlc f fn c hf hb) ha hrun hcs
        · cases h
      · cases h
  · cases h

def retC {α : Type} (x : α) (cs : List Bool) (os : List Bool) : Option (α × List Bool × List Bool) := some (x, cs, os)
/-- One contract more. -/
def addKP (kp : KP) (f : Nat) (fn : List AV → List Bool → Option (AV × List Bool × List Bool)) : KP := fun g args os =>
  if Nat.beq g f then match fn args os with
    | some r => some r
    | none => kp g args os
  else kp g args os
theorem addKP_ok {kp : KP} (hkp : KPok P kp) {f : Nat} {fn : List AV → List Bool → Option (AV × List Bool × List Bool)} (ok : ∀ args os r cs os', fn args os = some (r, cs, os') → (∀ c ∈ cs, c = true) → PureCall P f args r) : KPok P (addKP kp f fn) :=
  fun g args os r cs os' h hcs X vs hX hv => by
    unfold addKP at h
    split at h
    · rename_i e
      simp only [Nat.beq_eq] at e
      subst e
      split at h
      · rename_i r0 hf
        injection h with h; subst h
        exact ⟨(ok _ _ _ _ _ hf hcs).1, (ok _ _ _ _ _ hf hcs).2 X vs hX hv⟩
      · exact hkp _ _ _ _ _ _ h hcs X vs hX hv
    · exact hkp _ _ _ _ _ _ h hcs X vs hX hv

def Env.addP (E : Env P) (f : Nat) (fn : List AV → List Bool → Option (AV × List Bool × List Bool)) (ok : ∀ args os r cs os', fn args os = some (r, cs, os') → (∀ c ∈ cs, c = true) → PureCall P f args r) : Env P :=
  { E with kp := addKP E.kp f fn, hkp := addKP_ok E.hkp ok }

/-- One contract more, typed. -/
def Env.addT (E : Env P) (f : Nat) (sig : List PT) (res : dens sig → List Bool → Option (AV × List Bool × List Bool)) (ok : ∀ d os r cs os', res d os = some (r, cs, os') → (∀ c ∈ cs, c = true) → PureCall P f (encs sig d) r) : Env P :=
  E.addP f (fun args os => match decs sig args with
    | some d => res d os
    | none => none) fun args os r cs os' h hcs => by
    split at h
    · rename_i d hd
      exact (ok d os r cs os' h hcs).weaken fun X vs _ hv => decs_rel sig hd hv
    · cases h
/-- One that comes to one thing. -/
def Env.addT1 (E : Env P) (f : Nat) (sig : List PT) (res : dens sig → AV) (cs : dens sig → List Bool) (ok : ∀ d, (∀ c ∈ cs d, c = true) → PureCall P f (encs sig d) (res d)) : Env P :=
  E.addT f sig (fun d os => some (res d, cs d, os)) fun d os r c os' h hcs => by
    simp only [Option.some.injEq, Prod.mk.injEq] at h
    obtain ⟨rfl, rfl, rfl⟩ := h
    exact ok d hcs

def addKH (kh : KH) (f : Nat) (fn : List AV → List AB → List Bool → Option ((AV × List AB) × List Bool × List Bool)) : KH := fun g args hp os =>
  if Nat.beq g f then match fn args hp os with
    | some ((r, hp'), cs, os') => some (r, hp', cs, os')
    | none => kh g args hp os
  else kh g args hp os
theorem addKH_ok {kh : KH} (hkh : KHok P kh) {f : Nat} {fn : List AV → List AB → List Bool → Option ((AV × List AB) × List Bool × List Bool)} (ok : ∀ args hp os r hp' cs os', fn args hp os = some ((r, hp'), cs, os') → (∀ c ∈ cs, c = true) → HeapCall P f args hp r hp') : KHok P (addKH kh f fn) :=
  fun g args hp os r hp' cs os' h hcs X vs hX hH hv => by
    unfold addKH at h
    split at h
    · rename_i e
      simp only [Nat.beq_eq] at e
      subst e
      split at h
      · rename_i r0 hp0 cs0 os0 hf
        simp only [Option.some.injEq, Prod.mk.injEq] at h
        obtain ⟨rfl, rfl, rfl, rfl⟩ := h
        exact ⟨(ok _ _ _ _ _ _ _ hf hcs).1, (ok _ _ _ _ _ _ _ hf hcs).2 X vs hX hH hv⟩
      · exact hkh _ _ _ _ _ _ _ _ h hcs X vs hX hH hv
    · exact hkh _ _ _ _ _ _ _ _ h hcs X vs hX hH hv
def Env.addH (E : Env P) (f : Nat) (fn : List AV → List AB → List Bool → Option ((AV × List AB) × List Bool × List Bool)) (ok : ∀ args hp os r hp' cs os', fn args hp os = some ((r, hp'), cs, os') → (∀ c ∈ cs, c = true) → HeapCall P f args hp r hp') : Env P :=
  { E with kh := addKH E.kh f fn, hkh := addKH_ok E.hkh ok }

/-- A closed function, its whole run laid out by the kernel. -/
theorem Env.closed (E : Env P) {f : Nat} {v : AV} {os : List Bool} {cs : List Bool} {hp : List AB} (h : E.run f [] [] os = some (v, hp, cs)) (hcs : ∀ c ∈ cs, c = true) (hv : v = .one (.bool true)) (W : World) :
    Calls P f #[] W fun e w' => e = .returned (.bool true) ∧ Below W.heap.size W w' := by
  subst hv
  refine ((E.heap_ok h hcs).2 (topC W) [] (HRel.topC W) (by funext i; simp [topC, freshAll]) PW.nil).mono fun e w' hh => ?_
  obtain ⟨val, X', rfl, rfl, hle, hY, _, hval⟩ := hh
  have hval' : val = .bool true := hval
  exact ⟨by rw [hval'], below_top hle hY⟩
end
section
open Go Go.RowKit
variable {P : Program}

/-! ### Loops by rounds -/

def zipT : List Nat → List AV → List (Nat × AV)
  | s :: ss, v :: vs => (s, v) :: zipT ss vs
  | _, _ => []
def stripT (ds : List Nat) : List (Nat × AV) → List (Nat × AV)
  | [] => []
  | (s, v) :: r => if isIn s ds then stripT ds r else (s, v) :: stripT ds r
def looks (tm : List (Nat × AV)) : List Nat → Option (List AV)
  | [] => some []
  | s :: ss => match lookT tm s, looks tm ss with
    | some v, some vs => some (v :: vs)
    | _, _ => none
/-- What is seen of a round: how it ends, some slots, blocks, what was taken for granted. -/
def view (slots : List Nat) : Option (XE × St) → Option (XE × List AV × List AB × List Bool)
  | some (e, σ) => match looks σ.tm slots with
    | some vs => some (e, vs, σ.hp, σ.cs)
    | none => none
  | none => none

theorem lookT_strip {ds : List Nat} {t : Nat} : ∀ (tm : List (Nat × AV)), lookT (stripT ds tm) t = if t ∈ ds then none else lookT tm t
  | [] => by simp [stripT, lookT]
  | (s, v) :: r => by
    have ih := lookT_strip (ds := ds) (t := t) r
    simp only [stripT]
    by_cases hs : isIn s ds = true
    · rw [if_pos hs, ih]
      by_cases ht : t ∈ ds
      · simp [ht]
      · have : Nat.beq s t = false := by
          rw [Bool.eq_false_iff]; intro e; simp only [Nat.beq_eq] at e; subst e; exact ht (isIn_iff.1 hs)
        simp [ht, lookT, this]
    · rw [if_neg hs]
      simp only [lookT]
      split
      · rename_i e
        simp only [Nat.beq_eq] at e; subst e
        rw [if_neg fun h => hs (isIn_iff.2 h)]
      · exact ih
theorem lookT_app {t : Nat} {b : List (Nat × AV)} : ∀ (a : List (Nat × AV)), lookT (a ++ b) t = match lookT a t with | some v => some v | none => lookT b t
  | [] => rfl
  | (s, v) :: r => by
    simp only [List.cons_append, lookT]
    split
    · rfl
    · exact lookT_app r
theorem lookT_zip_none {t : Nat} : ∀ (ss : List Nat) (vs : List AV), t ∉ ss → lookT (zipT ss vs) t = none
  | [], vs, _ => by cases vs <;> rfl
  | s :: ss, [], _ => rfl
  | s :: ss, v :: vs, h => by
    have : Nat.beq s t = false := by
      rw [Bool.eq_false_iff]; intro e; simp only [Nat.beq_eq] at e; subst e; exact h (List.mem_cons_self ..)
    simp only [zipT, lookT, this]
    exact lookT_zip_none ss vs fun hh => h (List.mem_cons_of_mem _ hh)

def Wk (hp : List AB) (v v' : AV) : Prop := ∀ X y, HRel X → (∀ i b, hp[i]? = some b → X.H i = some b) → VR X v y → VR X v' y
def Wks (hp : List AB) : List AV → List AV → Prop
  | [], [] => True
  | a :: as, b :: bs => Wk hp a b ∧ Wks hp as bs
  | _, _ => False
theorem Wk.refl {hp : List AB} {v : AV} : Wk hp v v := fun _ _ _ _ h => h
theorem Wk.of_eq {hp : List AB} {v v' : AV} (h : v = v') : Wk hp v v' := h ▸ .refl
theorem Wk.unk {hp : List AB} {v : AV} : Wk hp v (.one .unk) := fun _ _ _ _ _ => trivial
theorem Wks.refl {hp : List AB} : ∀ (l : List AV), Wks hp l l
  | [] => trivial
  | _ :: r => ⟨.refl, Wks.refl r⟩
theorem Wks.of_eq {hp : List AB} {l l' : List AV} (h : l = l') : Wks hp l l' := h ▸ .refl l
theorem Wk.shared {hp : List AB} {row : CT} {l : List row.den} {m : SM} : Wk hp (.one (.sl row l m)) (.one (.sl row l .shared)) :=
  fun X y _ _ ⟨A, n, cap, h1, h2, h3, h4, h5, _⟩ => ⟨A, n, cap, h1, h2, h3, h4, h5, trivial⟩
theorem Wk.nils {hp : List AB} {row : CT} : Wk hp (.one .nils) (.one (.sl row [] .shared)) :=
  fun X y _ _ h => ⟨none, 0, 0, h, rfl, Nat.le_refl _, Nat.zero_le _, .inl rfl, trivial⟩
theorem zip_mem {t : Nat} {v : AV} : ∀ (ss : List Nat) (vs : List AV), lookT (zipT ss vs) t = some v → v ∈ vs
  | [], vs, h => by cases vs <;> cases h
  | s :: ss, [], h => by cases h
  | s :: ss, b :: bs, h => by
    simp only [zipT, lookT] at h
    split at h
    · injection h with h; subst h; exact List.mem_cons_self ..
    · exact List.mem_cons_of_mem _ (zip_mem ss bs h)
theorem zip_look {hp : List AB} {tm : List (Nat × AV)} {t : Nat} {v : AV} : ∀ (ss : List Nat) (vs vs' : List AV), looks tm ss = some vs → Wks hp vs vs' → lookT (zipT ss vs') t = some v → ∃ u, lookT tm t = some u ∧ Wk hp u v
  | [], vs, vs', _, _, h => by cases vs' <;> cases h
  | s :: ss, vs, vs', hl, hw, h => by
    simp only [looks] at hl
    split at hl
    · rename_i u us h1 h2
      injection hl with hl; subst hl
      cases vs' with
      | nil => cases hw
      | cons b bs =>
        simp only [zipT, lookT] at h
        split at h
        · rename_i e
          simp only [Nat.beq_eq] at e; subst e
          injection h with h; subst h
          exact ⟨u, h1, hw.1⟩
        · exact zip_look ss us bs h2 hw.2 h
    · cases hl

def theLoop (P : Program) (f i : Nat) : Option Code :=
  match P.funcs[f]? with
  | some fn => match fn.body with
    | some c => match (loopsOf c).filter (fun b => firstId b == some i) with
      | [b] => some b
      | _ => none
    | none => none
  | none => none

theorem theLoop_eq {f i : Nat} {body : Code} (h : theLoop P f i = some body) {fn : Func} {c : Code} (hf : P.funcs[f]? = some fn) (hb : fn.body = some c) : ∀ b ∈ loopsOf c, firstId b = some i → b = body := by
  intro b hm hi
  unfold theLoop at h
  rw [hf] at h
  simp only [hb] at h
  split at h
  · rename_i b' hfil
    injection h with h; subst h
    have : b ∈ (loopsOf c).filter (fun b => firstId b == some i) := List.mem_filter.2 ⟨hm, by rw [hi]; simp⟩
    rw [hfil] at this
    simpa using this
  · cases h
theorem theLoop_mem {f i : Nat} {body : Code} (h : theLoop P f i = some body) : ∃ fn c, P.funcs[f]? = some fn ∧ fn.body = some c ∧ body ∈ loopsOf c ∧ firstId body = some i := by
  unfold theLoop at h
  split at h
  · rename_i fn hf
    split at h
    · rename_i c hb
      split at h
      · rename_i b' hfil
        injection h with h; subst h
        have : b' ∈ (loopsOf c).filter (fun b => firstId b == some i) := by rw [hfil]; simp
        obtain ⟨h1, h2⟩ := List.mem_filter.1 this
        exact ⟨fn, c, hf, hb, h1, by simpa using h2⟩
      · cases h
    · cases h
  · cases h

theorem loopsOf_trans : ∀ (c : Code) {body b : Code}, body ∈ loopsOf c → b ∈ loopsOf body → b ∈ loopsOf c := by
  intro c
  induction c with
  | seq x y ihx ihy =>
    intro body b h1 h2
    rcases List.mem_append.1 h1 with h | h
    · exact List.mem_append_left _ (ihx h h2)
    · exact List.mem_append_right _ (ihy h h2)
  | cond c x y ihx ihy =>
    intro body b h1 h2
    rcases List.mem_append.1 h1 with h | h
    · exact List.mem_append_left _ (ihx h h2)
    · exact List.mem_append_right _ (ihy h h2)
  | block id c ih => intro body b h1 h2; exact ih h1 h2
  | scope c ih => intro body b h1 h2; exact ih h1 h2
  | loop c ih =>
    intro body b h1 h2
    rcases List.mem_cons.1 h1 with rfl | h
    · exact List.mem_cons_of_mem _ h2
    · exact List.mem_cons_of_mem _ (ih h h2)
  | skip | label | ret | exit | region | rangeFunc | goto | refuse => intro body b h1 h2; cases h1

def Env.round (E : Env P) (f : Nat) (body : Code) (σ : St) : Option (XE × St) := exec P E.kp E.kx E.kk (E.lcs f) rounds0 body σ

/-- What is known at a loop's head. -/
def headS (nt : Nat) (tm : List (Nat × AV)) (hp : List AB) (os : List Bool) : St := { tm, tg := [], hp, os, cs := [], nt, spec := false }

def idsLt (m : Nat) (vs : List AV) (hp : List AB) : Prop := (∀ v ∈ vs, ∀ i ∈ idsV v, i < m) ∧ ∀ b ∈ hp, ∀ i ∈ idsB b, i < m

def viewT (m : Nat) (slots : List Nat) : Option (XE × St) → Option (XE × List AV × List AB × List Bool)
  | some (e, σ) => match looks σ.tm slots with
    | some vs => some (e, vs, σ.hp.take m, σ.cs)
    | none => none
  | none => none
/-! Own slices over tokens that are let go are slices of which less is known. -/
def softC (m : Nat) : AC → AC
  | .sl row l (.own i v) => if Nat.blt i m then .sl row l (.own i v) else .sl row l .shared
  | c => c
def softB (m : Nat) : AB → AB
  | .cells cs => .cells (cs.map (softC m))
  | .bld t c => .bld t (softC m c)
  | b => b
def softs (m : Nat) (hp : List AB) : List AB := hp.map (softB m)
theorem softC_rel {X : Ctx} {m : Nat} {c : AC} {v : Value} (h : VRc X c v) : VRc X (softC m c) v := by
  unfold softC
  split
  · split
    · exact h
    · obtain ⟨A, n, cap, h1, h2, h3, h4, h5, _⟩ := h
      exact ⟨A, n, cap, h1, h2, h3, h4, h5, trivial⟩
  · exact h
theorem softB_loc {m : Nat} (b : AB) : (softB m b).loc = b.loc := by cases b <;> rfl
theorem softB_wr {m : Nat} (b : AB) : (softB m b).wr = b.wr := by cases b <;> rfl
theorem softB_pt {m : Nat} (b : AB) : (softB m b).pt = b.pt := by cases b <;> rfl
def Ctx.soft (X : Ctx) (m : Nat) : Ctx := { X with H := fun i => (X.H i).map (softB m) }
theorem soft_H {X : Ctx} {m i : Nat} {b : AB} (h : (X.soft m).H i = some b) : ∃ b0, X.H i = some b0 ∧ b = softB m b0 := by
  simp only [Ctx.soft, Option.map_eq_some_iff] at h
  obtain ⟨b0, h1, h2⟩ := h
  exact ⟨b0, h1, h2.symm⟩
theorem soft_some {X : Ctx} {m i : Nat} {b : AB} (h : X.H i = some b) : (X.soft m).H i = some (softB m b) := by simp only [Ctx.soft, h, Option.map_some]
theorem soft_IC {X : Ctx} {m : Nat} {a : Addr} {y : Value} : (X.soft m).IC a y ↔ X.IC a y := by
  constructor
  · intro ⟨h1, h2, h3, h4, h5⟩
    exact ⟨h1, h2, h3, fun i b hb hl => h4 i _ (soft_some hb) (by rw [softB_wr]; exact hl), h5⟩
  · intro ⟨h1, h2, h3, h4, h5⟩
    exact ⟨h1, h2, h3, fun i b hb hl => by
      obtain ⟨b0, g1, rfl⟩ := soft_H hb
      exact h4 i b0 g1 (by rw [softB_wr] at hl; exact hl), h5⟩
theorem soft_le (X : Ctx) (m : Nat) : X.le (X.soft m) where
  ic a y h := soft_IC.2 h
  loc i b hb hm := ⟨⟨_, soft_some hb, by rw [softB_pt]; exact hm⟩, rfl⟩
  arr i row l hb := .inl ⟨l, soft_some hb, rfl⟩
  dead i hb := soft_some hb
  ca _ _ _ _ := rfl
  tok i t v hb := ⟨v, soft_some hb, Nat.le_refl _, fun _ => ⟨rfl, fun e p q h => h⟩⟩
  w0 := rfl
  lent := rfl
  oldeq := rfl
  drawn := Nat.le_refl _
theorem HRel.soft {X : Ctx} (hX : HRel X) (m : Nat) : HRel (X.soft m) where
  inj i j b c hi hj hb hc hne := by
    obtain ⟨b0, g1, rfl⟩ := soft_H hi
    obtain ⟨c0, g2, rfl⟩ := soft_H hj
    exact hX.inj i j b0 c0 g1 g2 (by rw [softB_loc] at hb; exact hb) (by rw [softB_loc] at hc; exact hc) hne
  injt := hX.injt
  injm i b j hi hb := by
    obtain ⟨b0, g1, rfl⟩ := soft_H hi
    exact hX.injm i b0 j g1 (by rw [softB_loc] at hb; exact hb)
  place i b hi hb := by
    obtain ⟨b0, g1, rfl⟩ := soft_H hi
    exact hX.place i b0 g1 (by rw [softB_wr] at hb; exact hb)
  placet := hX.placet
  lt i b hi hb := by
    obtain ⟨b0, g1, rfl⟩ := soft_H hi
    exact hX.lt i b0 g1 (by rw [softB_pt] at hb; exact hb)
  ltt := hX.ltt
  tlH i h := by
    intro hn
    cases hb : X.H i with
    | none => exact hX.tlH i h hb
    | some b => rw [soft_some hb] at hn; cases hn
  frlt := hX.frlt
  blk i b hi := by
    obtain ⟨b0, g1, rfl⟩ := soft_H hi
    have h0 := BRel.mono (soft_le X m) (i := i) (b := b0) rfl rfl rfl (hX.blk i b0 g1)
    cases b0 with
    | cells cs =>
      obtain ⟨c, t, k1, k2⟩ := h0
      refine ⟨c, t, k1, by simpa using k2.1, fun j d y hd hy => ?_⟩
      rw [List.getElem?_map] at hd
      cases hc : cs[j]? with
      | none => rw [hc] at hd; cases hd
      | some d0 =>
        rw [hc] at hd
        simp only [Option.map_some, Option.some.injEq] at hd
        subst hd
        exact softC_rel (k2.2 j d0 y hc hy)
    | arr row l => exact h0
    | tok _ _ => trivial
    | mp _ _ _ _ _ => exact h0
    | obj _ => exact h0
    | roc _ _ => exact h0
    | rom _ _ _ _ _ _ => exact h0
    | iter _ _ _ => exact h0
    | dead => trivial
    | bld t c =>
      obtain ⟨p, v, k1, k2, k3⟩ := h0
      refine ⟨p, v, k1, k2, ?_⟩
      cases c with
      | nils => exact k3
      | ptr j n => exact k3
      | _ => exact k3.elim
    | buf _ _ => exact h0
  below := hX.below
  os := hX.os
  tape := hX.tape
  output := hX.output
  size := hX.size
  old a y h := soft_IC.2 (hX.old a y h)
theorem Rel.soft {X : Ctx} {σ : St} {a : Act} (h : Rel X σ a) (m : Nat) : Rel (X.soft m) { σ with hp := softs m σ.hp } a where
  hrel := h.hrel.soft m
  heap := by
    funext i
    have := congrFun h.heap i
    show (X.H i).map (softB m) = (softs m σ.hp)[i]?
    rw [this]
    simp [St.H, softs]
  size := h.size
  defers := h.defers
  tm t v hv := VR.mono (soft_le X m) _ _ (h.tm t v hv)
  tg t s w v hv := ⟨fun hs => VR.mono (soft_le X m) _ _ ((h.tg t s w v hv).1 hs), (h.tg t s w v hv).2⟩
theorem softs_take (m k : Nat) (hp : List AB) : (softs m hp).take k = softs m (hp.take k) := by simp [softs, List.map_take]
theorem softs_len (m : Nat) (hp : List AB) : (softs m hp).length = hp.length := by simp [softs]

/-- A round: what is seen of it, at any rest; it goes on to another state of the same make, or ends the loop. -/
def OneRound (E : Env P) (f : Nat) (body : Code) (nt m : Nat) (slots : List Nat) (known : List (Nat × AV)) {S : Type} (vals : S → List AV) (hp : S → List AB) (Inv : S → Prop) (mu : S → Nat) (e : XE) (outs : List AV) (hpo : List AB) (s : S) : Prop :=
  ∃ os e' vs, ∀ rest, ∃ σ', E.round f body (headS nt (zipT slots (vals s) ++ (known ++ rest)) (hp s) os) = some (e', σ') ∧ looks σ'.tm slots = some vs ∧ (∀ c ∈ σ'.cs, c = true) ∧
    ∃ hq, (hq = σ'.hp.take m ∨ hq = softs m (σ'.hp.take m)) ∧
    ((e' = .normal ∧ ∃ s', Inv s' ∧ mu s' < mu s ∧ Wks hq vs (vals s') ∧ hq = hp s' ∧ (σ'.hp.length ≤ m ∨ idsLt m (vals s') (hp s'))) ∨
     (e' = e ∧ e ≠ .normal ∧ Wks hq vs outs ∧ hq = hpo ∧ (σ'.hp.length ≤ m ∨ idsLt m outs hpo)))

theorem looks_of_view {slots : List Nat} {r : Option (XE × St)} {e : XE} {vs : List AV} {hp : List AB} {cs : List Bool} (h : view slots r = some (e, vs, hp, cs)) : ∃ σ, r = some (e, σ) ∧ looks σ.tm slots = some vs ∧ σ.hp = hp ∧ σ.cs = cs := by
  unfold view at h
  split at h
  · rename_i e' σ
    split at h
    · rename_i vs' hl
      simp only [Option.some.injEq, Prod.mk.injEq] at h
      obtain ⟨rfl, rfl, rfl, rfl⟩ := h
      exact ⟨σ, rfl, hl, rfl, rfl⟩
    · cases h
  · cases h
theorem looks_of_viewT {m : Nat} {slots : List Nat} {r : Option (XE × St)} {e : XE} {vs : List AV} {hp : List AB} {cs : List Bool} (h : viewT m slots r = some (e, vs, hp, cs)) : ∃ σ, r = some (e, σ) ∧ looks σ.tm slots = some vs ∧ σ.hp.take m = hp ∧ σ.cs = cs := by
  unfold viewT at h
  split at h
  · rename_i e' σ
    split at h
    · rename_i vs' hl
      simp only [Option.some.injEq, Prod.mk.injEq] at h
      obtain ⟨rfl, rfl, rfl, rfl⟩ := h
      exact ⟨σ, rfl, hl, rfl, rfl⟩
    · cases h
  · cases h

theorem OneRound.go {E : Env P} {f : Nat} {body : Code} {nt m : Nat} {slots : List Nat} {known : List (Nat × AV)} {S : Type} {vals : S → List AV} {hp : S → List AB} {Inv : S → Prop} {mu : S → Nat} {e : XE} {outs : List AV} {hpo : List AB} {s : S}
    (os : List Bool) {vs : List AV} {hp' : List AB} {cs : List Bool} (hv : ∀ rest, view slots (E.round f body (headS nt (zipT slots (vals s) ++ (known ++ rest)) (hp s) os)) = some (.normal, vs, hp', cs)) (hcs : ∀ c ∈ cs, c = true)
    (s' : S) (hI : Inv s') (hmu : mu s' < mu s) (hw : Wks (hp'.take m) vs (vals s')) (htk : hp'.take m = hp s') (hi : hp'.length ≤ m ∨ idsLt m (vals s') (hp s')) : OneRound E f body nt m slots known vals hp Inv mu e outs hpo s :=
  ⟨os, .normal, vs, fun rest => by
    obtain ⟨σ, h1, h2, h3, h4⟩ := looks_of_view (hv rest)
    subst h3; subst h4
    exact ⟨σ, h1, h2, hcs, _, .inl rfl, .inl ⟨rfl, s', hI, hmu, hw, htk, hi⟩⟩⟩
theorem OneRound.stop {E : Env P} {f : Nat} {body : Code} {nt m : Nat} {slots : List Nat} {known : List (Nat × AV)} {S : Type} {vals : S → List AV} {hp : S → List AB} {Inv : S → Prop} {mu : S → Nat} {e : XE} {outs : List AV} {hpo : List AB} {s : S}
    (os : List Bool) {vs : List AV} {hp' : List AB} {cs : List Bool} (hv : ∀ rest, view slots (E.round f body (headS nt (zipT slots (vals s) ++ (known ++ rest)) (hp s) os)) = some (e, vs, hp', cs)) (hcs : ∀ c ∈ cs, c = true)
    (hne : e ≠ .normal) (hw : Wks (hp'.take m) vs outs) (htk : hp'.take m = hpo) (hi : hp'.length ≤ m ∨ idsLt m outs hpo) : OneRound E f body nt m slots known vals hp Inv mu e outs hpo s :=
  ⟨os, e, vs, fun rest => by
    obtain ⟨σ, h1, h2, h3, h4⟩ := looks_of_view (hv rest)
    subst h3; subst h4
    exact ⟨σ, h1, h2, hcs, _, .inl rfl, .inr ⟨rfl, hne, hw, htk, hi⟩⟩⟩
theorem Rel.head {X' : Ctx} {σ' : St} {a' : Act} (h : Rel X' σ' a') {nt m : Nat} {ds slots : List Nat} (hss : ∀ t ∈ slots, t ∈ ds) {vals vs vs' : List AV} {rest : List (Nat × AV)} {hp : List AB} {os : List Bool}
    (hk : Keeps ds (headS nt (zipT slots vals ++ rest) hp os) σ') (hl : looks σ'.tm slots = some vs) (hw : Wks (σ'.hp.take m) vs vs') (hrest : ∀ t ∈ ds, lookT rest t = none) (hids : ∀ t v, lookT rest t = some v → ∀ i ∈ idsV v, i < m)
    (hi : σ'.hp.length ≤ m ∨ idsLt m vs' (σ'.hp.take m)) (os' : List Bool) : Rel (X'.cut m) (headS nt (zipT slots vs' ++ rest) (σ'.hp.take m) os') a' := by
  have hH : X'.H = fun i => σ'.hp[i]? := h.heap
  have hlt : ∀ i, X'.H i ≠ none → i < σ'.hp.length := fun i hi => by
    rw [hH] at hi
    by_cases hlt : i < σ'.hp.length
    · exact hlt
    · exact absurd (List.getElem?_eq_none (by omega)) hi
  refine ⟨h.hrel.cut fun i b him hb j hj => ?_, ?_, h.size.trans hk.nt, h.defers, fun t v hv => ?_, fun t s w v hv => by cases hv⟩
  · rcases hi with hi | hi
    · exact Nat.lt_of_lt_of_le (hlt j (BRel.has (h.hrel.blk i b hb) j hj)) hi
    · refine hi.2 b ?_ j hj
      rw [hH] at hb
      exact List.mem_of_getElem? (i := i) (by rw [List.getElem?_take, if_pos him]; exact hb)
  · funext i
    simp only [Ctx.cut, hH, headS, St.H, List.getElem?_take]
  · simp only [headS] at hv
    rw [lookT_app] at hv
    split at hv
    · rename_i v' hz
      injection hv with hv; subst hv
      obtain ⟨u, hu1, hu2⟩ := zip_look slots vs vs' hl hw hz
      have h1 := hu2 X' _ h.hrel (fun i b hb => by
        rw [List.getElem?_take] at hb
        split at hb
        · rw [hH]; exact hb
        · cases hb) (h.tm t u hu1)
      refine VR.cut _ _ (fun i hi' => ?_) h1
      rcases hi with hi | hi
      · exact Nat.lt_of_lt_of_le (hlt i (VR.has _ _ h1 i hi')) hi
      · refine hi.1 v' ?_ i hi'
        exact zip_mem slots vs' hz
    · have htd : t ∉ ds := fun ht => by rw [hrest t ht] at hv; cases hv
      have h0 := hk.tm t htd
      simp only [headS] at h0
      rw [lookT_app, lookT_zip_none _ _ (fun hh => htd (hss t hh))] at h0
      simp only at h0
      exact VR.cut _ _ (hids t v hv) (h.tm t v (h0.trans hv))

theorem rounds_ok (E : Env P) {f nt m : Nat} {body : Code} (hlc : LCok P (E.lcs f) body) (hkp : LCkeep (E.lcs f) body) {slots : List Nat} (hss : ∀ t ∈ slots, t ∈ dstsC body) {known : List (Nat × AV)} {S : Type} {vals : S → List AV} {hp : S → List AB} {Inv : S → Prop} {mu : S → Nat} {e : XE} {outs : List AV} {hpo : List AB}
    (step : ∀ s, Inv s → OneRound E f body nt m slots known vals hp Inv mu e outs hpo s) {rest : List (Nat × AV)} (hrest : ∀ t ∈ dstsC body, lookT (known ++ rest) t = none) (hids : ∀ t v, lookT (known ++ rest) t = some v → ∀ i ∈ idsV v, i < m)
    {X0 : Ctx} (hm : ∀ i, m ≤ i → X0.H i = none) : ∀ (n : Nat) (s : S), mu s < n → Inv s → ∀ {X : Ctx} {a : Act} {Q : Exit → Act → World → Prop}, X0.le X → Rel X (headS nt (zipT slots (vals s) ++ (known ++ rest)) (hp s) []) a →
      (∀ X' a', X0.le X' → Rel X' (headS nt (zipT slots outs ++ (known ++ rest)) hpo []) a' → Q e.out a' X'.w) → LoopAt P body Q a X.w
  | 0, s, h, _ => by omega
  | n + 1, s, hn, hI => by
    rename_i X a Q
    intro h0 hr hq
    obtain ⟨os, e', vs, hview⟩ := step s hI
    obtain ⟨σ', hex, hl, hcs, hq', hqs, hend⟩ := hview rest
    refine LoopAt.round ?_
    have hr' : Rel X (headS nt (zipT slots (vals s) ++ (known ++ rest)) (hp s) os) a := hr.cs os []
    have hk := exec_keeps body hkp hex
    refine exec_sim E.hm E.hkp E.kx_ok E.kk_ok body hlc hex hcs hr' fun X' a' hle hrel => ?_
    have hsoft : ∃ (X2 : Ctx) (σ2 : St), X'.le X2 ∧ X2.w = X'.w ∧ Rel X2 σ2 a' ∧ Keeps (dstsC body) (headS nt (zipT slots (vals s) ++ (known ++ rest)) (hp s) os) σ2 ∧ looks σ2.tm slots = some vs ∧ σ2.hp.take m = hq' ∧ σ2.hp.length = σ'.hp.length := by
      rcases hqs with e | e
      · exact ⟨X', σ', .refl X', rfl, hrel, hk, hl, e.symm, rfl⟩
      · exact ⟨X'.soft m, { σ' with hp := softs m σ'.hp }, soft_le X' m, rfl, hrel.soft m, ⟨hk.nt, hk.spec, hk.tg, hk.tm⟩, hl, by rw [e]; exact softs_take m m σ'.hp, softs_len m σ'.hp⟩
    obtain ⟨X2, σ2, hle2, hw2, hrel2, hk2, hl2, htk2, hlen2⟩ := hsoft
    rw [← hlen2] at hend
    rw [← htk2] at hend
    rcases hend with ⟨rfl, s', hI', hmu, hw, htk, hi⟩ | ⟨rfl, hne, hw, htk, hi⟩
    · have := hrel2.head (m := m) (vs' := vals s') hss hk2 hl2 hw hrest hids (by rw [htk]; exact hi) []
      rw [htk] at this
      have := rounds_ok E hlc hkp hss step hrest hids hm n s' (by omega) hI' (X := X2.cut m) (cut_le ((h0.trans hle).trans hle2) hm) this hq
      exact hw2 ▸ this
    · have := hrel2.head (m := m) (vs' := outs) hss hk2 hl2 hw hrest hids (by rw [htk]; exact hi) []
      rw [htk] at this
      have := hq (X2.cut m) a' (cut_le ((h0.trans hle).trans hle2) hm) this
      have : Q e'.out a' X'.w := hw2 ▸ this
      cases e' with
      | normal => exact absurd rfl hne
      | exit i => exact this
      | ret => exact this

/-- From these slots and blocks at its head, at any rest, a loop comes to this. -/
def LoopOk (P : Program) (body : Code) (nt : Nat) (slots ro : List Nat) (vals rov : List AV) (hp : List AB) (e : XE) (outs : List AV) (hp' : List AB) : Prop :=
  ∀ X a rest, (∀ t ∈ dstsC body, lookT (zipT ro rov ++ rest) t = none) → Rel X (headS nt (zipT slots vals ++ (zipT ro rov ++ rest)) hp []) a →
    ∀ Q : Exit → Act → World → Prop, (∀ X' a', X.le X' → Rel X' (headS nt (zipT slots outs ++ (zipT ro rov ++ rest)) hp' []) a' → Q e.out a' X'.w) → LoopAt P body Q a X.w

theorem LoopOk.rounds (E : Env P) {f i nt : Nat} {body : Code} (hb : theLoop P f i = some body) {slots ro : List Nat} (hss : (slots.all fun t => isIn t (dstsC body)) = true) {rov : List AV} {S : Type} (vals : S → List AV) (hp : S → List AB) (Inv : S → Prop) (mu : S → Nat) {e : XE} {outs : List AV} {hpo : List AB} (s : S) (hI : Inv s)
    (step : ∀ s, Inv s → OneRound E f body nt (hp s).length slots (zipT ro rov) vals hp Inv mu e outs hpo s) (hlen : ∀ s', Inv s' → (hp s').length = (hp s).length) : LoopOk P body nt slots ro (vals s) rov (hp s) e outs hpo := by
  intro X a rest hrest hr Q hq
  obtain ⟨fn, c, hf, hbd, hmem, hfi⟩ := theLoop_mem hb
  have hlc : LCok P (E.lcs f) body := fun b hb' => E.hlc f fn c hf hbd b (loopsOf_trans c hmem hb')
  have hkp : LCkeep (E.lcs f) body := fun b hb' => E.hkeep f fn c hf hbd b (loopsOf_trans c hmem hb')
  have hss' : ∀ t ∈ slots, t ∈ dstsC body := fun t ht => isIn_iff.1 (List.all_eq_true.1 hss t ht)
  have hH : X.H = fun i => (hp s)[i]? := hr.heap
  refine rounds_ok E (m := (hp s).length) hlc hkp hss' (fun s' hs' => by have := step s' hs'; rw [hlen s' hs'] at this; exact this) hrest (fun t v hv i hi => ?_) (fun i hi => by rw [hH]; exact List.getElem?_eq_none hi) (mu s + 1) s (by omega) hI (.refl X) hr hq
  have ht : t ∉ dstsC body := fun ht => by rw [hrest t ht] at hv; cases hv
  have h1 := hr.tm t v (by simp only [headS]; rw [lookT_app, lookT_zip_none _ _ (fun hh => ht (hss' t hh))]; exact hv)
  have h2 := VR.has _ _ h1 i hi
  rw [hH] at h2
  by_cases hlt : i < (hp s).length
  · exact hlt
  · exact absurd (List.getElem?_eq_none (by omega)) h2

/-- Less may be known at the head, more behind the loop. -/
theorem LoopOk.weaken {body : Code} {nt : Nat} {slots ro : List Nat} {vals vals' rov rov' : List AV} {hp : List AB} {e : XE} {outs : List AV} {hp' : List AB} (hw : Wks hp vals vals') (hr : Wks hp rov rov')
    (h : LoopOk P body nt slots ro vals' rov' hp e outs hp') (hro : rov = rov' ∨ True := .inr trivial) : ∀ X a rest, (∀ t ∈ dstsC body, lookT (zipT ro rov' ++ rest) t = none) → Rel X (headS nt (zipT slots vals ++ (zipT ro rov ++ rest)) hp []) a →
    ∀ Q : Exit → Act → World → Prop, (∀ X' a', X.le X' → Rel X' (headS nt (zipT slots outs ++ (zipT ro rov' ++ rest)) hp' []) a' → Q e.out a' X'.w) → LoopAt P body Q a X.w := by
  intro X a rest hrest hrel Q hq
  have key : ∀ (ss : List Nat) (us us' : List AV) (r r' : List (Nat × AV)), Wks hp us us' → (∀ t v, lookT r' t = some v → ∃ u, lookT r t = some u ∧ Wk hp u v) → ∀ t v, lookT (zipT ss us' ++ r') t = some v → ∃ u, lookT (zipT ss us ++ r) t = some u ∧ Wk hp u v := by
    intro ss
    induction ss with
    | nil => intro us us' r r' _ hh t v hv; cases us <;> cases us' <;> exact hh t v hv
    | cons s ss ih =>
      intro us us' r r' hw hh t v hv
      cases us with
      | nil => cases us' with
        | nil => exact hh t v hv
        | cons _ _ => cases hw
      | cons b bs => cases us' with
        | nil => cases hw
        | cons b' bs' =>
          simp only [zipT, List.cons_append, lookT] at hv ⊢
          by_cases e : s.beq t = true
          · rw [if_pos e] at hv ⊢
            injection hv with hv; subst hv
            exact ⟨b, rfl, hw.1⟩
          · rw [if_neg e] at hv ⊢
            exact ih bs bs' r r' hw.2 hh t v hv
  refine h X a rest hrest ⟨hrel.hrel, hrel.heap, hrel.size, hrel.defers, fun t v hv => ?_, fun t s w v hv => by cases hv⟩ Q hq
  obtain ⟨u, h1, h2⟩ := key slots vals vals' _ _ hw (key ro rov rov' rest rest hr fun t v hv => ⟨v, hv, .refl⟩) t v hv
  exact h2 X _ hrel.hrel (fun i b hb => by rw [hrel.heap]; exact hb) (hrel.tm t u h1)

def mkLC (nt : Nat) (ds slots ro : List Nat) (fn : List AV → List AV → List AB → List Bool → Option ((XE × List AV × List AB) × List Bool × List Bool)) (σ : St) : Option (XE × St) :=
  if Nat.beq σ.nt nt then
    match looks σ.tm slots, looks σ.tm ro with
    | some vals, some rov => match fn vals rov σ.hp σ.os with
      | some ((e, outs, hp'), cs, os') => some (e, { σ with tm := zipT slots outs ++ stripT ds σ.tm, tg := [], hp := hp', os := os', cs := cs ++ σ.cs })
      | none => none
    | _, _ => none
  else none

theorem mkLC_keeps {nt : Nat} {ds slots ro : List Nat} {fn} {σ σ' : St} {e : XE} (hss : ∀ t ∈ slots, t ∈ ds) (h : mkLC nt ds slots ro fn σ = some (e, σ')) : Keeps ds σ σ' := by
  unfold mkLC at h
  split at h
  · split at h
    · split at h
      · simp only [Option.some.injEq, Prod.mk.injEq] at h
        obtain ⟨rfl, rfl⟩ := h
        refine ⟨rfl, rfl, fun _ => rfl, fun t ht => ?_⟩
        simp only
        rw [lookT_app, lookT_zip_none _ _ fun hh => ht (hss t hh)]
        simp only
        rw [lookT_strip, if_neg ht]
      · cases h
    · cases h
  · cases h

theorem looks_look {tm : List (Nat × AV)} {t : Nat} {v : AV} : ∀ (ss : List Nat) (vs : List AV), looks tm ss = some vs → lookT (zipT ss vs) t = some v → lookT tm t = some v
  | [], vs, _, h => by cases vs <;> cases h
  | s :: ss, vs, hl, h => by
    simp only [looks] at hl
    split at hl
    · rename_i u us h1 h2
      injection hl with hl; subst hl
      simp only [zipT, lookT] at h
      split at h
      · rename_i e
        simp only [Nat.beq_eq] at e; subst e
        injection h with h; subst h
        exact h1
      · exact looks_look ss us h2 h
    · cases hl

/-- A loop's contract more. -/
theorem mkLC_sim {nt : Nat} {body : Code} {slots ro : List Nat} {fn} (hss : ∀ t ∈ slots, t ∈ dstsC body) (hro : ∀ t ∈ ro, t ∉ dstsC body)
    (ok : ∀ vals rov hp os e outs hp' cs os', fn vals rov hp os = some ((e, outs, hp'), cs, os') → (∀ c ∈ cs, c = true) → LoopOk P body nt slots ro vals rov hp e outs hp') {σ σ' : St} {e : XE} (h : mkLC nt (dstsC body) slots ro fn σ = some (e, σ')) :
    (∃ cs, σ'.cs = cs ++ σ.cs) ∧ ((∀ c ∈ σ'.cs, c = true) → LoopSim P body σ e σ') := by
  unfold mkLC at h
  split at h
  · rename_i hnt
    simp only [Nat.beq_eq] at hnt
    split at h
    · rename_i vals rov hv hrv
      split at h
      · rename_i e0 outs hp' cs os' hfn
        simp only [Option.some.injEq, Prod.mk.injEq] at h
        obtain ⟨rfl, rfl⟩ := h
        refine ⟨⟨cs, rfl⟩, fun hc X a Q hrel hq => ?_⟩
        have hc' : ∀ c ∈ cs, c = true := fun c hcc => hc c (List.mem_append_left _ hcc)
        refine ok vals rov σ.hp σ.os e0 outs hp' cs os' hfn hc' X a (stripT (dstsC body) σ.tm) ?_ ?_ Q fun X' a' hle hr' => hq X' a' hle ?_
        · intro t ht
          rw [lookT_app, lookT_zip_none _ _ fun hh => hro t hh ht, lookT_strip, if_pos ht]
        · refine ⟨hrel.hrel, hrel.heap, by rw [hrel.size, hnt]; rfl, hrel.defers, fun t v hv' => ?_, fun t s w v hv' => by cases hv'⟩
          simp only [headS] at hv'
          rw [lookT_app] at hv'
          split at hv'
          · rename_i v' hz
            injection hv' with hv'; subst hv'
            exact hrel.tm t v' (looks_look slots vals hv hz)
          · rw [lookT_app] at hv'
            split at hv'
            · rename_i v' hz
              injection hv' with hv'; subst hv'
              exact hrel.tm t v' (looks_look ro rov hrv hz)
            · rw [lookT_strip] at hv'
              split at hv'
              · cases hv'
              · exact hrel.tm t v hv'
        · refine ⟨hr'.hrel, hr'.heap, by rw [hr'.size, hnt]; rfl, hr'.defers, fun t v hv' => ?_, fun t s w v hv' => by cases hv'⟩
          simp only at hv'
          refine hr'.tm t v ?_
          simp only [headS]
          rw [lookT_app] at hv' ⊢
          split at hv'
          · exact hv'
          · rename_i hz
            rw [lookT_app]
            by_cases ht : t ∈ ro
            · rw [lookT_strip, if_neg (hro t ht)] at hv'
              have : lookT (zipT ro rov) t = some v := by
                clear hfn ok hr'
                induction ro generalizing rov with
                | nil => cases ht
                | cons s ss ih =>
                  simp only [looks] at hrv
                  split at hrv
                  · rename_i u us h1 h2
                    injection hrv with hrv; subst hrv
                    simp only [zipT, lookT]
                    by_cases hs : s = t
                    · subst hs
                      rw [h1] at hv'
                      injection hv' with hv'; subst hv'
                      simp
                    · have : Nat.beq s t = false := by
                        rw [Bool.eq_false_iff]; intro e; simp only [Nat.beq_eq] at e; exact hs e
                      simp only [this]
                      rcases List.mem_cons.1 ht with h' | h'
                      · exact absurd h'.symm hs
                      · exact ih (fun t ht => hro t (List.mem_cons_of_mem _ ht)) us h2 h'
                  · cases hrv
              rw [this]
            · rw [lookT_zip_none _ _ ht]; exact hv'
      · cases h
    · cases h
  · cases h

def addLC (lcs : Nat → LC) (f i : Nat) (lc : St → Option (XE × St)) : Nat → LC := fun g j σ =>
  if Nat.beq g f && Nat.beq j i then match lc σ with
    | some r => some r
    | none => lcs g j σ
  else lcs g j σ

def Env.addL (E : Env P) (f i : Nat) {body : Code} (hb : theLoop P f i = some body) (nt : Nat) (slots ro : List Nat) (chk : (slots.all (fun t => isIn t (dstsC body)) && ro.all fun t => !isIn t (dstsC body)) = true)
    (fn : List AV → List AV → List AB → List Bool → Option ((XE × List AV × List AB) × List Bool × List Bool))
    (ok : ∀ vals rov hp os e outs hp' cs os', fn vals rov hp os = some ((e, outs, hp'), cs, os') → (∀ c ∈ cs, c = true) → LoopOk P body nt slots ro vals rov hp e outs hp') : Env P :=
  have hss : ∀ t ∈ slots, t ∈ dstsC body := fun t ht => by
    simp only [Bool.and_eq_true, List.all_eq_true] at chk
    exact isIn_iff.1 (chk.1 t ht)
  have hro : ∀ t ∈ ro, t ∉ dstsC body := fun t ht hh => by
    simp only [Bool.and_eq_true, List.all_eq_true] at chk
    have := chk.2 t ht
    rw [isIn_iff.2 hh] at this; cases this
  { E with
    lcs := addLC E.lcs f i (mkLC nt (dstsC body) slots ro fn)
    hlc := fun g gn c hg hc b hbm j hj σ e σ' h => by
      unfold addLC at h
      split at h
      · rename_i hgj
        simp only [Bool.and_eq_true, Nat.beq_eq] at hgj
        obtain ⟨rfl, rfl⟩ := hgj
        split at h
        · rename_i r hr
          injection h with h; subst h
          have : b = body := theLoop_eq hb hg hc b hbm hj
          subst this
          exact mkLC_sim hss hro ok hr
        · exact E.hlc g gn c hg hc b hbm j hj σ e σ' h
      · exact E.hlc g gn c hg hc b hbm j hj σ e σ' h
    hkeep := fun g gn c hg hc b hbm j hj σ e σ' h => by
      unfold addLC at h
      split at h
      · rename_i hgj
        simp only [Bool.and_eq_true, Nat.beq_eq] at hgj
        obtain ⟨rfl, rfl⟩ := hgj
        split at h
        · rename_i r hr
          injection h with h; subst h
          have : b = body := theLoop_eq hb hg hc b hbm hj
          subst this
          exact mkLC_keeps hss hr
        · exact E.hkeep g gn c hg hc b hbm j hj σ e σ' h
      · exact E.hkeep g gn c hg hc b hbm j hj σ e σ' h }

/-! Slots that a loop only reads are taken as they are. -/
inductive RT where
  | one (t : CT) | sl (row : CT) | any
abbrev RT.den : RT → Type
  | .one t => t.den
  | .sl row => List row.den × SM
  | .any => AV
def RT.enc : (t : RT) → t.den → AV
  | .one t, v => .one (oneAC t v)
  | .sl row, v => .one (.sl row v.1 v.2)
  | .any, v => v
def RT.dec : (t : RT) → AV → Option t.den
  | .one (.int k), .one (.int k' n) => if (CT.int k).eqb (.int k') then some n else none
  | .one .bool, .one (.bool b) => some b
  | .one .str, .one (.str s) => some s
  | .sl row, .one (.sl row' l m) => if h : row'.eqb row = true then some (castL row' row h l, m) else none
  | .any, v => some v
  | _, _ => none
end
section
open Go Go.RowKit Go.ChangeShapes Go.WideShapes
variable {P : Program}

/-! ### A law's arguments, as rows -/

def ikBytes : IntKind → Nat
  | .i8 | .u8 => 1
  | .i16 | .u16 => 2
  | .i32 | .u32 => 4
  | .i64 | .u64 => 8
def upTo (o a : Nat) : Nat := (o + (a - 1)) / a * a
/-- Bytes and alignment of one that stands at an offset, behind others. -/
def CT.layF : CT → Nat → Nat → Nat × Nat
  | .int k, o, a => (upTo o (ikBytes k) + ikBytes k, max a (ikBytes k))
  | .bool, o, a => (o + 1, a)
  | .str, o, a => (upTo o 8 + 16, max a 8)
  | .sl _, o, a => (upTo o 8 + 24, max a 8)
  | .mdl _ _ _ _, o, a => (upTo o 8 + 8, max a 8)
  | .unit, o, a => (o, a)
  | .pair c cs, o, a =>
    let (s, al) := match c with
      | .pair _ _ => let r := c.layF 0 1; (upTo r.1 r.2, r.2)
      | _ => c.layF 0 1
    cs.layF (upTo o al + s) (max a al)
def CT.bytes (t : CT) : Nat := match t with
  | .pair _ _ => let r := t.layF 0 1; upTo r.1 r.2
  | _ => (t.layF 0 1).1

section
variable {H : Type} {enc : TypeId × Value → H} {w : World} {sp : Nat → Bool} {held : Bool}

end

section
variable {H : Type} {enc : TypeId × Value → H}
end

end
section
open Go Go.RowKit
variable {P : Program}

/-! ### Short words -/
abbrev cI : CT := .int .i64
abbrev cU : CT := .int .u64
abbrev vI (n : Int) : AV := .one (.int .i64 n)
abbrev vB (b : Bool) : AV := .one (.bool b)
abbrev vX : AV := .one .unk

theorem allT0 : ∀ c ∈ ([] : List Bool), c = true := fun c hc => by cases hc
theorem allT1 {a : Bool} (h : a = true) : ∀ c ∈ [a], c = true := fun c hc => by rcases List.mem_singleton.1 hc with rfl; exact h
theorem of_allTc {a : Bool} {l : List Bool} (h : ∀ c ∈ a :: l, c = true) : a = true ∧ ∀ c ∈ l, c = true := ⟨h _ (List.mem_cons_self ..), fun c hc => h c (List.mem_cons_of_mem _ hc)⟩
theorem wrap64 {n : Int} (h1 : -9223372036854775808 ≤ n) (h2 : n ≤ 9223372036854775807) : IntKind.i64.wrap n = n := by
  simp only [IntKind.wrap, IntKind.signed, IntKind.bits, Bool.true_and]
  split <;> simp_all <;> omega
theorem wrapU64 {n : Int} (h1 : 0 ≤ n) (h2 : n < 18446744073709551616) : IntKind.u64.wrap n = n := by
  simp only [IntKind.wrap, IntKind.signed, IntKind.bits, Bool.false_and]
  simp; omega
theorem inB_of {n : Int} {len : Nat} (h1 : 0 ≤ n) (h2 : n < len) : inB n len = true := by simp [inB]; omega
theorem dT {p : Prop} [Decidable p] (h : p) : (decide p == true) = true := by simp [h]
theorem dF {p : Prop} [Decidable p] (h : ¬ p) : (decide p == false) = true := by simp [h]
/-- It came to true, and all that was taken for granted is so. -/
def cameT (o : Option (AV × List AB × List Bool)) : Bool :=
  match o with
  | some (.one (.bool b), _, cs) => b && cs.all (fun c => c)
  | _ => false
theorem cameT_spec {o : Option (AV × List AB × List Bool)} (h : cameT o = true) : ∃ hp cs, o = some (vB true, hp, cs) ∧ ∀ c ∈ cs, c = true := by
  unfold cameT at h
  split at h
  · rename_i b hp cs
    simp only [Bool.and_eq_true, List.all_eq_true] at h
    obtain ⟨rfl, h⟩ := h
    exact ⟨hp, cs, rfl, h⟩
  · cases h
theorem Env.closedT (E : Env P) {f : Nat} (h : cameT (E.run f [] [] []) = true) (W : World) : Calls P f #[] W fun e w' => e = .returned (.bool true) ∧ Below W.heap.size W w' := by
  obtain ⟨hp, cs, hr, hcs⟩ := cameT_spec h
  exact E.closed hr hcs rfl W
/-! ### What is known of arguments -/
end
section
open Go Go.RowKit
variable {P : Program}

/-! ### A call that sees a map and the cell that holds it, and nothing else of the caller's blocks -/

/-- Only the first two blocks are lent. -/
def two (X : Ctx) : Ctx := { φ := X.φ, ca := X.ca, fr := fun _ => none, tl := fun _ => False, H := fun k => if k < 2 then X.H k else none, w := X.w, w0 := X.w, lent := fun k => k = X.φ 0 ∨ k = X.φ 1, old := X.IC }

section
variable {kt vt : CT} {ka va : Bool} {l l' : List (kt.den × vt.den)}

end

end
end Go.Eng
