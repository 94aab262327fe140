import Derived.Below
import Derived.ChangeSame
import Derived.Test.YthdgoefjkfafkaaGreatDoorEngU
set_option linter.unusedVariables false
namespace Go.Eng
section
open Go Go.RowKit
variable {P : Program}

/-- What a function hands back. -/
def resV (P : Program) (σ : St) : ResultVar → Option AV
  | .tmp t => σ.look [] t
  | .cell a t => match σ.look [] a with
    | some (.one (.ptr i off)) => aload P t σ.H (.one (.ptr i off))
    | _ => none

def toP : AV → Option (Bool × List AC)
  | .one c => some (false, [c])
  | .agg cs => some (true, cs)
  | .tup _ => none
  | .val _ => none
  | .gd _ _ _ => none
  | .alt _ => none
  | .clo _ _ => none

def toPs : List AV → Option (List (Bool × List AC))
  | [] => some []
  | v :: r => match toP v, toPs r with
    | some p, some l => some (p :: l)
    | _, _ => none

def resVs (P : Program) (σ : St) : List ResultVar → Option (List AV)
  | [] => some []
  | v :: r => match resV P σ v, resVs P σ r with
    | some p, some l => some (p :: l)
    | _, _ => none

def resA (P : Program) (σ : St) (l : List ResultVar) : Option AV :=
  match resVs P σ l with
  | some [v] => some v
  | some vs => (toPs vs).map .tup
  | none => none

def resRun (tmps : Array Value) : ResultVar → Sem Value := fun
    | .tmp t => pure (tmps.getD t undef)
    | .cell a t => do loadVar t (← asAddr (tmps.getD a undef))

theorem resV_ok {X : Ctx} {σ : St} {a : Act} (h : Rel X σ a) {v : ResultVar} {r : AV} (hv : resV P σ v = some r) : ∃ val, (resRun a.tmps v).run P X.w = .ok val X.w ∧ VR X r val := by
  have nil : Holds a [] := fun g hg => by cases hg
  cases v with
  | tmp t => exact ⟨_, by simp only [resRun, Sem.run_pure], h.look nil hv⟩
  | cell s t =>
    simp only [resV] at hv
    split at hv
    · rename_i i off hl
      have hp := h.look nil hl
      rw [← h.heap] at hv
      obtain ⟨val, h1, h2⟩ := aload_ok h.hrel hp hv
      obtain ⟨_, e⟩ := hp
      refine ⟨val, ?_, h2⟩
      rw [e] at h1
      simp only [resRun, e, asAddr, Sem.run_bind, Sem.run_pure, Result.andThen_ok]
      simpa only [Instr.loadAt, Instr.sureAddr, Sem.run_bind, Sem.run_pure, Result.andThen_ok] using h1
    · cases hv

theorem resVs_ok {X : Ctx} {σ : St} {a : Act} (h : Rel X σ a) : ∀ {l : List ResultVar} {rs : List AV}, resVs P σ l = some rs → ∃ vs, (l.mapM (resRun a.tmps)).run P X.w = .ok vs X.w ∧ PW (VR X) rs vs
  | [], rs, hr => by
    simp only [resVs, Option.some.injEq] at hr
    subst hr
    exact ⟨[], by simp [Sem.run_pure], PW.nil⟩
  | v :: l, rs, hr => by
    simp only [resVs] at hr
    split at hr
    · rename_i p q h1 h2
      injection hr with hr; subst hr
      obtain ⟨val, g1, g2⟩ := resV_ok h h1
      obtain ⟨vs, g3, g4⟩ := resVs_ok h h2
      refine ⟨val :: vs, ?_, PW.cons g2 g4⟩
      simp only [List.mapM_cons, Sem.run_bind, g1, Result.andThen_ok, g3, Sem.run_pure]
    · cases hr

theorem toP_rel {X : Ctx} {v : AV} {p : Bool × List AC} (h : toP v = some p) {val : Value} (hv : VR X v val) : VRp X p val := by
  cases v with
  | one c => simp only [toP, Option.some.injEq] at h; subst h; exact ⟨c, rfl, hv⟩
  | agg cs => simp only [toP, Option.some.injEq] at h; subst h; exact hv
  | tup _ => cases h
  | val _ => cases h
  | gd _ _ => cases h
  | alt _ => cases h
  | clo _ _ => cases h

theorem toPs_rel {X : Ctx} : ∀ {l : List AV} {ps : List (Bool × List AC)}, toPs l = some ps → ∀ {vs : List Value}, PW (VR X) l vs → PW (VRp X) ps vs
  | [], ps, h, vs, hv => by
    simp only [toPs, Option.some.injEq] at h
    subst h
    have : vs = [] := List.eq_nil_of_length_eq_zero hv.1.symm
    subst this; exact PW.nil
  | v :: l, ps, h, vs, hv => by
    simp only [toPs] at h
    split at h
    · rename_i p q h1 h2
      injection h with h; subst h
      cases vs with
      | nil => have := hv.1; simp at this
      | cons y ys => exact PW.cons (toP_rel h1 (hv.2 0 v y rfl rfl)) (toPs_rel h2 ⟨by have := hv.1; simpa using this, fun j c z hc hz => hv.2 (j + 1) c z (by simpa using hc) (by simpa using hz)⟩)
    · cases h

theorem resA_ok {X : Ctx} {σ : St} {a : Act} (h : Rel X σ a) {fn : Func} {r : AV} (hr : resA P σ fn.results.toList = some r) : ∃ val, (results fn a.tmps).run P X.w = .ok val X.w ∧ VR X r val := by
  unfold resA at hr
  have hrun : ∀ vs, (fn.results.toList.mapM (resRun a.tmps)).run P X.w = .ok vs X.w → (results fn a.tmps).run P X.w = .ok (if h : vs.toArray.size = 1 then vs.toArray[0] else .tuple vs.toArray) X.w := by
    intro vs hvs
    show (do let vs ← fn.results.mapM (resRun a.tmps); pure (if h : vs.size = 1 then vs[0] else .tuple vs) : Sem Value).run P X.w = _
    rw [Array.mapM_eq_mapM_toList]
    simp only [Sem.run_bind, map_eq_pure_bind, hvs, Result.andThen_ok, Sem.run_pure]
  split at hr
  · rename_i v hv
    injection hr with hr; subst hr
    obtain ⟨vs, h1, h2⟩ := resVs_ok h hv
    have hl := h2.1
    match vs, hl with
    | [y], _ => exact ⟨y, hrun [y] h1, h2.2 0 v y rfl rfl⟩
  · rename_i vs hne hv
    cases hp : toPs vs with
    | none => rw [hp] at hr; cases hr
    | some ps =>
      rw [hp] at hr
      simp only [Option.map_some, Option.some.injEq] at hr
      subst hr
      obtain ⟨ys, h1, h2⟩ := resVs_ok h hv
      have hn : ¬ ys.toArray.size = 1 := fun e => by
        have hl := h2.1
        simp only [List.size_toArray] at e
        rw [e] at hl
        match vs, hl with
        | [v], _ => exact hne v rfl
      refine ⟨.tuple ys.toArray, ?_, ys.toArray, rfl, by simpa using toPs_rel hp h2⟩
      rw [hrun ys h1, dif_neg hn]
  · cases hr

def paramsT : Nat → List AV → List (Nat × AV)
  | _, [] => []
  | i, v :: r => (i, v) :: paramsT (i + 1) r

theorem paramsT_look : ∀ (l : List AV) (i t : Nat) (v : AV), lookT (paramsT i l) t = some v → i ≤ t ∧ l[t - i]? = some v
  | [], i, t, v, h => by cases h
  | x :: l, i, t, v, h => by
    simp only [paramsT, lookT] at h
    split at h
    · rename_i e
      simp only [Nat.beq_eq] at e
      subst e
      injection h with h; subst h
      exact ⟨Nat.le_refl _, by simp⟩
    · obtain ⟨h1, h2⟩ := paramsT_look l (i + 1) t v h
      refine ⟨by omega, ?_⟩
      rw [show t - i = (t - (i + 1)) + 1 by omega]
      simpa using h2

def st0 (sp : Bool) (fn : Func) (args : List AV) (hp : List AB) (os : List Bool) : St :=
  { tm := paramsT 0 args, tg := [], hp, os, cs := [], nt := args.length + (fn.ntmps - args.length), spec := sp }

/-- A function's body, from its arguments. -/
def runF (P : Program) (kp : KP) (kq : KX) (kh : KH) (lc : LC) (n : Nat) (fn : Func) (c : Code) (args : List AV) (hp : List AB) (os : List Bool) : Option (AV × List AB × List Bool × List Bool) :=
  match exec P kp kq kh lc n c (st0 kq.sp fn args hp os) with
  | some (.exit _, _) => none
  | some (.normal, σ) => match resA P σ fn.results.toList with
    | some r => some (r, σ.hp, σ.cs, σ.os)
    | none => none
  | some (.ret, σ) => match resA P σ fn.results.toList with
    | some r => some (r, σ.hp, σ.cs, σ.os)
    | none => none
  | none => none

theorem Rel.st0 {X : Ctx} (hX : HRel X) {hp : List AB} (hH : X.H = fun i => hp[i]?) {fn : Func} {args : List AV} {vs : List Value} (hv : PW (VR X) args vs) (os : List Bool) (sp : Bool) :
    Rel X (st0 sp fn args hp os) { tmps := vs.toArray ++ Array.replicate (fn.ntmps - vs.toArray.size) undef, defers := [] } where
  hrel := hX
  heap := hH
  size := by simp only [Eng.st0, hv.1]; simp
  defers := rfl
  tm t v hl := by
    obtain ⟨_, h⟩ := paramsT_look args 0 t v hl
    simp only [Nat.sub_zero] at h
    obtain ⟨y, h1, h2⟩ := hv.at_ h
    have : ({ tmps := vs.toArray ++ Array.replicate (fn.ntmps - vs.toArray.size) undef, defers := [] } : Act).tmps.getD t undef = y := by
      have hlt := (List.getElem?_eq_some_iff.1 h1).1
      simp only [Array.getD_eq_getD_getElem?]
      rw [Array.getElem?_append_left (by simpa using hlt)]
      simp only [List.getElem?_toArray, h1, Option.getD_some]
    rw [this]; exact h2
  tg t s w v hl := by cases hl

theorem runF_sim (hm : P.follows .mixedOrders = true) {kp : KP} {kq : KX} {kh : KH} (hkp : KPok P kp) (hkq : KXok P kq) (hkh : KHok P kh) {lc : LC} {n f : Nat} {fn : Func} {c : Code} (hf : P.funcs[f]? = some fn) (hb : fn.body = some c) (hlc : LCok P lc c)
    {args : List AV} {hp : List AB} {os : List Bool} {r : AV} {hp' : List AB} {cs os' : List Bool} (h : runF P kp kq kh lc n fn c args hp os = some (r, hp', cs, os')) (hcs : ∀ c ∈ cs, c = true)
    {X : Ctx} (hX : HRel X) (hH : X.H = fun i => hp[i]?) {vs : List Value} (hv : PW (VR X) args vs) :
    Calls P f vs.toArray X.w fun e w' => ∃ val X', e = .returned val ∧ X'.w = w' ∧ X.le X' ∧ HRel X' ∧ (X'.H = fun i => hp'[i]?) ∧ VR X' r val := by
  refine calls_of_wp hf hb ?_
  unfold runF at h
  have fin : ∀ (e : XE) (σ : St), exec P kp kq kh lc n c (st0 kq.sp fn args hp os) = some (e, σ) → (e = .normal ∨ e = .ret) → resA P σ fn.results.toList = some r → σ.hp = hp' → σ.cs = cs →
      c.wp P (bodyPost P fn fun e w' => ∃ val X', e = .returned val ∧ X'.w = w' ∧ X.le X' ∧ HRel X' ∧ (X'.H = fun i => hp'[i]?) ∧ VR X' r val) { tmps := vs.toArray ++ Array.replicate (fn.ntmps - vs.toArray.size) undef, defers := [] } X.w := by
    intro e σ he hee hr hhp hcc
    refine exec_sim hm hkp hkq hkh c hlc he (by rw [hcc]; exact hcs) (Rel.st0 hX hH hv os kq.sp) fun X' a' hle hr' => ?_
    obtain ⟨val, h1, h2⟩ := resA_ok hr' hr
    have hpost : a'.defers = [] ∧ ∃ v, (results fn a'.tmps).run P X'.w = .ok v X'.w ∧ (∃ val X'', Ending.returned v = .returned val ∧ X''.w = X'.w ∧ X.le X'' ∧ HRel X'' ∧ (X''.H = fun i => hp'[i]?) ∧ VR X'' r val) :=
      ⟨hr'.defers, val, h1, val, X', rfl, rfl, hle, hr'.hrel, by rw [hr'.heap, ← hhp]; rfl, h2⟩
    rcases hee with rfl | rfl <;> exact hpost
  split at h
  · cases h
  · rename_i σ he
    split at h
    · rename_i r' hr
      simp only [Option.some.injEq, Prod.mk.injEq] at h
      obtain ⟨rfl, rfl, rfl, rfl⟩ := h
      exact fin _ σ he (.inl rfl) hr rfl rfl
    · cases h
  · rename_i σ he
    split at h
    · rename_i r' hr
      simp only [Option.some.injEq, Prod.mk.injEq] at h
      obtain ⟨rfl, rfl, rfl, rfl⟩ := h
      exact fin _ σ he (.inr rfl) hr rfl rfl
    · cases h
  · cases h

def LCsOk (P : Program) (lcs : Nat → LC) : Prop := ∀ (f : Nat) (fn : Func) (c : Code), P.funcs[f]? = some fn → fn.body = some c → LCok P (lcs f) c

end
section
open Go Go.RowKit
variable {P : Program}

/-- A value without blocks of its own. -/
def wkC : AC → Option AC
  | .unk => some .unk
  | .int k n => some (.int k n)
  | .bool b => some (.bool b)
  | .str s => some (.str s)
  | .sl row l .shared => some (.sl row l .shared)
  | .sl row l .full => some (.sl row l .full)
  | .sl row l .nn => some (.sl row l .nn)
  | .sl row l (.own _ _) => some (.sl row l .shared)
  | .nils => some .nils
  | .nilz => some .nilz
  | .nilp => some .nilp
  | .nilf => some .nilf
  | .nilm => some .nilm
  | .elp row l i off => some (.elp row l i off)
  | .fn f [] => some (.fn f [])
  | .mdl kt vt ka va l => some (.mdl kt vt ka va l)
  | _ => none

def wkCs : List AC → Option (List AC)
  | [] => some []
  | c :: r => match wkC c, wkCs r with
    | some x, some l => some (x :: l)
    | _, _ => none

def wkPs : List (Bool × List AC) → Option (List (Bool × List AC))
  | [] => some []
  | (b, c) :: r => match wkCs c, wkPs r with
    | some x, some l => some ((b, x) :: l)
    | _, _ => none

def wkA : AV → Option AV
  | .one c => (wkC c).map .one
  | .agg cs => (wkCs cs).map .agg
  | .tup ps => (wkPs ps).map .tup
  | .val y => some (.val y)
  | .gd b g cs => if cs.all bareC then some (.gd b g cs) else none
  | .alt _ => none
  | .clo _ _ => none

def wkAs : List AV → Option (List AV)
  | [] => some []
  | c :: r => match wkA c, wkAs r with
    | some x, some l => some (x :: l)
    | _, _ => none

section
variable {X Z : Ctx} (hIC : ∀ a y, X.IC a y → Z.IC a y)
include hIC

theorem wkC_rel {c c' : AC} (h : wkC c = some c') {v : Value} (hv : VRc X c v) : VRc Z c' v := by
  have rows : ∀ {row : CT} {l : List row.den} {A : Option Addr} {n : Nat}, (n = 0 ∨ ∃ b o, A = some ⟨b, o, none⟩ ∧ ∀ j x, l[j]? = some x → RelT row x (fun k y => X.IC ⟨b, o + j * row.width + k, none⟩ y) X.IC) →
      (n = 0 ∨ ∃ b o, A = some (⟨b, o, none⟩ : Addr) ∧ ∀ j x, l[j]? = some x → RelT row x (fun k y => Z.IC ⟨b, o + j * row.width + k, none⟩ y) Z.IC) :=
    fun h => h.imp id fun ⟨b, o, e, hh⟩ => ⟨b, o, e, fun j x hj => RelT.mono _ x (fun _ _ hk => hIC _ _ hk) hIC (hh j x hj)⟩
  unfold wkC at h
  split at h <;> first | (cases h; done) | (injection h with h; subst h)
  case h_5 => obtain ⟨A, n, cap, h1, h2, h3, h4, h5, _⟩ := hv; exact ⟨A, n, cap, h1, h2, h3, h4, rows h5, trivial⟩
  case h_6 => obtain ⟨A, n, cap, h1, h2, h3, h4, h5, h6⟩ := hv; exact ⟨A, n, cap, h1, h2, h3, h4, rows h5, h6⟩
  case h_7 => obtain ⟨A, n, cap, h1, h2, h3, h4, h5, h6⟩ := hv; exact ⟨A, n, cap, h1, h2, h3, h4, rows h5, h6⟩
  case h_8 => obtain ⟨A, n, cap, h1, h2, h3, h4, h5, _⟩ := hv; exact ⟨A, n, cap, h1, h2, h3, h4, rows h5, trivial⟩
  case h_14 => obtain ⟨hi, b, o, e, hh⟩ := hv; exact ⟨hi, b, o, e, fun x hx => RelT.mono _ x (fun _ _ hk => hIC _ _ hk) hIC (hh x hx)⟩
  case h_15 => obtain ⟨c, h1, h2, h3⟩ := hv; exact ⟨c, h1, h2, fun j p hj => by simp at hj⟩
  case h_16 => obtain ⟨b, m, y, h1, h2, h3, h4⟩ := hv; exact ⟨b, m, y, h1, hIC _ _ h2, hIC _ _ h3, h4⟩
  all_goals exact hv

theorem wkCs_rel : ∀ {cs cs' : List AC}, wkCs cs = some cs' → ∀ {vs : List Value}, PW (VRc X) cs vs → PW (VRc Z) cs' vs
  | [], cs', h, vs, hv => by
    simp only [wkCs, Option.some.injEq] at h
    subst h
    have : vs = [] := List.eq_nil_of_length_eq_zero hv.1.symm
    subst this; exact PW.nil
  | c :: l, cs', h, vs, hv => by
    simp only [wkCs] at h
    split at h
    · rename_i p q h1 h2
      injection h with h; subst h
      cases vs with
      | nil => have := hv.1; simp at this
      | cons y ys => exact PW.cons (wkC_rel hIC h1 (hv.2 0 c y rfl rfl)) (wkCs_rel h2 ⟨by have := hv.1; simpa using this, fun j d z hd hz => hv.2 (j + 1) d z (by simpa using hd) (by simpa using hz)⟩)
    · cases h

omit hIC in
theorem wkCs_one {c : AC} {cs' : List AC} (h : wkCs [c] = some cs') : ∃ c', cs' = [c'] ∧ wkC c = some c' := by
  simp only [wkCs] at h
  split at h
  · rename_i p q h1 h2
    injection h with h; subst h
    injection h2 with h2; subst h2
    exact ⟨p, rfl, h1⟩
  · cases h

theorem wkP_rel {b : Bool} {cs cs' : List AC} (h : wkCs cs = some cs') {v : Value} (hv : VRp X (b, cs) v) : VRp Z (b, cs') v := by
  cases b with
  | true => obtain ⟨ar, e, hp⟩ := hv; exact ⟨ar, e, wkCs_rel hIC h hp⟩
  | false =>
    obtain ⟨c, rfl, hc⟩ := hv
    obtain ⟨c', rfl, h1⟩ := wkCs_one h
    exact ⟨c', rfl, wkC_rel hIC h1 hc⟩

theorem wkPs_rel : ∀ {cs cs' : List (Bool × List AC)}, wkPs cs = some cs' → ∀ {vs : List Value}, PW (VRp X) cs vs → PW (VRp Z) cs' vs
  | [], cs', h, vs, hv => by
    simp only [wkPs, Option.some.injEq] at h
    subst h
    have : vs = [] := List.eq_nil_of_length_eq_zero hv.1.symm
    subst this; exact PW.nil
  | (b, c) :: l, cs', h, vs, hv => by
    simp only [wkPs] at h
    split at h
    · rename_i p q h1 h2
      injection h with h; subst h
      cases vs with
      | nil => have := hv.1; simp at this
      | cons y ys => exact PW.cons (wkP_rel hIC h1 (hv.2 0 (b, c) y rfl rfl)) (wkPs_rel h2 ⟨by have := hv.1; simpa using this, fun j d z hd hz => hv.2 (j + 1) d z (by simpa using hd) (by simpa using hz)⟩)
    · cases h

theorem wkA_rel {c c' : AV} (h : wkA c = some c') {v : Value} (hv : VR X c v) : VR Z c' v := by
  cases c with
  | one c =>
    simp only [wkA] at h
    cases hc : wkC c with
    | none => rw [hc] at h; cases h
    | some x =>
      rw [hc] at h
      simp only [Option.map_some, Option.some.injEq] at h
      subst h
      exact wkC_rel hIC hc hv
  | agg cs =>
    simp only [wkA] at h
    cases hc : wkCs cs with
    | none => rw [hc] at h; cases h
    | some x =>
      rw [hc] at h
      simp only [Option.map_some, Option.some.injEq] at h
      subst h
      exact wkP_rel hIC (b := true) hc hv
  | tup ps =>
    simp only [wkA] at h
    cases hc : wkPs ps with
    | none => rw [hc] at h; cases h
    | some x =>
      rw [hc] at h
      simp only [Option.map_some, Option.some.injEq] at h
      subst h
      obtain ⟨arr, e, hp⟩ := hv
      exact ⟨arr, e, wkPs_rel hIC hc hp⟩
  | alt _ => cases h
  | clo _ _ => cases h
  | gd b g cs =>
    simp only [wkA] at h
    split at h
    · rename_i hb
      injection h with h; subst h
      exact bareA_rel (c := .gd b g cs) hb hv
    · cases h
  | val y =>
    simp only [wkA, Option.some.injEq] at h
    subst h
    exact hv

theorem wkAs_rel : ∀ {cs cs' : List AV}, wkAs cs = some cs' → ∀ {vs : List Value}, PW (VR X) cs vs → PW (VR Z) cs' vs
  | [], cs', h, vs, hv => by
    simp only [wkAs, Option.some.injEq] at h
    subst h
    have : vs = [] := List.eq_nil_of_length_eq_zero hv.1.symm
    subst this; exact PW.nil
  | c :: l, cs', h, vs, hv => by
    simp only [wkAs] at h
    split at h
    · rename_i p q h1 h2
      injection h with h; subst h
      cases vs with
      | nil => have := hv.1; simp at this
      | cons y ys => exact PW.cons (wkA_rel hIC h1 (hv.2 0 c y rfl rfl)) (wkAs_rel h2 ⟨by have := hv.1; simpa using this, fun j d z hd hz => hv.2 (j + 1) d z (by simpa using hd) (by simpa using hz)⟩)
    · cases h
end

/-- A function that touches no block of the caller's: from these arguments it comes to this. -/
def PureCall (P : Program) (f : Nat) (args : List AV) (r : AV) : Prop :=
  (∃ fn, P.funcs[f]? = some fn ∧ (fn.name == "runtime.NumGoroutine") = false ∧ fn.body.isNone = false) ∧
  ∀ X vs, HRel X → PW (VR X) args vs → Calls P f vs.toArray X.w fun e w' => ∃ val X', e = .returned val ∧ X'.w = w' ∧ X.le X' ∧ HRel X' ∧ X'.H = X.H ∧ VR X' r val

theorem KPok.of (P : Program) {kp : KP} (h : ∀ f args os r cs os', kp f args os = some (r, cs, os') → (∀ c ∈ cs, c = true) → PureCall P f args r) : KPok P kp :=
  fun f args os r cs os' hk hc X vs hX hv => ⟨(h f args os r cs os' hk hc).1, (h f args os r cs os' hk hc).2 X vs hX hv⟩

/-- Nothing is known but that what lies there now, and is promised, stays. -/
def fresh (X : Ctx) : Ctx := { φ := fun _ => 0, fr := fun _ => none, tl := fun _ => False, H := fun _ => none, w := X.w, w0 := X.w, lent := fun _ => False, old := X.IC }

theorem fresh_IC {X : Ctx} {a : Addr} {y : Value} (h : X.IC a y) : (fresh X).IC a y :=
  ⟨.inr (.inr h), h.2.1, h.2.2.1, fun i b hb => (by cases hb), fun e he => (by cases he), h.2.2.2.2.2⟩

theorem HRel.fresh (X : Ctx) : HRel (fresh X) where
  inj i j b c h := by cases h
  injt i j h := h.elim
  injm i b j h := by cases h
  place i b h := by cases h
  placet i h := h.elim
  lt i b h := by cases h
  ltt i h := h.elim
  tlH i h := h.elim
  frlt b e h := by cases h
  blk i b h := by cases h
  below k _ _ := rfl
  os := rfl
  tape := rfl
  output := rfl
  size := Nat.le_refl _
  old a y h := fresh_IC h

theorem below_of {X Y' : Ctx} (hle : (fresh X).le Y') (hY : HRel Y') : Below X.w.heap.size X.w Y'.w := by
  have h0 : Y'.w0 = X.w := hle.w0
  have hl : Y'.lent = fun _ => False := hle.lent
  refine ⟨?_, ?_, ?_, ?_, ?_⟩
  · have := hY.os; rw [h0] at this; exact this
  · have := hY.tape; rw [h0] at this; exact this
  · have := hY.output; rw [h0] at this; exact this
  · have := hY.size; rw [h0] at this; exact this
  · intro k hk; have := hY.below k (by rw [h0]; exact hk) (by rw [hl]; exact id); rw [h0] at this; exact this

theorem back_IC {X Y' : Ctx} (hX : HRel X) (hle : (fresh X).le Y') {a : Addr} {y : Value} (h : Y'.IC a y) : (X.withW Y'.w).IC a y := by
  obtain ⟨h1, h2, h3, _, _, h6⟩ := h
  rw [hle.w0, hle.lent, hle.oldeq] at h1
  rcases h1 with h1 | h1 | h1
  · have h1' : X.w.heap.size ≤ a.block := h1
    refine ⟨.inl (Nat.le_trans hX.size h1'), h2, h3, fun i b hb hl => ?_, fun e he => ?_, h6⟩
    · have := hX.ltl i b hb (AB.loc_of hl)
      show X.φ i ≠ _
      omega
    · have := hX.frlt _ _ he
      omega
  · exact h1.elim
  · exact ⟨h1.1, h2, h3, h1.2.2.2.1, h1.2.2.2.2.1, h6⟩

def kxN (k : KP) (sp : Bool := false) : KX := ⟨k, klN, fun _ => false, sp, knN, fun _ => 0⟩
theorem kxN_ok {k : KP} {sp : Bool} (h : KPok P k) : KXok P (kxN k sp) := ⟨h, klN_ok, knN_ok⟩
end
section
open Go Go.RowKit Go.WideShapes Go.ChangeShapes
variable {P : Program}

/-- Nothing but the world, of which all cells are promised. -/
def topC (W : World) : Ctx := freshAll { φ := fun _ => 0, fr := fun _ => none, tl := fun _ => False, H := fun _ => none, w := W, w0 := W, lent := fun _ => False, old := fun _ _ => False }

theorem HRel.topC (W : World) : HRel (topC W) := HRel.freshAll _

theorem below_top {W : World} {Y : Ctx} (hle : (topC W).le Y) (hY : HRel Y) : Below W.heap.size W Y.w := by
  have h0 : Y.w0 = W := hle.w0
  have hl : Y.lent = fun _ => False := hle.lent
  refine ⟨?_, ?_, ?_, ?_, ?_⟩
  · have := hY.os; rw [h0] at this; exact this
  · have := hY.tape; rw [h0] at this; exact this
  · have := hY.output; rw [h0] at this; exact this
  · have := hY.size; rw [h0] at this; exact this
  · intro k hk; have := hY.below k (by rw [h0]; exact hk) (by rw [hl]; exact id); rw [h0] at this; exact this

def kp0 : KP := fun _ _ _ => none
def lcs0 : Nat → LC := fun _ _ _ => none
theorem kp0_ok : KPok P kp0 := fun f args os r cs os' h => by cases h
theorem lcs0_ok : LCsOk P lcs0 := fun f fn c _ _ body _ i _ σ e σ' h => by cases h

section
variable {H : Type} {enc : TypeId × Value → H}
/-- What a row asks behind the call, where the world is known by what lay there before alone. -/
theorem post_of_below {f : Func} {s : ChangeSpec} {apart fresh handsOn again : Bool} {W W' : World} {args : Array Value} {v : Value} {ds gs : List (DataW H)} {before pa pv : List MemPlace}
    (hW : DataW.Whole enc P f.params.toList s.vars apart W args.toList ds gs before)
    (hres : ∀ (b : Nat) (sp : Nat → Bool) (hd : Bool), DataW.TrodAll enc P W' b sp hd f.resultTypes.toList (v.resultList f.resultTypes.size) (s.fn H (ds ++ gs)).results [])
    (hargs : ∀ sp : Nat → Bool, (∀ p ∈ before, sp p.block = true) → DataW.TrodAll enc P W' 0 sp true f.params.toList args.toList (s.fn H (ds ++ gs)).args pa)
    (hvars : ∀ sp : Nat → Bool, (∀ p ∈ before, sp p.block = true) → DataW.TrodVars enc P W' sp s.vars (s.fn H (ds ++ gs)).vars pv)
    (hps : before = pa ++ pv) (hb : Below W.heap.size W W')
    (hok : ∀ (j : Nat) (t : TypeId) (r : Value), f.resultTypes[j]? = some t → (v.resultList f.resultTypes.size)[j]? = some r → Value.okWide P W' .any 0 t r) :
    s.post enc P f apart fresh handsOn again W args v W' := by
  have hlt : ∀ p ∈ before, p.block < W.heap.size := fun p hp => hW.lt p hp
  have hold : ∀ p ∈ before, (fun b => decide (b < W.heap.size)) p.block = true := fun p hp => by simpa using hlt p hp
  refine ⟨ds, gs, before, [], pa, pv, hW, hres _ _ _, hargs _ hold, hvars _ hold, World.keptBut_mono (fun p hp => ⟨hp, ?_⟩) (hb.frame (· ∈ before)), fun _ => ?_⟩
  · rw [hps, List.mem_append] at hp
    exact Or.inr hp
  · obtain ⟨_, _, _, _, _, hz, hn⟩ := hW
    refine ⟨hok, _, _, ([] ++ pa) ++ pv, ⟨[] ++ pa, pv, trodAll_append (hargs _ (fun _ _ => rfl)) (hres _ _ _), hvars _ (fun _ _ => rfl), rfl, ?_, ?_⟩, ?_⟩
    · intro b off hp
      have hin : MemPlace.cell b off ∈ before := by rw [hps]; simpa using hp
      rw [hb.frozen (hlt _ hin)]
      exact hz b off hin
    · intro ha
      have := hn ha
      rw [hps] at this
      simpa using this
    · intro p hp _
      rw [hps]
      simpa using hp
end
end
section
open Go Go.RowKit
variable {P : Program}

/-! ### What a run leaves alone -/

def dstsO (ops : Array Oper) : List Nat := ops.toList.filterMap (·.dst)
def dstsC : Code → List Nat
  | .region _ ops _ => dstsO ops
  | .seq a b => dstsC a ++ dstsC b
  | .cond _ x y => dstsC x ++ dstsC y
  | .block _ c => dstsC c
  | .loop c => dstsC c
  | .scope c => dstsC c
  | _ => []

/-- What one state keeps of another, but for some slots. -/
structure Keeps (ds : List Nat) (σ σ' : St) : Prop where
  nt : σ'.nt = σ.nt
  spec : σ'.spec = σ.spec
  tg : σ.tg = [] → σ'.tg = []
  tm : ∀ t, t ∉ ds → lookT σ'.tm t = lookT σ.tm t

theorem Keeps.refl (ds : List Nat) (σ : St) : Keeps ds σ σ := ⟨rfl, rfl, id, fun _ _ => rfl⟩
theorem Keeps.trans {ds : List Nat} {σ σ' σ'' : St} (h : Keeps ds σ σ') (k : Keeps ds σ' σ'') : Keeps ds σ σ'' :=
  ⟨k.nt.trans h.nt, k.spec.trans h.spec, fun e => k.tg (h.tg e), fun t ht => (k.tm t ht).trans (h.tm t ht)⟩
theorem Keeps.mono {ds ds' : List Nat} {σ σ' : St} (h : Keeps ds σ σ') (hs : ∀ t ∈ ds, t ∈ ds') : Keeps ds' σ σ' :=
  ⟨h.nt, h.spec, h.tg, fun t ht => h.tm t fun hh => ht (hs t hh)⟩
theorem Keeps.of {ds : List Nat} {σ σ' : St} {hp : List AB} {os cs : List Bool} (h : Keeps ds { σ with hp := hp, os := os, cs := cs } σ') : Keeps ds σ σ' := ⟨h.nt, h.spec, h.tg, h.tm⟩
theorem Keeps.of2 {ds : List Nat} {σ σ' : St} {os cs : List Bool} (h : Keeps ds { σ with os := os, cs := cs } σ') : Keeps ds σ σ' := ⟨h.nt, h.spec, h.tg, h.tm⟩

theorem put_keeps {σ σ' : St} {d : Option Nat} {v : AV} (h : σ.put d v = some σ') : Keeps d.toList σ σ' := by
  cases d with
  | none => simp only [St.put, Option.some.injEq] at h; subst h; exact .refl _ _
  | some d =>
    simp only [St.put] at h
    split at h
    · injection h with h; subst h
      refine ⟨rfl, rfl, fun e => by simp [e, dropTag], fun t ht => ?_⟩
      have : Nat.beq d t = false := by
        rw [Bool.eq_false_iff]
        intro e; simp only [Nat.beq_eq] at e; subst e; exact ht (by simp)
      simp only [lookT, this]
      rfl
    · cases h

theorem runO_keeps {kp : KP} {kh : KH} {o : Oper} {chain : List (Nat × Bool)} {σ σ' : St} (hr : runO P kp kh o chain σ = some σ') : Keeps o.dst.toList σ σ' := by
  unfold runO at hr
  split at hr
  · split at hr
    · exact (put_keeps hr).of2
    · split at hr
      · split at hr
        split at hr
        · exact (put_keeps hr).of2
        · cases hr
      · cases hr
  · split at hr
    · split at hr
      · exact (put_keeps hr).of2
      · split at hr
        · exact (put_keeps hr).of
        · cases hr
    · cases hr
  · split at hr
    · split at hr
      · exact (put_keeps hr).of
      · cases hr
    · cases hr

theorem stepOp_keeps {kp : KP} {kh : KH} {ops : Array Oper} {o : Oper} {σ σ' : St} (hr : stepOp P kp kh ops o σ = some σ') : Keeps o.dst.toList σ σ' := by
  unfold stepOp at hr
  split at hr
  · exact runO_keeps hr
  · split at hr
    · cases hr
    · split at hr
      · rename_i σ1 hsp
        split at hsp
        · obtain ⟨g, ga, c, cs, _, _, _, hput⟩ := specStep_some hsp
          injection hr with hr; subst hr
          exact (put_keeps hput).of2
        · cases hsp
      · split at hr
        · split at hr
          · exact (runO_keeps hr).of2
          · exact (put_keeps hr).of2
        · split at hr
          split at hr
          · exact (runO_keeps hr).of2
          · exact (put_keeps hr).of2
        · exact put_keeps hr
        · cases hr

theorem opsRun_keeps {kp : KP} {kh : KH} {ops : Array Oper} : ∀ (l : List Nat) {σ σ' : St}, opsRun P kp kh ops l σ = some σ' → Keeps (dstsO ops) σ σ'
  | [], σ, σ', hr => by
    simp only [opsRun, Option.some.injEq] at hr
    subst hr
    exact .refl _ _
  | i :: r, σ, σ', hr => by
    simp only [opsRun] at hr
    split at hr
    · exact opsRun_keeps r hr
    · rename_i o ho
      split at hr
      · rename_i σ1 hs
        refine ((stepOp_keeps hs).mono fun t ht => ?_).trans (opsRun_keeps r hr)
        unfold dstsO
        rw [List.mem_filterMap]
        exact ⟨o, Array.mem_toList_iff.2 (Array.mem_of_getElem? ho), by simpa using ht⟩
      · cases hr

theorem drec_dst {kp : KX} {ops : Array Oper} {o : Oper} {nt : Nat} {T : Nat → Option AV} {H : Nat → Option AB} {nid : Nat} {os : List Bool} {r : DRec} {cs' os' : List Bool} (hd : drec P kp ops o nt T H nid os = some (r, cs', os')) : r.dst = o.dst := by
  unfold drec at hd
  split at hd
  · split at hd
    · split at hd
      · rename_i d k hp
        simp only [Option.some.injEq, Prod.mk.injEq] at hd
        obtain ⟨rfl, rfl, rfl⟩ := hd
        split at hp
        · obtain ⟨x, y, z, r, _, _, rfl⟩ := pickRow_some hp
          rfl
        · cases hp
      · exact (recOf_nid hd).2.1
    · split at hd
      · cases hd
      · split at hd
        · rename_i d k hp
          simp only [Option.some.injEq, Prod.mk.injEq] at hd
          obtain ⟨rfl, rfl, rfl⟩ := hd
          split at hp
          · obtain ⟨g, ga, c, _, _, _, rfl⟩ := specRow_some hp
            rfl
          · cases hp
        · split at hd
          · split at hd
            split at hd
            · split at hd
              · rename_i h1
                simp only [Option.some.injEq, Prod.mk.injEq] at hd
                rw [← hd.1]; exact (recOf_nid h1).2.1
              · cases hd
            · simp only [Option.some.injEq, Prod.mk.injEq] at hd
              rw [← hd.1]
          · injection hd with hd
            injection hd with hd _
            rw [← hd]
          · cases hd
  · cases hd

theorem Good.dst {kp : KX} {ops : Array Oper} {nt : Nat} {T0 : Nat → Option AV} {H0 : Nat → Option AB} {cs : List Bool} : ∀ {L : List DRec}, Good P kp ops nt T0 H0 cs L → ∀ r ∈ L, ∀ d, r.dst = some d → d ∈ dstsO ops
  | [], _, r, hr, _, _ => by cases hr
  | r0 :: L, hg, r, hr, d, hd => by
    obtain ⟨h1, o, nid, os, cs', os', ho, hdr, _, _⟩ := hg
    rcases List.mem_cons.1 hr with rfl | hr
    · unfold dstsO
      rw [List.mem_filterMap]
      exact ⟨o, Array.mem_toList_iff.2 (Array.mem_of_getElem? ho), by rw [← drec_dst hdr]; exact hd⟩
    · exact Good.dst h1 r hr d hd

theorem tmOf_keeps {tm : List (Nat × AV)} {t : Nat} : ∀ {L : List DRec}, (∀ r ∈ L, ∀ d, r.dst = some d → d ≠ t) → lookT (tmOf tm L) t = lookT tm t
  | [], _ => rfl
  | r :: L, h => by
    have ih := tmOf_keeps (tm := tm) (L := L) fun r hr => h r (List.mem_cons_of_mem _ hr)
    simp only [tmOf]
    split
    · rename_i d hd
      have : Nat.beq d t = false := by
        rw [Bool.eq_false_iff]
        intro e; simp only [Nat.beq_eq] at e; exact h r (List.mem_cons_self ..) d hd e
      simp only [lookT, this]
      exact ih
    · exact ih

theorem drawRun_keeps {kp : KP} {kq : KX} {kh : KH} {ops : Array Oper} {σ σ' : St} (hr : drawRun P kp kq kh ops σ = some σ') : Keeps (dstsO ops) σ σ' := by
  unfold drawRun at hr
  split at hr
  · split at hr
    · split at hr
      · rename_i L m os cs hd
        split at hr
        · obtain ⟨hg, _, c2, e⟩ := dpass_good (P := P) _ _ _ _ _ hd (fun j o h => by
            rw [List.getElem?_take] at h
            split at h
            · simpa using h
            · cases h) trivial
          have h2 := opsRun_keeps _ hr
          refine Keeps.trans (σ' := { σ with tm := tmOf σ.tm L, hp := hpOf (heapAt σ.H all L) (σ.hp.length + m) 0, os, cs }) ?_ h2
          exact ⟨rfl, rfl, fun e => e, fun t ht => tmOf_keeps fun r hr d hd e => ht (e ▸ hg.dst r hr d hd)⟩
        · cases hr
      · cases hr
    · cases hr
  · cases hr

/-- The loops of a piece of code leave alone what they don't write. -/
def LCkeep (lc : LC) (c : Code) : Prop := ∀ body ∈ loopsOf c, ∀ i, firstId body = some i → ∀ σ e σ', lc i σ = some (e, σ') → Keeps (dstsC body) σ σ'

theorem loopGo_keeps {ds : List Nat} {f : St → Option (XE × St)} (hf : ∀ σ e σ', f σ = some (e, σ') → Keeps ds σ σ') : ∀ (n : Nat) {σ e σ'}, loopGo f n σ = some (e, σ') → Keeps ds σ σ'
  | 0, _, _, _, h => by cases h
  | n + 1, σ, e, σ', h => by
    simp only [loopGo] at h
    split at h
    · rename_i σ1 h1
      exact (hf _ _ _ h1).trans (loopGo_keeps hf n h)
    · rename_i h1
      simp only [Option.some.injEq, Prod.mk.injEq] at h
      obtain ⟨rfl, rfl⟩ := h
      exact hf _ _ _ h1
    · rename_i h1
      simp only [Option.some.injEq, Prod.mk.injEq] at h
      obtain ⟨rfl, rfl⟩ := h
      exact hf _ _ _ h1
    · cases h

theorem exec_keeps {kp : KP} {kq : KX} {kh : KH} {lc : LC} {n : Nat} (c : Code) : LCkeep lc c → ∀ {σ e σ'}, exec P kp kq kh lc n c σ = some (e, σ') → Keeps (dstsC c) σ σ' := by
  induction c with
  | skip | label | ret | exit =>
    intro _ σ e σ' h
    simp only [exec, Option.some.injEq, Prod.mk.injEq] at h
    rw [← h.2]; exact .refl _ _
  | region id ops draw =>
    intro _ σ e σ' h
    cases draw
    · simp only [exec] at h
      split at h
      · rename_i h1
        simp only [Option.some.injEq, Prod.mk.injEq] at h
        rw [← h.2]; exact opsRun_keeps _ h1
      · cases h
    · simp only [exec] at h
      split at h
      · rename_i h1
        simp only [Option.some.injEq, Prod.mk.injEq] at h
        rw [← h.2]; exact drawRun_keeps h1
      · cases h
  | seq a b iha ihb =>
    intro hl σ e σ' h
    have hla : LCkeep lc a := fun body hb => hl body (List.mem_append_left _ hb)
    have hlb : LCkeep lc b := fun body hb => hl body (List.mem_append_right _ hb)
    have L : ∀ t ∈ dstsC a, t ∈ dstsC (.seq a b) := fun t ht => List.mem_append_left _ ht
    have R : ∀ t ∈ dstsC b, t ∈ dstsC (.seq a b) := fun t ht => List.mem_append_right _ ht
    simp only [exec] at h
    split at h
    · rename_i h1
      exact ((iha hla h1).mono L).trans ((ihb hlb h).mono R)
    · rename_i h1
      simp only [Option.some.injEq, Prod.mk.injEq] at h
      rw [← h.2]; exact (iha hla h1).mono L
    · rename_i h1
      simp only [Option.some.injEq, Prod.mk.injEq] at h
      rw [← h.2]; exact (iha hla h1).mono L
    · cases h
  | cond c x y ihx ihy =>
    intro hl σ e σ' h
    have hlx : LCkeep lc x := fun body hb => hl body (List.mem_append_left _ hb)
    have hly : LCkeep lc y := fun body hb => hl body (List.mem_append_right _ hb)
    have L : ∀ t ∈ dstsC x, t ∈ dstsC (.cond c x y) := fun t ht => List.mem_append_left _ ht
    have R : ∀ t ∈ dstsC y, t ∈ dstsC (.cond c x y) := fun t ht => List.mem_append_right _ ht
    simp only [exec] at h
    split at h
    · split at h
      · exact ((ihx hlx h).mono L).of2
      · exact ((ihy hly h).mono R).of2
    · cases h
  | block id c ih =>
    intro hl σ e σ' h
    simp only [exec] at h
    split at h
    · rename_i h1
      split at h <;>
      · simp only [Option.some.injEq, Prod.mk.injEq] at h
        rw [← h.2]; exact ih hl h1
    · rename_i h1
      simp only [Option.some.injEq, Prod.mk.injEq] at h
      rw [← h.2]; exact ih hl h1
    · rename_i h1
      simp only [Option.some.injEq, Prod.mk.injEq] at h
      rw [← h.2]; exact ih hl h1
    · cases h
  | loop c ih =>
    intro hl σ e σ' h
    simp only [exec] at h
    have hlc : LCkeep lc c := fun body hb => hl body (List.mem_cons_of_mem _ hb)
    split at h
    · rename_i r h1
      injection h with h; subst h
      unfold lcAt at h1
      split at h1
      · rename_i i hi
        exact hl c (List.mem_cons_self ..) i hi _ _ _ h1
      · cases h1
    · exact loopGo_keeps (fun σ e σ' h => ih hlc h) n h
  | scope c ih =>
    intro hl σ e σ' h
    exact ih hl h
  | rangeFunc f ps x y => intro _ σ e σ' h; cases h
  | goto l => intro _ σ e σ' h; cases h
  | refuse w => intro _ σ e σ' h; cases h
end
section
open Go Go.RowKit
variable {P : Program}

/-! ### Letting blocks go -/

def Ctx.cut (X : Ctx) (m : Nat) : Ctx := { X with H := fun i => if i < m then X.H i else none, tl := fun i => i < m ∧ X.tl i }

theorem cut_some {X : Ctx} {m i : Nat} {b : AB} (h : (X.cut m).H i = some b) : i < m ∧ X.H i = some b := by
  simp only [Ctx.cut] at h
  split at h
  · exact ⟨‹_›, h⟩
  · cases h
theorem some_cut {X : Ctx} {m i : Nat} {b : AB} (hi : i < m) (h : X.H i = some b) : (X.cut m).H i = some b := by
  simp only [Ctx.cut, if_pos hi]; exact h
theorem cut_IC {X : Ctx} {m : Nat} {a : Addr} {y : Value} (h : X.IC a y) : (X.cut m).IC a y :=
  ⟨h.1, h.2.1, h.2.2.1, fun i b hb hl => h.2.2.2.1 i b (cut_some hb).2 hl, h.2.2.2.2⟩
theorem cut_tok {X : Ctx} {m i : Nat} {e : TypeId} {p q : Nat} (hi : i < m) (h : X.TokOk i e p q) : (X.cut m).TokOk i e p q := ⟨⟨hi, h.1⟩, h.2⟩

theorem cut_le {X0 X : Ctx} {m : Nat} (h : X0.le X) (hm : ∀ i, m ≤ i → X0.H i = none) : X0.le (X.cut m) := by
  have lt : ∀ i b, X0.H i = some b → i < m := fun i b hb => by
    by_cases hi : i < m
    · exact hi
    · rw [hm i (by omega)] at hb; cases hb
  refine ⟨fun a y hh => cut_IC (h.ic a y hh), fun i b hb hl => ?_, fun i row l hb => ?_, fun i hb => some_cut (lt i _ hb) (h.dead i hb), fun i b hb hl => h.ca i b hb hl, fun i t v hb => ?_, h.w0, h.lent, h.oldeq, h.drawn⟩
  · obtain ⟨⟨b', e, hl'⟩, hφ⟩ := h.loc i b hb hl
    exact ⟨⟨b', some_cut (lt i b hb) e, hl'⟩, hφ⟩
  · rcases h.arr i row l hb with ⟨l', e, hl⟩ | e
    · exact .inl ⟨l', some_cut (lt i _ hb) e, hl⟩
    · exact .inr (some_cut (lt i _ hb) e)
  · obtain ⟨v', e, hle, hh⟩ := h.tok i t v hb
    exact ⟨v', some_cut (lt i _ hb) e, hle, fun ev => ⟨(hh ev).1, fun e p q ht => cut_tok (lt i _ hb) ((hh ev).2 e p q ht)⟩⟩

def idsV : AV → List Nat
  | .one c => idsC c
  | .agg cs => cs.flatMap idsC
  | .tup vs => vs.flatMap fun p => p.2.flatMap idsC
  | .val _ => []
  | .gd _ _ cs => cs.flatMap idsC
  | .alt cs => cs.flatMap idsC
  | .clo _ c => idsC c
def idsB : AB → List Nat
  | .cells cs => cs.flatMap idsC
  | .iter j _ _ => [j]
  | .bld _ c => idsC c
  | .roc cs _ => cs.flatMap idsC
  | _ => []

theorem VRc.cut {X : Ctx} {m : Nat} : ∀ (c : AC) (v : Value), (∀ i ∈ idsC c, i < m) → VRc X c v → VRc (X.cut m) c v
  | .unk, _, _, _ => trivial
  | .int _ _, _, _, h => h
  | .bool _, _, _, h => h
  | .str _, _, _, h => h
  | .sl row l sm, v, hi, ⟨A, n, cap, e, hn, hc, hmx, hl, hs⟩ => by
    refine ⟨A, n, cap, e, hn, hc, hmx, hl.imp id fun ⟨b, o, hA, hh⟩ => ⟨b, o, hA, fun j x hj => RelT.mono row x (fun k y => cut_IC) (fun a y => cut_IC) (hh j x hj)⟩, ?_⟩
    cases sm with
    | shared => trivial
    | full => exact hs
    | nn => exact hs
    | «at» _ _ => exact hs
    | own i ver =>
      obtain ⟨e, v0, h1, h2, h3⟩ := hs
      have him : i < m := hi i (by simp [idsC])
      exact ⟨e, v0, some_cut him h1, h2, fun ev => (h3 ev).imp id fun ⟨ha, ht⟩ => ⟨ha, cut_tok him ht⟩⟩
  | .nils, _, _, h => h
  | .nilz, _, _, h => h
  | .nilp, _, _, h => h
  | .nilf, _, _, h => h
  | .nilm, _, _, h => h
  | .ptr i off, v, hi, ⟨⟨b, hb, hl⟩, e⟩ => ⟨⟨b, some_cut (hi i (by simp [idsC])) hb, hl⟩, e⟩
  | .pti i off n len, v, hi, ⟨⟨b, hb, hl⟩, e⟩ => ⟨⟨b, some_cut (hi i (by simp [idsC])) hb, hl⟩, e⟩
  | .elp row l i off, v, _, ⟨hlt, b, o, e, hh⟩ => ⟨hlt, b, o, e, fun x hx => RelT.mono row x (fun k y => cut_IC) (fun a y => cut_IC) (hh x hx)⟩
  | .bsl row i off len mn, v, hi, ⟨l, o, cap, hb, e⟩ => ⟨l, o, cap, hb.imp fun _ => some_cut (hi i (by simp [idsC])), e⟩
  | .csl i off len cap, v, hi, ⟨⟨b, hb, hl⟩, e⟩ => ⟨⟨b, some_cut (hi i (by simp [idsC])) hb, hl⟩, e⟩
  | .asl row i off len cap, v, hi, ⟨l, hb, e⟩ => ⟨l, hb.imp fun _ => some_cut (hi i (by simp [idsC])), e⟩
  | .ael row i j d, v, hi, ⟨l, hb, e⟩ => ⟨l, hb.imp fun _ => some_cut (hi i (by simp [idsC])), e⟩
  | .mth f i off, v, hi, ⟨⟨b, hb, hl⟩, e⟩ => ⟨⟨b, some_cut (hi i (by simp [idsC])) hb, hl⟩, e⟩
  | .mref i, v, hi, ⟨⟨b, hb, hl⟩, e⟩ => ⟨⟨b, some_cut (hi i (by simp [idsC])) hb, hl⟩, e⟩
  | .fn f caps, v, hi, ⟨c, e, hs, hh⟩ => ⟨c, e, hs, fun j p hp => by
      obtain ⟨⟨b, hb, hl⟩, e'⟩ := hh j p hp
      exact ⟨⟨b, some_cut (hi p.1 (by simp only [idsC]; exact List.mem_map_of_mem (List.mem_of_getElem? hp))) hb, hl⟩, e'⟩⟩
  | .mdl kt vt ka va l, v, _, ⟨b, m, y, h1, h2, h3, h4⟩ => ⟨b, m, y, h1, cut_IC h2, cut_IC h3, h4⟩

theorem VRc.has {X : Ctx} : ∀ (c : AC) (v : Value), VRc X c v → ∀ i ∈ idsC c, X.H i ≠ none
  | .sl row l (.own i ver), v, ⟨A, n, cap, e, hn, hc, hmx, hl, e', v0, h1, h2⟩, j, hj => by
    simp only [idsC, List.mem_singleton] at hj
    subst hj; rw [h1]; simp
  | .ptr i off, v, ⟨⟨b, hb, hl⟩, e⟩, j, hj => by simp only [idsC, List.mem_singleton] at hj; subst hj; rw [hb]; simp
  | .pti i off n len, v, ⟨⟨b, hb, hl⟩, e⟩, j, hj => by simp only [idsC, List.mem_singleton] at hj; subst hj; rw [hb]; simp
  | .bsl row i off len mn, v, ⟨l, o, cap, hb, e⟩, j, hj => by simp only [idsC, List.mem_singleton] at hj; subst hj; exact hb.has
  | .csl i off len cap, v, ⟨⟨b, hb, hl⟩, e⟩, j, hj => by simp only [idsC, List.mem_singleton] at hj; subst hj; rw [hb]; simp
  | .asl row i off len cap, v, ⟨l, hb, e⟩, j, hj => by simp only [idsC, List.mem_singleton] at hj; subst hj; exact hb.has
  | .ael row i j' d, v, ⟨l, hb, e⟩, j, hj => by simp only [idsC, List.mem_singleton] at hj; subst hj; exact hb.has
  | .mth f i off, v, ⟨⟨b, hb, hl⟩, e⟩, j, hj => by simp only [idsC, List.mem_singleton] at hj; subst hj; rw [hb]; simp
  | .mref i, v, ⟨⟨b, hb, hl⟩, e⟩, j, hj => by simp only [idsC, List.mem_singleton] at hj; subst hj; rw [hb]; simp
  | .fn f caps, v, ⟨c, e, hs, hh⟩, j, hj => by
    simp only [idsC, List.mem_map] at hj
    obtain ⟨p, hp, rfl⟩ := hj
    obtain ⟨k, hk⟩ := List.getElem?_of_mem hp
    obtain ⟨⟨b, hb, hl⟩, _⟩ := hh k p hk
    rw [hb]; simp
  | .unk, _, _, _, hj => by cases hj
  | .int _ _, _, _, _, hj => by cases hj
  | .bool _, _, _, _, hj => by cases hj
  | .str _, _, _, _, hj => by cases hj
  | .sl _ _ .shared, _, _, _, hj => by cases hj
  | .sl _ _ .full, _, _, _, hj => by cases hj
  | .sl _ _ .nn, _, _, _, hj => by cases hj
  | .sl _ _ (.at _ _), _, _, _, hj => by cases hj
  | .nils, _, _, _, hj => by cases hj
  | .nilz, _, _, _, hj => by cases hj
  | .nilp, _, _, _, hj => by cases hj
  | .nilf, _, _, _, hj => by cases hj
  | .nilm, _, _, _, hj => by cases hj
  | .elp _ _ _ _, _, _, _, hj => by cases hj
  | .mdl _ _ _ _ _, _, _, _, hj => by cases hj

theorem VRcs.cut {X : Ctx} {m : Nat} {cs : List AC} {vs : List Value} (hi : ∀ i ∈ cs.flatMap idsC, i < m) (h : PW (VRc X) cs vs) : PW (VRc (X.cut m)) cs vs :=
  ⟨h.1, fun j c y hc hy => VRc.cut c y (fun i hi' => hi i (List.mem_flatMap.2 ⟨c, List.mem_of_getElem? hc, hi'⟩)) (h.2 j c y hc hy)⟩
theorem VRp.cut {X : Ctx} {m : Nat} : ∀ (p : Bool × List AC) (v : Value), (∀ i ∈ p.2.flatMap idsC, i < m) → VRp X p v → VRp (X.cut m) p v
  | (true, cs), v, hi, ⟨ar, e, h⟩ => ⟨ar, e, VRcs.cut hi h⟩
  | (false, cs), v, hi, ⟨c, e, h⟩ => ⟨c, e, VRc.cut c v (fun i hi' => hi i (by subst e; simpa using hi')) h⟩
theorem VR.cut {X : Ctx} {m : Nat} : ∀ (c : AV) (v : Value), (∀ i ∈ idsV c, i < m) → VR X c v → VR (X.cut m) c v
  | .one c, v, hi, h => VRc.cut c v hi h
  | .agg cs, v, hi, h => VRp.cut (true, cs) v hi h
  | .tup vs, v, hi, ⟨arr, e, h⟩ => ⟨arr, e, h.1, fun j c y hc hy => VRp.cut c y (fun i hi' => hi i (List.mem_flatMap.2 ⟨c, List.mem_of_getElem? hc, hi'⟩)) (h.2 j c y hc hy)⟩
  | .val _, _, _, h => h
  | .gd _ g cs, v, hi, h => ⟨fun i hm => by
      have h1 := h.1 i hm
      have h2 := hi i hm
      show (if i < m then X.H i else none) ≠ none
      rw [if_pos h2]; exact h1, fun e => VRp.cut (g, cs) v hi (h.2.1 e), h.2.2⟩
  | .alt cs, v, hi, ⟨h1, c, hc, h2⟩ => ⟨fun i hm => by
      have h3 := h1 i hm
      have h4 := hi i hm
      show (if i < m then X.H i else none) ≠ none
      rw [if_pos h4]; exact h3, c, hc, VRc.cut c v (fun i hi' => hi i (List.mem_flatMap.2 ⟨c, hc, hi'⟩)) h2⟩
  | .clo f c, v, hi, ⟨a, y, e, h1, h2⟩ => ⟨a, y, e, cut_IC h1, VRc.cut c y hi h2⟩

theorem VRcs.has {X : Ctx} {cs : List AC} {vs : List Value} (h : PW (VRc X) cs vs) : ∀ i ∈ cs.flatMap idsC, X.H i ≠ none := fun i hi => by
  obtain ⟨c, hc, hi⟩ := List.mem_flatMap.1 hi
  obtain ⟨j, hj⟩ := List.getElem?_of_mem hc
  obtain ⟨y, _, hy⟩ := h.at_ hj
  exact VRc.has c y hy i hi
theorem VRp.has {X : Ctx} : ∀ (p : Bool × List AC) (v : Value), VRp X p v → ∀ i ∈ p.2.flatMap idsC, X.H i ≠ none
  | (true, cs), v, ⟨ar, e, h⟩, i, hi => VRcs.has h i hi
  | (false, cs), v, ⟨c, e, h⟩, i, hi => VRc.has c v h i (by subst e; simpa using hi)
theorem VR.has {X : Ctx} : ∀ (c : AV) (v : Value), VR X c v → ∀ i ∈ idsV c, X.H i ≠ none
  | .one c, v, h, i, hi => VRc.has c v h i hi
  | .agg cs, v, h, i, hi => VRp.has (true, cs) v h i hi
  | .tup vs, v, ⟨arr, e, h⟩, i, hi => by
    obtain ⟨c, hc, hi⟩ := List.mem_flatMap.1 hi
    obtain ⟨j, hj⟩ := List.getElem?_of_mem hc
    obtain ⟨y, _, hy⟩ := h.at_ hj
    exact VRp.has c y hy i hi
  | .val _, _, _, i, hi => by cases hi
  | .gd _ _ cs, _, h, i, hi => h.1 i hi
  | .alt _, _, h, i, hi => h.1 i hi
  | .clo _ c, _, ⟨_, y, _, _, h⟩, i, hi => VRc.has c y h i hi

theorem BufV.cut {X : Ctx} {m : Nat} : ∀ (c : AC) (v : Value), (∀ i ∈ idsC c, i < m) → BufV X c v → BufV (X.cut m) c v := fun c v hi hc => by
  cases c with
  | nils => exact hc
  | ptr j n =>
    obtain ⟨⟨b, h1, h2⟩, h3⟩ := hc
    exact ⟨⟨b, some_cut (hi j (by simp [idsC])) h1, h2⟩, h3⟩
  | _ => exact hc.elim
theorem BufV.has {X : Ctx} (c : AC) (v : Value) (h : BufV X c v) (j : Nat) (hj : j ∈ idsC c) : X.H j ≠ none := by
  cases c with
  | nils => cases hj
  | ptr k n =>
    obtain ⟨⟨b, h1, h2⟩, h3⟩ := h
    simp only [idsC, List.mem_singleton] at hj
    subst hj
    rw [h1]; exact fun e => by cases e
  | _ => exact h.elim
theorem BRel.cut {X : Ctx} {m i : Nat} {b : AB} (hi : ∀ j ∈ idsB b, j < m) (h : BRel X i b) : BRel (X.cut m) i b := by
  cases b with
  | cells cs =>
    obtain ⟨c, t, h1, h2⟩ := h
    exact ⟨c, t, h1, VRcs.cut hi h2⟩
  | arr row l =>
    obtain ⟨c, t, h1, h2, h3⟩ := h
    exact ⟨c, t, h1, h2, fun j x hj => RelT.mono row x (fun k y h => h) (fun a y => cut_IC) (h3 j x hj)⟩
  | tok e v => trivial
  | dead => trivial
  | bld t c =>
    obtain ⟨p, v, h1, h2, h3⟩ := h
    exact ⟨p, v, h1, h2, BufV.cut c v hi h3⟩
  | buf e s => exact h
  | roc cs o =>
    obtain ⟨h0, c, t, h1, h2⟩ := h
    exact ⟨h0, c, t, h1, VRcs.cut hi h2⟩
  | rom kt vt ka va l o =>
    obtain ⟨h0, hf, es, clock, h1, h2, h3⟩ := h
    refine ⟨h0, hf, es, clock, h1, h2, h3.1, h3.2.imp fun l' hl' => ⟨hl'.1, fun j p e hp he => ?_⟩⟩
    obtain ⟨g1, us, g2, g3, g4⟩ := hl'.2 j p e hp he
    exact ⟨g1, us, g2, g3, RelT.mono vt p.2 (fun k y h => h) (fun a y => cut_IC) g4⟩
  | obj o => exact h
  | iter j n f =>
    obtain ⟨⟨b, h1, h2⟩, h3⟩ := h
    exact ⟨⟨b, some_cut (hi j (by simp [idsB])) h1, h2⟩, h3⟩
  | mp kt vt ka va l =>
    obtain ⟨hf, es, clock, h1, h2, h3⟩ := h
    refine ⟨hf, es, clock, h1, h2, h3.1, h3.2.imp fun l' hl' => ⟨hl'.1, fun j p e hp he => ?_⟩⟩
    obtain ⟨g1, us, g2, g3, g4⟩ := hl'.2 j p e hp he
    exact ⟨g1, us, g2, g3, RelT.mono vt p.2 (fun k y h => h) (fun a y => cut_IC) g4⟩

theorem BRel.has {X : Ctx} {i : Nat} {b : AB} (h : BRel X i b) : ∀ j ∈ idsB b, X.H j ≠ none := fun j hj => by
  cases b with
  | cells cs =>
    obtain ⟨c, t, h1, h2⟩ := h
    exact VRcs.has h2 j hj
  | arr row l => cases hj
  | tok e v => cases hj
  | mp kt vt ka va l => cases hj
  | obj o => cases hj
  | rom _ _ _ _ _ _ => cases hj
  | roc cs o =>
    obtain ⟨_, c, t, h1, h2⟩ := h
    exact VRcs.has h2 j hj
  | dead => cases hj
  | bld t c =>
    obtain ⟨p, v, h1, h2, h3⟩ := h
    exact BufV.has c v h3 j hj
  | buf _ _ => cases hj
  | iter k n f =>
    obtain ⟨⟨b, h1, h2⟩, h3⟩ := h
    simp only [idsB, List.mem_singleton] at hj
    subst hj
    rw [h1]; simp

theorem HRel.cut {X : Ctx} (hX : HRel X) {m : Nat} (hb : ∀ i b, i < m → X.H i = some b → ∀ j ∈ idsB b, j < m) : HRel (X.cut m) where
  inj i j b c hi hj := hX.inj i j b c (cut_some hi).2 (cut_some hj).2
  injt i j hi hj := hX.injt i j hi.2 hj.2
  injm i b j hi hl hj := hX.injm i b j (cut_some hi).2 hl hj.2
  place i b hi := hX.place i b (cut_some hi).2
  placet i hi := hX.placet i hi.2
  lt i b hi := hX.lt i b (cut_some hi).2
  ltt i hi := hX.ltt i hi.2
  tlH i hi := by
    have := hX.tlH i hi.2
    simp only [Ctx.cut, if_pos hi.1]; exact this
  frlt := hX.frlt
  blk i b hi := BRel.cut (hb i b (cut_some hi).1 (cut_some hi).2) (hX.blk i b (cut_some hi).2)
  below := hX.below
  os := hX.os
  tape := hX.tape
  output := hX.output
  size := hX.size
  old a y h := cut_IC (hX.old a y h)

end
end Go.Eng
