import Derived.Test.YtolhkkoakneflaaEngU
set_option linter.unusedVariables false
namespace Go.Eng
open Go Go.RowKit
variable {P : Program}

/-- What a function hands back. -/
def resV (P : Program) (σ : St) : ResultVar → Option AV
  | .tmp t => σ.look [] t
  | .cell a t => match σ.look [] a with
    | some (.one (.ptr i off)) => aload P t σ.H (.one (.ptr i off))
    | _ => none

def toP : AV → Option (Bool × List AC)
  | .one c => some (false, [c])
  | .agg cs => some (true, cs)
  | .tup _ => none

def toPs : List AV → Option (List (Bool × List AC))
  | [] => some []
  | v :: r => match toP v, toPs r with
    | some p, some l => some (p :: l)
    | _, _ => none

def resVs (P : Program) (σ : St) : List ResultVar → Option (List AV)
  | [] => some []
  | v :: r => match resV P σ v, resVs P σ r with
    | some p, some l => some (p :: l)
    | _, _ => none

def resA (P : Program) (σ : St) (l : List ResultVar) : Option AV :=
  match resVs P σ l with
  | some [v] => some v
  | some vs => (toPs vs).map .tup
  | none => none

def resRun (tmps : Array Value) : ResultVar → Sem Value := fun
    | .tmp t => pure (tmps.getD t undef)
    | .cell a t => do loadVar t (← asAddr (tmps.getD a undef))

theorem resV_ok {X : Ctx} {σ : St} {a : Act} (h : Rel X σ a) {v : ResultVar} {r : AV} (hv : resV P σ v = some r) : ∃ val, (resRun a.tmps v).run P X.w = .ok val X.w ∧ VR X r val := by
  have nil : Holds a [] := fun g hg => by cases hg
  cases v with
  | tmp t => exact ⟨_, by simp only [resRun, Sem.run_pure], h.look nil hv⟩
  | cell s t =>
    simp only [resV] at hv
    split at hv
    · rename_i i off hl
      have hp := h.look nil hl
      rw [← h.heap] at hv
      obtain ⟨val, h1, h2⟩ := aload_ok h.hrel hp hv
      obtain ⟨_, e⟩ := hp
      refine ⟨val, ?_, h2⟩
      rw [e] at h1
      simp only [resRun, e, asAddr, Sem.run_bind, Sem.run_pure, Result.andThen_ok]
      simpa only [Instr.loadAt, Instr.sureAddr, Sem.run_bind, Sem.run_pure, Result.andThen_ok] using h1
    · cases hv

theorem resVs_ok {X : Ctx} {σ : St} {a : Act} (h : Rel X σ a) : ∀ {l : List ResultVar} {rs : List AV}, resVs P σ l = some rs → ∃ vs, (l.mapM (resRun a.tmps)).run P X.w = .ok vs X.w ∧ PW (VR X) rs vs
  | [], rs, hr => by
    simp only [resVs, Option.some.injEq] at hr
    subst hr
    exact ⟨[], by simp [Sem.run_pure], PW.nil⟩
  | v :: l, rs, hr => by
    simp only [resVs] at hr
    split at hr
    · rename_i p q h1 h2
      injection hr with hr; subst hr
      obtain ⟨val, g1, g2⟩ := resV_ok h h1
      obtain ⟨vs, g3, g4⟩ := resVs_ok h h2
      refine ⟨val :: vs, ?_, PW.cons g2 g4⟩
      simp only [List.mapM_cons, Sem.run_bind, g1, Result.andThen_ok, g3, Sem.run_pure]
    · cases hr

theorem toP_rel {X : Ctx} {v : AV} {p : Bool × List AC} (h : toP v = some p) {val : Value} (hv : VR X v val) : VRp X p val := by
  cases v with
  | one c => simp only [toP, Option.some.injEq] at h; subst h; exact ⟨c, rfl, hv⟩
  | agg cs => simp only [toP, Option.some.injEq] at h; subst h; exact hv
  | tup _ => cases h

theorem toPs_rel {X : Ctx} : ∀ {l : List AV} {ps : List (Bool × List AC)}, toPs l = some ps → ∀ {vs : List Value}, PW (VR X) l vs → PW (VRp X) ps vs
  | [], ps, h, vs, hv => by
    simp only [toPs, Option.some.injEq] at h
    subst h
    have : vs = [] := List.eq_nil_of_length_eq_zero hv.1.symm
    subst this; exact PW.nil
  | v :: l, ps, h, vs, hv => by
    simp only [toPs] at h
    split at h
    · rename_i p q h1 h2
      injection h with h; subst h
      cases vs with
      | nil => have := hv.1; simp at this
      | cons y ys => exact PW.cons (toP_rel h1 (hv.2 0 v y rfl rfl)) (toPs_rel h2 ⟨by have := hv.1; simpa using this, fun j c z hc hz => hv.2 (j + 1) c z (by simpa using hc) (by simpa using hz)⟩)
    · cases h

theorem resA_ok {X : Ctx} {σ : St} {a : Act} (h : Rel X σ a) {fn : Func} {r : AV} (hr : resA P σ fn.results.toList = some r) : ∃ val, (results fn a.tmps).run P X.w = .ok val X.w ∧ VR X r val := by
  unfold resA at hr
  have hrun : ∀ vs, (fn.results.toList.mapM (resRun a.tmps)).run P X.w = .ok vs X.w → (results fn a.tmps).run P X.w = .ok (if h : vs.toArray.size = 1 then vs.toArray[0] else .tuple vs.toArray) X.w := by
    intro vs hvs
    show (do let vs ← fn.results.mapM (resRun a.tmps); pure (if h : vs.size = 1 then vs[0] else .tuple vs) : Sem Value).run P X.w = _
    rw [Array.mapM_eq_mapM_toList]
    simp only [Sem.run_bind, map_eq_pure_bind, hvs, Result.andThen_ok, Sem.run_pure]
  split at hr
  · rename_i v hv
    injection hr with hr; subst hr
    obtain ⟨vs, h1, h2⟩ := resVs_ok h hv
    have hl := h2.1
    match vs, hl with
    | [y], _ => exact ⟨y, hrun [y] h1, h2.2 0 v y rfl rfl⟩
  · rename_i vs hne hv
    cases hp : toPs vs with
    | none => rw [hp] at hr; cases hr
    | some ps =>
      rw [hp] at hr
      simp only [Option.map_some, Option.some.injEq] at hr
      subst hr
      obtain ⟨ys, h1, h2⟩ := resVs_ok h hv
      have hn : ¬ ys.toArray.size = 1 := fun e => by
        have hl := h2.1
        simp only [List.size_toArray] at e
        rw [e] at hl
        match vs, hl with
        | [v], _ => exact hne v rfl
      refine ⟨.tuple ys.toArray, ?_, ys.toArray, rfl, by simpa using toPs_rel hp h2⟩
      rw [hrun ys h1, dif_neg hn]
  · cases hr

def paramsT : Nat → List AV → List (Nat × AV)
  | _, [] => []
  | i, v :: r => (i, v) :: paramsT (i + 1) r

theorem paramsT_look : ∀ (l : List AV) (i t : Nat) (v : AV), lookT (paramsT i l) t = some v → i ≤ t ∧ l[t - i]? = some v
  | [], i, t, v, h => by cases h
  | x :: l, i, t, v, h => by
    simp only [paramsT, lookT] at h
    split at h
    · rename_i e
      simp only [Nat.beq_eq] at e
      subst e
      injection h with h; subst h
      exact ⟨Nat.le_refl _, by simp⟩
    · obtain ⟨h1, h2⟩ := paramsT_look l (i + 1) t v h
      refine ⟨by omega, ?_⟩
      rw [show t - i = (t - (i + 1)) + 1 by omega]
      simpa using h2

def st0 (fn : Func) (args : List AV) (hp : List AB) (os : List Bool) : St :=
  { tm := paramsT 0 args, tg := [], hp, os, cs := [], nt := args.length + (fn.ntmps - args.length), spec := false }

/-- A function's body, from its arguments. -/
def runF (P : Program) (kp : KP) (kq : KX) (kh : KH) (lc : LC) (n : Nat) (fn : Func) (c : Code) (args : List AV) (hp : List AB) (os : List Bool) : Option (AV × List AB × List Bool × List Bool) :=
  match exec P kp kq kh lc n c (st0 fn args hp os) with
  | some (.exit _, _) => none
  | some (.normal, σ) => match resA P σ fn.results.toList with
    | some r => some (r, σ.hp, σ.cs, σ.os)
    | none => none
  | some (.ret, σ) => match resA P σ fn.results.toList with
    | some r => some (r, σ.hp, σ.cs, σ.os)
    | none => none
  | none => none

theorem Rel.st0 {X : Ctx} (hX : HRel X) {hp : List AB} (hH : X.H = fun i => hp[i]?) {fn : Func} {args : List AV} {vs : List Value} (hv : PW (VR X) args vs) (os : List Bool) :
    Rel X (st0 fn args hp os) { tmps := vs.toArray ++ Array.replicate (fn.ntmps - vs.toArray.size) undef, defers := [] } where
  hrel := hX
  heap := hH
  size := by simp only [Eng.st0, hv.1]; simp
  defers := rfl
  tm t v hl := by
    obtain ⟨_, h⟩ := paramsT_look args 0 t v hl
    simp only [Nat.sub_zero] at h
    obtain ⟨y, h1, h2⟩ := hv.at_ h
    have : ({ tmps := vs.toArray ++ Array.replicate (fn.ntmps - vs.toArray.size) undef, defers := [] } : Act).tmps.getD t undef = y := by
      have hlt := (List.getElem?_eq_some_iff.1 h1).1
      simp only [Array.getD_eq_getD_getElem?]
      rw [Array.getElem?_append_left (by simpa using hlt)]
      simp only [List.getElem?_toArray, h1, Option.getD_some]
    rw [this]; exact h2
  tg t s w v hl := by cases hl

theorem runF_sim (hm : P.follows .mixedOrders = true) {kp : KP} {kq : KX} {kh : KH} (hkp : KPok P kp) (hkq : KXok P kq) (hkh : KHok P kh) {lc : LC} {n f : Nat} {fn : Func} {c : Code} (hf : P.funcs[f]? = some fn) (hb : fn.body = some c) (hlc : LCok P lc c)
    {args : List AV} {hp : List AB} {os : List Bool} {r : AV} {hp' : List AB} {cs os' : List Bool} (h : runF P kp kq kh lc n fn c args hp os = some (r, hp', cs, os')) (hcs : ∀ c ∈ cs, c = true)
    {X : Ctx} (hX : HRel X) (hH : X.H = fun i => hp[i]?) {vs : List Value} (hv : PW (VR X) args vs) :
    Calls P f vs.toArray X.w fun e w' => ∃ val X', e = .returned val ∧ X'.w = w' ∧ X.le X' ∧ HRel X' ∧ (X'.H = fun i => hp'[i]?) ∧ VR X' r val := by
  refine calls_of_wp hf hb ?_
  unfold runF at h
  have fin : ∀ (e : XE) (σ : St), exec P kp kq kh lc n c (st0 fn args hp os) = some (e, σ) → (e = .normal ∨ e = .ret) → resA P σ fn.results.toList = some r → σ.hp = hp' → σ.cs = cs →
      c.wp P (bodyPost P fn fun e w' => ∃ val X', e = .returned val ∧ X'.w = w' ∧ X.le X' ∧ HRel X' ∧ (X'.H = fun i => hp'[i]?) ∧ VR X' r val) { tmps := vs.toArray ++ Array.replicate (fn.ntmps - vs.toArray.size) undef, defers := [] } X.w := by
    intro e σ he hee hr hhp hcc
    refine exec_sim hm hkp hkq hkh c hlc he (by rw [hcc]; exact hcs) (Rel.st0 hX hH hv os) fun X' a' hle hr' => ?_
    obtain ⟨val, h1, h2⟩ := resA_ok hr' hr
    have hpost : a'.defers = [] ∧ ∃ v, (results fn a'.tmps).run P X'.w = .ok v X'.w ∧ (∃ val X'', Ending.returned v = .returned val ∧ X''.w = X'.w ∧ X.le X'' ∧ HRel X'' ∧ (X''.H = fun i => hp'[i]?) ∧ VR X'' r val) :=
      ⟨hr'.defers, val, h1, val, X', rfl, rfl, hle, hr'.hrel, by rw [hr'.heap, ← hhp]; rfl, h2⟩
    rcases hee with rfl | rfl <;> exact hpost
  split at h
  · cases h
  · rename_i σ he
    split at h
    · rename_i r' hr
      simp only [Option.some.injEq, Prod.mk.injEq] at h
      obtain ⟨rfl, rfl, rfl, rfl⟩ := h
      exact fin _ σ he (.inl rfl) hr rfl rfl
    · cases h
  · rename_i σ he
    split at h
    · rename_i r' hr
      simp only [Option.some.injEq, Prod.mk.injEq] at h
      obtain ⟨rfl, rfl, rfl, rfl⟩ := h
      exact fin _ σ he (.inr rfl) hr rfl rfl
    · cases h
  · cases h

/-- Functions whose bodies are walked where they are called: their loops' contracts, and which may be so. -/
def khN (P : Program) (kp : KP) (kq : KX) (lcs : Nat → LC) (may : Nat → Bool) (rounds : Nat) : Nat → KH
  | 0 => fun _ _ _ _ => none
  | d + 1 => fun f args hp os => if may f then
      match P.funcs[f]? with
      | some fn => if fn.name == "runtime.NumGoroutine" then none else match fn.body with
        | some c => runF P kp kq (khN P kp kq lcs may rounds d) (lcs f) rounds fn c args hp os
        | none => none
      | none => none
    else none

def LCsOk (P : Program) (lcs : Nat → LC) : Prop := ∀ (f : Nat) (fn : Func) (c : Code), P.funcs[f]? = some fn → fn.body = some c → LCok P (lcs f) c

theorem khN_ok (hm : P.follows .mixedOrders = true) {kp : KP} {kq : KX} (hkp : KPok P kp) (hkq : KXok P kq) {lcs : Nat → LC} (hl : LCsOk P lcs) {may : Nat → Bool} {rounds : Nat} : ∀ d, KHok P (khN P kp kq lcs may rounds d)
  | 0 => fun _ _ _ _ _ _ _ _ h => by cases h
  | d + 1 => fun f args hp os r hp' cs os' h hcs X vs hX hH hv => by
    simp only [khN] at h
    split at h
    · split at h
      · rename_i fn hf
        split at h
        · cases h
        · rename_i hne
          split at h
          · rename_i c hb
            refine ⟨⟨fn, hf, by simpa using hne, by rw [hb]; rfl⟩, ?_⟩
            exact runF_sim hm hkp hkq (khN_ok hm hkp hkq hl d) hf hb (hl f fn c hf hb) h hcs hX hH hv
          · cases h
      · cases h
    · cases h
end Go.Eng
