import Derived.Test.YtolhkkoakneflaaEngM
set_option linter.unusedVariables false
namespace Go.Eng
open Go Go.RowKit
variable {P : Program}

theorem Rel.mono {X X' : Ctx} {σ : St} {a : Act} (h : Rel X σ a) (hle : X.le X') (hX : HRel X') {hp' : List AB} (hH : X'.H = fun i => hp'[i]?) : Rel X' { σ with hp := hp' } a where
  hrel := hX
  heap := hH
  size := h.size
  defers := h.defers
  tm t v hl := VR.mono hle _ _ (h.tm t v hl)
  tg t s w v hl := ⟨fun hb => VR.mono hle _ _ ((h.tg t s w v hl).1 hb), (h.tg t s w v hl).2⟩

theorem Rel.put {X : Ctx} {σ σ' : St} {a : Act} (h : Rel X σ a) {d : Option Nat} {v : AV} (hp : σ.put d v = some σ') {val : Value} (hv : VR X v val) : Rel X σ' (a.put d val) := by
  cases d with
  | none => simp only [St.put, Option.some.injEq] at hp; subst hp; exact h
  | some d =>
    simp only [St.put] at hp
    split at hp
    · rename_i hd
      simp only [Nat.blt_eq] at hd
      injection hp with hp; subst hp
      have hds : d < a.tmps.size := by rw [h.size]; exact hd
      refine ⟨h.hrel, h.heap, by simp [Act.put, h.size], h.defers, fun t u hl => ?_, fun t s w u hl => ?_⟩
      · rw [getD_put a d val t hds]
        simp only [lookT] at hl
        split at hl
        · rename_i e
          simp only [Nat.beq_eq] at e
          simp only [Option.some.injEq] at hl
          subst hl
          rw [if_pos e.symm]; exact hv
        · rename_i e
          simp only [Nat.beq_eq] at e
          rw [if_neg (fun h => e h.symm)]
          exact h.tm t u hl
      · obtain ⟨h1, h2, h3⟩ := mem_drop d σ.tg _ hl
        simp only at h2 h3
        rw [getD_put a d val t hds, getD_put a d val s hds, if_neg h2, if_neg h3]
        exact h.tg t s w u h1
    · cases hp

theorem Rel.putG {X : Ctx} {σ σ' : St} {a : Act} (h : Rel X σ a) {d : Option Nat} {g : Nat × Bool} {v : AV} (hp : σ.putG d g v = some σ') {val : Value}
    (hv : a.tmps.getD g.1 undef = .bool g.2 → VR X v val) (hu : a.tmps.getD g.1 undef ≠ .bool g.2 → val = undef) : Rel X σ' (a.put d val) := by
  cases d with
  | none => simp only [St.putG, Option.some.injEq] at hp; subst hp; exact h
  | some d =>
    simp only [St.putG] at hp
    split at hp
    · rename_i hd
      simp only [Bool.and_eq_true, Nat.blt_eq, Bool.not_eq_true'] at hd
      obtain ⟨hd, hb⟩ := hd
      have hne : d ≠ g.1 := fun e => by
        rw [e] at hb
        have := Nat.beq_refl g.1
        rw [hb] at this
        cases this
      injection hp with hp; subst hp
      have hds : d < a.tmps.size := by rw [h.size]; exact hd
      refine ⟨h.hrel, h.heap, by simp [Act.put, h.size], h.defers, fun t u hl => ?_, fun t s w u hl => ?_⟩
      · rw [getD_put a d val t hds]
        simp only [lookT] at hl
        split at hl
        · rename_i e
          simp only [Option.some.injEq] at hl
          subst hl
          trivial
        · rename_i e
          simp only [Nat.beq_eq] at e
          rw [if_neg (fun h => e h.symm)]
          exact h.tm t u hl
      · rcases List.mem_cons.1 hl with e | hl
        · simp only [Prod.mk.injEq] at e
          obtain ⟨rfl, rfl, rfl⟩ := e
          simp only at hne hv hu
          rw [getD_put a t val t hds, getD_put a t val s hds, if_pos rfl, if_neg (fun e => hne e.symm)]
          exact ⟨hv, hu⟩
        · obtain ⟨h1, h2, h3⟩ := mem_drop d σ.tg _ hl
          simp only at h2 h3
          rw [getD_put a d val t hds, getD_put a d val s hds, if_neg h2, if_neg h3]
          exact h.tg t s w u h1
    · cases hp

/-- Contracts: of functions that touch no block of the caller's; of any. -/
abbrev KP := Nat → List AV → List Bool → Option (AV × List Bool × List Bool)
abbrev KH := Nat → List AV → List AB → List Bool → Option (AV × List AB × List Bool × List Bool)

def PW' (X : Ctx) (args : List AV) (vs : List Value) : Prop := PW (VR X) args vs

def KPok (P : Program) (kp : KP) : Prop :=
  ∀ f args os r cs os', kp f args os = some (r, cs, os') → (∀ c ∈ cs, c = true) → ∀ X vs, HRel X → PW (VR X) args vs →
    (∃ fn, P.funcs[f]? = some fn ∧ (fn.name == "runtime.NumGoroutine") = false ∧ fn.body.isNone = false) ∧
    Calls P f vs.toArray X.w fun e w' => ∃ val X', e = .returned val ∧ X'.w = w' ∧ X.le X' ∧ HRel X' ∧ X'.H = X.H ∧ VR X' r val

def KHok (P : Program) (kh : KH) : Prop :=
  ∀ f args hp os r hp' cs os', kh f args hp os = some (r, hp', cs, os') → (∀ c ∈ cs, c = true) → ∀ X vs, HRel X → (X.H = fun i => hp[i]?) → PW (VR X) args vs →
    (∃ fn, P.funcs[f]? = some fn ∧ (fn.name == "runtime.NumGoroutine") = false ∧ fn.body.isNone = false) ∧
    Calls P f vs.toArray X.w fun e w' => ∃ val X', e = .returned val ∧ X'.w = w' ∧ X.le X' ∧ HRel X' ∧ (X'.H = fun i => hp'[i]?) ∧ VR X' r val

/-- The function that a value stands for, and what it brings. -/
def fnOf : AV → Option (Nat × List AV × List AV)
  | .one (.fn f caps) => some (f, [], caps.map fun c => .one (.ptr c.1 c.2))
  | .one (.mth f i off) => some (f, [.one (.ptr i off)], [])
  | _ => none

def evs (ρ : Rho) : List Operand → Option (List AV)
  | [] => some []
  | x :: r => match ρ x, evs ρ r with
    | some v, some l => some (v :: l)
    | _, _ => none

theorem evs_rel {X : Ctx} {ρ : Rho} {a : Act} : ∀ (l : List Operand) (vs : List AV), evs ρ l = some vs → (∀ x ∈ l, ∀ v, ρ x = some v → VR X v (a.eval x)) → PW (VR X) vs (l.map a.eval)
  | [], vs, h, _ => by simp only [evs, Option.some.injEq] at h; subst h; exact PW.nil
  | x :: r, vs, h, hr => by
    simp only [evs] at h
    split at h
    · rename_i v l h1 h2
      injection h with h; subst h
      exact PW.cons (hr x (List.mem_cons_self ..) v h1) (evs_rel r l h2 fun y hy => hr y (List.mem_cons_of_mem _ hy))
    · cases h

/-- A call's callee and arguments. -/
def callOf (ρ : Rho) (o : Oper) : Option (Nat × List AV) :=
  match o.op with
  | .call { callee := .value f, args, .. } => match (ρ f).bind fnOf, evs ρ args.toList with
    | some (k, pre, caps), some vs => some (k, pre ++ (vs ++ caps))
    | _, _ => none
  | _ => none

theorem callOf_wp {X : Ctx} {ρ : Rho} {a : Act} {o : Oper} (hρ : RhoOk X ρ a o) {k : Nat} {args : List AV} (h : callOf ρ o = some (k, args)) :
    ∃ vs, PW (VR X) args vs ∧ ∀ (fn : Func), P.funcs[k]? = some fn → (fn.name == "runtime.NumGoroutine") = false → fn.body.isNone = false → ∀ (R : Value → World → Prop) next Q,
      (Calls P k vs.toArray X.w fun e w' => ∃ val, e = .returned val ∧ R val w') → (∀ val w', R val w' → next (a.put o.dst val) w') → o.wp P a X.w next Q := by
  obtain ⟨dst, op, type, pos, after, guard⟩ := o
  cases op
  case call c =>
    obtain ⟨callee, cargs, argTypes⟩ := c
    cases callee <;> first | cases h | skip
    rename_i f
    simp only [callOf] at h
    split at h
    · rename_i k' pre caps vs h1 h2
      simp only [Option.some.injEq, Prod.mk.injEq] at h
      obtain ⟨rfl, rfl⟩ := h
      obtain ⟨fv, hf, hfn⟩ := bindO h1
      have hargs := evs_rel (a := a) cargs.toList vs h2 fun x hx => hρ x (by simp only [Op.operands, Call.operands]; simp; right; simpa using hx)
      have hfv := hρ f (by simp [Op.operands, Call.operands]) fv hf
      unfold fnOf at hfn
      split at hfn
      · rename_i k'' cps
        simp only [Option.some.injEq, Prod.mk.injEq] at hfn
        obtain ⟨rfl, rfl, rfl⟩ := hfn
        obtain ⟨c, e1, e2, e3⟩ := hfv
        refine ⟨cargs.toList.map a.eval ++ c.toList, hargs.append ⟨by simpa using e2.symm, fun j u y hu hy => ?_⟩, fun fn g1 g2 g3 R next Q hc hn => ?_⟩
        · simp only [List.getElem?_map] at hu
          cases hp : cps[j]? with
          | none => rw [hp] at hu; cases hu
          | some p =>
            rw [hp] at hu
            simp only [Option.map_some, Option.some.injEq] at hu
            subst hu
            obtain ⟨q1, q2⟩ := e3 j p hp
            have : y = .pointer (some ⟨X.φ p.1, p.2, none⟩) := by
              rw [Array.getElem?_toList, q2] at hy
              simpa using hy.symm
            exact ⟨q1, this⟩
        · have hrun : (execOp a.eval { dst, op := .call { callee := .value f, args := cargs, argTypes }, type, pos, after, guard }).run P X.w = .ok (.enter k'' (cargs.toList.map a.eval ++ c.toList).toArray) X.w := by
            unfold execOp
            simp only [resolve, e1, Deferred.ofValue, invoke, callFunc, Sem.run_bind, Sem.run_pure, Result.andThen_ok, run_program, g1, g2, g3, Bool.false_eq_true, if_false]
            congr 2
            simp
          unfold Oper.wp
          rw [hrun]
          show Calls P k'' _ X.w _
          refine hc.mono fun e w' hh => ?_
          obtain ⟨val, rfl, hR⟩ := hh
          exact hn val w' hR
      · rename_i k'' i off
        simp only [Option.some.injEq, Prod.mk.injEq] at hfn
        obtain ⟨rfl, rfl, rfl⟩ := hfn
        obtain ⟨hb, e1⟩ := hfv
        refine ⟨.pointer (some ⟨X.φ i, off, none⟩) :: cargs.toList.map a.eval, by rw [List.append_nil]; exact PW.cons ⟨hb, rfl⟩ hargs, fun fn g1 g2 g3 R next Q hc hn => ?_⟩
        have hrun : (execOp a.eval { dst, op := .call { callee := .value f, args := cargs, argTypes }, type, pos, after, guard }).run P X.w = .ok (.enter k'' (.pointer (some ⟨X.φ i, off, none⟩) :: cargs.toList.map a.eval).toArray) X.w := by
          unfold execOp
          simp only [resolve, e1, Deferred.ofValue, invoke, callFunc, Sem.run_bind, Sem.run_pure, Result.andThen_ok, run_program, g1, g2, g3, Bool.false_eq_true, if_false]
          congr 2
          simp
        unfold Oper.wp
        rw [hrun]
        show Calls P k'' _ X.w _
        refine hc.mono fun e w' hh => ?_
        obtain ⟨val, rfl, hR⟩ := hh
        exact hn val w' hR
      · cases hfn
    · cases h
  all_goals cases h

/-- pick, without a choice. -/
def pickM (σ : St) (chain : List (Nat × Bool)) (c a b : Operand) : Option AV :=
  match c with
  | .tmp s => match σ.ev chain c with
    | some (.one (.bool x)) => match σ.ev ((s, true) :: chain) a, σ.ev ((s, false) :: chain) b with
      | some (.one u), some (.one v) => (mergeC x u v).map .one
      | _, _ => none
    | _ => none
  | _ => none

theorem pickM_rel {X : Ctx} {σ : St} {ac : Act} (h : Rel X σ ac) {chain : List (Nat × Bool)} (hc : Holds ac chain) {c a b : Operand} {v : AV} (hp : pickM σ chain c a b = some v) :
    ∃ x, ac.eval c = .bool x ∧ VR X v (if x then ac.eval a else ac.eval b) := by
  unfold pickM at hp
  split at hp
  · rename_i s
    split at hp
    · rename_i x hx
      have hcv : ac.eval (.tmp s) = .bool x := h.ev hc hx
      split at hp
      · rename_i u w hu hw
        cases hm : mergeC x u w with
        | none => rw [hm] at hp; cases hp
        | some r =>
          rw [hm] at hp
          simp only [Option.map_some, Option.some.injEq] at hp
          subst hp
          refine ⟨x, hcv, mergeC_rel hm (fun e => ?_) (fun e => ?_)⟩
          · rw [if_pos e]
            have hh : Holds ac ((s, true) :: chain) := fun g hg => by
              rcases List.mem_cons.1 hg with rfl | hg
              · rw [e] at hcv; exact hcv
              · exact hc g hg
            exact h.ev hh hu
          · rw [e]
            have hh : Holds ac ((s, false) :: chain) := fun g hg => by
              rcases List.mem_cons.1 hg with rfl | hg
              · rw [e] at hcv; exact hcv
              · exact hc g hg
            exact h.ev hh hw
      · cases hp
    · cases hp
  · cases hp

/-- An operation whose test is known to come out so, or that has none. -/
def runO (P : Program) (kp : KP) (kh : KH) (o : Oper) (chain : List (Nat × Bool)) (σ : St) : Option St :=
  match o.op with
  | .pick c a b =>
    match (if σ.spec then pickM σ chain c a b else none) with
    | some v => σ.put o.dst v
    | none => match σ.ev chain c with
      | some (.one (.bool x)) => match br x σ.os with
        | (t, cs, r) => match σ.ev chain (if t then a else b) with
          | some v => ({ σ with os := r, cs := cs ++ σ.cs } : St).put o.dst v
          | none => none
      | _ => none
  | .call { callee := .value f, .. } =>
    match callOf (σ.ev chain) o with
    | some (k, args) => match kp k args σ.os with
      | some (v, cs, r) => ({ σ with os := r, cs := cs ++ σ.cs } : St).put o.dst v
      | none => match kh k args σ.hp σ.os with
        | some (v, hp', cs, r) => ({ σ with hp := hp', os := r, cs := cs ++ σ.cs } : St).put o.dst v
        | none => none
    | none => none
  | _ => match aop P o (σ.ev chain) σ.H σ.hp.length σ.os with
    | some (v, u, cs, r) => match hputs σ.hp u with
      | some hp' => ({ σ with hp := hp', os := r, cs := cs ++ σ.cs } : St).put o.dst v
      | none => none
    | none => none

/-- The next operation's place: what is known leads on. -/
def Leads (P : Program) (o : Oper) (X : Ctx) (a : Act) (σ' : St) : Prop :=
  ∀ (next : Act → World → Prop) (Q : Exit → Act → World → Prop), (∀ X' a', X.le X' → Rel X' σ' a' → next a' X'.w) → o.wp P a X.w next Q

theorem Rel.cs {X : Ctx} {σ : St} {a : Act} (h : Rel X σ a) (os cs : List Bool) : Rel X { σ with os := os, cs := cs } a := ⟨h.hrel, h.heap, h.size, h.defers, h.tm, h.tg⟩

theorem put_cs {σ σ' : St} {d : Option Nat} {v : AV} (h : σ.put d v = some σ') : σ'.cs = σ.cs ∧ σ'.hp = σ.hp := by
  cases d with
  | none => simp only [St.put, Option.some.injEq] at h; subst h; exact ⟨rfl, rfl⟩
  | some d =>
    simp only [St.put] at h
    split at h
    · injection h with h; subst h; exact ⟨rfl, rfl⟩
    · cases h
theorem putG_cs {σ σ' : St} {d : Option Nat} {g : Nat × Bool} {v : AV} (h : σ.putG d g v = some σ') : σ'.cs = σ.cs ∧ σ'.hp = σ.hp := by
  cases d with
  | none => simp only [St.putG, Option.some.injEq] at h; subst h; exact ⟨rfl, rfl⟩
  | some d =>
    simp only [St.putG] at h
    split at h
    · injection h with h; subst h; exact ⟨rfl, rfl⟩
    · cases h

theorem runO_sim {kp : KP} {kh : KH} (hkp : KPok P kp) (hkh : KHok P kh) {o : Oper} {chain : List (Nat × Bool)} {σ σ' : St} {X : Ctx} {a : Act} (h : Rel X σ a) (hc : Holds a chain)
    (hr : runO P kp kh o chain σ = some σ') : (∃ cs, σ'.cs = cs ++ σ.cs) ∧ ((∀ c ∈ σ'.cs, c = true) → Leads P o X a σ') := by
  have hρ : RhoOk X (σ.ev chain) a o := fun x _ v hv => h.ev hc hv
  have hpick : ∀ c x y v, o.op = .pick c x y → ∀ xb, a.eval c = .bool xb → ∀ σ1, Rel X σ1 a → σ1.put o.dst v = some σ' → VR X v (if xb then a.eval x else a.eval y) → Leads P o X a σ' := by
    intro c x y v ho xb hcv σ1 hσ hput hv next Q hn
    unfold Oper.wp
    have hrun : (execOp a.eval o).run P X.w = .ok (.value (if xb then a.eval x else a.eval y)) X.w := by
      unfold execOp
      simp only [ho, hcv, asBool, Sem.run_bind, Sem.run_pure, Result.andThen_ok]
    rw [hrun]
    exact hn X _ (.refl X) (hσ.put hput hv)
  unfold runO at hr
  split at hr
  · rename_i c x y ho
    split at hr
    · rename_i v hv
      split at hv
      · obtain ⟨xb, h1, h2⟩ := pickM_rel h hc hv
        exact ⟨⟨[], (put_cs hr).1⟩, fun _ => hpick c x y v ho xb h1 σ h hr h2⟩
      · cases hv
    · split at hr
      · rename_i xb hx
        split at hr
        rename_i t cs r hbr
        split at hr
        · rename_i v hv
          have hcs := (put_cs hr).1
          refine ⟨⟨cs, hcs⟩, fun hall => ?_⟩
          have hcv : a.eval c = .bool xb := h.ev hc hx
          have hb := br_eq (b := xb) (os := σ.os) (by
            rw [hbr]; intro q hq
            exact hall q (by rw [hcs]; exact List.mem_append_left _ hq))
          rw [hbr] at hb
          simp only at hb
          subst hb
          refine hpick c x y v ho t hcv _ (h.cs r (cs ++ σ.cs)) hr ?_
          have := h.ev hc hv
          cases t <;> exact this
        · cases hr
      · cases hr
  · rename_i f cargs cty ho
    split at hr
    · rename_i k args hcall
      obtain ⟨vs, hvs, hwp⟩ := callOf_wp (P := P) hρ hcall
      split at hr
      · rename_i v cs r hk
        have hcs := (put_cs hr).1
        refine ⟨⟨cs, hcs⟩, fun hall => ?_⟩
        have hcc : ∀ c ∈ cs, c = true := fun q hq => hall q (by rw [hcs]; exact List.mem_append_left _ hq)
        obtain ⟨⟨fn, g1, g2, g3⟩, hcalls⟩ := hkp k args σ.os v cs r hk hcc X vs h.hrel hvs
        intro next Q hn
        refine hwp fn g1 g2 g3 (fun val w' => ∃ X', X'.w = w' ∧ X.le X' ∧ HRel X' ∧ X'.H = X.H ∧ VR X' v val) next Q (hcalls.mono fun e w' ⟨val, X', h1, h2, h3, h4, h5, h6⟩ => ⟨val, h1, X', h2, h3, h4, h5, h6⟩) ?_
        rintro val w' ⟨X', rfl, h3, h4, h5, h6⟩
        have hrel : Rel X' { σ with hp := σ.hp } a := h.mono h3 h4 (by rw [h5, h.heap]; rfl)
        exact hn X' _ h3 ((hrel.cs r (cs ++ σ.cs)).put hr h6)
      · split at hr
        · rename_i v hp' cs r hk
          have hcs := (put_cs hr).1
          refine ⟨⟨cs, hcs⟩, fun hall => ?_⟩
          have hcc : ∀ c ∈ cs, c = true := fun q hq => hall q (by rw [hcs]; exact List.mem_append_left _ hq)
          obtain ⟨⟨fn, g1, g2, g3⟩, hcalls⟩ := hkh k args σ.hp σ.os v hp' cs r hk hcc X vs h.hrel h.heap hvs
          intro next Q hn
          refine hwp fn g1 g2 g3 (fun val w' => ∃ X', X'.w = w' ∧ X.le X' ∧ HRel X' ∧ (X'.H = fun i => hp'[i]?) ∧ VR X' v val) next Q (hcalls.mono fun e w' ⟨val, X', h1, h2, h3, h4, h5, h6⟩ => ⟨val, h1, X', h2, h3, h4, h5, h6⟩) ?_
          rintro val w' ⟨X', rfl, h3, h4, h5, h6⟩
          have hrel : Rel X' { σ with hp := hp' } a := h.mono h3 h4 h5
          exact hn X' _ h3 ((hrel.cs r (cs ++ σ.cs)).put hr h6)
        · cases hr
    · cases hr
  · split at hr
    · rename_i v u cs r haop
      split at hr
      · rename_i hp' hput
        have hcs := (put_cs hr).1
        refine ⟨⟨cs, hcs⟩, fun hall => ?_⟩
        have hcc : ∀ c ∈ cs, c = true := fun q hq => hall q (by rw [hcs]; exact List.mem_append_left _ hq)
        have hnid : X.H σ.hp.length = none := by rw [h.heap]; simp [St.H]
        rw [← h.heap] at haop
        have hsim := aop_sim (P := P) h.hrel hnid hρ haop hcc
        intro next Q hn
        refine hsim next Q fun val X' h3 h4 h5 h6 => ?_
        have hH : X'.H = fun i => hp'[i]? := by rw [h5, h.heap]; exact (hputs_H hput).symm
        have hrel : Rel X' { σ with hp := hp' } a := h.mono h3 h4 hH
        exact hn X' _ h3 ((hrel.cs r (cs ++ σ.cs)).put hr h6)
      · cases hr
    · cases hr
end Go.Eng
