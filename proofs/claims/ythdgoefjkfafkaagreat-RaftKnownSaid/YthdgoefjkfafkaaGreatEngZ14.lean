import Derived.Test.YthdgoefjkfafkaaGreatEngZ13
set_option linter.unusedVariables false
namespace Go.Eng
open Go Go.RowKit
variable {P : Program}

/-! ### Quiet calls: a function that only reads leaves the world as it was -/
def isQ : Op → Bool
  | .move _ | .assign _ | .load _ _ | .nilCheck _ | .fieldAddr _ _ _ | .unOp _ _ _ => true
  | .binOp .eql _ _ _ _ | .binOp .neq _ _ _ _ => true
  | _ => false
theorem aop_q {X : Ctx} (hX : HRel X) {nid : Nat} {o : Oper} {a : Act} {ρ : Rho} (hρ : RhoOk X ρ a o) (hq : isQ o.op = true) {os : List Bool} {v : AV} {u : List (Nat × AB)} {cs r : List Bool}
    (h : aop P o ρ X.H nid os = some (v, u, cs, r)) (hcs : ∀ c ∈ cs, c = true) : ∃ val, (execOp a.eval o).run P X.w = .ok (.value val) X.w ∧ VR X v val := by
  obtain ⟨dst, op, type, pos, after, guard⟩ := o
  have opx : ∀ x, x ∈ op.operands → ∀ v, ρ x = some v → VR X v (a.eval x) := hρ
  cases op <;> first | (cases hq; done) | skip
  case move x =>
    obtain ⟨h1, rfl, rfl, rfl⟩ := plain_some h
    exact ⟨_, rfl, opx x (by simp [Op.operands]) v h1⟩
  case assign x =>
    obtain ⟨h1, rfl, rfl, rfl⟩ := plain_some h
    exact ⟨_, rfl, opx x (by simp [Op.operands]) v h1⟩
  case load t p =>
    obtain ⟨h1, rfl, rfl, rfl⟩ := plain_some h
    obtain ⟨pv, hp, hl⟩ := bindO h1
    obtain ⟨val, hr, hv⟩ := aload_ok (P := P) hX (opx p (by simp [Op.operands]) pv hp) hl
    exact ⟨val, by simp only [execOp, Sem.run_bind, hr, Result.andThen_ok, Sem.run_pure], hv⟩
  case nilCheck x =>
    simp only [aop] at h
    split at h
    · rename_i i off hx
      simp only [Option.some.injEq, Prod.mk.injEq] at h
      obtain ⟨rfl, rfl, rfl, rfl⟩ := h
      have hv := opx x (by simp [Op.operands]) _ hx
      obtain ⟨_, e⟩ := id hv
      exact ⟨a.eval x, by simp only [execOp, e]; rfl, hv⟩
    · rename_i rr l i off hx
      simp only [Option.some.injEq, Prod.mk.injEq] at h
      obtain ⟨rfl, rfl, rfl, rfl⟩ := h
      have hv := opx x (by simp [Op.operands]) _ hx
      obtain ⟨_, b, oo, e, _⟩ := id hv
      exact ⟨a.eval x, by simp only [execOp, e]; rfl, hv⟩
    · rename_i f c hx
      simp only [Option.some.injEq, Prod.mk.injEq] at h
      obtain ⟨rfl, rfl, rfl, rfl⟩ := h
      have hv := opx x (by simp [Op.operands]) _ hx
      obtain ⟨cc, e, _⟩ := id hv
      exact ⟨a.eval x, by simp only [execOp, e]; rfl, hv⟩
    · rename_i f i off hx
      simp only [Option.some.injEq, Prod.mk.injEq] at h
      obtain ⟨rfl, rfl, rfl, rfl⟩ := h
      have hv := opx x (by simp [Op.operands]) _ hx
      obtain ⟨_, e⟩ := id hv
      exact ⟨a.eval x, by simp only [execOp, e]; rfl, hv⟩
    · rename_i r i j d hx
      simp only [Option.some.injEq, Prod.mk.injEq] at h
      obtain ⟨rfl, rfl, rfl, rfl⟩ := h
      have hv := opx x (by simp [Op.operands]) _ hx
      obtain ⟨_, _, _, e⟩ := id hv
      exact ⟨a.eval x, by simp only [execOp, e]; rfl, hv⟩
    · rename_i i off n len hx
      simp only [Option.some.injEq, Prod.mk.injEq] at h
      obtain ⟨rfl, rfl, rfl, rfl⟩ := h
      have hv := opx x (by simp [Op.operands]) _ hx
      obtain ⟨_, e, _⟩ := id hv
      exact ⟨a.eval x, by simp only [execOp, e]; rfl, hv⟩
    · cases h
  case fieldAddr s x f =>
    obtain ⟨h1, rfl, rfl, rfl⟩ := plain_some h
    obtain ⟨pv, hp, hl⟩ := bindO h1
    obtain ⟨val, hr, hv⟩ := afield_ok (P := P) (opx x (by simp [Op.operands]) pv hp) hl
    exact ⟨val, by simp only [execOp, Sem.run_bind, hr, Result.andThen_ok, Sem.run_pure], hv⟩
  case binOp op t x y yt =>
    have hsc : ∀ v, scal P { dst, op := .binOp op t x y yt, type, pos, after, guard } ρ = some v → ∃ val, (execOp a.eval { dst, op := .binOp op t x y yt, type, pos, after, guard }).run P X.w = .ok (.value val) X.w ∧ VR X v val := fun v hv => by
      obtain ⟨val, h2, h3⟩ := scal_ok (P := P) hρ (fun _ _ e => by cases e) hv
      exact ⟨val, h2, h3⟩
    cases op <;> first | (cases hq; done) | skip
    · simp only [aop] at h
      split at h
      · rename_i xv yv hx hy
        split at h
        · rename_i b hb
          simp only [Option.some.injEq, Prod.mk.injEq] at h
          obtain ⟨rfl, rfl, rfl, rfl⟩ := h
          have := (aeq_run (P := P) hb (opx x (by simp [Op.operands]) xv hx) (opx y (by simp [Op.operands]) yv hy) x y X.w).1
          refine ⟨.bool b, ?_, rfl⟩
          simp only [execOp]
          rw [Sem.run_bind, this]
          rfl
        · obtain ⟨h1, rfl, rfl, rfl⟩ := plain_some h
          exact hsc v h1
      · cases h
    · simp only [aop] at h
      split at h
      · rename_i xv yv hx hy
        split at h
        · rename_i b hb
          simp only [Option.some.injEq, Prod.mk.injEq] at h
          obtain ⟨rfl, rfl, rfl, rfl⟩ := h
          have := (aeq_run (P := P) hb (opx x (by simp [Op.operands]) xv hx) (opx y (by simp [Op.operands]) yv hy) x y X.w).2
          refine ⟨.bool (!b), ?_, rfl⟩
          simp only [execOp]
          rw [Sem.run_bind, this]
          rfl
        · obtain ⟨h1, rfl, rfl, rfl⟩ := plain_some h
          exact hsc v h1
      · cases h
  case unOp op t x =>
    obtain ⟨h1, rfl, rfl, rfl⟩ := plain_some h
    exact scal_ok (P := P) hρ (fun _ _ e => by cases e) h1

/-- What is known of slots, the world being as it was. -/
structure QRel (X : Ctx) (T : List (Nat × AV)) (nt : Nat) (a : Act) : Prop where
  hrel : HRel X
  size : a.tmps.size = nt
  defers : a.defers = []
  tm : ∀ t v, lookT T t = some v → VR X v (a.tmps.getD t undef)
def qput (T : List (Nat × AV)) (nt : Nat) (d : Option Nat) (v : AV) : Option (List (Nat × AV)) :=
  match d with
  | none => some T
  | some d => if Nat.blt d nt then some ((d, v) :: T) else none
theorem QRel.put {X : Ctx} {T T' : List (Nat × AV)} {nt : Nat} {a : Act} (h : QRel X T nt a) {d : Option Nat} {v : AV} (hp : qput T nt d v = some T') {val : Value} (hv : VR X v val) : QRel X T' nt (a.put d val) := by
  cases d with
  | none => simp only [qput, Option.some.injEq] at hp; subst hp; exact h
  | some d =>
    simp only [qput] at hp
    split at hp
    · rename_i hd
      simp only [Nat.blt_eq] at hd
      injection hp with hp; subst hp
      have hds : d < a.tmps.size := by rw [h.size]; exact hd
      refine ⟨h.hrel, by simp [Act.put, h.size], h.defers, fun t u hl => ?_⟩
      rw [getD_put a d val t hds]
      simp only [lookT] at hl
      split at hl
      · rename_i e
        simp only [Nat.beq_eq] at e
        simp only [Option.some.injEq] at hl
        subst hl
        rw [if_pos e.symm]; exact hv
      · rename_i e
        simp only [Nat.beq_eq] at e
        rw [if_neg (fun h => e h.symm)]
        exact h.tm t u hl
    · cases hp
theorem QRel.ev {X : Ctx} {T : List (Nat × AV)} {nt : Nat} {a : Act} (h : QRel X T nt a) {x : Operand} {v : AV} (hl : evT (lookT T) x = some v) : VR X v (a.eval x) := by
  cases x with
  | tmp t => exact h.tm t v hl
  | const c => exact cvv_rel X hl
  | global g => cases hl
  | func f =>
    simp only [evT, Option.some.injEq] at hl
    subst hl
    exact ⟨#[], rfl, rfl, fun j p hj => by simp at hj⟩
def qdo (P : Program) (H : Nat → Option AB) (o : Oper) (T : List (Nat × AV)) (nt : Nat) : Option (List (Nat × AV)) :=
  match o.op with
  | .pick c x y => match evT (lookT T) c with
    | some (.one (.bool b)) => match evT (lookT T) (if b then x else y) with
      | some v => qput T nt o.dst v
      | none => none
    | _ => none
  | op => if isQ op then match aop P o (evT (lookT T)) H 0 [] with
      | some (v, _, cs, _) => if cs.all id then qput T nt o.dst v else none
      | none => none
    else none
def qstep (P : Program) (H : Nat → Option AB) (ops : Array Oper) (o : Oper) (T : List (Nat × AV)) (nt : Nat) : Option (List (Nat × AV)) :=
  match o.guard with
  | none => qdo P H o T nt
  | some (j, want) => match (ops[j]?).bind (·.dst) with
    | none => none
    | some s => match lookT T s with
      | some (.one (.bool b)) => if b == want then qdo P H o T nt else qput T nt o.dst (.tup [])
      | some (.tup []) => qput T nt o.dst (.tup [])
      | _ => none
def qops (P : Program) (H : Nat → Option AB) (ops : Array Oper) (nt : Nat) : List Nat → List (Nat × AV) → Option (List (Nat × AV))
  | [], T => some T
  | i :: r, T => match ops[i]? with
    | none => qops P H ops nt r T
    | some o => match qstep P H ops o T nt with
      | some T' => qops P H ops nt r T'
      | none => none
def qexec (P : Program) (H : Nat → Option AB) (nt : Nat) : Code → List (Nat × AV) → Option (XE × List (Nat × AV))
  | .skip, T => some (.normal, T)
  | .label _, T => some (.normal, T)
  | .ret, T => some (.ret, T)
  | .exit id, T => some (.exit id, T)
  | .region _ ops false, T => match qops P H ops nt (List.range ops.size) T with
    | some T' => some (.normal, T')
    | none => none
  | .seq x y, T => match qexec P H nt x T with
    | some (.normal, T') => qexec P H nt y T'
    | some (.exit i, T') => some (.exit i, T')
    | some (.ret, T') => some (.ret, T')
    | none => none
  | .cond c x y, T => match evT (lookT T) c with
    | some (.one (.bool true)) => qexec P H nt x T
    | some (.one (.bool false)) => qexec P H nt y T
    | _ => none
  | .block id c, T => match qexec P H nt c T with
    | some (.exit i, T') => if Nat.beq i id then some (.normal, T') else some (.exit i, T')
    | some (.normal, T') => some (.normal, T')
    | some (.ret, T') => some (.ret, T')
    | none => none
  | .scope c, T => qexec P H nt c T
  | _, _ => none
theorem qwp_run {X : Ctx} {o : Oper} {a : Act} {val : Value} (hr : (execOp a.eval o).run P X.w = .ok (.value val) X.w) {next : Act → World → Prop} {Q : Exit → Act → World → Prop} (hn : next (a.put o.dst val) X.w) : o.wp P a X.w next Q := by
  unfold Oper.wp
  rw [hr]
  exact hn
theorem qdo_ok {X : Ctx} {o : Oper} {T T' : List (Nat × AV)} {nt : Nat} {a : Act} (h : QRel X T nt a) (hd : qdo P X.H o T nt = some T') {next : Act → World → Prop} {Q : Exit → Act → World → Prop}
    (hn : ∀ a', QRel X T' nt a' → next a' X.w) : o.wp P a X.w next Q := by
  unfold qdo at hd
  split at hd
  · rename_i c x y ho
    split at hd
    · rename_i b hb
      split at hd
      · rename_i v hv
        have hcv : a.eval c = .bool b := h.ev hb
        have hval := h.ev hv
        refine qwp_run (val := if b then a.eval x else a.eval y) ?_ (hn _ (h.put hd (by cases b <;> exact hval)))
        unfold execOp
        simp only [ho, hcv, asBool, Sem.run_bind, Sem.run_pure, Result.andThen_ok]
      · cases hd
    · cases hd
  · split at hd
    · rename_i hq
      split at hd
      · rename_i ha
        split at hd
        · rename_i hc
          obtain ⟨val, h1, h2⟩ := aop_q (P := P) h.hrel (fun x _ v hv => h.ev hv) hq ha (fun c hcm => by simpa using List.all_eq_true.1 hc c hcm)
          exact qwp_run h1 (hn _ (h.put hd h2))
        · cases hd
      · cases hd
    · cases hd
theorem qops_ok {X : Ctx} {ops : Array Oper} {nt : Nat} {Q : Exit → Act → World → Prop} : ∀ (l : List Nat) {T T' : List (Nat × AV)} {a : Act}, QRel X T nt a → qops P X.H ops nt l T = some T' →
    (∀ a', QRel X T' nt a' → Q .normal a' X.w) → wpOps P ops Q l a X.w
  | [], T, T', a, h, hr, hq => by
    simp only [qops, Option.some.injEq] at hr
    subst hr
    exact hq a h
  | i :: r, T, T', a, h, hr, hq => by
    simp only [qops] at hr
    split at hr
    · rename_i hi
      simp only [wpOps, hi]
      exact qops_ok r h hr hq
    · rename_i o hi
      split at hr
      · rename_i T1 hs
        simp only [wpOps, hi]
        have go : ∀ a', QRel X T1 nt a' → wpOps P ops Q r a' X.w := fun a' h' => qops_ok r h' hr hq
        unfold qstep at hs
        split at hs
        · rename_i hg
          rw [if_pos (wanted_none hg _)]
          exact .inl (qdo_ok h hs go)
        · rename_i j want hg
          split at hs
          · cases hs
          · rename_i s hss
            split at hs
            · rename_i b hb
              have hbv : a.tmps.getD s undef = .bool b := h.tm s _ hb
              split at hs
              · rename_i hw
                rw [if_pos ((wanted_iff hg hss).2 (by rw [hbv]; simp only [beq_iff_eq] at hw; rw [hw]))]
                exact .inl (qdo_ok h hs go)
              · rename_i hw
                have hnw : ¬ Region.wanted o (yielded ops a.tmps) = true := fun hww => by
                  have := (wanted_iff hg hss).1 hww
                  rw [hbv] at this
                  simp only [Value.bool.injEq] at this
                  exact hw (by simp [this])
                rw [if_neg hnw]
                exact go _ (h.put hs (VR_undef X))
            · rename_i hb
              have hbv : a.tmps.getD s undef = undef := undef_of_VR (h.tm s _ hb)
              have hnw : ¬ Region.wanted o (yielded ops a.tmps) = true := fun hww => by
                have := (wanted_iff hg hss).1 hww
                rw [hbv] at this
                exact undef_ne _ this
              rw [if_neg hnw]
              exact go _ (h.put hs (VR_undef X))
            · cases hs
      · cases hr
theorem qexec_ok {X : Ctx} {nt : Nat} (c : Code) : ∀ {T : List (Nat × AV)} {e : XE} {T' : List (Nat × AV)}, qexec P X.H nt c T = some (e, T') → ∀ {a : Act}, QRel X T nt a → ∀ {Q : Exit → Act → World → Prop}, (∀ a', QRel X T' nt a' → Q e.out a' X.w) → c.wp P Q a X.w := by
  induction c with
  | skip =>
    intro T e T' h a hr Q hq
    simp only [qexec, Option.some.injEq, Prod.mk.injEq] at h
    obtain ⟨rfl, rfl⟩ := h
    exact wp_skip (hq a hr)
  | label l =>
    intro T e T' h a hr Q hq
    simp only [qexec, Option.some.injEq, Prod.mk.injEq] at h
    obtain ⟨rfl, rfl⟩ := h
    exact wp_label (hq a hr)
  | ret =>
    intro T e T' h a hr Q hq
    simp only [qexec, Option.some.injEq, Prod.mk.injEq] at h
    obtain ⟨rfl, rfl⟩ := h
    exact wp_ret (hq a hr)
  | exit id =>
    intro T e T' h a hr Q hq
    simp only [qexec, Option.some.injEq, Prod.mk.injEq] at h
    obtain ⟨rfl, rfl⟩ := h
    exact wp_exit (hq a hr)
  | region id ops draw =>
    intro T e T' h a hr Q hq
    cases draw
    · simp only [qexec] at h
      split at h
      · rename_i h1
        simp only [Option.some.injEq, Prod.mk.injEq] at h
        obtain ⟨rfl, rfl⟩ := h
        exact wp_region (qops_ok _ hr h1 hq)
      · cases h
    · cases h
  | seq x y iha ihb =>
    intro T e T' h a hr Q hq
    simp only [qexec] at h
    split at h
    · rename_i T1 h1
      exact wp_seq (iha h1 hr fun a' hr' => ihb h hr' hq)
    · rename_i h1
      simp only [Option.some.injEq, Prod.mk.injEq] at h
      obtain ⟨rfl, rfl⟩ := h
      exact wp_seq (iha h1 hr hq)
    · rename_i h1
      simp only [Option.some.injEq, Prod.mk.injEq] at h
      obtain ⟨rfl, rfl⟩ := h
      exact wp_seq (iha h1 hr hq)
    · cases h
  | cond c x y ihx ihy =>
    intro T e T' h a hr Q hq
    simp only [qexec] at h
    split at h
    · rename_i hb
      exact wp_cond_true (hr.ev hb) (ihx h hr hq)
    · rename_i hb
      exact wp_cond_false (hr.ev hb) (ihy h hr hq)
    · cases h
  | block id c ih =>
    intro T e T' h a hr Q hq
    simp only [qexec] at h
    refine wp_block ?_
    split at h
    · rename_i i T1 h1
      split at h
      · rename_i hi
        simp only [Nat.beq_eq] at hi
        simp only [Option.some.injEq, Prod.mk.injEq] at h
        obtain ⟨rfl, rfl⟩ := h
        refine ih h1 hr fun a' hr' => ?_
        simp only [XE.out, Exit.inBlock, hi, if_true]
        exact hq a' hr'
      · rename_i hi
        simp only [Nat.beq_eq] at hi
        simp only [Option.some.injEq, Prod.mk.injEq] at h
        obtain ⟨rfl, rfl⟩ := h
        refine ih h1 hr fun a' hr' => ?_
        simp only [XE.out, Exit.inBlock, hi, if_false]
        exact hq a' hr'
    · rename_i h1
      simp only [Option.some.injEq, Prod.mk.injEq] at h
      obtain ⟨rfl, rfl⟩ := h
      exact ih h1 hr hq
    · rename_i h1
      simp only [Option.some.injEq, Prod.mk.injEq] at h
      obtain ⟨rfl, rfl⟩ := h
      exact ih h1 hr hq
    · cases h
  | scope c ih =>
    intro T e T' h a hr Q hq
    refine wp_scope_straight (ih h hr fun a' hr' => ?_)
    have := hq a' hr'
    cases e <;> exact this
  | _ => intro T e T' h; cases h

def qcall (P : Program) (H : Nat → Option AB) (f : Nat) (args : List AV) : Option AV :=
  match P.funcs[f]? with
  | some fn => if fn.name == "runtime.NumGoroutine" then none else match fn.body, fn.results.toList with
    | some c, [.tmp t] => match qexec P H (args.length + (fn.ntmps - args.length)) c (paramsT 0 args) with
      | some (.normal, T) => lookT T t
      | some (.ret, T) => lookT T t
      | _ => none
    | _, _ => none
  | none => none
theorem QRel.st0 {X : Ctx} (hX : HRel X) {fn : Func} {args : List AV} {vs : List Value} (hv : PW (VR X) args vs) :
    QRel X (paramsT 0 args) (args.length + (fn.ntmps - args.length)) { tmps := vs.toArray ++ Array.replicate (fn.ntmps - vs.toArray.size) undef, defers := [] } where
  hrel := hX
  size := by simp only [hv.1]; simp
  defers := rfl
  tm t v hl := by
    obtain ⟨_, h⟩ := paramsT_look args 0 t v hl
    simp only [Nat.sub_zero] at h
    obtain ⟨y, h1, h2⟩ := hv.at_ h
    have : ({ tmps := vs.toArray ++ Array.replicate (fn.ntmps - vs.toArray.size) undef, defers := [] } : Act).tmps.getD t undef = y := by
      have hlt := (List.getElem?_eq_some_iff.1 h1).1
      simp only [Array.getD_eq_getD_getElem?]
      rw [Array.getElem?_append_left (by simpa using hlt)]
      simp only [List.getElem?_toArray, h1, Option.getD_some]
    rw [this]; exact h2
theorem results_one {fn : Func} {t : Nat} (hres : fn.results.toList = [.tmp t]) (tmps : Array Value) (w : World) : (results fn tmps).run P w = .ok (tmps.getD t undef) w := by
  show (do let vs ← fn.results.mapM (resRun tmps); pure (if h : vs.size = 1 then vs[0] else .tuple vs) : Sem Value).run P w = _
  rw [Array.mapM_eq_mapM_toList, hres]
  have h1 : (List.mapM (resRun tmps) [.tmp t]).run P w = .ok [tmps.getD t undef] w := by
    simp only [List.mapM_cons, List.mapM_nil, resRun, Sem.run_bind, Sem.run_pure, Result.andThen_ok]
  simp only [Sem.run_bind, map_eq_pure_bind, h1, Result.andThen_ok, Sem.run_pure]
  rfl
theorem qcall_ok {f : Nat} {args : List AV} {X : Ctx} {r : AV} (h : qcall P X.H f args = some r) (hX : HRel X) {vs : List Value} (hv : PW (VR X) args vs) :
    (∃ fn, P.funcs[f]? = some fn ∧ (fn.name == "runtime.NumGoroutine") = false ∧ fn.body.isNone = false) ∧ Calls P f vs.toArray X.w fun e w' => ∃ val, e = .returned val ∧ w' = X.w ∧ VR X r val := by
  unfold qcall at h
  split at h
  · rename_i fn hf
    split at h
    · cases h
    · rename_i hne
      split at h
      · rename_i c t hb hres
        refine ⟨⟨fn, hf, by simpa using hne, by rw [hb]; rfl⟩, calls_of_wp hf hb ?_⟩
        have fin : ∀ (e : XE) (T : List (Nat × AV)), qexec P X.H (args.length + (fn.ntmps - args.length)) c (paramsT 0 args) = some (e, T) → (e = .normal ∨ e = .ret) → lookT T t = some r →
            c.wp P (bodyPost P fn fun e w' => ∃ val, e = .returned val ∧ w' = X.w ∧ VR X r val) { tmps := vs.toArray ++ Array.replicate (fn.ntmps - vs.toArray.size) undef, defers := [] } X.w := by
          intro e T he hee hl
          refine qexec_ok c he (QRel.st0 hX hv) fun a' hr' => ?_
          have hpost : a'.defers = [] ∧ ∃ v, (results fn a'.tmps).run P X.w = .ok v X.w ∧ ∃ val, Ending.returned v = .returned val ∧ X.w = X.w ∧ VR X r val :=
            ⟨hr'.defers, a'.tmps.getD t undef, results_one hres _ _, _, rfl, rfl, hr'.tm t r hl⟩
          rcases hee with rfl | rfl <;> exact hpost
        split at h
        · rename_i T he
          exact fin _ _ he (.inl rfl) h
        · rename_i T he
          exact fin _ _ he (.inr rfl) h
        · cases h
      · cases h
  · cases h

theorem qdo_mono {H H' : Nat → Option AB} (hh : HLe H H') {o : Oper} {T T' : List (Nat × AV)} {nt : Nat} (h : qdo P H o T nt = some T') : qdo P H' o T nt = some T' := by
  unfold qdo at h ⊢
  split at h
  · exact h
  · split at h
    · rename_i hq
      split at h
      · rename_i ha
        rw [if_pos hq, aop_mono hh ha]
        exact h
      · cases h
    · cases h
theorem qstep_mono {H H' : Nat → Option AB} (hh : HLe H H') {ops : Array Oper} {o : Oper} {T T' : List (Nat × AV)} {nt : Nat} (h : qstep P H ops o T nt = some T') : qstep P H' ops o T nt = some T' := by
  unfold qstep at h ⊢
  split at h
  · exact qdo_mono hh h
  · split at h
    · cases h
    · split at h
      · split at h
        · rename_i e
          rw [if_pos e]; exact qdo_mono hh h
        · rename_i e
          rw [if_neg e]; exact h
      · exact h
      · cases h
theorem qops_mono {H H' : Nat → Option AB} (hh : HLe H H') {ops : Array Oper} {nt : Nat} : ∀ (l : List Nat) {T T' : List (Nat × AV)}, qops P H ops nt l T = some T' → qops P H' ops nt l T = some T'
  | [], _, _, h => h
  | i :: r, T, T', h => by
    unfold qops at h ⊢
    split at h
    · exact qops_mono hh r h
    · split at h
      · rename_i hs
        rw [qstep_mono hh hs]
        exact qops_mono hh r h
      · cases h
theorem qexec_mono {H H' : Nat → Option AB} (hh : HLe H H') {nt : Nat} (c : Code) : ∀ {T : List (Nat × AV)} {u}, qexec P H nt c T = some u → qexec P H' nt c T = some u := by
  induction c with
  | region id ops draw =>
    intro T u h
    cases draw
    · simp only [qexec] at h ⊢
      split at h
      · rename_i h1
        rw [qops_mono hh _ h1]; exact h
      · cases h
    · cases h
  | seq x y iha ihb =>
    intro T u h
    simp only [qexec] at h ⊢
    split at h
    · rename_i h1
      rw [iha h1]; exact ihb h
    · rename_i h1
      rw [iha h1]; exact h
    · rename_i h1
      rw [iha h1]; exact h
    · cases h
  | cond c x y ihx ihy =>
    intro T u h
    simp only [qexec] at h ⊢
    split at h
    · exact ihx h
    · exact ihy h
    · cases h
  | block id c ih =>
    intro T u h
    simp only [qexec] at h ⊢
    split at h
    · rename_i h1
      rw [ih h1]; exact h
    · rename_i h1
      rw [ih h1]; exact h
    · rename_i h1
      rw [ih h1]; exact h
    · cases h
  | scope c ih => intro T u h; exact ih h
  | _ => intro T u h; exact h
theorem qcall_mono {H H' : Nat → Option AB} (hh : HLe H H') {f : Nat} {args : List AV} {r : AV} (h : qcall P H f args = some r) : qcall P H' f args = some r := by
  unfold qcall at h ⊢
  split at h
  · split at h
    · cases h
    · rename_i hne
      rw [if_neg hne]
      split at h
      · split at h
        · rename_i he
          rw [qexec_mono hh _ he]; exact h
        · rename_i he
          rw [qexec_mono hh _ he]; exact h
        · cases h
      · cases h
  · cases h
def quietL (P : Program) (f : Nat) (kl : KL) : KL := fun g args H os => if Nat.beq g f then (qcall P H f args).map (fun r => (r, [], [], os)) else kl g args H os
theorem quietL_ok {f : Nat} {kl : KL} (hkl : KLok P kl) : KLok P (quietL P f kl) := by
  refine ⟨fun g args H H' os u hh h => ?_, fun g args os v u cs os' X hX h hcs vs hv => ?_⟩
  · unfold quietL at h ⊢
    split
    · rename_i e
      rw [if_pos e] at h
      cases hr : qcall P H f args with
      | none => rw [hr] at h; cases h
      | some r =>
        rw [hr] at h
        rw [qcall_mono hh hr]; exact h
    · rename_i e
      rw [if_neg e] at h
      exact hkl.1 _ _ _ _ _ _ hh h
  · unfold quietL at h
    split at h
    · rename_i e
      simp only [Nat.beq_eq] at e
      subst e
      cases hr : qcall P X.H g args with
      | none => rw [hr] at h; cases h
      | some r =>
        rw [hr] at h
        simp only [Option.map_some, Option.some.injEq, Prod.mk.injEq] at h
        obtain ⟨rfl, rfl, rfl, rfl⟩ := h
        obtain ⟨g1, g2⟩ := qcall_ok hr hX hv
        refine ⟨g1, g2.mono fun e w' ⟨val, h1, h2, h3⟩ => ⟨val, X, h1, h2.symm, .refl X, hX, rfl, h3⟩⟩
    · exact hkl.2 _ _ _ _ _ _ _ _ hX h hcs vs hv
def quietH (P : Program) (f : Nat) (kh : KH) : KH := fun g args hp os => if Nat.beq g f then match qcall P (fun i => hp[i]?) f args with
    | some r => some (r, hp, [], os)
    | none => kh g args hp os
  else kh g args hp os
theorem quietH_ok {f : Nat} {kh : KH} (hkh : KHok P kh) : KHok P (quietH P f kh) :=
  fun g args hp os r hp' cs os' h hcs X vs hX hH hv => by
    unfold quietH at h
    split at h
    · rename_i e
      simp only [Nat.beq_eq] at e
      subst e
      split at h
      · rename_i r0 hr
        simp only [Option.some.injEq, Prod.mk.injEq] at h
        obtain ⟨rfl, rfl, rfl, rfl⟩ := h
        rw [← hH] at hr
        obtain ⟨g1, g2⟩ := qcall_ok hr hX hv
        exact ⟨g1, g2.mono fun e w' ⟨val, h1, h2, h3⟩ => ⟨val, X, h1, h2.symm, .refl X, hX, hH, h3⟩⟩
      · exact hkh _ _ _ _ _ _ _ _ h hcs X vs hX hH hv
    · exact hkh _ _ _ _ _ _ _ _ h hcs X vs hX hH hv
/-- A function that only reads: read where it is called, also in regions whose order is drawn. -/
def Env.addQ (E : Env P) (f : Nat) : Env P := { E with kh := quietH P f E.kh, hkh := quietH_ok E.hkh, kl := quietL P f E.kl, kd := fun g => Nat.beq g f || E.kd g, hkl := quietL_ok E.hkl }
end Go.Eng
