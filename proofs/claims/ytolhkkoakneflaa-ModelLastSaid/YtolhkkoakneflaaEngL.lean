import Derived.Laws.Concat
import Derived.Laws.Strings
import Derived.Test.YtolhkkoakneflaaEngK4
set_option linter.unusedVariables false
namespace Go.Eng
open Go Go.RowKit
variable {P : Program}

abbrev Rho := Operand → Option AV

/-- What an operation gives: its value, what blocks hold behind it, what it takes for granted, the choices left. -/
abbrev Res := AV × List (Nat × AB) × List Bool × List Bool

def plain (os : List Bool) (v : Option AV) : Option Res := v.map fun v => (v, [], [], os)
def plainC (os : List Bool) (v : Option (AV × List Bool)) : Option Res := v.map fun v => (v.1, [], v.2, os)

/-- An operation all of whose operands are plain. -/
def scal (P : Program) (o : Oper) (ρ : Rho) : Option AV :=
  if o.op.operands.toList.all fun x => ((ρ x).bind toVV).isSome then
    match pr P (execOp (fun x => ((ρ x).bind toVV).getD undef) o) with
    | some (.value v) => cvv v
    | _ => none
  else none

def aparts (ρ : Rho) : List (Nat × Operand) → Option (List (Nat × List AC))
  | [] => some []
  | (i, x) :: r => match (ρ x).bind AV.cs, aparts ρ r with
    | some c, some l => some ((i, c) :: l)
    | _, _ => none

def acaps (ρ : Rho) : List Operand → Option (List (Nat × Nat))
  | [] => some []
  | x :: r => match ρ x, acaps ρ r with
    | some (.one (.ptr i off)), some l => some ((i, off) :: l)
    | _, _ => none

/-- What may be absent among the operands. -/
def opt (ρ : Rho) : Option Operand → Option (Option AV)
  | none => some none
  | some x => (ρ x).map some

def noSelect : Op → Bool
  | .select _ _ => false
  | _ => true

/-- Plain operations on numbers and texts, without the model's long way. -/
def fastBin (op : BinOp) : AV → AV → Option (AV × List Bool)
  | .one (.int k a), .one (.int k' b) => match op with
    | .shl => some (.one (.int k (k.wrap (a * 2 ^ min b.toNat k.bits))), [decide (0 ≤ b)])
    | .shr => some (.one (.int k (a.fdiv (2 ^ min b.toNat k.bits))), [decide (0 ≤ b)])
    | .add => if (CT.int k).eqb (.int k') then some (.one (.int k (k.wrap (a + b))), []) else none
    | .sub => if (CT.int k).eqb (.int k') then some (.one (.int k (k.wrap (a - b))), []) else none
    | .mul => if (CT.int k).eqb (.int k') then some (.one (.int k (k.wrap (a * b))), []) else none
    | .lss => if (CT.int k).eqb (.int k') then some (.one (.bool (decide (a < b))), []) else none
    | .leq => if (CT.int k).eqb (.int k') then some (.one (.bool (decide (a ≤ b))), []) else none
    | .gtr => if (CT.int k).eqb (.int k') then some (.one (.bool (decide (a > b))), []) else none
    | .geq => if (CT.int k).eqb (.int k') then some (.one (.bool (decide (a ≥ b))), []) else none
    | _ => none
  | .one (.str p), .one (.str q) => match op with
    | .add => some (.one (.str (p ++ q)), [decide (p.size + q.size ≤ 9223372036854775807)])
    | _ => none
  | _, _ => none

theorem fastBin_ok {X : Ctx} {op : BinOp} {u v r : AV} {cs : List Bool} (h : fastBin op u v = some (r, cs)) (hcs : ∀ c ∈ cs, c = true) {xv yv : Value} (hx : VR X u xv) (hy : VR X v yv) (t : TypeId) (x y : Operand) (w : World) :
    ∃ val, (do eqGuard op t x y xv yv; binOp op t xv yv : Sem Value).run P w = .ok val w ∧ VR X r val := by
  unfold fastBin at h
  split at h
  · rename_i k a k' b
    have ex : xv = .int k a := hx
    have ey : yv = .int k' b := hy
    subst ex; subst ey
    split at h
    · simp only [Option.some.injEq, Prod.mk.injEq] at h
      obtain ⟨rfl, rfl⟩ := h
      have h0 := of_decide_eq_true (hcs _ (List.mem_cons_self ..))
      have h1 : ¬ b < 0 := by omega
      exact ⟨_, by simp [eqGuard, binOp, Op.shift, h1], rfl⟩
    · simp only [Option.some.injEq, Prod.mk.injEq] at h
      obtain ⟨rfl, rfl⟩ := h
      have h0 := of_decide_eq_true (hcs _ (List.mem_cons_self ..))
      have h1 : ¬ b < 0 := by omega
      exact ⟨_, by simp [eqGuard, binOp, Op.shift, h1], rfl⟩
    all_goals first
      | cases h
      | (split at h
         · rename_i hk
           have e := CT.eq_of_eqb _ _ hk
           injection e with e
           subst e
           simp only [Option.some.injEq, Prod.mk.injEq] at h
           obtain ⟨rfl, rfl⟩ := h
           exact ⟨_, by simp [eqGuard, binOp, Op.intArith, Op.intCmp], rfl⟩
         · cases h)
  · rename_i p q
    have ex : xv = .string p := hx
    have ey : yv = .string q := hy
    subst ex; subst ey
    split at h
    · simp only [Option.some.injEq, Prod.mk.injEq] at h
      obtain ⟨rfl, rfl⟩ := h
      have hsz := of_decide_eq_true (hcs _ (List.mem_cons_self ..))
      exact ⟨_, by simp [eqGuard, binOp_string_add, Go.run_string_add_sum (P := P) w p q hsz], rfl⟩
    · cases h
  · cases h

def mk0 : Operand → Bool
  | .const (.int _ (.ofNat 0)) => true
  | _ => false

def aop (P : Program) (o : Oper) (ρ : Rho) (H : Nat → Option AB) (nid : Nat) (os : List Bool) : Option Res :=
  match o.op with
  | .move x | .assign x => plain os (ρ x)
  | .alloc t => (azero P t).map fun cs => (.one (.ptr nid 0), [(nid, .cells cs)], [], os)
  | .box t x => ((ρ x).bind AV.cs).map fun cs => (.one (.ptr nid 0), [(nid, .cells cs)], [], os)
  | .load t p => plain os ((ρ p).bind (aload P t H))
  | .store t p x => match ρ p, ρ x with
    | some pv, some xv => (astore P t H pv xv).map fun u => (.one .unk, [u], [], os)
    | _, _ => none
  | .nilCheck x => match ρ x with
    | some (.one (.ptr i off)) => some (.one (.ptr i off), [], [], os)
    | some (.one (.elp r l i off)) => some (.one (.elp r l i off), [], [], os)
    | some (.one (.fn f c)) => some (.one (.fn f c), [], [], os)
    | some (.one (.mth f i off)) => some (.one (.mth f i off), [], [], os)
    | some (.one (.ael r i j d)) => some (.one (.ael r i j d), [], [], os)
    | some (.one (.pti i off n len)) => some (.one (.pti i off n len), [], [], os)
    | _ => none
  | .fieldAddr s x f => plain os ((ρ x).bind (afield P s f))
  | .field s x f => plain os ((ρ x).bind (afieldV P s f))
  | .indexAddr t x i => match ρ x, ρ i with
    | some xv, some iv => plainC os (aindexAddr P t xv iv)
    | _, _ => none
  | .index t x i => match ρ x, ρ i with
    | some xv, some iv => plainC os (aindex P t xv iv)
    | _, _ => none
  | .extract x i => plain os ((ρ x).bind (aextract · i))
  | .build t ps => plain os ((aparts ρ ps.toList).bind (abuild P t))
  | .buildSlice t n ps => plain os ((aparts ρ ps.toList).bind (abuildSlice P t n))
  | .slice t x lo hi mx => match ρ x, opt ρ lo, opt ρ hi, opt ρ mx with
    | some xv, some l, some h, some m => plainC os (aslice P t xv l h m)
    | _, _, _, _ => none
  | .makeFunc (.func f) first caps => if first.isEmpty then plain os ((acaps ρ caps.toList).map fun l => .one (.fn f l)) else
      match first.toList, caps.isEmpty with
      | [x], true => match ρ x with
        | some (.one (.ptr i off)) => some (.one (.mth f i off), [], [], os)
        | _ => none
      | _, _ => none
  | .binOp .eql t x y _ => match ρ x, ρ y with
    | some xv, some yv => match aeq P t xv yv with
      | some b => some (.one (.bool b), [], [], os)
      | none => plain os (scal P o ρ)
    | _, _ => none
  | .binOp .neq t x y _ => match ρ x, ρ y with
    | some xv, some yv => match aeq P t xv yv with
      | some b => some (.one (.bool (!b)), [], [], os)
      | none => plain os (scal P o ρ)
    | _, _ => none
  | .call { callee := .builtin .len, args, argTypes } => match args.toList, argTypes.toList with
    | [x], [t] => match ρ x with
      | some (.one (.sl row l m)) => if isSlT P t then some (.one (.int .i64 l.length), [], [], os) else none
      | some (.one (.csl i off len cap)) => if isSlT P t then some (.one (.int .i64 len), [], [], os) else none
      | some (.one (.asl row i off len cap)) => if isSlT P t then some (.one (.int .i64 len), [], [], os) else none
      | some _ => plain os (scal P o ρ)
      | none => none
    | _, _ => none
  | .call { callee := .builtin .cap, args, argTypes } => match args.toList, argTypes.toList with
    | [x], [t] => match ρ x with
      | some (.one (.csl i off len cap)) => if isSlT P t then some (.one (.int .i64 cap), [], [], os) else none
      | some (.one (.asl row i off len cap)) => if isSlT P t then some (.one (.int .i64 cap), [], [], os) else none
      | _ => none
    | _, _ => none
  | .call { callee := .builtin .copy, args, argTypes } => match args.toList, argTypes.toList with
    | [d, x], [t, t'] => match ρ d, ρ x with
      | some (.one dv), some (.one xv) => (acopy P t H dv xv).map fun u => (u.1, u.2, [], os)
      | _, _ => none
    | _, _ => none
  | .makeSlice t l c => match ρ l, ρ c with
    | some lv, some cv => match mk0 l, amake0 P t nid cv with
      | true, some u => some (u.1, u.2.1, u.2.2, os)
      | _, _ => (amake P t nid lv cv).map fun u => (u.1, u.2.1, u.2.2, os)
    | _, _ => none
  | .call { callee := .builtin .append, args, argTypes } => match args.toList, argTypes.toList with
    | [s, x], [t, t'] => if Nat.beq t t' then
        match ρ s, ρ x with
        | some (.one sv), some (.one xv) => aappend P t H nid sv xv os
        | _, _ => none
      else none
    | _, _ => none
  | .call { callee := .builtin .min, .. } => plain os (scal P o ρ)
  | .call { callee := .builtin .max, .. } => plain os (scal P o ρ)
  | .convert src dst x => match ρ x with
    | some (.one c) => if convB P src dst then (aconv P src dst H nid c).map fun u => (u.1, u.2.1, u.2.2, os) else plain os (scal P o ρ)
    | _ => plain os (scal P o ρ)
  | .binOp op t x y _ => match ρ x, ρ y with
    | some u, some v => match fastBin op u v with
      | some (r, cs) => some (r, [], cs, os)
      | none => plain os (scal P o ρ)
    | _, _ => none
  | .unOp .. => plain os (scal P o ρ)
  | .makeMap t none => (amakeMap P t nid).map fun u => (u.1, u.2, [], os)
  | .lookup t x i ok => match ρ x, ρ i with
    | some xv, some iv => plain os (alookup P t H xv iv ok)
    | _, _ => none
  | .mapUpdate t m k x => match ρ m, ρ k, ρ x with
    | some mv, some kv, some xv => (amapSet P t H mv kv xv).map fun u => (.one .unk, [u], [], os)
    | _, _, _ => none
  | _ => none

/-- What is known of the operands is so. -/
def RhoOk (X : Ctx) (ρ : Rho) (a : Act) (o : Oper) : Prop := ∀ x ∈ o.op.operands, ∀ v, ρ x = some v → VR X v (a.eval x)

theorem scal_ok {X : Ctx} {ρ : Rho} {a : Act} {o : Oper} (hρ : RhoOk X ρ a o) (hs : ∀ cs b, o.op ≠ .select cs b) {v : AV} (h : scal P o ρ = some v) :
    ∃ val, (execOp a.eval o).run P X.w = .ok (.value val) X.w ∧ VR X v val := by
  unfold scal at h
  split at h
  · rename_i hall
    have he : execOp a.eval o = execOp (fun x => ((ρ x).bind toVV).getD undef) o := execOp_congr o hs fun x hx => by
      have hx' := List.all_eq_true.1 hall x (by simpa using hx)
      cases hr : ρ x with
      | none => rw [hr] at hx'; cases hx'
      | some w =>
        rw [hr] at hx'
        simp only [Option.bind_some] at hx' ⊢
        cases hv : toVV w with
        | none => rw [hv] at hx'; cases hx'
        | some u => exact toVV_rel hv (hρ x hx w hr)
    split at h
    · rename_i val hp
      exact ⟨val, by rw [he]; exact pr_run P _ _ _ hp, cvv_rel X h⟩
    · cases h
  · cases h

theorem aparts_rel {X : Ctx} {ρ : Rho} {a : Act} : ∀ (ps : List (Nat × Operand)) (l : List (Nat × List AC)), aparts ρ ps = some l → (∀ p ∈ ps, ∀ v, ρ p.2 = some v → VR X v (a.eval p.2)) →
    PartsRel X l (ps.map fun (i, x) => (i, a.eval x))
  | [], l, h, _ => by simp only [aparts, Option.some.injEq] at h; subst h; exact PW.nil
  | (i, x) :: r, l, h, hr => by
    simp only [aparts] at h
    split at h
    · rename_i c l' h1 h2
      injection h with h; subst h
      cases hx : ρ x with
      | none => rw [hx] at h1; cases h1
      | some v =>
        rw [hx] at h1
        exact PW.cons ⟨rfl, (AV.cs_rel h1 (hr (i, x) (List.mem_cons_self ..) v hx)).1⟩ (aparts_rel r l' h2 fun p hp => hr p (List.mem_cons_of_mem _ hp))
    · cases h

theorem acaps_rel {X : Ctx} {ρ : Rho} {a : Act} : ∀ (ps : List Operand) (l : List (Nat × Nat)), acaps ρ ps = some l → (∀ x ∈ ps, ∀ v, ρ x = some v → VR X v (a.eval x)) →
    PW (fun (p : Nat × Nat) (v : Value) => (∃ b, X.H p.1 = some b ∧ b.loc = true) ∧ v = .pointer (some ⟨X.φ p.1, p.2, none⟩)) l (ps.map a.eval)
  | [], l, h, _ => by simp only [acaps, Option.some.injEq] at h; subst h; exact PW.nil
  | x :: r, l, h, hr => by
    simp only [acaps] at h
    split at h
    · rename_i i off l' h1 h2
      injection h with h; subst h
      exact PW.cons (hr x (List.mem_cons_self ..) _ h1) (acaps_rel r l' h2 fun p hp => hr p (List.mem_cons_of_mem _ hp))
    · cases h

theorem opt_rel {X : Ctx} {ρ : Rho} {a : Act} {x : Option Operand} {r : Option AV} (h : opt ρ x = some r) (hr : ∀ y, x = some y → ∀ v, ρ y = some v → VR X v (a.eval y)) : ORel X r (x.map a.eval) := by
  cases x with
  | none => simp only [opt, Option.some.injEq] at h; subst h; rfl
  | some y =>
    simp only [opt] at h
    cases hy : ρ y with
    | none => rw [hy] at h; cases h
    | some v =>
      rw [hy] at h
      simp only [Option.map_some, Option.some.injEq] at h
      subst h
      exact ⟨_, rfl, hr y rfl v hy⟩

/-- The blocks behind some changes. -/
def ups (H : Nat → Option AB) (l : List (Nat × AB)) : Nat → Option AB := l.foldl (fun H p => upd H p.1 (some p.2)) H

theorem plain_some {os : List Bool} {x : Option AV} {v : AV} {u : List (Nat × AB)} {cs r : List Bool} (h : plain os x = some (v, u, cs, r)) : x = some v ∧ u = [] ∧ cs = [] ∧ r = os := by
  unfold plain at h
  cases x with
  | none => cases h
  | some y =>
    simp only [Option.map_some, Option.some.injEq, Prod.mk.injEq] at h
    obtain ⟨rfl, rfl, rfl, rfl⟩ := h
    exact ⟨rfl, rfl, rfl, rfl⟩
theorem plainC_some {os : List Bool} {x : Option (AV × List Bool)} {v : AV} {u : List (Nat × AB)} {cs r : List Bool} (h : plainC os x = some (v, u, cs, r)) : x = some (v, cs) ∧ u = [] ∧ r = os := by
  unfold plainC at h
  cases x with
  | none => cases h
  | some y =>
    simp only [Option.map_some, Option.some.injEq, Prod.mk.injEq] at h
    obtain ⟨rfl, rfl, rfl, rfl⟩ := h
    exact ⟨rfl, rfl, rfl⟩

theorem OpSim.quiet {o : Oper} {a : Act} {X : Ctx} (hX : HRel X) {v : AV} {val : Value} (hr : (execOp a.eval o).run P X.w = .ok (.value val) X.w) (hv : VR X v val) : OpSim P o a X v X.H :=
  OpSim.of_run (X' := X) hr (.refl X) hX hv

set_option maxHeartbeats 2000000 in
theorem aop_sim {X : Ctx} (hX : HRel X) {nid : Nat} (hnid : X.H nid = none) {o : Oper} {a : Act} {ρ : Rho} (hρ : RhoOk X ρ a o) {os : List Bool} {v : AV} {u : List (Nat × AB)} {cs r : List Bool}
    (h : aop P o ρ X.H nid os = some (v, u, cs, r)) (hcs : ∀ c ∈ cs, c = true) : OpSim P o a X v (ups X.H u) := by
  obtain ⟨dst, op, type, pos, after, guard⟩ := o
  have opx : ∀ x, x ∈ op.operands → ∀ v, ρ x = some v → VR X v (a.eval x) := hρ
  cases op
  case move x =>
    obtain ⟨h1, rfl, rfl, rfl⟩ := plain_some h
    exact OpSim.quiet hX rfl (opx x (by simp [Op.operands]) v h1)
  case assign x =>
    obtain ⟨h1, rfl, rfl, rfl⟩ := plain_some h
    exact OpSim.quiet hX rfl (opx x (by simp [Op.operands]) v h1)
  case alloc t =>
    simp only [aop] at h
    cases hz : azero P t with
    | none => rw [hz] at h; cases h
    | some zs =>
      rw [hz] at h
      simp only [Option.map_some, Option.some.injEq, Prod.mk.injEq] at h
      obtain ⟨rfl, rfl, rfl, rfl⟩ := h
      obtain ⟨z, hzr, hzp⟩ := azero_rel (X := X) hz
      obtain ⟨h1, h2, h3⟩ := alloc_ok hX hnid hzp t
      refine OpSim.of_run (X' := X.push nid (.cells zs) (.cells z.cells t)) ?_ h1 h2 h3
      simp only [execOp, Sem.run_bind, run_allocI hzr, Result.andThen_ok, Sem.run_pure]
      rfl
  case box t x =>
    simp only [aop] at h
    cases hz : (ρ x).bind AV.cs with
    | none => rw [hz] at h; cases h
    | some zs =>
      rw [hz] at h
      simp only [Option.map_some, Option.some.injEq, Prod.mk.injEq] at h
      obtain ⟨rfl, rfl, rfl, rfl⟩ := h
      obtain ⟨w, hw, hcs'⟩ := bindO hz
      obtain ⟨h1, h2, h3⟩ := alloc_ok hX hnid (AV.cs_rel hcs' (opx x (by simp [Op.operands]) w hw)).1 t
      refine OpSim.of_run (X' := X.push nid (.cells zs) (.cells (a.eval x).cells t)) ?_ h1 h2 h3
      simp only [execOp, Sem.run_bind, run_boxI, Result.andThen_ok, Sem.run_pure]
      rfl
  case load t p =>
    obtain ⟨h1, rfl, rfl, rfl⟩ := plain_some h
    obtain ⟨pv, hp, hl⟩ := bindO h1
    obtain ⟨val, hr, hv⟩ := aload_ok (P := P) hX (opx p (by simp [Op.operands]) pv hp) hl
    exact OpSim.quiet hX (by simp only [execOp, Sem.run_bind, hr, Result.andThen_ok, Sem.run_pure]) hv
  case store t p x =>
    simp only [aop] at h
    split at h
    · rename_i pv xv hp hx
      cases hz : astore P t X.H pv xv with
      | none => rw [hz] at h; cases h
      | some uu =>
        rw [hz] at h
        simp only [Option.map_some, Option.some.injEq, Prod.mk.injEq] at h
        obtain ⟨rfl, rfl, rfl, rfl⟩ := h
        obtain ⟨i, b⟩ := uu
        obtain ⟨w', hr, h1, h2⟩ := astore_ok (P := P) hX (opx p (by simp [Op.operands]) pv hp) (opx x (by simp [Op.operands]) xv hx) hz
        refine OpSim.of_skip (X' := X.put i b w') ?_ h1 h2
        simp only [execOp, Sem.run_bind, hr, Result.andThen_ok, Sem.run_pure]
        rfl
    · cases h
  case nilCheck x =>
    simp only [aop] at h
    split at h
    · rename_i i off hx
      simp only [Option.some.injEq, Prod.mk.injEq] at h
      obtain ⟨rfl, rfl, rfl, rfl⟩ := h
      have hv := opx x (by simp [Op.operands]) _ hx
      obtain ⟨_, e⟩ := id hv
      exact OpSim.quiet hX (val := a.eval x) (by simp only [execOp, e]; rfl) hv
    · rename_i rr l i off hx
      simp only [Option.some.injEq, Prod.mk.injEq] at h
      obtain ⟨rfl, rfl, rfl, rfl⟩ := h
      have hv := opx x (by simp [Op.operands]) _ hx
      obtain ⟨_, b, oo, e, _⟩ := id hv
      exact OpSim.quiet hX (val := a.eval x) (by simp only [execOp, e]; rfl) hv
    · rename_i f c hx
      simp only [Option.some.injEq, Prod.mk.injEq] at h
      obtain ⟨rfl, rfl, rfl, rfl⟩ := h
      have hv := opx x (by simp [Op.operands]) _ hx
      obtain ⟨cc, e, _⟩ := id hv
      exact OpSim.quiet hX (val := a.eval x) (by simp only [execOp, e]; rfl) hv
    · rename_i f i off hx
      simp only [Option.some.injEq, Prod.mk.injEq] at h
      obtain ⟨rfl, rfl, rfl, rfl⟩ := h
      have hv := opx x (by simp [Op.operands]) _ hx
      obtain ⟨_, e⟩ := id hv
      exact OpSim.quiet hX (val := a.eval x) (by simp only [execOp, e]; rfl) hv
    · rename_i r i j d hx
      simp only [Option.some.injEq, Prod.mk.injEq] at h
      obtain ⟨rfl, rfl, rfl, rfl⟩ := h
      have hv := opx x (by simp [Op.operands]) _ hx
      obtain ⟨_, _, _, e⟩ := id hv
      exact OpSim.quiet hX (val := a.eval x) (by simp only [execOp, e]; rfl) hv
    · rename_i i off n len hx
      simp only [Option.some.injEq, Prod.mk.injEq] at h
      obtain ⟨rfl, rfl, rfl, rfl⟩ := h
      have hv := opx x (by simp [Op.operands]) _ hx
      obtain ⟨_, e, _⟩ := id hv
      exact OpSim.quiet hX (val := a.eval x) (by simp only [execOp, e]; rfl) hv
    · cases h
  case makeMap t r =>
    cases r with
    | some _ => cases h
    | none =>
      simp only [aop] at h
      cases hz : amakeMap P t nid with
      | none => rw [hz] at h; cases h
      | some uu =>
        rw [hz] at h
        simp only [Option.map_some, Option.some.injEq, Prod.mk.injEq] at h
        obtain ⟨rfl, rfl, rfl, rfl⟩ := h
        obtain ⟨v0, u0⟩ := uu
        obtain ⟨b, rfl, h1, h2, h3, h4⟩ := amakeMap_ok (P := P) hX hnid hz
        refine OpSim.of_run (X' := X.push nid b (.map #[] 0)) ?_ h2 h3 h4
        simp only [execOp, Option.map_none, Sem.run_bind, h1, Result.andThen_ok, Sem.run_pure]
        rfl
  case lookup t x i ok =>
    simp only [aop] at h
    split at h
    · rename_i xv iv hx hi
      obtain ⟨h1, rfl, rfl, rfl⟩ := plain_some h
      obtain ⟨val, hr, hv⟩ := alookup_ok (P := P) hX (opx x (by simp [Op.operands]) xv hx) (opx i (by simp [Op.operands]) iv hi) h1
      exact OpSim.quiet hX (by simp only [execOp, Sem.run_bind, hr, Result.andThen_ok, Sem.run_pure]) hv
    · cases h
  case mapUpdate t m k x =>
    simp only [aop] at h
    split at h
    · rename_i mv kv xv hm hk hx
      cases hz : amapSet P t X.H mv kv xv with
      | none => rw [hz] at h; cases h
      | some uu =>
        rw [hz] at h
        simp only [Option.map_some, Option.some.injEq, Prod.mk.injEq] at h
        obtain ⟨rfl, rfl, rfl, rfl⟩ := h
        obtain ⟨i, b⟩ := uu
        obtain ⟨w', hr, h1, h2⟩ := amapSet_ok (P := P) hX (opx m (by simp [Op.operands]) mv hm) (opx k (by simp [Op.operands]) kv hk) (opx x (by simp [Op.operands]) xv hx) hz
        refine OpSim.of_skip (X' := X.put i b w') ?_ h1 h2
        simp only [execOp, Sem.run_bind, hr, Result.andThen_ok, Sem.run_pure]
        rfl
    · cases h
  case fieldAddr s x f =>
    obtain ⟨h1, rfl, rfl, rfl⟩ := plain_some h
    obtain ⟨pv, hp, hl⟩ := bindO h1
    obtain ⟨val, hr, hv⟩ := afield_ok (P := P) (opx x (by simp [Op.operands]) pv hp) hl
    exact OpSim.quiet hX (by simp only [execOp, Sem.run_bind, hr, Result.andThen_ok, Sem.run_pure]) hv
  case field s x f =>
    obtain ⟨h1, rfl, rfl, rfl⟩ := plain_some h
    obtain ⟨pv, hp, hl⟩ := bindO h1
    obtain ⟨val, hr, hv⟩ := afieldV_ok (P := P) (opx x (by simp [Op.operands]) pv hp) hl X.w
    exact OpSim.quiet hX (by simp only [execOp, Sem.run_bind, hr, Result.andThen_ok, Sem.run_pure]) hv
  case indexAddr t x i =>
    simp only [aop] at h
    split at h
    · rename_i xv iv hx hi
      obtain ⟨h1, rfl, rfl⟩ := plainC_some h
      obtain ⟨val, hr, hv⟩ := aindexAddr_ok (P := P) (opx x (by simp [Op.operands]) xv hx) (opx i (by simp [Op.operands]) iv hi) h1 hcs
      exact OpSim.quiet hX (by simp only [execOp, Sem.run_bind, hr, Result.andThen_ok, Sem.run_pure]) hv
    · cases h
  case index t x i =>
    simp only [aop] at h
    split at h
    · rename_i xv iv hx hi
      obtain ⟨h1, rfl, rfl⟩ := plainC_some h
      obtain ⟨val, hr, hv⟩ := aindex_ok (P := P) (opx x (by simp [Op.operands]) xv hx) (opx i (by simp [Op.operands]) iv hi) h1 hcs
      exact OpSim.quiet hX (by simp only [execOp, Sem.run_bind, hr, Result.andThen_ok, Sem.run_pure]) hv
    · cases h
  case extract x i =>
    obtain ⟨h1, rfl, rfl, rfl⟩ := plain_some h
    obtain ⟨pv, hp, hl⟩ := bindO h1
    obtain ⟨val, hr, hv⟩ := aextract_ok (P := P) (opx x (by simp [Op.operands]) pv hp) hl X.w
    exact OpSim.quiet hX (by simp only [execOp, Sem.run_bind, hr, Result.andThen_ok, Sem.run_pure]) hv
  case build t ps =>
    obtain ⟨h1, rfl, rfl, rfl⟩ := plain_some h
    obtain ⟨l, hp, hl⟩ := bindO h1
    have hrel := aparts_rel (a := a) ps.toList l hp fun p hp v hv => opx p.2 (by simp only [Op.operands]; simp; exact ⟨p.1, by simpa using hp⟩) v hv
    obtain ⟨val, hr, hv⟩ := abuild_ok (P := P) (vals := ps.map fun (i, x) => (i, a.eval x)) (by rw [Array.toList_map]; exact hrel) hl X.w
    exact OpSim.quiet hX (by simp only [execOp, Sem.run_bind, hr, Result.andThen_ok, Sem.run_pure]) hv
  case buildSlice t n ps =>
    obtain ⟨h1, rfl, rfl, rfl⟩ := plain_some h
    obtain ⟨l, hp, hl⟩ := bindO h1
    have hrel := aparts_rel (a := a) ps.toList l hp fun p hp v hv => opx p.2 (by simp only [Op.operands]; simp; exact ⟨p.1, by simpa using hp⟩) v hv
    obtain ⟨val, ob, hr, hv⟩ := abuildSlice_ok (P := P) hX (vals := ps.map fun (i, x) => (i, a.eval x)) (by rw [Array.toList_map]; exact hrel) hl
    obtain ⟨h2, h3⟩ := quiet_alloc hX ob
    refine OpSim.of_run (X' := X.withW (X.w.alloc ob)) ?_ h2 h3 hv
    simp only [execOp, Sem.run_bind, hr, Result.andThen_ok, Sem.run_pure]
    rfl
  case slice t x lo hi mx =>
    simp only [aop] at h
    split at h
    · rename_i xv l hh m hx hl hhi hm
      obtain ⟨h1, rfl, rfl⟩ := plainC_some h
      obtain ⟨val, hr, hv⟩ := aslice_ok (P := P) (opx x (by simp [Op.operands]) xv hx) (opt_rel (a := a) hl fun y hy => opx y (by subst hy; simp [Op.operands]))
        (opt_rel (a := a) hhi fun y hy => opx y (by subst hy; simp [Op.operands])) (opt_rel (a := a) hm fun y hy => opx y (by subst hy; simp [Op.operands])) h1 hcs
      exact OpSim.quiet hX (by simp only [execOp, Sem.run_bind, hr, Result.andThen_ok, Sem.run_pure]) hv
    · cases h
  case makeFunc fn first caps =>
    cases fn <;> simp only [aop] at h <;> first | cases h | skip
    rename_i f
    split at h
    · rename_i hf
      obtain ⟨h1, rfl, rfl, rfl⟩ := plain_some h
      cases hc : acaps ρ caps.toList with
      | none => rw [hc] at h1; cases h1
      | some l =>
        rw [hc] at h1
        simp only [Option.map_some, Option.some.injEq] at h1
        subst h1
        have hrel := acaps_rel (a := a) caps.toList l hc fun x hx v hv => opx x (by simp only [Op.operands]; simp; right; simpa using hx) v hv
        have hfe : first = #[] := by simpa using hf
        subst hfe
        refine OpSim.quiet hX (val := .func (.func f) #[] (caps.map a.eval)) (by simp [execOp, Instr.makeFunc]) ⟨caps.map a.eval, rfl, ?_, fun j p hj => ?_⟩
        · have := hrel.1
          simpa using this.symm
        · obtain ⟨y, hy, h1, h2⟩ := hrel.at_ hj
          refine ⟨h1, ?_⟩
          rw [← h2, ← hy, ← Array.getElem?_toList, Array.toList_map]
    · split at h
      · rename_i x hfx hce
        split at h
        · rename_i i off hx
          simp only [Option.some.injEq, Prod.mk.injEq] at h
          obtain ⟨rfl, rfl, rfl, rfl⟩ := h
          have hv := opx x (by simp only [Op.operands]; simp; left; rw [← Array.mem_toList_iff, hfx]; simp) _ hx
          obtain ⟨hb, e⟩ := hv
          have hfe : first = #[x] := by rw [← Array.toList_inj, hfx]
          have hce' : caps = #[] := by simpa using hce
          subst hfe; subst hce'
          refine OpSim.quiet hX (val := .func (.func f) #[a.eval x] #[]) (by simp [execOp, Instr.makeFunc]) ⟨hb, by rw [e]⟩
        · cases h
      · cases h
  case binOp op t x y yt =>
    have hsc : ∀ v, scal P { dst, op := .binOp op t x y yt, type, pos, after, guard } ρ = some v → OpSim P { dst, op := .binOp op t x y yt, type, pos, after, guard } a X v X.H := fun v hv => by
      obtain ⟨val, h2, h3⟩ := scal_ok (P := P) hρ (fun _ _ e => by cases e) hv
      exact OpSim.quiet hX h2 h3
    have hfast : (match ρ x, ρ y with
        | some u, some v => match fastBin op u v with
          | some (r, cs) => some (r, [], cs, os)
          | none => plain os (scal P { dst, op := .binOp op t x y yt, type, pos, after, guard } ρ)
        | _, _ => (none : Option Res)) = some (v, u, cs, r) → OpSim P { dst, op := .binOp op t x y yt, type, pos, after, guard } a X v (ups X.H u) := fun h => by
      split at h
      · rename_i xu yu hx hy
        split at h
        · rename_i r0 cs0 hf
          simp only [Option.some.injEq, Prod.mk.injEq] at h
          obtain ⟨rfl, rfl, rfl, rfl⟩ := h
          obtain ⟨val, h1, h2⟩ := fastBin_ok (P := P) hf hcs (opx x (by simp [Op.operands]) _ hx) (opx y (by simp [Op.operands]) _ hy) t x y X.w
          refine OpSim.quiet hX (val := val) ?_ h2
          simp only [execOp]
          rw [Sem.run_bind, h1]
          rfl
        · obtain ⟨h1, rfl, rfl, rfl⟩ := plain_some h
          exact hsc v h1
      · cases h
    cases op <;> first
      | exact hfast h
      | skip
    · simp only [aop] at h
      split at h
      · rename_i xv yv hx hy
        split at h
        · rename_i b hb
          simp only [Option.some.injEq, Prod.mk.injEq] at h
          obtain ⟨rfl, rfl, rfl, rfl⟩ := h
          have := (aeq_run (P := P) hb (opx x (by simp [Op.operands]) xv hx) (opx y (by simp [Op.operands]) yv hy) x y X.w).1
          refine OpSim.quiet hX (val := .bool b) ?_ rfl
          simp only [execOp]
          rw [Sem.run_bind, this]
          rfl
        · obtain ⟨h1, rfl, rfl, rfl⟩ := plain_some h
          exact hsc v h1
      · cases h
    · simp only [aop] at h
      split at h
      · rename_i xv yv hx hy
        split at h
        · rename_i b hb
          simp only [Option.some.injEq, Prod.mk.injEq] at h
          obtain ⟨rfl, rfl, rfl, rfl⟩ := h
          have := (aeq_run (P := P) hb (opx x (by simp [Op.operands]) xv hx) (opx y (by simp [Op.operands]) yv hy) x y X.w).2
          refine OpSim.quiet hX (val := .bool (!b)) ?_ rfl
          simp only [execOp]
          rw [Sem.run_bind, this]
          rfl
        · obtain ⟨h1, rfl, rfl, rfl⟩ := plain_some h
          exact hsc v h1
      · cases h
  case unOp op t x =>
    obtain ⟨h1, rfl, rfl, rfl⟩ := plain_some h
    obtain ⟨val, h2, h3⟩ := scal_ok (P := P) hρ (fun _ _ e => by cases e) h1
    exact OpSim.quiet hX h2 h3
  case call c =>
    obtain ⟨callee, args, argTypes⟩ := c
    cases callee <;> first | cases h | skip
    rename_i b
    have hsc : ∀ v, scal P { dst, op := .call { callee := .builtin b, args, argTypes }, type, pos, after, guard } ρ = some v → OpSim P { dst, op := .call { callee := .builtin b, args, argTypes }, type, pos, after, guard } a X v X.H := fun v hv => by
      obtain ⟨val, h2, h3⟩ := scal_ok (P := P) hρ (fun _ _ e => by cases e) hv
      exact OpSim.quiet hX h2 h3
    cases b <;> first | cases h | skip
    · -- append
      simp only [aop] at h
      split at h
      · rename_i s x t t' ha ht
        split at h
        · rename_i htt
          simp only [Nat.beq_eq] at htt
          subst htt
          have ea : args = #[s, x] := by rw [← Array.toList_inj, ha]
          have et : argTypes = #[t, t] := by rw [← Array.toList_inj, ht]
          subst ea; subst et
          split at h
          · rename_i sv xv hs hx
            obtain ⟨val, X', g1, g2, g3, g4, g5⟩ := aappend_ok (P := P) hX hnid h hcs (opx s (by simp [Op.operands, Call.operands]) _ hs) (opx x (by simp [Op.operands, Call.operands]) _ hx) type
            have := OpSim.of_run (P := P) (o := { dst, op := .call { callee := .builtin .append, args := #[s, x], argTypes := #[t, t] }, type, pos, after, guard }) (a := a) (X := X) (X' := X') (v := v) (val := val)
              (by
                unfold execOp
                simp only [resolve, invoke, builtin, Sem.run_bind, Sem.run_pure, Result.andThen_ok, List.map_toArray, List.map_cons, List.map_nil, g1]) g2 g3 g5
            rw [g4] at this
            exact this
          · cases h
        · cases h
      · cases h
    all_goals first | (obtain ⟨h1, rfl, rfl, rfl⟩ := plain_some h; exact hsc v h1) | skip
    · -- cap
      simp only [aop] at h
      split at h
      · rename_i x t ha ht
        have ea : args = #[x] := by rw [← Array.toList_inj, ha]
        have et : argTypes = #[t] := by rw [← Array.toList_inj, ht]
        subst ea; subst et
        split at h
        · rename_i i off len cap hx
          split at h
          · rename_i hst
            simp only [Option.some.injEq, Prod.mk.injEq] at h
            obtain ⟨rfl, rfl, rfl, rfl⟩ := h
            obtain ⟨d, hd⟩ := isSlT_of hst
            obtain ⟨_, e1, _⟩ := opx x (by simp [Op.operands, Call.operands]) _ hx
            refine OpSim.quiet hX (val := .int .i64 cap) ?_ rfl
            unfold execOp
            simp only [resolve, invoke, builtin, Sem.run_bind, Sem.run_pure, Result.andThen_ok, List.map_toArray, List.map_cons, List.map_nil, e1]
            simp [Builtin.cap_, run_underlying hd, goInt]
          · cases h
        · rename_i row i off len cap hx
          split at h
          · rename_i hst
            simp only [Option.some.injEq, Prod.mk.injEq] at h
            obtain ⟨rfl, rfl, rfl, rfl⟩ := h
            obtain ⟨d, hd⟩ := isSlT_of hst
            obtain ⟨_, _, e1, _⟩ := opx x (by simp [Op.operands, Call.operands]) _ hx
            refine OpSim.quiet hX (val := .int .i64 cap) ?_ rfl
            unfold execOp
            simp only [resolve, invoke, builtin, Sem.run_bind, Sem.run_pure, Result.andThen_ok, List.map_toArray, List.map_cons, List.map_nil, e1]
            simp [Builtin.cap_, run_underlying hd, goInt]
          · cases h
        · cases h
      · cases h
    · -- copy
      simp only [aop] at h
      split at h
      · rename_i d x t t' ha ht
        have ea : args = #[d, x] := by rw [← Array.toList_inj, ha]
        have et : argTypes = #[t, t'] := by rw [← Array.toList_inj, ht]
        subst ea; subst et
        split at h
        · rename_i dv xv hd hx
          cases hz : acopy P t X.H dv xv with
          | none => rw [hz] at h; cases h
          | some r =>
            obtain ⟨v', u'⟩ := r
            rw [hz] at h
            simp only [Option.map_some, Option.some.injEq, Prod.mk.injEq] at h
            obtain ⟨rfl, rfl, rfl, rfl⟩ := h
            obtain ⟨val, X', g1, g2, g3, g4, g5⟩ := acopy_ok (P := P) (t' := t') (ty := type) hX (opx d (by simp [Op.operands, Call.operands]) _ hd) (opx x (by simp [Op.operands, Call.operands]) _ hx) hz
            have := OpSim.of_run (P := P) (o := { dst, op := .call { callee := .builtin .copy, args := #[d, x], argTypes := #[t, t'] }, type, pos, after, guard }) (a := a) (X := X) (X' := X') (v := v') (val := val)
              (by
                unfold execOp
                simp only [resolve, invoke, builtin, Sem.run_bind, Sem.run_pure, Result.andThen_ok, List.map_toArray, List.map_cons, List.map_nil, g1]) g2 g3 g5
            rw [g4] at this
            exact this
        · cases h
      · cases h
    · -- len
      simp only [aop] at h
      split at h
      · rename_i x t ha ht
        have ea : args = #[x] := by rw [← Array.toList_inj, ha]
        have et : argTypes = #[t] := by rw [← Array.toList_inj, ht]
        subst ea; subst et
        split at h
        · rename_i row l m hx
          split at h
          · rename_i hst
            simp only [Option.some.injEq, Prod.mk.injEq] at h
            obtain ⟨rfl, rfl, rfl, rfl⟩ := h
            obtain ⟨d, hd⟩ := isSlT_of hst
            obtain ⟨A, n, cap, e1, e2, _⟩ := opx x (by simp [Op.operands, Call.operands]) _ hx
            refine OpSim.quiet hX (val := .int .i64 l.length) ?_ rfl
            unfold execOp
            simp only [resolve, invoke, builtin, Sem.run_bind, Sem.run_pure, Result.andThen_ok, List.map_toArray, List.map_cons, List.map_nil, e1]
            simp [Builtin.len_, run_underlying hd, goInt, e2]
          · cases h
        · rename_i i off len cap hx
          split at h
          · rename_i hst
            simp only [Option.some.injEq, Prod.mk.injEq] at h
            obtain ⟨rfl, rfl, rfl, rfl⟩ := h
            obtain ⟨d, hd⟩ := isSlT_of hst
            obtain ⟨_, e1, _⟩ := opx x (by simp [Op.operands, Call.operands]) _ hx
            refine OpSim.quiet hX (val := .int .i64 len) ?_ rfl
            unfold execOp
            simp only [resolve, invoke, builtin, Sem.run_bind, Sem.run_pure, Result.andThen_ok, List.map_toArray, List.map_cons, List.map_nil, e1]
            simp [Builtin.len_, run_underlying hd, goInt]
          · cases h
        · rename_i row i off len cap hx
          split at h
          · rename_i hst
            simp only [Option.some.injEq, Prod.mk.injEq] at h
            obtain ⟨rfl, rfl, rfl, rfl⟩ := h
            obtain ⟨d, hd⟩ := isSlT_of hst
            obtain ⟨_, _, e1, _⟩ := opx x (by simp [Op.operands, Call.operands]) _ hx
            refine OpSim.quiet hX (val := .int .i64 len) ?_ rfl
            unfold execOp
            simp only [resolve, invoke, builtin, Sem.run_bind, Sem.run_pure, Result.andThen_ok, List.map_toArray, List.map_cons, List.map_nil, e1]
            simp [Builtin.len_, run_underlying hd, goInt]
          · cases h
        · obtain ⟨h1, rfl, rfl, rfl⟩ := plain_some h
          exact hsc v h1
        · cases h
      · cases h
  case convert sT dT x =>
    have hsc : ∀ v, scal P { dst, op := .convert sT dT x, type, pos, after, guard } ρ = some v → OpSim P { dst, op := .convert sT dT x, type, pos, after, guard } a X v X.H := fun v h1 => by
      obtain ⟨val, h2, h3⟩ := scal_ok (P := P) hρ (fun _ _ e => by cases e) h1
      exact OpSim.quiet hX h2 h3
    simp only [aop] at h
    split at h
    · rename_i c hx
      split at h
      · cases hz : aconv P sT dT X.H nid c with
        | none => rw [hz] at h; cases h
        | some r0 =>
          obtain ⟨v', u', cs'⟩ := r0
          rw [hz] at h
          simp only [Option.map_some, Option.some.injEq, Prod.mk.injEq] at h
          obtain ⟨rfl, rfl, rfl, rfl⟩ := h
          obtain ⟨val, X', g1, g2, g3, g4, g5⟩ := aconv_ok (P := P) hX hnid (opx x (by simp [Op.operands]) _ hx) hz hcs
          have := OpSim.of_run (P := P) (o := { dst, op := .convert sT dT x, type, pos, after, guard }) (a := a) (X := X) (X' := X') (v := v') (val := val)
            (by simp only [execOp, Sem.run_bind, g1, Result.andThen_ok, Sem.run_pure]) g2 g3 g5
          rw [g4] at this
          exact this
      · obtain ⟨h1, rfl, rfl, rfl⟩ := plain_some h
        exact hsc v h1
    · obtain ⟨h1, rfl, rfl, rfl⟩ := plain_some h
      exact hsc v h1
  case makeSlice t l c =>
    simp only [aop] at h
    split at h
    · rename_i lv cv hl hc
      split at h
      · rename_i u0 h0 hz
        obtain ⟨v', u', cs'⟩ := u0
        simp only [Option.some.injEq, Prod.mk.injEq] at h
        obtain ⟨rfl, rfl, rfl, rfl⟩ := h
        obtain ⟨kl, rfl⟩ : ∃ kl, l = .const (.int kl 0) := by
          unfold mk0 at h0
          split at h0
          · exact ⟨_, rfl⟩
          · cases h0
        obtain ⟨val, X', g1, g2, g3, g4, g5⟩ := amake0_ok (P := P) hX hnid (kl := kl) (opx c (by simp [Op.operands]) _ hc) hz hcs
        have := OpSim.of_run (P := P) (o := { dst, op := .makeSlice t (.const (.int kl 0)) c, type, pos, after, guard }) (a := a) (X := X) (X' := X') (v := v') (val := val)
          (by simp only [execOp]; rw [show a.eval (.const (.int kl 0)) = .int kl 0 from rfl]; simp only [Sem.run_bind, g1, Result.andThen_ok, Sem.run_pure]) g2 g3 g5
        rw [g4] at this
        exact this
      · rename_i hno
        cases hz : amake P t nid lv cv with
        | none => rw [hz] at h; cases h
        | some r =>
          obtain ⟨v', u', cs'⟩ := r
          rw [hz] at h
          simp only [Option.map_some, Option.some.injEq, Prod.mk.injEq] at h
          obtain ⟨rfl, rfl, rfl, rfl⟩ := h
          obtain ⟨val, X', g1, g2, g3, g4, g5⟩ := amake_ok (P := P) hX hnid (opx l (by simp [Op.operands]) _ hl) (opx c (by simp [Op.operands]) _ hc) hz hcs
          have := OpSim.of_run (P := P) (o := { dst, op := .makeSlice t l c, type, pos, after, guard }) (a := a) (X := X) (X' := X') (v := v') (val := val)
            (by simp only [execOp, Sem.run_bind, g1, Result.andThen_ok, Sem.run_pure]) g2 g3 g5
          rw [g4] at this
          exact this
    · cases h
  all_goals cases h
end Go.Eng
