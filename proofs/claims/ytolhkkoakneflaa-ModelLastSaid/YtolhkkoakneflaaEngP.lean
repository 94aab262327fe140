import Derived.Test.YtolhkkoakneflaaEngP0
import Derived.Orders
set_option linter.unusedVariables false
namespace Go.Eng
open Go Go.RowKit
variable {P : Program}

/-- Less is known of the blocks. -/
def HLe (H H' : Nat → Option AB) : Prop := ∀ i b, H i = some b → H' i = some b

theorem aload_mono {H H' : Nat → Option AB} (hh : HLe H H') {t : TypeId} {p v : AV} (h : aload P t H p = some v) : aload P t H' p = some v := by
  unfold aload at h ⊢
  split at h
  · rename_i i off ag n ht
    cases hi : H i with
    | none => rw [hi] at h; cases h
    | some b => rw [hi] at h; simp only [hh i b hi]; exact h
  · exact h
  · rename_i row i j d ag n ht
    cases hi : H i with
    | none => rw [hi] at h; cases h
    | some b => rw [hi] at h; simp only [hh i b hi]; exact h
  · rename_i i off n len ht
    cases hi : H i with
    | none => rw [hi] at h; cases h
    | some b => rw [hi] at h; simp only [hh i b hi]; exact h
  · cases h

theorem astore_mono {H H' : Nat → Option AB} (hh : HLe H H') {t : TypeId} {p v : AV} {u : Nat × AB} (h : astore P t H p v = some u) : astore P t H' p v = some u := by
  unfold astore at h ⊢
  split at h
  · rename_i i off ag n vs ht hvs
    cases hi : H i with
    | none => rw [hi] at h; cases h
    | some b => rw [hi] at h; simp only [hh i b hi]; exact h
  · rename_i row i j d ag n vs ht hvs
    cases hi : H i with
    | none => rw [hi] at h; cases h
    | some b => rw [hi] at h; simp only [hh i b hi]; exact h
  · rename_i i off n len ag v ht hvs
    cases hi : H i with
    | none => rw [hi] at h; cases h
    | some b => rw [hi] at h; simp only [hh i b hi]; exact h
  · cases h

theorem aslRows_mono {H H' : Nat → Option AB} (hh : HLe H H') {row : CT} {j off len : Nat} {u} (h : aslRows H row j off len = some u) : aslRows H' row j off len = some u := by
  unfold aslRows at h ⊢
  cases hi : H j with
  | none => rw [hi] at h; cases h
  | some b => rw [hi] at h; rw [hh j b hi]; exact h
theorem rowsIn_mono {H H' : Nat → Option AB} (hh : HLe H H') {e : TypeId} {x : AC} {u} (h : rowsIn P H e x = some u) : rowsIn P H' e x = some u := by
  unfold rowsIn cslRows at h ⊢
  split at h
  · exact h
  · rename_i j off len cap
    cases hj : H j with
    | none => rw [hj] at h; split at h <;> first | cases h | (rename_i hq; cases hq)
    | some b => rw [hj] at h; rw [hh j b hj]; exact h
  · rename_i row j off len cap
    cases hr : aslRows H row j off len with
    | none => rw [hr] at h; cases h
    | some r => rw [hr] at h; rw [aslRows_mono hh hr]; exact h
  · cases h

theorem cslRows_mono {H H' : Nat → Option AB} (hh : HLe H H') {e : TypeId} {j off len : Nat} {u} (h : cslRows P H e j off len = some u) : cslRows P H' e j off len = some u :=
  rowsIn_mono hh (x := .csl j off len len) h

theorem aappend_mono {H H' : Nat → Option AB} (hh : HLe H H') {t : TypeId} {nid : Nat} {s x : AC} {os : List Bool} {u} (h : aappend P t H nid s x os = some u) : aappend P t H' nid s x os = some u := by
  unfold aappend at h ⊢
  split at h
  · exact h
  · rename_i e hu hne
    split at h
    · rename_i i zs row l2 hi hz hrows
      simp only [hi, hz, rowsIn_mono hh hrows]
      split at h
      · rename_i hc
        simp only [hc, if_true]
        split at h
        · exact h
        · split at h
          · rename_i j off len cap
            split at h
            · rename_i old hold
              simp only [hh j _ hold]
              split at h
              · rename_i hroom
                rw [if_pos hroom]
                exact h
              · rename_i hroom
                rw [if_neg hroom]
                split at h
                · rename_i row' l hr
                  rw [cslRows_mono hh hr]
                  exact h
                · cases h
            · cases h
          · rename_i row' j off len cap
            split at h
            · rename_i hold
              simp only [hh j _ hold]
              exact h
            · cases h
          · split at h
            · cases h
            · split at h
              · exact h
              · split at h
                · rename_i hk
                  simp only [hh _ _ hk]
                  exact h
                · cases h
              · cases h
              · cases h
      · cases h
    · cases h
  · cases h

theorem acopy_mono {H H' : Nat → Option AB} (hh : HLe H H') {t : TypeId} {d x : AC} {u} (h : acopy P t H d x = some u) : acopy P t H' d x = some u := by
  unfold acopy at h ⊢
  split at h
  · rename_i row i off len cap e s he
    split at h
    · rename_i src row' l hsrc hH
      have h2 : srcRows H' row x = some src := by
        unfold srcRows at hsrc ⊢
        split at hsrc
        · exact hsrc
        · exact hsrc
        · split at hsrc
          · rename_i hr
            rw [if_pos hr]; exact aslRows_mono hh hsrc
          · cases hsrc
        · cases hsrc
      simp only [h2, hh i _ hH]
      exact h
    · cases h
  · rename_i i off len cap e s m he hm
    split at h
    · rename_i src cs hsrc hH
      have h2 : srcCells H' s (Nat.min m len) x = some src := by
        unfold srcCells at hsrc ⊢
        split at hsrc
        · exact hsrc
        · exact hsrc
        · rename_i j off len cap
          cases hj : H j with
          | none => rw [hj] at hsrc; cases hsrc
          | some b => rw [hj] at hsrc; rw [hh j b hj]; exact hsrc
        · cases hsrc
      simp only [h2, hh i _ hH]
      exact h
    · cases h
  · cases h

theorem aconv_mono {H H' : Nat → Option AB} (hh : HLe H H') {src dst : TypeId} {nid : Nat} {x : AC} {u} (h : aconv P src dst H nid x = some u) : aconv P src dst H' nid x = some u := by
  unfold aconv at h ⊢
  split at h
  · exact h
  · exact h
  · split at h
    · split at h
      · rename_i hr
        rw [rowsIn_mono hh hr]; exact h
      · cases h
    · cases h

theorem alookup_mono {H H' : Nat → Option AB} (hh : HLe H H') {t : TypeId} {x ix : AV} {ok : Bool} {u} (h : alookup P t H x ix ok = some u) : alookup P t H' x ix ok = some u := by
  unfold alookup at h ⊢
  split at h
  · rename_i i hm
    cases hj : H i with
    | none => rw [hj] at h; cases h
    | some b => rw [hj] at h; rw [hh i b hj]; exact h
  · cases h
theorem amapSet_mono {H H' : Nat → Option AB} (hh : HLe H H') {t : TypeId} {m k x : AV} {u} (h : amapSet P t H m k x = some u) : amapSet P t H' m k x = some u := by
  unfold amapSet at h ⊢
  split at h
  · rename_i i hm
    cases hj : H i with
    | none => rw [hj] at h; cases h
    | some b => rw [hj] at h; rw [hh i b hj]; exact h
  · cases h

theorem aop_mono {H H' : Nat → Option AB} (hh : HLe H H') {o : Oper} {ρ : Rho} {nid : Nat} {os : List Bool} {u : Res} (h : aop P o ρ H nid os = some u) : aop P o ρ H' nid os = some u := by
  obtain ⟨dst, op, type, pos, after, guard⟩ := o
  cases op
  case load t p =>
    simp only [aop, plain] at h ⊢
    cases hp : ρ p with
    | none => rw [hp] at h; cases h
    | some v =>
      rw [hp] at h
      simp only [Option.bind_some] at h ⊢
      cases hl : aload P t H v with
      | none => rw [hl] at h; cases h
      | some r => rw [hl] at h; rw [aload_mono hh hl]; exact h
  case store t p x =>
    simp only [aop] at h ⊢
    split at h
    · rename_i pv xv h1 h2
      cases hl : astore P t H pv xv with
      | none => rw [hl] at h; cases h
      | some r => rw [hl] at h; rw [astore_mono hh hl]; exact h
    · cases h
  case convert sT dT x =>
    simp only [aop] at h ⊢
    split at h
    · rename_i c hc
      split at h
      · rename_i hb
        rw [if_pos hb]
        cases ha : aconv P sT dT H nid c with
        | none => rw [ha] at h; cases h
        | some r => rw [ha] at h; rw [aconv_mono hh ha]; exact h
      · rename_i hb
        rw [if_neg hb]; exact h
    · exact h
  case call c =>
    obtain ⟨callee, args, argTypes⟩ := c
    cases callee
    case builtin b =>
      cases b
      case append =>
        simp only [aop] at h ⊢
        split at h
        · split at h
          · rename_i hc
            simp only [hc, if_true]
            split at h
            · exact aappend_mono hh h
            · cases h
          · cases h
        · cases h
      case copy =>
        simp only [aop] at h ⊢
        split at h
        · split at h
          · rename_i dv xv h1 h2
            cases hl : acopy P _ H dv xv with
            | none => rw [hl] at h; cases h
            | some r => rw [hl] at h; rw [acopy_mono hh hl]; exact h
          · cases h
        · cases h
      all_goals exact h
    all_goals exact h
  case lookup t x i ok =>
    simp only [aop, plain] at h ⊢
    split at h
    · rename_i xv iv h1 h2
      cases hl : alookup P t H xv iv ok with
      | none => rw [hl] at h; cases h
      | some r => rw [hl] at h; rw [alookup_mono hh hl]; exact h
    · cases h
  case mapUpdate t m k x =>
    simp only [aop] at h ⊢
    split at h
    · rename_i mv kv xv h1 h2 h3
      cases hl : amapSet P t H mv kv xv with
      | none => rw [hl] at h; cases h
      | some r => rw [hl] at h; rw [amapSet_mono hh hl]; exact h
    · cases h
  case makeMap t r => cases r <;> exact h
  case binOp op t x y yt => cases op <;> exact h
  case makeFunc fn first caps => cases fn <;> exact h
  all_goals exact h

/-- The blocks that a value names. -/
def aids : AV → List Nat
  | .one (.ptr i _) => [i]
  | .one (.pti i _ _ _) => [i]
  | .one (.msl i _ _) => [i]
  | .one (.csl i _ _ _) => [i]
  | .one (.asl _ i _ _ _) => [i]
  | .one (.ael _ i _ _) => [i]
  | .one (.sl _ _ (.own i _)) => [i]
  | .one (.mref i) => [i]
  | _ => []

def evT (T : Nat → Option AV) : Operand → Option AV
  | .tmp t => T t
  | .const v => cvv v
  | .func f => some (.one (.fn f []))
  | .global _ => none

def isIn (k : Nat) : List Nat → Bool
  | [] => false
  | x :: r => Nat.beq x k || isIn k r

theorem isIn_iff {k : Nat} : ∀ {l : List Nat}, isIn k l = true ↔ k ∈ l
  | [] => by simp [isIn]
  | x :: r => by
    simp only [isIn, Bool.or_eq_true, Nat.beq_eq, isIn_iff (l := r), List.mem_cons]
    exact ⟨fun h => h.imp Eq.symm id, fun h => h.imp Eq.symm id⟩

def only {α : Type} (l : List Nat) (T : Nat → Option α) : Nat → Option α := fun k => if isIn k l then T k else none

/-- What an operation did, in a region that draws its order: what it wrote, what it looked at, the blocks that it looked at, the pieces of blocks that it looked at, its own new block's number, the blocks that it wrote, the piece of a block that it wrote. -/
structure DRec where
  dst : Option Nat
  v : AV
  rs : List Nat
  rh : List Nat
  rp : List (Nat × Nat × Nat)
  nid : Nat
  u : List (Nat × AB)
  p : Option (Nat × Nat × List AC)

def paramsOf (P : Program) (k : Nat) : List TypeId :=
  match P.funcs[k]? with
  | some fn => fn.params.toList
  | none => []

theorem seeC_mono {H H' : Nat → Option AB} (hh : HLe H H') {c c1 : AC} (hc : seeC H c = some c1) : seeC H' c = some c1 := by
  unfold seeC at hc ⊢
  split at hc
  · rename_i i off
    cases hi : H i with
    | none => rw [hi] at hc; cases hc
    | some b => rw [hi] at hc; simp only [hh i b hi]; exact hc
  · exact hc
  · exact hc
  · exact hc
  · exact hc
  · exact hc
  · exact hc
  · exact hc
  · exact hc
  · exact hc
  · rename_i row i off len cap
    cases ha : aslRows H row i off len with
    | none => rw [ha] at hc; cases hc
    | some r => rw [ha] at hc; simp only [aslRows_mono hh ha]; exact hc
  · exact hc
theorem seeCs_mono {H H' : Nat → Option AB} (hh : HLe H H') : ∀ {cs cs' : List AC}, seeCs H cs = some cs' → seeCs H' cs = some cs'
  | [], cs', h => h
  | c :: l, cs', h => by
    simp only [seeCs] at h ⊢
    split at h
    · rename_i p q h1 h2
      rw [seeC_mono hh h1, seeCs_mono hh h2]
      exact h
    · cases h
theorem seeA_mono {H H' : Nat → Option AB} (hh : HLe H H') {t : Option TypeId} {c c' : AV} (h : seeA P H t c = some c') : seeA P H' t c = some c' := by
  unfold seeA at h ⊢
  split at h
  · split at h
    · split at h
      · rename_i hr
        simp only [cslRows_mono hh hr]
        exact h
      · cases h
    · cases h
  · rename_i c hne
    cases hc : seeC H c with
    | none => rw [hc] at h; cases h
    | some c1 =>
      rw [hc] at h
      rw [seeC_mono hh hc]
      exact h
  · rename_i cs
    cases hc : seeCs H cs with
    | none => rw [hc] at h; cases h
    | some c1 =>
      rw [hc] at h
      rw [seeCs_mono hh hc]
      exact h
  · exact h

theorem seeAs_mono {H H' : Nat → Option AB} (hh : HLe H H') : ∀ {ts : List TypeId} {cs cs' : List AV}, seeAs P H ts cs = some cs' → seeAs P H' ts cs = some cs'
  | ts, [], cs', h => h
  | ts, c :: l, cs', h => by
    simp only [seeAs] at h ⊢
    split at h
    · rename_i p q h1 h2
      rw [seeA_mono hh h1, seeAs_mono hh h2]
      exact h
    · cases h

/-- Contracts of functions that touch some of the caller's blocks, which they name. -/
abbrev KL := Nat → List AV → (Nat → Option AB) → List Bool → Option (AV × List (Nat × AB) × List Bool × List Bool)
structure KX where
  p : KP
  l : KL
  d : Nat → Bool
def KLok (P : Program) (kl : KL) : Prop :=
  (∀ f args H H' os u, HLe H H' → kl f args H os = some u → kl f args H' os = some u) ∧
  ∀ f args os v u cs os' X, HRel X → kl f args X.H os = some (v, u, cs, os') → (∀ c ∈ cs, c = true) → ∀ vs, PW (VR X) args vs →
    (∃ fn, P.funcs[f]? = some fn ∧ (fn.name == "runtime.NumGoroutine") = false ∧ fn.body.isNone = false) ∧
    Calls P f vs.toArray X.w fun e w' => ∃ val X', e = .returned val ∧ X'.w = w' ∧ X.le X' ∧ HRel X' ∧ X'.H = ups X.H u ∧ VR X' v val
structure KXok (P : Program) (k : KX) : Prop where
  p : KPok P k.p
  l : KLok P k.l
def klN : KL := fun _ _ _ _ => none
theorem klN_ok : KLok P klN := by
  refine ⟨fun f args H H' os u hh h => ?_, fun f args os v u cs os' X hX h => ?_⟩
  · cases h
  · cases h

def dval (P : Program) (kp : KX) (o : Oper) (ρ : Rho) (H : Nat → Option AB) (nid : Nat) (os : List Bool) : Option Res :=
  match o.op with
  | .pick c a b => match ρ c with
    | some (.one (.bool x)) => match br x os with
      | (t, cs, r) => match ρ (if t then a else b) with
        | some v => some (v, [], cs, r)
        | none => none
    | _ => none
  | .call { callee := .value f, .. } => match callOf ρ o with
    | some (k, args) => match kp.p k args os with
      | some (v, cs, r) => some (v, [], cs, r)
      | none => if kp.d k then kp.l k args H os else match seeAs P H (paramsOf P k) args with
        | some args' => match kp.p k args' os with
          | some (v, cs, r) => if bareA v then some (v, [], cs, r) else none
          | none => none
        | none => none
    | none => none
  | _ => match aop P o ρ H nid [] with
    | some (v, u, cs, _) => some (v, u, cs, os)
    | none => none

theorem dval_mono {H H' : Nat → Option AB} (hh : HLe H H') {kp : KX} (hk : KXok P kp) {o : Oper} {ρ : Rho} {nid : Nat} {os : List Bool} {u : Res} (h : dval P kp o ρ H nid os = some u) : dval P kp o ρ H' nid os = some u := by
  unfold dval at h ⊢
  split at h
  · exact h
  · split at h
    · split at h
      · exact h
      · split at h
        · rename_i hd
          rw [if_pos hd]
          exact hk.l.1 _ _ _ _ _ _ hh h
        · rename_i hd
          rw [if_neg hd]
          split at h
          · rename_i h2
            rw [seeAs_mono hh h2]
            exact h
          · cases h
    · cases h
  · split at h
    · rename_i ha
      rw [aop_mono hh ha]
      exact h
    · cases h

theorem dval_sim {kp : KX} (hkp : KXok P kp) {X : Ctx} (hX : HRel X) {nid : Nat} (hnid : X.H nid = none) {o : Oper} {a : Act} {ρ : Rho} (hρ : RhoOk X ρ a o) {os : List Bool} {v : AV} {u : List (Nat × AB)} {cs r : List Bool}
    (h : dval P kp o ρ X.H nid os = some (v, u, cs, r)) (hcs : ∀ c ∈ cs, c = true) : OpSim P o a X v (ups X.H u) := by
  unfold dval at h
  split at h
  · rename_i c x y ho
    split at h
    · rename_i xb hx
      split at h
      rename_i t cs' r' hbr
      split at h
      · rename_i v' hv
        simp only [Option.some.injEq, Prod.mk.injEq] at h
        obtain ⟨rfl, rfl, rfl, rfl⟩ := h
        have hcv : a.eval c = .bool xb := hρ c (by rw [ho]; simp [Op.operands]) _ hx
        have hb := br_eq (b := xb) (os := os) (by rw [hbr]; exact hcs)
        rw [hbr] at hb
        simp only at hb
        subst hb
        have hval := hρ (if t then x else y) (by rw [ho]; cases t <;> simp [Op.operands]) _ hv
        have hrun : (execOp a.eval o).run P X.w = .ok (.value (if t then a.eval x else a.eval y)) X.w := by
          unfold execOp
          simp only [ho, hcv, asBool, Sem.run_bind, Sem.run_pure, Result.andThen_ok]
        exact OpSim.of_run (X' := X) hrun (.refl X) hX (by cases t <;> exact hval)
      · cases h
    · cases h
  · rename_i f cargs cty ho
    split at h
    · rename_i k args hcall
      obtain ⟨vs, hvs, hwp⟩ := callOf_wp (P := P) hρ hcall
      split at h
      · rename_i v' cs' r' hk
        simp only [Option.some.injEq, Prod.mk.injEq] at h
        obtain ⟨rfl, rfl, rfl, rfl⟩ := h
        obtain ⟨⟨fn, g1, g2, g3⟩, hcalls⟩ := hkp.p k args os v' cs' r' hk hcs X vs hX hvs
        intro next Q hn
        refine hwp fn g1 g2 g3 (fun val w' => ∃ X', X'.w = w' ∧ X.le X' ∧ HRel X' ∧ X'.H = X.H ∧ VR X' v' val) next Q (hcalls.mono fun e w' ⟨val, X', h1, h2, h3, h4, h5, h6⟩ => ⟨val, h1, X', h2, h3, h4, h5, h6⟩) ?_
        rintro val w' ⟨X', rfl, h3, h4, h5, h6⟩
        exact hn val X' h3 h4 h5 h6
      · split at h
        · obtain ⟨⟨fn, g1, g2, g3⟩, hcalls⟩ := hkp.l.2 k args os v u cs r X hX h hcs vs hvs
          intro next Q hn
          refine hwp fn g1 g2 g3 (fun val w' => ∃ X', X'.w = w' ∧ X.le X' ∧ HRel X' ∧ X'.H = ups X.H u ∧ VR X' v val) next Q (hcalls.mono fun e w' ⟨val, X', h1, h2, h3, h4, h5, h6⟩ => ⟨val, h1, X', h2, h3, h4, h5, h6⟩) ?_
          rintro val w' ⟨X', rfl, h3, h4, h5, h6⟩
          exact hn val X' h3 h4 h5 h6
        · split at h
          · rename_i args' hsee
            split at h
            · rename_i v' cs' r' hk
              split at h
              · rename_i hbare
                simp only [Option.some.injEq, Prod.mk.injEq] at h
                obtain ⟨rfl, rfl, rfl, rfl⟩ := h
                obtain ⟨⟨fn, g1, g2, g3⟩, hcalls⟩ := see_call hkp.p hX hsee hk hbare hcs hvs
                intro next Q hn
                refine hwp fn g1 g2 g3 (fun val w' => ∃ X', X'.w = w' ∧ X.le X' ∧ HRel X' ∧ X'.H = X.H ∧ VR X' v' val) next Q (hcalls.mono fun e w' ⟨val, X', h1, h2, h3, h4, h5, h6⟩ => ⟨val, h1, X', h2, h3, h4, h5, h6⟩) ?_
                rintro val w' ⟨X', rfl, h3, h4, h5, h6⟩
                exact hn val X' h3 h4 h5 h6
              · cases h
            · cases h
          · cases h
    · cases h
  · split at h
    · rename_i v' u' cs' r' ha
      simp only [Option.some.injEq, Prod.mk.injEq] at h
      obtain ⟨rfl, rfl, rfl, rfl⟩ := h
      exact aop_sim hX hnid hρ ha hcs
    · cases h

def slotsOf (l : List Operand) : List Nat := l.filterMap fun | .tmp t => some t | _ => none

def fits (d : Option Nat) (nt : Nat) : Bool :=
  match d with
  | none => true
  | some d => Nat.blt d nt

def looksBlocks : Op → Bool
  | .convert .. => true
  | .call { callee := .builtin .append, .. } => true
  | .call { callee := .builtin .copy, .. } => true
  | .load .. => true
  | .store .. => true
  | .lookup .. => true
  | .mapUpdate .. => true
  | _ => false

/-- The blocks that a call may look at. -/
def callIds : AV → List Nat
  | .one (.ptr i _) => [i, i - 1]
  | .one (.csl i _ _ _) => [i]
  | .one (.asl _ i _ _ _) => [i]
  | .one (.ael _ i _ _) => [i]
  | .one (.fn _ caps) => caps.map (·.1)
  | .one (.mth _ i _) => [i]
  | .one (.mref i) => [i]
  | .agg cs => cs.flatMap fun c => match c with
    | .ptr i _ => [i]
    | .asl _ i _ _ _ => [i]
    | .csl i _ _ _ => [i]
    | .mref i => [i]
    | _ => []
  | _ => []

def isCall : Op → Bool
  | .call { callee := .value _, .. } => true
  | _ => false

def rhOf (o : Oper) (ρ : Rho) : List Nat := if isCall o.op then o.op.operands.toList.flatMap fun x => ((ρ x).map callIds).getD [] else if looksBlocks o.op then o.op.operands.toList.flatMap fun x => ((ρ x).map aids).getD [] else []

def recGen (P : Program) (kp : KX) (o : Oper) (ss : List Nat) (T : Nat → Option AV) (H : Nat → Option AB) (nid : Nat) (os : List Bool) : Option (DRec × List Bool × List Bool) :=
  match dval P kp o (evT (only ss T)) (only (rhOf o (evT (only ss T))) H) nid os with
  | some (v, u, cs, r) => some ({ dst := o.dst, v, rs := ss, rh := rhOf o (evT (only ss T)), rp := [], nid, u, p := none }, cs, r)
  | none => none

def recOf (P : Program) (kp : KX) (o : Oper) (ss : List Nat) (T : Nat → Option AV) (H : Nat → Option AB) (nid : Nat) (os : List Bool) : Option (DRec × List Bool × List Bool) :=
  match o.op with
  | .load t a => match evT (only ss T) a with
    | some (.one (.ptr i off)) => match ty P t, aload P t H (.one (.ptr i off)) with
      | some (_, n), some v => some ({ dst := o.dst, v, rs := ss, rh := [], rp := [(i, off, n)], nid, u := [], p := none }, [], os)
      | _, _ => none
    | _ => recGen P kp o ss T H nid os
  | .store t a x => match evT (only ss T) a, evT (only ss T) x with
    | some (.one (.ptr i off)), some xv => match ty P t, xv.cs, H i with
      | some (_, n), some vs, some (.cells cs) => if vs.length == n && Nat.ble (off + n) cs.length then
          some ({ dst := o.dst, v := .one .unk, rs := ss, rh := [], rp := [(i, 0, 0)], nid, u := [], p := some (i, off, vs) }, [], os)
        else none
      | _, _, _ => none
    | _, _ => recGen P kp o ss T H nid os
  | _ => recGen P kp o ss T H nid os

/-- An operation's row, at what is known of slots and blocks; what is taken for granted; the choices left. -/
def drec (P : Program) (kp : KX) (ops : Array Oper) (o : Oper) (nt : Nat) (T : Nat → Option AV) (H : Nat → Option AB) (nid : Nat) (os : List Bool) : Option (DRec × List Bool × List Bool) :=
  if fits o.dst nt then
    match o.guard with
    | none => recOf P kp o (slotsOf o.op.operands.toList) T H nid os
    | some (j, want) => match (ops[j]?).bind (·.dst) with
      | none => none
      | some s => match T s with
        | some (.one (.bool b)) => match br b os with
          | (t, cs, r) => if t == want then
              match recOf P kp o (s :: slotsOf o.op.operands.toList) T H nid r with
              | some (d, cs', r') => some (d, cs' ++ cs, r')
              | none => none
            else some ({ dst := o.dst, v := .tup [], rs := s :: slotsOf o.op.operands.toList, rh := [], rp := [], nid, u := [], p := none }, cs, r)
        | some (.tup []) => some ({ dst := o.dst, v := .tup [], rs := s :: slotsOf o.op.operands.toList, rh := [], rp := [], nid, u := [], p := none }, [], os)
        | _ => none
  else none

def DRec.writes (r : DRec) (s : Nat) : Bool :=
  match r.dst with
  | none => false
  | some d => Nat.beq d s

def DRec.keys (r : DRec) : List Nat := r.nid :: r.u.map (·.1)

/-- What slots and blocks hold once some of the operations are done (the rows: the last first). -/
def slotAt (T0 : Nat → Option AV) (S : Nat → Bool) : List DRec → Nat → Option AV
  | [], s => T0 s
  | r :: L, s => if r.writes s && S L.length then some r.v else slotAt T0 S L s

/-- A block whose cells are written from one on. -/
def patchC (lo : Nat) (vs : List AC) : Option AB → Option AB
  | some (.cells cs) => if lo + vs.length ≤ cs.length then some (.cells (cs.take lo ++ (vs ++ cs.drop (lo + vs.length)))) else some (.cells cs)
  | h => h

def findU (x : Nat) : List (Nat × AB) → Option AB
  | [] => none
  | p :: r => match findU x r with
    | some b => some b
    | none => if Nat.beq p.1 x then some p.2 else none

/-- What an operation leaves of a block. -/
def DRec.at (r : DRec) (x : Nat) (h : Option AB) : Option AB :=
  match findU x r.u with
  | some b => some b
  | none => match r.p with
    | some (k, lo, vs) => if Nat.beq k x then patchC lo vs h else h
    | none => h

def heapAt (H0 : Nat → Option AB) (S : Nat → Bool) : List DRec → Nat → Option AB
  | [], x => H0 x
  | r :: L, x => if S L.length then r.at x (heapAt H0 S L x) else heapAt H0 S L x

def all : Nat → Bool := fun _ => true

/-- All blocks that an operation has to do with. -/
def DRec.ids (r : DRec) : List Nat := r.rh ++ (r.keys ++ (r.rp.map (·.1) ++ (match r.p with | some (k, _, _) => [k] | none => [])))

/-- Is a piece of a block looked at, or written? -/
def DRec.touches (r : DRec) (k lo n : Nat) : Bool :=
  isIn k r.rh || r.rp.any (fun q => Nat.beq q.1 k && (Nat.blt lo (q.2.1 + q.2.2) && Nat.blt q.2.1 (lo + n))) ||
  (match r.p with
   | some (k', lo', vs) => Nat.beq k' k && (Nat.blt lo (lo' + vs.length) && Nat.blt lo' (lo + n))
   | none => false)

/-- Do two operations meet? -/
def DRec.meets (r r' : DRec) : Bool :=
  (match r.dst with
   | none => false
   | some d => r'.writes d || isIn d r'.rs) ||
  (match r'.dst with
   | none => false
   | some d => isIn d r.rs) ||
  r.keys.any (fun k => isIn k r'.ids) || r'.keys.any (fun k => isIn k r.ids) ||
  (match r.p with
   | some (k, lo, vs) => r'.touches k lo vs.length
   | none => false) ||
  (match r'.p with
   | some (k, lo, vs) => r.touches k lo vs.length
   | none => false)

end Go.Eng
