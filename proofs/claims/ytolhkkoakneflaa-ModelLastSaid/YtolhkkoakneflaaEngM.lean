import Derived.Test.YtolhkkoakneflaaEngL
set_option linter.unusedVariables false
namespace Go.Eng
open Go Go.RowKit
variable {P : Program}

/-- What is known between two operations: slots; slots known under a test of another slot; own blocks; choices to come; what was taken for granted; how many slots there are; may operations be looked at ahead of their tests? -/
structure St where
  tm : List (Nat × AV)
  tg : List (Nat × (Nat × Bool) × AV)
  hp : List AB
  os : List Bool
  cs : List Bool
  nt : Nat
  spec : Bool

def lookT : List (Nat × AV) → Nat → Option AV
  | [], _ => none
  | (s, v) :: r, t => if Nat.beq s t then some v else lookT r t

def lookG : List (Nat × (Nat × Bool) × AV) → Nat → Option ((Nat × Bool) × AV)
  | [], _ => none
  | (s, g, v) :: r, t => if Nat.beq s t then some (g, v) else lookG r t

def St.H (σ : St) : Nat → Option AB := fun i => σ.hp[i]?

/-- A slot's content, under the tests that are known to come out so. -/
def St.look (σ : St) (chain : List (Nat × Bool)) (t : Nat) : Option AV :=
  match lookG σ.tg t with
  | some (g, v) => if chain.any (fun c => Nat.beq c.1 g.1 && (c.2 == g.2)) then some v else none
  | none => lookT σ.tm t

def St.ev (σ : St) (chain : List (Nat × Bool)) : Operand → Option AV
  | .tmp t => σ.look chain t
  | .const v => cvv v
  | .func f => some (.one (.fn f []))
  | .global _ => none

/-- The tests that must come out so that one slot's does. -/
def chainOf (σ : St) : Nat → Nat × Bool → List (Nat × Bool)
  | 0, g => [g]
  | n + 1, g => match lookG σ.tg g.1 with
    | some (g', _) => g :: chainOf σ n g'
    | none => [g]

/-- Does a test come out so, and those that it hangs on? -/
def gval (σ : St) : Nat → Nat × Bool → Option Bool
  | 0, _ => none
  | n + 1, g => match lookG σ.tg g.1 with
    | some (g', .one (.bool x)) => match gval σ n g' with
      | some b => some (b && (x == g.2))
      | none => none
    | some _ => none
    | none => match lookT σ.tm g.1 with
      | some (.one (.bool x)) => some (x == g.2)
      | _ => none

def dropTag (d : Nat) : List (Nat × (Nat × Bool) × AV) → List (Nat × (Nat × Bool) × AV)
  | [] => []
  | (s, g, v) :: r => if Nat.beq s d || Nat.beq g.1 d then dropTag d r else (s, g, v) :: dropTag d r

/-- A slot is written. -/
def St.put (σ : St) (d : Option Nat) (v : AV) : Option St :=
  match d with
  | none => some σ
  | some d => if Nat.blt d σ.nt then some { σ with tm := (d, v) :: σ.tm, tg := dropTag d σ.tg } else none

/-- A slot is written, if a test comes out so. -/
def St.putG (σ : St) (d : Option Nat) (g : Nat × Bool) (v : AV) : Option St :=
  match d with
  | none => some σ
  | some d => if Nat.blt d σ.nt && !(Nat.beq d g.1) then some { σ with tm := (d, .one .unk) :: σ.tm, tg := (d, g, v) :: dropTag d σ.tg } else none

def hput (hp : List AB) (p : Nat × AB) : Option (List AB) :=
  if Nat.beq p.1 hp.length then some (hp ++ [p.2]) else if Nat.blt p.1 hp.length then some (hp.set p.1 p.2) else none

def hputs (hp : List AB) : List (Nat × AB) → Option (List AB)
  | [] => some hp
  | p :: r => match hput hp p with
    | some hp' => hputs hp' r
    | none => none

theorem hput_H {hp hp' : List AB} {p : Nat × AB} (h : hput hp p = some hp') : (fun (i : Nat) => hp'[i]?) = upd (fun (i : Nat) => hp[i]?) p.1 (some p.2) := by
  unfold hput at h
  split at h
  · rename_i e
    simp only [Nat.beq_eq] at e
    injection h with h; subst h
    funext i
    by_cases ei : i = p.1
    · rw [ei, upd_same, e]; simp
    · rw [upd_other _ _ ei]
      by_cases hl : i < hp.length
      · rw [List.getElem?_append_left hl]
      · exact (List.getElem?_eq_none (by rw [List.length_append, List.length_singleton]; omega)).trans (List.getElem?_eq_none (by omega)).symm
  · split at h
    · rename_i e
      simp only [Nat.blt_eq] at e
      injection h with h; subst h
      funext i
      by_cases ei : i = p.1
      · rw [ei, upd_same]; simp [e]
      · rw [upd_other _ _ ei, List.getElem?_set_ne (fun h => ei h.symm)]
    · cases h

theorem hputs_H : ∀ {l : List (Nat × AB)} {hp hp' : List AB}, hputs hp l = some hp' → (fun (i : Nat) => hp'[i]?) = ups (fun (i : Nat) => hp[i]?) l
  | [], hp, hp', h => by simp only [hputs, Option.some.injEq] at h; subst h; rfl
  | p :: r, hp, hp', h => by
    simp only [hputs] at h
    split at h
    · rename_i h1 h2
      rw [hputs_H h, hput_H h2]
      rfl
    · cases h

theorem mem_of_lookG : ∀ {l : List (Nat × (Nat × Bool) × AV)} {t : Nat} {g : Nat × Bool} {v : AV}, lookG l t = some (g, v) → (t, g, v) ∈ l
  | [], t, g, v, h => by cases h
  | (s, g0, v0) :: r, t, g, v, h => by
    simp only [lookG] at h
    split at h
    · rename_i e
      simp only [Nat.beq_eq] at e
      simp only [Option.some.injEq, Prod.mk.injEq] at h
      obtain ⟨rfl, rfl⟩ := h
      rw [e]; exact List.mem_cons_self ..
    · exact List.mem_cons_of_mem _ (mem_of_lookG h)
/-- What is known of slots is so. -/
structure Rel (X : Ctx) (σ : St) (a : Act) : Prop where
  hrel : HRel X
  heap : X.H = σ.H
  size : a.tmps.size = σ.nt
  defers : a.defers = []
  tm : ∀ t v, lookT σ.tm t = some v → VR X v (a.tmps.getD t undef)
  tg : ∀ t s w v, (t, (s, w), v) ∈ σ.tg → (a.tmps.getD s undef = .bool w → VR X v (a.tmps.getD t undef)) ∧ (a.tmps.getD s undef ≠ .bool w → a.tmps.getD t undef = undef)

/-- The tests come out so. -/
def Holds (a : Act) (chain : List (Nat × Bool)) : Prop := ∀ g ∈ chain, a.tmps.getD g.1 undef = .bool g.2

theorem Rel.look {X : Ctx} {σ : St} {a : Act} (h : Rel X σ a) {chain : List (Nat × Bool)} (hc : Holds a chain) {t : Nat} {v : AV} (hl : σ.look chain t = some v) : VR X v (a.tmps.getD t undef) := by
  unfold St.look at hl
  split at hl
  · rename_i g v' hg
    split at hl
    · rename_i hany
      injection hl with hl; subst hl
      obtain ⟨c, hcm, hce⟩ := List.any_eq_true.1 hany
      simp only [Bool.and_eq_true, Nat.beq_eq, beq_iff_eq] at hce
      obtain ⟨gs, gw⟩ := g
      have := hc c hcm
      rw [hce.1, hce.2] at this
      exact (h.tg t gs gw _ (mem_of_lookG hg)).1 this
    · cases hl
  · rename_i hg
    exact h.tm t v hl

theorem Rel.ev {X : Ctx} {σ : St} {a : Act} (h : Rel X σ a) {chain : List (Nat × Bool)} (hc : Holds a chain) {x : Operand} {v : AV} (hl : σ.ev chain x = some v) : VR X v (a.eval x) := by
  cases x with
  | tmp t => exact h.look hc hl
  | const c => exact cvv_rel X hl
  | global g => cases hl
  | func f =>
    simp only [St.ev, Option.some.injEq] at hl
    subst hl
    exact ⟨#[], rfl, rfl, fun j p hj => by simp at hj⟩

theorem undef_ne (b : Bool) : undef ≠ .bool b := by intro h; cases h

theorem gval_spec {X : Ctx} {σ : St} {a : Act} (h : Rel X σ a) : ∀ (n : Nat) (g : Nat × Bool) (b : Bool), gval σ n g = some b →
    (b = true → Holds a (chainOf σ n g)) ∧ (b = false → a.tmps.getD g.1 undef ≠ .bool g.2)
  | 0, g, b, hg => by cases hg
  | n + 1, (s, w), b, hg => by
    simp only [gval] at hg
    split at hg
    · rename_i g' x hl
      split at hg
      · rename_i b' hb
        injection hg with hg
        obtain ⟨h1, h2⟩ := gval_spec h n g' b' hb
        obtain ⟨gs, gw⟩ := g'
        obtain ⟨t1, t2⟩ := h.tg s gs gw _ (mem_of_lookG hl)
        constructor
        · intro hbt
          rw [hbt] at hg
          simp only [Bool.and_eq_true, beq_iff_eq] at hg
          have hh := h1 hg.1
          have hv : a.tmps.getD s undef = .bool x := t1 (by
            refine hh (gs, gw) ?_
            cases n <;> simp only [chainOf]
            · simp
            · split <;> simp)
          simp only [chainOf, hl]
          intro q hq
          rcases List.mem_cons.1 hq with rfl | hq
          · rw [hv, hg.2]
          · exact hh q hq
        · intro hbf he
          rw [hbf] at hg
          cases hb' : b' with
          | false =>
            have := t2 (h2 hb')
            rw [this] at he
            exact undef_ne _ he
          | true =>
            have hh := h1 hb'
            have hv : a.tmps.getD s undef = .bool x := t1 (by
              refine hh (gs, gw) ?_
              cases n <;> simp only [chainOf]
              · simp
              · split <;> simp)
            rw [hv] at he
            simp only [Value.bool.injEq] at he
            rw [hb', he] at hg
            simp at hg
      · cases hg
    · cases hg
    · rename_i hl
      split at hg
      · rename_i x ht
        injection hg with hg
        have hv : a.tmps.getD s undef = .bool x := h.tm s _ ht
        constructor
        · intro hbt
          rw [hbt] at hg
          simp only [beq_iff_eq] at hg
          simp only [chainOf, hl]
          intro q hq
          rcases List.mem_cons.1 hq with rfl | hq
          · rw [hv, hg]
          · cases hq
        · intro hbf he
          rw [hv] at he
          simp only [Value.bool.injEq] at he
          rw [hbf, he] at hg
          simp at hg
      · cases hg

theorem wanted_iff {ops : Array Oper} {o : Oper} {a : Act} {j s : Nat} {w : Bool} (hg : o.guard = some (j, w)) (hs : (ops[j]?).bind (·.dst) = some s) :
    Region.wanted o (yielded ops a.tmps) = true ↔ a.tmps.getD s undef = .bool w := by
  simp only [Region.wanted, hg, yielded, hs, Option.bind_some]
  have e : a.tmps.getD s undef = (a.tmps[s]?).getD undef := by simp
  rw [e]
  cases hv : a.tmps[s]? with
  | none => simp; intro h; exact undef_ne _ h
  | some v =>
    simp only [Option.getD_some]
    cases v <;> simp

theorem getD_put (a : Act) (d : Nat) (v : Value) (t : Nat) (hd : d < a.tmps.size) : (a.put (some d) v).tmps.getD t undef = if t = d then v else a.tmps.getD t undef := by
  simp only [Act.put]
  by_cases e : t = d
  · subst e; simp [hd]
  · rw [if_neg e]
    simp [Array.getElem?_setIfInBounds_ne (fun h => e h.symm)]

theorem lookG_drop (d : Nat) : ∀ (l : List (Nat × (Nat × Bool) × AV)) (t : Nat) (g : Nat × Bool) (v : AV), lookG (dropTag d l) t = some (g, v) → t ≠ d ∧ g.1 ≠ d
  | [], t, g, v, h => by cases h
  | (s, g0, v0) :: r, t, g, v, h => by
    simp only [dropTag] at h
    split at h
    · exact lookG_drop d r t g v h
    · rename_i hne
      simp only [lookG] at h
      split at h
      · rename_i e
        simp only [Nat.beq_eq] at e
        simp only [Option.some.injEq, Prod.mk.injEq] at h
        obtain ⟨rfl, rfl⟩ := h
        simp only [Bool.or_eq_true, Nat.beq_eq, not_or] at hne
        exact ⟨by rw [← e]; exact hne.1, hne.2⟩
      · exact lookG_drop d r t g v h

/-- An entry that is seen behind the dropping of others need not be the one seen ahead of it; but all are so. -/
def TgOk (X : Ctx) (a : Act) (l : List (Nat × (Nat × Bool) × AV)) : Prop :=
  ∀ t s w v, (t, (s, w), v) ∈ l → (a.tmps.getD s undef = .bool w → VR X v (a.tmps.getD t undef)) ∧ (a.tmps.getD s undef ≠ .bool w → a.tmps.getD t undef = undef)

theorem mem_drop (d : Nat) : ∀ (l : List (Nat × (Nat × Bool) × AV)) (p), p ∈ dropTag d l → p ∈ l ∧ p.1 ≠ d ∧ p.2.1.1 ≠ d
  | [], p, h => by cases h
  | (s, g0, v0) :: r, p, h => by
    simp only [dropTag] at h
    split at h
    · obtain ⟨h1, h2⟩ := mem_drop d r p h
      exact ⟨List.mem_cons_of_mem _ h1, h2⟩
    · rename_i hne
      simp only [Bool.or_eq_true, Nat.beq_eq, not_or] at hne
      rcases List.mem_cons.1 h with rfl | h
      · exact ⟨List.mem_cons_self .., hne⟩
      · obtain ⟨h1, h2⟩ := mem_drop d r p h
        exact ⟨List.mem_cons_of_mem _ h1, h2⟩

end Go.Eng
