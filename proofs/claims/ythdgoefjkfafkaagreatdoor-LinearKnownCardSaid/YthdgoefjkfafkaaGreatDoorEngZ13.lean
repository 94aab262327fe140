import Derived.Test.YthdgoefjkfafkaaGreatDoorEngZ11
set_option linter.unusedVariables false
namespace Go.Eng
open Go Go.RowKit
variable {P : Program}

/-! ### Closed calls: what a function comes to at one list of arguments and blocks, each written out -/
def CT.eqD : (t : CT) → t.den → t.den → Bool
  | .int _, a, b => (a : Int) == b
  | .bool, a, b => (a : Bool) == b
  | .str, a, b => decide ((a : ByteArray).data.toList = (b : ByteArray).data.toList)
  | .sl row, a, b => eqL (CT.eqD row) a b
  | .mdl kt vt _ _, a, b => eqL (fun x y => CT.eqD kt x.1 y.1 && CT.eqD vt x.2 y.2) a b
  | .unit, _, _ => true
  | .pair c cs, a, b => CT.eqD c a.1 b.1 && CT.eqD cs a.2 b.2
where eqL {α : Type} (f : α → α → Bool) : List α → List α → Bool
  | [], [] => true
  | x :: l, y :: r => f x y && eqL f l r
  | _, _ => false
theorem eqL_eq {α : Type} {f : α → α → Bool} (hf : ∀ x y, f x y = true → x = y) : ∀ (l r : List α), CT.eqD.eqL f l r = true → l = r
  | [], [], _ => rfl
  | x :: l, y :: r, h => by
    simp only [CT.eqD.eqL, Bool.and_eq_true] at h
    rw [hf _ _ h.1, eqL_eq hf l r h.2]
  | [], _ :: _, h => by cases h
  | _ :: _, [], h => by cases h
theorem str_eq {a b : ByteArray} (h : decide (a.data.toList = b.data.toList) = true) : a = b :=
  ByteArray.ext (Array.ext' (of_decide_eq_true h))
theorem CT.eqD_eq : ∀ (t : CT) (a b : t.den), CT.eqD t a b = true → a = b
  | .int _, a, b, h => by
    simp only [CT.eqD] at h
    exact eq_of_beq h
  | .bool, a, b, h => by
    simp only [CT.eqD] at h
    exact eq_of_beq h
  | .str, a, b, h => str_eq (by simpa only [CT.eqD] using h)
  | .sl row, a, b, h => eqL_eq (fun x y => CT.eqD_eq row x y) a b (by simpa only [CT.eqD] using h)
  | .mdl kt vt _ _, a, b, h => eqL_eq (fun x y hh => by
      have hh' : (CT.eqD kt x.1 y.1 && CT.eqD vt x.2 y.2) = true := hh
      rw [Bool.and_eq_true] at hh'
      exact Prod.ext (CT.eqD_eq kt _ _ hh'.1) (CT.eqD_eq vt _ _ hh'.2)) a b (by simpa only [CT.eqD] using h)
  | .unit, a, b, _ => rfl
  | .pair c cs, a, b, h => by
    simp only [CT.eqD, Bool.and_eq_true] at h
    exact Prod.ext (CT.eqD_eq c _ _ h.1) (CT.eqD_eq cs _ _ h.2)
def kindB : IntKind → IntKind → Bool
  | .i8, .i8 | .i16, .i16 | .i32, .i32 | .i64, .i64 => true
  | .u8, .u8 | .u16, .u16 | .u32, .u32 | .u64, .u64 => true
  | _, _ => false
theorem kindB_eq {a b : IntKind} (h : kindB a b = true) : a = b := by cases a <;> cases b <;> first | rfl | cases h
def SM.eqB : SM → SM → Bool
  | .shared, .shared => true
  | .full, .full => true
  | .nn, .nn => true
  | .own i v, .own j w => Nat.beq i j && Nat.beq v w
  | _, _ => false
theorem SM.eqB_eq {a b : SM} (h : a.eqB b = true) : a = b := by
  cases a <;> cases b <;> first | rfl | (cases h; done) | (simp only [SM.eqB, Bool.and_eq_true, Nat.beq_eq] at h; rw [h.1, h.2])
def AC.eqB : AC → AC → Bool
  | .unk, .unk => true
  | .int k n, .int k' n' => kindB k k' && n == n'
  | .bool b, .bool b' => b == b'
  | .str s, .str s' => decide (s.data.toList = s'.data.toList)
  | .sl row l m, .sl row' l' m' => (if h : row.eqb row' = true then CT.eqD.eqL (CT.eqD row') (castL row row' h l) l' else false) && m.eqB m'
  | .nils, .nils | .nilz, .nilz | .nilp, .nilp | .nilf, .nilf | .nilm, .nilm => true
  | .ptr i o, .ptr j p => Nat.beq i j && Nat.beq o p
  | .bsl row i o n m, .bsl row' i' o' n' m' => row.eqb row' && (Nat.beq i i' && (Nat.beq o o' && (Nat.beq n n' && Nat.beq m m')))
  | .csl i o n c, .csl i' o' n' c' => Nat.beq i i' && (Nat.beq o o' && (Nat.beq n n' && Nat.beq c c'))
  | .asl row i o n c, .asl row' i' o' n' c' => row.eqb row' && (Nat.beq i i' && (Nat.beq o o' && (Nat.beq n n' && Nat.beq c c')))
  | .ael row i j d, .ael row' i' j' d' => row.eqb row' && (Nat.beq i i' && (Nat.beq j j' && Nat.beq d d'))
  | .fn f c, .fn f' c' => Nat.beq f f' && c == c'
  | .mth f i o, .mth f' i' o' => Nat.beq f f' && (Nat.beq i i' && Nat.beq o o')
  | .mref i, .mref j => Nat.beq i j
  | .mdl kt vt ka va l, .mdl kt' vt' ka' va' l' => if h : (CT.mdl kt vt ka va).eqb (.mdl kt' vt' ka' va') = true then CT.eqD (.mdl kt' vt' ka' va') (castD _ _ h l) l' else false
  | _, _ => false
theorem AC.eqB_eq {a b : AC} (h : a.eqB b = true) : a = b := by
  cases a <;> cases b <;> first
    | rfl
    | (cases h; done)
    | (simp only [AC.eqB] at h
       rename_i kt vt ka va l kt' vt' ka' va' l'
       split at h
       · rename_i e
         have e' := CT.eq_of_eqb _ _ e
         injection e' with e1 e2 e3 e4
         subst e1 e2 e3 e4
         have := CT.eqD_eq _ _ _ h
         rw [← this]; rfl
       · cases h)
    | (simp only [AC.eqB, Bool.and_eq_true, Nat.beq_eq] at h
       rename_i row l m row' l' m'
       obtain ⟨h1, h2⟩ := h
       split at h1
       · rename_i e
         have e' := CT.eq_of_eqb _ _ e
         subst e'
         have := eqL_eq (fun x y => CT.eqD_eq row x y) _ _ h1
         rw [← this, SM.eqB_eq h2]; rfl
       · cases h1)
    | (simp only [AC.eqB, Bool.and_eq_true, Nat.beq_eq] at h
       first
       | (rw [kindB_eq h.1, eq_of_beq h.2]; done)
       | (rw [eq_of_beq h]; done)
       | (rw [str_eq h]; done)
       | (rw [h]; done)
       | (rw [h.1, eq_of_beq h.2]; done)
       | (obtain ⟨h1, h2, h3, h4⟩ := h; rw [CT.eq_of_eqb _ _ h1, h2, h3, h4]; done)
       | (obtain ⟨h1, h2, h3, h4, h5⟩ := h; rw [CT.eq_of_eqb _ _ h1, h2, h3, h4, h5]; done)
       | (obtain ⟨h1, h2, h3, h4⟩ := h; rw [h1, h2, h3, h4]; done)
       | (obtain ⟨h1, h2, h3⟩ := h; rw [h1, h2, h3]; done)
       | (obtain ⟨h1, h2⟩ := h; rw [h1, h2]; done))
def AV.eqB : AV → AV → Bool
  | .one c, .one d => c.eqB d
  | .agg l, .agg r => CT.eqD.eqL AC.eqB l r
  | .tup l, .tup r => CT.eqD.eqL (fun a b => a.1 == b.1 && CT.eqD.eqL AC.eqB a.2 b.2) l r
  | _, _ => false
theorem AV.eqB_eq {a b : AV} (h : a.eqB b = true) : a = b := by
  cases a <;> cases b <;> first
    | (cases h; done)
    | (simp only [AV.eqB] at h; rw [AC.eqB_eq h]; done)
    | (simp only [AV.eqB] at h; rw [eqL_eq (fun _ _ => AC.eqB_eq) _ _ h]; done)
    | (simp only [AV.eqB] at h
       rw [eqL_eq (fun x y hh => by
         simp only [Bool.and_eq_true] at hh
         exact Prod.ext (eq_of_beq hh.1) (eqL_eq (fun _ _ => AC.eqB_eq) _ _ hh.2)) _ _ h])
def AB.eqB : AB → AB → Bool
  | .cells l, .cells r => CT.eqD.eqL AC.eqB l r
  | .arr row l, .arr row' l' => if h : row.eqb row' = true then CT.eqD.eqL (CT.eqD row') (castL row row' h l) l' else false
  | .tok e v, .tok e' v' => Nat.beq e e' && Nat.beq v v'
  | .mp kt vt ka va l, .mp kt' vt' ka' va' l' => if h : kt.eqb kt' = true ∧ vt.eqb vt' = true then (ka == ka' && va == va') && CT.eqD.eqL (fun a b => CT.eqD kt' a.1 b.1 && CT.eqD vt' a.2 b.2) (CT.eq_of_eqb _ _ h.1 ▸ CT.eq_of_eqb _ _ h.2 ▸ l) l' else false
  | .iter j n f, .iter j' n' f' => Nat.beq j j' && (Nat.beq n n' && f == f')
  | _, _ => false
theorem AB.eqB_eq {a b : AB} (h : a.eqB b = true) : a = b := by
  cases a <;> cases b <;> first
    | (cases h; done)
    | (simp only [AB.eqB] at h; rw [eqL_eq (fun _ _ => AC.eqB_eq) _ _ h]; done)
    | (simp only [AB.eqB] at h
       rename_i row l row' l'
       split at h
       · rename_i e
         have e' := CT.eq_of_eqb _ _ e
         subst e'
         have := eqL_eq (fun x y => CT.eqD_eq row x y) _ _ h
         rw [← this]; rfl
       · cases h)
    | (simp only [AB.eqB, Bool.and_eq_true, Nat.beq_eq] at h; rw [h.1, h.2]; done)
    | (simp only [AB.eqB, Bool.and_eq_true, Nat.beq_eq] at h; rw [h.1, h.2.1, eq_of_beq h.2.2]; done)
    | (simp only [AB.eqB] at h
       rename_i kt vt ka va l kt' vt' ka' va' l'
       split at h
       · rename_i e
         have e1 := CT.eq_of_eqb _ _ e.1
         have e2 := CT.eq_of_eqb _ _ e.2
         subst e1; subst e2
         simp only [Bool.and_eq_true] at h
         have := eqL_eq (fun x y hh => by
           simp only [Bool.and_eq_true] at hh
           exact Prod.ext (CT.eqD_eq kt _ _ hh.1) (CT.eqD_eq vt _ _ hh.2)) _ _ h.2
         rw [← this, eq_of_beq h.1.1, eq_of_beq h.1.2]
       · cases h)

def eqVs (l r : List AV) : Bool := CT.eqD.eqL AV.eqB l r
/-- A closed call: arguments and blocks, result and blocks behind it. -/
structure CC where
  args : List AV
  hp : List AB
  r : AV
  hp' : List AB
def CC.holds (P : Program) (f : Nat) (c : CC) : Prop := HeapCall P f c.args c.hp c.r c.hp'
/-! #### The same, what nothing names any more let go -/
/-- A call whose arguments name no blocks, its result by its content. -/
def cameP (x : Option (AV × List Bool)) (r : AV) : Bool := match x with
  | some (v, cs) => v.eqB r && cs.all id
  | none => false
theorem Env.closedPu (E : Env P) {f : Nat} {args : List AV} {r : AV} (h : cameP (E.pureRun f args []) r = true) : PureCall P f args r := by
  unfold cameP at h
  split at h
  · rename_i v cs hr
    simp only [Bool.and_eq_true] at h
    have e1 := AV.eqB_eq h.1
    subst e1
    exact E.pure_ok hr (by simpa using h.2)
  · cases h
def cpF (args : List AV) (r : AV) (a : List AV) (os : List Bool) : Option (AV × List Bool × List Bool) := match wkAs a with
  | some a' => if eqVs a' args then some (r, [], os) else none
  | none => none
def Env.addCP (E : Env P) (f : Nat) (args : List AV) (r : AV) (h : PureCall P f args r) : Env P := E.addP f (cpF args r) fun a os r' cs os' hh _ => by
  unfold cpF at hh
  split at hh
  · rename_i a' hw
    split at hh
    · rename_i e
      simp only [Option.some.injEq, Prod.mk.injEq] at hh
      obtain ⟨rfl, rfl, rfl⟩ := hh
      have e' := eqL_eq (fun _ _ => AV.eqB_eq) _ _ e
      subst e'
      exact h.weaken fun X vs _ hv => wkAs_rel (fun _ _ hh => hh) hw hv
    · cases hh
  · cases hh
end Go.Eng
