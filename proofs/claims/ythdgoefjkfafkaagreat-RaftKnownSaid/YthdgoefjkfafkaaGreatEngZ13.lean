import Derived.Test.YthdgoefjkfafkaaGreatEngZ11
set_option linter.unusedVariables false
namespace Go.Eng
open Go Go.RowKit
variable {P : Program}

/-! ### Closed calls: what a function comes to at one list of arguments and blocks, each written out -/
def CT.eqD : (t : CT) → t.den → t.den → Bool
  | .int _, a, b => (a : Int) == b
  | .bool, a, b => (a : Bool) == b
  | .str, a, b => decide ((a : ByteArray).data.toList = (b : ByteArray).data.toList)
  | .sl row, a, b => eqL (CT.eqD row) a b
  | .unit, _, _ => true
  | .pair c cs, a, b => CT.eqD c a.1 b.1 && CT.eqD cs a.2 b.2
where eqL {α : Type} (f : α → α → Bool) : List α → List α → Bool
  | [], [] => true
  | x :: l, y :: r => f x y && eqL f l r
  | _, _ => false
theorem eqL_eq {α : Type} {f : α → α → Bool} (hf : ∀ x y, f x y = true → x = y) : ∀ (l r : List α), CT.eqD.eqL f l r = true → l = r
  | [], [], _ => rfl
  | x :: l, y :: r, h => by
    simp only [CT.eqD.eqL, Bool.and_eq_true] at h
    rw [hf _ _ h.1, eqL_eq hf l r h.2]
  | [], _ :: _, h => by cases h
  | _ :: _, [], h => by cases h
theorem str_eq {a b : ByteArray} (h : decide (a.data.toList = b.data.toList) = true) : a = b :=
  ByteArray.ext (Array.ext' (of_decide_eq_true h))
theorem CT.eqD_eq : ∀ (t : CT) (a b : t.den), CT.eqD t a b = true → a = b
  | .int _, a, b, h => by
    simp only [CT.eqD] at h
    exact eq_of_beq h
  | .bool, a, b, h => by
    simp only [CT.eqD] at h
    exact eq_of_beq h
  | .str, a, b, h => str_eq (by simpa only [CT.eqD] using h)
  | .sl row, a, b, h => eqL_eq (fun x y => CT.eqD_eq row x y) a b (by simpa only [CT.eqD] using h)
  | .unit, a, b, _ => rfl
  | .pair c cs, a, b, h => by
    simp only [CT.eqD, Bool.and_eq_true] at h
    exact Prod.ext (CT.eqD_eq c _ _ h.1) (CT.eqD_eq cs _ _ h.2)
def kindB : IntKind → IntKind → Bool
  | .i8, .i8 | .i16, .i16 | .i32, .i32 | .i64, .i64 => true
  | .u8, .u8 | .u16, .u16 | .u32, .u32 | .u64, .u64 => true
  | _, _ => false
theorem kindB_eq {a b : IntKind} (h : kindB a b = true) : a = b := by cases a <;> cases b <;> first | rfl | cases h
def SM.eqB : SM → SM → Bool
  | .shared, .shared => true
  | .full, .full => true
  | .nn, .nn => true
  | .own i v, .own j w => Nat.beq i j && Nat.beq v w
  | _, _ => false
theorem SM.eqB_eq {a b : SM} (h : a.eqB b = true) : a = b := by
  cases a <;> cases b <;> first | rfl | (cases h; done) | (simp only [SM.eqB, Bool.and_eq_true, Nat.beq_eq] at h; rw [h.1, h.2])
def AC.eqB : AC → AC → Bool
  | .unk, .unk => true
  | .int k n, .int k' n' => kindB k k' && n == n'
  | .bool b, .bool b' => b == b'
  | .str s, .str s' => decide (s.data.toList = s'.data.toList)
  | .sl row l m, .sl row' l' m' => (if h : row.eqb row' = true then CT.eqD.eqL (CT.eqD row') (castL row row' h l) l' else false) && m.eqB m'
  | .nils, .nils | .nilz, .nilz | .nilp, .nilp | .nilf, .nilf | .nilm, .nilm => true
  | .ptr i o, .ptr j p => Nat.beq i j && Nat.beq o p
  | .msl row i o n, .msl row' i' o' n' => row.eqb row' && (Nat.beq i i' && (Nat.beq o o' && Nat.beq n n'))
  | .csl i o n c, .csl i' o' n' c' => Nat.beq i i' && (Nat.beq o o' && (Nat.beq n n' && Nat.beq c c'))
  | .asl row i o n c, .asl row' i' o' n' c' => row.eqb row' && (Nat.beq i i' && (Nat.beq o o' && (Nat.beq n n' && Nat.beq c c')))
  | .ael row i j d, .ael row' i' j' d' => row.eqb row' && (Nat.beq i i' && (Nat.beq j j' && Nat.beq d d'))
  | .fn f c, .fn f' c' => Nat.beq f f' && c == c'
  | .mth f i o, .mth f' i' o' => Nat.beq f f' && (Nat.beq i i' && Nat.beq o o')
  | .mref i, .mref j => Nat.beq i j
  | _, _ => false
theorem AC.eqB_eq {a b : AC} (h : a.eqB b = true) : a = b := by
  cases a <;> cases b <;> first
    | rfl
    | (cases h; done)
    | (simp only [AC.eqB, Bool.and_eq_true, Nat.beq_eq] at h
       rename_i row l m row' l' m'
       obtain ⟨h1, h2⟩ := h
       split at h1
       · rename_i e
         have e' := CT.eq_of_eqb _ _ e
         subst e'
         have := eqL_eq (fun x y => CT.eqD_eq row x y) _ _ h1
         rw [← this, SM.eqB_eq h2]; rfl
       · cases h1)
    | (simp only [AC.eqB, Bool.and_eq_true, Nat.beq_eq] at h
       first
       | (rw [kindB_eq h.1, eq_of_beq h.2]; done)
       | (rw [eq_of_beq h]; done)
       | (rw [str_eq h]; done)
       | (rw [h]; done)
       | (rw [h.1, eq_of_beq h.2]; done)
       | (obtain ⟨h1, h2, h3, h4⟩ := h; rw [CT.eq_of_eqb _ _ h1, h2, h3, h4]; done)
       | (obtain ⟨h1, h2, h3, h4, h5⟩ := h; rw [CT.eq_of_eqb _ _ h1, h2, h3, h4, h5]; done)
       | (obtain ⟨h1, h2, h3, h4⟩ := h; rw [h1, h2, h3, h4]; done)
       | (obtain ⟨h1, h2, h3⟩ := h; rw [h1, h2, h3]; done)
       | (obtain ⟨h1, h2⟩ := h; rw [h1, h2]; done))
def AV.eqB : AV → AV → Bool
  | .one c, .one d => c.eqB d
  | .agg l, .agg r => CT.eqD.eqL AC.eqB l r
  | .tup l, .tup r => CT.eqD.eqL (fun a b => a.1 == b.1 && CT.eqD.eqL AC.eqB a.2 b.2) l r
  | _, _ => false
theorem AV.eqB_eq {a b : AV} (h : a.eqB b = true) : a = b := by
  cases a <;> cases b <;> first
    | (cases h; done)
    | (simp only [AV.eqB] at h; rw [AC.eqB_eq h]; done)
    | (simp only [AV.eqB] at h; rw [eqL_eq (fun _ _ => AC.eqB_eq) _ _ h]; done)
    | (simp only [AV.eqB] at h
       rw [eqL_eq (fun x y hh => by
         simp only [Bool.and_eq_true] at hh
         exact Prod.ext (eq_of_beq hh.1) (eqL_eq (fun _ _ => AC.eqB_eq) _ _ hh.2)) _ _ h])
def AB.eqB : AB → AB → Bool
  | .cells l, .cells r => CT.eqD.eqL AC.eqB l r
  | .rcells l, .rcells r => CT.eqD.eqL AC.eqB l r
  | .arr row l, .arr row' l' => if h : row.eqb row' = true then CT.eqD.eqL (CT.eqD row') (castL row row' h l) l' else false
  | .tok e v, .tok e' v' => Nat.beq e e' && Nat.beq v v'
  | .mp kt vt ka va l, .mp kt' vt' ka' va' l' => if h : kt.eqb kt' = true ∧ vt.eqb vt' = true then (ka == ka' && va == va') && CT.eqD.eqL (fun a b => CT.eqD kt' a.1 b.1 && CT.eqD vt' a.2 b.2) (CT.eq_of_eqb _ _ h.1 ▸ CT.eq_of_eqb _ _ h.2 ▸ l) l' else false
  | .iter j n f, .iter j' n' f' => Nat.beq j j' && (Nat.beq n n' && f == f')
  | _, _ => false
theorem AB.eqB_eq {a b : AB} (h : a.eqB b = true) : a = b := by
  cases a <;> cases b <;> first
    | (cases h; done)
    | (simp only [AB.eqB] at h; rw [eqL_eq (fun _ _ => AC.eqB_eq) _ _ h]; done)
    | (simp only [AB.eqB] at h
       rename_i row l row' l'
       split at h
       · rename_i e
         have e' := CT.eq_of_eqb _ _ e
         subst e'
         have := eqL_eq (fun x y => CT.eqD_eq row x y) _ _ h
         rw [← this]; rfl
       · cases h)
    | (simp only [AB.eqB, Bool.and_eq_true, Nat.beq_eq] at h; rw [h.1, h.2]; done)
    | (simp only [AB.eqB, Bool.and_eq_true, Nat.beq_eq] at h; rw [h.1, h.2.1, eq_of_beq h.2.2]; done)
    | (simp only [AB.eqB] at h
       rename_i kt vt ka va l kt' vt' ka' va' l'
       split at h
       · rename_i e
         have e1 := CT.eq_of_eqb _ _ e.1
         have e2 := CT.eq_of_eqb _ _ e.2
         subst e1; subst e2
         simp only [Bool.and_eq_true] at h
         have := eqL_eq (fun x y hh => by
           simp only [Bool.and_eq_true] at hh
           exact Prod.ext (CT.eqD_eq kt _ _ hh.1) (CT.eqD_eq vt _ _ hh.2)) _ _ h.2
         rw [← this, eq_of_beq h.1.1, eq_of_beq h.1.2]
       · cases h)

def eqVs (l r : List AV) : Bool := CT.eqD.eqL AV.eqB l r
def eqBs (l r : List AB) : Bool := CT.eqD.eqL AB.eqB l r
/-- A closed call: arguments and blocks, result and blocks behind it. -/
structure CC where
  args : List AV
  hp : List AB
  r : AV
  hp' : List AB
def CC.holds (P : Program) (f : Nat) (c : CC) : Prop := HeapCall P f c.args c.hp c.r c.hp'
def findCC (args : List AV) (hp : List AB) : List CC → Option CC
  | [] => none
  | c :: l => if eqVs args c.args && eqBs hp c.hp then some c else findCC args hp l
def ccF (l : List CC) (args : List AV) (hp : List AB) (os : List Bool) : Option ((AV × List AB) × List Bool × List Bool) := match findCC args hp l with
  | some c => some ((c.r, c.hp'), [], os)
  | none => none
theorem findCC_some {args : List AV} {hp : List AB} : ∀ {l : List CC} {c : CC}, findCC args hp l = some c → c ∈ l ∧ args = c.args ∧ hp = c.hp
  | d :: l, c, h => by
    unfold findCC at h
    split at h
    · rename_i hh
      injection h with h; subst h
      simp only [Bool.and_eq_true] at hh
      exact ⟨by simp, eqL_eq (fun _ _ => AV.eqB_eq) _ _ hh.1, eqL_eq (fun _ _ => AB.eqB_eq) _ _ hh.2⟩
    · obtain ⟨h1, h2⟩ := findCC_some h
      exact ⟨List.mem_cons_of_mem _ h1, h2⟩
theorem ccF_ok {P : Program} {f : Nat} {l : List CC} (h : ∀ c ∈ l, CC.holds P f c) : ∀ args hp os r hp' cs os', ccF l args hp os = some ((r, hp'), cs, os') → (∀ c ∈ cs, c = true) → HeapCall P f args hp r hp' := by
  intro args hp os r hp' cs os' hh _
  unfold ccF at hh
  split at hh
  · rename_i c hc
    simp only [Option.some.injEq, Prod.mk.injEq] at hh
    obtain ⟨⟨rfl, rfl⟩, rfl, rfl⟩ := hh
    obtain ⟨h1, h2, h3⟩ := findCC_some hc
    rw [h2, h3]; exact h c h1
  · cases hh
/-- Closed calls of a function, wherever their blocks stand. -/
def Env.addCC (E : Env P) (f : Nat) (l : List CC) (h : ∀ c ∈ l, CC.holds P f c) : Env P := E.addHF f selAll (ccF l) (ccF_ok h)
/-- A run that comes to this, all that it takes for granted being so. -/
def cameH (x : Option (AV × List AB × List Bool)) (r : AV) (hp' : List AB) : Bool := match x with
  | some (v, hp, cs) => v.eqB r && (eqBs hp hp' && cs.all id)
  | none => false
theorem Env.closedH (E : Env P) {f : Nat} {c : CC} (h : cameH (E.run f c.args c.hp []) c.r c.hp' = true) : CC.holds P f c := by
  unfold cameH at h
  split at h
  · rename_i v hp cs hr
    simp only [Bool.and_eq_true] at h
    obtain ⟨h1, h2, h3⟩ := h
    have e1 := AV.eqB_eq h1
    have e2 := eqL_eq (fun _ _ => AB.eqB_eq) _ _ h2
    subst e1; subst e2
    exact E.heap_ok hr (by simpa using h3)
  · cases h

/-! #### The same, what nothing names any more let go -/
def softP (m : Nat) (p : Bool × List AC) : Bool × List AC := (p.1, p.2.map (softC m))
def softV (m : Nat) : AV → AV
  | .one c => .one (softC m c)
  | .agg cs => .agg (cs.map (softC m))
  | .tup vs => .tup (vs.map (softP m))
  | v => v
theorem PW.map_left {α β γ : Type} {R : α → β → Prop} {S : γ → β → Prop} {f : α → γ} (hf : ∀ a b, R a b → S (f a) b) {l : List α} {r : List β} (h : PW R l r) : PW S (l.map f) r := by
  refine ⟨by simp [h.1], fun j c y hc hy => ?_⟩
  rw [List.getElem?_map] at hc
  cases ha : l[j]? with
  | none => rw [ha] at hc; cases hc
  | some a =>
    rw [ha] at hc
    simp only [Option.map_some, Option.some.injEq] at hc
    subst hc
    exact hf a y (h.2 j a y ha hy)
theorem softP_rel {X : Ctx} {m : Nat} {p : Bool × List AC} {v : Value} (h : VRp X p v) : VRp X (softP m p) v := by
  obtain ⟨b, cs⟩ := p
  cases b with
  | true =>
    obtain ⟨ar, e, hh⟩ := h
    exact ⟨ar, e, hh.map_left fun a b hab => softC_rel hab⟩
  | false =>
    obtain ⟨c, e, hh⟩ := h
    have e : cs = [c] := e
    subst e
    exact ⟨softC m c, rfl, softC_rel hh⟩
theorem softV_rel {X : Ctx} {m : Nat} {a : AV} {v : Value} (h : VR X a v) : VR X (softV m a) v := by
  cases a with
  | one c => exact softC_rel (c := c) h
  | agg cs =>
    obtain ⟨ar, e, hh⟩ := h
    exact ⟨ar, e, hh.map_left fun a b hab => softC_rel hab⟩
  | tup vs =>
    obtain ⟨ar, e, hh⟩ := h
    exact ⟨ar, e, hh.map_left fun a b hab => softP_rel hab⟩
  | val _ => exact h
  | gd _ _ _ => exact h
  | alt _ => exact h
  | clo _ _ => exact h
def cameM (n m : Nat) (x : Option (AV × List AB × List Bool)) (r : AV) (hp' : List AB) : Bool := match x with
  | some (v, hp, cs) => (softV m v).eqB r && (eqBs ((softs m hp).take m) hp' && (cs.all id && (Nat.ble n m && ((idsV r).all (fun i => Nat.blt i m) && hp'.all (fun b => (idsB b).all (fun i => Nat.blt i m))))))
  | none => false
theorem Env.closedM (E : Env P) {f : Nat} {c : CC} (m : Nat) (h : cameM c.hp.length m (E.run f c.args c.hp []) c.r c.hp' = true) : CC.holds P f c := by
  unfold cameM at h
  split at h
  · rename_i v hp cs hr
    simp only [Bool.and_eq_true, Nat.ble_eq, List.all_eq_true, Nat.blt_eq] at h
    obtain ⟨h1, h2, h3, h4, h5, h6⟩ := h
    have e1 := AV.eqB_eq h1
    have e2 := eqL_eq (fun _ _ => AB.eqB_eq) _ _ h2
    have hh := (E.heap_ok hr (fun q hq => by simpa using h3 q hq)).weak (r' := c.r) fun X v _ hv => e1 ▸ softV_rel hv
    have := cut_heap m hh h4 h5 (by rw [e2]; exact h6)
    rw [e2] at this; exact this
  · cases h
/-- A call whose arguments name no blocks, its result by its content. -/
def cameP (x : Option (AV × List Bool)) (r : AV) : Bool := match x with
  | some (v, cs) => v.eqB r && cs.all id
  | none => false
theorem Env.closedPu (E : Env P) {f : Nat} {args : List AV} {r : AV} (h : cameP (E.pureRun f args []) r = true) : PureCall P f args r := by
  unfold cameP at h
  split at h
  · rename_i v cs hr
    simp only [Bool.and_eq_true] at h
    have e1 := AV.eqB_eq h.1
    subst e1
    exact E.pure_ok hr (by simpa using h.2)
  · cases h
def cpF (args : List AV) (r : AV) (a : List AV) (os : List Bool) : Option (AV × List Bool × List Bool) := match wkAs a with
  | some a' => if eqVs a' args then some (r, [], os) else none
  | none => none
def Env.addCP (E : Env P) (f : Nat) (args : List AV) (r : AV) (h : PureCall P f args r) : Env P := E.addP f (cpF args r) fun a os r' cs os' hh _ => by
  unfold cpF at hh
  split at hh
  · rename_i a' hw
    split at hh
    · rename_i e
      simp only [Option.some.injEq, Prod.mk.injEq] at hh
      obtain ⟨rfl, rfl, rfl⟩ := hh
      have e' := eqL_eq (fun _ _ => AV.eqB_eq) _ _ e
      subst e'
      exact h.weaken fun X vs _ hv => wkAs_rel (fun _ _ hh => hh) hw hv
    · cases hh
  · cases hh
def Env.addC1 (E : Env P) (f : Nat) (c : CC) (h : CC.holds P f c) : Env P := E.addCC f [c] fun d hd => by
  simp only [List.mem_cons, List.not_mem_nil, or_false] at hd
  subst hd; exact h
/-- A closed call in a region whose order is drawn: its arguments and blocks as they stand there. -/
structure CK (P : Program) (f : Nat) where
  abs : List AV
  ids : List Nat
  c : CC
  ok : CC.holds P f c
/-- Do blocks stay as they are? -/
def sameU (H : Nat → Option AB) (u : List (Nat × AB)) : Bool := u.all fun p => match H p.1 with
  | some b => b.eqB p.2
  | none => false
theorem sameU_ups : ∀ {u : List (Nat × AB)} {H : Nat → Option AB}, sameU H u = true → ups H u = H
  | [], _, _ => rfl
  | p :: r, H, h => by
    simp only [sameU, List.all_cons, Bool.and_eq_true] at h
    obtain ⟨h1, h2⟩ := h
    have e : upd H p.1 (some p.2) = H := by
      funext j
      by_cases hj : j = p.1
      · subst hj
        rw [upd_same]
        split at h1
        · rename_i b hb
          rw [hb, AB.eqB_eq h1]
        · cases h1
      · rw [upd_other _ _ hj]
    show ups (upd H p.1 (some p.2)) r = H
    rw [e]
    exact sameU_ups h2
theorem sameU_eq {H H' : Nat → Option AB} : ∀ {u : List (Nat × AB)}, (∀ p ∈ u, H p.1 = H' p.1) → sameU H u = sameU H' u
  | [], _ => rfl
  | p :: r, h => by
    simp only [sameU, List.all_cons]
    rw [h p (List.mem_cons_self ..)]
    have := sameU_eq (u := r) fun q hq => h q (List.mem_cons_of_mem _ hq)
    simp only [sameU] at this
    rw [this]
/-- A call's changes; none, if all is as it was. -/
def lessU (H : Nat → Option AB) (x : AV × List (Nat × AB) × List Bool × List Bool) : Option (AV × List (Nat × AB) × List Bool × List Bool) :=
  if x.2.1.all (fun p => (H p.1).isSome) then some (x.1, if sameU H x.2.1 then [] else x.2.1, x.2.2.1, x.2.2.2) else none
theorem lessU_mono {H H' : Nat → Option AB} (hh : HLe H H') {x u} (h : lessU H x = some u) : lessU H' x = some u := by
  unfold lessU at h ⊢
  split at h
  · rename_i e
    have hs : ∀ p ∈ x.2.1, H p.1 = H' p.1 := fun p hp => by
      have := List.all_eq_true.1 e p hp
      cases hb : H p.1 with
      | none => rw [hb] at this; cases this
      | some b => exact (hh _ b hb).symm
    rw [if_pos (List.all_eq_true.2 fun p hp => by rw [← hs p hp]; exact List.all_eq_true.1 e p hp), ← sameU_eq hs]
    exact h
  · cases h
theorem lessU_some {H : Nat → Option AB} {x : AV × List (Nat × AB) × List Bool × List Bool} {v : AV} {u : List (Nat × AB)} {cs r : List Bool} (h : lessU H x = some (v, u, cs, r)) : ∃ u0, x = (v, u0, cs, r) ∧ ups H u = ups H u0 := by
  obtain ⟨a, b, c, d⟩ := x
  unfold lessU at h
  split at h
  · simp only [Option.some.injEq, Prod.mk.injEq] at h
    obtain ⟨rfl, h2, rfl, rfl⟩ := h
    refine ⟨b, rfl, ?_⟩
    split at h2
    · rename_i e
      subst h2
      exact (sameU_ups e).symm
    · rw [h2]
  · cases h
/-- The first of them whose blocks are there and as they were; in the order in which they are met. -/
def ckRun {f : Nat} : List (CK P f) → List AV → (Nat → Option AB) → List Bool → Option (AV × List (Nat × AB) × List Bool × List Bool)
  | [], _, _, _ => none
  | k :: l, args, H, os => if eqVs args k.abs then
      if k.ids.all (fun i => (H i).isSome) then match klF k.ids (ccF [k.c]) args H os with
        | some u => lessU H u
        | none => ckRun l args H os
      else none
    else ckRun l args H os
theorem unBsH_eq {is0 : List Nat} {H H' : Nat → Option AB} : ∀ {is : List Nat}, (∀ i ∈ is, H i = H' i) → unBsH is0 H is = unBsH is0 H' is
  | [], _ => rfl
  | i :: r, h => by
    unfold unBsH
    rw [h i (List.mem_cons_self ..), unBsH_eq (is := r) fun j hj => h j (List.mem_cons_of_mem _ hj)]
theorem ckRun_mono {f : Nat} {H H' : Nat → Option AB} (hh : HLe H H') : ∀ {l : List (CK P f)} {args : List AV} {os : List Bool} {u}, ckRun l args H os = some u → ckRun l args H' os = some u
  | [], _, _, _, h => by cases h
  | k :: l, args, os, u, h => by
    unfold ckRun at h ⊢
    split at h
    · rename_i e
      rw [if_pos e]
      split at h
      · rename_i e2
        have hs : ∀ i ∈ k.ids, H i = H' i := fun i hi => by
          have := List.all_eq_true.1 e2 i hi
          cases hb : H i with
          | none => rw [hb] at this; cases this
          | some b => exact (hh i b hb).symm
        have e3 : (k.ids.all fun i => (H' i).isSome) = true := List.all_eq_true.2 fun i hi => by rw [← hs i hi]; exact List.all_eq_true.1 e2 i hi
        rw [if_pos e3]
        have ek : klF k.ids (ccF [k.c]) args H' os = klF k.ids (ccF [k.c]) args H os := by
          unfold klF
          rw [unBsH_eq (is0 := k.ids) (is := k.ids) (H := H') (H' := H) fun i hi => (hs i hi).symm]
        rw [ek]
        split at h
        · exact lessU_mono hh h
        · exact ckRun_mono hh h
      · cases h
    · rename_i e
      rw [if_neg e]
      exact ckRun_mono hh h
theorem ckRun_ok {f : Nat} {X : Ctx} (hX : HRel X) : ∀ {l : List (CK P f)} {args : List AV} {os : List Bool} {v : AV} {u : List (Nat × AB)} {cs os' : List Bool}, ckRun l args X.H os = some (v, u, cs, os') → (∀ c ∈ cs, c = true) → ∃ k ∈ l, ∃ u0, klF k.ids (ccF [k.c]) args X.H os = some (v, u0, cs, os') ∧ ups X.H u = ups X.H u0
  | [], _, _, _, _, _, _, h, _ => by cases h
  | k :: l, args, os, v, u, cs, os', h, hcs => by
    unfold ckRun at h
    split at h
    · split at h
      · split at h
        · rename_i q hq
          obtain ⟨u0, rfl, e⟩ := lessU_some h
          exact ⟨k, List.mem_cons_self .., u0, hq, e⟩
        · obtain ⟨k', h1, h2⟩ := ckRun_ok hX h hcs
          exact ⟨k', List.mem_cons_of_mem _ h1, h2⟩
      · cases h
    · obtain ⟨k', h1, h2⟩ := ckRun_ok hX h hcs
      exact ⟨k', List.mem_cons_of_mem _ h1, h2⟩
def ckL {f : Nat} (l : List (CK P f)) (kl : KL) : KL := fun g args H os => if Nat.beq g f then ckRun l args H os else kl g args H os
theorem ckL_ok {f : Nat} {l : List (CK P f)} {kl : KL} (hkl : KLok P kl) : KLok P (ckL l kl) := by
  refine ⟨fun g args H H' os u hh h => ?_, fun g args os v u cs os' X hX h hcs vs hv => ?_⟩
  · unfold ckL at h ⊢
    split
    · rename_i e
      rw [if_pos e] at h
      exact ckRun_mono hh h
    · rename_i e
      rw [if_neg e] at h
      exact hkl.1 _ _ _ _ _ _ hh h
  · unfold ckL at h
    split at h
    · rename_i e
      simp only [Nat.beq_eq] at e
      subst e
      obtain ⟨k, _, u0, hk, eu⟩ := ckRun_ok hX h hcs
      rw [eu]
      exact klF_ok (ccF_ok fun c hc => by
        simp only [List.mem_cons, List.not_mem_nil, or_false] at hc
        subst hc; exact k.ok) hX hk hcs hv
    · exact hkl.2 _ _ _ _ _ _ _ _ hX h hcs vs hv
def Env.addCK (E : Env P) (f : Nat) (l : List (CK P f)) : Env P :=
  { E.addCC f (l.map (·.c)) (fun c hc => by
      simp only [List.mem_map] at hc
      obtain ⟨k, _, rfl⟩ := hc
      exact k.ok) with kl := ckL l E.kl, kd := fun g => Nat.beq g f || E.kd g, hkl := ckL_ok E.hkl }
end Go.Eng
