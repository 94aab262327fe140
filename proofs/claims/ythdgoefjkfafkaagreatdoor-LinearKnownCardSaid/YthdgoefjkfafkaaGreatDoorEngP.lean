import Derived.Laws.Concat
import Derived.Laws.Strings
import Derived.Laws.IdiomRangeMap
import Derived.Orders
import Derived.Test.YthdgoefjkfafkaaGreatDoorEngK4
set_option linter.unusedVariables false
namespace Go.Eng
section
open Go Go.RowKit
variable {P : Program}

abbrev Rho := Operand → Option AV

/-- What an operation gives: its value, what blocks hold behind it, what it takes for granted, the choices left. -/
abbrev Res := AV × List (Nat × AB) × List Bool × List Bool

def plain (os : List Bool) (v : Option AV) : Option Res := v.map fun v => (v, [], [], os)
def plainC (os : List Bool) (v : Option (AV × List Bool)) : Option Res := v.map fun v => (v.1, [], v.2, os)

/-- An operation all of whose operands are plain. -/
def scal (P : Program) (o : Oper) (ρ : Rho) : Option AV :=
  if o.op.operands.toList.all fun x => ((ρ x).bind toVV).isSome then
    match pr P (execOp (fun x => ((ρ x).bind toVV).getD undef) o) with
    | some (.value v) => cvv v
    | _ => none
  else none

def aparts (ρ : Rho) : List (Nat × Operand) → Option (List (Nat × List AC))
  | [] => some []
  | (i, x) :: r => match (ρ x).bind AV.cs, aparts ρ r with
    | some c, some l => some ((i, c) :: l)
    | _, _ => none

def acaps (ρ : Rho) : List Operand → Option (List (Nat × Nat))
  | [] => some []
  | x :: r => match ρ x, acaps ρ r with
    | some (.one (.ptr i off)), some l => some ((i, off) :: l)
    | _, _ => none

/-- What may be absent among the operands. -/
def opt (ρ : Rho) : Option Operand → Option (Option AV)
  | none => some none
  | some x => (ρ x).map some

/-- Plain operations on numbers and texts, without the model's long way. -/
def fastBin (op : BinOp) : AV → AV → Option (AV × List Bool)
  | .one (.int k a), .one (.int k' b) => match op with
    | .shl => some (.one (.int k (k.wrap (a * 2 ^ min b.toNat k.bits))), [decide (0 ≤ b)])
    | .shr => some (.one (.int k (a.fdiv (2 ^ min b.toNat k.bits))), [decide (0 ≤ b)])
    | .add => if (CT.int k).eqb (.int k') then some (.one (.int k (k.wrap (a + b))), []) else none
    | .sub => if (CT.int k).eqb (.int k') then some (.one (.int k (k.wrap (a - b))), []) else none
    | .mul => if (CT.int k).eqb (.int k') then some (.one (.int k (k.wrap (a * b))), []) else none
    | .rem => if (CT.int k).eqb (.int k') then some (.one (.int k (a.tmod b)), [decide (b ≠ 0)]) else none
    | .lss => if (CT.int k).eqb (.int k') then some (.one (.bool (decide (a < b))), []) else none
    | .leq => if (CT.int k).eqb (.int k') then some (.one (.bool (decide (a ≤ b))), []) else none
    | .gtr => if (CT.int k).eqb (.int k') then some (.one (.bool (decide (a > b))), []) else none
    | .geq => if (CT.int k).eqb (.int k') then some (.one (.bool (decide (a ≥ b))), []) else none
    | _ => none
  | .one (.str p), .one (.str q) => match op with
    | .add => some (.one (.str (p ++ q)), [decide (p.size + q.size ≤ 9223372036854775807)])
    | _ => none
  | _, _ => none

theorem fastBin_ok {X : Ctx} {op : BinOp} {u v r : AV} {cs : List Bool} (h : fastBin op u v = some (r, cs)) (hcs : ∀ c ∈ cs, c = true) {xv yv : Value} (hx : VR X u xv) (hy : VR X v yv) (t : TypeId) (x y : Operand) (w : World) :
    ∃ val, (do eqGuard op t x y xv yv; binOp op t xv yv : Sem Value).run P w = .ok val w ∧ VR X r val := by
  unfold fastBin at h
  split at h
  · rename_i k a k' b
    have ex : xv = .int k a := hx
    have ey : yv = .int k' b := hy
    subst ex; subst ey
    split at h
    · simp only [Option.some.injEq, Prod.mk.injEq] at h
      obtain ⟨rfl, rfl⟩ := h
      have h0 := of_decide_eq_true (hcs _ (List.mem_cons_self ..))
      have h1 : ¬ b < 0 := by omega
      exact ⟨_, by simp [eqGuard, binOp, Op.shift, h1], rfl⟩
    · simp only [Option.some.injEq, Prod.mk.injEq] at h
      obtain ⟨rfl, rfl⟩ := h
      have h0 := of_decide_eq_true (hcs _ (List.mem_cons_self ..))
      have h1 : ¬ b < 0 := by omega
      exact ⟨_, by simp [eqGuard, binOp, Op.shift, h1], rfl⟩
    all_goals first
      | cases h
      | (split at h
         · rename_i hk
           have e := CT.eq_of_eqb _ _ hk
           injection e with e
           subst e
           simp only [Option.some.injEq, Prod.mk.injEq] at h
           obtain ⟨rfl, rfl⟩ := h
           refine ⟨_, ?_, rfl⟩
           first
           | (simp [eqGuard, binOp, Op.intArith, Op.intCmp]; done)
           | (have h0 := of_decide_eq_true (hcs _ (List.mem_cons_self ..))
              simp [eqGuard, binOp, Op.intDiv, h0])
         · cases h)
  · rename_i p q
    have ex : xv = .string p := hx
    have ey : yv = .string q := hy
    subst ex; subst ey
    split at h
    · simp only [Option.some.injEq, Prod.mk.injEq] at h
      obtain ⟨rfl, rfl⟩ := h
      have hsz := of_decide_eq_true (hcs _ (List.mem_cons_self ..))
      exact ⟨_, by simp [eqGuard, binOp_string_add, Go.run_string_add_sum (P := P) w p q hsz], rfl⟩
    · cases h
  · cases h

/-- A store that writes what lies there already: what it takes for granted. -/
def sameC : AC → AC → Option Bool
  | .int k a, .int k' b => if (CT.int k).eqb (.int k') then some (decide ((a : Int) = b)) else none
  | .bool a, .bool b => some (a == b)
  | .str a, .str b => some (decide (a = b))
  | _, _ => none
def sameCs : List AC → List AC → Option (List Bool)
  | [], [] => some []
  | a :: as, b :: bs => match sameC a b, sameCs as bs with
    | some c, some l => some (c :: l)
    | _, _ => none
  | _, _ => none
def asame (P : Program) (t : TypeId) (p v : AV) : Option (List Bool) :=
  match p, ty P t, v.cs with
  | .one (.elp row l i off), some (_, n), some vs => if vs.length == n then sameCs vs (((row.cells (l.getD i row.dflt)).drop off).take n) else none
  | _, _, _ => none

theorem sameC_eq {X : Ctx} {x y : AC} {c : Bool} (h : sameC x y = some c) (hc : c = true) {u v : Value} (hu : VRc X x u) (hv : VRc X y v) : u = v ∧ u.oneCell' = true := by
  subst hc
  unfold sameC at h
  split at h
  · split at h
    · rename_i e
      have e' := CT.eq_of_eqb _ _ e
      injection e' with e'
      subst e'
      injection h with h
      have := of_decide_eq_true h
      have hu : u = _ := hu
      have hv : v = _ := hv
      rw [hu, hv, this]; exact ⟨rfl, rfl⟩
    · cases h
  · injection h with h
    have hu : u = _ := hu
    have hv : v = _ := hv
    rw [hu, hv, eq_of_beq h]; exact ⟨rfl, rfl⟩
  · injection h with h
    have := of_decide_eq_true h
    have hu : u = _ := hu
    have hv : v = _ := hv
    rw [hu, hv, this]; exact ⟨rfl, rfl⟩
  · cases h
theorem sameCs_at : ∀ {xs ys : List AC} {cs : List Bool}, sameCs xs ys = some cs → (∀ c ∈ cs, c = true) → xs.length = ys.length ∧ ∀ (j : Nat) x y, xs[j]? = some x → ys[j]? = some y → sameC x y = some true
  | [], [], cs, h, _ => ⟨rfl, fun j x y hx => by simp at hx⟩
  | [], b :: bs, cs, h, _ => by cases h
  | a :: as, [], cs, h, _ => by cases h
  | a :: as, b :: bs, cs, h, hc => by
    simp only [sameCs] at h
    split at h
    · rename_i c l h1 h2
      injection h with h; subst h
      obtain ⟨g1, g2⟩ := sameCs_at h2 fun c hcc => hc c (List.mem_cons_of_mem _ hcc)
      refine ⟨by simp [g1], fun j x y hx hy => ?_⟩
      cases j with
      | zero =>
        simp only [List.getElem?_cons_zero, Option.some.injEq] at hx hy
        subst hx; subst hy
        rw [h1, hc c (List.mem_cons_self ..)]
      | succ j => exact g2 j x y (by simpa using hx) (by simpa using hy)
    · cases h
theorem setCell_same {w : World} {a : Addr} {v : Value} (hs : a.spot = none) (h : w.cell? a = some v) : w.setCell a v = w := by
  have hh : (w.setCell a v).heap = w.heap := by
    apply Array.ext_getElem?
    intro k
    simp only [World.setCell]
    rw [Array.getElem?_modify]
    split
    · rename_i e
      subst e
      unfold World.cell? at h
      split at h
      · rename_i c e f hb
        rw [hb]
        simp only [hs, Option.isSome_none] at h ⊢
        have h' : c[a.off]? = some v := by simpa using h
        simp only [Option.map_some, Option.some.injEq]
        congr 1
        apply Array.ext_getElem?
        intro j
        by_cases hj : j = a.off
        · subst hj
          obtain ⟨hl, hv⟩ := Array.getElem?_eq_some_iff.1 h'
          simp [hl, hv]
        · simp [Array.getElem?_setIfInBounds_ne (fun e => hj e.symm)]
      · cases h
    · rfl
  calc w.setCell a v = { w with heap := (w.setCell a v).heap } := rfl
    _ = { w with heap := w.heap } := by rw [hh]
    _ = w := rfl
theorem run_storeCells_same (P : Program) (w : World) (b o : Nat) : ∀ (vs : List Value) (i : Nat), (∀ (j : Nat) v, vs[j]? = some v → w.cell? ⟨b, o + i + j, none⟩ = some v ∧ w.frozen? ⟨b, o + i + j, none⟩ = false ∧ v.oneCell' = true) →
    (storeCells ⟨b, o, none⟩ vs i).run P w = .ok () w
  | [], i, _ => rfl
  | v :: vs, i, h => by
    obtain ⟨h1, h2, h3⟩ := h 0 v rfl
    rw [Nat.add_zero] at h1 h2
    have ih := run_storeCells_same P w b o vs (i + 1) fun j u hj => by
      have := h (j + 1) u (by simpa using hj)
      rwa [show o + i + (j + 1) = o + (i + 1) + j by omega] at this
    have hs := run_store P w ⟨b, o + i, none⟩ v .plain h3
    simp only [storeCells, Addr.add_lit, Sem.run_bind, hs, h1, h2]
    rw [setCell_same rfl h1]
    simp only [Bool.false_eq_true, if_false, Result.andThen_ok]
    exact ih
theorem asame_ok {X : Ctx} {t : TypeId} {p v : AV} {cs : List Bool} (h : asame P t p v = some cs) (hcs : ∀ c ∈ cs, c = true) {pv val : Value} (hp : VR X p pv) (hv : VR X v val) : (Instr.storeAt t pv val).run P X.w = .ok () X.w := by
  unfold asame at h
  split at h
  · rename_i row l i off ag n vs ht hvs
    split at h
    · rename_i hn
      have hn : vs.length = n := by simpa using hn
      obtain ⟨hi, b, o, rfl, hr⟩ := hp
      have hg : l[i]? = some (l.getD i row.dflt) := by rw [List.getD_eq_getElem?_getD, List.getElem?_eq_getElem hi]; rfl
      have hrel := hr _ hg
      obtain ⟨hpw, hone⟩ := AV.cs_rel hvs hv
      obtain ⟨g1, g2⟩ := sameCs_at h hcs
      obtain ⟨_, hsz⟩ := ty_run ht X.w
      have hvl : val.cells.toList.length = n := by rw [← hpw.1]; exact hn
      have hne : (val.cells.size ≠ n) = False := by
        have : val.cells.size = n := by rw [← Array.length_toList]; exact hvl
        simp [this]
      simp only [Instr.storeAt, Instr.sureAddr, Sem.run_bind, Sem.run_pure, Result.andThen_ok, storeVar, hsz]
      simp only [hne, if_false]
      refine run_storeCells_same P X.w b _ val.cells.toList 0 fun j u hj => ?_
      obtain ⟨x, hx, hxu⟩ := hpw.get hj
      have hjl : j < n := by rw [← hn]; exact (List.getElem?_eq_some_iff.1 hx).1
      have hyl : j < (((row.cells (l.getD i row.dflt)).drop off).take n).length := by rw [← g1, hn]; exact hjl
      have hy := List.getElem?_eq_getElem hyl
      have hs := g2 j x _ hx hy
      rw [List.getElem?_take_of_lt hjl, List.getElem?_drop] at hy
      obtain ⟨y', hy1, hy2⟩ := RelT.cell row _ _ hrel _ _ hy
      obtain ⟨e1, e2⟩ := sameC_eq hs rfl hxu hy2
      subst e1
      have ea : o + i * row.width + off + 0 + j = o + i * row.width + (off + j) := by omega
      rw [ea]
      exact ⟨hy1.2.2.1, hy1.2.2.2.2.2, e2⟩
    · cases h
  · cases h

def mk0 : Operand → Bool
  | .const (.int _ (.ofNat 0)) => true
  | _ => false

def abuildCsl (P : Program) (t : TypeId) (len : Nat) (nid : Nat) (parts : List (Nat × List AC)) : Option (AV × List (Nat × AB)) :=
  match P.underlying t with
  | some (.slice e) => match P.info? e, azero P e with
    | some i, some zs =>
      if Nat.beq zs.length i.size && Nat.blt 0 i.size && Nat.ble (len * i.size) 16777216 then
        match afill (fun k => some (k * i.size, i.size)) (zrep zs len) parts with
        | some cs => some (.one (.csl nid 0 len len), [(nid, .cells cs)])
        | none => none
      else none
    | _, _ => none
  | _ => none


theorem abuildCsl_ok {X : Ctx} (hX : HRel X) {t : TypeId} {len nid : Nat} (hnid : X.H nid = none) {parts : List (Nat × List AC)} {vals : Array (Nat × Value)} {v : AV} {u : List (Nat × AB)} (hp : PartsRel X parts vals.toList)
    (h : abuildCsl P t len nid parts = some (v, u)) :
    ∃ val X', (Instr.buildSlice t len vals).run P X.w = .ok val X'.w ∧ X.le X' ∧ HRel X' ∧ X'.H = u.foldl (fun H p => upd H p.1 (some p.2)) X.H ∧ VR X' v val := by
  unfold abuildCsl at h
  split at h
  · rename_i e hu
    split at h
    · rename_i i zs hi hz
      split at h
      · rename_i hcond
        simp only [Bool.and_eq_true, Nat.beq_eq, Nat.blt_eq, Nat.ble_eq] at hcond
        obtain ⟨⟨hzl, hpos⟩, hsz⟩ := hcond
        split at h
        · rename_i cs hf
          simp only [Option.some.injEq, Prod.mk.injEq] at h
          obtain ⟨rfl, rfl⟩ := h
          obtain ⟨z, hzr, hzp⟩ := azero_rel (X := X) hz
          have hzs : z.cells.size = i.size := by rw [← Array.length_toList, ← hzp.1]; exact hzl
          have hzero : PW (VRc X) (zrep zs len) ((Array.range (len * i.size)).map (z.cells[· % z.cells.size]!)).toList := by
            refine ⟨by rw [zrep_len, hzl]; simp, fun j c y hc hy => ?_⟩
            have hj : j < len * zs.length := by
              have := (List.getElem?_eq_some_iff.1 hc).1
              rwa [zrep_len] at this
            rw [zrep_get zs len j hj] at hc
            have hj' : j < len * i.size := by rw [← hzl]; exact hj
            have hm : j % i.size < z.cells.size := by rw [hzs]; exact Nat.mod_lt _ hpos
            simp only [Array.toList_map, Array.toList_range, List.getElem?_map, List.getElem?_range hj', Option.map_some, Option.some.injEq, hzs] at hy
            subst hy
            rw [hzl] at hc
            refine hzp.2 (j % i.size) c _ hc ?_
            rw [Array.getElem?_toList, getElem!_pos z.cells _ hm, Array.getElem?_eq_getElem hm]
          obtain ⟨ov, g1, g2⟩ := afill_ok parts vals.toList (zrep zs len) _ cs hp hzero hf
          obtain ⟨q1, q2, _⟩ := alloc_ok hX hnid g2 e
          have hll : len ≤ len * i.size := Nat.le_mul_of_pos_right _ hpos
          refine ⟨.slice (some ⟨X.w.heap.size, 0, none⟩) len len, X.push nid (.cells cs) (.cells ov e), ?_, q1, q2, rfl, ⟨⟨_, by simp only [Ctx.push, upd_same]; rfl, rfl⟩, by simp only [Ctx.push, upd_same], Nat.le_refl _, by simp only [maxLen]; omega⟩⟩
          show (Instr.buildSlice t len vals).run P X.w = Result.ok _ (X.w.alloc (.cells ov e))
          have hnz : len * i.size = 0 ∨ len * i.size ≠ 0 := by omega
          simp only [Instr.buildSlice, Sem.run_bind, run_underlying hu, Result.andThen_ok, run_size hi]
          rw [if_neg (by omega)]
          rcases hnz with hz0 | hz0
          · have hl0 : len = 0 := by
              rcases Nat.mul_eq_zero.1 hz0 with h | h
              · exact h
              · omega
            subst hl0
            rw [if_pos hz0]
            simp only [Sem.run_bind, Sem.run_pure, Result.andThen_ok]
            have e0 : ((Array.range (0 * i.size)).map (fun x => (#[] : Array Value)[x % (#[] : Array Value).size]!)) = ((Array.range (0 * i.size)).map (z.cells[· % z.cells.size]!)) := by simp
            rw [e0, g1]
            simp only [Sem.run_bind, newRow, run_newObj, Result.andThen_ok, Sem.run_pure, World.alloc_eq]
          · rw [if_neg hz0]
            simp only [Sem.run_bind, hzr, Result.andThen_ok, Sem.run_pure]
            rw [g1]
            simp only [Sem.run_bind, newRow, run_newObj, Result.andThen_ok, Sem.run_pure, World.alloc_eq]
        · cases h
      · cases h
    · cases h
  · cases h


def abuildAsl (P : Program) (t : TypeId) (len : Nat) (nid : Nat) (parts : List (Nat × List AC)) : Option (AV × List (Nat × AB)) :=
  match P.underlying t with
  | some (.slice e) => match P.info? e, azero P e, rowOf P 12 e with
    | some i, some zs, some row =>
      if Nat.beq row.width i.size && (Nat.beq zs.length i.size && Nat.blt 0 i.size && Nat.ble (len * i.size) 16777216) then
        match afill (fun k => some (k * i.size, i.size)) (zrep zs len) parts with
        | some cs => match row.uns len cs with
          | some (l, []) => some (.one (.asl row nid 0 len len), [(nid, .arr row l)])
          | _ => none
        | none => none
      else none
    | _, _, _ => none
  | _ => none


theorem abuildAsl_ok {X : Ctx} (hX : HRel X) {t : TypeId} {len nid : Nat} (hnid : X.H nid = none) {parts : List (Nat × List AC)} {vals : Array (Nat × Value)} {v : AV} {u : List (Nat × AB)} (hp : PartsRel X parts vals.toList)
    (h : abuildAsl P t len nid parts = some (v, u)) :
    ∃ val X', (Instr.buildSlice t len vals).run P X.w = .ok val X'.w ∧ X.le X' ∧ HRel X' ∧ X'.H = u.foldl (fun H p => upd H p.1 (some p.2)) X.H ∧ VR X' v val := by
  unfold abuildAsl at h
  split at h
  · rename_i e hu
    split at h
    · rename_i i zs row hi hz hrow
      split at h
      · rename_i hcond
        simp only [Bool.and_eq_true, Nat.beq_eq, Nat.blt_eq, Nat.ble_eq] at hcond
        obtain ⟨hw, ⟨hzl, hpos⟩, hsz⟩ := hcond
        split at h
        · rename_i cs hf
          split at h
          rotate_left
          · cases h
          rename_i l hl
          simp only [Option.some.injEq, Prod.mk.injEq] at h
          obtain ⟨rfl, rfl⟩ := h
          obtain ⟨z, hzr, hzp⟩ := azero_rel (X := X) hz
          have hzs : z.cells.size = i.size := by rw [← Array.length_toList, ← hzp.1]; exact hzl
          have hzero : PW (VRc X) (zrep zs len) ((Array.range (len * i.size)).map (z.cells[· % z.cells.size]!)).toList := by
            refine ⟨by rw [zrep_len, hzl]; simp, fun j c y hc hy => ?_⟩
            have hj : j < len * zs.length := by
              have := (List.getElem?_eq_some_iff.1 hc).1
              rwa [zrep_len] at this
            rw [zrep_get zs len j hj] at hc
            have hj' : j < len * i.size := by rw [← hzl]; exact hj
            have hm : j % i.size < z.cells.size := by rw [hzs]; exact Nat.mod_lt _ hpos
            simp only [Array.toList_map, Array.toList_range, List.getElem?_map, List.getElem?_range hj', Option.map_some, Option.some.injEq, hzs] at hy
            subst hy
            rw [hzl] at hc
            refine hzp.2 (j % i.size) c _ hc ?_
            rw [Array.getElem?_toList, getElem!_pos z.cells _ hm, Array.getElem?_eq_getElem hm]
          obtain ⟨ov, g1, g2⟩ := afill_ok parts vals.toList (zrep zs len) _ cs hp hzero hf
          obtain ⟨u1, u2, u3⟩ := CT.uns_rel row len cs l [] ov.toList hl g2
          have hle := push_le hX hnid (.arr row l) rfl (.cells ov e)
          have hrel := HRel.push hX hnid (.arr row l) rfl (.cells ov e) ⟨ov, (e, (0, 0)), by
              show (X.w.alloc (.cells ov e)).heap[(X.push nid (.arr row l) (.cells ov e)).φ nid]? = _
              simp only [Ctx.push, upd_same]
              exact heap_alloc_new X.w _, ⟨by rw [u1, ← Array.length_toList, ← g2.1, u2]; simp, fun o _ => by simp, by simp only [Ctx.push, upd_same]; rfl⟩, fun q x hq => by
                refine RelT.mono row x (fun k y hy => ?_) hle.ic (u3 q x hq)
                simpa using hy⟩
          have hll : len ≤ len * i.size := Nat.le_mul_of_pos_right _ hpos
          refine ⟨.slice (some ⟨X.w.heap.size, 0, none⟩) len len, X.push nid (.arr row l) (.cells ov e), ?_, hle, hrel, rfl, l, .inl (by simp only [Ctx.push, upd_same]), by simp only [Ctx.push, upd_same, Nat.zero_mul], Nat.le_refl _, by simp only [maxLen]; omega, by rw [u1]; omega⟩
          show (Instr.buildSlice t len vals).run P X.w = Result.ok _ (X.w.alloc (.cells ov e))
          have hnz : len * i.size = 0 ∨ len * i.size ≠ 0 := by omega
          simp only [Instr.buildSlice, Sem.run_bind, run_underlying hu, Result.andThen_ok, run_size hi]
          rw [if_neg (by omega)]
          rcases hnz with hz0 | hz0
          · have hl0 : len = 0 := by
              rcases Nat.mul_eq_zero.1 hz0 with h | h
              · exact h
              · omega
            subst hl0
            rw [if_pos hz0]
            simp only [Sem.run_bind, Sem.run_pure, Result.andThen_ok]
            have e0 : ((Array.range (0 * i.size)).map (fun x => (#[] : Array Value)[x % (#[] : Array Value).size]!)) = ((Array.range (0 * i.size)).map (z.cells[· % z.cells.size]!)) := by simp
            rw [e0, g1]
            simp only [Sem.run_bind, newRow, run_newObj, Result.andThen_ok, Sem.run_pure, World.alloc_eq]
          · rw [if_neg hz0]
            simp only [Sem.run_bind, hzr, Result.andThen_ok, Sem.run_pure]
            rw [g1]
            simp only [Sem.run_bind, newRow, run_newObj, Result.andThen_ok, Sem.run_pure, World.alloc_eq]
        · cases h
      · cases h
    · cases h
  · cases h


/-- Types whose new values are kept as typed blocks (strings.Builder's number). -/
def bldTs : List Nat := [99]
def allocB (t : TypeId) (cs : List AC) : AB := if bldTs.isEmpty then .cells cs else if bldTs.contains t then match cs with
  | [.nilp, .nils] => .bld t .nils
  | _ => .cells cs else .cells cs
theorem allocB_rel {X : Ctx} (hX : HRel X) {n : Nat} (hn : X.H n = none) {cs : List AC} {vs : Array Value} (h : PW (VRc X) cs vs.toList) (t : TypeId) :
    X.le (X.push n (allocB t cs) (.cells vs t)) ∧ HRel (X.push n (allocB t cs) (.cells vs t)) ∧ VR (X.push n (allocB t cs) (.cells vs t)) (.one (.ptr n 0)) (.pointer (some ⟨X.w.heap.size, 0, none⟩)) := by
  have dflt : allocB t cs = .cells cs → X.le (X.push n (allocB t cs) (.cells vs t)) ∧ HRel (X.push n (allocB t cs) (.cells vs t)) ∧ VR (X.push n (allocB t cs) (.cells vs t)) (.one (.ptr n 0)) (.pointer (some ⟨X.w.heap.size, 0, none⟩)) := fun e => by
    rw [e]; exact alloc_ok hX hn h t
  by_cases hb : allocB t cs = .cells cs
  · exact dflt hb
  · have h2 : cs = [.nilp, .nils] ∧ allocB t cs = .bld t .nils := by
      unfold allocB at hb ⊢
      split at hb
      · exact absurd rfl hb
      · rename_i h0
        split at hb
        · rename_i h1
          split at hb
          · exact ⟨rfl, by rw [if_neg h0, if_pos h1]⟩
          · exact absurd rfl hb
        · exact absurd rfl hb
    obtain ⟨rfl, e⟩ := h2
    rw [e]
    have hvs : vs = #[.pointer none, .slice none 0 0] := by
      have hl : vs.size = 2 := by have := h.1; simpa using this.symm
      obtain ⟨y0, k0, r0⟩ := h.at_ (j := 0) rfl
      obtain ⟨y1, k1, r1⟩ := h.at_ (j := 1) rfl
      have r0 : y0 = .pointer none := r0
      have r1 : y1 = .slice none 0 0 := r1
      subst r0; subst r1
      rw [Array.getElem?_toList] at k0 k1
      apply Array.ext_getElem?
      intro k
      match k with
      | 0 => rw [k0]; rfl
      | 1 => rw [k1]; rfl
      | k + 2 => rw [Array.getElem?_eq_none (by omega), Array.getElem?_eq_none (by simp)]
    subst hvs
    have hle := push_le hX hn (.bld t .nils) rfl (.cells #[.pointer none, .slice none 0 0] t)
    refine ⟨hle, HRel.push hX hn _ rfl _ ⟨.pointer none, .slice none 0 0, ?_, .inl rfl, rfl⟩, ⟨_, by simp only [Ctx.push, upd_same]; rfl, rfl⟩, by simp only [Ctx.push, upd_same]⟩
    simp only [Ctx.push, upd_same]; exact heap_alloc_new X.w _
def aop (P : Program) (o : Oper) (ρ : Rho) (H : Nat → Option AB) (nid : Nat) (os : List Bool) : Option Res :=
  match o.op with
  | .move x | .assign x => plain os (ρ x)
  | .alloc t => (azero P t).map fun cs => (.one (.ptr nid 0), [(nid, allocB t cs)], [], os)
  | .box t x => ((ρ x).bind AV.cs).map fun cs => (.one (.ptr nid 0), [(nid, .cells cs)], [], os)
  | .load t p => plain os ((ρ p).bind (aload P t H))
  | .store t p x => match ρ p, ρ x with
    | some pv, some xv => match asame P t pv xv with
      | some cs => some (.one .unk, [], cs, os)
      | none => (astore P t H pv xv).map fun u => (.one .unk, [u], [], os)
    | _, _ => none
  | .nilCheck x => match ρ x with
    | some (.one (.ptr i off)) => some (.one (.ptr i off), [], [], os)
    | some (.one (.elp r l i off)) => some (.one (.elp r l i off), [], [], os)
    | some (.one (.fn f c)) => some (.one (.fn f c), [], [], os)
    | some (.one (.mth f i off)) => some (.one (.mth f i off), [], [], os)
    | some (.one (.ael r i j d)) => some (.one (.ael r i j d), [], [], os)
    | some (.one (.pti i off n len)) => some (.one (.pti i off n len), [], [], os)
    | _ => none
  | .fieldAddr s x f => plain os ((ρ x).bind (afield P s f))
  | .field s x f => plain os ((ρ x).bind (afieldV P s f))
  | .indexAddr t x i => match ρ x, ρ i with
    | some xv, some iv => plainC os (aindexAddr P t xv iv)
    | _, _ => none
  | .index t x i => match ρ x, ρ i with
    | some xv, some iv => plainC os (aindex P t xv iv)
    | _, _ => none
  | .extract x i => plain os ((ρ x).bind (aextract · i))
  | .build t ps => plain os ((aparts ρ ps.toList).bind (abuild P t))
  | .buildSlice t n ps => if ownPos.contains o.pos && Nat.blt 0 n then ((aparts ρ ps.toList).bind (abuildAsl P t n nid)).map fun u => (u.1, u.2, [], os) else match (aparts ρ ps.toList).bind (abuildSlice P t n) with
    | some v => some (v, [], [], os)
    | none => ((aparts ρ ps.toList).bind (abuildCsl P t n nid)).map fun u => (u.1, u.2, [], os)
  | .slice t x lo hi mx => match ρ x, opt ρ lo, opt ρ hi, opt ρ mx with
    | some xv, some l, some h, some m => plainC os (aslice P t xv l h m)
    | _, _, _, _ => none
  | .makeFunc (.func f) first caps => if first.isEmpty then plain os ((acaps ρ caps.toList).map fun l => .one (.fn f l)) else
      match first.toList, caps.isEmpty with
      | [x], true => match ρ x with
        | some (.one (.ptr i off)) => some (.one (.mth f i off), [], [], os)
        | _ => none
      | _, _ => none
  | .binOp .eql t x y _ => match ρ x, ρ y with
    | some xv, some yv => match aeq P t xv yv with
      | some b => some (.one (.bool b), [], [], os)
      | none => plain os (scal P o ρ)
    | _, _ => none
  | .binOp .neq t x y _ => match ρ x, ρ y with
    | some xv, some yv => match aeq P t xv yv with
      | some b => some (.one (.bool (!b)), [], [], os)
      | none => plain os (scal P o ρ)
    | _, _ => none
  | .call { callee := .builtin .len, args, argTypes } => match args.toList, argTypes.toList with
    | [x], [t] => match ρ x with
      | some (.one (.sl row l m)) => if isSlT P t then some (.one (.int .i64 l.length), [], [], os) else none
      | some (.one (.csl i off len cap)) => if isSlT P t then some (.one (.int .i64 len), [], [], os) else none
      | some (.one (.asl row i off len cap)) => if isSlT P t then some (.one (.int .i64 len), [], [], os) else none
      | some (.one (.bsl row i off len _)) => if isSlT P t then some (.one (.int .i64 len), [], [], os) else none
      | some (.one (.mref j)) => match mapT P t, H j with
        | some _, some (.mp _ _ _ _ l) => some (.one (.int .i64 l.length), [], [], os)
        | some _, some (.rom _ _ _ _ l _) => some (.one (.int .i64 l.length), [], [], os)
        | _, _ => none
      | some _ => plain os (scal P o ρ)
      | none => none
    | _, _ => none
  | .call { callee := .builtin .cap, args, argTypes } => match args.toList, argTypes.toList with
    | [x], [t] => match ρ x with
      | some (.one (.csl i off len cap)) => if isSlT P t then some (.one (.int .i64 cap), [], [], os) else none
      | some (.one (.asl row i off len cap)) => if isSlT P t then some (.one (.int .i64 cap), [], [], os) else none
      | _ => none
    | _, _ => none
  | .call { callee := .builtin .copy, args, argTypes } => match args.toList, argTypes.toList with
    | [d, x], [t, t'] => match ρ d, ρ x with
      | some (.one dv), some (.one xv) => (acopy P t H dv xv).map fun u => (u.1, u.2, [], os)
      | _, _ => none
    | _, _ => none
  | .call { callee := .builtin .clear, args, argTypes } => match args.toList, argTypes.toList with
    | [x], [t] => match ρ x with
      | some (.one (.mref j)) => match mapT P t, H j with
        | some _, some (.mp _ _ _ _ []) => some (.tup [], [], [], os)
        | _, _ => none
      | some (.one (.bsl row j off len mn)) => (aclear P t H (.bsl row j off len mn)).map fun u => (.tup [], [u], [], os)
      | some (.one (.asl row j off len mn)) => (aclear P t H (.bsl row j off len mn)).map fun u => (.tup [], [u], [], os)
      | _ => none
    | _, _ => none
  | .makeSlice t l c => match ρ l, ρ c with
    | some lv, some cv => match mk0 l && !(ownPos.contains o.pos), amake0 P t nid cv with
      | true, some u => some (u.1, u.2.1, u.2.2, os)
      | _, _ => (amake P t nid lv cv).map fun u => (u.1, u.2.1, u.2.2, os)
    | _, _ => none
  | .call { callee := .builtin .append, args, argTypes } => match args.toList, argTypes.toList with
    | [s, x], [t, t'] => if Nat.beq t t' then
        match ρ s, ρ x with
        | some (.one sv), some (.one xv) => aappendW P t H nid sv xv o.pos os
        | _, _ => none
      else none
    | _, _ => none
  | .call { callee := .builtin .min, .. } => plain os (scal P o ρ)
  | .call { callee := .builtin .max, .. } => plain os (scal P o ρ)
  | .convert src dst x => match ρ x with
    | some (.one c) => if convB P src dst then (aconv P src dst H nid c).map fun u => (u.1, u.2.1, u.2.2, os) else plain os (scal P o ρ)
    | _ => plain os (scal P o ρ)
  | .binOp op t x y _ => match ρ x, ρ y with
    | some u, some v => match fastBin op u v with
      | some (r, cs) => some (r, [], cs, os)
      | none => plain os (scal P o ρ)
    | _, _ => none
  | .unOp .. => plain os (scal P o ρ)
  | .makeMap t none => (amakeMap P t nid).map fun u => (u.1, u.2, [], os)
  | .range t x => match ρ x with
    | some (.one (.mref j)) => match mapT P t, H j with
      | some _, some (.mp _ _ _ _ l) => some (.one (.ptr nid 0), [(nid, .iter j l.length true)], [], os)
      | some _, some (.rom _ _ _ _ l _) => some (.one (.ptr nid 0), [(nid, .iter j l.length true)], [], os)
      | _, _ => none
    | _ => none
  | .lookup t x i ok => match ρ x, ρ i with
    | some xv, some iv => plain os (alookup P t H xv iv ok)
    | _, _ => none
  | .mapUpdate t m k x => match ρ m, ρ k, ρ x with
    | some mv, some kv, some xv => (amapSet P t H mv kv xv).map fun u => (.one .unk, [u], [], os)
    | _, _, _ => none
  | _ => none

/-- What is known of the operands is so. -/
def RhoOk (X : Ctx) (ρ : Rho) (a : Act) (o : Oper) : Prop := ∀ x ∈ o.op.operands, ∀ v, ρ x = some v → VR X v (a.eval x)

theorem scal_ok {X : Ctx} {ρ : Rho} {a : Act} {o : Oper} (hρ : RhoOk X ρ a o) (hs : ∀ cs b, o.op ≠ .select cs b) {v : AV} (h : scal P o ρ = some v) :
    ∃ val, (execOp a.eval o).run P X.w = .ok (.value val) X.w ∧ VR X v val := by
  unfold scal at h
  split at h
  · rename_i hall
    have he : execOp a.eval o = execOp (fun x => ((ρ x).bind toVV).getD undef) o := execOp_congr o hs fun x hx => by
      have hx' := List.all_eq_true.1 hall x (by simpa using hx)
      cases hr : ρ x with
      | none => rw [hr] at hx'; cases hx'
      | some w =>
        rw [hr] at hx'
        simp only [Option.bind_some] at hx' ⊢
        cases hv : toVV w with
        | none => rw [hv] at hx'; cases hx'
        | some u => exact toVV_rel hv (hρ x hx w hr)
    split at h
    · rename_i val hp
      exact ⟨val, by rw [he]; exact pr_run P _ _ _ hp, cvv_rel X h⟩
    · cases h
  · cases h

theorem aparts_rel {X : Ctx} {ρ : Rho} {a : Act} : ∀ (ps : List (Nat × Operand)) (l : List (Nat × List AC)), aparts ρ ps = some l → (∀ p ∈ ps, ∀ v, ρ p.2 = some v → VR X v (a.eval p.2)) →
    PartsRel X l (ps.map fun (i, x) => (i, a.eval x))
  | [], l, h, _ => by simp only [aparts, Option.some.injEq] at h; subst h; exact PW.nil
  | (i, x) :: r, l, h, hr => by
    simp only [aparts] at h
    split at h
    · rename_i c l' h1 h2
      injection h with h; subst h
      cases hx : ρ x with
      | none => rw [hx] at h1; cases h1
      | some v =>
        rw [hx] at h1
        exact PW.cons ⟨rfl, (AV.cs_rel h1 (hr (i, x) (List.mem_cons_self ..) v hx)).1⟩ (aparts_rel r l' h2 fun p hp => hr p (List.mem_cons_of_mem _ hp))
    · cases h

theorem acaps_rel {X : Ctx} {ρ : Rho} {a : Act} : ∀ (ps : List Operand) (l : List (Nat × Nat)), acaps ρ ps = some l → (∀ x ∈ ps, ∀ v, ρ x = some v → VR X v (a.eval x)) →
    PW (fun (p : Nat × Nat) (v : Value) => (∃ b, X.H p.1 = some b ∧ b.pt = true) ∧ v = .pointer (some ⟨X.φ p.1, p.2, none⟩)) l (ps.map a.eval)
  | [], l, h, _ => by simp only [acaps, Option.some.injEq] at h; subst h; exact PW.nil
  | x :: r, l, h, hr => by
    simp only [acaps] at h
    split at h
    · rename_i i off l' h1 h2
      injection h with h; subst h
      exact PW.cons (hr x (List.mem_cons_self ..) _ h1) (acaps_rel r l' h2 fun p hp => hr p (List.mem_cons_of_mem _ hp))
    · cases h

theorem opt_rel {X : Ctx} {ρ : Rho} {a : Act} {x : Option Operand} {r : Option AV} (h : opt ρ x = some r) (hr : ∀ y, x = some y → ∀ v, ρ y = some v → VR X v (a.eval y)) : ORel X r (x.map a.eval) := by
  cases x with
  | none => simp only [opt, Option.some.injEq] at h; subst h; rfl
  | some y =>
    simp only [opt] at h
    cases hy : ρ y with
    | none => rw [hy] at h; cases h
    | some v =>
      rw [hy] at h
      simp only [Option.map_some, Option.some.injEq] at h
      subst h
      exact ⟨_, rfl, hr y rfl v hy⟩

/-- The blocks behind some changes. -/
def ups (H : Nat → Option AB) (l : List (Nat × AB)) : Nat → Option AB := l.foldl (fun H p => upd H p.1 (some p.2)) H

theorem plain_some {os : List Bool} {x : Option AV} {v : AV} {u : List (Nat × AB)} {cs r : List Bool} (h : plain os x = some (v, u, cs, r)) : x = some v ∧ u = [] ∧ cs = [] ∧ r = os := by
  unfold plain at h
  cases x with
  | none => cases h
  | some y =>
    simp only [Option.map_some, Option.some.injEq, Prod.mk.injEq] at h
    obtain ⟨rfl, rfl, rfl, rfl⟩ := h
    exact ⟨rfl, rfl, rfl, rfl⟩
theorem plainC_some {os : List Bool} {x : Option (AV × List Bool)} {v : AV} {u : List (Nat × AB)} {cs r : List Bool} (h : plainC os x = some (v, u, cs, r)) : x = some (v, cs) ∧ u = [] ∧ r = os := by
  unfold plainC at h
  cases x with
  | none => cases h
  | some y =>
    simp only [Option.map_some, Option.some.injEq, Prod.mk.injEq] at h
    obtain ⟨rfl, rfl, rfl, rfl⟩ := h
    exact ⟨rfl, rfl, rfl⟩

theorem OpSim.quiet {o : Oper} {a : Act} {X : Ctx} (hX : HRel X) {v : AV} {val : Value} (hr : (execOp a.eval o).run P X.w = .ok (.value val) X.w) (hv : VR X v val) : OpSim P o a X v X.H :=
  OpSim.of_run (X' := X) hr (.refl X) hX hv

set_option maxHeartbeats 2000000 in
theorem aop_sim {X : Ctx} (hX : HRel X) {nid : Nat} (hnid : X.H nid = none) {o : Oper} {a : Act} {ρ : Rho} (hρ : RhoOk X ρ a o) {os : List Bool} {v : AV} {u : List (Nat × AB)} {cs r : List Bool}
    (h : aop P o ρ X.H nid os = some (v, u, cs, r)) (hcs : ∀ c ∈ cs, c = true) : OpSim P o a X v (ups X.H u) := by
  obtain ⟨dst, op, type, pos, after, guard⟩ := o
  have opx : ∀ x, x ∈ op.operands → ∀ v, ρ x = some v → VR X v (a.eval x) := hρ
  cases op
  case move x =>
    obtain ⟨h1, rfl, rfl, rfl⟩ := plain_some h
    exact OpSim.quiet hX rfl (opx x (by simp [Op.operands]) v h1)
  case assign x =>
    obtain ⟨h1, rfl, rfl, rfl⟩ := plain_some h
    exact OpSim.quiet hX rfl (opx x (by simp [Op.operands]) v h1)
  case alloc t =>
    simp only [aop] at h
    cases hz : azero P t with
    | none => rw [hz] at h; cases h
    | some zs =>
      rw [hz] at h
      simp only [Option.map_some, Option.some.injEq, Prod.mk.injEq] at h
      obtain ⟨rfl, rfl, rfl, rfl⟩ := h
      obtain ⟨z, hzr, hzp⟩ := azero_rel (X := X) hz
      obtain ⟨h1, h2, h3⟩ := allocB_rel hX hnid hzp t
      refine OpSim.of_run (X' := X.push nid (allocB t zs) (.cells z.cells t)) ?_ h1 h2 h3
      simp only [execOp, Sem.run_bind, run_allocI hzr, Result.andThen_ok, Sem.run_pure]
      rfl
  case box t x =>
    simp only [aop] at h
    cases hz : (ρ x).bind AV.cs with
    | none => rw [hz] at h; cases h
    | some zs =>
      rw [hz] at h
      simp only [Option.map_some, Option.some.injEq, Prod.mk.injEq] at h
      obtain ⟨rfl, rfl, rfl, rfl⟩ := h
      obtain ⟨w, hw, hcs'⟩ := bindO hz
      obtain ⟨h1, h2, h3⟩ := alloc_ok hX hnid (AV.cs_rel hcs' (opx x (by simp [Op.operands]) w hw)).1 t
      refine OpSim.of_run (X' := X.push nid (.cells zs) (.cells (a.eval x).cells t)) ?_ h1 h2 h3
      simp only [execOp, Sem.run_bind, run_boxI, Result.andThen_ok, Sem.run_pure]
      rfl
  case load t p =>
    obtain ⟨h1, rfl, rfl, rfl⟩ := plain_some h
    obtain ⟨pv, hp, hl⟩ := bindO h1
    obtain ⟨val, hr, hv⟩ := aload_ok (P := P) hX (opx p (by simp [Op.operands]) pv hp) hl
    exact OpSim.quiet hX (by simp only [execOp, Sem.run_bind, hr, Result.andThen_ok, Sem.run_pure]) hv
  case store t p x =>
    simp only [aop] at h
    split at h
    · rename_i pv xv hp hx
      split at h
      · rename_i cs0 hsm
        simp only [Option.some.injEq, Prod.mk.injEq] at h
        obtain ⟨rfl, rfl, rfl, rfl⟩ := h
        have hr := asame_ok (P := P) hsm hcs (opx p (by simp [Op.operands]) pv hp) (opx x (by simp [Op.operands]) xv hx)
        refine OpSim.of_skip (X' := X) ?_ (.refl X) hX
        simp only [execOp, Sem.run_bind, hr, Result.andThen_ok, Sem.run_pure]
      · cases hz : astore P t X.H pv xv with
        | none => rw [hz] at h; cases h
        | some uu =>
          rw [hz] at h
          simp only [Option.map_some, Option.some.injEq, Prod.mk.injEq] at h
          obtain ⟨rfl, rfl, rfl, rfl⟩ := h
          obtain ⟨i, b⟩ := uu
          obtain ⟨w', hr, h1, h2⟩ := astore_ok (P := P) hX (opx p (by simp [Op.operands]) pv hp) (opx x (by simp [Op.operands]) xv hx) hz
          refine OpSim.of_skip (X' := X.put i b w') ?_ h1 h2
          simp only [execOp, Sem.run_bind, hr, Result.andThen_ok, Sem.run_pure]
          rfl
    · cases h
  case nilCheck x =>
    simp only [aop] at h
    split at h
    · rename_i i off hx
      simp only [Option.some.injEq, Prod.mk.injEq] at h
      obtain ⟨rfl, rfl, rfl, rfl⟩ := h
      have hv := opx x (by simp [Op.operands]) _ hx
      obtain ⟨_, e⟩ := id hv
      exact OpSim.quiet hX (val := a.eval x) (by simp only [execOp, e]; rfl) hv
    · rename_i rr l i off hx
      simp only [Option.some.injEq, Prod.mk.injEq] at h
      obtain ⟨rfl, rfl, rfl, rfl⟩ := h
      have hv := opx x (by simp [Op.operands]) _ hx
      obtain ⟨_, b, oo, e, _⟩ := id hv
      exact OpSim.quiet hX (val := a.eval x) (by simp only [execOp, e]; rfl) hv
    · rename_i f c hx
      simp only [Option.some.injEq, Prod.mk.injEq] at h
      obtain ⟨rfl, rfl, rfl, rfl⟩ := h
      have hv := opx x (by simp [Op.operands]) _ hx
      obtain ⟨cc, e, _⟩ := id hv
      exact OpSim.quiet hX (val := a.eval x) (by simp only [execOp, e]; rfl) hv
    · rename_i f i off hx
      simp only [Option.some.injEq, Prod.mk.injEq] at h
      obtain ⟨rfl, rfl, rfl, rfl⟩ := h
      have hv := opx x (by simp [Op.operands]) _ hx
      obtain ⟨_, e⟩ := id hv
      exact OpSim.quiet hX (val := a.eval x) (by simp only [execOp, e]; rfl) hv
    · rename_i r i j d hx
      simp only [Option.some.injEq, Prod.mk.injEq] at h
      obtain ⟨rfl, rfl, rfl, rfl⟩ := h
      have hv := opx x (by simp [Op.operands]) _ hx
      obtain ⟨_, _, _, e⟩ := id hv
      exact OpSim.quiet hX (val := a.eval x) (by simp only [execOp, e]; rfl) hv
    · rename_i i off n len hx
      simp only [Option.some.injEq, Prod.mk.injEq] at h
      obtain ⟨rfl, rfl, rfl, rfl⟩ := h
      have hv := opx x (by simp [Op.operands]) _ hx
      obtain ⟨_, e, _⟩ := id hv
      exact OpSim.quiet hX (val := a.eval x) (by simp only [execOp, e]; rfl) hv
    · cases h
  case range t x =>
    simp only [aop] at h
    split at h
    · rename_i j hx
      split at h
      · rename_i m kt vt ka va l hm hj
        simp only [Option.some.injEq, Prod.mk.injEq] at h
        obtain ⟨rfl, rfl, rfl, rfl⟩ := h
        obtain ⟨k, ka', kt', e, va', vt'⟩ := m
        obtain ⟨hu, _⟩ := mapT_spec hm
        obtain ⟨hf, es, clock, h1, h2, h3⟩ := hX.blk j _ hj
        obtain ⟨_, ex⟩ := opx x (by simp [Op.operands]) _ hx
        have hcl : clock = l.length := h2.2.2.2
        have hji : j ≠ nid := fun e => by subst e; rw [hnid] at hj; cases hj
        refine OpSim.of_run (X' := X.push nid (.iter j l.length true) (.mapIter (some (X.φ j)) clock #[] clock)) (val := .pointer (some ⟨X.w.heap.size, 0, none⟩)) ?_ (push_le hX hnid _ rfl _) (HRel.push hX hnid _ rfl _ ⟨⟨.mp kt vt ka va l, ?_, rfl⟩, fun _ => ?_⟩) ⟨⟨_, upd_same _ _ _, rfl⟩, ?_⟩
        · simp only [execOp, Sem.run_bind, ex, run_range_map (P := P) X.w t k e (X.φ j) es clock hu h1, Result.andThen_ok, Sem.run_pure]
          rfl
        · simp only [Ctx.push, upd_other _ _ hji]; exact hj
        · simp only [Ctx.push, upd_same, upd_other _ _ hji]
          rw [heap_alloc_new, hcl]
        · simp only [Ctx.push, upd_same]
      · rename_i m kt vt ka va l ob hm hj
        simp only [Option.some.injEq, Prod.mk.injEq] at h
        obtain ⟨rfl, rfl, rfl, rfl⟩ := h
        obtain ⟨k, ka', kt', e, va', vt'⟩ := m
        obtain ⟨hu, _⟩ := mapT_spec hm
        obtain ⟨_, hf, es, clock, h1, h2, h3⟩ := hX.blk j _ hj
        obtain ⟨_, ex⟩ := opx x (by simp [Op.operands]) _ hx
        have hcl : clock = l.length := h2.2.2.2
        have hji : j ≠ nid := fun e => by subst e; rw [hnid] at hj; cases hj
        refine OpSim.of_run (X' := X.push nid (.iter j l.length true) (.mapIter (some (X.φ j)) clock #[] clock)) (val := .pointer (some ⟨X.w.heap.size, 0, none⟩)) ?_ (push_le hX hnid _ rfl _) (HRel.push hX hnid _ rfl _ ⟨⟨.rom kt vt ka va l ob, ?_, rfl⟩, fun _ => ?_⟩) ⟨⟨_, upd_same _ _ _, rfl⟩, ?_⟩
        · simp only [execOp, Sem.run_bind, ex, run_range_map (P := P) X.w t k e (X.φ j) es clock hu h1, Result.andThen_ok, Sem.run_pure]
          rfl
        · simp only [Ctx.push, upd_other _ _ hji]; exact hj
        · simp only [Ctx.push, upd_same, upd_other _ _ hji]
          rw [heap_alloc_new, hcl]
        · simp only [Ctx.push, upd_same]
      · cases h
    · cases h
  case makeMap t r =>
    cases r with
    | some _ => cases h
    | none =>
      simp only [aop] at h
      cases hz : amakeMap P t nid with
      | none => rw [hz] at h; cases h
      | some uu =>
        rw [hz] at h
        simp only [Option.map_some, Option.some.injEq, Prod.mk.injEq] at h
        obtain ⟨rfl, rfl, rfl, rfl⟩ := h
        obtain ⟨v0, u0⟩ := uu
        obtain ⟨b, rfl, h1, h2, h3, h4⟩ := amakeMap_ok (P := P) hX hnid hz
        refine OpSim.of_run (X' := X.push nid b (.map #[] 0)) ?_ h2 h3 h4
        simp only [execOp, Option.map_none, Sem.run_bind, h1, Result.andThen_ok, Sem.run_pure]
        rfl
  case lookup t x i ok =>
    simp only [aop] at h
    split at h
    · rename_i xv iv hx hi
      obtain ⟨h1, rfl, rfl, rfl⟩ := plain_some h
      obtain ⟨val, hr, hv⟩ := alookup_ok (P := P) hX (opx x (by simp [Op.operands]) xv hx) (opx i (by simp [Op.operands]) iv hi) h1
      exact OpSim.quiet hX (by simp only [execOp, Sem.run_bind, hr, Result.andThen_ok, Sem.run_pure]) hv
    · cases h
  case mapUpdate t m k x =>
    simp only [aop] at h
    split at h
    · rename_i mv kv xv hm hk hx
      cases hz : amapSet P t X.H mv kv xv with
      | none => rw [hz] at h; cases h
      | some uu =>
        rw [hz] at h
        simp only [Option.map_some, Option.some.injEq, Prod.mk.injEq] at h
        obtain ⟨rfl, rfl, rfl, rfl⟩ := h
        obtain ⟨i, b⟩ := uu
        obtain ⟨w', hr, h1, h2⟩ := amapSet_ok (P := P) hX (opx m (by simp [Op.operands]) mv hm) (opx k (by simp [Op.operands]) kv hk) (opx x (by simp [Op.operands]) xv hx) hz
        refine OpSim.of_skip (X' := X.put i b w') ?_ h1 h2
        simp only [execOp, Sem.run_bind, hr, Result.andThen_ok, Sem.run_pure]
        rfl
    · cases h
  case fieldAddr s x f =>
    obtain ⟨h1, rfl, rfl, rfl⟩ := plain_some h
    obtain ⟨pv, hp, hl⟩ := bindO h1
    obtain ⟨val, hr, hv⟩ := afield_ok (P := P) (opx x (by simp [Op.operands]) pv hp) hl
    exact OpSim.quiet hX (by simp only [execOp, Sem.run_bind, hr, Result.andThen_ok, Sem.run_pure]) hv
  case field s x f =>
    obtain ⟨h1, rfl, rfl, rfl⟩ := plain_some h
    obtain ⟨pv, hp, hl⟩ := bindO h1
    obtain ⟨val, hr, hv⟩ := afieldV_ok (P := P) (opx x (by simp [Op.operands]) pv hp) hl X.w
    exact OpSim.quiet hX (by simp only [execOp, Sem.run_bind, hr, Result.andThen_ok, Sem.run_pure]) hv
  case indexAddr t x i =>
    simp only [aop] at h
    split at h
    · rename_i xv iv hx hi
      obtain ⟨h1, rfl, rfl⟩ := plainC_some h
      obtain ⟨val, hr, hv⟩ := aindexAddr_ok (P := P) (opx x (by simp [Op.operands]) xv hx) (opx i (by simp [Op.operands]) iv hi) h1 hcs
      exact OpSim.quiet hX (by simp only [execOp, Sem.run_bind, hr, Result.andThen_ok, Sem.run_pure]) hv
    · cases h
  case index t x i =>
    simp only [aop] at h
    split at h
    · rename_i xv iv hx hi
      obtain ⟨h1, rfl, rfl⟩ := plainC_some h
      obtain ⟨val, hr, hv⟩ := aindex_ok (P := P) (opx x (by simp [Op.operands]) xv hx) (opx i (by simp [Op.operands]) iv hi) h1 hcs
      exact OpSim.quiet hX (by simp only [execOp, Sem.run_bind, hr, Result.andThen_ok, Sem.run_pure]) hv
    · cases h
  case extract x i =>
    obtain ⟨h1, rfl, rfl, rfl⟩ := plain_some h
    obtain ⟨pv, hp, hl⟩ := bindO h1
    obtain ⟨val, hr, hv⟩ := aextract_ok (P := P) (opx x (by simp [Op.operands]) pv hp) hl X.w
    exact OpSim.quiet hX (by simp only [execOp, Sem.run_bind, hr, Result.andThen_ok, Sem.run_pure]) hv
  case build t ps =>
    obtain ⟨h1, rfl, rfl, rfl⟩ := plain_some h
    obtain ⟨l, hp, hl⟩ := bindO h1
    have hrel := aparts_rel (a := a) ps.toList l hp fun p hp v hv => opx p.2 (by simp only [Op.operands]; simp; exact ⟨p.1, by simpa using hp⟩) v hv
    obtain ⟨val, hr, hv⟩ := abuild_ok (P := P) (vals := ps.map fun (i, x) => (i, a.eval x)) (by rw [Array.toList_map]; exact hrel) hl X.w
    exact OpSim.quiet hX (by simp only [execOp, Sem.run_bind, hr, Result.andThen_ok, Sem.run_pure]) hv
  case buildSlice t n ps =>
    have hrel : ∀ l, aparts ρ ps.toList = some l → PartsRel X l (ps.map fun (i, x) => (i, a.eval x)).toList := fun l hp => by
      have := aparts_rel (a := a) ps.toList l hp fun p hp v hv => opx p.2 (by simp only [Op.operands]; simp; exact ⟨p.1, by simpa using hp⟩) v hv
      rw [Array.toList_map]; exact this
    simp only [aop] at h
    split at h
    · cases hz : (aparts ρ ps.toList).bind (abuildAsl P t n nid) with
      | none => rw [hz] at h; cases h
      | some u0 =>
        obtain ⟨v', u'⟩ := u0
        rw [hz] at h
        simp only [Option.map_some, Option.some.injEq, Prod.mk.injEq] at h
        obtain ⟨rfl, rfl, rfl, rfl⟩ := h
        obtain ⟨l, hp, hl⟩ := bindO hz
        obtain ⟨val, X', g1, g2, g3, g4, g5⟩ := abuildAsl_ok (P := P) hX hnid (vals := ps.map fun (i, x) => (i, a.eval x)) (hrel l hp) hl
        have := OpSim.of_run (P := P) (o := { dst, op := .buildSlice t n ps, type, pos, after, guard }) (a := a) (X := X) (X' := X') (v := v') (val := val)
          (by simp only [execOp, Sem.run_bind, g1, Result.andThen_ok, Sem.run_pure]) g2 g3 g5
        rw [g4] at this
        exact this
    split at h
    · rename_i v0 h1
      simp only [Option.some.injEq, Prod.mk.injEq] at h
      obtain ⟨rfl, rfl, rfl, rfl⟩ := h
      obtain ⟨l, hp, hl⟩ := bindO h1
      obtain ⟨val, ob, hr, hv⟩ := abuildSlice_ok (P := P) hX (vals := ps.map fun (i, x) => (i, a.eval x)) (hrel l hp) hl
      obtain ⟨h2, h3⟩ := quiet_alloc hX ob
      refine OpSim.of_run (X' := X.withW (X.w.alloc ob)) ?_ h2 h3 hv
      simp only [execOp, Sem.run_bind, hr, Result.andThen_ok, Sem.run_pure]
      rfl
    · cases hz : (aparts ρ ps.toList).bind (abuildCsl P t n nid) with
      | none => rw [hz] at h; cases h
      | some u0 =>
        obtain ⟨v', u'⟩ := u0
        rw [hz] at h
        simp only [Option.map_some, Option.some.injEq, Prod.mk.injEq] at h
        obtain ⟨rfl, rfl, rfl, rfl⟩ := h
        obtain ⟨l, hp, hl⟩ := bindO hz
        obtain ⟨val, X', g1, g2, g3, g4, g5⟩ := abuildCsl_ok (P := P) hX hnid (vals := ps.map fun (i, x) => (i, a.eval x)) (hrel l hp) hl
        have := OpSim.of_run (P := P) (o := { dst, op := .buildSlice t n ps, type, pos, after, guard }) (a := a) (X := X) (X' := X') (v := v') (val := val)
          (by simp only [execOp, Sem.run_bind, g1, Result.andThen_ok, Sem.run_pure]) g2 g3 g5
        rw [g4] at this
        exact this
  case slice t x lo hi mx =>
    simp only [aop] at h
    split at h
    · rename_i xv l hh m hx hl hhi hm
      obtain ⟨h1, rfl, rfl⟩ := plainC_some h
      obtain ⟨val, hr, hv⟩ := aslice_ok (P := P) (opx x (by simp [Op.operands]) xv hx) (opt_rel (a := a) hl fun y hy => opx y (by subst hy; simp [Op.operands]))
        (opt_rel (a := a) hhi fun y hy => opx y (by subst hy; simp [Op.operands])) (opt_rel (a := a) hm fun y hy => opx y (by subst hy; simp [Op.operands])) h1 hcs
      exact OpSim.quiet hX (by simp only [execOp, Sem.run_bind, hr, Result.andThen_ok, Sem.run_pure]) hv
    · cases h
  case makeFunc fn first caps =>
    cases fn <;> simp only [aop] at h <;> first | cases h | skip
    rename_i f
    split at h
    · rename_i hf
      obtain ⟨h1, rfl, rfl, rfl⟩ := plain_some h
      cases hc : acaps ρ caps.toList with
      | none => rw [hc] at h1; cases h1
      | some l =>
        rw [hc] at h1
        simp only [Option.map_some, Option.some.injEq] at h1
        subst h1
        have hrel := acaps_rel (a := a) caps.toList l hc fun x hx v hv => opx x (by simp only [Op.operands]; simp; right; simpa using hx) v hv
        have hfe : first = #[] := by simpa using hf
        subst hfe
        refine OpSim.quiet hX (val := .func (.func f) #[] (caps.map a.eval)) (by simp [execOp, Instr.makeFunc]) ⟨caps.map a.eval, rfl, ?_, fun j p hj => ?_⟩
        · have := hrel.1
          simpa using this.symm
        · obtain ⟨y, hy, h1, h2⟩ := hrel.at_ hj
          refine ⟨h1, ?_⟩
          rw [← h2, ← hy, ← Array.getElem?_toList, Array.toList_map]
    · split at h
      · rename_i x hfx hce
        split at h
        · rename_i i off hx
          simp only [Option.some.injEq, Prod.mk.injEq] at h
          obtain ⟨rfl, rfl, rfl, rfl⟩ := h
          have hv := opx x (by simp only [Op.operands]; simp; left; rw [← Array.mem_toList_iff, hfx]; simp) _ hx
          obtain ⟨hb, e⟩ := hv
          have hfe : first = #[x] := by rw [← Array.toList_inj, hfx]
          have hce' : caps = #[] := by simpa using hce
          subst hfe; subst hce'
          refine OpSim.quiet hX (val := .func (.func f) #[a.eval x] #[]) (by simp [execOp, Instr.makeFunc]) ⟨hb, by rw [e]⟩
        · cases h
      · cases h
  case binOp op t x y yt =>
    have hsc : ∀ v, scal P { dst, op := .binOp op t x y yt, type, pos, after, guard } ρ = some v → OpSim P { dst, op := .binOp op t x y yt, type, pos, after, guard } a X v X.H := fun v hv => by
      obtain ⟨val, h2, h3⟩ := scal_ok (P := P) hρ (fun _ _ e => by cases e) hv
      exact OpSim.quiet hX h2 h3
    have hfast : (match ρ x, ρ y with
        | some u, some v => match fastBin op u v with
          | some (r, cs) => some (r, [], cs, os)
          | none => plain os (scal P { dst, op := .binOp op t x y yt, type, pos, after, guard } ρ)
        | _, _ => (none : Option Res)) = some (v, u, cs, r) → OpSim P { dst, op := .binOp op t x y yt, type, pos, after, guard } a X v (ups X.H u) := fun h => by
      split at h
      · rename_i xu yu hx hy
        split at h
        · rename_i r0 cs0 hf
          simp only [Option.some.injEq, Prod.mk.injEq] at h
          obtain ⟨rfl, rfl, rfl, rfl⟩ := h
          obtain ⟨val, h1, h2⟩ := fastBin_ok (P := P) hf hcs (opx x (by simp [Op.operands]) _ hx) (opx y (by simp [Op.operands]) _ hy) t x y X.w
          refine OpSim.quiet hX (val := val) ?_ h2
          simp only [execOp]
          rw [Sem.run_bind, h1]
          rfl
        · obtain ⟨h1, rfl, rfl, rfl⟩ := plain_some h
          exact hsc v h1
      · cases h
    cases op <;> first
      | exact hfast h
      | skip
    · simp only [aop] at h
      split at h
      · rename_i xv yv hx hy
        split at h
        · rename_i b hb
          simp only [Option.some.injEq, Prod.mk.injEq] at h
          obtain ⟨rfl, rfl, rfl, rfl⟩ := h
          have := (aeq_run (P := P) hb (opx x (by simp [Op.operands]) xv hx) (opx y (by simp [Op.operands]) yv hy) x y X.w).1
          refine OpSim.quiet hX (val := .bool b) ?_ rfl
          simp only [execOp]
          rw [Sem.run_bind, this]
          rfl
        · obtain ⟨h1, rfl, rfl, rfl⟩ := plain_some h
          exact hsc v h1
      · cases h
    · simp only [aop] at h
      split at h
      · rename_i xv yv hx hy
        split at h
        · rename_i b hb
          simp only [Option.some.injEq, Prod.mk.injEq] at h
          obtain ⟨rfl, rfl, rfl, rfl⟩ := h
          have := (aeq_run (P := P) hb (opx x (by simp [Op.operands]) xv hx) (opx y (by simp [Op.operands]) yv hy) x y X.w).2
          refine OpSim.quiet hX (val := .bool (!b)) ?_ rfl
          simp only [execOp]
          rw [Sem.run_bind, this]
          rfl
        · obtain ⟨h1, rfl, rfl, rfl⟩ := plain_some h
          exact hsc v h1
      · cases h
  case unOp op t x =>
    obtain ⟨h1, rfl, rfl, rfl⟩ := plain_some h
    obtain ⟨val, h2, h3⟩ := scal_ok (P := P) hρ (fun _ _ e => by cases e) h1
    exact OpSim.quiet hX h2 h3
  case call c =>
    obtain ⟨callee, args, argTypes⟩ := c
    cases callee <;> first | cases h | skip
    rename_i b
    have hsc : ∀ v, scal P { dst, op := .call { callee := .builtin b, args, argTypes }, type, pos, after, guard } ρ = some v → OpSim P { dst, op := .call { callee := .builtin b, args, argTypes }, type, pos, after, guard } a X v X.H := fun v hv => by
      obtain ⟨val, h2, h3⟩ := scal_ok (P := P) hρ (fun _ _ e => by cases e) hv
      exact OpSim.quiet hX h2 h3
    cases b <;> first | cases h | skip
    · -- append
      simp only [aop] at h
      split at h
      · rename_i s x t t' ha ht
        split at h
        · rename_i htt
          simp only [Nat.beq_eq] at htt
          subst htt
          have ea : args = #[s, x] := by rw [← Array.toList_inj, ha]
          have et : argTypes = #[t, t] := by rw [← Array.toList_inj, ht]
          subst ea; subst et
          split at h
          · rename_i sv xv hs hx
            obtain ⟨val, X', g1, g2, g3, g4, g5⟩ := aappendW_ok (P := P) hX hnid h hcs (opx s (by simp [Op.operands, Call.operands]) _ hs) (opx x (by simp [Op.operands, Call.operands]) _ hx) type
            have := OpSim.of_run (P := P) (o := { dst, op := .call { callee := .builtin .append, args := #[s, x], argTypes := #[t, t] }, type, pos, after, guard }) (a := a) (X := X) (X' := X') (v := v) (val := val)
              (by
                unfold execOp
                simp only [resolve, invoke, builtin, Sem.run_bind, Sem.run_pure, Result.andThen_ok, List.map_toArray, List.map_cons, List.map_nil, g1]) g2 g3 g5
            rw [g4] at this
            exact this
          · cases h
        · cases h
      · cases h
    all_goals first | (obtain ⟨h1, rfl, rfl, rfl⟩ := plain_some h; exact hsc v h1) | skip
    · -- cap
      simp only [aop] at h
      split at h
      · rename_i x t ha ht
        have ea : args = #[x] := by rw [← Array.toList_inj, ha]
        have et : argTypes = #[t] := by rw [← Array.toList_inj, ht]
        subst ea; subst et
        split at h
        · rename_i i off len cap hx
          split at h
          · rename_i hst
            simp only [Option.some.injEq, Prod.mk.injEq] at h
            obtain ⟨rfl, rfl, rfl, rfl⟩ := h
            obtain ⟨d, hd⟩ := isSlT_of hst
            obtain ⟨_, e1, _⟩ := opx x (by simp [Op.operands, Call.operands]) _ hx
            refine OpSim.quiet hX (val := .int .i64 cap) ?_ rfl
            unfold execOp
            simp only [resolve, invoke, builtin, Sem.run_bind, Sem.run_pure, Result.andThen_ok, List.map_toArray, List.map_cons, List.map_nil, e1]
            simp [Builtin.cap_, run_underlying hd, goInt]
          · cases h
        · rename_i row i off len cap hx
          split at h
          · rename_i hst
            simp only [Option.some.injEq, Prod.mk.injEq] at h
            obtain ⟨rfl, rfl, rfl, rfl⟩ := h
            obtain ⟨d, hd⟩ := isSlT_of hst
            obtain ⟨_, _, e1, _⟩ := opx x (by simp [Op.operands, Call.operands]) _ hx
            refine OpSim.quiet hX (val := .int .i64 cap) ?_ rfl
            unfold execOp
            simp only [resolve, invoke, builtin, Sem.run_bind, Sem.run_pure, Result.andThen_ok, List.map_toArray, List.map_cons, List.map_nil, e1]
            simp [Builtin.cap_, run_underlying hd, goInt]
          · cases h
        · cases h
      · cases h
    · -- clear
      simp only [aop] at h
      split at h
      · rename_i x t ha ht
        have ea : args = #[x] := by rw [← Array.toList_inj, ha]
        have et : argTypes = #[t] := by rw [← Array.toList_inj, ht]
        subst ea; subst et
        split at h
        · rename_i j hx
          split at h
          · rename_i m kt vt ka va hm hj
            simp only [Option.some.injEq, Prod.mk.injEq] at h
            obtain ⟨rfl, rfl, rfl, rfl⟩ := h
            obtain ⟨k, ka', kt', e, va', vt'⟩ := m
            obtain ⟨hu, _⟩ := mapT_spec hm
            obtain ⟨hf, es, clock, h1, h2, h3⟩ := hX.blk j _ hj
            obtain ⟨_, ex⟩ := opx x (by simp [Op.operands, Call.operands]) _ hx
            have hes : es = #[] := Array.eq_empty_of_size_eq_zero h2.1
            subst hes
            have hw : X.w.heap.setIfInBounds (X.φ j) (.map #[] clock) = X.w.heap := by
              apply Array.ext_getElem?
              intro i
              rw [Array.getElem?_setIfInBounds]
              split
              · rename_i e
                subst e
                split
                · exact h1.symm
                · rename_i hlt
                  exact (Array.getElem?_eq_none (Nat.le_of_not_lt hlt)).symm
              · rfl
            refine OpSim.quiet hX (val := .tuple #[]) ?_ ⟨#[], rfl, rfl, fun k p y hk => by simp at hk⟩
            unfold execOp
            simp only [resolve, invoke, builtin, Sem.run_bind, Sem.run_pure, Result.andThen_ok, List.map_toArray, List.map_cons, List.map_nil, ex]
            simp [Builtin.clear_, run_underlying hu, MapKept.run_getObj_map h1, MapKept.run_setObj_map _ h1, hw]
          · cases h
        · rename_i row j off len mn hx
          cases hz : aclear P t X.H (.bsl row j off len mn) with
          | none => rw [hz] at h; cases h
          | some u =>
            rw [hz] at h
            simp only [Option.map_some, Option.some.injEq, Prod.mk.injEq] at h
            obtain ⟨rfl, rfl, rfl, rfl⟩ := h
            have hxv := opx x (by simp [Op.operands, Call.operands]) _ hx
            obtain ⟨X', g1, g2, g3, g4⟩ := aclear_ok (P := P) (ty := type) (x := .bsl row j off len mn) (xv := a.eval x) hX hxv hz
            have hr : (execOp a.eval { dst, op := .call { callee := .builtin .clear, args := #[x], argTypes := #[t] }, type, pos, after, guard }).run P X.w = .ok (.value (.tuple #[])) X'.w := by
              unfold execOp
              simp only [resolve, invoke, builtin, Sem.run_bind, Sem.run_pure, Result.andThen_ok, List.map_toArray, List.map_cons, List.map_nil, g1]
            have := OpSim.of_run (P := P) (v := .tup []) hr g2 g3 ⟨#[], rfl, rfl, fun k p y hk => by simp at hk⟩
            rw [g4] at this
            exact this
        · rename_i row j off len mn hx
          cases hz : aclear P t X.H (.bsl row j off len mn) with
          | none => rw [hz] at h; cases h
          | some u =>
            rw [hz] at h
            simp only [Option.map_some, Option.some.injEq, Prod.mk.injEq] at h
            obtain ⟨rfl, rfl, rfl, rfl⟩ := h
            have hxv := opx x (by simp [Op.operands, Call.operands]) _ hx
            obtain ⟨l0, hl0⟩ := aclear_arr hz
            obtain ⟨X', g1, g2, g3, g4⟩ := aclear_ok (P := P) (ty := type) (x := .bsl row j off len mn) (xv := a.eval x) hX (asl_bsl hX hl0 hxv) hz
            have hr : (execOp a.eval { dst, op := .call { callee := .builtin .clear, args := #[x], argTypes := #[t] }, type, pos, after, guard }).run P X.w = .ok (.value (.tuple #[])) X'.w := by
              unfold execOp
              simp only [resolve, invoke, builtin, Sem.run_bind, Sem.run_pure, Result.andThen_ok, List.map_toArray, List.map_cons, List.map_nil, g1]
            have := OpSim.of_run (P := P) (v := .tup []) hr g2 g3 ⟨#[], rfl, rfl, fun k p y hk => by simp at hk⟩
            rw [g4] at this
            exact this
        · cases h
      · cases h
    · -- copy
      simp only [aop] at h
      split at h
      · rename_i d x t t' ha ht
        have ea : args = #[d, x] := by rw [← Array.toList_inj, ha]
        have et : argTypes = #[t, t'] := by rw [← Array.toList_inj, ht]
        subst ea; subst et
        split at h
        · rename_i dv xv hd hx
          cases hz : acopy P t X.H dv xv with
          | none => rw [hz] at h; cases h
          | some r =>
            obtain ⟨v', u'⟩ := r
            rw [hz] at h
            simp only [Option.map_some, Option.some.injEq, Prod.mk.injEq] at h
            obtain ⟨rfl, rfl, rfl, rfl⟩ := h
            obtain ⟨val, X', g1, g2, g3, g4, g5⟩ := acopy_ok (P := P) (t' := t') (ty := type) hX (opx d (by simp [Op.operands, Call.operands]) _ hd) (opx x (by simp [Op.operands, Call.operands]) _ hx) hz
            have := OpSim.of_run (P := P) (o := { dst, op := .call { callee := .builtin .copy, args := #[d, x], argTypes := #[t, t'] }, type, pos, after, guard }) (a := a) (X := X) (X' := X') (v := v') (val := val)
              (by
                unfold execOp
                simp only [resolve, invoke, builtin, Sem.run_bind, Sem.run_pure, Result.andThen_ok, List.map_toArray, List.map_cons, List.map_nil, g1]) g2 g3 g5
            rw [g4] at this
            exact this
        · cases h
      · cases h
    · -- len
      simp only [aop] at h
      split at h
      · rename_i x t ha ht
        have ea : args = #[x] := by rw [← Array.toList_inj, ha]
        have et : argTypes = #[t] := by rw [← Array.toList_inj, ht]
        subst ea; subst et
        split at h
        · rename_i row l m hx
          split at h
          · rename_i hst
            simp only [Option.some.injEq, Prod.mk.injEq] at h
            obtain ⟨rfl, rfl, rfl, rfl⟩ := h
            obtain ⟨d, hd⟩ := isSlT_of hst
            obtain ⟨A, n, cap, e1, e2, _⟩ := opx x (by simp [Op.operands, Call.operands]) _ hx
            refine OpSim.quiet hX (val := .int .i64 l.length) ?_ rfl
            unfold execOp
            simp only [resolve, invoke, builtin, Sem.run_bind, Sem.run_pure, Result.andThen_ok, List.map_toArray, List.map_cons, List.map_nil, e1]
            simp [Builtin.len_, run_underlying hd, goInt, e2]
          · cases h
        · rename_i i off len cap hx
          split at h
          · rename_i hst
            simp only [Option.some.injEq, Prod.mk.injEq] at h
            obtain ⟨rfl, rfl, rfl, rfl⟩ := h
            obtain ⟨d, hd⟩ := isSlT_of hst
            obtain ⟨_, e1, _⟩ := opx x (by simp [Op.operands, Call.operands]) _ hx
            refine OpSim.quiet hX (val := .int .i64 len) ?_ rfl
            unfold execOp
            simp only [resolve, invoke, builtin, Sem.run_bind, Sem.run_pure, Result.andThen_ok, List.map_toArray, List.map_cons, List.map_nil, e1]
            simp [Builtin.len_, run_underlying hd, goInt]
          · cases h
        · rename_i row i off len cap hx
          split at h
          · rename_i hst
            simp only [Option.some.injEq, Prod.mk.injEq] at h
            obtain ⟨rfl, rfl, rfl, rfl⟩ := h
            obtain ⟨d, hd⟩ := isSlT_of hst
            obtain ⟨_, _, e1, _⟩ := opx x (by simp [Op.operands, Call.operands]) _ hx
            refine OpSim.quiet hX (val := .int .i64 len) ?_ rfl
            unfold execOp
            simp only [resolve, invoke, builtin, Sem.run_bind, Sem.run_pure, Result.andThen_ok, List.map_toArray, List.map_cons, List.map_nil, e1]
            simp [Builtin.len_, run_underlying hd, goInt]
          · cases h
        · rename_i row i off len mn hx
          split at h
          · rename_i hst
            simp only [Option.some.injEq, Prod.mk.injEq] at h
            obtain ⟨rfl, rfl, rfl, rfl⟩ := h
            obtain ⟨d, hd⟩ := isSlT_of hst
            obtain ⟨_, _, _, _, e1, _⟩ := opx x (by simp [Op.operands, Call.operands]) _ hx
            refine OpSim.quiet hX (val := .int .i64 len) ?_ rfl
            unfold execOp
            simp only [resolve, invoke, builtin, Sem.run_bind, Sem.run_pure, Result.andThen_ok, List.map_toArray, List.map_cons, List.map_nil, e1]
            simp [Builtin.len_, run_underlying hd, goInt]
          · cases h
        · rename_i j hx
          split at h
          · rename_i m kt vt ka va l hm hj
            simp only [Option.some.injEq, Prod.mk.injEq] at h
            obtain ⟨rfl, rfl, rfl, rfl⟩ := h
            obtain ⟨k, ka', kt', e, va', vt'⟩ := m
            obtain ⟨hu, _⟩ := mapT_spec hm
            obtain ⟨hf, es, clock, h1, h2, h3⟩ := hX.blk j _ hj
            obtain ⟨_, ex⟩ := opx x (by simp [Op.operands, Call.operands]) _ hx
            refine OpSim.quiet hX (val := .int .i64 l.length) ?_ rfl
            unfold execOp
            simp only [resolve, invoke, builtin, Sem.run_bind, Sem.run_pure, Result.andThen_ok, List.map_toArray, List.map_cons, List.map_nil, ex]
            simp [Builtin.len_, run_underlying hu, goInt, MapKept.run_getObj_map h1, h2.1]
          · rename_i m kt vt ka va l ob hm hj
            simp only [Option.some.injEq, Prod.mk.injEq] at h
            obtain ⟨rfl, rfl, rfl, rfl⟩ := h
            obtain ⟨k, ka', kt', e, va', vt'⟩ := m
            obtain ⟨hu, _⟩ := mapT_spec hm
            obtain ⟨_, hf, es, clock, h1, h2, h3⟩ := hX.blk j _ hj
            obtain ⟨_, ex⟩ := opx x (by simp [Op.operands, Call.operands]) _ hx
            refine OpSim.quiet hX (val := .int .i64 l.length) ?_ rfl
            unfold execOp
            simp only [resolve, invoke, builtin, Sem.run_bind, Sem.run_pure, Result.andThen_ok, List.map_toArray, List.map_cons, List.map_nil, ex]
            simp [Builtin.len_, run_underlying hu, goInt, MapKept.run_getObj_map h1, h2.1]
          · cases h
        · obtain ⟨h1, rfl, rfl, rfl⟩ := plain_some h
          exact hsc v h1
        · cases h
      · cases h
  case convert sT dT x =>
    have hsc : ∀ v, scal P { dst, op := .convert sT dT x, type, pos, after, guard } ρ = some v → OpSim P { dst, op := .convert sT dT x, type, pos, after, guard } a X v X.H := fun v h1 => by
      obtain ⟨val, h2, h3⟩ := scal_ok (P := P) hρ (fun _ _ e => by cases e) h1
      exact OpSim.quiet hX h2 h3
    simp only [aop] at h
    split at h
    · rename_i c hx
      split at h
      · cases hz : aconv P sT dT X.H nid c with
        | none => rw [hz] at h; cases h
        | some r0 =>
          obtain ⟨v', u', cs'⟩ := r0
          rw [hz] at h
          simp only [Option.map_some, Option.some.injEq, Prod.mk.injEq] at h
          obtain ⟨rfl, rfl, rfl, rfl⟩ := h
          obtain ⟨val, X', g1, g2, g3, g4, g5⟩ := aconv_ok (P := P) hX hnid (opx x (by simp [Op.operands]) _ hx) hz hcs
          have := OpSim.of_run (P := P) (o := { dst, op := .convert sT dT x, type, pos, after, guard }) (a := a) (X := X) (X' := X') (v := v') (val := val)
            (by simp only [execOp, Sem.run_bind, g1, Result.andThen_ok, Sem.run_pure]) g2 g3 g5
          rw [g4] at this
          exact this
      · obtain ⟨h1, rfl, rfl, rfl⟩ := plain_some h
        exact hsc v h1
    · obtain ⟨h1, rfl, rfl, rfl⟩ := plain_some h
      exact hsc v h1
  case makeSlice t l c =>
    simp only [aop] at h
    split at h
    · rename_i lv cv hl hc
      split at h
      · rename_i u0 h0 hz
        obtain ⟨v', u', cs'⟩ := u0
        simp only [Option.some.injEq, Prod.mk.injEq] at h
        obtain ⟨rfl, rfl, rfl, rfl⟩ := h
        obtain ⟨kl, rfl⟩ : ∃ kl, l = .const (.int kl 0) := by
          have h0 := ((Bool.and_eq_true _ _).mp h0).1
          unfold mk0 at h0
          split at h0
          · exact ⟨_, rfl⟩
          · cases h0
        obtain ⟨val, X', g1, g2, g3, g4, g5⟩ := amake0_ok (P := P) hX hnid (kl := kl) (opx c (by simp [Op.operands]) _ hc) hz hcs
        have := OpSim.of_run (P := P) (o := { dst, op := .makeSlice t (.const (.int kl 0)) c, type, pos, after, guard }) (a := a) (X := X) (X' := X') (v := v') (val := val)
          (by simp only [execOp]; rw [show a.eval (.const (.int kl 0)) = .int kl 0 from rfl]; simp only [Sem.run_bind, g1, Result.andThen_ok, Sem.run_pure]) g2 g3 g5
        rw [g4] at this
        exact this
      · rename_i hno
        cases hz : amake P t nid lv cv with
        | none => rw [hz] at h; cases h
        | some r =>
          obtain ⟨v', u', cs'⟩ := r
          rw [hz] at h
          simp only [Option.map_some, Option.some.injEq, Prod.mk.injEq] at h
          obtain ⟨rfl, rfl, rfl, rfl⟩ := h
          obtain ⟨val, X', g1, g2, g3, g4, g5⟩ := amake_ok (P := P) hX hnid (opx l (by simp [Op.operands]) _ hl) (opx c (by simp [Op.operands]) _ hc) hz hcs
          have := OpSim.of_run (P := P) (o := { dst, op := .makeSlice t l c, type, pos, after, guard }) (a := a) (X := X) (X' := X') (v := v') (val := val)
            (by simp only [execOp, Sem.run_bind, g1, Result.andThen_ok, Sem.run_pure]) g2 g3 g5
          rw [g4] at this
          exact this
    · cases h
  all_goals cases h
end
section
open Go Go.RowKit
variable {P : Program}

/-- What is known between two operations: slots; slots known under a test of another slot; own blocks; choices to come; what was taken for granted; how many slots there are; may operations be looked at ahead of their tests? -/
structure St where
  tm : List (Nat × AV)
  tg : List (Nat × (Nat × Bool) × AV)
  hp : List AB
  os : List Bool
  cs : List Bool
  nt : Nat
  spec : Bool

def lookT : List (Nat × AV) → Nat → Option AV
  | [], _ => none
  | (s, v) :: r, t => if Nat.beq s t then some v else lookT r t

def lookG : List (Nat × (Nat × Bool) × AV) → Nat → Option ((Nat × Bool) × AV)
  | [], _ => none
  | (s, g, v) :: r, t => if Nat.beq s t then some (g, v) else lookG r t

def St.H (σ : St) : Nat → Option AB := fun i => σ.hp[i]?

/-- A slot's content, under the tests that are known to come out so. -/
def St.look (σ : St) (chain : List (Nat × Bool)) (t : Nat) : Option AV :=
  match lookG σ.tg t with
  | some (g, v) => if chain.any (fun c => Nat.beq c.1 g.1 && (c.2 == g.2)) then some v else none
  | none => lookT σ.tm t

def St.ev (σ : St) (chain : List (Nat × Bool)) : Operand → Option AV
  | .tmp t => σ.look chain t
  | .const v => cvv v
  | .func f => some (.one (.fn f []))
  | .global _ => none

def dropTag (d : Nat) : List (Nat × (Nat × Bool) × AV) → List (Nat × (Nat × Bool) × AV)
  | [] => []
  | (s, g, v) :: r => if Nat.beq s d || Nat.beq g.1 d then dropTag d r else (s, g, v) :: dropTag d r

/-- A slot is written. -/
def St.put (σ : St) (d : Option Nat) (v : AV) : Option St :=
  match d with
  | none => some σ
  | some d => if Nat.blt d σ.nt then some { σ with tm := (d, v) :: σ.tm, tg := dropTag d σ.tg } else none

def hput (hp : List AB) (p : Nat × AB) : Option (List AB) :=
  if Nat.beq p.1 hp.length then some (hp ++ [p.2]) else if Nat.blt p.1 hp.length then some (hp.set p.1 p.2) else none

def hputs (hp : List AB) : List (Nat × AB) → Option (List AB)
  | [] => some hp
  | p :: r => match hput hp p with
    | some hp' => hputs hp' r
    | none => none

theorem hput_H {hp hp' : List AB} {p : Nat × AB} (h : hput hp p = some hp') : (fun (i : Nat) => hp'[i]?) = upd (fun (i : Nat) => hp[i]?) p.1 (some p.2) := by
  unfold hput at h
  split at h
  · rename_i e
    simp only [Nat.beq_eq] at e
    injection h with h; subst h
    funext i
    by_cases ei : i = p.1
    · rw [ei, upd_same, e]; simp
    · rw [upd_other _ _ ei]
      by_cases hl : i < hp.length
      · rw [List.getElem?_append_left hl]
      · exact (List.getElem?_eq_none (by rw [List.length_append, List.length_singleton]; omega)).trans (List.getElem?_eq_none (by omega)).symm
  · split at h
    · rename_i e
      simp only [Nat.blt_eq] at e
      injection h with h; subst h
      funext i
      by_cases ei : i = p.1
      · rw [ei, upd_same]; simp [e]
      · rw [upd_other _ _ ei, List.getElem?_set_ne (fun h => ei h.symm)]
    · cases h

theorem hputs_H : ∀ {l : List (Nat × AB)} {hp hp' : List AB}, hputs hp l = some hp' → (fun (i : Nat) => hp'[i]?) = ups (fun (i : Nat) => hp[i]?) l
  | [], hp, hp', h => by simp only [hputs, Option.some.injEq] at h; subst h; rfl
  | p :: r, hp, hp', h => by
    simp only [hputs] at h
    split at h
    · rename_i h1 h2
      rw [hputs_H h, hput_H h2]
      rfl
    · cases h

theorem mem_of_lookG : ∀ {l : List (Nat × (Nat × Bool) × AV)} {t : Nat} {g : Nat × Bool} {v : AV}, lookG l t = some (g, v) → (t, g, v) ∈ l
  | [], t, g, v, h => by cases h
  | (s, g0, v0) :: r, t, g, v, h => by
    simp only [lookG] at h
    split at h
    · rename_i e
      simp only [Nat.beq_eq] at e
      simp only [Option.some.injEq, Prod.mk.injEq] at h
      obtain ⟨rfl, rfl⟩ := h
      rw [e]; exact List.mem_cons_self ..
    · exact List.mem_cons_of_mem _ (mem_of_lookG h)
/-- What is known of slots is so. -/
structure Rel (X : Ctx) (σ : St) (a : Act) : Prop where
  hrel : HRel X
  heap : X.H = σ.H
  size : a.tmps.size = σ.nt
  defers : a.defers = []
  tm : ∀ t v, lookT σ.tm t = some v → VR X v (a.tmps.getD t undef)
  tg : ∀ t s w v, (t, (s, w), v) ∈ σ.tg → (a.tmps.getD s undef = .bool w → VR X v (a.tmps.getD t undef)) ∧ (a.tmps.getD s undef ≠ .bool w → a.tmps.getD t undef = undef)

/-- The tests come out so. -/
def Holds (a : Act) (chain : List (Nat × Bool)) : Prop := ∀ g ∈ chain, a.tmps.getD g.1 undef = .bool g.2

theorem Rel.look {X : Ctx} {σ : St} {a : Act} (h : Rel X σ a) {chain : List (Nat × Bool)} (hc : Holds a chain) {t : Nat} {v : AV} (hl : σ.look chain t = some v) : VR X v (a.tmps.getD t undef) := by
  unfold St.look at hl
  split at hl
  · rename_i g v' hg
    split at hl
    · rename_i hany
      injection hl with hl; subst hl
      obtain ⟨c, hcm, hce⟩ := List.any_eq_true.1 hany
      simp only [Bool.and_eq_true, Nat.beq_eq, beq_iff_eq] at hce
      obtain ⟨gs, gw⟩ := g
      have := hc c hcm
      rw [hce.1, hce.2] at this
      exact (h.tg t gs gw _ (mem_of_lookG hg)).1 this
    · cases hl
  · rename_i hg
    exact h.tm t v hl

theorem Rel.ev {X : Ctx} {σ : St} {a : Act} (h : Rel X σ a) {chain : List (Nat × Bool)} (hc : Holds a chain) {x : Operand} {v : AV} (hl : σ.ev chain x = some v) : VR X v (a.eval x) := by
  cases x with
  | tmp t => exact h.look hc hl
  | const c => exact cvv_rel X hl
  | global g => cases hl
  | func f =>
    simp only [St.ev, Option.some.injEq] at hl
    subst hl
    exact ⟨#[], rfl, rfl, fun j p hj => by simp at hj⟩

theorem undef_ne (b : Bool) : undef ≠ .bool b := by intro h; cases h

theorem wanted_iff {ops : Array Oper} {o : Oper} {a : Act} {j s : Nat} {w : Bool} (hg : o.guard = some (j, w)) (hs : (ops[j]?).bind (·.dst) = some s) :
    Region.wanted o (yielded ops a.tmps) = true ↔ a.tmps.getD s undef = .bool w := by
  simp only [Region.wanted, hg, yielded, hs, Option.bind_some]
  have e : a.tmps.getD s undef = (a.tmps[s]?).getD undef := by simp
  rw [e]
  cases hv : a.tmps[s]? with
  | none => simp; intro h; exact undef_ne _ h
  | some v =>
    simp only [Option.getD_some]
    cases v <;> simp

theorem getD_put (a : Act) (d : Nat) (v : Value) (t : Nat) (hd : d < a.tmps.size) : (a.put (some d) v).tmps.getD t undef = if t = d then v else a.tmps.getD t undef := by
  simp only [Act.put]
  by_cases e : t = d
  · subst e; simp [hd]
  · rw [if_neg e]
    simp [Array.getElem?_setIfInBounds_ne (fun h => e h.symm)]

theorem mem_drop (d : Nat) : ∀ (l : List (Nat × (Nat × Bool) × AV)) (p), p ∈ dropTag d l → p ∈ l ∧ p.1 ≠ d ∧ p.2.1.1 ≠ d
  | [], p, h => by cases h
  | (s, g0, v0) :: r, p, h => by
    simp only [dropTag] at h
    split at h
    · obtain ⟨h1, h2⟩ := mem_drop d r p h
      exact ⟨List.mem_cons_of_mem _ h1, h2⟩
    · rename_i hne
      simp only [Bool.or_eq_true, Nat.beq_eq, not_or] at hne
      rcases List.mem_cons.1 h with rfl | h
      · exact ⟨List.mem_cons_self .., hne⟩
      · obtain ⟨h1, h2⟩ := mem_drop d r p h
        exact ⟨List.mem_cons_of_mem _ h1, h2⟩

end
section
open Go Go.RowKit
variable {P : Program}

theorem Rel.mono {X X' : Ctx} {σ : St} {a : Act} (h : Rel X σ a) (hle : X.le X') (hX : HRel X') {hp' : List AB} (hH : X'.H = fun i => hp'[i]?) : Rel X' { σ with hp := hp' } a where
  hrel := hX
  heap := hH
  size := h.size
  defers := h.defers
  tm t v hl := VR.mono hle _ _ (h.tm t v hl)
  tg t s w v hl := ⟨fun hb => VR.mono hle _ _ ((h.tg t s w v hl).1 hb), (h.tg t s w v hl).2⟩

theorem Rel.put {X : Ctx} {σ σ' : St} {a : Act} (h : Rel X σ a) {d : Option Nat} {v : AV} (hp : σ.put d v = some σ') {val : Value} (hv : VR X v val) : Rel X σ' (a.put d val) := by
  cases d with
  | none => simp only [St.put, Option.some.injEq] at hp; subst hp; exact h
  | some d =>
    simp only [St.put] at hp
    split at hp
    · rename_i hd
      simp only [Nat.blt_eq] at hd
      injection hp with hp; subst hp
      have hds : d < a.tmps.size := by rw [h.size]; exact hd
      refine ⟨h.hrel, h.heap, by simp [Act.put, h.size], h.defers, fun t u hl => ?_, fun t s w u hl => ?_⟩
      · rw [getD_put a d val t hds]
        simp only [lookT] at hl
        split at hl
        · rename_i e
          simp only [Nat.beq_eq] at e
          simp only [Option.some.injEq] at hl
          subst hl
          rw [if_pos e.symm]; exact hv
        · rename_i e
          simp only [Nat.beq_eq] at e
          rw [if_neg (fun h => e h.symm)]
          exact h.tm t u hl
      · obtain ⟨h1, h2, h3⟩ := mem_drop d σ.tg _ hl
        simp only at h2 h3
        rw [getD_put a d val t hds, getD_put a d val s hds, if_neg h2, if_neg h3]
        exact h.tg t s w u h1
    · cases hp

/-- Contracts: of functions that touch no block of the caller's; of any. -/
abbrev KP := Nat → List AV → List Bool → Option (AV × List Bool × List Bool)
abbrev KH := Nat → List AV → List AB → List Bool → Option (AV × List AB × List Bool × List Bool)

def KPok (P : Program) (kp : KP) : Prop :=
  ∀ f args os r cs os', kp f args os = some (r, cs, os') → (∀ c ∈ cs, c = true) → ∀ X vs, HRel X → PW (VR X) args vs →
    (∃ fn, P.funcs[f]? = some fn ∧ (fn.name == "runtime.NumGoroutine") = false ∧ fn.body.isNone = false) ∧
    Calls P f vs.toArray X.w fun e w' => ∃ val X', e = .returned val ∧ X'.w = w' ∧ X.le X' ∧ HRel X' ∧ X'.H = X.H ∧ VR X' r val

def KHok (P : Program) (kh : KH) : Prop :=
  ∀ f args hp os r hp' cs os', kh f args hp os = some (r, hp', cs, os') → (∀ c ∈ cs, c = true) → ∀ X vs, HRel X → (X.H = fun i => hp[i]?) → PW (VR X) args vs →
    (∃ fn, P.funcs[f]? = some fn ∧ (fn.name == "runtime.NumGoroutine") = false ∧ fn.body.isNone = false) ∧
    Calls P f vs.toArray X.w fun e w' => ∃ val X', e = .returned val ∧ X'.w = w' ∧ X.le X' ∧ HRel X' ∧ (X'.H = fun i => hp'[i]?) ∧ VR X' r val

/-- The function that a value stands for, and what it brings. -/
def fnOf : AV → Option (Nat × List AV × List AV)
  | .one (.fn f caps) => some (f, [], caps.map fun c => .one (.ptr c.1 c.2))
  | .one (.mth f i off) => some (f, [.one (.ptr i off)], [])
  | _ => none

def evs (ρ : Rho) : List Operand → Option (List AV)
  | [] => some []
  | x :: r => match ρ x, evs ρ r with
    | some v, some l => some (v :: l)
    | _, _ => none

theorem evs_rel {X : Ctx} {ρ : Rho} {a : Act} : ∀ (l : List Operand) (vs : List AV), evs ρ l = some vs → (∀ x ∈ l, ∀ v, ρ x = some v → VR X v (a.eval x)) → PW (VR X) vs (l.map a.eval)
  | [], vs, h, _ => by simp only [evs, Option.some.injEq] at h; subst h; exact PW.nil
  | x :: r, vs, h, hr => by
    simp only [evs] at h
    split at h
    · rename_i v l h1 h2
      injection h with h; subst h
      exact PW.cons (hr x (List.mem_cons_self ..) v h1) (evs_rel r l h2 fun y hy => hr y (List.mem_cons_of_mem _ hy))
    · cases h

/-- A call's callee and arguments. -/
def callOf (ρ : Rho) (o : Oper) : Option (Nat × List AV) :=
  match o.op with
  | .call { callee := .value f, args, .. } => match (ρ f).bind fnOf, evs ρ args.toList with
    | some (k, pre, caps), some vs => some (k, pre ++ (vs ++ caps))
    | _, _ => none
  | _ => none

theorem callOf_wp {X : Ctx} {ρ : Rho} {a : Act} {o : Oper} (hρ : RhoOk X ρ a o) {k : Nat} {args : List AV} (h : callOf ρ o = some (k, args)) :
    ∃ vs, PW (VR X) args vs ∧ ∀ (fn : Func), P.funcs[k]? = some fn → (fn.name == "runtime.NumGoroutine") = false → fn.body.isNone = false → ∀ (R : Value → World → Prop) next Q,
      (Calls P k vs.toArray X.w fun e w' => ∃ val, e = .returned val ∧ R val w') → (∀ val w', R val w' → next (a.put o.dst val) w') → o.wp P a X.w next Q := by
  obtain ⟨dst, op, type, pos, after, guard⟩ := o
  cases op
  case call c =>
    obtain ⟨callee, cargs, argTypes⟩ := c
    cases callee <;> first | cases h | skip
    rename_i f
    simp only [callOf] at h
    split at h
    · rename_i k' pre caps vs h1 h2
      simp only [Option.some.injEq, Prod.mk.injEq] at h
      obtain ⟨rfl, rfl⟩ := h
      obtain ⟨fv, hf, hfn⟩ := bindO h1
      have hargs := evs_rel (a := a) cargs.toList vs h2 fun x hx => hρ x (by simp only [Op.operands, Call.operands]; simp; right; simpa using hx)
      have hfv := hρ f (by simp [Op.operands, Call.operands]) fv hf
      unfold fnOf at hfn
      split at hfn
      · rename_i k'' cps
        simp only [Option.some.injEq, Prod.mk.injEq] at hfn
        obtain ⟨rfl, rfl, rfl⟩ := hfn
        obtain ⟨c, e1, e2, e3⟩ := hfv
        refine ⟨cargs.toList.map a.eval ++ c.toList, hargs.append ⟨by simpa using e2.symm, fun j u y hu hy => ?_⟩, fun fn g1 g2 g3 R next Q hc hn => ?_⟩
        · simp only [List.getElem?_map] at hu
          cases hp : cps[j]? with
          | none => rw [hp] at hu; cases hu
          | some p =>
            rw [hp] at hu
            simp only [Option.map_some, Option.some.injEq] at hu
            subst hu
            obtain ⟨q1, q2⟩ := e3 j p hp
            have : y = .pointer (some ⟨X.φ p.1, p.2, none⟩) := by
              rw [Array.getElem?_toList, q2] at hy
              simpa using hy.symm
            exact ⟨q1, this⟩
        · have hrun : (execOp a.eval { dst, op := .call { callee := .value f, args := cargs, argTypes }, type, pos, after, guard }).run P X.w = .ok (.enter k'' (cargs.toList.map a.eval ++ c.toList).toArray) X.w := by
            unfold execOp
            simp only [resolve, e1, Deferred.ofValue, invoke, callFunc, Sem.run_bind, Sem.run_pure, Result.andThen_ok, run_program, g1, g2, g3, Bool.false_eq_true, if_false]
            congr 2
            simp
          unfold Oper.wp
          rw [hrun]
          show Calls P k'' _ X.w _
          refine hc.mono fun e w' hh => ?_
          obtain ⟨val, rfl, hR⟩ := hh
          exact hn val w' hR
      · rename_i k'' i off
        simp only [Option.some.injEq, Prod.mk.injEq] at hfn
        obtain ⟨rfl, rfl, rfl⟩ := hfn
        obtain ⟨hb, e1⟩ := hfv
        refine ⟨.pointer (some ⟨X.φ i, off, none⟩) :: cargs.toList.map a.eval, by rw [List.append_nil]; exact PW.cons ⟨hb, rfl⟩ hargs, fun fn g1 g2 g3 R next Q hc hn => ?_⟩
        have hrun : (execOp a.eval { dst, op := .call { callee := .value f, args := cargs, argTypes }, type, pos, after, guard }).run P X.w = .ok (.enter k'' (.pointer (some ⟨X.φ i, off, none⟩) :: cargs.toList.map a.eval).toArray) X.w := by
          unfold execOp
          simp only [resolve, e1, Deferred.ofValue, invoke, callFunc, Sem.run_bind, Sem.run_pure, Result.andThen_ok, run_program, g1, g2, g3, Bool.false_eq_true, if_false]
          congr 2
          simp
        unfold Oper.wp
        rw [hrun]
        show Calls P k'' _ X.w _
        refine hc.mono fun e w' hh => ?_
        obtain ⟨val, rfl, hR⟩ := hh
        exact hn val w' hR
      · cases hfn
    · cases h
  all_goals cases h

/-- A value that is there, or that is there if a test comes out so: the value, and what is taken for granted. -/
def openA : Option AV → Option (AC × List Bool)
  | some (.one c) => if c.bare then some (c, []) else none
  | some (.gd b false [c]) => if c.bare then some (c, [id b]) else none
  | _ => none
/-- The value itself. -/
def gOf : Bool → List AC → Option AV
  | true, cs => some (.agg cs)
  | false, [c] => some (.one c)
  | false, _ => none
theorem gOf_rel {X : Ctx} {g : Bool} {cs : List AC} {w : AV} (h : gOf g cs = some w) {v : Value} (hv : VRp X (g, cs) v) : VR X w v := by
  unfold gOf at h
  split at h
  · injection h with h; subst h; exact hv
  · injection h with h; subst h
    obtain ⟨c, e, hc⟩ := hv
    injection e with e; subst e
    exact hc
  · cases h
def openR (ρ : Rho) : Rho := fun x => match ρ x with
  | some (.gd _ g cs) => gOf g cs
  | r => r
def opensOf (ρ : Rho) : List Operand → List Bool
  | [] => []
  | x :: r => match ρ x with
    | some (.gd b _ _) => id b :: opensOf ρ r
    | _ => opensOf ρ r

theorem openA_rel {X : Ctx} {u : Option AV} {c : AC} {k : List Bool} (h : openA u = some (c, k)) (hk : ∀ q ∈ k, q = true) {v : Value} (hv : ∀ w, u = some w → VR X w v) : VRc X c v := by
  unfold openA at h
  split at h
  · split at h
    · simp only [Option.some.injEq, Prod.mk.injEq] at h
      obtain ⟨rfl, rfl⟩ := h
      exact hv _ rfl
    · cases h
  · split at h
    · rename_i hb
      simp only [Option.some.injEq, Prod.mk.injEq] at h
      obtain ⟨rfl, rfl⟩ := h
      obtain ⟨c', e, hc⟩ := (hv _ rfl).2.1 (hk _ (List.mem_cons_self ..))
      injection e with e; subst e
      exact hc
    · cases h
  · cases h

theorem openR_rel {X : Ctx} {ρ : Rho} {l : List Operand} (hk : ∀ q ∈ opensOf ρ l, q = true) {x : Operand} (hx : x ∈ l) {v : Value} (hv : ∀ w, ρ x = some w → VR X w v) {w : AV} (h : openR ρ x = some w) : VR X w v := by
  have key : ∀ b g c, ρ x = some (.gd b g c) → b = true := by
    intro b g c hb
    clear h hv
    induction l with
    | nil => cases hx
    | cons y r ih =>
      simp only [opensOf] at hk
      rcases List.mem_cons.1 hx with rfl | hx
      · rw [hb] at hk
        exact hk b (List.mem_cons_self ..)
      · split at hk
        · exact ih (fun q hq => hk q (List.mem_cons_of_mem _ hq)) hx
        · exact ih hk hx
  unfold openR at h
  split at h
  · rename_i b g c hb
    exact gOf_rel h ((hv _ hb).2.1 (key b g c hb))
  · exact hv _ h

/-- pick, without a choice. -/
def pickS (ρ : Rho) (c a b : Operand) : Option (AC × List Bool) :=
  match openA (ρ c), openA (ρ a), openA (ρ b) with
  | some (.bool x, k0), some (u, k1), some (w, k2) => match mergeC x u w with
    | some r => some (r, k0 ++ (k1.map (fun q => !x || q) ++ k2.map (fun q => x || q)))
    | none => none
  | _, _, _ => none

theorem mergeC_bare {x : Bool} {u w r : AC} (h : mergeC x u w = some r) : r.bare = true := by
  unfold mergeC at h
  split at h
  · injection h with h; subst h; rfl
  · split at h
    · injection h with h; subst h; rfl
    · cases h
  · injection h with h; subst h; rfl
  · cases h

theorem pickS_rel {X : Ctx} {ρ : Rho} {ac : Act} {c a b : Operand} (hc : ∀ v, ρ c = some v → VR X v (ac.eval c)) (ha : ∀ v, ρ a = some v → VR X v (ac.eval a)) (hb : ∀ v, ρ b = some v → VR X v (ac.eval b))
    {r : AC} {k : List Bool} (hp : pickS ρ c a b = some (r, k)) (hk : ∀ q ∈ k, q = true) : ∃ x, ac.eval c = .bool x ∧ r.bare = true ∧ VRc X r (if x then ac.eval a else ac.eval b) := by
  unfold pickS at hp
  split at hp
  · rename_i x k0 u k1 w k2 h0 h1 h2
    split at hp
    · rename_i r' hm
      simp only [Option.some.injEq, Prod.mk.injEq] at hp
      obtain ⟨rfl, rfl⟩ := hp
      have e0 : VRc X (.bool x) (ac.eval c) := openA_rel h0 (fun q hq => hk q (List.mem_append_left _ hq)) hc
      refine ⟨x, e0, mergeC_bare hm, mergeC_rel hm (fun e => ?_) (fun e => ?_)⟩
      · subst e
        exact openA_rel h1 (fun q hq => by
          have := hk (!true || q) (List.mem_append_right _ (List.mem_append_left _ (List.mem_map.2 ⟨q, hq, rfl⟩)))
          simpa using this) ha
      · subst e
        exact openA_rel h2 (fun q hq => by
          have := hk (false || q) (List.mem_append_right _ (List.mem_append_right _ (List.mem_map.2 ⟨q, hq, rfl⟩)))
          simpa using this) hb
    · cases hp
  · cases hp

/-- What an operation finds of its operands, and what it takes for granted so. -/
def St.rho (σ : St) (chain : List (Nat × Bool)) : Rho := if σ.spec then openR (σ.ev chain) else σ.ev chain
def St.opn (σ : St) (chain : List (Nat × Bool)) (o : Oper) : List Bool := if σ.spec then opensOf (σ.ev chain) o.op.operands.toList else []

theorem Rel.rho {X : Ctx} {σ : St} {a : Act} (h : Rel X σ a) {chain : List (Nat × Bool)} (hc : Holds a chain) {o : Oper} (hk : ∀ q ∈ σ.opn chain o, q = true) : RhoOk X (σ.rho chain) a o := by
  intro x hx v hv
  unfold St.rho at hv
  unfold St.opn at hk
  split at hv
  · rename_i hs
    rw [if_pos hs] at hk
    exact openR_rel hk (Array.mem_toList_iff.2 hx) (fun w hw => h.ev hc hw) hv
  · exact h.ev hc hv

/-- An operation whose test is known to come out so, or that has none. -/
def runO (P : Program) (kp : KP) (kh : KH) (o : Oper) (chain : List (Nat × Bool)) (σ : St) : Option St :=
  match o.op with
  | .pick c a b =>
    match (if σ.spec then pickS (σ.ev chain) c a b else none) with
    | some (v, k) => ({ σ with cs := k ++ σ.cs } : St).put o.dst (.one v)
    | none => match σ.ev chain c with
      | some (.one (.bool x)) => match br x σ.os with
        | (t, cs, r) => match σ.ev chain (if t then a else b) with
          | some v => ({ σ with os := r, cs := cs ++ σ.cs } : St).put o.dst v
          | none => none
      | _ => none
  | .call { callee := .value f, .. } =>
    match callOf (σ.rho chain) o with
    | some (k, args) => match kp k args σ.os with
      | some (v, cs, r) => ({ σ with os := r, cs := cs ++ (σ.opn chain o ++ σ.cs) } : St).put o.dst v
      | none => match kh k args σ.hp σ.os with
        | some (v, hp', cs, r) => ({ σ with hp := hp', os := r, cs := cs ++ (σ.opn chain o ++ σ.cs) } : St).put o.dst v
        | none => none
    | none => none
  | _ => match aop P o (σ.rho chain) σ.H σ.hp.length σ.os with
    | some (v, u, cs, r) => match hputs σ.hp u with
      | some hp' => ({ σ with hp := hp', os := r, cs := cs ++ (σ.opn chain o ++ σ.cs) } : St).put o.dst v
      | none => none
    | none => none

/-- One value, or one of several cells. -/
def unV : AV → Option (Bool × List AC)
  | .one c => some (false, [c])
  | .agg cs => some (true, cs)
  | _ => none
theorem unV_rel {X : Ctx} {w : AV} {ga : Bool} {cs : List AC} (h : unV w = some (ga, cs)) {v : Value} (hv : VR X w v) : VRp X (ga, cs) v := by
  unfold unV at h
  split at h
  · simp only [Option.some.injEq, Prod.mk.injEq] at h
    obtain ⟨rfl, rfl⟩ := h
    exact ⟨_, rfl, hv⟩
  · simp only [Option.some.injEq, Prod.mk.injEq] at h
    obtain ⟨rfl, rfl⟩ := h
    exact hv
  · cases h
/-- An operation's value under a test that is not decided, what is taken for granted if it comes out so. -/
def specV (P : Program) (kp : KP) (o : Oper) (g : Bool) (ρ : Rho) (H : Nat → Option AB) (nid : Nat) : Option (Bool × List AC × List Bool) :=
  match o.op with
  | .pick c a b => match pickS ρ c a b with
    | some (r, k) => some (false, [r], k.map fun q => !g || q)
    | none => none
  | .call { callee := .value _, .. } => match callOf (openR ρ) o with
    | some (k, args) => match kp k args [] with
      | some (w, cs, _) => match unV w with
        | some (ga, c) => some (ga, c, (cs ++ opensOf ρ o.op.operands.toList).map fun q => !g || q)
        | none => none
      | _ => none
    | none => none
  | _ => match aop P o (openR ρ) H nid [] with
    | some (w, [], cs, _) => match unV w with
      | some (ga, c) => some (ga, c, (cs ++ opensOf ρ o.op.operands.toList).map fun q => !g || q)
      | none => none
    | _ => none

def guardV : Option AV → Bool → Option Bool
  | some (.one (.bool b)), want => some (b == want)
  | some (.gd b' false [.bool b]), want => some (b' && (b == want))
  | _, _ => none

theorem guardV_rel {X : Ctx} {u : Option AV} {want g : Bool} (h : guardV u want = some g) {v : Value} (hv : ∀ w, u = some w → VR X w v) : g = true ↔ v = .bool want := by
  unfold guardV at h
  split at h
  · rename_i b
    injection h with h
    have e : v = .bool b := hv _ rfl
    rw [e, ← h]
    simp
  · rename_i b' b
    injection h with h
    have e := hv _ rfl
    rw [← h]
    cases b' with
    | false =>
      have := e.2.2 rfl
      rw [this]
      simp
      intro hh; exact undef_ne _ hh
    | true =>
      have : v = .bool b := by
        obtain ⟨c, e1, e2⟩ := e.2.1 rfl
        injection e1 with e1; subst e1
        exact e2
      rw [this]
      simp
  · cases h

theorem specV_ok {kp : KP} (hkp : KPok P kp) {X : Ctx} (hX : HRel X) {nid : Nat} (hnid : X.H nid = none) {o : Oper} {a : Act} {ρ : Rho} (hρ : RhoOk X ρ a o) {g : Bool} (hg : g = true) {ga : Bool} {c : List AC} {cs : List Bool}
    (h : specV P kp o g ρ X.H nid = some (ga, c, cs)) (hcs : ∀ q ∈ cs, q = true) (hids : ∀ i ∈ c.flatMap idsC, X.H i ≠ none) : OpSim P o a X (.gd g ga c) X.H := by
  subst hg
  have conv : ∀ {X' : Ctx} {val : Value} {w : AV}, X.le X' → unV w = some (ga, c) → VR X' w val → VR X' (.gd true ga c) val := fun hle hb hv => ⟨fun i hi => hle.has (hids i hi), fun _ => unV_rel hb hv, fun e => by cases e⟩
  unfold specV at h
  split at h
  · rename_i x y z ho
    split at h
    · rename_i r k hp
      simp only [Option.some.injEq, Prod.mk.injEq] at h
      obtain ⟨rfl, rfl, rfl⟩ := h
      have hmem : ∀ q ∈ [x, y, z], q ∈ o.op.operands := by
        rw [ho]; intro q hq; simp [Op.operands] at hq ⊢; exact hq
      obtain ⟨b, h1, h2, h3⟩ := pickS_rel (fun v hv => hρ x (hmem x (by simp)) v hv) (fun v hv => hρ y (hmem y (by simp)) v hv) (fun v hv => hρ z (hmem z (by simp)) v hv) hp (fun q hq => by
        have := hcs _ (List.mem_map.2 ⟨q, hq, rfl⟩)
        simpa using this)
      intro next Q hn
      unfold Oper.wp
      have hrun : (execOp a.eval o).run P X.w = .ok (.value (if b then a.eval y else a.eval z)) X.w := by
        unfold execOp
        simp only [ho, h1, asBool, Sem.run_bind, Sem.run_pure, Result.andThen_ok]
      rw [hrun]
      exact hn _ X (.refl X) hX rfl (conv (.refl X) (w := .one r) rfl h3)
    · cases h
  · rename_i f cargs cty ho
    split at h
    · rename_i k args hcall
      split at h
      · rename_i c' cs' r' hk
        split at h
        · rename_i ga' c2 hb
          simp only [Option.some.injEq, Prod.mk.injEq] at h
          obtain ⟨rfl, rfl, rfl⟩ := h
          have hall : ∀ q ∈ cs' ++ opensOf ρ o.op.operands.toList, q = true := fun q hq => by
            have := hcs _ (List.mem_map.2 ⟨q, hq, rfl⟩)
            simpa using this
          have hρ' : RhoOk X (openR ρ) a o := fun x hx v hv => openR_rel (fun q hq => hall q (List.mem_append_right _ hq)) (Array.mem_toList_iff.2 hx) (fun w hw => hρ x hx w hw) hv
          obtain ⟨vs, hvs, hwp⟩ := callOf_wp (P := P) hρ' hcall
          obtain ⟨⟨fn, g1, g2, g3⟩, hcalls⟩ := hkp k args [] _ cs' r' hk (fun q hq => hall q (List.mem_append_left _ hq)) X vs hX hvs
          intro next Q hn
          refine hwp fn g1 g2 g3 (fun val w' => ∃ X', X'.w = w' ∧ X.le X' ∧ HRel X' ∧ X'.H = X.H ∧ VR X' c' val) next Q (hcalls.mono fun e w' ⟨val, X', h1, h2, h3, h4, h5, h6⟩ => ⟨val, h1, X', h2, h3, h4, h5, h6⟩) ?_
          rintro val w' ⟨X', rfl, h3, h4, h5, h6⟩
          exact hn val X' h3 h4 h5 (conv h3 hb h6)
        · cases h
      · cases h
    · cases h
  · split at h
    · rename_i c' cs' r' haop
      split at h
      · rename_i ga' c2 hb
        simp only [Option.some.injEq, Prod.mk.injEq] at h
        obtain ⟨rfl, rfl, rfl⟩ := h
        have hall : ∀ q ∈ cs' ++ opensOf ρ o.op.operands.toList, q = true := fun q hq => by
          have := hcs _ (List.mem_map.2 ⟨q, hq, rfl⟩)
          simpa using this
        have hρ' : RhoOk X (openR ρ) a o := fun x hx v hv => openR_rel (fun q hq => hall q (List.mem_append_right _ hq)) (Array.mem_toList_iff.2 hx) (fun w hw => hρ x hx w hw) hv
        have hsim := aop_sim (P := P) hX hnid hρ' haop fun q hq => hall q (List.mem_append_left _ hq)
        intro next Q hn
        refine hsim next Q fun val X' h3 h4 h5 h6 => ?_
        exact hn val X' h3 h4 h5 (conv h3 hb h6)
      · cases h
    · cases h

/-- The next operation's place: what is known leads on. -/
def Leads (P : Program) (o : Oper) (X : Ctx) (a : Act) (σ' : St) : Prop :=
  ∀ (next : Act → World → Prop) (Q : Exit → Act → World → Prop), (∀ X' a', X.le X' → Rel X' σ' a' → next a' X'.w) → o.wp P a X.w next Q

theorem Rel.cs {X : Ctx} {σ : St} {a : Act} (h : Rel X σ a) (os cs : List Bool) : Rel X { σ with os := os, cs := cs } a := ⟨h.hrel, h.heap, h.size, h.defers, h.tm, h.tg⟩

theorem put_cs {σ σ' : St} {d : Option Nat} {v : AV} (h : σ.put d v = some σ') : σ'.cs = σ.cs ∧ σ'.hp = σ.hp := by
  cases d with
  | none => simp only [St.put, Option.some.injEq] at h; subst h; exact ⟨rfl, rfl⟩
  | some d =>
    simp only [St.put] at h
    split at h
    · injection h with h; subst h; exact ⟨rfl, rfl⟩
    · cases h
theorem runO_sim {kp : KP} {kh : KH} (hkp : KPok P kp) (hkh : KHok P kh) {o : Oper} {chain : List (Nat × Bool)} {σ σ' : St} {X : Ctx} {a : Act} (h : Rel X σ a) (hc : Holds a chain)
    (hr : runO P kp kh o chain σ = some σ') : (∃ cs, σ'.cs = cs ++ σ.cs) ∧ ((∀ c ∈ σ'.cs, c = true) → Leads P o X a σ') := by
  have hpick : ∀ c x y v, o.op = .pick c x y → ∀ xb, a.eval c = .bool xb → ∀ σ1, Rel X σ1 a → σ1.put o.dst v = some σ' → VR X v (if xb then a.eval x else a.eval y) → Leads P o X a σ' := by
    intro c x y v ho xb hcv σ1 hσ hput hv next Q hn
    unfold Oper.wp
    have hrun : (execOp a.eval o).run P X.w = .ok (.value (if xb then a.eval x else a.eval y)) X.w := by
      unfold execOp
      simp only [ho, hcv, asBool, Sem.run_bind, Sem.run_pure, Result.andThen_ok]
    rw [hrun]
    exact hn X _ (.refl X) (hσ.put hput hv)
  unfold runO at hr
  split at hr
  · rename_i c x y ho
    split at hr
    · rename_i v k hv
      split at hv
      · have hcs := (put_cs hr).1
        refine ⟨⟨k, hcs⟩, fun hall => ?_⟩
        obtain ⟨xb, h1, _, h2⟩ := pickS_rel (fun _ hw => h.ev hc hw) (fun _ hw => h.ev hc hw) (fun _ hw => h.ev hc hw) hv fun q hq => hall q (by rw [hcs]; exact List.mem_append_left _ hq)
        exact hpick c x y (.one v) ho xb h1 _ (h.cs σ.os (k ++ σ.cs)) hr h2
      · cases hv
    · split at hr
      · rename_i xb hx
        split at hr
        rename_i t cs r hbr
        split at hr
        · rename_i v hv
          have hcs := (put_cs hr).1
          refine ⟨⟨cs, hcs⟩, fun hall => ?_⟩
          have hcv : a.eval c = .bool xb := h.ev hc hx
          have hb := br_eq (b := xb) (os := σ.os) (by
            rw [hbr]; intro q hq
            exact hall q (by rw [hcs]; exact List.mem_append_left _ hq))
          rw [hbr] at hb
          simp only at hb
          subst hb
          refine hpick c x y v ho t hcv _ (h.cs r (cs ++ σ.cs)) hr ?_
          have := h.ev hc hv
          cases t <;> exact this
        · cases hr
      · cases hr
  · rename_i f cargs cty ho
    split at hr
    · rename_i k args hcall
      split at hr
      · rename_i v cs r hk
        have hcs := (put_cs hr).1
        refine ⟨⟨cs ++ σ.opn chain o, by rw [hcs]; simp⟩, fun hall => ?_⟩
        have hρ := h.rho hc (o := o) fun q hq => hall q (by rw [hcs]; exact List.mem_append_right _ (List.mem_append_left _ hq))
        obtain ⟨vs, hvs, hwp⟩ := callOf_wp (P := P) hρ hcall
        have hcc : ∀ c ∈ cs, c = true := fun q hq => hall q (by rw [hcs]; exact List.mem_append_left _ hq)
        obtain ⟨⟨fn, g1, g2, g3⟩, hcalls⟩ := hkp k args σ.os v cs r hk hcc X vs h.hrel hvs
        intro next Q hn
        refine hwp fn g1 g2 g3 (fun val w' => ∃ X', X'.w = w' ∧ X.le X' ∧ HRel X' ∧ X'.H = X.H ∧ VR X' v val) next Q (hcalls.mono fun e w' ⟨val, X', h1, h2, h3, h4, h5, h6⟩ => ⟨val, h1, X', h2, h3, h4, h5, h6⟩) ?_
        rintro val w' ⟨X', rfl, h3, h4, h5, h6⟩
        have hrel : Rel X' { σ with hp := σ.hp } a := h.mono h3 h4 (by rw [h5, h.heap]; rfl)
        exact hn X' _ h3 ((hrel.cs r (cs ++ (σ.opn chain o ++ σ.cs))).put hr h6)
      · split at hr
        · rename_i v hp' cs r hk
          have hcs := (put_cs hr).1
          refine ⟨⟨cs ++ σ.opn chain o, by rw [hcs]; simp⟩, fun hall => ?_⟩
          have hρ := h.rho hc (o := o) fun q hq => hall q (by rw [hcs]; exact List.mem_append_right _ (List.mem_append_left _ hq))
          obtain ⟨vs, hvs, hwp⟩ := callOf_wp (P := P) hρ hcall
          have hcc : ∀ c ∈ cs, c = true := fun q hq => hall q (by rw [hcs]; exact List.mem_append_left _ hq)
          obtain ⟨⟨fn, g1, g2, g3⟩, hcalls⟩ := hkh k args σ.hp σ.os v hp' cs r hk hcc X vs h.hrel h.heap hvs
          intro next Q hn
          refine hwp fn g1 g2 g3 (fun val w' => ∃ X', X'.w = w' ∧ X.le X' ∧ HRel X' ∧ (X'.H = fun i => hp'[i]?) ∧ VR X' v val) next Q (hcalls.mono fun e w' ⟨val, X', h1, h2, h3, h4, h5, h6⟩ => ⟨val, h1, X', h2, h3, h4, h5, h6⟩) ?_
          rintro val w' ⟨X', rfl, h3, h4, h5, h6⟩
          have hrel : Rel X' { σ with hp := hp' } a := h.mono h3 h4 h5
          exact hn X' _ h3 ((hrel.cs r (cs ++ (σ.opn chain o ++ σ.cs))).put hr h6)
        · cases hr
    · cases hr
  · split at hr
    · rename_i v u cs r haop
      split at hr
      · rename_i hp' hput
        have hcs := (put_cs hr).1
        refine ⟨⟨cs ++ σ.opn chain o, by rw [hcs]; simp⟩, fun hall => ?_⟩
        have hρ := h.rho hc (o := o) fun q hq => hall q (by rw [hcs]; exact List.mem_append_right _ (List.mem_append_left _ hq))
        have hcc : ∀ c ∈ cs, c = true := fun q hq => hall q (by rw [hcs]; exact List.mem_append_left _ hq)
        have hnid : X.H σ.hp.length = none := by rw [h.heap]; simp [St.H]
        rw [← h.heap] at haop
        have hsim := aop_sim (P := P) h.hrel hnid hρ haop hcc
        intro next Q hn
        refine hsim next Q fun val X' h3 h4 h5 h6 => ?_
        have hH : X'.H = fun i => hp'[i]? := by rw [h5, h.heap]; exact (hputs_H hput).symm
        have hrel : Rel X' { σ with hp := hp' } a := h.mono h3 h4 hH
        exact hn X' _ h3 ((hrel.cs r (cs ++ (σ.opn chain o ++ σ.cs))).put hr h6)
      · cases hr
    · cases hr
end
section
open Go Go.RowKit
variable {P : Program}

/-- An operation that is looked at ahead of its test. -/
def specStep (P : Program) (kp : KP) (o : Oper) (s : Nat) (want : Bool) (σ : St) : Option St :=
  match guardV (σ.look [] s) want with
  | some g => match specV P kp o g (σ.ev []) σ.H σ.hp.length with
    | some (ga, c, cs) => if (c.flatMap idsC).all (fun i => (σ.H i).isSome) then ({ σ with cs := cs ++ σ.cs } : St).put o.dst (.gd g ga c) else none
    | none => none
  | none => none

/-- One operation of a region, its test looked at first. -/
def stepOp (P : Program) (kp : KP) (kh : KH) (ops : Array Oper) (o : Oper) (σ : St) : Option St :=
  match o.guard with
  | none => runO P kp kh o [] σ
  | some (j, want) => match (ops[j]?).bind (·.dst) with
    | none => none
    | some s => match (if σ.spec then specStep P kp o s want σ else none) with
      | some σ' => some σ'
      | none => match σ.look [] s with
      | some (.gd b' false [.bool b]) => match br (b' && (b == want)) σ.os with
        | (true, cs, r) => runO P kp kh o [] { σ with os := r, cs := cs ++ σ.cs }
        | (false, cs, r) => ({ σ with os := r, cs := cs ++ σ.cs } : St).put o.dst (.tup [])
      | some (.one (.bool b)) => match br b σ.os with
        | (t, cs, r) => if t == want then runO P kp kh o [] { σ with os := r, cs := cs ++ σ.cs } else ({ σ with os := r, cs := cs ++ σ.cs } : St).put o.dst (.tup [])
      | some (.tup []) => σ.put o.dst (.tup [])
      | _ => none

def opsRun (P : Program) (kp : KP) (kh : KH) (ops : Array Oper) : List Nat → St → Option St
  | [], σ => some σ
  | i :: r, σ => match ops[i]? with
    | none => opsRun P kp kh ops r σ
    | some o => match stepOp P kp kh ops o σ with
      | some σ' => opsRun P kp kh ops r σ'
      | none => none

theorem VR_undef (X : Ctx) : VR X (.tup []) undef := ⟨#[], rfl, PW.nil⟩
theorem undef_of_VR {X : Ctx} {v : Value} (h : VR X (.tup []) v) : v = undef := by
  obtain ⟨arr, e, h1, _⟩ := h
  have : arr = #[] := by
    cases arr with | mk l => simp at h1; rw [List.eq_nil_of_length_eq_zero h1.symm]
  rw [e, this]; rfl

theorem wanted_none {o : Oper} (h : o.guard = none) (f) : Region.wanted o f = true := by simp [Region.wanted, h]

theorem runO_suf {kp : KP} {kh : KH} {o : Oper} {chain : List (Nat × Bool)} {σ σ' : St} (hr : runO P kp kh o chain σ = some σ') : ∃ cs, σ'.cs = cs ++ σ.cs := by
  unfold runO at hr
  split at hr
  · split at hr
    · exact ⟨_, (put_cs hr).1⟩
    · split at hr
      · split at hr
        split at hr
        · exact ⟨_, (put_cs hr).1⟩
        · cases hr
      · cases hr
  · split at hr
    · split at hr
      · exact ⟨_, (put_cs hr).1.trans (List.append_assoc ..).symm⟩
      · split at hr
        · exact ⟨_, (put_cs hr).1.trans (List.append_assoc ..).symm⟩
        · cases hr
    · cases hr
  · split at hr
    · split at hr
      · exact ⟨_, (put_cs hr).1.trans (List.append_assoc ..).symm⟩
      · cases hr
    · cases hr

theorem specStep_some {kp : KP} {o : Oper} {s : Nat} {want : Bool} {σ σ' : St} (h : specStep P kp o s want σ = some σ') :
    ∃ g ga c cs, (c.flatMap idsC).all (fun i => (σ.H i).isSome) = true ∧ guardV (σ.look [] s) want = some g ∧ specV P kp o g (σ.ev []) σ.H σ.hp.length = some (ga, c, cs) ∧ ({ σ with cs := cs ++ σ.cs } : St).put o.dst (.gd g ga c) = some σ' := by
  unfold specStep at h
  split at h
  · rename_i g hg
    split at h
    · rename_i ga c cs hs
      split at h
      · rename_i hi
        exact ⟨g, ga, c, cs, hi, hg, hs, h⟩
      · cases h
    · cases h
  · cases h

theorem stepOp_suf {kp : KP} {kh : KH} {ops : Array Oper} {o : Oper} {σ σ' : St} (hr : stepOp P kp kh ops o σ = some σ') : ∃ cs, σ'.cs = cs ++ σ.cs := by
  unfold stepOp at hr
  split at hr
  · exact runO_suf hr
  · split at hr
    · cases hr
    · split at hr
      · rename_i σ1 hsp
        split at hsp
        · obtain ⟨g, ga, c, cs, _, _, _, hput⟩ := specStep_some hsp
          injection hr with hr; subst hr
          exact ⟨_, (put_cs hput).1⟩
        · cases hsp
      · split at hr
        · split at hr
          · obtain ⟨cs', h1⟩ := runO_suf hr
            exact ⟨_, by rw [h1]; simp only [← List.append_assoc]; rfl⟩
          · exact ⟨_, (put_cs hr).1⟩
        · split at hr
          rename_i t cs r hbr
          split at hr
          · obtain ⟨cs', h1⟩ := runO_suf hr
            exact ⟨cs' ++ cs, by rw [h1]; simp only [List.append_assoc]⟩
          · exact ⟨_, (put_cs hr).1⟩
        · exact ⟨[], (put_cs hr).1⟩
        · cases hr

theorem opsRun_suf {kp : KP} {kh : KH} {ops : Array Oper} : ∀ (l : List Nat) {σ σ' : St}, opsRun P kp kh ops l σ = some σ' → ∃ cs, σ'.cs = cs ++ σ.cs
  | [], σ, σ', hr => by
    simp only [opsRun, Option.some.injEq] at hr
    subst hr
    exact ⟨[], rfl⟩
  | i :: r, σ, σ', hr => by
    simp only [opsRun] at hr
    split at hr
    · exact opsRun_suf r hr
    · split at hr
      · rename_i σ1 hs
        obtain ⟨c1, e1⟩ := stepOp_suf hs
        obtain ⟨c2, e2⟩ := opsRun_suf r hr
        exact ⟨c2 ++ c1, by rw [e2, e1]; simp⟩
      · cases hr

theorem stepOp_sim {kp : KP} {kh : KH} (hkp : KPok P kp) (hkh : KHok P kh) {ops : Array Oper} {o : Oper} {σ σ' : St} {X : Ctx} {a : Act} (h : Rel X σ a)
    (hr : stepOp P kp kh ops o σ = some σ') : (∃ cs, σ'.cs = cs ++ σ.cs) ∧ ((∀ c ∈ σ'.cs, c = true) → ∀ (next : Act → World → Prop) (Q : Exit → Act → World → Prop),
      (∀ X' a', X.le X' → Rel X' σ' a' → next a' X'.w) →
      (if Region.wanted o (yielded ops a.tmps) then o.wp P a X.w next Q ∨ (o.asks P a X.w ∧ LetsOut Q) else next (a.put o.dst undef) X.w)) := by
  have nil : Holds a [] := fun g hg => by cases hg
  unfold stepOp at hr
  split at hr
  · rename_i hg
    obtain ⟨h1, h2⟩ := runO_sim hkp hkh h nil hr
    refine ⟨h1, fun hc next Q hn => ?_⟩
    rw [if_pos (wanted_none hg _)]
    exact .inl (h2 hc next Q hn)
  · rename_i j want hg
    split at hr
    · cases hr
    · rename_i s hs
      split at hr
      · rename_i σ1 hsp
        split at hsp
        · obtain ⟨g, ga, c, cs, hids, hgv, hsv, hput⟩ := specStep_some hsp
          injection hr with hr; subst hr
          have h1 := (put_cs hput).1
          refine ⟨⟨cs, h1⟩, fun hall next Q hn => ?_⟩
          have hcc : ∀ q ∈ cs, q = true := fun q hq => hall q (by rw [h1]; exact List.mem_append_left _ hq)
          have hiff := guardV_rel hgv (v := a.tmps.getD s undef) fun w hw => h.look nil hw
          have hids' : ∀ i ∈ c.flatMap idsC, X.H i ≠ none := fun i hi e => by
            have := List.all_eq_true.1 hids i hi
            rw [← h.heap, e] at this
            cases this
          cases hgt : g with
          | true =>
            rw [if_pos ((wanted_iff hg hs).2 (hiff.1 hgt))]
            refine .inl ?_
            have hnid : X.H σ.hp.length = none := by rw [h.heap]; simp [St.H]
            rw [← h.heap] at hsv
            refine specV_ok hkp h.hrel hnid (fun x _ v hv => h.ev nil hv) hgt hsv hcc hids' next Q fun val X' h3 h4 h5 h6 => ?_
            have hrel : Rel X' { σ with hp := σ.hp } a := h.mono h3 h4 (by rw [h5, h.heap]; rfl)
            exact hn X' _ h3 ((hrel.cs σ.os (cs ++ σ.cs)).put hput h6)
          | false =>
            have hnw : ¬ Region.wanted o (yielded ops a.tmps) = true := fun hw => by
              have := hiff.2 ((wanted_iff hg hs).1 hw)
              rw [hgt] at this; cases this
            rw [if_neg hnw]
            exact hn X _ (.refl X) ((h.cs σ.os (cs ++ σ.cs)).put hput (by rw [hgt]; exact ⟨hids', fun e => (by cases e), fun _ => rfl⟩))
        · cases hsp
      · split at hr
        · rename_i b' b hb
          have hgv : guardV (σ.look [] s) want = some (b' && (b == want)) := by rw [hb]; rfl
          have hiff := guardV_rel hgv (v := a.tmps.getD s undef) fun w hw => h.look nil hw
          split at hr
          · rename_i cs r hbr
            obtain ⟨⟨cs', h1⟩, h2⟩ := runO_sim hkp hkh (h.cs r (cs ++ σ.cs)) nil hr
            refine ⟨⟨cs' ++ cs, by rw [h1]; simp⟩, fun hc next Q hn => ?_⟩
            have htb := br_eq (b := b' && (b == want)) (os := σ.os) (by
              rw [hbr]; intro q hq
              exact hc q (by rw [h1]; exact List.mem_append_right _ (List.mem_append_left _ hq)))
            rw [hbr] at htb
            rw [if_pos ((wanted_iff hg hs).2 (hiff.1 htb.symm))]
            exact .inl (h2 hc next Q hn)
          · rename_i cs r hbr
            have h1 := (put_cs hr).1
            refine ⟨⟨cs, h1⟩, fun hc next Q hn => ?_⟩
            have htb := br_eq (b := b' && (b == want)) (os := σ.os) (by
              rw [hbr]; intro q hq
              exact hc q (by rw [h1]; exact List.mem_append_left _ hq))
            rw [hbr] at htb
            have hnw : ¬ Region.wanted o (yielded ops a.tmps) = true := fun hw => by
              have := hiff.2 ((wanted_iff hg hs).1 hw)
              rw [← htb] at this; cases this
            rw [if_neg hnw]
            exact hn X _ (.refl X) ((h.cs r (cs ++ σ.cs)).put hr (VR_undef X))
        · rename_i b hb
          have hbv : a.tmps.getD s undef = .bool b := h.look nil hb
          split at hr
          rename_i t cs r hbr
          have hput : ∀ {cs' : List Bool}, cs' = cs ++ σ.cs → (∀ c ∈ cs', c = true) → t = b := by
            intro cs' e hall
            have := br_eq (b := b) (os := σ.os) (by
              rw [hbr]; intro q hq
              exact hall q (by rw [e]; exact List.mem_append_left _ hq))
            rw [hbr] at this
            exact this
          split at hr
          · rename_i ht
            obtain ⟨⟨cs', h1⟩, h2⟩ := runO_sim hkp hkh (h.cs r (cs ++ σ.cs)) nil hr
            refine ⟨⟨cs' ++ cs, by rw [h1]; simp⟩, fun hc next Q hn => ?_⟩
            have htb : t = b := hput rfl fun c hcm => hc c (by rw [h1]; exact List.mem_append_right _ hcm)
            rw [if_pos ((wanted_iff hg hs).2 (by rw [hbv, ← htb]; simp only [beq_iff_eq] at ht; rw [ht]))]
            exact .inl (h2 hc next Q hn)
          · rename_i ht
            have h1 := (put_cs hr).1
            refine ⟨⟨cs, h1⟩, fun hc next Q hn => ?_⟩
            have htb : t = b := hput h1 hc
            have hnw : ¬ Region.wanted o (yielded ops a.tmps) = true := fun hw => by
              have := (wanted_iff hg hs).1 hw
              rw [hbv, ← htb] at this
              simp only [Value.bool.injEq] at this
              exact ht (by simp [this])
            rw [if_neg hnw]
            exact hn X _ (.refl X) ((h.cs r (cs ++ σ.cs)).put hr (VR_undef X))
        · rename_i hb
          have hbv : a.tmps.getD s undef = undef := undef_of_VR (h.look nil hb)
          refine ⟨⟨[], (put_cs hr).1⟩, fun hc next Q hn => ?_⟩
          have hnw : ¬ Region.wanted o (yielded ops a.tmps) = true := fun hw => by
            have := (wanted_iff hg hs).1 hw
            rw [hbv] at this
            exact undef_ne _ this
          rw [if_neg hnw]
          exact hn X _ (.refl X) (h.put hr (VR_undef X))
        · cases hr

theorem opsRun_sim {kp : KP} {kh : KH} (hkp : KPok P kp) (hkh : KHok P kh) {ops : Array Oper} {Q : Exit → Act → World → Prop} : ∀ (l : List Nat) {σ σ' : St} {X : Ctx} {a : Act}, Rel X σ a →
    opsRun P kp kh ops l σ = some σ' → (∀ c ∈ σ'.cs, c = true) → (∀ X' a', X.le X' → Rel X' σ' a' → Q .normal a' X'.w) → wpOps P ops Q l a X.w
  | [], σ, σ', X, a, h, hr, hc, hq => by
    simp only [opsRun, Option.some.injEq] at hr
    subst hr
    exact hq X a (.refl X) h
  | i :: r, σ, σ', X, a, h, hr, hc, hq => by
    simp only [opsRun] at hr
    split at hr
    · rename_i hi
      simp only [wpOps, hi]
      exact opsRun_sim hkp hkh r h hr hc hq
    · rename_i o hi
      split at hr
      · rename_i σ1 hs
        obtain ⟨c2, e2⟩ := opsRun_suf r hr
        simp only [wpOps, hi]
        refine (stepOp_sim hkp hkh h hs).2 (fun c hcm => hc c (by rw [e2]; exact List.mem_append_right _ hcm)) (wpOps P ops Q r) Q fun X' a' hle h' => ?_
        exact opsRun_sim hkp hkh r h' hr hc fun X'' a'' hle' h'' => hq X'' a'' (hle.trans hle') h''
      · cases hr
end
section
open Go Go.RowKit
variable {P : Program}

/-- Cells as one row. -/
def cellRow : AC → Option ((row : CT) × row.den)
  | .int k n => some ⟨.int k, n⟩
  | .bool b => some ⟨.bool, b⟩
  | .str s => some ⟨.str, s⟩
  | .sl row l _ => some ⟨.sl row, l⟩
  | .nils => some ⟨.sl .unit, []⟩
  | _ => none

def toRow : List AC → Option ((row : CT) × row.den)
  | [] => some ⟨.unit, ()⟩
  | c :: r => match cellRow c, toRow r with
    | some ⟨a, x⟩, some ⟨b, y⟩ => some ⟨.pair a b, (x, y)⟩
    | _, _ => none

theorem cellRow_rel {X : Ctx} {c : AC} {row : CT} {x : row.den} (h : cellRow c = some ⟨row, x⟩) {v : Value} (hv : VRc X c v) : row.width = 1 ∧ ∀ (C : Nat → Value → Prop), C 0 v → RelT row x C X.IC := by
  unfold cellRow at h
  split at h
  · simp only [Option.some.injEq, Sigma.mk.injEq] at h
    obtain ⟨rfl, hx⟩ := h
    cases eq_of_heq hx
    cases hv
    exact ⟨rfl, fun C hc => hc⟩
  · simp only [Option.some.injEq, Sigma.mk.injEq] at h
    obtain ⟨rfl, hx⟩ := h
    cases eq_of_heq hx
    cases hv
    exact ⟨rfl, fun C hc => hc⟩
  · simp only [Option.some.injEq, Sigma.mk.injEq] at h
    obtain ⟨rfl, hx⟩ := h
    cases eq_of_heq hx
    cases hv
    exact ⟨rfl, fun C hc => hc⟩
  · simp only [Option.some.injEq, Sigma.mk.injEq] at h
    obtain ⟨rfl, hx⟩ := h
    cases eq_of_heq hx
    obtain ⟨A, n, cap, rfl, h2, h3, h4, h5, _⟩ := hv
    exact ⟨rfl, fun C hc => ⟨A, n, cap, hc, h2, h3, h4, h5⟩⟩
  · simp only [Option.some.injEq, Sigma.mk.injEq] at h
    obtain ⟨rfl, hx⟩ := h
    cases eq_of_heq hx
    cases hv
    exact ⟨rfl, fun C hc => ⟨none, 0, 0, hc, rfl, Nat.le_refl _, by simp [maxLen], .inl rfl⟩⟩
  · cases h

theorem toRow_rel {X : Ctx} : ∀ {cs : List AC} {row : CT} {x : row.den}, toRow cs = some ⟨row, x⟩ → ∀ {vs : List Value}, PW (VRc X) cs vs → row.width = cs.length ∧ RelT row x (fun k y => vs[k]? = some y) X.IC
  | [], row, x, h, vs, hv => by
    simp only [toRow, Option.some.injEq, Sigma.mk.injEq] at h
    obtain ⟨rfl, _⟩ := h
    exact ⟨rfl, trivial⟩
  | c :: r, row, x, h, vs, hv => by
    simp only [toRow] at h
    split at h
    · rename_i a x1 b y1 h1 h2
      simp only [Option.some.injEq, Sigma.mk.injEq] at h
      obtain ⟨rfl, hx⟩ := h
      cases eq_of_heq hx
      cases vs with
      | nil => have := hv.1; simp at this
      | cons v vs =>
        obtain ⟨g1, g2⟩ := cellRow_rel h1 (hv.2 0 c v rfl rfl)
        obtain ⟨g3, g4⟩ := toRow_rel h2 (vs := vs) ⟨by have := hv.1; simpa using this, fun j d z hd hz => hv.2 (j + 1) d z (by simpa using hd) (by simpa using hz)⟩
        refine ⟨by show a.width + b.width = _; rw [g1, g3, List.length_cons]; omega, g2 _ rfl, ?_⟩
        refine RelT.mono b _ (fun k y hk => ?_) (fun _ _ hh => hh) g4
        rw [g1, Nat.add_comm]
        simpa using hk
    · cases h

/-- A value, as one who only reads may have it: own blocks as rows that are promised. -/
def seeC (H : Nat → Option AB) : AC → Option AC
  | .ptr i off => match H i with
    | some (.cells cs) => match toRow cs with
      | some ⟨row, x⟩ => some (.elp row [x] 0 off)
      | none => none
    | _ => none
  | .int k n => some (.int k n)
  | .bool b => some (.bool b)
  | .str s => some (.str s)
  | .sl row l _ => some (.sl row l .shared)
  | .nils => some .nils
  | .nilp => some .nilp
  | .nilf => some .nilf
  | .elp row l i off => some (.elp row l i off)
  | .fn f [] => some (.fn f [])
  | .asl row i off len _ => (aslRows H row i off len).map fun l => .sl row l .shared
  | .bsl row i off len _ => (aslRows H row i off len).map fun l => .sl row l .shared
  | _ => none

def seeCs (H : Nat → Option AB) : List AC → Option (List AC)
  | [] => some []
  | c :: r => match seeC H c, seeCs H r with
    | some x, some l => some (x :: l)
    | _, _ => none

def seeA (P : Program) (H : Nat → Option AB) (t : Option TypeId) : AV → Option AV
  | .one (.csl i off len cap) => match t.bind P.underlying with
    | some (.slice e) => match cslRows P H e i off len with
      | some ⟨row, l⟩ => some (.one (.sl row l .shared))
      | none => none
    | _ => none
  | .one c => (seeC H c).map .one
  | .agg cs => (seeCs H cs).map .agg
  | .tup _ => none
  | .val _ => none
  | .gd _ _ _ => none
  | .alt _ => none
  | .clo _ _ => none

def seeAs (P : Program) (H : Nat → Option AB) : List TypeId → List AV → Option (List AV)
  | _, [] => some []
  | ts, v :: r => match seeA P H ts.head? v, seeAs P H ts.tail r with
    | some x, some l => some (x :: l)
    | _, _ => none

/-- All that lies there now is promised. -/
def freshAll (X : Ctx) : Ctx := { φ := fun _ => 0, fr := fun _ => none, tl := fun _ => False, H := fun _ => none, w := X.w, w0 := X.w, lent := fun _ => False, old := fun a y => holds X.w a y ∧ X.w.frozen? a = false }

theorem freshAll_ICs {X : Ctx} {a : Addr} {y : Value} (h2 : holds X.w a y) (h3 : X.w.frozen? a = false) : (freshAll X).IC a y :=
  ⟨.inr (.inr ⟨h2, h3⟩), rfl, h2, fun i b hb => (by cases hb), fun e he => (by cases he), h3⟩
theorem freshAll_IC {X : Ctx} {a : Addr} {y : Value} (h1 : a.spot = none) (h2 : X.w.cell? a = some y) (h3 : X.w.frozen? a = false) : (freshAll X).IC a y :=
  freshAll_ICs ((holds_cell h1).2 h2) h3
theorem cell_lt {w : World} {g o : Nat} {c : Array Value} {t : TypeId} {m : Nat × Nat} {y : Value} (h1 : w.heap[g]? = some (.cells c t m)) (h2 : w.cell? ⟨g, o, none⟩ = some y) : o < c.size := by
  rw [cell_of_row _ _ _ c t m h1] at h2
  exact (Array.getElem?_eq_some_iff.1 h2).1
theorem cells_fz {X : Ctx} (hX : HRel X) {i o : Nat} {cs : List AC} (hH : X.H i = some (.cells cs)) {y : Value} (h2 : X.w.cell? ⟨X.φ i, o, none⟩ = some y) : X.w.frozen? ⟨X.φ i, o, none⟩ = false := by
  obtain ⟨c, t, h1, _⟩ := hX.blk i _ hH
  exact frozen_off h1 (.inl rfl) (cell_lt h1 h2)
theorem arr_fz {X : Ctx} (hX : HRel X) {i o : Nat} {row : CT} {l : List row.den} (hH : X.H i = some (.arr row l)) {y : Value} (h2 : X.w.cell? ⟨X.φ i, o, none⟩ = some y) : X.w.frozen? ⟨X.φ i, o, none⟩ = false := by
  obtain ⟨c, t, h1, ⟨_, hm, _⟩, _⟩ := hX.blk i _ hH
  have hl := cell_lt h1 h2
  have hm' := hm o hl
  cases hf : X.w.frozen? ⟨X.φ i, o, none⟩ with
  | false => rfl
  | true =>
    simp only [World.frozen?, h1, Bool.and_eq_true, decide_eq_true_eq] at hf
    exact absurd hf hm'

theorem HRel.freshAll (X : Ctx) : HRel (freshAll X) where
  inj i j b c h := by cases h
  injt i j h := h.elim
  injm i b j h := by cases h
  place i b h := by cases h
  placet i h := h.elim
  lt i b h := by cases h
  ltt i h := h.elim
  tlH i h := h.elim
  frlt b e h := by cases h
  blk i b h := by cases h
  below k _ _ := rfl
  os := rfl
  tape := rfl
  output := rfl
  size := Nat.le_refl _
  old a y h := freshAll_ICs h.1 h.2

theorem all_IC {X : Ctx} {a : Addr} {y : Value} (h : X.IC a y) : (freshAll X).IC a y := freshAll_ICs h.2.2.1 h.2.2.2.2.2

theorem cslRows_H {H : Nat → Option AB} {e : TypeId} {j off len : Nat} {row : CT} {l : List row.den} (h : cslRows P H e j off len = some ⟨row, l⟩) : ∃ cs, H j = some (.cells cs) := by
  unfold cslRows at h
  split at h
  · rename_i hH; exact ⟨_, hH⟩
  · cases h

theorem seeC_rel {X : Ctx} (hX : HRel X) {c c' : AC} (h : seeC X.H c = some c') {v : Value} (hv : VRc X c v) : VRc (freshAll X) c' v := by
  have rows : ∀ {row : CT} {l : List row.den} {A : Option Addr} {n : Nat}, (n = 0 ∨ ∃ b o, A = some ⟨b, o, none⟩ ∧ ∀ j x, l[j]? = some x → RelT row x (fun k y => X.IC ⟨b, o + j * row.width + k, none⟩ y) X.IC) →
      (n = 0 ∨ ∃ b o, A = some (⟨b, o, none⟩ : Addr) ∧ ∀ j x, l[j]? = some x → RelT row x (fun k y => (freshAll X).IC ⟨b, o + j * row.width + k, none⟩ y) (freshAll X).IC) :=
    fun h => h.imp id fun ⟨b, o, e, hh⟩ => ⟨b, o, e, fun j x hj => RelT.mono _ x (fun _ _ hk => all_IC hk) (fun _ _ => all_IC) (hh j x hj)⟩
  unfold seeC at h
  split at h
  · rename_i i off
    split at h
    · rename_i cs hH
      split at h
      · rename_i row x hr
        injection h with h; subst h
        obtain ⟨_, rfl⟩ := hv
        obtain ⟨c, t', h1, h2⟩ := hX.blk i _ hH
        obtain ⟨_, g2⟩ := toRow_rel hr h2
        refine ⟨by simp, X.φ i, 0, by simp, fun y hy => ?_⟩
        simp only [List.getElem?_cons_zero, Option.some.injEq] at hy
        subst hy
        refine RelT.mono row x (fun k y hk => ?_) (fun _ _ => all_IC) g2
        have hcell : X.w.cell? ⟨X.φ i, 0 + 0 * row.width + k, none⟩ = some y := by
          simp only [Nat.zero_mul, Nat.zero_add]
          rw [cell_of_row _ _ _ c t' (0, 0) h1]
          simpa using hk
        exact freshAll_IC rfl hcell (cells_fz hX hH hcell)
      · cases h
    · cases h
  · injection h with h; subst h; exact hv
  · injection h with h; subst h; exact hv
  · injection h with h; subst h; exact hv
  · injection h with h; subst h
    obtain ⟨A, n, cap, h1, h2, h3, h4, h5, _⟩ := hv
    exact ⟨A, n, cap, h1, h2, h3, h4, rows h5, trivial⟩
  · injection h with h; subst h; exact hv
  · injection h with h; subst h; exact hv
  · injection h with h; subst h; exact hv
  · injection h with h; subst h
    obtain ⟨hi, b, o, e, hh⟩ := hv
    exact ⟨hi, b, o, e, fun x hx => RelT.mono _ x (fun _ _ hk => all_IC hk) (fun _ _ => all_IC) (hh x hx)⟩
  · injection h with h; subst h
    obtain ⟨c, h1, h2, h3⟩ := hv
    exact ⟨c, h1, h2, fun j p hj => by simp at hj⟩
  · rename_i row i off len cap
    cases ha : aslRows X.H row i off len with
    | none => rw [ha] at h; cases h
    | some r =>
      rw [ha] at h
      simp only [Option.map_some, Option.some.injEq] at h
      subst h
      obtain ⟨l, hH, rfl⟩ := aslRows_some ha
      obtain ⟨l', hH', rfl, hlc, hcm, hfit⟩ := hv
      replace hH' := hH'.of hH; rw [hH] at hH'
      simp only [Option.some.injEq, AB.arr.injEq, heq_eq_eq, true_and] at hH'
      subst hH'
      obtain ⟨vs, g2, g3, g4⟩ := arr_vals hX hH off len (by omega)
      have hlen : ((l.drop off).take len).length = len := by rw [List.length_take, List.length_drop]; omega
      refine ⟨_, len, cap, rfl, hlen.symm, hlc, hcm, .inr ⟨_, _, rfl, fun j x hj => ?_⟩, trivial⟩
      refine RelT.mono row x (fun k y hk => ?_) (fun _ _ => all_IC) (g2.2 j x hj)
      have := g4 _ _ hk
      rw [← Nat.add_assoc] at this
      exact freshAll_IC rfl this (arr_fz hX hH this)
  · rename_i row i off len mn
    cases ha : aslRows X.H row i off len with
    | none => rw [ha] at h; cases h
    | some r =>
      rw [ha] at h
      simp only [Option.map_some, Option.some.injEq] at h
      subst h
      obtain ⟨l, hH, rfl⟩ := aslRows_some ha
      obtain ⟨l', o, cap, hH', rfl, hlc, hcm, hfit, ho, _⟩ := hv
      replace hH' := hH'.of hH; rw [hH] at hH'
      simp only [Option.some.injEq, AB.arr.injEq, heq_eq_eq, true_and] at hH'
      subst hH'
      obtain ⟨vs, g2, g3, g4⟩ := arr_vals hX hH off len (by omega)
      have hlen : ((l.drop off).take len).length = len := by rw [List.length_take, List.length_drop]; omega
      rcases Nat.eq_zero_or_pos len with h0 | h0
      · exact ⟨_, len, cap, rfl, hlen.symm, hlc, hcm, .inl h0, trivial⟩
      have ho' := ho h0
      subst ho'
      refine ⟨_, len, cap, rfl, hlen.symm, hlc, hcm, .inr ⟨_, _, rfl, fun j x hj => ?_⟩, trivial⟩
      refine RelT.mono row x (fun k y hk => ?_) (fun _ _ => all_IC) (g2.2 j x hj)
      have := g4 _ _ hk
      rw [← Nat.add_assoc] at this
      exact freshAll_IC rfl this (arr_fz hX hH this)
  · cases h

theorem seeCs_rel {X : Ctx} (hX : HRel X) : ∀ {cs cs' : List AC}, seeCs X.H cs = some cs' → ∀ {vs : List Value}, PW (VRc X) cs vs → PW (VRc (freshAll X)) cs' vs
  | [], cs', h, vs, hv => by
    simp only [seeCs, Option.some.injEq] at h
    subst h
    have : vs = [] := List.eq_nil_of_length_eq_zero hv.1.symm
    subst this; exact PW.nil
  | c :: l, cs', h, vs, hv => by
    simp only [seeCs] at h
    split at h
    · rename_i p q h1 h2
      injection h with h; subst h
      cases vs with
      | nil => have := hv.1; simp at this
      | cons y ys => exact PW.cons (seeC_rel hX h1 (hv.2 0 c y rfl rfl)) (seeCs_rel hX h2 ⟨by have := hv.1; simpa using this, fun j d z hd hz => hv.2 (j + 1) d z (by simpa using hd) (by simpa using hz)⟩)
    · cases h
theorem seeA_rel {X : Ctx} (hX : HRel X) {t : Option TypeId} {c c' : AV} (h : seeA P X.H t c = some c') {v : Value} (hv : VR X c v) : VR (freshAll X) c' v := by
  unfold seeA at h
  split at h
  · rename_i i off len cap
    split at h
    · rename_i e hu
      split at h
      · rename_i row l hr
        injection h with h; subst h
        obtain ⟨_, rfl, hc, hm⟩ := hv
        obtain ⟨g1, vs, g2, g3, g4⟩ := cslRows_ok hX hr hc hm
        refine ⟨_, len, cap, rfl, g1.symm, hc, hm, .inr ⟨_, _, rfl, fun j x hj => ?_⟩, trivial⟩
        refine RelT.mono row x (fun k y hk => ?_) (fun _ _ => all_IC) (g2.2 j x hj)
        have := g4 _ _ hk
        rw [← Nat.add_assoc] at this
        obtain ⟨cs0, hH⟩ := cslRows_H hr
        exact freshAll_IC rfl this (cells_fz hX hH this)
      · cases h
    · cases h
  · rename_i c hne
    cases hc : seeC X.H c with
    | none => rw [hc] at h; cases h
    | some c1 =>
      rw [hc] at h
      simp only [Option.map_some, Option.some.injEq] at h
      subst h
      exact seeC_rel hX hc hv
  · rename_i cs
    cases hc : seeCs X.H cs with
    | none => rw [hc] at h; cases h
    | some c1 =>
      rw [hc] at h
      simp only [Option.map_some, Option.some.injEq] at h
      subst h
      obtain ⟨ar, e, hp⟩ := hv
      exact ⟨ar, e, seeCs_rel hX hc hp⟩
  · cases h
  · cases h
  · cases h
  · cases h
  · cases h

theorem seeAs_rel {X : Ctx} (hX : HRel X) : ∀ {ts : List TypeId} {cs cs' : List AV}, seeAs P X.H ts cs = some cs' → ∀ {vs : List Value}, PW (VR X) cs vs → PW (VR (freshAll X)) cs' vs
  | ts, [], cs', h, vs, hv => by
    simp only [seeAs, Option.some.injEq] at h
    subst h
    have : vs = [] := List.eq_nil_of_length_eq_zero hv.1.symm
    subst this; exact PW.nil
  | ts, c :: l, cs', h, vs, hv => by
    simp only [seeAs] at h
    split at h
    · rename_i p q h1 h2
      injection h with h; subst h
      cases vs with
      | nil => have := hv.1; simp at this
      | cons y ys => exact PW.cons (seeA_rel (P := P) hX h1 (hv.2 0 c y rfl rfl)) (seeAs_rel hX h2 ⟨by have := hv.1; simpa using this, fun j d z hd hz => hv.2 (j + 1) d z (by simpa using hd) (by simpa using hz)⟩)
    · cases h

/-- A value that names no memory. -/
def bareC : AC → Bool
  | .int .. => true
  | .bool _ => true
  | .str _ => true
  | _ => false

def bareA : AV → Bool
  | .one c => bareC c
  | .agg cs => cs.all bareC
  | .tup ps => ps.all fun p => p.2.all bareC
  | .val _ => true
  | .gd _ _ cs => cs.all bareC
  | .alt _ => false
  | .clo _ _ => false

theorem bareC_rel {X Z : Ctx} {c : AC} (h : bareC c = true) {v : Value} (hv : VRc X c v) : VRc Z c v := by
  cases c <;> first | exact hv | cases h

theorem bareC_noids {Z : Ctx} {cs : List AC} (h : cs.all bareC = true) : ∀ i ∈ cs.flatMap idsC, Z.H i ≠ none := fun i hi => by
  obtain ⟨c, hc, hi⟩ := List.mem_flatMap.1 hi
  have h' := List.all_eq_true.1 h c hc
  exfalso
  revert hi h'
  cases c <;> simp [bareC, idsC]
theorem bareP_rel {X Z : Ctx} {p : Bool × List AC} (h : p.2.all bareC = true) {v : Value} (hv : VRp X p v) : VRp Z p v := by
  obtain ⟨b, cs⟩ := p
  have hb := List.all_eq_true.1 h
  cases b with
  | true =>
    obtain ⟨ar, e, hl, hp⟩ := hv
    exact ⟨ar, e, hl, fun j c y hc hy => bareC_rel (hb c (List.mem_of_getElem? hc)) (hp j c y hc hy)⟩
  | false =>
    obtain ⟨c, e, hc⟩ := hv
    exact ⟨c, e, bareC_rel (hb c (by rw [show cs = [c] from e]; exact List.mem_cons_self ..)) hc⟩

theorem bareA_rel {X Z : Ctx} {c : AV} (h : bareA c = true) {v : Value} (hv : VR X c v) : VR Z c v := by
  cases c with
  | one c => exact bareC_rel h hv
  | agg cs => exact bareP_rel (p := (true, cs)) h hv
  | tup ps =>
    obtain ⟨arr, e, hl, hp⟩ := hv
    exact ⟨arr, e, hl, fun j c y hc hy => bareP_rel (List.all_eq_true.1 h c (List.mem_of_getElem? hc)) (hp j c y hc hy)⟩
  | val _ => exact hv
  | alt _ => cases h
  | clo _ _ => cases h
  | gd b g cs =>
    exact ⟨bareC_noids h, fun e => bareP_rel (p := (g, cs)) h (hv.2.1 e), hv.2.2⟩

/-- A call that only reads the caller's blocks. -/
theorem see_call {kp : KP} (hkp : KPok P kp) {X : Ctx} (hX : HRel X) {k : Nat} {ts : List TypeId} {args args' : List AV} {os : List Bool} {v : AV} {cs os' : List Bool} (ha : seeAs P X.H ts args = some args')
    (hk : kp k args' os = some (v, cs, os')) (hb : bareA v = true) (hcs : ∀ c ∈ cs, c = true) {vs : List Value} (hv : PW (VR X) args vs) :
    (∃ fn, P.funcs[k]? = some fn ∧ (fn.name == "runtime.NumGoroutine") = false ∧ fn.body.isNone = false) ∧
    Calls P k vs.toArray X.w fun e w' => ∃ val X', e = .returned val ∧ X'.w = w' ∧ X.le X' ∧ HRel X' ∧ X'.H = X.H ∧ VR X' v val := by
  obtain ⟨h1, h2⟩ := hkp k args' os v cs os' hk hcs (freshAll X) vs (HRel.freshAll X) (seeAs_rel hX ha hv)
  refine ⟨h1, h2.mono fun e w' hh => ?_⟩
  obtain ⟨val, Y', rfl, rfl, hle, hY, _, hval⟩ := hh
  have h0 : Y'.w0 = X.w := hle.w0
  have hl : Y'.lent = fun _ => False := hle.lent
  have hbel : Below X.w.heap.size X.w Y'.w := by
    refine ⟨?_, ?_, ?_, ?_, ?_⟩
    · have := hY.os; rw [h0] at this; exact this
    · have := hY.tape; rw [h0] at this; exact this
    · have := hY.output; rw [h0] at this; exact this
    · have := hY.size; rw [h0] at this; exact this
    · intro k hk; have := hY.below k (by rw [h0]; exact hk) (by rw [hl]; exact id); rw [h0] at this; exact this
  exact ⟨val, X.withW Y'.w, rfl, rfl, withW_le hX hbel hle.drawn, hX.withW hbel hle.drawn, rfl, bareA_rel hb hval⟩
end
section
open Go Go.RowKit
variable {P : Program}

/-- Less is known of the blocks. -/
def HLe (H H' : Nat → Option AB) : Prop := ∀ i b, H i = some b → H' i = some b

theorem aload_mono {H H' : Nat → Option AB} (hh : HLe H H') {t : TypeId} {p v : AV} (h : aload P t H p = some v) : aload P t H' p = some v := by
  unfold aload at h ⊢
  split at h
  · rename_i i off ag n ht
    cases hi : H i with
    | none => rw [hi] at h; cases h
    | some b => rw [hi] at h; simp only [hh i b hi]; exact h
  · exact h
  · rename_i row i j d ag n ht
    cases hi : H i with
    | none => rw [hi] at h; cases h
    | some b => rw [hi] at h; simp only [hh i b hi]; exact h
  · rename_i i off n len ht
    cases hi : H i with
    | none => rw [hi] at h; cases h
    | some b => rw [hi] at h; simp only [hh i b hi]; exact h
  · cases h

theorem astore_mono {H H' : Nat → Option AB} (hh : HLe H H') {t : TypeId} {p v : AV} {u : Nat × AB} (h : astore P t H p v = some u) : astore P t H' p v = some u := by
  unfold astore at h ⊢
  split at h
  · rename_i i off ag n vs ht hvs
    cases hi : H i with
    | none => rw [hi] at h; cases h
    | some b => rw [hi] at h; simp only [hh i b hi]; exact h
  · rename_i row i j d ag n vs ht hvs
    cases hi : H i with
    | none => rw [hi] at h; cases h
    | some b => rw [hi] at h; simp only [hh i b hi]; exact h
  · rename_i i off n len ag v ht hvs
    cases hi : H i with
    | none => rw [hi] at h; cases h
    | some b => rw [hi] at h; simp only [hh i b hi]; exact h
  · cases h

theorem aslRows_mono {H H' : Nat → Option AB} (hh : HLe H H') {row : CT} {j off len : Nat} {u} (h : aslRows H row j off len = some u) : aslRows H' row j off len = some u := by
  unfold aslRows at h ⊢
  cases hi : H j with
  | none => rw [hi] at h; cases h
  | some b => rw [hi] at h; rw [hh j b hi]; exact h
theorem rowsIn_mono {H H' : Nat → Option AB} (hh : HLe H H') {e : TypeId} {x : AC} {u} (h : rowsIn P H e x = some u) : rowsIn P H' e x = some u := by
  unfold rowsIn cslRows at h ⊢
  split at h
  · exact h
  · rename_i j off len cap
    cases hj : H j with
    | none => rw [hj] at h; split at h <;> first | cases h | (rename_i hq; cases hq)
    | some b => rw [hj] at h; rw [hh j b hj]; exact h
  · rename_i row j off len cap
    cases hr : aslRows H row j off len with
    | none => rw [hr] at h; cases h
    | some r => rw [hr] at h; rw [aslRows_mono hh hr]; exact h
  · rename_i row j off len mn
    cases hr : aslRows H row j off len with
    | none => rw [hr] at h; cases h
    | some r => rw [hr] at h; rw [aslRows_mono hh hr]; exact h
  · cases h

theorem cslRows_mono {H H' : Nat → Option AB} (hh : HLe H H') {e : TypeId} {j off len : Nat} {u} (h : cslRows P H e j off len = some u) : cslRows P H' e j off len = some u :=
  rowsIn_mono hh (x := .csl j off len len) h

theorem aappend_mono {H H' : Nat → Option AB} (hh : HLe H H') {t : TypeId} {nid : Nat} {s x : AC} {os : List Bool} {u} (h : aappend P t H nid s x os = some u) : aappend P t H' nid s x os = some u := by
  unfold aappend at h ⊢
  split at h
  · exact h
  · rename_i e hu hne
    split at h
    · rename_i i zs row l2 hi hz hrows
      simp only [hi, hz, rowsIn_mono hh hrows]
      split at h
      · rename_i hc
        simp only [hc, if_true]
        split at h
        · exact h
        · split at h
          · rename_i j off len cap
            split at h
            · rename_i old hold
              simp only [hh j _ hold]
              split at h
              · rename_i hroom
                rw [if_pos hroom]
                exact h
              · rename_i hroom
                rw [if_neg hroom]
                split at h
                · rename_i row' l hr
                  rw [cslRows_mono hh hr]
                  exact h
                · cases h
            · cases h
          · rename_i row' j off len cap
            split at h
            · rename_i hold
              simp only [hh j _ hold]
              exact h
            · cases h
          · rename_i row' j off len mn
            split at h
            · rename_i hold
              simp only [hh j _ hold]
              exact h
            · cases h
          · split at h
            · cases h
            · split at h
              · exact h
              · split at h
                · rename_i hk
                  simp only [hh _ _ hk]
                  exact h
                · cases h
              · cases h
              · cases h
              · cases h
      · cases h
    · cases h
  · cases h

theorem aclear_mono {H H' : Nat → Option AB} (hh : HLe H H') {t : TypeId} {x : AC} {u} (h : aclear P t H x = some u) : aclear P t H' x = some u := by
  unfold aclear at h ⊢
  split at h
  · split at h
    · rename_i hu hj
      rw [hh _ _ hj]
      simp only [hu]
      exact h
    · cases h
  · cases h
theorem rowsIn_nils {H H' : Nat → Option AB} (hh : HLe H H') {t e : TypeId} (hu : P.underlying t = some (.slice e)) {nid : Nat} {s x : AC} {os : List Bool} {u} (hr : rowsIn P H e x = none) (h : aappend P t H nid s x os = some u) : rowsIn P H' e x = none := by
  have hx : x = .nils := by
    unfold aappend at h
    rw [hu] at h
    split at h
    · rfl
    · rename_i e' hu' hne
      injection hu' with hu'
      injection hu' with hu'
      subst hu'
      rw [hr] at h
      split at h
      · rename_i h3
        cases h3
      · cases h
    · cases h
  subst hx
  exact hr
theorem aappendW_mono {H H' : Nat → Option AB} (hh : HLe H H') {t : TypeId} {nid : Nat} {s x : AC} {pos : String} {os : List Bool} {u} (h : aappendW P t H nid s x pos os = some u) : aappendW P t H' nid s x pos os = some u := by
  unfold aappendW at h ⊢
  split at h
  · rename_i hp
    rw [if_pos hp]
    split at h
    · rename_i e hu
      split at h
      · rename_i row y l2 hr
        simp only [rowsIn_mono hh hr]
        split at h
        · rename_i hf
          rw [if_pos hf]
          exact aappend_mono hh h
        · rename_i hf
          rw [if_neg hf]
          exact h
      · rename_i row hr
        simp only [rowsIn_mono hh hr]
        exact aappend_mono hh h
      · rename_i hr
        simp only [rowsIn_nils hh hu hr h]
        exact aappend_mono hh h
    · rename_i e hu
      split at h
      · rename_i row y l2 hr
        simp only [rowsIn_mono hh hr]
        split at h
        · rename_i hf
          rw [if_pos hf]
          exact aappend_mono hh h
        · rename_i hf
          rw [if_neg hf]
          exact h
      · rename_i row hr
        simp only [rowsIn_mono hh hr]
        exact aappend_mono hh h
      · rename_i hr
        simp only [rowsIn_nils hh hu hr h]
        exact aappend_mono hh h
    · exact aappend_mono hh h
  · rename_i hp
    rw [if_neg hp]
    exact aappend_mono hh h

theorem acopy_mono {H H' : Nat → Option AB} (hh : HLe H H') {t : TypeId} {d x : AC} {u} (h : acopy P t H d x = some u) : acopy P t H' d x = some u := by
  unfold acopy at h ⊢
  split at h
  · rename_i row i off len cap e s he
    split at h
    · rename_i src row' l hsrc hH
      have h2 : srcRows H' row x = some src := by
        unfold srcRows at hsrc ⊢
        split at hsrc
        · exact hsrc
        · exact hsrc
        · split at hsrc
          · rename_i hr
            rw [if_pos hr]; exact aslRows_mono hh hsrc
          · cases hsrc
        · split at hsrc
          · rename_i hr
            rw [if_pos hr]; exact aslRows_mono hh hsrc
          · cases hsrc
        · cases hsrc
      simp only [h2, hh i _ hH]
      exact h
    · cases h
  · rename_i i off len cap e s m he hm
    split at h
    · rename_i src cs hsrc hH
      have h2 : srcCells H' s (Nat.min m len) x = some src := by
        unfold srcCells at hsrc ⊢
        split at hsrc
        · exact hsrc
        · exact hsrc
        · rename_i j off len cap
          cases hj : H j with
          | none => rw [hj] at hsrc; cases hsrc
          | some b => rw [hj] at hsrc; rw [hh j b hj]; exact hsrc
        · cases hsrc
      simp only [h2, hh i _ hH]
      exact h
    · cases h
  · cases h

theorem aconv_mono {H H' : Nat → Option AB} (hh : HLe H H') {src dst : TypeId} {nid : Nat} {x : AC} {u} (h : aconv P src dst H nid x = some u) : aconv P src dst H' nid x = some u := by
  unfold aconv at h ⊢
  split at h
  · exact h
  · exact h
  · split at h
    · split at h
      · rename_i hr
        rw [rowsIn_mono hh hr]; exact h
      · cases h
    · cases h

theorem alookup_mono {H H' : Nat → Option AB} (hh : HLe H H') {t : TypeId} {x ix : AV} {ok : Bool} {u} (h : alookup P t H x ix ok = some u) : alookup P t H' x ix ok = some u := by
  unfold alookup at h ⊢
  split at h
  · rename_i i hm
    cases hj : H i with
    | none => rw [hj] at h; cases h
    | some b => rw [hj] at h; rw [hh i b hj]; exact h
  · cases h
theorem amapSet_mono {H H' : Nat → Option AB} (hh : HLe H H') {t : TypeId} {m k x : AV} {u} (h : amapSet P t H m k x = some u) : amapSet P t H' m k x = some u := by
  unfold amapSet at h ⊢
  split at h
  · rename_i i hm
    cases hj : H i with
    | none => rw [hj] at h; cases h
    | some b => rw [hj] at h; rw [hh i b hj]; exact h
  · cases h

theorem aop_mono {H H' : Nat → Option AB} (hh : HLe H H') {o : Oper} {ρ : Rho} {nid : Nat} {os : List Bool} {u : Res} (h : aop P o ρ H nid os = some u) : aop P o ρ H' nid os = some u := by
  obtain ⟨dst, op, type, pos, after, guard⟩ := o
  cases op
  case load t p =>
    simp only [aop, plain] at h ⊢
    cases hp : ρ p with
    | none => rw [hp] at h; cases h
    | some v =>
      rw [hp] at h
      simp only [Option.bind_some] at h ⊢
      cases hl : aload P t H v with
      | none => rw [hl] at h; cases h
      | some r => rw [hl] at h; rw [aload_mono hh hl]; exact h
  case store t p x =>
    simp only [aop] at h ⊢
    split at h
    · rename_i pv xv h1 h2
      split at h
      · exact h
      · cases hl : astore P t H pv xv with
        | none => rw [hl] at h; cases h
        | some r => rw [hl] at h; rw [astore_mono hh hl]; exact h
    · cases h
  case convert sT dT x =>
    simp only [aop] at h ⊢
    split at h
    · rename_i c hc
      split at h
      · rename_i hb
        rw [if_pos hb]
        cases ha : aconv P sT dT H nid c with
        | none => rw [ha] at h; cases h
        | some r => rw [ha] at h; rw [aconv_mono hh ha]; exact h
      · rename_i hb
        rw [if_neg hb]; exact h
    · exact h
  case call c =>
    obtain ⟨callee, args, argTypes⟩ := c
    cases callee
    case builtin b =>
      cases b
      case append =>
        simp only [aop] at h ⊢
        split at h
        · split at h
          · rename_i hc
            simp only [hc, if_true]
            split at h
            · exact aappendW_mono hh h
            · cases h
          · cases h
        · cases h
      case copy =>
        simp only [aop] at h ⊢
        split at h
        · split at h
          · rename_i dv xv h1 h2
            cases hl : acopy P _ H dv xv with
            | none => rw [hl] at h; cases h
            | some r => rw [hl] at h; rw [acopy_mono hh hl]; exact h
          · cases h
        · cases h
      case len =>
        simp only [aop] at h ⊢
        split at h
        · rename_i x t _ _
          split at h
          · exact h
          · exact h
          · exact h
          · exact h
          · rename_i j hx
            split at h
            · rename_i m kt vt ka va l hm hj
              rw [hh j _ hj]
              simp only [hm]
              exact h
            · rename_i m kt vt ka va l ob hm hj
              rw [hh j _ hj]
              simp only [hm]
              exact h
            · cases h
          · exact h
          · exact h
        · cases h
      case clear =>
        simp only [aop] at h ⊢
        split at h
        · split at h
          · rename_i j hx
            split at h
            · rename_i m kt vt ka va hm hj
              rw [hh j _ hj]
              simp only [hm]
              exact h
            · cases h
          · rename_i row j off len mn hx
            cases hz : aclear P _ H (.bsl row j off len mn) with
            | none => rw [hz] at h; cases h
            | some r =>
              rw [hz] at h
              rw [aclear_mono hh hz]
              exact h
          · rename_i row j off len mn hx
            cases hz : aclear P _ H (.bsl row j off len mn) with
            | none => rw [hz] at h; cases h
            | some r =>
              rw [hz] at h
              rw [aclear_mono hh hz]
              exact h
          · cases h
        · cases h
      all_goals exact h
    all_goals exact h
  case range t x =>
    simp only [aop] at h ⊢
    split at h
    · rename_i j hx
      split at h
      · rename_i m kt vt ka va l hm hj
        rw [hh j _ hj]
        simp only [hm]
        exact h
      · rename_i m kt vt ka va l ob hm hj
        rw [hh j _ hj]
        simp only [hm]
        exact h
      · cases h
    · cases h
  case lookup t x i ok =>
    simp only [aop, plain] at h ⊢
    split at h
    · rename_i xv iv h1 h2
      cases hl : alookup P t H xv iv ok with
      | none => rw [hl] at h; cases h
      | some r => rw [hl] at h; rw [alookup_mono hh hl]; exact h
    · cases h
  case mapUpdate t m k x =>
    simp only [aop] at h ⊢
    split at h
    · rename_i mv kv xv h1 h2 h3
      cases hl : amapSet P t H mv kv xv with
      | none => rw [hl] at h; cases h
      | some r => rw [hl] at h; rw [amapSet_mono hh hl]; exact h
    · cases h
  case makeMap t r => cases r <;> exact h
  case binOp op t x y yt => cases op <;> exact h
  case makeFunc fn first caps => cases fn <;> exact h
  all_goals exact h

/-- The blocks that a value names. -/
def aids : AV → List Nat
  | .one (.ptr i _) => [i]
  | .one (.pti i _ _ _) => [i]
  | .one (.bsl _ i _ _ _) => [i]
  | .one (.csl i _ _ _) => [i]
  | .one (.asl _ i _ _ _) => [i]
  | .one (.ael _ i _ _) => [i]
  | .one (.sl _ _ (.own i _)) => [i]
  | .one (.mref i) => [i]
  | _ => []

def evT (T : Nat → Option AV) : Operand → Option AV
  | .tmp t => T t
  | .const v => cvv v
  | .func f => some (.one (.fn f []))
  | .global _ => none

def isIn (k : Nat) : List Nat → Bool
  | [] => false
  | x :: r => Nat.beq x k || isIn k r

theorem isIn_iff {k : Nat} : ∀ {l : List Nat}, isIn k l = true ↔ k ∈ l
  | [] => by simp [isIn]
  | x :: r => by
    simp only [isIn, Bool.or_eq_true, Nat.beq_eq, isIn_iff (l := r), List.mem_cons]
    exact ⟨fun h => h.imp Eq.symm id, fun h => h.imp Eq.symm id⟩

def only {α : Type} (l : List Nat) (T : Nat → Option α) : Nat → Option α := fun k => if isIn k l then T k else none

/-- What an operation did, in a region that draws its order: what it wrote, what it looked at, the blocks that it looked at, the pieces of blocks that it looked at, its own new block's number, the blocks that it wrote, the piece of a block that it wrote. -/
structure DRec where
  dst : Option Nat
  v : AV
  rs : List Nat
  rh : List Nat
  rp : List (Nat × Nat × Nat)
  nid : Nat
  u : List (Nat × AB)
  p : Option (Nat × Nat × List AC)

def paramsOf (P : Program) (k : Nat) : List TypeId :=
  match P.funcs[k]? with
  | some fn => fn.params.toList
  | none => []

theorem seeC_mono {H H' : Nat → Option AB} (hh : HLe H H') {c c1 : AC} (hc : seeC H c = some c1) : seeC H' c = some c1 := by
  unfold seeC at hc ⊢
  split at hc
  · rename_i i off
    cases hi : H i with
    | none => rw [hi] at hc; cases hc
    | some b => rw [hi] at hc; simp only [hh i b hi]; exact hc
  · exact hc
  · exact hc
  · exact hc
  · exact hc
  · exact hc
  · exact hc
  · exact hc
  · exact hc
  · exact hc
  · rename_i row i off len cap
    cases ha : aslRows H row i off len with
    | none => rw [ha] at hc; cases hc
    | some r => rw [ha] at hc; simp only [aslRows_mono hh ha]; exact hc
  · rename_i row i off len mn
    cases ha : aslRows H row i off len with
    | none => rw [ha] at hc; cases hc
    | some r => rw [ha] at hc; simp only [aslRows_mono hh ha]; exact hc
  · exact hc
theorem seeCs_mono {H H' : Nat → Option AB} (hh : HLe H H') : ∀ {cs cs' : List AC}, seeCs H cs = some cs' → seeCs H' cs = some cs'
  | [], cs', h => h
  | c :: l, cs', h => by
    simp only [seeCs] at h ⊢
    split at h
    · rename_i p q h1 h2
      rw [seeC_mono hh h1, seeCs_mono hh h2]
      exact h
    · cases h
theorem seeA_mono {H H' : Nat → Option AB} (hh : HLe H H') {t : Option TypeId} {c c' : AV} (h : seeA P H t c = some c') : seeA P H' t c = some c' := by
  unfold seeA at h ⊢
  split at h
  · split at h
    · split at h
      · rename_i hr
        simp only [cslRows_mono hh hr]
        exact h
      · cases h
    · cases h
  · rename_i c hne
    cases hc : seeC H c with
    | none => rw [hc] at h; cases h
    | some c1 =>
      rw [hc] at h
      rw [seeC_mono hh hc]
      exact h
  · rename_i cs
    cases hc : seeCs H cs with
    | none => rw [hc] at h; cases h
    | some c1 =>
      rw [hc] at h
      rw [seeCs_mono hh hc]
      exact h
  · exact h
  · exact h
  · exact h
  · exact h
  · exact h

theorem seeAs_mono {H H' : Nat → Option AB} (hh : HLe H H') : ∀ {ts : List TypeId} {cs cs' : List AV}, seeAs P H ts cs = some cs' → seeAs P H' ts cs = some cs'
  | ts, [], cs', h => h
  | ts, c :: l, cs', h => by
    simp only [seeAs] at h ⊢
    split at h
    · rename_i p q h1 h2
      rw [seeA_mono hh h1, seeAs_mono hh h2]
      exact h
    · cases h

/-- Contracts of functions that touch some of the caller's blocks, which they name. -/
abbrev KL := Nat → List AV → (Nat → Option AB) → List Bool → Option (AV × List (Nat × AB) × List Bool × List Bool)
/-- Calls that look at no block and make some: from the number `nid` on. -/
abbrev KN := Nat → List AV → Nat → List Bool → Option (AV × List AB × List Bool × List Bool)
def newU : Nat → List AB → List (Nat × AB)
  | _, [] => []
  | n, b :: r => (n, b) :: newU (n + 1) r
theorem newU_mem : ∀ {n : Nat} {bs : List AB} {i : Nat}, n ≤ i → i < n + bs.length → ∃ b, (i, b) ∈ newU n bs
  | n, [], i, h1, h2 => by simp at h2; omega
  | n, b :: r, i, h1, h2 => by
    by_cases e : i = n
    · subst e; exact ⟨b, List.mem_cons_self ..⟩
    · obtain ⟨c, hc⟩ := newU_mem (n := n + 1) (bs := r) (i := i) (by omega) (by simp only [List.length_cons] at h2; omega)
      exact ⟨c, List.mem_cons_of_mem _ hc⟩
structure KX where
  p : KP
  l : KL
  d : Nat → Bool
  sp : Bool := false
  n : KN := fun _ _ _ _ => none
  nf : Nat → Nat := fun _ => 0
def KLok (P : Program) (kl : KL) : Prop :=
  (∀ f args H H' os u, HLe H H' → kl f args H os = some u → kl f args H' os = some u) ∧
  ∀ f args os v u cs os' X, HRel X → kl f args X.H os = some (v, u, cs, os') → (∀ c ∈ cs, c = true) → ∀ vs, PW (VR X) args vs →
    (∃ fn, P.funcs[f]? = some fn ∧ (fn.name == "runtime.NumGoroutine") = false ∧ fn.body.isNone = false) ∧
    Calls P f vs.toArray X.w fun e w' => ∃ val X', e = .returned val ∧ X'.w = w' ∧ X.le X' ∧ HRel X' ∧ X'.H = ups X.H u ∧ VR X' v val
def KNok (P : Program) (kn : KN) : Prop :=
  ∀ f args nid os v bs cs os' X, HRel X → kn f args nid os = some (v, bs, cs, os') → (∀ c ∈ cs, c = true) → (∀ i, nid ≤ i → i < nid + bs.length → X.H i = none) → ∀ vs, PW (VR X) args vs →
    (∃ fn, P.funcs[f]? = some fn ∧ (fn.name == "runtime.NumGoroutine") = false ∧ fn.body.isNone = false) ∧
    Calls P f vs.toArray X.w fun e w' => ∃ val X', e = .returned val ∧ X'.w = w' ∧ X.le X' ∧ HRel X' ∧ X'.H = ups X.H (newU nid bs) ∧ VR X' v val
def knN : KN := fun _ _ _ _ => none
theorem knN_ok : KNok P knN := fun f args nid os v bs cs os' X hX h => by cases h
structure KXok (P : Program) (k : KX) : Prop where
  p : KPok P k.p
  l : KLok P k.l
  n : KNok P k.n
def klN : KL := fun _ _ _ _ => none
theorem klN_ok : KLok P klN := by
  refine ⟨fun f args H H' os u hh h => ?_, fun f args os v u cs os' X hX h => ?_⟩
  · cases h
  · cases h

def dval (P : Program) (kp : KX) (o : Oper) (ρ : Rho) (H : Nat → Option AB) (nid : Nat) (os : List Bool) : Option Res :=
  match o.op with
  | .pick c a b => match ρ c with
    | some (.one (.bool x)) => match br x os with
      | (t, cs, r) => match ρ (if t then a else b) with
        | some v => some (v, [], cs, r)
        | none => none
    | _ => none
  | .call { callee := .value f, .. } => match callOf ρ o with
    | some (k, args) => match kp.n k args nid os with
      | some (v, bs, cs, r) => some (v, newU nid bs, cs, r)
      | none => match kp.p k args os with
      | some (v, cs, r) => some (v, [], cs, r)
      | none => if kp.d k then kp.l k args H os else match seeAs P H (paramsOf P k) args with
        | some args' => match kp.p k args' os with
          | some (v, cs, r) => if bareA v then some (v, [], cs, r) else none
          | none => none
        | none => none
    | none => none
  | .call { callee := .builtin .append, .. } => aop P o ρ H nid os
  | _ => match aop P o ρ H nid [] with
    | some (v, u, cs, _) => some (v, u, cs, os)
    | none => none

theorem dval_mono {H H' : Nat → Option AB} (hh : HLe H H') {kp : KX} (hk : KXok P kp) {o : Oper} {ρ : Rho} {nid : Nat} {os : List Bool} {u : Res} (h : dval P kp o ρ H nid os = some u) : dval P kp o ρ H' nid os = some u := by
  unfold dval at h ⊢
  split at h
  · exact h
  · split at h
    · split at h
      · exact h
      · split at h
        · exact h
        split at h
        · rename_i hd
          rw [if_pos hd]
          exact hk.l.1 _ _ _ _ _ _ hh h
        · rename_i hd
          rw [if_neg hd]
          split at h
          · rename_i h2
            rw [seeAs_mono hh h2]
            exact h
          · cases h
    · cases h
  · exact aop_mono hh h
  · split at h
    · rename_i ha
      rw [aop_mono hh ha]
      exact h
    · cases h

theorem dval_sim {kp : KX} (hkp : KXok P kp) {X : Ctx} (hX : HRel X) {nid : Nat} (hnid : X.H nid = none) {o : Oper} {a : Act} {ρ : Rho} (hρ : RhoOk X ρ a o) {os : List Bool} {v : AV} {u : List (Nat × AB)} {cs r : List Bool}
    (h : dval P kp o ρ X.H nid os = some (v, u, cs, r)) (hcs : ∀ c ∈ cs, c = true) (hun : ∀ p ∈ u, nid ≤ p.1 → X.H p.1 = none) : OpSim P o a X v (ups X.H u) := by
  unfold dval at h
  split at h
  · rename_i c x y ho
    split at h
    · rename_i xb hx
      split at h
      rename_i t cs' r' hbr
      split at h
      · rename_i v' hv
        simp only [Option.some.injEq, Prod.mk.injEq] at h
        obtain ⟨rfl, rfl, rfl, rfl⟩ := h
        have hcv : a.eval c = .bool xb := hρ c (by rw [ho]; simp [Op.operands]) _ hx
        have hb := br_eq (b := xb) (os := os) (by rw [hbr]; exact hcs)
        rw [hbr] at hb
        simp only at hb
        subst hb
        have hval := hρ (if t then x else y) (by rw [ho]; cases t <;> simp [Op.operands]) _ hv
        have hrun : (execOp a.eval o).run P X.w = .ok (.value (if t then a.eval x else a.eval y)) X.w := by
          unfold execOp
          simp only [ho, hcv, asBool, Sem.run_bind, Sem.run_pure, Result.andThen_ok]
        exact OpSim.of_run (X' := X) hrun (.refl X) hX (by cases t <;> exact hval)
      · cases h
    · cases h
  · rename_i f cargs cty ho
    split at h
    · rename_i k args hcall
      obtain ⟨vs, hvs, hwp⟩ := callOf_wp (P := P) hρ hcall
      split at h
      · rename_i v' bs cs' r' hk
        simp only [Option.some.injEq, Prod.mk.injEq] at h
        obtain ⟨rfl, rfl, rfl, rfl⟩ := h
        obtain ⟨⟨fn, g1, g2, g3⟩, hcalls⟩ := hkp.n k args nid os v' bs cs' r' X hX hk hcs (fun i h1 h2 => by
          obtain ⟨b, hb⟩ := newU_mem h1 h2
          exact hun _ hb h1) vs hvs
        intro next Q hn
        refine hwp fn g1 g2 g3 (fun val w' => ∃ X', X'.w = w' ∧ X.le X' ∧ HRel X' ∧ X'.H = ups X.H (newU nid bs) ∧ VR X' v' val) next Q (hcalls.mono fun e w' ⟨val, X', h1, h2, h3, h4, h5, h6⟩ => ⟨val, h1, X', h2, h3, h4, h5, h6⟩) ?_
        rintro val w' ⟨X', rfl, h3, h4, h5, h6⟩
        exact hn val X' h3 h4 h5 h6
      · split at h
        · rename_i v' cs' r' hk
          simp only [Option.some.injEq, Prod.mk.injEq] at h
          obtain ⟨rfl, rfl, rfl, rfl⟩ := h
          obtain ⟨⟨fn, g1, g2, g3⟩, hcalls⟩ := hkp.p k args os v' cs' r' hk hcs X vs hX hvs
          intro next Q hn
          refine hwp fn g1 g2 g3 (fun val w' => ∃ X', X'.w = w' ∧ X.le X' ∧ HRel X' ∧ X'.H = X.H ∧ VR X' v' val) next Q (hcalls.mono fun e w' ⟨val, X', h1, h2, h3, h4, h5, h6⟩ => ⟨val, h1, X', h2, h3, h4, h5, h6⟩) ?_
          rintro val w' ⟨X', rfl, h3, h4, h5, h6⟩
          exact hn val X' h3 h4 h5 h6
        split at h
        · obtain ⟨⟨fn, g1, g2, g3⟩, hcalls⟩ := hkp.l.2 k args os v u cs r X hX h hcs vs hvs
          intro next Q hn
          refine hwp fn g1 g2 g3 (fun val w' => ∃ X', X'.w = w' ∧ X.le X' ∧ HRel X' ∧ X'.H = ups X.H u ∧ VR X' v val) next Q (hcalls.mono fun e w' ⟨val, X', h1, h2, h3, h4, h5, h6⟩ => ⟨val, h1, X', h2, h3, h4, h5, h6⟩) ?_
          rintro val w' ⟨X', rfl, h3, h4, h5, h6⟩
          exact hn val X' h3 h4 h5 h6
        · split at h
          · rename_i args' hsee
            split at h
            · rename_i v' cs' r' hk
              split at h
              · rename_i hbare
                simp only [Option.some.injEq, Prod.mk.injEq] at h
                obtain ⟨rfl, rfl, rfl, rfl⟩ := h
                obtain ⟨⟨fn, g1, g2, g3⟩, hcalls⟩ := see_call hkp.p hX hsee hk hbare hcs hvs
                intro next Q hn
                refine hwp fn g1 g2 g3 (fun val w' => ∃ X', X'.w = w' ∧ X.le X' ∧ HRel X' ∧ X'.H = X.H ∧ VR X' v' val) next Q (hcalls.mono fun e w' ⟨val, X', h1, h2, h3, h4, h5, h6⟩ => ⟨val, h1, X', h2, h3, h4, h5, h6⟩) ?_
                rintro val w' ⟨X', rfl, h3, h4, h5, h6⟩
                exact hn val X' h3 h4 h5 h6
              · cases h
            · cases h
          · cases h
    · cases h
  · exact aop_sim hX hnid hρ h hcs
  · split at h
    · rename_i v' u' cs' r' ha
      simp only [Option.some.injEq, Prod.mk.injEq] at h
      obtain ⟨rfl, rfl, rfl, rfl⟩ := h
      exact aop_sim hX hnid hρ ha hcs
    · cases h

def slotsOf (l : List Operand) : List Nat := l.filterMap fun | .tmp t => some t | _ => none

def fits (d : Option Nat) (nt : Nat) : Bool :=
  match d with
  | none => true
  | some d => Nat.blt d nt

def looksBlocks : Op → Bool
  | .convert .. => true
  | .call { callee := .builtin .append, .. } => true
  | .call { callee := .builtin .copy, .. } => true
  | .load .. => true
  | .store .. => true
  | .lookup .. => true
  | .mapUpdate .. => true
  | _ => false

/-- Blocks that any call with a pointer may look at. -/
def moreIds : List Nat := []
/-- The blocks that a call may look at. -/
def callIds : AV → List Nat
  | .one (.ptr i _) => [i, i - 1]
  | .one (.csl i _ _ _) => [i]
  | .one (.asl _ i _ _ _) => [i]
  | .one (.bsl _ i _ _ _) => [i]
  | .one (.ael _ i _ _) => [i]
  | .one (.fn _ caps) => caps.map (·.1)
  | .one (.mth _ i _) => [i]
  | .one (.mref i) => [i]
  | .agg cs => cs.flatMap fun c => match c with
    | .ptr i _ => [i]
    | .asl _ i _ _ _ => [i]
    | .bsl _ i _ _ _ => [i]
    | .csl i _ _ _ => [i]
    | .mref i => [i]
    | _ => []
  | _ => []

def isCall : Op → Bool
  | .call { callee := .value _, .. } => true
  | _ => false

def rhOf (o : Oper) (ρ : Rho) : List Nat := if isCall o.op then o.op.operands.toList.flatMap fun x => ((ρ x).map callIds).getD [] else if looksBlocks o.op then o.op.operands.toList.flatMap fun x => ((ρ x).map aids).getD [] else []

/-- Blocks that are there: a call with a pointer may look at any (where the mark is set). -/
def liveIds (H : Nat → Option AB) (nid : Nat) : List Nat := if moreIds.isEmpty then [] else (List.range nid).filter fun i => (H i).isSome
def rhX (o : Oper) (ρ : Rho) (H : Nat → Option AB) (nid : Nat) : List Nat := rhOf o ρ ++ (if isCall o.op && (o.op.operands.toList.any fun x => match ρ x with
  | some (.one (.ptr _ _)) => true
  | _ => false) then liveIds H nid else [])
def recGen (P : Program) (kp : KX) (o : Oper) (ss : List Nat) (T : Nat → Option AV) (H : Nat → Option AB) (nid : Nat) (os : List Bool) : Option (DRec × List Bool × List Bool) :=
  match dval P kp o (evT (only ss T)) (only (rhX o (evT (only ss T)) H nid) H) nid os with
  | some (v, u, cs, r) => if u.all (fun p => Nat.blt p.1 nid || (H p.1).isNone) then some ({ dst := o.dst, v, rs := ss, rh := rhX o (evT (only ss T)) H nid, rp := [], nid, u, p := none }, cs, r) else none
  | none => none

def recOf (P : Program) (kp : KX) (o : Oper) (ss : List Nat) (T : Nat → Option AV) (H : Nat → Option AB) (nid : Nat) (os : List Bool) : Option (DRec × List Bool × List Bool) :=
  match o.op with
  | .load t a => match evT (only ss T) a with
    | some (.one (.ptr i off)) => match ty P t, aload P t H (.one (.ptr i off)) with
      | some (_, n), some v => some ({ dst := o.dst, v, rs := ss, rh := [], rp := [(i, off, n)], nid, u := [], p := none }, [], os)
      | _, _ => none
    | _ => recGen P kp o ss T H nid os
  | .store t a x => match evT (only ss T) a, evT (only ss T) x with
    | some (.one (.ptr i off)), some xv => match ty P t, xv.cs, H i with
      | some (_, n), some vs, some (.cells cs) => if vs.length == n && Nat.ble (off + n) cs.length then
          some ({ dst := o.dst, v := .one .unk, rs := ss, rh := [], rp := [(i, 0, 0)], nid, u := [], p := some (i, off, vs) }, [], os)
        else none
      | _, _, _ => none
    | _, _ => recGen P kp o ss T H nid os
  | _ => recGen P kp o ss T H nid os

/-- A row of an operation that is looked at ahead of its test. -/
def specRow (P : Program) (kp : KX) (o : Oper) (s : Nat) (want : Bool) (T : Nat → Option AV) (nid : Nat) : Option (DRec × List Bool) :=
  match guardV (T s) want with
  | some g => match specV P kp.p o g (evT (only (s :: slotsOf o.op.operands.toList) T)) (fun _ => none) nid with
    | some (ga, c, cs) => if c.all bareC then some ({ dst := o.dst, v := .gd g ga c, rs := s :: slotsOf o.op.operands.toList, rh := [], rp := [], nid, u := [], p := none }, cs) else none
    | none => none
  | none => none
/-- A row of a pick without a choice. -/
def pickRow (o : Oper) (T : Nat → Option AV) (nid : Nat) : Option (DRec × List Bool) :=
  match o.op with
  | .pick c a b => match pickS (evT (only (slotsOf o.op.operands.toList) T)) c a b with
    | some (r, k) => some ({ dst := o.dst, v := .one r, rs := slotsOf o.op.operands.toList, rh := [], rp := [], nid, u := [], p := none }, k)
    | none => none
  | _ => none

theorem specV_mono {H H' : Nat → Option AB} (hh : HLe H H') {kp : KP} {o : Oper} {g : Bool} {ρ : Rho} {nid : Nat} {u : Bool × List AC × List Bool} (h : specV P kp o g ρ H nid = some u) : specV P kp o g ρ H' nid = some u := by
  unfold specV at h ⊢
  split at h
  · exact h
  · exact h
  · split at h
    · rename_i haop
      rw [aop_mono hh haop]
      exact h
    · cases h

/-- An operation's row, at what is known of slots and blocks; what is taken for granted; the choices left. -/
def drec (P : Program) (kp : KX) (ops : Array Oper) (o : Oper) (nt : Nat) (T : Nat → Option AV) (H : Nat → Option AB) (nid : Nat) (os : List Bool) : Option (DRec × List Bool × List Bool) :=
  if fits o.dst nt then
    match o.guard with
    | none => match (if kp.sp then pickRow o T nid else none) with
      | some (d, k) => some (d, k, os)
      | none => recOf P kp o (slotsOf o.op.operands.toList) T H nid os
    | some (j, want) => match (ops[j]?).bind (·.dst) with
      | none => none
      | some s => match (if kp.sp then specRow P kp o s want T nid else none) with
        | some (d, k) => some (d, k, os)
        | none => match T s with
        | some (.one (.bool b)) => match br b os with
          | (t, cs, r) => if t == want then
              match recOf P kp o (s :: slotsOf o.op.operands.toList) T H nid r with
              | some (d, cs', r') => some (d, cs' ++ cs, r')
              | none => none
            else some ({ dst := o.dst, v := .tup [], rs := s :: slotsOf o.op.operands.toList, rh := [], rp := [], nid, u := [], p := none }, cs, r)
        | some (.tup []) => some ({ dst := o.dst, v := .tup [], rs := s :: slotsOf o.op.operands.toList, rh := [], rp := [], nid, u := [], p := none }, [], os)
        | _ => none
  else none

def DRec.writes (r : DRec) (s : Nat) : Bool :=
  match r.dst with
  | none => false
  | some d => Nat.beq d s

def DRec.keys (r : DRec) : List Nat := r.nid :: r.u.map (·.1)

/-- What slots and blocks hold once some of the operations are done (the rows: the last first). -/
def slotAt (T0 : Nat → Option AV) (S : Nat → Bool) : List DRec → Nat → Option AV
  | [], s => T0 s
  | r :: L, s => if r.writes s && S L.length then some r.v else slotAt T0 S L s

/-- A block whose cells are written from one on. -/
def patchC (lo : Nat) (vs : List AC) : Option AB → Option AB
  | some (.cells cs) => if lo + vs.length ≤ cs.length then some (.cells (cs.take lo ++ (vs ++ cs.drop (lo + vs.length)))) else some (.cells cs)
  | h => h

def findU (x : Nat) : List (Nat × AB) → Option AB
  | [] => none
  | p :: r => match findU x r with
    | some b => some b
    | none => if Nat.beq p.1 x then some p.2 else none

/-- What an operation leaves of a block. -/
def DRec.at (r : DRec) (x : Nat) (h : Option AB) : Option AB :=
  match findU x r.u with
  | some b => some b
  | none => match r.p with
    | some (k, lo, vs) => if Nat.beq k x then patchC lo vs h else h
    | none => h

def heapAt (H0 : Nat → Option AB) (S : Nat → Bool) : List DRec → Nat → Option AB
  | [], x => H0 x
  | r :: L, x => if S L.length then r.at x (heapAt H0 S L x) else heapAt H0 S L x

def all : Nat → Bool := fun _ => true

/-- All blocks that an operation has to do with. -/
def DRec.ids (r : DRec) : List Nat := r.rh ++ (r.keys ++ (r.rp.map (·.1) ++ (match r.p with | some (k, _, _) => [k] | none => [])))

/-- Is a piece of a block looked at, or written? -/
def DRec.touches (r : DRec) (k lo n : Nat) : Bool :=
  isIn k r.rh || r.rp.any (fun q => Nat.beq q.1 k && (Nat.blt lo (q.2.1 + q.2.2) && Nat.blt q.2.1 (lo + n))) ||
  (match r.p with
   | some (k', lo', vs) => Nat.beq k' k && (Nat.blt lo (lo' + vs.length) && Nat.blt lo' (lo + n))
   | none => false)

/-- Do two operations meet? -/
def DRec.meets (r r' : DRec) : Bool :=
  (match r.dst with
   | none => false
   | some d => r'.writes d || isIn d r'.rs) ||
  (match r'.dst with
   | none => false
   | some d => isIn d r.rs) ||
  r.keys.any (fun k => isIn k r'.ids) || r'.keys.any (fun k => isIn k r.ids) ||
  (match r.p with
   | some (k, lo, vs) => r'.touches k lo vs.length
   | none => false) ||
  (match r'.p with
   | some (k, lo, vs) => r.touches k lo vs.length
   | none => false)

end
end Go.Eng
