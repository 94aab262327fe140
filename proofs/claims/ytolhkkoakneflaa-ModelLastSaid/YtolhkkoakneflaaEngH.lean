import Derived.Test.YtolhkkoakneflaaEngG
set_option linter.unusedVariables false
namespace Go.Eng
open Go Go.RowKit
variable {P : Program}

/-- Where the fields of a struct lie, and how many cells each has. -/
def placesOf (P : Program) : List Field → Option (List (Nat × Nat))
  | [] => some []
  | f :: fs => match P.info? f.type, placesOf P fs with
    | some i, some r => some ((f.offset, i.size) :: r)
    | _, _ => none

theorem placesOf_run : ∀ (fs : List Field) (l : List (Nat × Nat)), placesOf P fs = some l → ∀ w, (fs.mapM fun f => do pure (f.offset, ← sizeOf f.type) : Sem (List (Nat × Nat))).run P w = .ok l w
  | [], l, h, w => by simp only [placesOf, Option.some.injEq] at h; subst h; simp
  | f :: fs, l, h, w => by
    simp only [placesOf] at h
    split at h
    · rename_i i r hi hr
      injection h with h; subst h
      have ih := placesOf_run fs r hr w
      simp only [List.mapM_cons, Sem.run_bind, run_size hi, Result.andThen_ok, Sem.run_pure, ih]
    · cases h

def abuild (P : Program) (t : TypeId) (parts : List (Nat × List AC)) : Option AV :=
  match azero P t, P.underlying t with
  | some zs, some (.struct fs) => match placesOf P fs.toList with
    | some l => (afill (fun i => l[i]?) zs parts).map .agg
    | none => none
  | some zs, some (.array _ e) => match P.info? e with
    | some i => (afill (fun k => some (k * i.size, i.size)) zs parts).map .agg
    | none => none
  | _, _ => none

/-- Parts and the values that they are of. -/
def PartsRel (X : Ctx) (parts : List (Nat × List AC)) (vals : List (Nat × Value)) : Prop :=
  PW (fun (p : Nat × List AC) (q : Nat × Value) => p.1 = q.1 ∧ PW (VRc X) p.2 q.2.cells.toList) parts vals

theorem abuild_ok {X : Ctx} {t : TypeId} {parts : List (Nat × List AC)} {vals : Array (Nat × Value)} {v : AV} (hp : PartsRel X parts vals.toList) (h : abuild P t parts = some v) (w : World) :
    ∃ val, (Instr.build t vals).run P w = .ok val w ∧ VR X v val := by
  unfold abuild at h
  split at h
  · rename_i zs fs hz hu
    obtain ⟨z, hzr, hzp⟩ := azero_rel (X := X) hz
    split at h
    · rename_i l hl
      cases hf : afill (fun i => l[i]?) zs parts with
      | none => rw [hf] at h; cases h
      | some out =>
        rw [hf] at h
        simp only [Option.map_some, Option.some.injEq] at h
        subst h
        obtain ⟨ov, g1, g2⟩ := afill_ok parts vals.toList zs z.cells out hp hzp hf
        refine ⟨.agg ov, ?_, ov, rfl, g2⟩
        have hm := placesOf_run fs.toList l hl w
        simp only [Instr.build, Sem.run_bind, hzr, Result.andThen_ok, run_underlying hu, Array.mapM_eq_mapM_toList, Sem.run_map] at hm ⊢
        simp only [hm, Result.andThen_ok]
        have e1 : (fun (i : Nat) => (l.toArray)[i]?) = fun (i : Nat) => l[i]? := by funext i; simp
        rw [e1, g1]
        rfl
    · cases h
  · rename_i zs n e hz hu
    obtain ⟨z, hzr, hzp⟩ := azero_rel (X := X) hz
    split at h
    · rename_i i hi
      cases hf : afill (fun k => some (k * i.size, i.size)) zs parts with
      | none => rw [hf] at h; cases h
      | some out =>
        rw [hf] at h
        simp only [Option.map_some, Option.some.injEq] at h
        subst h
        obtain ⟨ov, g1, g2⟩ := afill_ok parts vals.toList zs z.cells out hp hzp hf
        refine ⟨.agg ov, ?_, ov, rfl, g2⟩
        simp only [Instr.build, Sem.run_bind, hzr, Result.andThen_ok, run_underlying hu, run_size hi, g1]
        rfl
    · cases h
  · cases h

/-! ### A slice written out -/

/-- Cells, as so many rows' values. -/
def CT.uns (t : CT) : Nat → List AC → Option (List t.den × List AC)
  | 0, cs => some ([], cs)
  | n + 1, cs => match t.un cs with
    | some (x, r) => match CT.uns t n r with
      | some (l, r') => some (x :: l, r')
      | none => none
    | none => none

theorem CT.uns_rel {X : Ctx} (t : CT) : ∀ (n : Nat) (cs : List AC) (l : List t.den) (r : List AC) (vs : List Value), t.uns n cs = some (l, r) → PW (VRc X) cs vs →
    l.length = n ∧ cs.length = n * t.width + r.length ∧ ∀ (j : Nat) x, l[j]? = some x → RelT t x (fun k y => vs[j * t.width + k]? = some y) X.IC
  | 0, cs, l, r, vs, h, hp => by
    simp only [CT.uns, Option.some.injEq, Prod.mk.injEq] at h
    obtain ⟨rfl, rfl⟩ := h
    exact ⟨rfl, by simp, fun j x hj => by simp at hj⟩
  | n + 1, cs, l, r, vs, h, hp => by
    simp only [CT.uns] at h
    split at h
    · rename_i x r1 h1
      split at h
      · rename_i l2 r2 h2
        simp only [Option.some.injEq, Prod.mk.injEq] at h
        obtain ⟨rfl, rfl⟩ := h
        obtain ⟨a1, a2, a3⟩ := CT.un_rel t cs x r1 vs h1 hp
        obtain ⟨b1, b2, b3⟩ := CT.uns_rel t n r1 l2 r2 _ h2 a2
        refine ⟨by simp [b1], by rw [a1, b2, Nat.add_mul]; omega, fun j y hj => ?_⟩
        cases j with
        | zero =>
          simp only [List.getElem?_cons_zero, Option.some.injEq] at hj
          subst hj
          simpa using a3
        | succ j =>
          simp only [List.getElem?_cons_succ] at hj
          refine RelT.mono t y (fun k z hz => ?_) (fun _ _ hh => hh) (b3 j y hj)
          rw [List.getElem?_drop] at hz
          rw [Nat.add_mul, Nat.one_mul]
          rwa [show j * t.width + t.width + k = t.width + (j * t.width + k) from by omega]
      · cases h
    · cases h

/-- The zero cells of n elements. -/
def zrep (zs : List AC) : Nat → List AC
  | 0 => []
  | n + 1 => zs ++ zrep zs n

theorem zrep_get (zs : List AC) : ∀ (n k : Nat), k < n * zs.length → (zrep zs n)[k]? = zs[k % zs.length]?
  | 0, k, h => by omega
  | n + 1, k, h => by
    rw [zrep]
    by_cases e : k < zs.length
    · rw [List.getElem?_append_left e, Nat.mod_eq_of_lt e]
    · rw [List.getElem?_append_right (by omega), zrep_get zs n _ (by rw [Nat.add_mul] at h; omega)]
      congr 1
      rw [← Nat.mod_eq_sub_mod (by omega)]

theorem zrep_len (zs : List AC) : ∀ n, (zrep zs n).length = n * zs.length
  | 0 => by simp [zrep]
  | n + 1 => by rw [zrep, List.length_append, zrep_len zs n, Nat.add_mul]; omega

/-- A row's type that a type's cells are of; none of this is asked to be so but for the width. -/
def rowOf (P : Program) : Nat → TypeId → Option CT
  | 0, _ => none
  | d + 1, t => match P.underlying t with
    | some (.int k) => some (.int k)
    | some .bool => some .bool
    | some .string => some .str
    | some (.slice e) => (rowOf P d e).map .sl
    | some (.struct fs) => fs.toList.foldr (fun f r => match rowOf P d f.type, r with | some a, some b => some (.pair a b) | _, _ => none) (some .unit)
    | some (.array n e) => (List.range n).foldr (fun _ r => match rowOf P d e, r with | some a, some b => some (.pair a b) | _, _ => none) (some .unit)
    | _ => none

def abuildSlice (P : Program) (t : TypeId) (len : Nat) (parts : List (Nat × List AC)) : Option AV :=
  match P.underlying t with
  | some (.slice e) => match P.info? e, azero P e, rowOf P 12 e with
    | some i, some zs, some row =>
      if Nat.beq row.width i.size && Nat.beq zs.length i.size && Nat.blt 0 i.size && Nat.ble (len * i.size) 16777216 then
        match afill (fun k => some (k * i.size, i.size)) (zrep zs len) parts with
        | some cs => match row.uns len cs with
          | some (l, []) => some (.one (.sl row l .full))
          | _ => none
        | none => none
      else none
    | _, _, _ => none
  | _ => none

/-- New memory of whatever make, of which the engine keeps no block. -/
theorem quiet_alloc {X : Ctx} (hX : HRel X) (o : Obj) : X.le (X.withW (X.w.alloc o)) ∧ HRel (X.withW (X.w.alloc o)) := by
  have hb : Below X.w.heap.size X.w (X.w.alloc o) := (Below.refl _ _).alloc (Nat.le_refl _) o
  exact ⟨withW_le hX hb, hX.withW hb⟩

/-- The cells of a block that is new, and no own one, are promised. -/
theorem IC_new {X : Ctx} (hX : HRel X) (c : Array Value) (t : TypeId) (j : Nat) (y : Value) (h : c[j]? = some y) : (X.withW (X.w.alloc (.cells c t))).IC ⟨X.w.heap.size, j, none⟩ y := by
  refine ⟨.inl hX.size, rfl, ?_, ?_, ?_⟩
  · show (X.w.alloc (.cells c t)).cell? ⟨X.w.heap.size, j, none⟩ = some y
    rw [cell_of_row _ _ _ c t (0, 0) (heap_alloc_new X.w _)]
    exact h
  · intro i b hi hb
    exact Nat.ne_of_lt (hX.lt i b hi hb)
  · intro e he
    exact absurd (hX.frlt _ e he) (Nat.lt_irrefl _)

theorem abuildSlice_ok {X : Ctx} (hX : HRel X) {t : TypeId} {len : Nat} {parts : List (Nat × List AC)} {vals : Array (Nat × Value)} {v : AV} (hp : PartsRel X parts vals.toList)
    (h : abuildSlice P t len parts = some v) :
    ∃ val o, (Instr.buildSlice t len vals).run P X.w = .ok val (X.w.alloc o) ∧ VR (X.withW (X.w.alloc o)) v val := by
  unfold abuildSlice at h
  split at h
  · rename_i e hu
    split at h
    · rename_i i zs row hi hz hrow
      split at h
      · rename_i hcond
        simp only [Bool.and_eq_true, Nat.beq_eq, Nat.blt_eq, Nat.ble_eq] at hcond
        obtain ⟨⟨⟨hw, hzl⟩, hpos⟩, hsz⟩ := hcond
        split at h
        · rename_i cs hf
          split at h
          · rename_i l hl
            injection h with h; subst h
            obtain ⟨z, hzr, hzp⟩ := azero_rel (X := X) hz
            have hzs : z.cells.size = i.size := by rw [← Array.length_toList, ← hzp.1]; exact hzl
            have hzero : PW (VRc X) (zrep zs len) ((Array.range (len * i.size)).map (z.cells[· % z.cells.size]!)).toList := by
              refine ⟨by rw [zrep_len, hzl]; simp, fun j c y hc hy => ?_⟩
              have hj : j < len * zs.length := by
                have := (List.getElem?_eq_some_iff.1 hc).1
                rwa [zrep_len] at this
              rw [zrep_get zs len j hj] at hc
              have hj' : j < len * i.size := by rw [← hzl]; exact hj
              have hm : j % i.size < z.cells.size := by rw [hzs]; exact Nat.mod_lt _ hpos
              simp only [Array.toList_map, Array.toList_range, List.getElem?_map, List.getElem?_range hj', Option.map_some, Option.some.injEq, hzs] at hy
              subst hy
              rw [hzl] at hc
              refine hzp.2 (j % i.size) c _ hc ?_
              rw [Array.getElem?_toList, getElem!_pos z.cells _ hm, Array.getElem?_eq_getElem hm]
            obtain ⟨ov, g1, g2⟩ := afill_ok parts vals.toList (zrep zs len) _ cs hp hzero hf
            obtain ⟨u1, u2, u3⟩ := CT.uns_rel row len cs l [] ov.toList hl g2
            refine ⟨.slice (some ⟨X.w.heap.size, 0, none⟩) len len, .cells ov e, ?_, some ⟨X.w.heap.size, 0, none⟩, len, len, rfl, u1.symm, Nat.le_refl _, ?_, .inr ⟨X.w.heap.size, 0, rfl, fun j x hj => ?_⟩, rfl⟩
            · have hnz : len * i.size = 0 ∨ len * i.size ≠ 0 := by omega
              simp only [Instr.buildSlice, Sem.run_bind, run_underlying hu, Result.andThen_ok, run_size hi]
              rw [if_neg (by omega)]
              rcases hnz with hz0 | hz0
              · have hl0 : len = 0 := by
                  rcases Nat.mul_eq_zero.1 hz0 with h | h
                  · exact h
                  · omega
                subst hl0
                rw [if_pos hz0]
                simp only [Sem.run_bind, Sem.run_pure, Result.andThen_ok]
                have e0 : ((Array.range (0 * i.size)).map (fun x => (#[] : Array Value)[x % (#[] : Array Value).size]!)) = ((Array.range (0 * i.size)).map (z.cells[· % z.cells.size]!)) := by simp
                rw [e0, g1]
                simp only [Sem.run_bind, newRow, run_newObj, Result.andThen_ok, Sem.run_pure, World.alloc_eq]
              · rw [if_neg hz0]
                simp only [Sem.run_bind, hzr, Result.andThen_ok, Sem.run_pure]
                rw [g1]
                simp only [Sem.run_bind, newRow, run_newObj, Result.andThen_ok, Sem.run_pure, World.alloc_eq]
            · have : len ≤ len * i.size := Nat.le_mul_of_pos_right _ hpos
              simp only [maxLen]; omega
            · refine RelT.mono row x (fun k y hy => ?_) (quiet_alloc hX (.cells ov e)).1.ic (u3 j x hj)
              rw [Nat.zero_add]
              exact IC_new hX ov e _ y (by simpa using hy)
          · cases h
        · cases h
      · cases h
    · cases h
  · cases h
end Go.Eng
