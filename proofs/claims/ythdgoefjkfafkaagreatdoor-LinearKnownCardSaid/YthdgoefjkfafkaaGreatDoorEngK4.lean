import Derived.Laws.MakeOwn
import Derived.Lib.ConvBytes
import Derived.Laws.BytesArg
import Derived.MapKept
import Derived.Test.YthdgoefjkfafkaaGreatDoorEngK
set_option linter.unusedVariables false
namespace Go.Eng
section
open Go Go.RowKit
variable {P : Program}

/-- The zero of a type of rows. -/
def zrow (P : Program) (e : TypeId) (zs : List AC) : Option ((row : CT) × row.den) :=
  match P.info? e, rowOf P 12 e with
  | some i, some row => if Nat.beq row.width i.size && Nat.blt 0 i.size then match row.un zs with
      | some (z, []) => some ⟨row, z⟩
      | _ => none
    else none
  | _, _ => none

/-- make of a slice. -/
def amake (P : Program) (t : TypeId) (nid : Nat) (l c : AV) : Option (AV × List (Nat × AB) × List Bool) :=
  match l, c with
  | .one (.int _ l), .one (.int _ c) => match P.underlying t with
    | some (.slice e) => match P.info? e, azero P e with
      | some i, some zs => if Nat.beq zs.length i.size then
          match zrow P e zs with
          | some ⟨row, z⟩ => some (.one (.asl row nid 0 l.toNat c.toNat), [(nid, .arr row (List.replicate c.toNat z))], [decide (0 ≤ l ∧ l ≤ c ∧ (i.bytes : Int) * c ≤ 281474976710656 ∧ c ≤ 9223372036854775807)])
          | none => some (.one (.csl nid 0 l.toNat c.toNat), [(nid, .cells (zrep zs c.toNat))], [decide (0 ≤ l ∧ l ≤ c ∧ (i.bytes : Int) * c ≤ 281474976710656 ∧ c ≤ 9223372036854775807)])
        else none
      | _, _ => none
    | _ => none
  | _, _ => none

theorem amake_ok {X : Ctx} (hX : HRel X) {t : TypeId} {nid : Nat} (hnid : X.H nid = none) {l c v : AV} {u : List (Nat × AB)} {cs : List Bool} {lv cv : Value} (hl : VR X l lv) (hc : VR X c cv)
    (h : amake P t nid l c = some (v, u, cs)) (hcs : ∀ c ∈ cs, c = true) :
    ∃ val X', (Instr.makeSlice t lv cv).run P X.w = .ok val X'.w ∧ X.le X' ∧ HRel X' ∧ X'.H = u.foldl (fun H p => upd H p.1 (some p.2)) X.H ∧ VR X' v val := by
  unfold amake at h
  split at h
  · rename_i kl l kc c
    split at h
    · rename_i e hu
      split at h
      · rename_i i zs hi hz
        split at h
        · rename_i hzl
          simp only [Nat.beq_eq] at hzl
          cases hl
          cases hc
          obtain ⟨z, hzi, hzp⟩ := azero_info (X := X) hz hi
          have hzs : z.cells.size = i.size := by rw [← Array.length_toList, ← hzp.1]; exact hzl
          split at h
          · rename_i row z0 hzr
            simp only [Option.some.injEq, Prod.mk.injEq] at h
            obtain ⟨rfl, rfl, rfl⟩ := h
            have hb := hcs _ (List.mem_cons_self ..)
            simp only [decide_eq_true_eq] at hb
            have hrun := run_make (P := P) X.w t e i z hu hi hzi kl kc l c hb.1 hb.2.1 hb.2.2.1 hb.2.2.2
            unfold zrow at hzr
            rw [hi] at hzr
            split at hzr
            · rename_i i' row' hi' hrow'
              injection hi' with hi'; subst hi'
              split at hzr
              · rename_i hwid
                simp only [Bool.and_eq_true, Nat.beq_eq, Nat.blt_eq] at hwid
                split at hzr
                · rename_i z' hun
                  simp only [Option.some.injEq, Sigma.mk.injEq] at hzr
                  obtain ⟨rfl, hzz⟩ := hzr
                  have hzz := eq_of_heq hzz
                  subst hzz
                  obtain ⟨_, _, hrel⟩ := CT.un_rel (X := X) row' zs z' [] z.cells.toList hun hzp
                  have hle := push_le hX hnid (.arr row' (List.replicate c.toNat z')) rfl (.cells (madeCells z.cells (c.toNat * i.size)) e)
                  refine ⟨_, X.push nid (.arr row' (List.replicate c.toNat z')) (.cells (madeCells z.cells (c.toNat * i.size)) e), hrun, hle, HRel.push hX hnid _ rfl _ ?_, rfl, ⟨List.replicate c.toNat z', .inl (by simp only [Ctx.push, upd_same]), by simp only [Ctx.push, upd_same, Nat.zero_mul], by omega, by simp only [maxLen]; omega, by simp⟩⟩
                  refine ⟨madeCells z.cells (c.toNat * i.size), (e, (0, 0)), by simp only [Ctx.push, upd_same]; exact heap_alloc_new X.w _, ⟨by rw [size_madeCells, List.length_replicate, hwid.1]; exact Nat.le_refl _, fun o _ => by simp, by simp only [Ctx.push, upd_same]; rfl⟩, fun j x hj => ?_⟩
                  have hjc : j < c.toNat := by have := (List.getElem?_eq_some_iff.1 hj).1; simpa using this
                  have hx : x = z' := by
                    rw [List.getElem?_replicate, if_pos hjc] at hj
                    injection hj with hj; exact hj.symm
                  subst hx
                  refine RelT.mono_lt0 row' x (fun k y hk hy => ?_) (fun a y h => hle.ic a y h) hrel
                  have h1 : (j + 1) * row'.width ≤ c.toNat * row'.width := Nat.mul_le_mul_right _ hjc
                  rw [Nat.add_mul] at h1
                  have hlt : j * row'.width + k < c.toNat * i.size := by rw [← hwid.1]; omega
                  have hmod : (j * row'.width + k) % z.cells.size = k := by
                    rw [hzs, ← hwid.1, Nat.add_comm, Nat.add_mul_mod_self_right, Nat.mod_eq_of_lt hk]
                  have hkz : k < z.cells.size := by rw [hzs, ← hwid.1]; exact hk
                  have e1 : (madeCells z.cells (c.toNat * i.size))[j * row'.width + k]? = some (z.cells[(j * row'.width + k) % z.cells.size]!) := by
                    simp [madeCells, hlt]
                  rw [e1, hmod, getElem!_pos z.cells _ hkz]
                  rw [Array.getElem?_toList, getElem?_pos z.cells _ hkz] at hy
                  exact hy
                · cases hzr
              · cases hzr
            · cases hzr
          · rename_i hzr
            simp only [Option.some.injEq, Prod.mk.injEq] at h
            obtain ⟨rfl, rfl, rfl⟩ := h
            have hb := hcs _ (List.mem_cons_self ..)
            simp only [decide_eq_true_eq] at hb
            have hrun := run_make (P := P) X.w t e i z hu hi hzi kl kc l c hb.1 hb.2.1 hb.2.2.1 hb.2.2.2
            have hpw : PW (VRc X) (zrep zs c.toNat) (madeCells z.cells (c.toNat * i.size)).toList := by
              refine ⟨by rw [zrep_len, hzl]; simp [size_madeCells], fun j a y ha hy => ?_⟩
              have hj : j < c.toNat * i.size := by
                have := (List.getElem?_eq_some_iff.1 hy).1
                rwa [Array.length_toList, size_madeCells] at this
              rw [zrep_get zs _ _ (by rw [hzl]; exact hj)] at ha
              have hpos : 0 < i.size := by
                rcases Nat.eq_zero_or_pos i.size with h0 | h0
                · rw [h0, Nat.mul_zero] at hj; omega
                · exact h0
              have hm : j % zs.length < z.cells.size := by rw [hzs, hzl]; exact Nat.mod_lt _ hpos
              refine hzp.2 (j % zs.length) a y ha ?_
              rw [Array.getElem?_toList] at hy ⊢
              have hy' : (madeCells z.cells (c.toNat * i.size))[j]? = some (z.cells[j % z.cells.size]!) := by
                simp [madeCells, hj]
              rw [hy'] at hy
              rw [hzl, ← hzs] at hm ⊢
              rw [getElem?_pos z.cells _ hm, ← hy, getElem!_pos z.cells _ hm]
            obtain ⟨h1, h2, _⟩ := alloc_ok hX hnid hpw e
            refine ⟨_, X.push nid (.cells (zrep zs c.toNat)) (.cells (madeCells z.cells (c.toNat * i.size)) e), hrun, h1, h2, rfl, ⟨⟨_, by simp only [Ctx.push, upd_same]; rfl, rfl⟩, by simp only [Ctx.push, upd_same], by omega, by simp only [maxLen]; omega⟩⟩
        · cases h
      · cases h
    · cases h
  · cases h

/-- make of a slice without elements, that is appended to. -/
def amake0 (P : Program) (t : TypeId) (nid : Nat) (c : AV) : Option (AV × List (Nat × AB) × List Bool) :=
  match c with
  | .one (.int _ c) => match P.underlying t with
    | some (.slice e) => match P.info? e, azero P e with
      | some i, some zs => if Nat.beq zs.length i.size then
          match zrow P e zs with
          | some ⟨row, z⟩ => some (.one (.sl row [] (.own nid 0)), [(nid, .tok e 0)], [decide ((0 : Int) ≤ 0 ∧ 0 ≤ c ∧ (i.bytes : Int) * c ≤ 281474976710656 ∧ c ≤ 9223372036854775807)])
          | none => none
        else none
      | _, _ => none
    | _ => none
  | _ => none
theorem amake0_ok {X : Ctx} (hX : HRel X) {t : TypeId} {nid : Nat} (hnid : X.H nid = none) {kl : IntKind} {c v : AV} {u : List (Nat × AB)} {cs : List Bool} {cv : Value} (hc : VR X c cv)
    (h : amake0 P t nid c = some (v, u, cs)) (hcs : ∀ c ∈ cs, c = true) :
    ∃ val X', (Instr.makeSlice t (.int kl 0) cv).run P X.w = .ok val X'.w ∧ X.le X' ∧ HRel X' ∧ X'.H = u.foldl (fun H p => upd H p.1 (some p.2)) X.H ∧ VR X' v val := by
  unfold amake0 at h
  split at h
  · rename_i kc c
    split at h
    · rename_i e hu
      split at h
      · rename_i i zs hi hz
        split at h
        · rename_i hzl
          simp only [Nat.beq_eq] at hzl
          cases hc
          obtain ⟨z, hzi, hzp⟩ := azero_info (X := X) hz hi
          have hzs : z.cells.size = i.size := by rw [← Array.length_toList, ← hzp.1]; exact hzl
          split at h
          · rename_i row z0 hzr
            simp only [Option.some.injEq, Prod.mk.injEq] at h
            obtain ⟨rfl, rfl, rfl⟩ := h
            have hb := hcs _ (List.mem_cons_self ..)
            simp only [decide_eq_true_eq] at hb
            have hrun := run_make (P := P) X.w t e i z hu hi hzi kl kc 0 c hb.1 hb.2.1 hb.2.2.1 hb.2.2.2
            have hwid : row.width = i.size := by
              unfold zrow at hzr
              rw [hi] at hzr
              split at hzr
              · rename_i i' row' hi' hrow'
                injection hi' with hi'; subst hi'
                split at hzr
                · rename_i hw
                  simp only [Bool.and_eq_true, Nat.beq_eq, Nat.blt_eq] at hw
                  split at hzr
                  · simp only [Option.some.injEq, Sigma.mk.injEq] at hzr
                    obtain ⟨rfl, _⟩ := hzr
                    exact hw.1
                  · cases hzr
                · cases hzr
              · cases hzr
            have hs : TokStep X nid X.w.heap.size (0 * row.width) e 0 (X.w.alloc (.cells (madeCells z.cells (c.toNat * i.size)) e)) := by
              refine ⟨rfl, rfl, rfl, ?_, fun k hk _ => Below.heap_alloc X.w _ k hk, .inl rfl, ?_, .inl hnid, fun q hq => absurd (hX.frlt _ q hq) (Nat.lt_irrefl _), Nat.le_refl _⟩
              · rw [World.size_alloc]; omega
              · rw [World.size_alloc]; omega
            have hfr : X.w.heap.size < X.w.heap.size → ∃ q, X.fr X.w.heap.size = some q := fun h => absurd h (Nat.lt_irrefl _)
            refine ⟨_, X.tok nid X.w.heap.size (0 * row.width) e 0 _, hrun, tok_le hX hs hfr, hX.tok hs hfr, rfl, ?_⟩
            exact tok_value (l := ([] : List row.den)) (vs := []) (n := 0) hX hs hfr (heap_alloc_new X.w _) (.inl rfl) rfl (Nat.zero_le _) (by simp only [maxLen]; omega) (by rw [size_madeCells, hwid]) (by simp) ⟨by simp, fun j x hj => by simp at hj⟩
          · cases h
        · cases h
      · cases h
    · cases h
  · cases h

/-- What is to be copied: how many elements there are, and the first so many's cells. -/
def srcLen : AC → Option Nat
  | .nils => some 0
  | .sl _ l _ => some l.length
  | .csl _ _ len _ => some len
  | _ => none

def srcCells (H : Nat → Option AB) (s : Nat) (n : Nat) : AC → Option (List AC)
  | .nils => some []
  | .sl row l _ => if Nat.beq row.width s then some ((l.take n).flatMap row.cells) else none
  | .csl j off len _ => match H j with
    | some (.cells cs) => if ((cs.drop off).take (n * s)).all AC.known then some ((cs.drop off).take (n * s)) else none
    | _ => none
  | _ => none

/-- What is to be copied, as rows. -/
def srcRows (H : Nat → Option AB) (row : CT) : AC → Option (List row.den)
  | .nils => some []
  | .sl row' l _ => if h : row'.eqb row = true then some (castL row' row h l) else none
  | .asl row' j off len _ => if row'.eqb row then aslRows H row j off len else none
  | .bsl row' j off len _ => if row'.eqb row then aslRows H row j off len else none
  | _ => none

def acopy (P : Program) (t : TypeId) (H : Nat → Option AB) (d x : AC) : Option (AV × List (Nat × AB)) :=
  match d, elemOf P t, srcLen x with
  | .asl row i off len _, some (_, s), _ => match srcRows H row x, H i with
    | some src, some (.arr row' l) => if h : row'.eqb row = true then
        if Nat.beq row.width s && Nat.blt 0 s then
          some (.one (.int .i64 (Nat.min src.length len : Nat)), [(i, .arr row ((castL row' row h l).take off ++ (src.take (Nat.min src.length len) ++ (castL row' row h l).drop (off + (src.take (Nat.min src.length len)).length))))])
        else none
      else none
    | _, _ => none
  | .csl i off len _, some (_, s), some m => match srcCells H s (Nat.min m len) x, H i with
    | some src, some (.cells cs) =>
      if Nat.beq src.length (Nat.min m len * s) && Nat.ble (off + src.length) cs.length && Nat.blt 0 s then
        some (.one (.int .i64 (Nat.min m len : Nat)), [(i, .cells (cs.take off ++ (src ++ cs.drop (off + src.length))))])
      else none
    | _, _ => none
  | _, _, _ => none

theorem src_ok {X : Ctx} (hX : HRel X) {s m len : Nat} (hs : 0 < s) {x : AC} (hm : srcLen x = some m) {src : List AC} (h : srcCells X.H s (Nat.min m len) x = some src) (hl : src.length = Nat.min m len * s) {xv : Value} (hx : VRc X x xv) :
    (Builtin.lenOf xv).run P X.w = .ok m X.w ∧ ∃ vals, (Builtin.firstCells s (Nat.min m len) xv).run P X.w = .ok vals X.w ∧ PW (VRc X) src vals.toList ∧ ∀ u ∈ vals.toList, u.oneCell' = true := by
  unfold srcCells at h
  split at h
  · simp only [Option.some.injEq] at h
    subst h
    cases hx
    simp only [srcLen, Option.some.injEq] at hm
    subst hm
    exact ⟨by simp [Builtin.lenOf], #[], by simp [Builtin.firstCells], PW.nil, by simp⟩
  · rename_i row l md
    split at h
    · rename_i hw
      simp only [Nat.beq_eq] at hw
      simp only [Option.some.injEq] at h
      subst h
      simp only [srcLen, Option.some.injEq] at hm
      subst hm
      obtain ⟨A, cap, vs, rfl, hc, _, hlr, hone, hat⟩ := sl_vals hx
      have hpw := hlr.pw (X := X) (by omega)
      have htk : (l.take (Nat.min l.length len)).flatMap row.cells = (l.flatMap row.cells).take (Nat.min l.length len * s) := by
        apply List.ext_getElem?
        intro q
        have hq : q = (q / row.width) * row.width + q % row.width := by rw [Nat.mul_comm]; exact (Nat.div_add_mod ..).symm
        have hk : q % row.width < row.width := Nat.mod_lt _ (by omega)
        by_cases hlt : q < Nat.min l.length len * s
        · rw [List.getElem?_take_of_lt hlt]
          have hj : q / row.width < Nat.min l.length len := (Nat.div_lt_iff_lt_mul (by omega)).2 (by rw [hw]; exact hlt)
          rw [hq, flat_get _ _ _ hk, flat_get _ _ _ hk, List.getElem?_take_of_lt hj]
        · rw [List.getElem?_take_eq_none (by omega), List.getElem?_eq_none (by omega)]
      rw [htk] at hl ⊢
      refine ⟨by simp [Builtin.lenOf], ?_⟩
      rcases hat with h0 | ⟨b, o, rfl, hcell⟩
      · have hz : Nat.min l.length len = 0 := by rw [h0]; exact Nat.zero_min _
        rw [hz]
        cases A with
        | none => exact ⟨#[], by simp [Builtin.firstCells], by simpa using PW.nil, by simp⟩
        | some a =>
          have := run_loadCells_list (P := P) X.w a [] (by simp)
          exact ⟨#[], by simpa [Builtin.firstCells] using this, by simpa using PW.nil, by simp⟩
      · have hln : (vs.take (Nat.min l.length len * s)).length = Nat.min l.length len * s := by
          rw [← (hpw.take _).1]; exact hl
        have := run_loadCells_list (P := P) X.w ⟨b, o, none⟩ (vs.take (Nat.min l.length len * s)) (fun j u hj => by
          rw [Addr.add_lit]
          have hlt : j < Nat.min l.length len * s := by rw [← hln]; exact (List.getElem?_eq_some_iff.1 hj).1
          rw [List.getElem?_take_of_lt hlt] at hj
          exact hcell j u hj)
        rw [hln] at this
        refine ⟨(vs.take (Nat.min l.length len * s)).toArray, by simpa [Builtin.firstCells] using this, by simpa using hpw.take _, fun u hu => hone u (List.mem_of_mem_take (by simpa using hu))⟩
    · cases h
  · rename_i j off len' cap
    split at h
    · rename_i cs hH
      split at h
      · rename_i hkn
        simp only [Option.some.injEq] at h
        subst h
        simp only [srcLen, Option.some.injEq] at hm
        subst hm
        obtain ⟨_, rfl, _, _⟩ := hx
        obtain ⟨c, t', h1, h2⟩ := hX.blk j _ hH
        have hpw : PW (VRc X) ((cs.drop off).take (Nat.min len' len * s)) ((c.toList.drop off).take (Nat.min len' len * s)) := (h2.drop off).take _
        have hln : ((c.toList.drop off).take (Nat.min len' len * s)).length = Nat.min len' len * s := by rw [← hpw.1]; exact hl
        have := run_loadCells_list (P := P) X.w ⟨X.φ j, off, none⟩ ((c.toList.drop off).take (Nat.min len' len * s)) (fun q u hq => by
          rw [Addr.add_lit, cell_of_row _ _ _ c t' (0, 0) h1, ← Array.getElem?_toList]
          have hlt : q < Nat.min len' len * s := by rw [← hln]; exact (List.getElem?_eq_some_iff.1 hq).1
          rw [List.getElem?_take_of_lt hlt, List.getElem?_drop] at hq
          exact hq)
        rw [hln] at this
        refine ⟨by simp [Builtin.lenOf], ((c.toList.drop off).take (Nat.min len' len * s)).toArray, by simpa [Builtin.firstCells] using this, by simpa using hpw, fun u hu => ?_⟩
        have hu : u ∈ (c.toList.drop off).take (Nat.min len' len * s) := by simpa using hu
        obtain ⟨q, hq⟩ := List.getElem?_of_mem hu
        obtain ⟨a, ha, hr⟩ := hpw.get hq
        exact (AC.known_one (List.all_eq_true.1 hkn a (List.mem_of_getElem? ha)) hr).1
      · cases h
    · cases h
  · cases h

theorem srcRows_ok {X : Ctx} (hX : HRel X) {row : CT} (hs : 0 < row.width) {x : AC} {src : List row.den} (h : srcRows X.H row x = some src) {n : Nat} (hn : n ≤ src.length) {xv : Value} (hx : VRc X x xv) :
    (Builtin.lenOf xv).run P X.w = .ok src.length X.w ∧ ∃ vals : List Value, (Builtin.firstCells row.width n xv).run P X.w = .ok vals.toArray X.w ∧ LRel row (src.take n) vals X.IC ∧ ∀ u ∈ vals, u.oneCell' = true := by
  have key : ∀ (l : List row.den) (v : Value), SlVals X row l v → ∀ n, n ≤ l.length → (Builtin.lenOf v).run P X.w = .ok l.length X.w ∧ ∃ vals : List Value, (Builtin.firstCells row.width n v).run P X.w = .ok vals.toArray X.w ∧ LRel row (l.take n) vals X.IC ∧ ∀ u ∈ vals, u.oneCell' = true := by
    intro l v ⟨A, cap, vs, e, hc, hm, hl, hone, hat⟩ n hn
    subst e
    refine ⟨by simp [Builtin.lenOf], vs.take (n * row.width), ?_, ⟨?_, fun j x hj => ?_⟩, fun u hu => hone u (List.mem_of_mem_take hu)⟩
    · rcases hat with h0 | ⟨b, o, rfl, hcell⟩
      · have hz : n = 0 := by omega
        subst hz
        cases A with
        | none => simp [Builtin.firstCells]
        | some a =>
          have := run_loadCells_list (P := P) X.w a [] (by simp)
          simpa [Builtin.firstCells] using this
      · have hln : (vs.take (n * row.width)).length = n * row.width := by
          rw [List.length_take, hl.1]
          exact Nat.min_eq_left (Nat.mul_le_mul_right _ hn)
        have := run_loadCells_list (P := P) X.w ⟨b, o, none⟩ (vs.take (n * row.width)) (fun j u hj => by
          rw [Addr.add_lit]
          have hlt : j < n * row.width := by rw [← hln]; exact (List.getElem?_eq_some_iff.1 hj).1
          rw [List.getElem?_take_of_lt hlt] at hj
          exact hcell j u hj)
        rw [hln] at this
        simpa [Builtin.firstCells] using this
    · rw [List.length_take, List.length_take, hl.1, Nat.min_eq_left hn]
      exact Nat.min_eq_left (Nat.mul_le_mul_right _ hn)
    · have hjl : j < n := by
        have := (List.getElem?_eq_some_iff.1 hj).1
        rw [List.length_take] at this; omega
      rw [List.getElem?_take_of_lt hjl] at hj
      refine RelT.mono_lt0 row x (fun k y hk hy => ?_) (fun _ _ h => h) (hl.2 j x hj)
      have : (j + 1) * row.width ≤ n * row.width := Nat.mul_le_mul_right _ hjl
      rw [Nat.add_mul] at this
      rw [List.getElem?_take_of_lt (by omega)]; exact hy
  unfold srcRows at h
  split at h
  · injection h with h; subst h
    cases hx
    exact key [] _ ⟨none, 0, [], rfl, Nat.le_refl _, Nat.zero_le _, ⟨by simp, fun j x hj => by simp at hj⟩, (fun u hu => by cases hu), .inl rfl⟩ n hn
  · split at h
    · rename_i hr
      have er := CT.eq_of_eqb _ _ hr
      subst er
      injection h with h; subst h
      exact key _ _ (sl_vals hx) n hn
    · cases h
  · split at h
    · rename_i row' j off len cap hr
      have er := CT.eq_of_eqb _ _ hr
      subst er
      refine key src _ (rowsIn_vals (P := P) (e := 0) (row := row') hX (x := .asl row' j off len cap) ?_ hx) n hn
      simp only [rowsIn, h, Option.map_some]
    · cases h
  · split at h
    · rename_i row' j off len mn hr
      have er := CT.eq_of_eqb _ _ hr
      subst er
      refine key src _ (rowsIn_vals (P := P) (e := 0) (row := row') hX (x := .bsl row' j off len mn) ?_ hx) n hn
      simp only [rowsIn, h, Option.map_some]
    · cases h
  · cases h

theorem acopy_ok {X : Ctx} (hX : HRel X) {t t' ty : TypeId} {d x : AC} {v : AV} {u : List (Nat × AB)} {dv xv : Value} (hd : VRc X d dv) (hx : VRc X x xv) (h : acopy P t X.H d x = some (v, u)) :
    ∃ val X', (Builtin.copy_ #[t, t'] ty #[dv, xv]).run P X.w = .ok val X'.w ∧ X.le X' ∧ HRel X' ∧ X'.H = u.foldl (fun H p => upd H p.1 (some p.2)) X.H ∧ VR X' v val := by
  unfold acopy at h
  split at h
  · rename_i row i off len cap e s he
    split at h
    · rename_i src row' l hsrc hH
      split at h
      · rename_i hr
        have er := CT.eq_of_eqb _ _ hr
        subst er
        split at h
        · rename_i hcond
          simp only [Bool.and_eq_true, Nat.beq_eq, Nat.blt_eq] at hcond
          simp only [Option.some.injEq, Prod.mk.injEq] at h
          obtain ⟨rfl, rfl⟩ := h
          obtain ⟨hu, hs⟩ := elemOf_spec he
          obtain ⟨l', hH', rfl, hlc, hcm, hfit⟩ := hd
          replace hH' := hH'.of hH; rw [hH] at hH'
          simp only [Option.some.injEq, AB.arr.injEq, heq_eq_eq, true_and] at hH'
          subst hH'
          have hml : (src.take (Nat.min src.length len)).length = Nat.min src.length len := by
            rw [List.length_take]; exact Nat.min_eq_left (Nat.min_le_left _ _)
          have hmle : Nat.min src.length len ≤ len := Nat.min_le_right _ _
          obtain ⟨h1, vals, h2, h3, h4⟩ := srcRows_ok (P := P) hX (by omega) hsrc (n := Nat.min src.length len) (Nat.min_le_left _ _) hx
          obtain ⟨w', g1, g2, g3⟩ := put_arr_ok (P := P) hX (p := off) hH h3 h4 (by rw [hml]; omega)
          refine ⟨_, X.put i _ w', ?_, g2, g3, rfl, rfl⟩
          rw [hcond.1] at g1 h2
          simp [Builtin.copy_, h1, hs, h2, g1, Ctx.put, goInt, run_underlying hu, hcond.1]
        · cases h
      · cases h
    · cases h
  · rename_i i off len cap e s m he hm
    split at h
    · rename_i src cs hsrc hH
      split at h
      · rename_i hcond
        simp only [Bool.and_eq_true, Nat.beq_eq, Nat.ble_eq, Nat.blt_eq] at hcond
        obtain ⟨⟨hl, hfit⟩, hpos⟩ := hcond
        simp only [Option.some.injEq, Prod.mk.injEq] at h
        obtain ⟨rfl, rfl⟩ := h
        obtain ⟨hu, hs⟩ := elemOf_spec he
        obtain ⟨h1, vals, h2, h3, h4⟩ := src_ok (P := P) hX hpos hm hsrc hl hx
        obtain ⟨w', g1, g2, g3⟩ := put_cells_ok (P := P) hX (off := off) hH h3 h4 hfit
        obtain ⟨_, rfl, _, _⟩ := hd
        refine ⟨_, X.put i _ w', ?_, g2, g3, rfl, rfl⟩
        simp [Builtin.copy_, h1, hs, h2, g1, Ctx.put, goInt, run_underlying hu]
      · cases h
    · cases h
  · cases h
/-! #### clear of a slice of an own array -/
theorem LRel.one {X : Ctx} {row : CT} (hpos : 0 < row.width) {l : List row.den} {vs : List Value} (h : LRel row l vs X.IC) : ∀ u ∈ vs, u.oneCell' = true := fun u hu => by
  obtain ⟨k, hk⟩ := List.getElem?_of_mem hu
  have hkl : k < l.length * row.width := by rw [← h.1]; exact (List.getElem?_eq_some_iff.1 hk).1
  have hj : k / row.width < l.length := (Nat.div_lt_iff_lt_mul hpos).2 hkl
  have hr := h.2 (k / row.width) _ (List.getElem?_eq_getElem hj)
  have hm : k % row.width < row.width := Nat.mod_lt _ hpos
  have hc := List.getElem?_eq_getElem (l := row.cells l[k / row.width]) (i := k % row.width) (by rw [CT.cells_length]; exact hm)
  obtain ⟨y, hy, hv⟩ := RelT.cell row _ _ hr _ _ hc
  have e : k / row.width * row.width + k % row.width = k := by have := Nat.div_add_mod' k row.width; omega
  rw [e, hk] at hy
  injection hy with hy; subst hy
  exact (AC.known_one (CT.cells_known row _ _ _ hc) hv).1
def aclear (P : Program) (t : TypeId) (H : Nat → Option AB) : AC → Option (Nat × AB)
  | .bsl row j off len _ => match P.underlying t, H j with
    | some (.slice e), some (.arr row' l) => match P.info? e, azero P e with
      | some i, some zs => if Nat.beq zs.length i.size then match zrow P e zs with
          | some ⟨row2, z⟩ => if h : row'.eqb row2 = true then if row.eqb row2 then
              some (j, .arr row2 ((castL row' row2 h l).take off ++ (List.replicate len z ++ (castL row' row2 h l).drop (off + len)))) else none else none
          | none => none
        else none
      | _, _ => none
    | _, _ => none
  | _ => none
theorem asl_bsl {X : Ctx} (hX : HRel X) {row : CT} {i off len cap : Nat} {l : List row.den} (hH : X.H i = some (.arr row l)) {v : Value} (h : VRc X (.asl row i off len cap) v) : VRc X (.bsl row i off len cap) v := by
  obtain ⟨l', h1, h2, h3, h4, h5⟩ := h
  replace h1 := h1.of hH
  rw [hH] at h1
  simp only [Option.some.injEq, AB.arr.injEq, heq_eq_eq, true_and] at h1
  subst h1
  obtain ⟨c, t, g1, ⟨g2, _, g3⟩, _⟩ := hX.blk i _ hH
  refine ⟨l, off * row.width, cap, .inl hH, h2, h3, h4, by omega, fun _ => rfl, h3, Nat.le_refl _, h5, fun _ => rfl, ?_⟩
  rw [← g3, ← Nat.add_mul]
  exact Nat.le_trans (Nat.mul_le_mul_right _ h5) g2
theorem aclear_arr {t : TypeId} {H : Nat → Option AB} {row : CT} {j off len mn : Nat} {u : Nat × AB} (h : aclear P t H (.bsl row j off len mn) = some u) : ∃ l : List row.den, H j = some (.arr row l) := by
  unfold aclear at h
  simp only at h
  split at h
  · rename_i e row' l hu hH
    split at h
    · split at h
      · split at h
        · split at h
          · rename_i hr
            split at h
            · rename_i hr2
              have er := CT.eq_of_eqb _ _ hr
              have er2 := CT.eq_of_eqb _ _ hr2
              subst er
              subst er2
              exact ⟨l, hH⟩
            · cases h
          · cases h
        · cases h
      · cases h
    · cases h
  · cases h
theorem aclear_ok {X : Ctx} (hX : HRel X) {t ty : TypeId} {x : AC} {u : Nat × AB} {xv : Value} (hx : VRc X x xv) (h : aclear P t X.H x = some u) :
    ∃ X', (Builtin.clear_ #[t] ty #[xv]).run P X.w = .ok (.tuple #[]) X'.w ∧ X.le X' ∧ HRel X' ∧ X'.H = upd X.H u.1 (some u.2) := by
  unfold aclear at h
  split at h
  · rename_i row j off len mn
    split at h
    · rename_i e row' l hu hH
      split at h
      · rename_i i zs hi hz
        split at h
        · rename_i hzl
          simp only [Nat.beq_eq] at hzl
          split at h
          · rename_i row2 z0 hzr
            split at h
            · rename_i hr
              split at h
              · rename_i hr2
                have er := CT.eq_of_eqb _ _ hr
                subst er
                have er2 := CT.eq_of_eqb _ _ hr2
                subst er2
                injection h with h; subst h
                obtain ⟨z, hzi, hzp⟩ := azero_info (X := X) hz hi
                have hzs : z.cells.size = i.size := by rw [← Array.length_toList, ← hzp.1]; exact hzl
                obtain ⟨l', o, cap, hH', rfl, hlc, hcm, hfit, ho, _⟩ := hx
                replace hH' := hH'.of hH; rw [hH] at hH'
                simp only [Option.some.injEq, AB.arr.injEq, heq_eq_eq, true_and] at hH'
                subst hH'
                show ∃ X' : Ctx, _ ∧ _ ∧ _ ∧ X'.H = upd X.H j (some (.arr row (l.take off ++ (List.replicate len z0 ++ l.drop (off + len)))))
                rcases Nat.eq_zero_or_pos len with h0 | h0
                · subst h0
                  refine ⟨X, ?_, .refl X, hX, ?_⟩
                  · simp [Builtin.clear_, run_underlying hu]
                  · funext k
                    by_cases ek : k = j
                    · subst ek; rw [upd_same, hH]; simp
                    · rw [upd_other _ _ ek]
                have ho' := ho h0
                subst ho'
                unfold zrow at hzr
                rw [hi] at hzr
                split at hzr
                · rename_i i' row' hi' hrow'
                  injection hi' with hi'; subst hi'
                  split at hzr
                  · rename_i hwid
                    simp only [Bool.and_eq_true, Nat.beq_eq, Nat.blt_eq] at hwid
                    split at hzr
                    · rename_i z' hun
                      simp only [Option.some.injEq, Sigma.mk.injEq] at hzr
                      obtain ⟨rfl, hzz⟩ := hzr
                      have hzz := eq_of_heq hzz
                      subst hzz
                      obtain ⟨_, _, hrel⟩ := CT.un_rel (X := X) row' zs z' [] z.cells.toList hun hzp
                      have hlr : LRel row' (List.replicate len z') (Builtin.zeroCells z.cells len).toList X.IC := by
                        refine ⟨by simp [Builtin.zeroCells, hzs, hwid.1], fun q x hq => ?_⟩
                        have hql : q < len := by have := (List.getElem?_eq_some_iff.1 hq).1; simpa using this
                        have hx : x = z' := by
                          rw [List.getElem?_replicate, if_pos hql] at hq
                          injection hq with hq; exact hq.symm
                        subst hx
                        refine RelT.mono_lt0 row' x (fun k y hk hy => ?_) (fun a y h => h) hrel
                        have h1 : (q + 1) * row'.width ≤ len * row'.width := Nat.mul_le_mul_right _ hql
                        rw [Nat.add_mul] at h1
                        have hlt : q * row'.width + k < len * z.cells.size := by rw [hzs, ← hwid.1]; omega
                        have hmod : (q * row'.width + k) % z.cells.size = k := by
                          rw [hzs, ← hwid.1, Nat.add_comm, Nat.add_mul_mod_self_right, Nat.mod_eq_of_lt hk]
                        have hkz : k < z.cells.size := by rw [hzs, ← hwid.1]; exact hk
                        have e1 : (Builtin.zeroCells z.cells len).toList[q * row'.width + k]? = some (z.cells[(q * row'.width + k) % z.cells.size]!) := by
                          rw [Array.getElem?_toList]; simp [Builtin.zeroCells, hlt]
                        rw [e1, hmod, getElem!_pos z.cells _ hkz]
                        rw [Array.getElem?_toList, getElem?_pos z.cells _ hkz] at hy
                        exact hy
                      have hpos : 0 < row'.width := by have := hwid.2; omega
                      obtain ⟨w', g1, g2, g3⟩ := put_arr_ok (P := P) hX (p := off) hH hlr (hlr.one hpos) (by rw [List.length_replicate]; omega)
                      rw [List.length_replicate] at g2 g3
                      refine ⟨X.put j (.arr row' (l.take off ++ (List.replicate len z' ++ l.drop (off + len)))) w', ?_, g2, g3, rfl⟩
                      show _ = Result.ok _ w'

                      obtain ⟨n, rfl⟩ : ∃ n, len = n + 1 := ⟨len - 1, by omega⟩
                      simp [Builtin.clear_, run_underlying hu, zeroValue, typeInfo, hi, hzi, g1]
                    · cases hzr
                  · cases hzr
                · cases hzr
              · cases h
            · cases h
          · cases h
        · cases h
      · cases h
    · cases h
  · cases h
end
section
open Go Go.RowKit
variable {P : Program}

/-! ### Texts and bytes -/
def bytesOf (s : ByteArray) : List Int := s.data.toList.map fun b => (b.toNat : Int)

/-- A slice of bytes' element type. -/
def bytesT (P : Program) (t : TypeId) : Option TypeId :=
  match P.underlying t with
  | some (.slice e) => match P.underlying e with
    | some (.int .u8) => some e
    | _ => none
  | _ => none
theorem bytesT_spec {t e : TypeId} (h : bytesT P t = some e) : P.underlying t = some (.slice e) ∧ P.underlying e = some (.int .u8) := by
  unfold bytesT at h
  split at h
  · rename_i e' hu
    split at h
    · rename_i he
      injection h with h; subst h
      exact ⟨hu, he⟩
    · cases h
  · cases h

def convB (P : Program) (src dst : TypeId) : Bool := (isStrT P src && (bytesT P dst).isSome) || ((bytesT P src).isSome && isStrT P dst)

def aconv (P : Program) (src dst : TypeId) (H : Nat → Option AB) (nid : Nat) (x : AC) : Option (AV × List (Nat × AB) × List Bool) :=
  match x with
  | .str s => match isStrT P src, bytesT P dst with
    | true, some e => some (.one (.sl (.int .u8) (bytesOf s) (.own nid 0)), [(nid, .tok e 0)], [Nat.ble s.size maxLen])
    | _, _ => none
  | .nils => match bytesT P src, isStrT P dst with
    | some _, true => some (.one (.str ByteArray.empty), [], [])
    | _, _ => none
  | x => match bytesT P src, isStrT P dst with
    | some e, true => match rowsIn P H e x with
      | some ⟨row, l⟩ => if h : row.eqb (.int .u8) = true then some (.one (.str (strOfNums (castL row (.int .u8) h l))), [], []) else none
      | none => none
    | _, _ => none

theorem aconv_ok {X : Ctx} (hX : HRel X) {src dst : TypeId} {nid : Nat} (hnid : X.H nid = none) {x : AC} {v : AV} {u : List (Nat × AB)} {cs : List Bool} {xv : Value} (hx : VRc X x xv)
    (h : aconv P src dst X.H nid x = some (v, u, cs)) (hcs : ∀ c ∈ cs, c = true) :
    ∃ val X', (convert src dst xv).run P X.w = .ok val X'.w ∧ X.le X' ∧ HRel X' ∧ X'.H = u.foldl (fun H p => upd H p.1 (some p.2)) X.H ∧ VR X' v val := by
  unfold aconv at h
  split at h
  · rename_i s
    split at h
    · rename_i e hs he
      simp only [Option.some.injEq, Prod.mk.injEq] at h
      obtain ⟨rfl, rfl, rfl⟩ := h
      have hsz := hcs _ (List.mem_cons_self ..)
      simp only [Nat.ble_eq] at hsz
      have hs := isStrT_of hs
      obtain ⟨hd, he⟩ := bytesT_spec he
      cases hx
      have hrun := Lib.run_convert_string_bytes (P := P) X.w src dst e s hs hd he
      have hge := grownCap_ge X.w s.size 0 e
      have hcm := grownCap_le_maxLen X.w s.size 0 e hsz
      have hbl : (bytesOf s).length = s.size := by simp [bytesOf]
      have hst : TokStep X nid X.w.heap.size (s.size * 1) e 0 (Lib.bytesWorld X.w e s) := by
        refine ⟨rfl, rfl, rfl, by rw [Lib.bytesWorld_size]; omega, fun k hk _ => Lib.bytesWorld_at_old X.w e s k hk, .inl rfl, by rw [Lib.bytesWorld_size]; omega, .inl hnid, fun q hq => absurd (hX.frlt _ _ hq) (Nat.lt_irrefl _), Nat.le_refl _⟩
      have hfr : X.w.heap.size < X.w.heap.size → ∃ q, X.fr X.w.heap.size = some q := fun h => absurd h (Nat.lt_irrefl _)
      have hnew := Lib.bytesWorld_at_new X.w e s
      refine ⟨_, X.tok nid X.w.heap.size (s.size * 1) e 0 (Lib.bytesWorld X.w e s), hrun, tok_le hX hst hfr, hX.tok hst hfr, rfl, ?_⟩
      have hcells : (Lib.bytesCells X.w e s).toList = (s.data.toList.map fun b => Value.int .u8 b.toNat) ++ List.replicate (grownCap X.w s.size 0 e - s.size) (.int .u8 0) := by simp [Lib.bytesCells]
      have := tok_value (row := .int .u8) (l := bytesOf s) (cap := grownCap X.w s.size 0 e) (n := s.size) (vs := s.data.toList.map fun b => Value.int .u8 b.toNat) hX hst hfr hnew (.inr rfl) hbl.symm hge hcm
        (by rw [← Array.length_toList, hcells]; simp [CT.width]; omega)
        (by rw [hcells]; simp [CT.width])
        ⟨by simp [bytesOf, CT.width], fun j y hj => by
          simp only [bytesOf, List.getElem?_map] at hj
          show (s.data.toList.map fun b => Value.int .u8 b.toNat)[j * 1 + 0]? = some (.int .u8 y)
          simp only [Nat.mul_one, Nat.add_zero, List.getElem?_map]
          cases hb : s.data.toList[j]? with
          | none => rw [hb] at hj; cases hj
          | some b =>
            rw [hb] at hj
            simp only [Option.map_some, Option.some.injEq] at hj
            subst hj; rfl⟩
      exact this
    · cases h
  · split at h
    · rename_i e he hs
      simp only [Option.some.injEq, Prod.mk.injEq] at h
      obtain ⟨rfl, rfl, rfl⟩ := h
      obtain ⟨hd, he⟩ := bytesT_spec he
      cases hx
      exact ⟨_, X, run_convert_bytes_nil X.w src e hd he 0 0 dst (isStrT_of hs), .refl X, hX, rfl, rfl⟩
    · cases h
  · split at h
    · rename_i e he hs
      split at h
      · rename_i row l hr
        split at h
        · rename_i hrow
          have er := CT.eq_of_eqb _ _ hrow
          subst er
          simp only [Option.some.injEq, Prod.mk.injEq] at h
          obtain ⟨rfl, rfl, rfl⟩ := h
          obtain ⟨hd, he⟩ := bytesT_spec he
          obtain ⟨A, cap, vs, e1, hc, hm, hl, hone, hat⟩ := rowsIn_vals (P := P) hX hr hx
          have e1' : xv = .slice A (List.length l) cap := e1
          subst e1'
          have hvs : ∀ i, i < List.length l → vs[i]? = some (.int .u8 (List.getD l i 0)) := fun i hi => by
            have h0 := hl.2 i (List.getD l i 0) (by rw [List.getD_eq_getElem?_getD, List.getElem?_eq_getElem hi]; rfl)
            simpa [RelT, CT.width] using h0
          cases A with
          | none =>
            have hz : List.length l = 0 := by
              rcases hat with h | ⟨b, o, h, _⟩
              · exact h
              · cases h
            have hln : l = [] := List.eq_nil_of_length_eq_zero hz
            subst hln
            exact ⟨_, X, run_convert_bytes_nil X.w src e hd he _ _ dst (isStrT_of hs), .refl X, hX, rfl, rfl⟩
          | some a =>
            rcases hat with hz | ⟨b, o, ha, hcell⟩
            · have hln : l = [] := List.eq_nil_of_length_eq_zero hz
              subst hln
              have hrun : (convert src dst (.slice (some a) 0 cap)).run P X.w = .ok (.string (strOfNums [])) X.w := by
                have hl0 := run_loadCells_list (P := P) X.w a [] (by simp)
                rw [run_convert_bytes_string X.w src dst e _ 0 cap hd he (isStrT_of hs), run_bytesToString X.w a 0 cap [] (by simpa using hl0)]
                rfl
              exact ⟨_, X, hrun, .refl X, hX, rfl, rfl⟩
            · injection ha with ha
              subst ha
              have hrun := run_convert_bytes_arg (P := P) X.w src e hd he b o (List.length l) cap l rfl (fun i hi => hcell i _ (hvs i hi)) dst (isStrT_of hs)
              exact ⟨_, X, hrun, .refl X, hX, rfl, rfl⟩
        · cases h
      · cases h
    · cases h
end
section
open Go Go.RowKit Go.MapKept
variable {P : Program}

/-! ### Maps -/

theorem CT.vals_length : ∀ (t : CT) (v : t.den), t.flat = true → (t.vals v).length = t.width
  | .int _, _, _ => rfl
  | .bool, _, _ => rfl
  | .str, _, _ => rfl
  | .sl _, _, h => by cases h
  | .unit, _, _ => rfl
  | .pair c cs, v, h => by
    simp only [CT.flat, Bool.and_eq_true] at h
    rw [CT.vals, List.length_append, CT.vals_length c v.1 h.1, CT.vals_length cs v.2 h.2]; rfl

theorem flat_vals {IC : Addr → Value → Prop} : ∀ (t : CT) (v : t.den) (us : List Value), t.flat = true → us.length = t.width → RelT t v (fun k y => us[k]? = some y) IC → us = t.vals v
  | .int k, n, us, _, hl, h => by
    match us, hl with
    | [x], _ => have e : some x = some (Value.int k n) := h; injection e with e; subst e; rfl
  | .bool, b, us, _, hl, h => by
    match us, hl with
    | [x], _ => have e : some x = some (Value.bool b) := h; injection e with e; subst e; rfl
  | .str, s, us, _, hl, h => by
    match us, hl with
    | [x], _ => have e : some x = some (Value.string s) := h; injection e with e; subst e; rfl
  | .sl _, _, _, hf, _, _ => by cases hf
  | .unit, _, us, _, hl, _ => List.eq_nil_of_length_eq_zero hl
  | .pair c cs, v, us, hf, hl, h => by
    simp only [CT.flat, Bool.and_eq_true] at hf
    have hl' : us.length = c.width + cs.width := hl
    have h1 := flat_vals c v.1 (us.take c.width) hf.1 (by rw [List.length_take]; omega) (RelT.mono_lt c v.1 (fun k y hk hy => by rw [List.getElem?_take_of_lt hk]; exact hy) (fun _ _ hh => hh) h.1)
    have h2 := flat_vals cs v.2 (us.drop c.width) hf.2 (by rw [List.length_drop]; omega) (RelT.mono cs v.2 (fun k y hy => by rw [List.getElem?_drop]; exact hy) (fun _ _ hh => hh) h.2)
    rw [CT.vals, ← h1, ← h2, List.take_append_drop]

theorem same_eq : ∀ (t : CT) {a b : t.den}, t.flat = true → t.same a b = true → a = b
  | .int _, a, b, _, h => by simpa [CT.same] using h
  | .bool, a, b, _, h => by simpa [CT.same] using h
  | .str, a, b, _, h => (bytes_beq a b).1 h
  | .sl _, _, _, hf, _ => by cases hf
  | .unit, _, _, _, _ => rfl
  | .pair c cs, a, b, hf, h => by
    simp only [CT.flat, Bool.and_eq_true] at hf
    simp only [CT.same, Bool.and_eq_true] at h
    exact Prod.ext (same_eq c hf.1 h.1) (same_eq cs hf.2 h.2)
theorem same_refl : ∀ (t : CT) (a : t.den), t.same a a = true
  | .int _, a => by simp [CT.same]
  | .bool, a => by simp [CT.same]
  | .str, a => (bytes_beq a a).2 rfl
  | .sl _, _ => rfl
  | .mdl _ _ _ _, _ => rfl
  | .unit, _ => rfl
  | .pair c cs, a => by simp only [CT.same, Bool.and_eq_true]; exact ⟨same_refl c a.1, same_refl cs a.2⟩

theorem bits_self : ∀ (t : CT) (v : t.den) (n : Nat), t.flat = true → ∀ x ∈ t.vals v, Instr.sameBits n x x = true
  | .int _, _, n, _, x, hx => by simp only [CT.vals, List.mem_singleton] at hx; subst hx; simp [Instr.sameBits]
  | .bool, _, n, _, x, hx => by simp only [CT.vals, List.mem_singleton] at hx; subst hx; simp [Instr.sameBits]
  | .str, s, n, _, x, hx => by simp only [CT.vals, List.mem_singleton] at hx; subst hx; simp only [Instr.sameBits]; exact (bytes_beq s s).2 rfl
  | .sl _, _, _, hf, _, _ => by cases hf
  | .unit, _, _, _, x, hx => by cases hx
  | .pair c cs, v, n, hf, x, hx => by
    simp only [CT.flat, Bool.and_eq_true] at hf
    rcases List.mem_append.1 hx with h | h
    · exact bits_self c v.1 n hf.1 x h
    · exact bits_self cs v.2 n hf.2 x h

/-- A key's type: one number, text or bool; or a row of such. -/
def scalT (P : Program) (t : TypeId) : Option CT :=
  match P.underlying t, ty P t with
  | some (.int k), some (false, 1) => some (.int k)
  | some .bool, some (false, 1) => some .bool
  | some .string, some (false, 1) => some .str
  | _, _ => none
def scalF (P : Program) : List Field → Nat → Option CT
  | [], _ => some .unit
  | f :: fs, off => if f.name = "_" then none else if Nat.beq f.offset off then
      match scalT P f.type, scalF P fs (off + 1) with
      | some c, some r => some (.pair c r)
      | _, _ => none
    else none
def keyCT (P : Program) (t : TypeId) : Option (Bool × CT) :=
  match P.underlying t with
  | some (.struct fs) => if P.stoodInHeld t then none else match scalF P fs.toList 0, ty P t with
    | some c, some (true, n) => if Nat.beq n c.width then some (true, c) else none
    | _, _ => none
  | _ => (scalT P t).map fun c => (false, c)

theorem scalT_one {t : TypeId} {c : CT} (h : scalT P t = some c) : c.flat = true ∧ c.width = 1 ∧ ty P t = some (false, 1) ∧ (∀ a, ∃ x, c.vals a = [x]) ∧ (∀ a b, ∃ x y, c.vals a = [x] ∧ c.vals b = [y] ∧ veq1 P t x y = some (c.same a b)) ∧ ∃ d, P.underlying t = some d ∧ (∀ fs, d ≠ .struct fs) ∧ (∀ k e, d ≠ .array k e) ∧ (∀ a x, c.vals a = [x] → IsKey d x) := by
  unfold scalT at h
  split at h
  · rename_i k hu ht
    injection h with h; subst h
    refine ⟨rfl, rfl, ht, fun a => ⟨_, rfl⟩, fun a b => ⟨_, _, rfl, rfl, ?_⟩, _, hu, fun _ => by simp, fun _ _ => by simp, fun a x e => ?_⟩
    · simp only [veq1, hu]
      rw [if_pos (by cases k <;> rfl)]; rfl
    · simp only [CT.vals, List.cons.injEq, and_true] at e; subst e; simp [IsKey]
  · rename_i hu ht
    injection h with h; subst h
    refine ⟨rfl, rfl, ht, fun a => ⟨_, rfl⟩, fun a b => ⟨_, _, rfl, rfl, ?_⟩, _, hu, fun _ => by simp, fun _ _ => by simp, fun a x e => ?_⟩
    · simp only [veq1, hu]; rfl
    · simp only [CT.vals, List.cons.injEq, and_true] at e; subst e; simp [IsKey]
  · rename_i hu ht
    injection h with h; subst h
    refine ⟨rfl, rfl, ht, fun a => ⟨_, rfl⟩, fun a b => ⟨_, _, rfl, rfl, ?_⟩, _, hu, fun _ => by simp, fun _ _ => by simp, fun a x e => ?_⟩
    · simp only [veq1, hu]; rfl
    · simp only [CT.vals, List.cons.injEq, and_true] at e; subst e; simp [IsKey]
  · cases h

theorem scalT_veq {t : TypeId} {c : CT} (h : scalT P t = some c) (d : Nat) (a b : c.den) : veq P (d + 1) t (c.vals a) (c.vals b) = some (c.same a b) := by
  obtain ⟨_, _, h3, _, h5, dd, hu, hs, ha, _⟩ := scalT_one h
  obtain ⟨x, y, e1, e2, e3⟩ := h5 a b
  rw [e1, e2]
  simp only [veq, hu]
  split
  · rename_i fs e; simp only [Option.some.injEq] at e; exact absurd e (hs fs)
  · rename_i k e' e; simp only [Option.some.injEq] at e; exact absurd e (ha k e')
  · simp only [h3]; exact e3

theorem scalF_flat : ∀ (fs : List Field) (off : Nat) {c : CT}, scalF P fs off = some c → c.flat = true
  | [], off, c, h => by simp only [scalF, Option.some.injEq] at h; subst h; rfl
  | f :: fs, off, c, h => by
    simp only [scalF] at h
    split at h
    · cases h
    · split at h
      · split at h
        · rename_i c1 r h1 h2
          injection h with h; subst h
          simp only [CT.flat, Bool.and_eq_true]
          exact ⟨(scalT_one h1).1, scalF_flat fs _ h2⟩
        · cases h
      · cases h
theorem scalF_veq (d : Nat) : ∀ (fs : List Field) (off : Nat) {c : CT}, scalF P fs off = some c → ∀ (a b : c.den) (pa pb : List Value), pa.length = off → pb.length = off →
    veqF (veq P (d + 1)) P (pa ++ c.vals a) (pb ++ c.vals b) fs = some (c.same a b)
  | [], off, c, h, a, b, pa, pb, _, _ => by simp only [scalF, Option.some.injEq] at h; subst h; rfl
  | f :: fs, off, c, h, a, b, pa, pb, la, lb => by
    simp only [scalF] at h
    split at h
    · cases h
    · rename_i hn
      split at h
      · rename_i ho
        simp only [Nat.beq_eq] at ho
        split at h
        · rename_i c1 r h1 h2
          injection h with h; subst h
          obtain ⟨hf, hw, ht, hone, _⟩ := scalT_one h1
          obtain ⟨x, ex⟩ := hone a.1
          obtain ⟨y, ey⟩ := hone b.1
          have ea : pa ++ (CT.pair c1 r).vals a = (pa ++ [x]) ++ r.vals a.2 := by rw [CT.vals, ex, List.append_assoc]
          have eb : pb ++ (CT.pair c1 r).vals b = (pb ++ [y]) ++ r.vals b.2 := by rw [CT.vals, ey, List.append_assoc]
          have ih := scalF_veq d fs (off + 1) h2 a.2 b.2 (pa ++ [x]) (pb ++ [y]) (by simp [la]) (by simp [lb])
          have e1 : (((pa ++ [x]) ++ r.vals a.2).drop f.offset).take 1 = [x] := by
            rw [ho, List.append_assoc, ← la, List.drop_left]; rfl
          have e2 : (((pb ++ [y]) ++ r.vals b.2).drop f.offset).take 1 = [y] := by
            rw [ho, List.append_assoc, ← lb, List.drop_left]; rfl
          have hv := scalT_veq h1 d a.1 b.1
          rw [ex, ey] at hv
          rw [ea, eb]
          simp only [veqF, if_neg hn, ht]
          rw [if_pos (by simp only [Bool.and_eq_true, Nat.ble_eq, List.length_append, List.length_singleton]; omega), e1, e2, hv, ih]
          rfl
        · cases h
      · cases h

theorem struct_veq {t : TypeId} {fs : Array Field} (hu : P.underlying t = some (.struct fs)) (hst : ¬ P.stoodInHeld t = true) {c : CT} (h1 : scalF P fs.toList 0 = some c) (d : Nat) (a b : c.den) : veq P (d + 2) t (c.vals a) (c.vals b) = some (c.same a b) := by
  have := scalF_veq d fs.toList 0 h1 a b [] [] rfl rfl
  rw [List.nil_append, List.nil_append] at this
  have e : veq P ((d + 1) + 1) t (c.vals a) (c.vals b) = if P.stoodInHeld t then none else veqF (veq P (d + 1)) P (c.vals a) (c.vals b) fs.toList := by
    generalize d + 1 = m
    simp only [veq, hu]
  exact e.trans (by rw [if_neg hst]; exact this)
theorem keyCT_facts {t : TypeId} {ka : Bool} {kt : CT} (h : keyCT P t = some (ka, kt)) : kt.flat = true ∧ (∃ n, ty P t = some (ka, n) ∧ kt.width = n) ∧
    ∀ a b, veq P 10000 t (kt.vals a) (kt.vals b) = some (kt.same a b) := by
  unfold keyCT at h
  split at h
  · rename_i fs hu
    split at h
    · cases h
    · rename_i hst
      split at h
      · rename_i c n h1 h2
        split at h
        · rename_i hn
          simp only [Nat.beq_eq] at hn
          simp only [Option.some.injEq, Prod.mk.injEq] at h
          obtain ⟨rfl, rfl⟩ := h
          refine ⟨scalF_flat _ _ h1, ⟨n, h2, hn.symm⟩, fun a b => ?_⟩
          exact struct_veq hu hst h1 9998 a b
        · cases h
      · cases h
  · rename_i hns
    cases hs : scalT P t with
    | none => rw [hs] at h; cases h
    | some c =>
      rw [hs] at h
      simp only [Option.map_some, Option.some.injEq, Prod.mk.injEq] at h
      obtain ⟨rfl, rfl⟩ := h
      obtain ⟨h1, h2, h3, _⟩ := scalT_one hs
      exact ⟨h1, ⟨1, h3, h2⟩, fun a b => scalT_veq hs 9999 a b⟩

theorem key_equal {t : TypeId} {ka : Bool} {kt : CT} (h : keyCT P t = some (ka, kt)) (a b : kt.den) (w : World) : (Op.equal t (asV ka (kt.vals a)) (asV ka (kt.vals b))).run P w = .ok (kt.same a b) w := by
  obtain ⟨hf, ⟨n, ht, hw⟩, hv⟩ := keyCT_facts h
  exact veq_run 10000 t ka n _ _ _ ht (by rw [CT.vals_length kt a hf, hw]) (by rw [CT.vals_length kt b hf, hw]) (hv a b) w

theorem check_fields (em : Bool) (d : Nat) : ∀ (fs : List Field) (off : Nat) {c : CT}, scalF P fs off = some c → ∀ (a : c.den) (pa : List Value), pa.length = off → ∀ w : World,
    (forIn (m := Sem) fs PUnit.unit fun f (_ : PUnit) => if f.name ≠ "_" then (do Instr.checkKey em (d + 1) f.type (← part f.type (pa ++ c.vals a).toArray f.offset); pure (ForInStep.yield PUnit.unit)) else pure (ForInStep.yield PUnit.unit)).run P w = .ok PUnit.unit w
  | [], off, c, h, a, pa, _, w => rfl
  | f :: fs, off, c, h, a, pa, la, w => by
    simp only [scalF] at h
    split at h
    · cases h
    · rename_i hn
      split at h
      · rename_i ho
        simp only [Nat.beq_eq] at ho
        split at h
        · rename_i c1 r h1 h2
          injection h with h; subst h
          obtain ⟨hf, hw, ht, hone, _, dd, hu, _, _, hk⟩ := scalT_one h1
          obtain ⟨x, ex⟩ := hone a.1
          have ea : pa ++ (CT.pair c1 r).vals a = (pa ++ [x]) ++ r.vals a.2 := by rw [CT.vals, ex, List.append_assoc]
          have ih := check_fields em d fs (off + 1) h2 a.2 (pa ++ [x]) (by simp [la]) w
          have e1 : (((pa ++ [x]) ++ r.vals a.2).drop f.offset).take 1 = [x] := by
            rw [ho, List.append_assoc, ← la, List.drop_left]; rfl
          have hp := run_part (P := P) ht ((pa ++ [x]) ++ r.vals a.2) f.offset (fun _ => rfl) (by simp only [List.length_append, List.length_singleton]; omega) w
          rw [e1] at hp
          have hc : (Instr.checkKey em (d + 1) f.type x).run P w = .ok () w := run_checkKey hu (hk a.1 x ex) em d
          rw [ea, List.forIn_cons]
          simp only [ne_eq, hn, not_false_eq_true, if_true, Sem.run_bind, hp, Result.andThen_ok, asV, Bool.false_eq_true, if_false, List.headD_cons, hc, Sem.run_pure]
          exact ih
        · cases h
      · cases h

theorem check_struct {t : TypeId} {fs : Array Field} (hu : P.underlying t = some (.struct fs)) {c : CT} (h1 : scalF P fs.toList 0 = some c) (d : Nat) (a : c.den) (em : Bool) (w : World) : (Instr.checkKey em (d + 2) t (.agg (c.vals a).toArray)).run P w = .ok () w := by
  have := check_fields (P := P) em d fs.toList 0 h1 a [] rfl w
  rw [List.nil_append] at this
  rw [Instr.checkKey]
  simp only [Sem.run_bind, run_underlying hu, Result.andThen_ok, ← Array.forIn_toList]
  rw [this]; rfl
theorem key_check {t : TypeId} {ka : Bool} {kt : CT} (h : keyCT P t = some (ka, kt)) (a : kt.den) (em : Bool) (w : World) : (Instr.checkKey em 10000 t (asV ka (kt.vals a))).run P w = .ok () w := by
  unfold keyCT at h
  split at h
  · rename_i fs hu
    split at h
    · cases h
    · split at h
      · rename_i c n h1 h2
        split at h
        · simp only [Option.some.injEq, Prod.mk.injEq] at h
          obtain ⟨rfl, rfl⟩ := h
          exact check_struct hu h1 9998 a em w
        · cases h
      · cases h
  · cases hs : scalT P t with
    | none => rw [hs] at h; cases h
    | some c =>
      rw [hs] at h
      simp only [Option.map_some, Option.some.injEq, Prod.mk.injEq] at h
      obtain ⟨rfl, rfl⟩ := h
      obtain ⟨_, _, _, hone, _, dd, hu, _, _, hk⟩ := scalT_one hs
      obtain ⟨x, ex⟩ := hone a
      rw [ex]
      exact run_checkKey hu (hk a x ex) em 9999

theorem key_stays {t : TypeId} {ka : Bool} {kt : CT} (h : keyCT P t = some (ka, kt)) (a : kt.den) (w : World) : (Instr.keyThatStays (asV ka (kt.vals a)) (asV ka (kt.vals a))).run P w = .ok (asV ka (kt.vals a)) w := by
  obtain ⟨hf, ⟨n, ht, hw⟩, _⟩ := keyCT_facts h
  have hb : Instr.sameBits 10000 (asV ka (kt.vals a)) (asV ka (kt.vals a)) = true := by
    cases ka with
    | true =>
      show Instr.sameBits (9999 + 1) (.agg (kt.vals a).toArray) (.agg (kt.vals a).toArray) = true
      simp only [Instr.sameBits, beq_self_eq_true, Bool.true_and, List.all_eq_true]
      intro ⟨x, y⟩ hxy
      have hz : ∀ (l : List Value) (p : Value × Value), p ∈ l.zip l → p.1 = p.2 ∧ p.1 ∈ l := by
        intro l
        induction l with
        | nil => intro p hp; cases hp
        | cons z zs ih =>
          intro p hp
          rcases List.mem_cons.1 hp with rfl | hp
          · exact ⟨rfl, List.mem_cons_self ..⟩
          · exact ⟨(ih p hp).1, List.mem_cons_of_mem _ (ih p hp).2⟩
      obtain ⟨e, hm⟩ := hz _ (x, y) hxy
      simp only at e hm ⊢
      subst e
      exact bits_self kt a 9999 hf x hm
    | false =>
      have h1 : kt.width = 1 := by
        obtain ⟨_, _, hv⟩ := keyCT_facts h
        rw [hw]; exact veq_one 10000 t n _ _ _ ht (by rw [CT.vals_length kt a hf, hw]) (hv a a)
      have hl := CT.vals_length kt a hf
      rw [h1] at hl
      match hx : kt.vals a, hl with
      | [x], _ => exact bits_self kt a 10000 hf x (by rw [hx]; exact List.mem_singleton.2 rfl)
  simp only [Instr.keyThatStays, hb, if_true, Sem.run_pure]

def alook {kt vt : CT} (k : kt.den) : List (kt.den × vt.den) → Option vt.den
  | [] => none
  | p :: r => if kt.same k p.1 then some p.2 else alook k r
def aset {kt vt : CT} (k : kt.den) (v : vt.den) : List (kt.den × vt.den) → List (kt.den × vt.den)
  | [] => [(k, v)]
  | p :: r => if kt.same k p.1 then (p.1, v) :: r else p :: aset k v r

/-- What is found. -/
def Found {kt vt : CT} (es : List MapEntry) (l : List (kt.den × vt.den)) (k : kt.den) (i : Nat) (r : Option (Nat × Value)) : Prop :=
  (r = none ∧ alook k l = none ∧ ∀ v, aset k v l = l ++ [(k, v)]) ∨
  ∃ j e p, r = some (i + j, e.val) ∧ es[j]? = some e ∧ l[j]? = some p ∧ kt.same k p.1 = true ∧ alook k l = some p.2 ∧ ∀ v, aset k v l = l.set j (p.1, v)

theorem Found.skip {kt vt : CT} {e : MapEntry} {es : List MapEntry} {p : kt.den × vt.den} {l : List (kt.den × vt.den)} {k : kt.den} {i : Nat} {r : Option (Nat × Value)} (hk : kt.same k p.1 = false) (h : Found es l k (i + 1) r) : Found (e :: es) (p :: l) k i r := by
  rcases h with ⟨h1, h2, h3⟩ | ⟨j, e', p', h1, h2, h3, h4, h5, h6⟩
  · exact .inl ⟨h1, by simp only [alook, hk]; exact h2, fun v => by simp only [aset, hk]; rw [if_neg (by simp), h3]; rfl⟩
  · exact .inr ⟨j + 1, e', p', by rw [h1]; congr 2; omega, by simpa using h2, by simpa using h3, h4, by simp only [alook, hk]; exact h5, fun v => by simp only [aset, hk]; rw [if_neg (by simp), h6]; rfl⟩
theorem Found.here {kt vt : CT} {e : MapEntry} {es : List MapEntry} {p : kt.den × vt.den} {l : List (kt.den × vt.den)} {k : kt.den} {i : Nat} (hk : kt.same k p.1 = true) : Found (e :: es) (p :: l) k i (some (i, e.val)) :=
  .inr ⟨0, e, p, rfl, rfl, rfl, hk, by simp [alook, hk], fun v => by simp [aset, hk]⟩

theorem find_asking {t : TypeId} {ka : Bool} {kt vt : CT} (h : keyCT P t = some (ka, kt)) (k : kt.den) (w : World) : ∀ (es : List MapEntry) (l : List (kt.den × vt.den)) (i : Nat), es.length = l.length →
    (∀ (j : Nat) p e, l[j]? = some p → es[j]? = some e → e.key = asV ka (kt.vals p.1)) → ∃ r, (Instr.findAsking t (asV ka (kt.vals k)) es i).run P w = .ok r w ∧ Found es l k i r
  | [], l, i, hl, _ => by
    have : l = [] := List.eq_nil_of_length_eq_zero hl.symm
    subst this
    exact ⟨none, rfl, .inl ⟨rfl, rfl, fun _ => rfl⟩⟩
  | e :: es, [], i, hl, _ => by simp at hl
  | e :: es, p :: l, i, hl, hk => by
    have h0 := hk 0 p e rfl rfl
    have he := key_equal h k p.1 w
    simp only [Instr.findAsking, Sem.run_bind, h0, he, Result.andThen_ok]
    cases hs : kt.same k p.1 with
    | true => exact ⟨_, rfl, .here hs⟩
    | false =>
      obtain ⟨r, h1, h2⟩ := find_asking h k w es l (i + 1) (by simpa using hl) fun j p' e' hp he' => hk (j + 1) p' e' (by simpa using hp) (by simpa using he')
      exact ⟨r, by simpa using h1, h2.skip hs⟩

theorem find_now {t : TypeId} {kt vt : CT} (h : scalT P t = some kt) (k : kt.den) {d : TypeDesc} (hu : P.underlying t = some d) : ∀ (es : List MapEntry) (l : List (kt.den × vt.den)) (i : Nat), es.length = l.length →
    (∀ (j : Nat) p e, l[j]? = some p → es[j]? = some e → e.key = asV false (kt.vals p.1)) → ∃ r, Instr.findNow d (asV false (kt.vals k)) es i = some r ∧ Found es l k i r
  | [], l, i, hl, _ => by
    have : l = [] := List.eq_nil_of_length_eq_zero hl.symm
    subst this
    exact ⟨none, rfl, .inl ⟨rfl, rfl, fun _ => rfl⟩⟩
  | e :: es, [], i, hl, _ => by simp at hl
  | e :: es, p :: l, i, hl, hk => by
    have h0 := hk 0 p e rfl rfl
    have hs0 : Instr.sameNow d (asV false (kt.vals k)) e.key = some (kt.same k p.1) := by
      rw [h0]
      unfold scalT at h
      rw [hu] at h
      split at h
      · rename_i q e1 _
        simp only [Option.some.injEq] at e1
        injection h with h; subst h; subst e1
        simp [asV, CT.vals, Instr.sameNow, CT.same]
      · rename_i e1 _
        simp only [Option.some.injEq] at e1
        injection h with h; subst h; subst e1
        simp [asV, CT.vals, Instr.sameNow, CT.same]
      · rename_i e1 _
        simp only [Option.some.injEq] at e1
        injection h with h; subst h; subst e1
        simp [asV, CT.vals, Instr.sameNow, CT.same]
      · cases h
    simp only [Instr.findNow, hs0]
    cases hs : kt.same k p.1 with
    | true => exact ⟨_, rfl, .here hs⟩
    | false =>
      obtain ⟨r, h1, h2⟩ := find_now h k hu es l (i + 1) (by simpa using hl) fun j p' e' hp he' => hk (j + 1) p' e' (by simpa using hp) (by simpa using he')
      exact ⟨r, h1, h2.skip hs⟩

theorem key_find {t : TypeId} {ka : Bool} {kt vt : CT} (h : keyCT P t = some (ka, kt)) (k : kt.den) (w : World) (es : List MapEntry) (l : List (kt.den × vt.den)) (hl : es.length = l.length)
    (hk : ∀ (j : Nat) p e, l[j]? = some p → es[j]? = some e → e.key = asV ka (kt.vals p.1)) : ∃ r, (Instr.findKey t (asV ka (kt.vals k)) es).run P w = .ok r w ∧ Found es l k 0 r := by
  have h' := h
  unfold keyCT at h'
  split at h'
  · rename_i fs hu
    have hnow : ∀ (es : List MapEntry), Instr.findNow (.struct fs) (asV ka (kt.vals k)) es 0 = none ∨ es = [] := by
      intro es
      cases es with
      | nil => exact .inr rfl
      | cons e es => left; simp [Instr.findNow, Instr.sameNow]
    rcases hnow es with hn | rfl
    · obtain ⟨r, h1, h2⟩ := find_asking h k w es l 0 hl hk
      refine ⟨r, ?_, h2⟩
      simp only [Instr.findKey, Sem.run_bind, run_underlying hu, Result.andThen_ok, hn]
      exact h1
    · have : l = [] := List.eq_nil_of_length_eq_zero hl.symm
      subst this
      refine ⟨none, ?_, .inl ⟨rfl, rfl, fun _ => rfl⟩⟩
      simp only [Instr.findKey, Sem.run_bind, run_underlying hu, Result.andThen_ok, Instr.findNow, Sem.run_pure]
  · cases hs : scalT P t with
    | none => rw [hs] at h'; cases h'
    | some c =>
      rw [hs] at h'
      simp only [Option.map_some, Option.some.injEq, Prod.mk.injEq] at h'
      obtain ⟨rfl, rfl⟩ := h'
      obtain ⟨_, _, _, _, _, d, hu, _⟩ := scalT_one hs
      obtain ⟨r, h1, h2⟩ := find_now hs k hu es l 0 hl hk
      refine ⟨r, ?_, h2⟩
      simp only [Instr.findKey, Sem.run_bind, run_underlying hu, Result.andThen_ok, h1, Sem.run_pure]

/-! The operations. -/
/-- The zero cells of a map's values. -/
def azeroV (P : Program) (e : TypeId) (va : Bool) : Option (List AC) :=
  match P.info? e with
  | some i => if va then match i.zero with
      | some (.agg a) => cvs a.toList
      | _ => none
    else match i.zero with
      | some v => (cv v).map fun c => [c]
      | none => none
  | none => none
theorem azeroV_rel {X : Ctx} {e : TypeId} {va : Bool} {cs : List AC} (h : azeroV P e va = some cs) : ∃ us : List Value, (∀ w, (zeroValue e).run P w = .ok (asV va us) w) ∧ PW (VRc X) cs us := by
  unfold azeroV at h
  split at h
  · rename_i i hi
    split at h
    · rename_i hva
      subst hva
      split at h
      · rename_i a hz
        exact ⟨a.toList, fun w => by simp [zeroValue, typeInfo, hi, hz, asV], cvs_rel X h⟩
      · cases h
    · rename_i hva
      have hva : va = false := by simpa using hva
      subst hva
      split at h
      · rename_i v hz
        cases hc : cv v with
        | none => rw [hc] at h; cases h
        | some c =>
          rw [hc] at h
          simp only [Option.map_some, Option.some.injEq] at h
          subst h
          exact ⟨[v], fun w => by simp [zeroValue, typeInfo, hi, hz, asV], PW.cons (cv_rel X hc) PW.nil⟩
      · cases h
  · cases h
def mapT (P : Program) (t : TypeId) : Option (TypeId × Bool × CT × TypeId × Bool × CT) :=
  match P.underlying t with
  | some (.map k e) => match keyCT P k, ty P e, rowOf P 12 e with
    | some (ka, kt), some (va, n), some vt => if Nat.beq vt.width n && (va || Nat.beq n 1) then some (k, ka, kt, e, va, vt) else none
    | _, _, _ => none
  | _ => none
def cellsOf : Bool → AV → Option (List AC)
  | true, .agg cs => some cs
  | false, .one c => some [c]
  | _, _ => none
def amakeMap (P : Program) (t : TypeId) (nid : Nat) : Option (AV × List (Nat × AB)) :=
  match mapT P t with
  | some (_, ka, kt, _, va, vt) => if kt.flat then some (.one (.mref nid), [(nid, .mp kt vt ka va [])]) else none
  | none => none
def alookup (P : Program) (t : TypeId) (H : Nat → Option AB) (x ix : AV) (ok : Bool) : Option AV :=
  match mapT P t, x with
  | some (_, ka, kt, e, va, vt), .one (.mref i) => match H i with
    | some (.mp kt' vt' ka' va' l) => if hk : kt'.eqb kt = true then if hv : vt'.eqb vt = true then if ka' == ka && va' == va then
        match (cellsOf ka ix).bind kt.un, (azeroV P e va).bind vt.un with
        | some (k, []), some (d, []) =>
          if ok then some (.tup [(va, vt.cells ((alook (vt := vt) k (CT.eq_of_eqb _ _ hk ▸ CT.eq_of_eqb _ _ hv ▸ l)).getD d)), (false, [.bool (alook (vt := vt) k (CT.eq_of_eqb _ _ hk ▸ CT.eq_of_eqb _ _ hv ▸ l)).isSome])])
          else mkAV va (vt.cells ((alook (vt := vt) k (CT.eq_of_eqb _ _ hk ▸ CT.eq_of_eqb _ _ hv ▸ l)).getD d))
        | _, _ => none
      else none else none else none
    | _ => none
  | _, _ => none
def amapSet (P : Program) (t : TypeId) (H : Nat → Option AB) (m ix x : AV) : Option (Nat × AB) :=
  match mapT P t, m with
  | some (_, ka, kt, e, va, vt), .one (.mref i) => match H i with
    | some (.mp kt' vt' ka' va' l) => if hk : kt'.eqb kt = true then if hv : vt'.eqb vt = true then if ka' == ka && va' == va then
        match (cellsOf ka ix).bind kt.un, (cellsOf va x).bind vt.un with
        | some (k, []), some (v, []) => some (i, .mp kt vt ka va (aset k v (CT.eq_of_eqb _ _ hk ▸ CT.eq_of_eqb _ _ hv ▸ l)))
        | _, _ => none
      else none else none else none
    | _ => none
  | _, _ => none

theorem cellsOf_rel {X : Ctx} {ag : Bool} {v : AV} {cs : List AC} (h : cellsOf ag v = some cs) {val : Value} (hv : VR X v val) : ∃ us : List Value, val = asV ag us ∧ PW (VRc X) cs us := by
  unfold cellsOf at h
  split at h
  · injection h with h; subst h
    obtain ⟨ar, rfl, hp⟩ := hv
    exact ⟨ar.toList, by simp [asV], hp⟩
  · injection h with h; subst h
    exact ⟨[val], rfl, PW.cons hv PW.nil⟩
  · cases h
theorem un_all {X : Ctx} {t : CT} {cs : List AC} {v : t.den} (h : t.un cs = some (v, [])) {us : List Value} (hp : PW (VRc X) cs us) : us.length = t.width ∧ RelT t v (fun k y => us[k]? = some y) X.IC := by
  obtain ⟨h1, _, h3⟩ := CT.un_rel t cs v [] us h hp
  exact ⟨by have := hp.1; simp only [List.length_nil, Nat.add_zero] at h1; omega, h3⟩
theorem rel_pw {X : Ctx} {t : CT} {v : t.den} {us : List Value} (hl : us.length = t.width) (h : RelT t v (fun k y => us[k]? = some y) X.IC) : PW (VRc X) (t.cells v) us :=
  ⟨by rw [CT.cells_length, hl], fun j c y hc hy => by
    obtain ⟨y', h1, h2⟩ := RelT.cell t v _ h j c hc
    rw [hy] at h1; injection h1 with h1; subst h1; exact h2⟩
theorem mk_rel {X : Ctx} {ag : Bool} {cs : List AC} {us : List Value} (hp : PW (VRc X) cs us) {v : AV} (h : mkAV ag cs = some v) : VR X v (asV ag us) := by
  unfold mkAV at h
  split at h
  · rename_i ha
    injection h with h; subst h
    subst ha
    exact ⟨us.toArray, rfl, by simpa using hp⟩
  · rename_i ha
    split at h
    · rename_i c
      injection h with h; subst h
      match us, hp.1 with
      | [u], _ =>
        have : asV ag [u] = u := by simp only [asV, if_neg ha]; rfl
        rw [this]; exact hp.2 0 c u rfl rfl
    · cases h
theorem tup_rel {X : Ctx} {ag : Bool} {cs : List AC} {us : List Value} (hp : PW (VRc X) cs us) (h1 : ag = true ∨ us.length = 1) : VRp X (ag, cs) (asV ag us) := by
  cases ag with
  | true => exact ⟨us.toArray, rfl, by simpa using hp⟩
  | false =>
    have hl := h1.resolve_left (by simp)
    match us, hl with
    | [u], _ =>
      have h2 := hp.1
      match cs, h2 with
      | [c], _ => exact ⟨c, rfl, hp.2 0 c u rfl rfl⟩

theorem mapT_spec {t k e : TypeId} {ka va : Bool} {kt vt : CT} (h : mapT P t = some (k, ka, kt, e, va, vt)) : P.underlying t = some (.map k e) ∧ keyCT P k = some (ka, kt) ∧ (va = true ∨ vt.width = 1) ∧ ∃ n, ty P e = some (va, n) ∧ vt.width = n := by
  unfold mapT at h
  split at h
  · rename_i k' e' hu
    split at h
    · rename_i ka' kt' va' n vt' h1 h2 h3
      split at h
      · rename_i hw
        simp only [Bool.and_eq_true, Nat.beq_eq, Bool.or_eq_true] at hw
        simp only [Option.some.injEq, Prod.mk.injEq] at h
        obtain ⟨rfl, rfl, rfl, rfl, rfl, rfl⟩ := h
        exact ⟨hu, h1, hw.2.imp id (fun e => hw.1.trans e), n, h2, hw.1⟩
      · cases h
    · cases h
  · cases h

theorem bindO {α β : Type} {x : Option α} {f : α → Option β} {b : β} (h : x.bind f = some b) : ∃ a, x = some a ∧ f a = some b := by
  cases x with
  | none => cases h
  | some a => exact ⟨a, rfl, h⟩

def mapW (X : Ctx) (i : Nat) (o : Obj) : World := { X.w with heap := X.w.heap.setIfInBounds (X.φ i) o }
theorem mapUpd_one (X : Ctx) (i : Nat) (o : Obj) : OneBlock X i (mapW X i o) :=
  ⟨rfl, rfl, rfl, by simp [mapW], fun k hk => by simp only [mapW, Array.getElem?_setIfInBounds]; rw [if_neg (fun e => hk e.symm)], Nat.le_refl _⟩
theorem mapW_at {X : Ctx} (hX : HRel X) {i : Nat} {b : AB} (hH : X.H i = some b) (hb : b.loc = true) (o : Obj) : (mapW X i o).heap[X.φ i]? = some o := by
  have hlt := hX.ltl i _ hH hb
  simp [mapW, hlt]
theorem put_map_le {X : Ctx} (hX : HRel X) {i : Nat} {kt vt kt' vt' : CT} {ka va ka' va' : Bool} {l : List (kt.den × vt.den)} {l' : List (kt'.den × vt'.den)} (hH : X.H i = some (.mp kt vt ka va l)) (o : Obj) : X.le (X.put i (.mp kt' vt' ka' va' l') (mapW X i o)) :=
  put_le hX hH rfl rfl (mapUpd_one X i o) (fun row l hh => by cases hh)
theorem put_map_rel {X : Ctx} (hX : HRel X) {i : Nat} {kt vt kt' vt' : CT} {ka va ka' va' : Bool} {l : List (kt.den × vt.den)} {l' : List (kt'.den × vt'.den)} (hH : X.H i = some (.mp kt vt ka va l)) (o : Obj)
    (hb : BRel (X.put i (.mp kt' vt' ka' va' l') (mapW X i o)) i (.mp kt' vt' ka' va' l')) : HRel (X.put i (.mp kt' vt' ka' va' l') (mapW X i o)) :=
  HRel.put hX hH rfl rfl (mapUpd_one X i o) (fun row l hh => by cases hh) hb

theorem aset_keys {kt vt : CT} (hf : kt.flat = true) (k : kt.den) (v : vt.den) : ∀ (M : List (kt.den × vt.den)), (k ∈ M.map (·.1) ∧ (aset k v M).map (·.1) = M.map (·.1)) ∨ (k ∉ M.map (·.1) ∧ (aset k v M).map (·.1) = M.map (·.1) ++ [k])
  | [] => .inr ⟨by simp, rfl⟩
  | q :: M => by
    simp only [aset]
    by_cases h : kt.same k q.1 = true
    · rw [if_pos h]
      have e := same_eq kt hf h
      exact .inl ⟨by rw [e]; exact List.mem_cons_self .., rfl⟩
    · rw [if_neg h]
      have hne : k ≠ q.1 := fun e => h (by rw [e]; exact same_refl kt _)
      rcases aset_keys hf k v M with ⟨h1, h2⟩ | ⟨h1, h2⟩
      · exact .inl ⟨List.mem_cons_of_mem _ h1, by rw [List.map_cons, h2]; rfl⟩
      · refine .inr ⟨fun hm => ?_, by rw [List.map_cons, h2]; rfl⟩
        rcases List.mem_cons.1 hm with hm | hm
        · exact hne hm
        · exact h1 hm
theorem aset_nodup {kt vt : CT} (hf : kt.flat = true) (k : kt.den) (v : vt.den) {M : List (kt.den × vt.den)} (h : (M.map (·.1)).Nodup) : ((aset k v M).map (·.1)).Nodup := by
  rcases aset_keys hf k v M with ⟨_, e⟩ | ⟨hn, e⟩
  · rw [e]; exact h
  · rw [e, List.nodup_append]
    exact ⟨h, by simp, fun x hx y hy e => hn (by rw [List.mem_singleton.1 hy] at e; rw [← e]; exact hx)⟩
theorem alook_perm {kt vt : CT} (hf : kt.flat = true) (k : kt.den) {l m : List (kt.den × vt.den)} (h : l.Perm m) : (m.map (·.1)).Nodup → alook k l = alook k m := by
  induction h with
  | nil => intro _; rfl
  | cons a _ ih =>
    intro hn
    simp only [List.map_cons, List.nodup_cons] at hn
    simp only [alook]
    rw [ih hn.2]
  | swap a b l =>
    intro hn
    simp only [List.map_cons, List.nodup_cons, List.mem_cons, not_or] at hn
    simp only [alook]
    by_cases h1 : kt.same k a.1 = true
    · by_cases h2 : kt.same k b.1 = true
      · exact absurd ((same_eq kt hf h1).symm.trans (same_eq kt hf h2)) hn.1.1
      · rw [if_neg h2, if_pos h1, if_pos h1]
    · rw [if_neg h1, if_neg h1]
  | trans h1 h2 ih1 ih2 =>
    intro hn
    rw [ih1 (((h2.map (·.1)).nodup_iff).2 hn), ih2 hn]
theorem aset_perm {kt vt : CT} (hf : kt.flat = true) (k : kt.den) (v : vt.den) {l m : List (kt.den × vt.den)} (h : l.Perm m) : (m.map (·.1)).Nodup → (aset k v l).Perm (aset k v m) := by
  induction h with
  | nil => intro _; exact List.Perm.refl _
  | cons a h ih =>
    intro hn
    simp only [List.map_cons, List.nodup_cons] at hn
    simp only [aset]
    by_cases h1 : kt.same k a.1 = true
    · rw [if_pos h1, if_pos h1]; exact h.cons _
    · rw [if_neg h1, if_neg h1]; exact (ih hn.2).cons _
  | swap a b l =>
    intro hn
    simp only [List.map_cons, List.nodup_cons, List.mem_cons, not_or] at hn
    simp only [aset]
    by_cases h1 : kt.same k a.1 = true
    · by_cases h2 : kt.same k b.1 = true
      · exact absurd ((same_eq kt hf h1).symm.trans (same_eq kt hf h2)) hn.1.1
      · rw [if_pos h1, if_neg h2, if_neg h2, if_pos h1]; exact List.Perm.swap _ _ _
    · by_cases h2 : kt.same k b.1 = true
      · rw [if_neg h1, if_pos h2, if_pos h2, if_neg h1]; exact List.Perm.swap _ _ _
      · rw [if_neg h1, if_neg h2, if_neg h2, if_neg h1]; exact List.Perm.swap _ _ _
  | trans h1 h2 ih1 ih2 =>
    intro hn
    exact (ih1 (((h2.map (·.1)).nodup_iff).2 hn)).trans (ih2 hn)

theorem amakeMap_ok {X : Ctx} (hX : HRel X) {t : TypeId} {nid : Nat} (hnid : X.H nid = none) {v : AV} {u : List (Nat × AB)} (h : amakeMap P t nid = some (v, u)) :
    ∃ b, u = [(nid, b)] ∧ (Instr.makeMap t none).run P X.w = .ok (.map (some X.w.heap.size)) (X.w.alloc (.map #[] 0)) ∧ X.le (X.push nid b (.map #[] 0)) ∧ HRel (X.push nid b (.map #[] 0)) ∧ VR (X.push nid b (.map #[] 0)) v (.map (some X.w.heap.size)) := by
  unfold amakeMap at h
  split at h
  · rename_i k ka kt e va vt hm
    split at h
    · rename_i hf
      simp only [Option.some.injEq, Prod.mk.injEq] at h
      obtain ⟨rfl, rfl⟩ := h
      refine ⟨_, rfl, rfl, push_le hX hnid _ rfl _, HRel.push hX hnid _ rfl _ ⟨hf, #[], 0, ?_, MapOk.nil, by simp, [], List.Perm.refl _, fun j p e hp => by simp at hp⟩, ⟨_, upd_same _ _ _, rfl⟩, ?_⟩
      · simp only [Ctx.push, upd_same]; exact heap_alloc_new X.w _
      · simp only [Ctx.push, upd_same]
    · cases h
  · cases h

def lres (r : Option (Nat × Value)) (z : Value) : Value × Bool := match r with | some (_, v) => (v, true) | none => (z, false)
theorem lookup_run {t k e : TypeId} (hu : P.underlying t = some (.map k e)) {w : World} {b : Nat} {es : Array MapEntry} {clock : Nat} (hb : w.heap[b]? = some (.map es clock)) {kv z : Value} {r : Option (Nat × Value)}
    (hchk : (Instr.checkKey es.isEmpty 10000 k kv).run P w = .ok () w) (hr : (Instr.findKey k kv es.toList).run P w = .ok r w) (hz : (zeroValue e).run P w = .ok z w) (ok : Bool) :
    (Instr.lookup t (.map (some b)) kv ok).run P w = .ok (if ok then .tuple #[(lres r z).1, .bool (lres r z).2] else (lres r z).1) w := by
  simp only [Instr.lookup, Sem.run_bind, run_underlying hu, Result.andThen_ok, MapKept.run_getObj_map hb, Sem.run_pure, hchk, hr]
  cases r with
  | none => simp only [Sem.run_bind, hz, Result.andThen_ok, Sem.run_pure, lres]
  | some q => obtain ⟨a, v⟩ := q; simp only [Sem.run_bind, Sem.run_pure, Result.andThen_ok, lres]

theorem alookup_ok {X : Ctx} (hX : HRel X) {t : TypeId} {x ix : AV} {ok : Bool} {v : AV} {xv iv : Value} (hx : VR X x xv) (hi : VR X ix iv) (h : alookup P t X.H x ix ok = some v) :
    ∃ val, (Instr.lookup t xv iv ok).run P X.w = .ok val X.w ∧ VR X v val := by
  unfold alookup at h
  split at h
  · rename_i k0 ka kt e va vt i hm
    obtain ⟨hu, hkey, hva, n, hty, hwn⟩ := mapT_spec hm
    split at h
    · rename_i kt' vt' ka' va' l hH
      split at h
      · rename_i hk
        have ek := CT.eq_of_eqb _ _ hk
        subst ek
        split at h
        · rename_i hv
          have ev := CT.eq_of_eqb _ _ hv
          subst ev
          split at h
          · rename_i hab
            simp only [Bool.and_eq_true, beq_iff_eq] at hab
            obtain ⟨rfl, rfl⟩ := hab
            split at h
            · rename_i k d h1 h2
              obtain ⟨kc, hkc, hku⟩ := bindO h1
              obtain ⟨dc, hdc, hdu⟩ := bindO h2
              obtain ⟨us, rfl, hpu⟩ := cellsOf_rel hkc hi
              obtain ⟨hul, hur⟩ := un_all hku hpu
              obtain ⟨hf, es, clock, hb1, hbk, hnd, l', hpm, hb3⟩ := hX.blk i _ hH
              have hb2 := hbk.1.trans hpm.length_eq.symm
              have eus := flat_vals kt' k us hf hul hur
              subst eus
              obtain ⟨_, rfl⟩ := hx
              obtain ⟨zs, hzr, hzp⟩ := azeroV_rel (X := X) hdc
              obtain ⟨hzl, hzrel⟩ := un_all hdu hzp
              obtain ⟨z, ez⟩ : ∃ z, z = asV va' zs := ⟨_, rfl⟩
              rw [← ez] at hzr
              obtain ⟨r, hr, hfound⟩ := key_find (P := P) hkey k X.w es.toList l' (by simpa using hb2) fun j p e hp he => (hb3 j p e hp (by simpa using he)).1
              have hal := alook_perm hf k hpm hnd
              have hchk := key_check (P := P) hkey k es.isEmpty X.w
              have hl0 := lookup_run (P := P) hu hb1 hchk hr (hzr X.w) ok
              have hzv : ∃ uz : List Value, z = asV va' uz ∧ uz.length = vt'.width ∧ RelT vt' d (fun k y => uz[k]? = some y) X.IC := ⟨zs, ez, hzl, hzrel⟩
              have key : (lres r z).2 = (alook (vt := vt') k l).isSome ∧ ∃ uz : List Value, (lres r z).1 = asV va' uz ∧ uz.length = vt'.width ∧ RelT vt' ((alook (vt := vt') k l).getD d) (fun k y => uz[k]? = some y) X.IC := by
                rw [← hal]
                rcases hfound with ⟨rfl, ha, _⟩ | ⟨j, e', p, rfl, he, hp, _, ha, _⟩
                · exact ⟨by rw [ha]; rfl, by rw [ha]; exact hzv⟩
                · obtain ⟨_, uz, g2, g3, g4⟩ := hb3 j p e' hp (by simpa using he)
                  exact ⟨by rw [ha]; rfl, by rw [ha]; exact ⟨uz, g2, g3, g4⟩⟩
              obtain ⟨hS, uz, ez2, hzl2, hzr2⟩ := key
              rw [ez2, hS] at hl0
              have hpw := rel_pw hzl2 hzr2
              split at h
              · rename_i hok
                subst hok
                injection h with h; subst h
                refine ⟨_, hl0, _, rfl, ?_⟩
                exact PW.cons (tup_rel hpw (hva.imp id (fun e => hzl2.trans e))) (PW.cons ⟨_, rfl, rfl⟩ PW.nil)
              · rename_i hok
                refine ⟨_, hl0, ?_⟩
                rw [if_neg hok]
                exact mk_rel hpw h
            · cases h
          · cases h
        · cases h
      · cases h
    · cases h
  · cases h

theorem amapSet_ok {X : Ctx} (hX : HRel X) {t : TypeId} {m ix x : AV} {mv iv xv : Value} (hm : VR X m mv) (hi : VR X ix iv) (hx : VR X x xv) {u : Nat × AB} (h : amapSet P t X.H m ix x = some u) :
    ∃ w', (Instr.mapUpdate t mv iv xv).run P X.w = .ok () w' ∧ X.le (X.put u.1 u.2 w') ∧ HRel (X.put u.1 u.2 w') := by
  unfold amapSet at h
  split at h
  · rename_i k0 ka kt e va vt i hmt
    obtain ⟨hu, hkey, hva, n, hty, hwn⟩ := mapT_spec hmt
    split at h
    · rename_i kt' vt' ka' va' l hH
      split at h
      · rename_i hk
        have ek := CT.eq_of_eqb _ _ hk
        subst ek
        split at h
        · rename_i hv
          have ev := CT.eq_of_eqb _ _ hv
          subst ev
          split at h
          · rename_i hab
            simp only [Bool.and_eq_true, beq_iff_eq] at hab
            obtain ⟨rfl, rfl⟩ := hab
            split at h
            · rename_i k v h1 h2
              injection h with h; subst h
              obtain ⟨kc, hkc, hku⟩ := bindO h1
              obtain ⟨vc, hvc, hvu⟩ := bindO h2
              obtain ⟨us, rfl, hpu⟩ := cellsOf_rel hkc hi
              obtain ⟨hul, hur⟩ := un_all hku hpu
              obtain ⟨hf, es, clock, hb1, hbk, hnd, l', hpm, hb3⟩ := hX.blk i _ hH
              have hlen := hpm.length_eq
              have hb2 := hbk.1.trans hlen.symm
              have hsp := aset_perm hf k v hpm hnd
              have hsn := aset_nodup hf k v hnd
              have eus := flat_vals kt' k us hf hul hur
              subst eus
              obtain ⟨vs, rfl, hpv⟩ := cellsOf_rel hvc hx
              obtain ⟨hvl, hvr⟩ := un_all hvu hpv
              obtain ⟨_, rfl⟩ := hm
              obtain ⟨r, hr, hfound⟩ := key_find (P := P) hkey k X.w es.toList l' (by simpa using hb2) fun j p e hp he => (hb3 j p e hp (by simpa using he)).1
              have hchk := key_check (P := P) hkey k false X.w
              have hset : ∀ o, (setObj (X.φ i) o).run P X.w = .ok () (mapW X i o) := fun o => MapKept.run_setObj_map (P := P) (w := X.w) (r := X.φ i) o hb1
              have hle := fun o => put_map_le (kt' := kt') (vt' := vt') (ka' := ka') (va' := va') (l' := aset k v l) hX hH o
              rcases hfound with ⟨rfl, ha, hs⟩ | ⟨j, e', p, rfl, he, hp, hsame, ha, hs⟩
              · refine ⟨mapW X i (.map (es.push { key := asV ka' (kt'.vals k), val := asV va' vs, born := clock }) (clock + 1)), ?_, hle _, put_map_rel hX hH _ ⟨hf, _, _, mapW_at hX hH rfl _, ?_, hsn, aset k v l', hsp, ?_⟩⟩
                · simp only [Instr.mapUpdate, Sem.run_bind, run_underlying hu, Result.andThen_ok, MapKept.run_getObj_map hb1, hchk, hr, hset]
                · rw [← hsp.length_eq, hs, List.length_append, hlen]; exact hbk.push rfl
                · intro j q e hq he
                  rw [hs] at hq
                  by_cases hj : j < l'.length
                  · rw [List.getElem?_append_left hj] at hq
                    rw [Array.getElem?_push, if_neg (by omega)] at he
                    obtain ⟨g1, us, g2, g3, g4⟩ := hb3 j q e hq he
                    exact ⟨g1, us, g2, g3, RelT.mono vt' q.2 (fun _ _ hh => hh) (hle _).ic g4⟩
                  · have hlt := (List.getElem?_eq_some_iff.1 hq).1
                    simp only [List.length_append, List.length_singleton] at hlt
                    have ej : j = l'.length := by omega
                    subst ej
                    rw [List.getElem?_append_right (Nat.le_refl _), Nat.sub_self] at hq
                    simp only [List.getElem?_cons_zero, Option.some.injEq] at hq
                    subst hq
                    rw [Array.getElem?_push, if_pos hb2.symm] at he
                    injection he with he; subst he
                    exact ⟨rfl, vs, rfl, hvl, RelT.mono vt' v (fun _ _ hh => hh) (hle _).ic hvr⟩
              · have ek := same_eq kt' hf hsame
                have he' : es[j]? = some e' := by simpa using he
                have hkey' := (hb3 j p e' hp he').1
                have hst := key_stays (P := P) hkey k X.w
                have hek : (((es[j]?).map (·.key)).getD (asV ka' (kt'.vals k))) = asV ka' (kt'.vals k) := by
                  rw [he']; simp only [Option.map_some, Option.getD_some]; rw [hkey', ← ek]
                refine ⟨mapW X i (.map (es.modify j fun e => { e with key := asV ka' (kt'.vals k), val := asV va' vs }) clock), ?_, hle _, put_map_rel hX hH _ ⟨hf, _, _, mapW_at hX hH rfl _, ?_, hsn, aset k v l', hsp, ?_⟩⟩
                · simp only [Instr.mapUpdate, Sem.run_bind, run_underlying hu, Result.andThen_ok, MapKept.run_getObj_map hb1, hchk, hr, Nat.zero_add, hek, hst, hset]
                · rw [← hsp.length_eq, hs, List.length_set, hlen]; exact hbk.modify fun _ => rfl
                · intro j2 q e hq he
                  rw [hs] at hq
                  rw [Array.getElem?_modify] at he
                  by_cases hj : j2 = j
                  · subst hj
                    rw [if_pos rfl, he'] at he
                    simp only [Option.map_some, Option.some.injEq] at he
                    subst he
                    have hlt := (List.getElem?_eq_some_iff.1 hp).1
                    rw [List.getElem?_set_self hlt] at hq
                    injection hq with hq; subst hq
                    exact ⟨by simp only; rw [ek], vs, rfl, hvl, RelT.mono vt' v (fun _ _ hh => hh) (hle _).ic hvr⟩
                  · rw [if_neg (fun e => hj e.symm)] at he
                    rw [List.getElem?_set_ne (fun e => hj e.symm)] at hq
                    obtain ⟨g1, us, g2, g3, g4⟩ := hb3 j2 q e hq he
                    exact ⟨g1, us, g2, g3, RelT.mono vt' q.2 (fun _ _ hh => hh) (hle _).ic g4⟩
            · cases h
          · cases h
        · cases h
      · cases h
    · cases h
  · cases h
end
end Go.Eng
