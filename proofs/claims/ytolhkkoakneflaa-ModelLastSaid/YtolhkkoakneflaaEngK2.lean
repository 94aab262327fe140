import Derived.Test.YtolhkkoakneflaaEngK
import Derived.Laws.MakeOwn
set_option linter.unusedVariables false
namespace Go.Eng
open Go Go.RowKit
variable {P : Program}

/-- The zero of a type of rows. -/
def zrow (P : Program) (e : TypeId) (zs : List AC) : Option ((row : CT) × row.den) :=
  match P.info? e, rowOf P 12 e with
  | some i, some row => if Nat.beq row.width i.size && Nat.blt 0 i.size then match row.un zs with
      | some (z, []) => some ⟨row, z⟩
      | _ => none
    else none
  | _, _ => none

/-- make of a slice. -/
def amake (P : Program) (t : TypeId) (nid : Nat) (l c : AV) : Option (AV × List (Nat × AB) × List Bool) :=
  match l, c with
  | .one (.int _ l), .one (.int _ c) => match P.underlying t with
    | some (.slice e) => match P.info? e, azero P e with
      | some i, some zs => if Nat.beq zs.length i.size then
          match zrow P e zs with
          | some ⟨row, z⟩ => some (.one (.asl row nid 0 l.toNat c.toNat), [(nid, .arr row (List.replicate c.toNat z))], [decide (0 ≤ l ∧ l ≤ c ∧ (i.bytes : Int) * c ≤ 281474976710656 ∧ c ≤ 9223372036854775807)])
          | none => some (.one (.csl nid 0 l.toNat c.toNat), [(nid, .cells (zrep zs c.toNat))], [decide (0 ≤ l ∧ l ≤ c ∧ (i.bytes : Int) * c ≤ 281474976710656 ∧ c ≤ 9223372036854775807)])
        else none
      | _, _ => none
    | _ => none
  | _, _ => none

theorem amake_ok {X : Ctx} (hX : HRel X) {t : TypeId} {nid : Nat} (hnid : X.H nid = none) {l c v : AV} {u : List (Nat × AB)} {cs : List Bool} {lv cv : Value} (hl : VR X l lv) (hc : VR X c cv)
    (h : amake P t nid l c = some (v, u, cs)) (hcs : ∀ c ∈ cs, c = true) :
    ∃ val X', (Instr.makeSlice t lv cv).run P X.w = .ok val X'.w ∧ X.le X' ∧ HRel X' ∧ X'.H = u.foldl (fun H p => upd H p.1 (some p.2)) X.H ∧ VR X' v val := by
  unfold amake at h
  split at h
  · rename_i kl l kc c
    split at h
    · rename_i e hu
      split at h
      · rename_i i zs hi hz
        split at h
        · rename_i hzl
          simp only [Nat.beq_eq] at hzl
          cases hl
          cases hc
          obtain ⟨z, hzi, hzp⟩ := azero_info (X := X) hz hi
          have hzs : z.cells.size = i.size := by rw [← Array.length_toList, ← hzp.1]; exact hzl
          split at h
          · rename_i row z0 hzr
            simp only [Option.some.injEq, Prod.mk.injEq] at h
            obtain ⟨rfl, rfl, rfl⟩ := h
            have hb := hcs _ (List.mem_cons_self ..)
            simp only [decide_eq_true_eq] at hb
            have hrun := run_make (P := P) X.w t e i z hu hi hzi kl kc l c hb.1 hb.2.1 hb.2.2.1 hb.2.2.2
            unfold zrow at hzr
            rw [hi] at hzr
            split at hzr
            · rename_i i' row' hi' hrow'
              injection hi' with hi'; subst hi'
              split at hzr
              · rename_i hwid
                simp only [Bool.and_eq_true, Nat.beq_eq, Nat.blt_eq] at hwid
                split at hzr
                · rename_i z' hun
                  simp only [Option.some.injEq, Sigma.mk.injEq] at hzr
                  obtain ⟨rfl, hzz⟩ := hzr
                  have hzz := eq_of_heq hzz
                  subst hzz
                  obtain ⟨_, _, hrel⟩ := CT.un_rel (X := X) row' zs z' [] z.cells.toList hun hzp
                  have hle := push_le hX hnid (.arr row' (List.replicate c.toNat z')) rfl (.cells (madeCells z.cells (c.toNat * i.size)) e)
                  refine ⟨_, X.push nid (.arr row' (List.replicate c.toNat z')) (.cells (madeCells z.cells (c.toNat * i.size)) e), hrun, hle, HRel.push hX hnid _ rfl _ ?_, rfl, ⟨_, by simp only [Ctx.push, upd_same]; rfl, by simp only [Ctx.push, upd_same, Nat.zero_mul], by omega, by simp only [maxLen]; omega, by simp⟩⟩
                  refine ⟨madeCells z.cells (c.toNat * i.size), e, by simp only [Ctx.push, upd_same]; exact heap_alloc_new X.w _, by rw [size_madeCells, List.length_replicate, hwid.1], fun j x hj => ?_⟩
                  have hjc : j < c.toNat := by have := (List.getElem?_eq_some_iff.1 hj).1; simpa using this
                  have hx : x = z' := by
                    rw [List.getElem?_replicate, if_pos hjc] at hj
                    injection hj with hj; exact hj.symm
                  subst hx
                  refine RelT.mono_lt0 row' x (fun k y hk hy => ?_) (fun a y h => hle.ic a y h) hrel
                  have h1 : (j + 1) * row'.width ≤ c.toNat * row'.width := Nat.mul_le_mul_right _ hjc
                  rw [Nat.add_mul] at h1
                  have hlt : j * row'.width + k < c.toNat * i.size := by rw [← hwid.1]; omega
                  have hmod : (j * row'.width + k) % z.cells.size = k := by
                    rw [hzs, ← hwid.1, Nat.add_comm, Nat.add_mul_mod_self_right, Nat.mod_eq_of_lt hk]
                  have hkz : k < z.cells.size := by rw [hzs, ← hwid.1]; exact hk
                  have e1 : (madeCells z.cells (c.toNat * i.size))[j * row'.width + k]? = some (z.cells[(j * row'.width + k) % z.cells.size]!) := by
                    simp [madeCells, hlt]
                  rw [e1, hmod, getElem!_pos z.cells _ hkz]
                  rw [Array.getElem?_toList, getElem?_pos z.cells _ hkz] at hy
                  exact hy
                · cases hzr
              · cases hzr
            · cases hzr
          · rename_i hzr
            simp only [Option.some.injEq, Prod.mk.injEq] at h
            obtain ⟨rfl, rfl, rfl⟩ := h
            have hb := hcs _ (List.mem_cons_self ..)
            simp only [decide_eq_true_eq] at hb
            have hrun := run_make (P := P) X.w t e i z hu hi hzi kl kc l c hb.1 hb.2.1 hb.2.2.1 hb.2.2.2
            have hpw : PW (VRc X) (zrep zs c.toNat) (madeCells z.cells (c.toNat * i.size)).toList := by
              refine ⟨by rw [zrep_len, hzl]; simp [size_madeCells], fun j a y ha hy => ?_⟩
              have hj : j < c.toNat * i.size := by
                have := (List.getElem?_eq_some_iff.1 hy).1
                rwa [Array.length_toList, size_madeCells] at this
              rw [zrep_get zs _ _ (by rw [hzl]; exact hj)] at ha
              have hpos : 0 < i.size := by
                rcases Nat.eq_zero_or_pos i.size with h0 | h0
                · rw [h0, Nat.mul_zero] at hj; omega
                · exact h0
              have hm : j % zs.length < z.cells.size := by rw [hzs, hzl]; exact Nat.mod_lt _ hpos
              refine hzp.2 (j % zs.length) a y ha ?_
              rw [Array.getElem?_toList] at hy ⊢
              have hy' : (madeCells z.cells (c.toNat * i.size))[j]? = some (z.cells[j % z.cells.size]!) := by
                simp [madeCells, hj]
              rw [hy'] at hy
              rw [hzl, ← hzs] at hm ⊢
              rw [getElem?_pos z.cells _ hm, ← hy, getElem!_pos z.cells _ hm]
            obtain ⟨h1, h2, _⟩ := alloc_ok hX hnid hpw e
            refine ⟨_, X.push nid (.cells (zrep zs c.toNat)) (.cells (madeCells z.cells (c.toNat * i.size)) e), hrun, h1, h2, rfl, ⟨⟨_, by simp only [Ctx.push, upd_same]; rfl, rfl⟩, by simp only [Ctx.push, upd_same], by omega, by simp only [maxLen]; omega⟩⟩
        · cases h
      · cases h
    · cases h
  · cases h

/-- make of a slice without elements, that is appended to. -/
def amake0 (P : Program) (t : TypeId) (nid : Nat) (c : AV) : Option (AV × List (Nat × AB) × List Bool) :=
  match c with
  | .one (.int _ c) => match P.underlying t with
    | some (.slice e) => match P.info? e, azero P e with
      | some i, some zs => if Nat.beq zs.length i.size then
          match zrow P e zs with
          | some ⟨row, z⟩ => some (.one (.sl row [] (.own nid 0)), [(nid, .tok e 0)], [decide ((0 : Int) ≤ 0 ∧ 0 ≤ c ∧ (i.bytes : Int) * c ≤ 281474976710656 ∧ c ≤ 9223372036854775807)])
          | none => none
        else none
      | _, _ => none
    | _ => none
  | _ => none
theorem amake0_ok {X : Ctx} (hX : HRel X) {t : TypeId} {nid : Nat} (hnid : X.H nid = none) {kl : IntKind} {c v : AV} {u : List (Nat × AB)} {cs : List Bool} {cv : Value} (hc : VR X c cv)
    (h : amake0 P t nid c = some (v, u, cs)) (hcs : ∀ c ∈ cs, c = true) :
    ∃ val X', (Instr.makeSlice t (.int kl 0) cv).run P X.w = .ok val X'.w ∧ X.le X' ∧ HRel X' ∧ X'.H = u.foldl (fun H p => upd H p.1 (some p.2)) X.H ∧ VR X' v val := by
  unfold amake0 at h
  split at h
  · rename_i kc c
    split at h
    · rename_i e hu
      split at h
      · rename_i i zs hi hz
        split at h
        · rename_i hzl
          simp only [Nat.beq_eq] at hzl
          cases hc
          obtain ⟨z, hzi, hzp⟩ := azero_info (X := X) hz hi
          have hzs : z.cells.size = i.size := by rw [← Array.length_toList, ← hzp.1]; exact hzl
          split at h
          · rename_i row z0 hzr
            simp only [Option.some.injEq, Prod.mk.injEq] at h
            obtain ⟨rfl, rfl, rfl⟩ := h
            have hb := hcs _ (List.mem_cons_self ..)
            simp only [decide_eq_true_eq] at hb
            have hrun := run_make (P := P) X.w t e i z hu hi hzi kl kc 0 c hb.1 hb.2.1 hb.2.2.1 hb.2.2.2
            have hwid : row.width = i.size := by
              unfold zrow at hzr
              rw [hi] at hzr
              split at hzr
              · rename_i i' row' hi' hrow'
                injection hi' with hi'; subst hi'
                split at hzr
                · rename_i hw
                  simp only [Bool.and_eq_true, Nat.beq_eq, Nat.blt_eq] at hw
                  split at hzr
                  · simp only [Option.some.injEq, Sigma.mk.injEq] at hzr
                    obtain ⟨rfl, _⟩ := hzr
                    exact hw.1
                  · cases hzr
                · cases hzr
              · cases hzr
            have hs : TokStep X nid X.w.heap.size (0 * row.width) e 0 (X.w.alloc (.cells (madeCells z.cells (c.toNat * i.size)) e)) := by
              refine ⟨rfl, rfl, rfl, ?_, fun k hk _ => Below.heap_alloc X.w _ k hk, .inl rfl, ?_, .inl hnid, fun q hq => absurd (hX.frlt _ q hq) (Nat.lt_irrefl _)⟩
              · rw [World.size_alloc]; omega
              · rw [World.size_alloc]; omega
            have hfr : X.w.heap.size < X.w.heap.size → ∃ q, X.fr X.w.heap.size = some q := fun h => absurd h (Nat.lt_irrefl _)
            refine ⟨_, X.tok nid X.w.heap.size (0 * row.width) e 0 _, hrun, tok_le hX hs hfr, hX.tok hs hfr, rfl, ?_⟩
            exact tok_value (l := ([] : List row.den)) (vs := []) (n := 0) hX hs hfr (heap_alloc_new X.w _) (.inl rfl) rfl (Nat.zero_le _) (by simp only [maxLen]; omega) (by rw [size_madeCells, hwid]) (by simp) ⟨by simp, fun j x hj => by simp at hj⟩
          · cases h
        · cases h
      · cases h
    · cases h
  · cases h

/-- What is to be copied: how many elements there are, and the first so many's cells. -/
def srcLen : AC → Option Nat
  | .nils => some 0
  | .sl _ l _ => some l.length
  | .csl _ _ len _ => some len
  | _ => none

def srcCells (H : Nat → Option AB) (s : Nat) (n : Nat) : AC → Option (List AC)
  | .nils => some []
  | .sl row l _ => if Nat.beq row.width s then some ((l.take n).flatMap row.cells) else none
  | .csl j off len _ => match H j with
    | some (.cells cs) => if ((cs.drop off).take (n * s)).all AC.known then some ((cs.drop off).take (n * s)) else none
    | _ => none
  | _ => none

/-- What is to be copied, as rows. -/
def srcRows (H : Nat → Option AB) (row : CT) : AC → Option (List row.den)
  | .nils => some []
  | .sl row' l _ => if h : row'.eqb row = true then some (castL row' row h l) else none
  | .asl row' j off len _ => if row'.eqb row then aslRows H row j off len else none
  | _ => none

def acopy (P : Program) (t : TypeId) (H : Nat → Option AB) (d x : AC) : Option (AV × List (Nat × AB)) :=
  match d, elemOf P t, srcLen x with
  | .asl row i off len _, some (_, s), _ => match srcRows H row x, H i with
    | some src, some (.arr row' l) => if h : row'.eqb row = true then
        if Nat.beq row.width s && Nat.blt 0 s then
          some (.one (.int .i64 (Nat.min src.length len : Nat)), [(i, .arr row ((castL row' row h l).take off ++ (src.take (Nat.min src.length len) ++ (castL row' row h l).drop (off + (src.take (Nat.min src.length len)).length))))])
        else none
      else none
    | _, _ => none
  | .csl i off len _, some (_, s), some m => match srcCells H s (Nat.min m len) x, H i with
    | some src, some (.cells cs) =>
      if Nat.beq src.length (Nat.min m len * s) && Nat.ble (off + src.length) cs.length && Nat.blt 0 s then
        some (.one (.int .i64 (Nat.min m len : Nat)), [(i, .cells (cs.take off ++ (src ++ cs.drop (off + src.length))))])
      else none
    | _, _ => none
  | _, _, _ => none

theorem src_ok {X : Ctx} (hX : HRel X) {s m len : Nat} (hs : 0 < s) {x : AC} (hm : srcLen x = some m) {src : List AC} (h : srcCells X.H s (Nat.min m len) x = some src) (hl : src.length = Nat.min m len * s) {xv : Value} (hx : VRc X x xv) :
    (Builtin.lenOf xv).run P X.w = .ok m X.w ∧ ∃ vals, (Builtin.firstCells s (Nat.min m len) xv).run P X.w = .ok vals X.w ∧ PW (VRc X) src vals.toList ∧ ∀ u ∈ vals.toList, u.oneCell' = true := by
  unfold srcCells at h
  split at h
  · simp only [Option.some.injEq] at h
    subst h
    cases hx
    simp only [srcLen, Option.some.injEq] at hm
    subst hm
    exact ⟨by simp [Builtin.lenOf], #[], by simp [Builtin.firstCells], PW.nil, by simp⟩
  · rename_i row l md
    split at h
    · rename_i hw
      simp only [Nat.beq_eq] at hw
      simp only [Option.some.injEq] at h
      subst h
      simp only [srcLen, Option.some.injEq] at hm
      subst hm
      obtain ⟨A, cap, vs, rfl, hc, _, hlr, hone, hat⟩ := sl_vals hx
      have hpw := hlr.pw (X := X) (by omega)
      have htk : (l.take (Nat.min l.length len)).flatMap row.cells = (l.flatMap row.cells).take (Nat.min l.length len * s) := by
        apply List.ext_getElem?
        intro q
        have hq : q = (q / row.width) * row.width + q % row.width := by rw [Nat.mul_comm]; exact (Nat.div_add_mod ..).symm
        have hk : q % row.width < row.width := Nat.mod_lt _ (by omega)
        by_cases hlt : q < Nat.min l.length len * s
        · rw [List.getElem?_take_of_lt hlt]
          have hj : q / row.width < Nat.min l.length len := (Nat.div_lt_iff_lt_mul (by omega)).2 (by rw [hw]; exact hlt)
          rw [hq, flat_get _ _ _ hk, flat_get _ _ _ hk, List.getElem?_take_of_lt hj]
        · rw [List.getElem?_take_eq_none (by omega), List.getElem?_eq_none (by omega)]
      rw [htk] at hl ⊢
      refine ⟨by simp [Builtin.lenOf], ?_⟩
      rcases hat with h0 | ⟨b, o, rfl, hcell⟩
      · have hz : Nat.min l.length len = 0 := by rw [h0]; exact Nat.zero_min _
        rw [hz]
        cases A with
        | none => exact ⟨#[], by simp [Builtin.firstCells], by simpa using PW.nil, by simp⟩
        | some a =>
          have := run_loadCells_list (P := P) X.w a [] (by simp)
          exact ⟨#[], by simpa [Builtin.firstCells] using this, by simpa using PW.nil, by simp⟩
      · have hln : (vs.take (Nat.min l.length len * s)).length = Nat.min l.length len * s := by
          rw [← (hpw.take _).1]; exact hl
        have := run_loadCells_list (P := P) X.w ⟨b, o, none⟩ (vs.take (Nat.min l.length len * s)) (fun j u hj => by
          rw [Addr.add_lit]
          have hlt : j < Nat.min l.length len * s := by rw [← hln]; exact (List.getElem?_eq_some_iff.1 hj).1
          rw [List.getElem?_take_of_lt hlt] at hj
          exact hcell j u hj)
        rw [hln] at this
        refine ⟨(vs.take (Nat.min l.length len * s)).toArray, by simpa [Builtin.firstCells] using this, by simpa using hpw.take _, fun u hu => hone u (List.mem_of_mem_take (by simpa using hu))⟩
    · cases h
  · rename_i j off len' cap
    split at h
    · rename_i cs hH
      split at h
      · rename_i hkn
        simp only [Option.some.injEq] at h
        subst h
        simp only [srcLen, Option.some.injEq] at hm
        subst hm
        obtain ⟨_, rfl, _, _⟩ := hx
        obtain ⟨c, t', h1, h2⟩ := hX.blk j _ hH
        have hpw : PW (VRc X) ((cs.drop off).take (Nat.min len' len * s)) ((c.toList.drop off).take (Nat.min len' len * s)) := (h2.drop off).take _
        have hln : ((c.toList.drop off).take (Nat.min len' len * s)).length = Nat.min len' len * s := by rw [← hpw.1]; exact hl
        have := run_loadCells_list (P := P) X.w ⟨X.φ j, off, none⟩ ((c.toList.drop off).take (Nat.min len' len * s)) (fun q u hq => by
          rw [Addr.add_lit, cell_of_row _ _ _ c t' (0, 0) h1, ← Array.getElem?_toList]
          have hlt : q < Nat.min len' len * s := by rw [← hln]; exact (List.getElem?_eq_some_iff.1 hq).1
          rw [List.getElem?_take_of_lt hlt, List.getElem?_drop] at hq
          exact hq)
        rw [hln] at this
        refine ⟨by simp [Builtin.lenOf], ((c.toList.drop off).take (Nat.min len' len * s)).toArray, by simpa [Builtin.firstCells] using this, by simpa using hpw, fun u hu => ?_⟩
        have hu : u ∈ (c.toList.drop off).take (Nat.min len' len * s) := by simpa using hu
        obtain ⟨q, hq⟩ := List.getElem?_of_mem hu
        obtain ⟨a, ha, hr⟩ := hpw.get hq
        exact (AC.known_one (List.all_eq_true.1 hkn a (List.mem_of_getElem? ha)) hr).1
      · cases h
    · cases h
  · cases h

theorem srcRows_ok {X : Ctx} (hX : HRel X) {row : CT} (hs : 0 < row.width) {x : AC} {src : List row.den} (h : srcRows X.H row x = some src) {n : Nat} (hn : n ≤ src.length) {xv : Value} (hx : VRc X x xv) :
    (Builtin.lenOf xv).run P X.w = .ok src.length X.w ∧ ∃ vals : List Value, (Builtin.firstCells row.width n xv).run P X.w = .ok vals.toArray X.w ∧ LRel row (src.take n) vals X.IC ∧ ∀ u ∈ vals, u.oneCell' = true := by
  have key : ∀ (l : List row.den) (v : Value), SlVals X row l v → ∀ n, n ≤ l.length → (Builtin.lenOf v).run P X.w = .ok l.length X.w ∧ ∃ vals : List Value, (Builtin.firstCells row.width n v).run P X.w = .ok vals.toArray X.w ∧ LRel row (l.take n) vals X.IC ∧ ∀ u ∈ vals, u.oneCell' = true := by
    intro l v ⟨A, cap, vs, e, hc, hm, hl, hone, hat⟩ n hn
    subst e
    refine ⟨by simp [Builtin.lenOf], vs.take (n * row.width), ?_, ⟨?_, fun j x hj => ?_⟩, fun u hu => hone u (List.mem_of_mem_take hu)⟩
    · rcases hat with h0 | ⟨b, o, rfl, hcell⟩
      · have hz : n = 0 := by omega
        subst hz
        cases A with
        | none => simp [Builtin.firstCells]
        | some a =>
          have := run_loadCells_list (P := P) X.w a [] (by simp)
          simpa [Builtin.firstCells] using this
      · have hln : (vs.take (n * row.width)).length = n * row.width := by
          rw [List.length_take, hl.1]
          exact Nat.min_eq_left (Nat.mul_le_mul_right _ hn)
        have := run_loadCells_list (P := P) X.w ⟨b, o, none⟩ (vs.take (n * row.width)) (fun j u hj => by
          rw [Addr.add_lit]
          have hlt : j < n * row.width := by rw [← hln]; exact (List.getElem?_eq_some_iff.1 hj).1
          rw [List.getElem?_take_of_lt hlt] at hj
          exact hcell j u hj)
        rw [hln] at this
        simpa [Builtin.firstCells] using this
    · rw [List.length_take, List.length_take, hl.1, Nat.min_eq_left hn]
      exact Nat.min_eq_left (Nat.mul_le_mul_right _ hn)
    · have hjl : j < n := by
        have := (List.getElem?_eq_some_iff.1 hj).1
        rw [List.length_take] at this; omega
      rw [List.getElem?_take_of_lt hjl] at hj
      refine RelT.mono_lt0 row x (fun k y hk hy => ?_) (fun _ _ h => h) (hl.2 j x hj)
      have : (j + 1) * row.width ≤ n * row.width := Nat.mul_le_mul_right _ hjl
      rw [Nat.add_mul] at this
      rw [List.getElem?_take_of_lt (by omega)]; exact hy
  unfold srcRows at h
  split at h
  · injection h with h; subst h
    cases hx
    exact key [] _ ⟨none, 0, [], rfl, Nat.le_refl _, Nat.zero_le _, ⟨by simp, fun j x hj => by simp at hj⟩, (fun u hu => by cases hu), .inl rfl⟩ n hn
  · split at h
    · rename_i hr
      have er := CT.eq_of_eqb _ _ hr
      subst er
      injection h with h; subst h
      exact key _ _ (sl_vals hx) n hn
    · cases h
  · split at h
    · rename_i row' j off len cap hr
      have er := CT.eq_of_eqb _ _ hr
      subst er
      refine key src _ (rowsIn_vals (P := P) (e := 0) (row := row') hX (x := .asl row' j off len cap) ?_ hx) n hn
      simp only [rowsIn, h, Option.map_some]
    · cases h
  · cases h

theorem acopy_ok {X : Ctx} (hX : HRel X) {t t' ty : TypeId} {d x : AC} {v : AV} {u : List (Nat × AB)} {dv xv : Value} (hd : VRc X d dv) (hx : VRc X x xv) (h : acopy P t X.H d x = some (v, u)) :
    ∃ val X', (Builtin.copy_ #[t, t'] ty #[dv, xv]).run P X.w = .ok val X'.w ∧ X.le X' ∧ HRel X' ∧ X'.H = u.foldl (fun H p => upd H p.1 (some p.2)) X.H ∧ VR X' v val := by
  unfold acopy at h
  split at h
  · rename_i row i off len cap e s he
    split at h
    · rename_i src row' l hsrc hH
      split at h
      · rename_i hr
        have er := CT.eq_of_eqb _ _ hr
        subst er
        split at h
        · rename_i hcond
          simp only [Bool.and_eq_true, Nat.beq_eq, Nat.blt_eq] at hcond
          simp only [Option.some.injEq, Prod.mk.injEq] at h
          obtain ⟨rfl, rfl⟩ := h
          obtain ⟨hu, hs⟩ := elemOf_spec he
          obtain ⟨l', hH', rfl, hlc, hcm, hfit⟩ := hd
          rw [hH] at hH'
          simp only [Option.some.injEq, AB.arr.injEq, heq_eq_eq, true_and] at hH'
          subst hH'
          have hml : (src.take (Nat.min src.length len)).length = Nat.min src.length len := by
            rw [List.length_take]; exact Nat.min_eq_left (Nat.min_le_left _ _)
          have hmle : Nat.min src.length len ≤ len := Nat.min_le_right _ _
          obtain ⟨h1, vals, h2, h3, h4⟩ := srcRows_ok (P := P) hX (by omega) hsrc (n := Nat.min src.length len) (Nat.min_le_left _ _) hx
          obtain ⟨w', g1, g2, g3⟩ := put_arr_ok (P := P) hX (p := off) hH h3 h4 (by rw [hml]; omega)
          refine ⟨_, X.put i _ w', ?_, g2, g3, rfl, rfl⟩
          rw [hcond.1] at g1 h2
          simp [Builtin.copy_, h1, hs, h2, g1, Ctx.put, goInt, run_underlying hu, hcond.1]
        · cases h
      · cases h
    · cases h
  · rename_i i off len cap e s m he hm
    split at h
    · rename_i src cs hsrc hH
      split at h
      · rename_i hcond
        simp only [Bool.and_eq_true, Nat.beq_eq, Nat.ble_eq, Nat.blt_eq] at hcond
        obtain ⟨⟨hl, hfit⟩, hpos⟩ := hcond
        simp only [Option.some.injEq, Prod.mk.injEq] at h
        obtain ⟨rfl, rfl⟩ := h
        obtain ⟨hu, hs⟩ := elemOf_spec he
        obtain ⟨h1, vals, h2, h3, h4⟩ := src_ok (P := P) hX hpos hm hsrc hl hx
        obtain ⟨w', g1, g2, g3⟩ := put_cells_ok (P := P) hX (off := off) hH h3 h4 hfit
        obtain ⟨_, rfl, _, _⟩ := hd
        refine ⟨_, X.put i _ w', ?_, g2, g3, rfl, rfl⟩
        simp [Builtin.copy_, h1, hs, h2, g1, Ctx.put, goInt, run_underlying hu]
      · cases h
    · cases h
  · cases h
end Go.Eng
