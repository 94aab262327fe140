import Derived.Test.YtcigjehfmiiolaaEngK
import Derived.Laws.MakeOwn
set_option linter.unusedVariables false
namespace Go.Eng
open Go Go.RowKit
variable {P : Program}

/-- make of a slice. -/
def amake (P : Program) (t : TypeId) (nid : Nat) (l c : AV) : Option (AV × List (Nat × AB) × List Bool) :=
  match l, c with
  | .one (.int _ l), .one (.int _ c) => match P.underlying t with
    | some (.slice e) => match P.info? e, azero P e with
      | some i, some zs => if Nat.beq zs.length i.size then
          some (.one (.csl nid 0 l.toNat c.toNat), [(nid, .cells (zrep zs c.toNat))], [decide (0 ≤ l ∧ l ≤ c ∧ (i.bytes : Int) * c ≤ 281474976710656 ∧ c ≤ 9223372036854775807)])
        else none
      | _, _ => none
    | _ => none
  | _, _ => none

theorem amake_ok {X : Ctx} (hX : HRel X) {t : TypeId} {nid : Nat} (hnid : X.H nid = none) {l c v : AV} {u : List (Nat × AB)} {cs : List Bool} {lv cv : Value} (hl : VR X l lv) (hc : VR X c cv)
    (h : amake P t nid l c = some (v, u, cs)) (hcs : ∀ c ∈ cs, c = true) :
    ∃ val X', (Instr.makeSlice t lv cv).run P X.w = .ok val X'.w ∧ X.le X' ∧ HRel X' ∧ X'.H = u.foldl (fun H p => upd H p.1 (some p.2)) X.H ∧ VR X' v val := by
  unfold amake at h
  split at h
  · rename_i kl l kc c
    split at h
    · rename_i e hu
      split at h
      · rename_i i zs hi hz
        split at h
        · rename_i hzl
          simp only [Nat.beq_eq] at hzl
          simp only [Option.some.injEq, Prod.mk.injEq] at h
          obtain ⟨rfl, rfl, rfl⟩ := h
          have hb := hcs _ (List.mem_cons_self ..)
          simp only [decide_eq_true_eq] at hb
          cases hl
          cases hc
          obtain ⟨z, hzi, hzp⟩ := azero_info (X := X) hz hi
          have hzs : z.cells.size = i.size := by rw [← Array.length_toList, ← hzp.1]; exact hzl
          have hrun := run_make (P := P) X.w t e i z hu hi hzi kl kc l c hb.1 hb.2.1 hb.2.2.1 hb.2.2.2
          have hpw : PW (VRc X) (zrep zs c.toNat) (madeCells z.cells (c.toNat * i.size)).toList := by
            refine ⟨by rw [zrep_len, hzl]; simp [size_madeCells], fun j a y ha hy => ?_⟩
            have hj : j < c.toNat * i.size := by
              have := (List.getElem?_eq_some_iff.1 hy).1
              rwa [Array.length_toList, size_madeCells] at this
            rw [zrep_get zs _ _ (by rw [hzl]; exact hj)] at ha
            have hpos : 0 < i.size := by
              rcases Nat.eq_zero_or_pos i.size with h0 | h0
              · rw [h0, Nat.mul_zero] at hj; omega
              · exact h0
            have hm : j % zs.length < z.cells.size := by rw [hzs, hzl]; exact Nat.mod_lt _ hpos
            refine hzp.2 (j % zs.length) a y ha ?_
            rw [Array.getElem?_toList] at hy ⊢
            have hy' : (madeCells z.cells (c.toNat * i.size))[j]? = some (z.cells[j % z.cells.size]!) := by
              simp [madeCells, hj]
            rw [hy'] at hy
            rw [hzl, ← hzs] at hm ⊢
            rw [getElem?_pos z.cells _ hm, ← hy, getElem!_pos z.cells _ hm]
          obtain ⟨h1, h2, _⟩ := alloc_ok hX hnid hpw e
          refine ⟨_, X.push nid (.cells (zrep zs c.toNat)) (.cells (madeCells z.cells (c.toNat * i.size)) e), hrun, h1, h2, rfl, ⟨⟨_, by simp only [Ctx.push, upd_same]; rfl, rfl⟩, by simp only [Ctx.push, upd_same], by omega, by simp only [maxLen]; omega⟩⟩
        · cases h
      · cases h
    · cases h
  · cases h

/-- What is to be copied: how many elements there are, and the first so many's cells. -/
def srcLen : AC → Option Nat
  | .nils => some 0
  | .sl _ l _ => some l.length
  | .csl _ _ len _ => some len
  | _ => none

def srcCells (H : Nat → Option AB) (s : Nat) (n : Nat) : AC → Option (List AC)
  | .nils => some []
  | .sl row l _ => if Nat.beq row.width s then some ((l.take n).flatMap row.cells) else none
  | .csl j off len _ => match H j with
    | some (.cells cs) => if ((cs.drop off).take (n * s)).all AC.known then some ((cs.drop off).take (n * s)) else none
    | _ => none
  | _ => none

def acopy (P : Program) (t : TypeId) (H : Nat → Option AB) (d x : AC) : Option (AV × List (Nat × AB)) :=
  match d, elemOf P t, srcLen x with
  | .csl i off len _, some (_, s), some m => match srcCells H s (Nat.min m len) x, H i with
    | some src, some (.cells cs) =>
      if Nat.beq src.length (Nat.min m len * s) && Nat.ble (off + src.length) cs.length && Nat.blt 0 s then
        some (.one (.int .i64 (Nat.min m len : Nat)), [(i, .cells (cs.take off ++ (src ++ cs.drop (off + src.length))))])
      else none
    | _, _ => none
  | _, _, _ => none

theorem src_ok {X : Ctx} (hX : HRel X) {s m len : Nat} (hs : 0 < s) {x : AC} (hm : srcLen x = some m) {src : List AC} (h : srcCells X.H s (Nat.min m len) x = some src) (hl : src.length = Nat.min m len * s) {xv : Value} (hx : VRc X x xv) :
    (Builtin.lenOf xv).run P X.w = .ok m X.w ∧ ∃ vals, (Builtin.firstCells s (Nat.min m len) xv).run P X.w = .ok vals X.w ∧ PW (VRc X) src vals.toList ∧ ∀ u ∈ vals.toList, u.oneCell' = true := by
  unfold srcCells at h
  split at h
  · simp only [Option.some.injEq] at h
    subst h
    cases hx
    simp only [srcLen, Option.some.injEq] at hm
    subst hm
    exact ⟨by simp [Builtin.lenOf], #[], by simp [Builtin.firstCells], PW.nil, by simp⟩
  · rename_i row l md
    split at h
    · rename_i hw
      simp only [Nat.beq_eq] at hw
      simp only [Option.some.injEq] at h
      subst h
      simp only [srcLen, Option.some.injEq] at hm
      subst hm
      obtain ⟨A, cap, vs, rfl, hc, _, hlr, hone, hat⟩ := sl_vals hx
      have hpw := hlr.pw (X := X) (by omega)
      have htk : (l.take (Nat.min l.length len)).flatMap row.cells = (l.flatMap row.cells).take (Nat.min l.length len * s) := by
        apply List.ext_getElem?
        intro q
        have hq : q = (q / row.width) * row.width + q % row.width := by rw [Nat.mul_comm]; exact (Nat.div_add_mod ..).symm
        have hk : q % row.width < row.width := Nat.mod_lt _ (by omega)
        by_cases hlt : q < Nat.min l.length len * s
        · rw [List.getElem?_take_of_lt hlt]
          have hj : q / row.width < Nat.min l.length len := (Nat.div_lt_iff_lt_mul (by omega)).2 (by rw [hw]; exact hlt)
          rw [hq, flat_get _ _ _ hk, flat_get _ _ _ hk, List.getElem?_take_of_lt hj]
        · rw [List.getElem?_take_eq_none (by omega), List.getElem?_eq_none (by omega)]
      rw [htk] at hl ⊢
      refine ⟨by simp [Builtin.lenOf], ?_⟩
      rcases hat with h0 | ⟨b, o, rfl, hcell⟩
      · have hz : Nat.min l.length len = 0 := by rw [h0]; exact Nat.zero_min _
        rw [hz]
        cases A with
        | none => exact ⟨#[], by simp [Builtin.firstCells], by simpa using PW.nil, by simp⟩
        | some a =>
          have := run_loadCells_list (P := P) X.w a [] (by simp)
          exact ⟨#[], by simpa [Builtin.firstCells] using this, by simpa using PW.nil, by simp⟩
      · have hln : (vs.take (Nat.min l.length len * s)).length = Nat.min l.length len * s := by
          rw [← (hpw.take _).1]; exact hl
        have := run_loadCells_list (P := P) X.w ⟨b, o, none⟩ (vs.take (Nat.min l.length len * s)) (fun j u hj => by
          rw [Addr.add_lit]
          have hlt : j < Nat.min l.length len * s := by rw [← hln]; exact (List.getElem?_eq_some_iff.1 hj).1
          rw [List.getElem?_take_of_lt hlt] at hj
          exact hcell j u hj)
        rw [hln] at this
        refine ⟨(vs.take (Nat.min l.length len * s)).toArray, by simpa [Builtin.firstCells] using this, by simpa using hpw.take _, fun u hu => hone u (List.mem_of_mem_take (by simpa using hu))⟩
    · cases h
  · rename_i j off len' cap
    split at h
    · rename_i cs hH
      split at h
      · rename_i hkn
        simp only [Option.some.injEq] at h
        subst h
        simp only [srcLen, Option.some.injEq] at hm
        subst hm
        obtain ⟨_, rfl, _, _⟩ := hx
        obtain ⟨c, t', h1, h2⟩ := hX.blk j _ hH
        have hpw : PW (VRc X) ((cs.drop off).take (Nat.min len' len * s)) ((c.toList.drop off).take (Nat.min len' len * s)) := (h2.drop off).take _
        have hln : ((c.toList.drop off).take (Nat.min len' len * s)).length = Nat.min len' len * s := by rw [← hpw.1]; exact hl
        have := run_loadCells_list (P := P) X.w ⟨X.φ j, off, none⟩ ((c.toList.drop off).take (Nat.min len' len * s)) (fun q u hq => by
          rw [Addr.add_lit, cell_of_row _ _ _ c t' (0, 0) h1, ← Array.getElem?_toList]
          have hlt : q < Nat.min len' len * s := by rw [← hln]; exact (List.getElem?_eq_some_iff.1 hq).1
          rw [List.getElem?_take_of_lt hlt, List.getElem?_drop] at hq
          exact hq)
        rw [hln] at this
        refine ⟨by simp [Builtin.lenOf], ((c.toList.drop off).take (Nat.min len' len * s)).toArray, by simpa [Builtin.firstCells] using this, by simpa using hpw, fun u hu => ?_⟩
        have hu : u ∈ (c.toList.drop off).take (Nat.min len' len * s) := by simpa using hu
        obtain ⟨q, hq⟩ := List.getElem?_of_mem hu
        obtain ⟨a, ha, hr⟩ := hpw.get hq
        exact (AC.known_one (List.all_eq_true.1 hkn a (List.mem_of_getElem? ha)) hr).1
      · cases h
    · cases h
  · cases h

theorem acopy_ok {X : Ctx} (hX : HRel X) {t t' ty : TypeId} {d x : AC} {v : AV} {u : List (Nat × AB)} {dv xv : Value} (hd : VRc X d dv) (hx : VRc X x xv) (h : acopy P t X.H d x = some (v, u)) :
    ∃ val X', (Builtin.copy_ #[t, t'] ty #[dv, xv]).run P X.w = .ok val X'.w ∧ X.le X' ∧ HRel X' ∧ X'.H = u.foldl (fun H p => upd H p.1 (some p.2)) X.H ∧ VR X' v val := by
  unfold acopy at h
  split at h
  · rename_i i off len cap e s m he hm
    split at h
    · rename_i src cs hsrc hH
      split at h
      · rename_i hcond
        simp only [Bool.and_eq_true, Nat.beq_eq, Nat.ble_eq, Nat.blt_eq] at hcond
        obtain ⟨⟨hl, hfit⟩, hpos⟩ := hcond
        simp only [Option.some.injEq, Prod.mk.injEq] at h
        obtain ⟨rfl, rfl⟩ := h
        obtain ⟨hu, hs⟩ := elemOf_spec he
        obtain ⟨h1, vals, h2, h3, h4⟩ := src_ok (P := P) hX hpos hm hsrc hl hx
        obtain ⟨w', g1, g2, g3⟩ := put_cells_ok (P := P) hX (off := off) hH h3 h4 hfit
        obtain ⟨_, rfl, _, _⟩ := hd
        refine ⟨_, X.put i _ w', ?_, g2, g3, rfl, rfl⟩
        simp [Builtin.copy_, h1, hs, h2, g1, Ctx.put, goInt, run_underlying hu]
      · cases h
    · cases h
  · cases h
end Go.Eng
