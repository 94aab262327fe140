import Derived.Test.YtolhkkoakneflaaEngK2
import Derived.Lib.ConvBytes
import Derived.Laws.BytesArg
set_option linter.unusedVariables false
namespace Go.Eng
open Go Go.RowKit
variable {P : Program}

/-! ### Texts and bytes -/
def bytesOf (s : ByteArray) : List Int := s.data.toList.map fun b => (b.toNat : Int)

/-- A slice of bytes' element type. -/
def bytesT (P : Program) (t : TypeId) : Option TypeId :=
  match P.underlying t with
  | some (.slice e) => match P.underlying e with
    | some (.int .u8) => some e
    | _ => none
  | _ => none
theorem bytesT_spec {t e : TypeId} (h : bytesT P t = some e) : P.underlying t = some (.slice e) ∧ P.underlying e = some (.int .u8) := by
  unfold bytesT at h
  split at h
  · rename_i e' hu
    split at h
    · rename_i he
      injection h with h; subst h
      exact ⟨hu, he⟩
    · cases h
  · cases h

def convB (P : Program) (src dst : TypeId) : Bool := (isStrT P src && (bytesT P dst).isSome) || ((bytesT P src).isSome && isStrT P dst)

def aconv (P : Program) (src dst : TypeId) (H : Nat → Option AB) (nid : Nat) (x : AC) : Option (AV × List (Nat × AB) × List Bool) :=
  match x with
  | .str s => match isStrT P src, bytesT P dst with
    | true, some e => some (.one (.sl (.int .u8) (bytesOf s) (.own nid 0)), [(nid, .tok e 0)], [Nat.ble s.size maxLen])
    | _, _ => none
  | .nils => match bytesT P src, isStrT P dst with
    | some _, true => some (.one (.str ByteArray.empty), [], [])
    | _, _ => none
  | x => match bytesT P src, isStrT P dst with
    | some e, true => match rowsIn P H e x with
      | some ⟨row, l⟩ => if h : row.eqb (.int .u8) = true then some (.one (.str (strOfNums (castL row (.int .u8) h l))), [], []) else none
      | none => none
    | _, _ => none

theorem aconv_ok {X : Ctx} (hX : HRel X) {src dst : TypeId} {nid : Nat} (hnid : X.H nid = none) {x : AC} {v : AV} {u : List (Nat × AB)} {cs : List Bool} {xv : Value} (hx : VRc X x xv)
    (h : aconv P src dst X.H nid x = some (v, u, cs)) (hcs : ∀ c ∈ cs, c = true) :
    ∃ val X', (convert src dst xv).run P X.w = .ok val X'.w ∧ X.le X' ∧ HRel X' ∧ X'.H = u.foldl (fun H p => upd H p.1 (some p.2)) X.H ∧ VR X' v val := by
  unfold aconv at h
  split at h
  · rename_i s
    split at h
    · rename_i e hs he
      simp only [Option.some.injEq, Prod.mk.injEq] at h
      obtain ⟨rfl, rfl, rfl⟩ := h
      have hsz := hcs _ (List.mem_cons_self ..)
      simp only [Nat.ble_eq] at hsz
      have hs := isStrT_of hs
      obtain ⟨hd, he⟩ := bytesT_spec he
      cases hx
      have hrun := Lib.run_convert_string_bytes (P := P) X.w src dst e s hs hd he
      have hge := grownCap_ge X.w s.size 0 e
      have hcm := grownCap_le_maxLen X.w s.size 0 e hsz
      have hbl : (bytesOf s).length = s.size := by simp [bytesOf]
      have hst : TokStep X nid X.w.heap.size (s.size * 1) e 0 (Lib.bytesWorld X.w e s) := by
        refine ⟨rfl, rfl, rfl, by rw [Lib.bytesWorld_size]; omega, fun k hk _ => Lib.bytesWorld_at_old X.w e s k hk, .inl rfl, by rw [Lib.bytesWorld_size]; omega, .inl hnid, fun q hq => ?_⟩
        exact absurd (hX.frlt _ _ hq) (Nat.lt_irrefl _)
      have hfr : X.w.heap.size < X.w.heap.size → ∃ q, X.fr X.w.heap.size = some q := fun h => absurd h (Nat.lt_irrefl _)
      have hnew := Lib.bytesWorld_at_new X.w e s
      refine ⟨_, X.tok nid X.w.heap.size (s.size * 1) e 0 (Lib.bytesWorld X.w e s), hrun, tok_le hX hst hfr, hX.tok hst hfr, rfl, ?_⟩
      have hcells : (Lib.bytesCells X.w e s).toList = (s.data.toList.map fun b => Value.int .u8 b.toNat) ++ List.replicate (grownCap X.w s.size 0 e - s.size) (.int .u8 0) := by simp [Lib.bytesCells]
      have := tok_value (row := .int .u8) (l := bytesOf s) (cap := grownCap X.w s.size 0 e) (n := s.size) (vs := s.data.toList.map fun b => Value.int .u8 b.toNat) hX hst hfr hnew (.inr rfl) hbl.symm hge hcm
        (by rw [← Array.length_toList, hcells]; simp [CT.width]; omega)
        (by rw [hcells]; simp [CT.width])
        ⟨by simp [bytesOf, CT.width], fun j y hj => by
          simp only [bytesOf, List.getElem?_map] at hj
          show (s.data.toList.map fun b => Value.int .u8 b.toNat)[j * 1 + 0]? = some (.int .u8 y)
          simp only [Nat.mul_one, Nat.add_zero, List.getElem?_map]
          cases hb : s.data.toList[j]? with
          | none => rw [hb] at hj; cases hj
          | some b =>
            rw [hb] at hj
            simp only [Option.map_some, Option.some.injEq] at hj
            subst hj; rfl⟩
      exact this
    · cases h
  · split at h
    · rename_i e he hs
      simp only [Option.some.injEq, Prod.mk.injEq] at h
      obtain ⟨rfl, rfl, rfl⟩ := h
      obtain ⟨hd, he⟩ := bytesT_spec he
      cases hx
      exact ⟨_, X, run_convert_bytes_nil X.w src e hd he 0 0 dst (isStrT_of hs), .refl X, hX, rfl, rfl⟩
    · cases h
  · split at h
    · rename_i e he hs
      split at h
      · rename_i row l hr
        split at h
        · rename_i hrow
          have er := CT.eq_of_eqb _ _ hrow
          subst er
          simp only [Option.some.injEq, Prod.mk.injEq] at h
          obtain ⟨rfl, rfl, rfl⟩ := h
          obtain ⟨hd, he⟩ := bytesT_spec he
          obtain ⟨A, cap, vs, e1, hc, hm, hl, hone, hat⟩ := rowsIn_vals (P := P) hX hr hx
          have e1' : xv = .slice A (List.length l) cap := e1
          subst e1'
          have hvs : ∀ i, i < List.length l → vs[i]? = some (.int .u8 (List.getD l i 0)) := fun i hi => by
            have h0 := hl.2 i (List.getD l i 0) (by rw [List.getD_eq_getElem?_getD, List.getElem?_eq_getElem hi]; rfl)
            simpa [RelT, CT.width] using h0
          cases A with
          | none =>
            have hz : List.length l = 0 := by
              rcases hat with h | ⟨b, o, h, _⟩
              · exact h
              · cases h
            have hln : l = [] := List.eq_nil_of_length_eq_zero hz
            subst hln
            exact ⟨_, X, run_convert_bytes_nil X.w src e hd he _ _ dst (isStrT_of hs), .refl X, hX, rfl, rfl⟩
          | some a =>
            rcases hat with hz | ⟨b, o, ha, hcell⟩
            · have hln : l = [] := List.eq_nil_of_length_eq_zero hz
              subst hln
              have hrun : (convert src dst (.slice (some a) 0 cap)).run P X.w = .ok (.string (strOfNums [])) X.w := by
                have hl0 := run_loadCells_list (P := P) X.w a [] (by simp)
                rw [run_convert_bytes_string X.w src dst e _ 0 cap hd he (isStrT_of hs), run_bytesToString X.w a 0 cap [] (by simpa using hl0)]
                rfl
              exact ⟨_, X, hrun, .refl X, hX, rfl, rfl⟩
            · injection ha with ha
              subst ha
              have hrun := run_convert_bytes_arg (P := P) X.w src e hd he b o (List.length l) cap l rfl (fun i hi => hcell i _ (hvs i hi)) dst (isStrT_of hs)
              exact ⟨_, X, hrun, .refl X, hX, rfl, rfl⟩
        · cases h
      · cases h
    · cases h
end Go.Eng
