/- OpsBack: the environment of the law's run; no statement. -/
import Derived.Test.YtjplobgambnhjaaBkd
import Derived.Test.YtjplobgambnhjaaBkt
import Derived.Test.YtjplobgambnhjaaOworks
set_option linter.unusedVariables false
set_option linter.unusedSimpArgs false
set_option maxRecDepth 100000
namespace Go.Proofs.Ytjplobgambnhjaa
open Go Go.Eng

def emT (d : rMsg.den) : ByteArray := bif msgV d == 0 then encM d else mt
def emV (d : rMsg.den) : Int := bif msgV d == 0 then 0 else 2
noncomputable def emOk (d : rMsg.den) : Bool := okP (msgV d = 0 → MOk d)
theorem em_any (d : rMsg.den) (h : emOk d = true) : PureCall Try.prog 28 [.agg (rMsg.cells d)] (tupY (emT d) (emV d)) := by
  unfold emT emV
  by_cases h0 : msgV d = 0
  · have e : (msgV d == 0) = true := beq_iff_eq.2 h0
    rw [e]; exact em_good h0 (okP_of h h0)
  · have e : (msgV d == 0) = false := beq_eq_false_iff_ne.2 h0
    rw [e]; exact emx_h d h0
noncomputable def ELb : Env Try.prog := (((((EWn.addT1 30 [.one .str] (fun d => tupM (dmA d.1).1 (dmA d.1).2) (fun d => [szk d.1]) fun d hc => dm_any d.1 (of_allTc hc).1).addT1
  28 [.agg rMsg] (fun d => tupY (emT d.1) (emV d.1)) (fun d => [emOk d.1]) fun d hc => em_any d.1 (of_allTc hc).1).addT1
  29 [.agg rMsg] (fun d => vI (msgV d.1)) (fun _ => []) fun d _ => msg_pure d.1).addT1
  31 [.agg rMsg, .agg rMsg] (fun _ => vB true) (fun d => [okP (d.2.1 = d.1), decide (List.length (enL d.1) ≤ 8), decide (List.length (mbL' d.1) ≤ 5)]) fun d hc => by
    obtain ⟨h1, hc⟩ := of_allTc hc
    obtain ⟨h2, hc⟩ := of_allTc hc
    obtain ⟨h3, _⟩ := of_allTc hc
    obtain ⟨a, b, _⟩ := d
    have h1 : b = a := okP_of h1
    subst h1
    exact ls_self b (of_decide_eq_true h2) (of_decide_eq_true h3)).addT1
  18 [] (fun _ => vB true) (fun _ => []) fun _ _ => works16_pure).spec
open Go Go.Eng

abbrev oneZ : ByteArray := ByteArray.mk #[0]
def bv1 (d : rMsg.den) : Bool := ByteArray.toList (emT d) == ByteArray.toList (ByteArray.mk #[])
def bv2 (d : rMsg.den) : Bool := bif bv1 d then emV d == 2 else false
def bv3 (d : rMsg.den) : Bool := bif bv2 d then msgV d == 2 else false
theorem bk_runX (d : rMsg.den) : ELb.pureRun 7 [.agg (rMsg.cells d)] [false, true] = some (vB (bv3 d), tA (bv2 d) 2 ++ (tA (bv1 d) 1 ++ [(emV d != 0) == true, emOk d, true])) := by kernel_rfl
def bcut (T : ByteArray) : ByteArray := T.extract (Int.toNat 0) (IntKind.i64.wrap (((T.size : Nat) : Int) - 1)).toNat
def by1 (T : ByteArray) : Bool := (dmA T).2 == 0
def by2 (T : ByteArray) : Bool := bif by1 T then true else false
def by3 (T : ByteArray) : Bool := bif by2 T then (dmA (T ++ oneZ)).2 == 4 else false
def by4 (T : ByteArray) : Bool := bif by3 T then (dmA (bcut T)).2 == 4 else false
noncomputable def tY (d : rMsg.den) (T : ByteArray) : List Bool := (fun q => !by1 T || q) (by1 T == true) :: (fun q => !(by1 T == true) || q) (okP ((dmA T).1 = d)) :: (fun q => !(by1 T == true) || q) (decide (List.length (enL d) ≤ 8)) :: (fun q => !(by1 T == true) || q) (decide (List.length (mbL' d) ≤ 5)) :: List.replicate 2 ((fun q => !(by1 T == true) || q) (by1 T == true))
noncomputable def csBk (d : rMsg.den) (T : ByteArray) : List Bool := tA (by3 T) 1 ++ (tA (by2 T) 1 ++ (tY d T ++ [szk (bcut T), decide ((0 : Int) ≤ 0 ∧ (0 : Int) ≤ IntKind.i64.wrap (((T.size : Nat) : Int) - 1) ∧ IntKind.i64.wrap (((T.size : Nat) : Int) - 1) ≤ ((T.size : Nat) : Int)), szk (T ++ oneZ), decide (T.size + oneZ.size ≤ 9223372036854775807), szk T]))
theorem bk_runF (d : rMsg.den) : ELb.pureRun 7 [.agg (rMsg.cells d)] [false, false] = some (vB (by4 (emT d)), csBk d (emT d) ++ [(emV d != 0) == false, emOk d, true]) := by kernel_rfl
theorem bcut_eq {T : ByteArray} (h1 : 1 ≤ T.size) (h2 : T.size ≤ 30000000) : IntKind.i64.wrap (((T.size : Nat) : Int) - 1) = ((T.size - 1 : Nat) : Int) := by
  rw [wrap64 (by omega) (by omega)]; omega
theorem back_law (d : rMsg.den) (hw : WF rMsg d) : PureCall Try.prog 7 [.agg (rMsg.cells d)] (vB true) := by
  by_cases h0 : msgV d = 0
  · obtain ⟨hM, hs, h1, h3, hA, hB, hC⟩ := msg_back hw h0
    have e0 : (msgV d == 0) = true := beq_iff_eq.2 h0
    have eT : emT d = encM d := by unfold emT; rw [e0]; rfl
    have eV : emV d = 0 := by unfold emV; rw [e0]; rfl
    have ec := bcut_eq h1 h3
    have eo : emOk d = true := okP_is fun _ => hM
    have hz : oneZ.size = 1 := rfl
    have hcut : encM d = bcut (encM d) ++ (encM d).extract ((encM d).size - 1) (encM d).size := by
      unfold bcut
      rw [ec, Int.toNat_natCast]
      exact (ext_join (Nat.sub_le _ _)).symm
    have hcz : ((encM d).extract ((encM d).size - 1) (encM d).size).size = 1 := by rw [ByteArray.size_extract]; omega
    have a1 := hA
    have a2 := hB oneZ hz
    have a3 := hC _ _ hcz hcut
    have b1 : by1 (encM d) = true := by unfold by1; rw [a1]; rfl
    have b2 : by2 (encM d) = true := by unfold by2; rw [b1]; rfl
    have b3 : by3 (encM d) = true := by unfold by3; rw [b2, a2]; rfl
    have b4 : by4 (encM d) = true := by unfold by4; rw [b3, a3]; rfl
    have run := bk_runF d
    rw [eT, b4, eV, eo] at run
    refine ELb.pure_ok run (allI ?_)
    have g1 : okP ((dmA (encM d)).1 = d) = true := okP_is (by rw [a1])
    have g2 : szk (bcut (encM d)) = true := szk_ext hs
    have g3 : szk (encM d ++ oneZ) = true := decide_eq_true (by rw [ByteArray.size_append, hz]; omega)
    have g4 : decide ((encM d).size + oneZ.size ≤ 9223372036854775807) = true := decide_eq_true (by rw [hz]; omega)
    have g5 : decide ((0 : Int) ≤ 0 ∧ (0 : Int) ≤ IntKind.i64.wrap ((((encM d).size : Nat) : Int) - 1) ∧ IntKind.i64.wrap ((((encM d).size : Nat) : Int) - 1) ≤ (((encM d).size : Nat) : Int)) = true := decide_eq_true (by rw [ec]; omega)
    have g6 := decide_eq_true hM.el
    have g7 := decide_eq_true hM.ml
    unfold csBk tY
    rw [List.all_append, List.all_append, List.all_append, List.all_append, tA_all, tA_all, b1, g1, g2, g3, g4, g5, g6, g7, hs]
    rfl
  · have e0 : (msgV d == 0) = false := beq_eq_false_iff_ne.2 h0
    have eT : emT d = mt := by unfold emT; rw [e0]; rfl
    have eV : emV d = 2 := by unfold emV; rw [e0]; rfl
    have eM : msgV d = 2 := by
      unfold msgV at h0 ⊢
      cases e : msgB d with
      | true => rw [e] at h0; exact absurd rfl h0
      | false => rfl
    have eo : emOk d = true := okP_is fun h => absurd h h0
    have b1 : bv1 d = true := by unfold bv1; rw [eT]; exact toL_rr _
    have b2 : bv2 d = true := by unfold bv2; rw [b1, eV]; rfl
    have b3 : bv3 d = true := by unfold bv3; rw [b2, eM]; rfl
    have run := bk_runX d
    rw [b3, eV, eo] at run
    refine ELb.pure_ok run (allI ?_)
    rw [List.all_append, List.all_append, tA_all, tA_all]; rfl
theorem back_lawS (d : dens [.agg rMsg]) (h : WFs [.agg rMsg] d) : PureCall Try.prog 7 (encs [.agg rMsg] d) (vB true) := back_law d.1 h.1
end Go.Proofs.Ytjplobgambnhjaa
