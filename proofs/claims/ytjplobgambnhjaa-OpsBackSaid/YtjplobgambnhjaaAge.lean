/- A message read of bytes is laid as the same bytes: the whole; no statement. -/
import Derived.Test.YtjplobgambnhjaaAgd
set_option linter.unusedVariables false
set_option linter.unusedSimpArgs false
set_option maxRecDepth 100000
namespace Go.Proofs.Ytjplobgambnhjaa
open Go Go.Eng

theorem hdr_wr (s : ByteArray) : hdrR (dM s) = List.zipWith wr rdL1 (rdsR rdL1 s) := by kernel_rfl
theorem bas_wr (s : ByteArray) : basR (dM s) = List.zipWith wr rdL2 (rdsR rdL2 (sp2 s)) := by kernel_rfl
theorem tl_wr (s : ByteArray) : tlR (dM s) = List.zipWith wr rdL3 (rdsR rdL3 (sp4 s)) := by kernel_rfl
theorem sgs1 (s : ByteArray) : sgsK rdL1 (rdsR rdL1 s) = true := by kernel_rfl
theorem sgs2 (s : ByteArray) : sgsK rdL2 (rdsR rdL2 s) = true := by kernel_rfl
theorem sgs3 (s : ByteArray) : sgsK rdL3 (rdsR rdL3 (sp4 s)) = (sgK (aP (dM s)).2.2.2.1 && (sgK (aA (dM s)).2.2.1 && (sgK (aA (dM s)).2.2.2.1 && (sgK (aT (dM s)).2.2.2.2.1 && true)))) := by kernel_rfl
theorem hintP (s : ByteArray) : (aP (dM s)).2.2.2.1 = sgV (numV (rdsS (rdL3.take 18) (sp4 s))) := by kernel_rfl
theorem hintT (s : ByteArray) : (aT (dM s)).2.2.2.2.1 = sgV (numV (rdsS (rdL3.take 46) (sp4 s))) := by kernel_rfl
theorem enL_dM (s : ByteArray) : enL (dM s) = frL (lsK (sp1 s)) (nr (sp1 s)) := by kernel_rfl
theorem mbL_dM (s : ByteArray) : mbL' (dM s) = mbL (lmN (sp3 s)) (nr (sp3 s)) := by kernel_rfl
theorem i64_range (x : Int) : iOkk (IntKind.i64.wrap x) := by
  unfold iOkk
  simp only [IntKind.wrap, IntKind.signed, IntKind.bits, Bool.true_and]
  split <;> simp_all <;> omega
theorem sgV_range (n : Int) : iOkk (sgV n) := by
  unfold sgV
  cases sgO n
  · exact i64_range _
  · exact i64_range _
theorem mX_mem {d : rMsg.den} (h : msgB d = true) (hl : (mbL' d).length ≤ 9223372036854775807) : List.all (mbL' d) smI = true := by
  rcases msg_kinds h with ⟨h3, h⟩ | ⟨k, _, h1, h9, h3, hk⟩
  · rw [ms3_form h3 h]; rfl
  · obtain ⟨_, h2⟩ := chV_true _ (show chV (g0 d) (kdM d k ++ tlM (mXk d k) d 0) = true from hk)
    obtain ⟨e, _⟩ := tlM_mem h2
    have hb := e.b3
    have c : k = 1 ∨ k = 2 ∨ k = 4 ∨ k = 5 ∨ k = 6 ∨ k = 7 ∨ k = 8 ∨ k = 9 := by omega
    have zb : mbL' d = [] → List.all (mbL' d) smI = true := fun e => by rw [e]; rfl
    rcases c with rfl | rfl | rfl | rfl | rfl | rfl | rfl | rfl
    all_goals first
      | exact zb hb.symm
      | (have hm : memV (mbL' d) = 0 := eq_of_beq (h2 (4, memV (mbL' d) == 0) (List.mem_append_left _ (by simp [kdM])))
         exact List.all_eq_true.2 fun n hn => smI_of ((memV_ok hl hm).2 n hn))
theorem rd1_okA : rdL1.all rdOkA = true := by decide
theorem rd2_okA : rdL2.all rdOkA = true := by decide
theorem rd3_okA : rdL3.all rdOkA = true := by decide
theorem rd1_big : rdL1.all rdBig = true := by decide
theorem rd2_big : rdL2.all rdBig = true := by decide
theorem rd3_big : rdL3.all rdBig = true := by decide
theorem rd1_sz : szsR rdL1 ≤ 3000000 := by decide
theorem rd2_sz : szsR rdL2 ≤ 3000000 := by decide
theorem rd3_sz : szsR rdL3 ≤ 3000000 := by decide
theorem bnot2 {b : Bool} (h : (!!b) = false) : b = false := by cases b <;> first | rfl | cases h
theorem bif_or {a b : Bool} (h : (bif a then true else b) = false) : a = false ∧ b = false := by
  cases a
  · exact ⟨rfl, h⟩
  · cases h
theorem mx_facts {s : ByteArray} (h4 : mx4 s = false) : bdM s = false ∧ gp5 true s = true ∧ (sp5 s).size = 0 ∧ msgV (dM s) = 0 := by
  obtain ⟨h3, h⟩ := bif_or (show (bif mx3 s then true else msgV (dM s) != 0) = false from h4)
  obtain ⟨h2, hz⟩ := bif_or (show (bif mx2 s then true else decide ((((sp5 s).size : Nat) : Int) > 0)) = false from h3)
  obtain ⟨h1, hg⟩ := bif_or (show (bif mx1 s then true else !gp5 true s) = false from h2)
  refine ⟨bnot2 h1, ?_, ?_, ?_⟩
  · cases e : gp5 true s with
    | true => rfl
    | false => rw [e] at hg; cases hg
  · have := of_decide_eq_false hz; omega
  · have : ¬ (msgV (dM s) ≠ 0) := fun e => by rw [bne_iff_ne.2 e] at h; cases h
    exact Classical.not_not.1 this
theorem gp5_def (g : Bool) (s : ByteArray) : gp5 g s = rdsG rdL3 (gp4 g s) (sp4 s) := rfl
theorem gp4_def (g : Bool) (s : ByteArray) : gp4 g s = mbG (lmN (sp3 s)) (lmB (gp3 g s) (sp3 s)) (nr (sp3 s)) := rfl
theorem gp3_def (g : Bool) (s : ByteArray) : gp3 g s = rdsG rdL2 (gp2 g s) (sp2 s) := rfl
theorem gp2_def (g : Bool) (s : ByteArray) : gp2 g s = frG (lsK (sp1 s)) (lgB (gp1 g s) (sp1 s)) (nr (sp1 s)) := rfl
theorem gp1_def (g : Bool) (s : ByteArray) : gp1 g s = rdsG rdL1 g s := rfl
theorem encM_def (d : rMsg.den) : encM d = encsB (hdrR d) ++ (encsB (entsR (enL d)) ++ (encsB (basR d) ++ (encsB (memR (mbL' d)) ++ encsB (tlR d)))) := by
  unfold encM
  rw [encsB_app, encsB_app, encsB_app, encsB_app]
/-- A message that is read is laid as it was. -/
theorem msg_again {s : ByteArray} (hs : szk s = true) (h4 : mx4 s = false) : msgV (dM s) = 0 ∧ MOk (dM s) ∧ encM (dM s) = s := by
  obtain ⟨hb, hg, hz, hv⟩ := mx_facts h4
  have s1 := szk_sp1 hs
  have s2 := szk_sp2 hs
  have s3 := szk_sp3 hs
  have s4 := szk_sp4 hs
  rw [gp5_def] at hg
  obtain ⟨g4, e5, f5⟩ := rds_again rdL3 s4 rd3_okA hg
  rw [gp4_def] at g4
  obtain ⟨g3, e4, f4⟩ := mem_again g4
  rw [gp3_def] at g3
  obtain ⟨g2, e3, f3⟩ := rds_again rdL2 s2 rd2_okA g3
  rw [gp2_def] at g2
  obtain ⟨g1, e2, f2, f2', f2s⟩ := ls_again s1 g2 hb
  rw [gp1_def] at g1
  obtain ⟨_, e1, f1⟩ := rds_again rdL1 hs rd1_okA g1
  have hh := mX_hints (msgV_B hv) (by rw [hintP]; exact sgV_range _) (by rw [hintT]; exact sgV_range _)
  obtain ⟨k1, k2, k3, k4⟩ := hh
  have w1 : hdrR (dM s) = rdsR rdL1 s := (hdr_wr s).trans (wrs_id _ _ f1 (sgs1 s))
  have w2 : basR (dM s) = rdsR rdL2 (sp2 s) := (bas_wr s).trans (wrs_id _ _ f3 (sgs2 _))
  have w3 : tlR (dM s) = rdsR rdL3 (sp4 s) := (tl_wr s).trans (wrs_id _ _ f5 (by rw [sgs3, k1, k2, k3, k4]; rfl))
  obtain ⟨l1, z1⟩ := fits_lay _ _ f1 rd1_big
  obtain ⟨l2, z2⟩ := fits_lay _ _ f3 rd2_big
  obtain ⟨l3, z3⟩ := fits_lay _ _ f5 rd3_big
  have y1 := rd1_sz; have y2 := rd2_sz; have y3 := rd3_sz
  have hmt : rdsS rdL3 (sp4 s) = ByteArray.mk #[] := mt_of hz
  rw [hmt, appMt] at e5
  have hml : List.length (mbL' (dM s)) ≤ 5 := by rw [mbL_dM, mbL_len]; exact f4
  refine ⟨hv, ⟨by rw [w1]; exact l1, by rw [w2]; exact l2, by rw [w3]; exact l3, ?_, hml, ?_, k1, k2, k3, k4, ?_, by rw [enL_dM]; exact f2⟩, ?_⟩
  · rw [w1, w2, w3, enL_dM]
    omega
  · exact mX_mem (msgV_B hv) (Nat.le_trans hml (by decide))
  · rw [enL_dM, frL_len]; exact f2'
  · rw [encM_def, w1, w2, w3, enL_dM, mbL_dM, ← e5]
    show encsB (rdsR rdL1 s) ++ (encsB (entsR (frL (lsK (sp1 s)) (nr (sp1 s)))) ++ (encsB (rdsR rdL2 (sp2 s)) ++ (encsB (memR (mbL (lmN (sp3 s)) (nr (sp3 s)))) ++ sp4 s))) = s
    have e4' : sp3 s = encsB (memR (mbL (lmN (sp3 s)) (nr (sp3 s)))) ++ sp4 s := e4
    have e3' : sp2 s = encsB (rdsR rdL2 (sp2 s)) ++ sp3 s := e3
    have e2' : sp1 s = encsB (entsR (frL (lsK (sp1 s)) (nr (sp1 s)))) ++ sp2 s := e2
    rw [← e4', ← e3', ← e2']
    exact e1.symm
end Go.Proofs.Ytjplobgambnhjaa
