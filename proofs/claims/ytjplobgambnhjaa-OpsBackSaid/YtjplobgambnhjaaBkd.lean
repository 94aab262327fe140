/- A message that may be comes back of its bytes; no statement. -/
import Derived.Test.YtjplobgambnhjaaBkc
import Derived.Test.YtjplobgambnhjaaAge
set_option linter.unusedVariables false
set_option linter.unusedSimpArgs false
set_option maxRecDepth 100000
namespace Go.Proofs.Ytjplobgambnhjaa
open Go Go.Eng

theorem zg_b {v : Int} (h : sgK v = true) : 0 ≤ zg v ∧ zg v ≤ 8 := by
  have h := of_decide_eq_true h
  unfold zg; split <;> omega
theorem sgV_zg {v : Int} (h : sgK v = true) : sgV (zg v) = v := by
  have b := zg_b h
  have h := of_decide_eq_true h
  rw [sgV_eq b.1 (by omega)]
  unfold zg
  split <;> split <;> omega
theorem fitG {v : Int} (h : sgK v = true) : fitR .g (.n (zg v)) = true := by
  have b := zg_b h
  exact decide_eq_true ⟨b.1, by omega⟩
/-- A message whose parts all fit. -/
structure FT (d : rMsg.den) : Prop where
  f1 : fitsR rdL1 (hdrR d) = true
  f2 : fitsR rdL2 (basR d) = true
  f3 : fitsR rdL3 (tlR d) = true
  ml : List.length (mbL' d) ≤ 5
  ms : List.all (mbL' d) smI = true
  el : List.length (enL d) ≤ 8
  eg : List.all (enL d) goodE = true
  es : List.all (enL d) smallE = true
def rwM (d : rMsg.den) : rMsg.den := msgD (List.zipWith vw rdL1 (hdrR d)) (enL d) (List.zipWith vw rdL2 (basR d)) (mbL' d) (List.zipWith vw rdL3 (tlR d))
theorem dM_def (s : ByteArray) : dM s = msgD (rdsV rdL1 s) (frL (lsK (sp1 s)) (nr (sp1 s))) (rdsV rdL2 (sp2 s)) (mbL (lmN (sp3 s)) (nr (sp3 s))) (rdsV rdL3 (sp4 s)) := rfl
theorem ft_back {d : rMsg.den} (h : FT d) (t : ByteArray) (hs : szk (encM d ++ t) = true) :
    sp5 (encM d ++ t) = t ∧ gp5 true (encM d ++ t) = true ∧ bdM (encM d ++ t) = false ∧ dM (encM d ++ t) = rwM d := by
  have e : encM d ++ t = encsB (hdrR d) ++ (encsB (entsR (enL d)) ++ (encsB (basR d) ++ (encsB (memR (mbL' d)) ++ (encsB (tlR d) ++ t)))) := by
    rw [encM_def, ByteArray.append_assoc, ByteArray.append_assoc, ByteArray.append_assoc, ByteArray.append_assoc]
  rw [e] at hs ⊢
  obtain ⟨a1, a2, a3⟩ := rds_back rdL1 (hdrR d) _ h.f1 rd1_okA rd1_big hs
  have hs1 := szk_app hs
  obtain ⟨b1, b2, b3, b4⟩ := ls_back (enL d) _ h.el h.eg h.es hs1
  have hs2 := szk_app hs1
  obtain ⟨c1, c2, c3⟩ := rds_back rdL2 (basR d) _ h.f2 rd2_okA rd2_big hs2
  have hs3 := szk_app hs2
  obtain ⟨m1, m2, m3⟩ := mem_back (mbL' d) (encsB (tlR d) ++ t) h.ml h.ms
  have hs4 := szk_app hs3
  obtain ⟨g1, g2, g3⟩ := rds_back rdL3 (tlR d) t h.f3 rd3_okA rd3_big hs4
  generalize encsB (hdrR d) ++ (encsB (entsR (enL d)) ++ (encsB (basR d) ++ (encsB (memR (mbL' d)) ++ (encsB (tlR d) ++ t)))) = S at a1 a2 a3 ⊢
  generalize encsB (entsR (enL d)) ++ (encsB (basR d) ++ (encsB (memR (mbL' d)) ++ (encsB (tlR d) ++ t))) = S1 at a2 b1 b2 b3 b4
  generalize encsB (basR d) ++ (encsB (memR (mbL' d)) ++ (encsB (tlR d) ++ t)) = S2 at b2 c1 c2 c3
  generalize encsB (memR (mbL' d)) ++ (encsB (tlR d) ++ t) = S3 at c2 m1 m2 m3
  generalize encsB (tlR d) ++ t = S4 at m2 g1 g2 g3
  have p1 : sp1 S = S1 := a2
  have p2 : sp2 S = S2 := by unfold sp2; rw [p1]; exact b2
  have p3 : sp3 S = S3 := by unfold sp3; rw [p2]; exact c2
  have p4 : sp4 S = S4 := by unfold sp4; rw [p3]; exact m2
  have p5 : sp5 S = t := by unfold sp5; rw [p4]; exact g2
  refine ⟨p5, ?_, ?_, ?_⟩
  · rw [gp5_def, p4, g3, gp4_def, p3, m3, gp3_def, p2, c3, gp2_def, p1, b3, gp1_def, a3]
  · unfold bdM; rw [p1, b4]
  · rw [dM_def, p1, p2, p3, p4, rdsV_vw, rdsV_vw, rdsV_vw, a1, b1, c1, m1, g1]; rfl
theorem rwM_W (d : rMsg.den) : rwM d = (iW d.1, iW d.2.1, d.2.2.1, d.2.2.2.1, d.2.2.2.2.1, d.2.2.2.2.2.1, d.2.2.2.2.2.2.1, enL d, (d.2.2.2.2.2.2.2.2.1.1, d.2.2.2.2.2.2.2.2.1.2.1, mbL' d, ()), d.2.2.2.2.2.2.2.2.2.1,
    (iW (aR d).1, (aR d).2.1, iW (aR d).2.2.1, (aR d).2.2.2.1, opW (aR d).2.2.2.2.1, ()),
    (iW (aP d).1, (aP d).2.1, (iW (aP d).2.2.1.1, (aP d).2.2.1.2.1, (aP d).2.2.1.2.2.1, (aP d).2.2.1.2.2.2.1, (aP d).2.2.1.2.2.2.2.1, ()), sgV (zg (aP d).2.2.2.1), ()),
    (iW (aA d).1, cmdI (aA d).2.1, sgV (zg (aA d).2.2.1), sgV (zg (aA d).2.2.2.1), ()),
    (iW (aT d).1, (aT d).2.1, iW (aT d).2.2.1, iW (aT d).2.2.2.1, sgV (zg (aT d).2.2.2.2.1), ()), ()) := by kernel_rfl
theorem rwM_id {d : rMsg.den} (h : MB d) : rwM d = d := by
  rw [rwM_W, iW_b h.kd (by decide), iW_b h.gr (by decide), iW_b h.rq.cl (by decide), iW_b h.rq.gr (by decide), opW_id _ h.rq.ob, iW_b h.rp.cl (by decide), iW_b h.rp.er (by decide), sgV_zg h.rp.hi, iW_b h.ak.gr (by decide), cmdI_id _ h.ak.cb, sgV_zg h.ak.i, sgV_zg h.ak.o, iW_b h.to.gr (by decide), iW_b h.to.st (by decide), iW_b h.to.er (by decide), sgV_zg h.to.hi]
theorem rd3_def : rdL3 = ((((([.t 1048576, wN, tN, wN, tN] ++ rOpL) ++ [wN, tN]) ++ [wN, .y, cT, cT, tN]) ++ [.g, wN]) ++ rCmdL) ++ [.g, .g, wN, tN, wN, wN, .g] := rfl
theorem mb_ft {d : rMsg.den} (hw : WF rMsg d) (h : MB d) : FT d := by
  obtain ⟨c1, c2, c3⟩ := wf_cmd (wf_ask hw)
  have wt := u64_0 hw.2.2.1
  have wi := u64_0 hw.2.2.2.1
  have wl := u64_0 hw.2.2.2.2.1
  have wc := u64_0 hw.2.2.2.2.2.1
  have wb := hw.2.2.2.2.2.2.2.2.1
  have b1 := u64_0 wb.1
  have b2 := u64_0 wb.2.1
  have wr := hw.2.2.2.2.2.2.2.2.2.2.1
  have wp := hw.2.2.2.2.2.2.2.2.2.2.2.1
  have wo := hw.2.2.2.2.2.2.2.2.2.2.2.2.2.1
  have r1 := u64_0 wr.2.1
  have r2 := u64_0 wr.2.2.2.1
  have p1 := u64_0 wp.2.1
  have p2 := u64_0 wp.2.2.1.2.2.2.2.1
  have o1 := u64_0 wo.2.1
  have we : ∀ e ∈ enL d, WF rEntry e := hw.2.2.2.2.2.2.2.1.2
  refine ⟨?_, ?_, ?_, h.ml, h.ms, h.el, ?_, ?_⟩
  · exact fits_cons (fitN h.kd (by decide) (by decide)) (fits_cons (fitN h.gr (by decide) (by decide)) (fits_cons (fitM wt.1 h.t) (fits_cons (fitM wi.1 h.i) (fits_cons (fitM wl.1 h.lt) (fits_cons (fitM wc.1 h.c) (fits_cons rfl rfl))))))
  · exact fits_cons (fitM b1.1 b1.2) (fits_cons (fitM b2.1 b2.2) rfl)
  · rw [rd3_def]
    exact fits_app (fits_app (fits_app (fits_app (fits_app (fits_app
      (fits_cons (fitT h.da (by decide)) (fits_cons (fitN h.rq.cl (by decide) (by decide)) (fits_cons (fitM r1.1 h.rq.sq) (fits_cons (fitN h.rq.gr (by decide) (by decide)) (fits_cons (fitM r2.1 h.rq.ep) rfl)))))
      (op_fits _ h.rq.ob))
      (fits_cons (fitN h.rp.cl (by decide) (by decide)) (fits_cons (fitM p1.1 h.rp.sq) rfl)))
      (fits_cons (fitN h.rp.er (by decide) (by decide)) (fits_cons rfl (fits_cons (fitT h.rp.ro (by decide)) (fits_cons (fitT h.rp.va (by decide)) (fits_cons (fitM p2.1 h.rp.ve) rfl))))))
      (fits_cons (fitG h.rp.hi) (fits_cons (fitN h.ak.gr (by decide) (by decide)) rfl)))
      (cmd_fits _ h.ak.cb c1 c2 c3))
      (fits_cons (fitG h.ak.i) (fits_cons (fitG h.ak.o) (fits_cons (fitN h.to.gr (by decide) (by decide)) (fits_cons (fitM o1.1 h.to.pr) (fits_cons (fitN h.to.st (by decide) (by decide)) (fits_cons (fitN h.to.er (by decide) (by decide)) (fits_cons (fitG h.to.hi) rfl)))))))
  · exact List.all_eq_true.2 fun e he => (ent_is_good e (we e he) (h.ee e he)).1
  · exact List.all_eq_true.2 fun e he => (ent_is_good e (we e he) (h.ee e he)).2
theorem ents_sz : ∀ (l : List rEntry.den), l.all smallE = true → laysSz (l.map fun e => RV.t (encE e)) ≤ 1100000 * l.length
  | [], _ => Nat.zero_le _
  | e :: l, h => by
    rw [List.all_cons, Bool.and_eq_true] at h
    have h1 := ents_sz l h.2
    have h2 := of_decide_eq_true h.1
    show (encE e).size + 20 + laysSz (l.map fun e => RV.t (encE e)) ≤ 1100000 * (l.length + 1)
    omega
theorem ft_ok {d : rMsg.den} (h : FT d) (hb : MB d) : MOk d ∧ (encM d).size ≤ 30000000 := by
  obtain ⟨l1, z1⟩ := fits_lay _ _ h.f1 rd1_big
  obtain ⟨l2, z2⟩ := fits_lay _ _ h.f2 rd2_big
  obtain ⟨l3, z3⟩ := fits_lay _ _ h.f3 rd3_big
  have y1 := rd1_sz; have y2 := rd2_sz; have y3 := rd3_sz
  have ze := ents_sz _ h.es
  have zE : laysSz (entsR (enL d)) ≤ 9000000 := by
    have := h.el
    show 20 + laysSz ((enL d).map fun e => RV.t (encE e)) ≤ 9000000
    omega
  refine ⟨⟨l1, l2, l3, by omega, h.ml, h.ms, hb.rp.hi, hb.ak.i, hb.ak.o, hb.to.hi, h.el, h.eg⟩, ?_⟩
  have zm := memR_sz _ h.ml
  have q1 := encsB_size (hdrR d)
  have q2 := encsB_size (entsR (enL d))
  have q3 := encsB_size (basR d)
  have q4 := encsB_size (memR (mbL' d))
  have q5 := encsB_size (tlR d)
  rw [encM_def, ByteArray.size_append, ByteArray.size_append, ByteArray.size_append, ByteArray.size_append]
  omega
/-- Entries read of frames are small. -/
theorem fr_small : ∀ (k : Nat) {g : Bool} {s : ByteArray}, szk s = true → frG k g s = true → frB k false s = false → (frL k s).all smallE = true
  | 0, _, _, _, _, _ => rfl
  | k + 1, g, s, hs, h, hb => by
    have hb : frB k (bif false then true else (deA (fv s)).2 != 0) (fr s) = false := hb
    have h0 : (deA (fv s)).2 = 0 := by
      cases e : ((deA (fv s)).2 != 0 : Bool) with
      | true => rw [e] at hb; rw [show (bif false then true else true) = true from rfl, frB_true] at hb; cases hb
      | false =>
        have : ¬ ((deA (fv s)).2 ≠ 0) := fun q => by rw [bne_iff_ne.2 q] at e; cases e
        exact Classical.not_not.1 this
    rw [h0] at hb
    have k1 := fr_small k (szk_fr hs) (show frG k (bif g then tb s 1048576 else false) (fr s) = true from h) hb
    obtain ⟨kg, _, _, _⟩ := fr_again k (szk_fr hs) (show frG k (bif g then tb s 1048576 else false) (fr s) = true from h) hb
    obtain ⟨_, kt⟩ := bif_split kg
    obtain ⟨t1, t2⟩ := tb_again hs (by omega) kt
    obtain ⟨g1, g2⟩ := ent_good (szk_tv (m := 1048576) hs) h0
    have e1 : encE (deA (fv s)).1 = fv s := g2
    show (smallE (deA (fv s)).1 && (frL k (fr s)).all smallE) = true
    rw [k1]
    have t2 : (((fv s).size : Nat) : Int) ≤ 1048576 := t2
    have : smallE (deA (fv s)).1 = true := by unfold smallE; rw [e1]; exact decide_eq_true (by omega)
    rw [this]; rfl
/-- What is read of bytes fits. -/
theorem msg_ft {s : ByteArray} (hs : szk s = true) (h4 : mx4 s = false) : FT (dM s) ∧ encM (dM s) = s := by
  obtain ⟨_, hM, hE⟩ := msg_again hs h4
  obtain ⟨hb, hg, hz, hv⟩ := mx_facts h4
  have s1 := szk_sp1 hs
  have s2 := szk_sp2 hs
  have s3 := szk_sp3 hs
  have s4 := szk_sp4 hs
  rw [gp5_def] at hg
  obtain ⟨g4, e5, f5⟩ := rds_again rdL3 s4 rd3_okA hg
  rw [gp4_def] at g4
  obtain ⟨g3, e4, f4⟩ := mem_again g4
  rw [gp3_def] at g3
  obtain ⟨g2, e3, f3⟩ := rds_again rdL2 s2 rd2_okA g3
  rw [gp2_def] at g2
  obtain ⟨g1, e2, f2, f2', f2s⟩ := ls_again s1 g2 hb
  have fS := fr_small _ (szk_nr s1) g2 hb
  rw [gp1_def] at g1
  obtain ⟨_, e1, f1⟩ := rds_again rdL1 hs rd1_okA g1
  have w1 : hdrR (dM s) = rdsR rdL1 s := (hdr_wr s).trans (wrs_id _ _ f1 (sgs1 s))
  have w2 : basR (dM s) = rdsR rdL2 (sp2 s) := (bas_wr s).trans (wrs_id _ _ f3 (sgs2 _))
  have w3 : tlR (dM s) = rdsR rdL3 (sp4 s) := (tl_wr s).trans (wrs_id _ _ f5 (by rw [sgs3, hM.s1, hM.s2, hM.s3, hM.s4]; rfl))
  exact ⟨⟨by rw [w1]; exact f1, by rw [w2]; exact f3, by rw [w3]; exact f5, hM.ml, hM.ms, hM.el, hM.eg, by rw [enL_dM]; exact fS⟩, hE⟩
/-- A message that may be: its bytes, one more, one fewer. -/
theorem msg_back {d : rMsg.den} (hw : WF rMsg d) (h0 : msgV d = 0) : MOk d ∧ szk (encM d) = true ∧ 1 ≤ (encM d).size ∧ (encM d).size ≤ 30000000 ∧ dmA (encM d) = (d, 0) ∧
    (∀ z : ByteArray, z.size = 1 → dmA (encM d ++ z) = (dZ, 4)) ∧ (∀ s z : ByteArray, z.size = 1 → encM d = s ++ z → dmA s = (dZ, 4)) := by
  have hb := msg_mb hw h0
  have hf := mb_ft hw hb
  obtain ⟨hM, hsz⟩ := ft_ok hf hb
  have hs : szk (encM d) = true := decide_eq_true (by omega)
  have back : ∀ t : ByteArray, t.size ≤ 1 → sp5 (encM d ++ t) = t ∧ gp5 true (encM d ++ t) = true ∧ bdM (encM d ++ t) = false ∧ dM (encM d ++ t) = d := fun t ht => by
    have := ft_back hf t (decide_eq_true (by rw [ByteArray.size_append]; omega))
    rw [rwM_id hb] at this
    exact this
  have h1 : 1 ≤ (encM d).size := by
    have e : encM d = nS (wU d.1) ++ (encsB ((hdrR d).tail) ++ (encsB (entsR (enL d)) ++ (encsB (basR d) ++ (encsB (memR (mbL' d)) ++ encsB (tlR d))))) := by
      rw [encM_def, ← ByteArray.append_assoc (a := nS (wU d.1))]; rfl
    rw [e, ByteArray.size_append]
    have := nS_pos (wU d.1)
    omega
  refine ⟨hM, hs, h1, hsz, ?_, fun z hz => ?_, fun s z hz he => ?_⟩
  · obtain ⟨b1, b2, b3, b4⟩ := back (ByteArray.mk #[]) (by decide)
    rw [appMt] at b1 b2 b3 b4
    unfold dmA mx4 mx3 mx2 mx1
    rw [b1, b2, b3, b4, h0]; rfl
  · obtain ⟨b1, b2, b3, b4⟩ := back z (by omega)
    unfold dmA mx4 mx3 mx2 mx1
    rw [b1, b2, b3, b4, h0, hz]; rfl
  · cases h4 : mx4 s with
    | true => unfold dmA; rw [h4]; rfl
    | false =>
      exfalso
      have hss : szk s = true := by
        have : (encM d).size = s.size + z.size := by rw [he, ByteArray.size_append]
        exact decide_eq_true (by omega)
      obtain ⟨f, e⟩ := msg_ft hss h4
      have k1 := (ft_back f z (by rw [e, ← he]; exact hs)).1
      rw [e, ← he] at k1
      obtain ⟨b1, _⟩ := back (ByteArray.mk #[]) (by decide)
      rw [appMt] at b1
      rw [b1] at k1
      rw [← k1] at hz
      exact absurd hz (by decide)
end Go.Proofs.Ytjplobgambnhjaa
