/- What is read of laid bytes; no statement. -/
import Derived.Test.YtjplobgambnhjaaDen
import Derived.Test.YtjplobgambnhjaaEcb
set_option linter.unusedVariables false
set_option linter.unusedSimpArgs false
namespace Go.Proofs.Ytjplobgambnhjaa
open Go Go.Eng

theorem uOk_i {v : Int} (h : uOk v = true) : 0 ≤ v ∧ v < 18446744073709551616 := by
  simp only [uOk, Bool.and_eq_true, decide_eq_true_eq] at h; exact h
theorem uOk_mk {v : Int} (h0 : 0 ≤ v) (h : v < 18446744073709551616) : uOk v = true := by
  simp only [uOk, decide_eq_true h0, decide_eq_true h]; rfl
theorem nS_V {v : Int} (h : uOk v = true) (t : ByteArray) : numV (nS v ++ t) = v := by
  obtain ⟨h0, h1⟩ := uOk_i h
  unfold numV nS
  rw [num_back (by omega) t]; simp only; omega
theorem nS_N {v : Int} (h : uOk v = true) (t : ByteArray) : numN (nS v ++ t) = (((nS v).size : Nat) : Int) := by
  obtain ⟨h0, h1⟩ := uOk_i h
  unfold numN nS
  rw [num_back (by omega) t, strOfNums_size]
theorem nS_pos (v : Int) : 1 ≤ (nS v).size := by unfold nS numB; rw [strOfNums_size, List.length_append]; simp
theorem nb_nS {v : Int} (h : uOk v = true) (t : ByteArray) : nb (nS v ++ t) = true := by
  unfold nb
  rw [nS_N h]
  have := nS_pos v
  simp only [Bool.not_eq_true', beq_eq_false_iff_ne, ne_eq]; omega
theorem nr_nS {v : Int} (h : uOk v = true) (t : ByteArray) : nr (nS v ++ t) = t := by
  unfold nr
  rw [nS_N h, Int.toNat_natCast]
  exact ByteArray.extract_append_eq_right rfl (by rw [ByteArray.size_append])
theorem tS_facts {b : ByteArray} (h : b.size ≤ 65536) (t : ByteArray) (hs : szk (tS b ++ t) = true) : tb (tS b ++ t) 65536 = true ∧ tv (tS b ++ t) 65536 = b ∧ tr (tS b ++ t) 65536 = t := by
  have hs := of_decide_eq_true hs
  have hw : wU ((b.size : Nat) : Int) = ((b.size : Nat) : Int) := wrapU64 (by omega) (by omega)
  have hu : uOk ((b.size : Nat) : Int) = true := uOk_mk (by omega) (by omega)
  have e : tS b ++ t = nS ((b.size : Nat) : Int) ++ (b ++ t) := by unfold tS; rw [hw, ByteArray.append_assoc]
  have hV : numV (tS b ++ t) = ((b.size : Nat) : Int) := by rw [e]; exact nS_V hu _
  have hN : numN (tS b ++ t) = (((nS ((b.size : Nat) : Int)).size : Nat) : Int) := by rw [e]; exact nS_N hu _
  have hz := nS_size ((b.size : Nat) : Int)
  have hsz : (tS b ++ t).size = (nS ((b.size : Nat) : Int)).size + (b.size + t.size) := by rw [e, ByteArray.size_append, ByteArray.size_append]
  have hb : tb (tS b ++ t) 65536 = true := by
    unfold tb
    rw [hV, hN, show nb (tS b ++ t) = true from by rw [e]; exact nb_nS hu _]
    rw [wrapU64 (by omega) (by omega), wrap64 (by omega) (by omega), wrapU64 (by omega) (by omega)]
    rw [decide_eq_false (by omega), decide_eq_false (by omega)]; rfl
  refine ⟨hb, ?_, ?_⟩
  · unfold tv
    rw [hb, cond_true, hV, hN, Int.toNat_natCast, Int.toNat_natCast, e]
    rw [show (nS ((b.size : Nat) : Int)).size = (nS ((b.size : Nat) : Int)).size + 0 from rfl, Nat.add_assoc, Nat.zero_add, ByteArray.extract_append_size_add]
    exact ByteArray.extract_append_eq_left rfl
  · unfold tr
    rw [hb, cond_true, hV, hN, Int.toNat_natCast, Int.toNat_natCast, hsz, e]
    rw [ByteArray.extract_append_size_add]
    exact ByteArray.extract_append_eq_right rfl rfl
theorem fS_facts (f : Bool) (t : ByteArray) : yb (fS f ++ t) = true ∧ yv (fS f ++ t) = (bif f then 1 else 0) ∧ yr (fS f ++ t) = t := by
  have h1 := fS_size f
  have hb : yb (fS f ++ t) = true := by
    unfold yb
    rw [ByteArray.size_append, decide_eq_false (by omega)]; rfl
  refine ⟨hb, ?_, ?_⟩
  · unfold yv
    rw [hb, cond_true]
    rw [show (fS f ++ t).extract (Int.toNat 0) (Int.toNat 1) = fS f from ByteArray.extract_append_eq_left h1.symm]
    cases f <;> rfl
  · unfold yr
    rw [hb, cond_true]
    exact ByteArray.extract_append_eq_right h1.symm (by rw [ByteArray.size_append])
theorem wU_id {n : Int} (h0 : 0 ≤ n) (h : n ≤ 1073741824) : wU n = n := wrapU64 h0 (by omega)
theorem gN_ok {g : Bool} {s : ByteArray} {m : Int} (hg : g = true) (h1 : nb s = true) (h2 : numV s ≤ m) : (bif bif g then nb s else false then decide (numV s ≤ m) else false) = true := by
  rw [hg, h1, decide_eq_true h2]; rfl
theorem gT_ok {g : Bool} {s : ByteArray} (hg : g = true) (h1 : tb s 65536 = true) : (bif g then tb s 65536 else false) = true := by
  rw [hg, h1]; rfl
theorem gY_ok {g : Bool} {s : ByteArray} (hg : g = true) (h1 : yb s = true) (h2 : yv s ≤ 1) : (bif bif g then yb s else false then decide (yv s ≤ 1) else false) = true := by
  rw [hg, h1, decide_eq_true h2]; rfl
structure oBk (ok : Int) (r : ByteArray) (c : ByteArray) (v : ByteArray) (has : Bool) (x : ByteArray) (t S : ByteArray) : Prop where
  rest : oc6 S = t
  good : od6 true S = true
  v_ok : IntKind.i64.wrap (numV S) = ok
  v_r : tv (oc1 S) 65536 = r
  v_c : tv (oc2 S) 65536 = c
  v_v : tv (oc3 S) 65536 = v
  v_has : (yv (oc4 S) == 1) = has
  v_x : tv (oc5 S) 65536 = x
theorem o_back (ok : Int) (r : ByteArray) (c : ByteArray) (v : ByteArray) (has : Bool) (x : ByteArray) (t S : ByteArray) (h_ok : 0 ≤ ok ∧ ok ≤ 1073741824) (h_r : r.size ≤ 65536) (h_c : c.size ≤ 65536) (h_v : v.size ≤ 65536) (h_x : x.size ≤ 65536) (hS : S = nS (wU ok) ++ (tS r ++ (tS c ++ (tS v ++ (fS has ++ (tS x ++ (t))))))) (hz : szk S = true) : oBk ok r c v has x t S := by
  have u1 : uOk (wU ok) = true := uOk_wrap ok
  have V1 : numV S = wU ok := by rw [hS]; exact nS_V u1 _
  have e1 : oc1 S = tS r ++ (tS c ++ (tS v ++ (fS has ++ (tS x ++ (t))))) := by unfold oc1; rw [hS]; exact nr_nS u1 _
  have g1 : od1 true S = true := gN_ok rfl (by rw [hS]; exact nb_nS u1 _) (by rw [V1, wU_id h_ok.1 h_ok.2]; exact h_ok.2)
  have z1 : szk (oc1 S) = true := oz1 hz
  have T2 := tS_facts h_r (tS c ++ (tS v ++ (fS has ++ (tS x ++ (t))))) (by rw [← e1]; exact z1)
  have e2 : oc2 S = tS c ++ (tS v ++ (fS has ++ (tS x ++ (t)))) := by unfold oc2; rw [e1]; exact T2.2.2
  have g2 : od2 true S = true := gT_ok g1 (by rw [e1]; exact T2.1)
  have z2 : szk (oc2 S) = true := oz2 hz
  have T3 := tS_facts h_c (tS v ++ (fS has ++ (tS x ++ (t)))) (by rw [← e2]; exact z2)
  have e3 : oc3 S = tS v ++ (fS has ++ (tS x ++ (t))) := by unfold oc3; rw [e2]; exact T3.2.2
  have g3 : od3 true S = true := gT_ok g2 (by rw [e2]; exact T3.1)
  have z3 : szk (oc3 S) = true := oz3 hz
  have T4 := tS_facts h_v (fS has ++ (tS x ++ (t))) (by rw [← e3]; exact z3)
  have e4 : oc4 S = fS has ++ (tS x ++ (t)) := by unfold oc4; rw [e3]; exact T4.2.2
  have g4 : od4 true S = true := gT_ok g3 (by rw [e3]; exact T4.1)
  have z4 : szk (oc4 S) = true := oz4 hz
  have T5 := fS_facts has (tS x ++ (t))
  have e5 : oc5 S = tS x ++ (t) := by unfold oc5; rw [e4]; exact T5.2.2
  have g5 : od5 true S = true := gY_ok g4 (by rw [e4]; exact T5.1) (by rw [e4, T5.2.1]; cases has <;> decide)
  have z5 : szk (oc5 S) = true := oz5 hz
  have T6 := tS_facts h_x t (by rw [← e5]; exact z5)
  have e6 : oc6 S = t := by unfold oc6; rw [e5]; exact T6.2.2
  have g6 : od6 true S = true := gT_ok g5 (by rw [e5]; exact T6.1)
  have z6 : szk (oc6 S) = true := oz6 hz
  exact {
    rest := e6
    good := g6
    v_ok := by rw [V1]; exact wrapBack (by omega) (by omega)
    v_r := by rw [e1]; exact T2.2.1
    v_c := by rw [e2]; exact T3.2.1
    v_v := by rw [e3]; exact T4.2.1
    v_has := by rw [e4, T5.2.1]; cases has <;> rfl
    v_x := by rw [e5]; exact T6.2.1
  }
structure mBk (ck : Int) (cl : Int) (sq : Int) (ep : Int) (ok : Int) (r c v : ByteArray) (has : Bool) (x : ByteArray) (pr : Int) (st : Int) (key : ByteArray) (val : ByteArray) (gr : Int) (mv : Bool) (wg : Int) (wk : ByteArray) (wi : Int) (wo : Int) (t S : ByteArray) : Prop where
  rest : mc15 S = t
  good : md15 true S = true
  v_ck : IntKind.i64.wrap (numV S) = ck
  v_cl : IntKind.i64.wrap (numV (mc1 S)) = cl
  v_sq : numV (mc2 S) = sq
  v_ep : numV (mc3 S) = ep
  sub : oBk ok r c v has x (nS pr ++ (nS (wU st) ++ (tS key ++ (tS val ++ (nS (wU gr) ++ (fS mv ++ (nS (wU wg) ++ (tS wk ++ (nS (wU wi) ++ (nS (wU wo) ++ (t))))))))))) (mc4 S)
  v_pr : numV (mc5 S) = pr
  v_st : IntKind.i64.wrap (numV (mc6 S)) = st
  v_key : tv (mc7 S) 65536 = key
  v_val : tv (mc8 S) 65536 = val
  v_gr : IntKind.i64.wrap (numV (mc9 S)) = gr
  v_mv : (yv (mc10 S) == 1) = mv
  v_wg : IntKind.i64.wrap (numV (mc11 S)) = wg
  v_wk : tv (mc12 S) 65536 = wk
  v_wi : IntKind.i64.wrap (numV (mc13 S)) = wi
  v_wo : IntKind.i64.wrap (numV (mc14 S)) = wo
theorem m_back (ck : Int) (cl : Int) (sq : Int) (ep : Int) (ok : Int) (r c v : ByteArray) (has : Bool) (x : ByteArray) (pr : Int) (st : Int) (key : ByteArray) (val : ByteArray) (gr : Int) (mv : Bool) (wg : Int) (wk : ByteArray) (wi : Int) (wo : Int) (t S : ByteArray) (h_ck : 0 ≤ ck ∧ ck ≤ 1073741824) (h_cl : 0 ≤ cl ∧ cl ≤ 1073741824) (h_sq : uOk sq = true ∧ sq ≤ 1099511627776) (h_ep : uOk ep = true ∧ ep ≤ 1099511627776) (h_ok : 0 ≤ ok ∧ ok ≤ 1073741824) (h_r : r.size ≤ 65536) (h_c : c.size ≤ 65536) (h_v : v.size ≤ 65536) (h_x : x.size ≤ 65536) (h_pr : uOk pr = true ∧ pr ≤ 1099511627776) (h_st : 0 ≤ st ∧ st ≤ 1073741824) (h_key : key.size ≤ 65536) (h_val : val.size ≤ 65536) (h_gr : 0 ≤ gr ∧ gr ≤ 1073741824) (h_wg : 0 ≤ wg ∧ wg ≤ 1073741824) (h_wk : wk.size ≤ 65536) (h_wi : 0 ≤ wi ∧ wi ≤ 1073741824) (h_wo : 0 ≤ wo ∧ wo ≤ 1073741824) (hS : S = nS (wU ck) ++ (nS (wU cl) ++ (nS sq ++ (nS ep ++ (opB ok r c v has x ++ (nS pr ++ (nS (wU st) ++ (tS key ++ (tS val ++ (nS (wU gr) ++ (fS mv ++ (nS (wU wg) ++ (tS wk ++ (nS (wU wi) ++ (nS (wU wo) ++ (t)))))))))))))))) (hz : szk S = true) : mBk ck cl sq ep ok r c v has x pr st key val gr mv wg wk wi wo t S := by
  have u1 : uOk (wU ck) = true := uOk_wrap ck
  have V1 : numV S = wU ck := by rw [hS]; exact nS_V u1 _
  have e1 : mc1 S = nS (wU cl) ++ (nS sq ++ (nS ep ++ (opB ok r c v has x ++ (nS pr ++ (nS (wU st) ++ (tS key ++ (tS val ++ (nS (wU gr) ++ (fS mv ++ (nS (wU wg) ++ (tS wk ++ (nS (wU wi) ++ (nS (wU wo) ++ (t)))))))))))))) := by unfold mc1; rw [hS]; exact nr_nS u1 _
  have g1 : md1 true S = true := gN_ok rfl (by rw [hS]; exact nb_nS u1 _) (by rw [V1, wU_id h_ck.1 h_ck.2]; exact h_ck.2)
  have z1 : szk (mc1 S) = true := mz1 hz
  have u2 : uOk (wU cl) = true := uOk_wrap cl
  have V2 : numV (mc1 S) = wU cl := by rw [e1]; exact nS_V u2 _
  have e2 : mc2 S = nS sq ++ (nS ep ++ (opB ok r c v has x ++ (nS pr ++ (nS (wU st) ++ (tS key ++ (tS val ++ (nS (wU gr) ++ (fS mv ++ (nS (wU wg) ++ (tS wk ++ (nS (wU wi) ++ (nS (wU wo) ++ (t))))))))))))) := by unfold mc2; rw [e1]; exact nr_nS u2 _
  have g2 : md2 true S = true := gN_ok g1 (by rw [e1]; exact nb_nS u2 _) (by rw [V2, wU_id h_cl.1 h_cl.2]; exact h_cl.2)
  have z2 : szk (mc2 S) = true := mz2 hz
  have u3 : uOk (sq) = true := h_sq.1
  have V3 : numV (mc2 S) = sq := by rw [e2]; exact nS_V u3 _
  have e3 : mc3 S = nS ep ++ (opB ok r c v has x ++ (nS pr ++ (nS (wU st) ++ (tS key ++ (tS val ++ (nS (wU gr) ++ (fS mv ++ (nS (wU wg) ++ (tS wk ++ (nS (wU wi) ++ (nS (wU wo) ++ (t)))))))))))) := by unfold mc3; rw [e2]; exact nr_nS u3 _
  have g3 : md3 true S = true := gN_ok g2 (by rw [e2]; exact nb_nS u3 _) (by rw [V3]; exact h_sq.2)
  have z3 : szk (mc3 S) = true := mz3 hz
  have u4 : uOk (ep) = true := h_ep.1
  have V4 : numV (mc3 S) = ep := by rw [e3]; exact nS_V u4 _
  have e4 : mc4 S = opB ok r c v has x ++ (nS pr ++ (nS (wU st) ++ (tS key ++ (tS val ++ (nS (wU gr) ++ (fS mv ++ (nS (wU wg) ++ (tS wk ++ (nS (wU wi) ++ (nS (wU wo) ++ (t))))))))))) := by unfold mc4; rw [e3]; exact nr_nS u4 _
  have g4 : md4 true S = true := gN_ok g3 (by rw [e3]; exact nb_nS u4 _) (by rw [V4]; exact h_ep.2)
  have z4 : szk (mc4 S) = true := mz4 hz
  have B5 := o_back ok r c v has x (nS pr ++ (nS (wU st) ++ (tS key ++ (tS val ++ (nS (wU gr) ++ (fS mv ++ (nS (wU wg) ++ (tS wk ++ (nS (wU wi) ++ (nS (wU wo) ++ (t))))))))))) (mc4 S) h_ok h_r h_c h_v h_x (by rw [e4]; simp only [opB, ByteArray.append_assoc]) z4
  have e5 : mc5 S = nS pr ++ (nS (wU st) ++ (tS key ++ (tS val ++ (nS (wU gr) ++ (fS mv ++ (nS (wU wg) ++ (tS wk ++ (nS (wU wi) ++ (nS (wU wo) ++ (t)))))))))) := B5.rest
  have g5 : md5 true S = true := by unfold md5; rw [g4]; exact B5.good
  have z5 : szk (mc5 S) = true := mz5 hz
  have u6 : uOk (pr) = true := h_pr.1
  have V6 : numV (mc5 S) = pr := by rw [e5]; exact nS_V u6 _
  have e6 : mc6 S = nS (wU st) ++ (tS key ++ (tS val ++ (nS (wU gr) ++ (fS mv ++ (nS (wU wg) ++ (tS wk ++ (nS (wU wi) ++ (nS (wU wo) ++ (t))))))))) := by unfold mc6; rw [e5]; exact nr_nS u6 _
  have g6 : md6 true S = true := gN_ok g5 (by rw [e5]; exact nb_nS u6 _) (by rw [V6]; exact h_pr.2)
  have z6 : szk (mc6 S) = true := mz6 hz
  have u7 : uOk (wU st) = true := uOk_wrap st
  have V7 : numV (mc6 S) = wU st := by rw [e6]; exact nS_V u7 _
  have e7 : mc7 S = tS key ++ (tS val ++ (nS (wU gr) ++ (fS mv ++ (nS (wU wg) ++ (tS wk ++ (nS (wU wi) ++ (nS (wU wo) ++ (t)))))))) := by unfold mc7; rw [e6]; exact nr_nS u7 _
  have g7 : md7 true S = true := gN_ok g6 (by rw [e6]; exact nb_nS u7 _) (by rw [V7, wU_id h_st.1 h_st.2]; exact h_st.2)
  have z7 : szk (mc7 S) = true := mz7 hz
  have T8 := tS_facts h_key (tS val ++ (nS (wU gr) ++ (fS mv ++ (nS (wU wg) ++ (tS wk ++ (nS (wU wi) ++ (nS (wU wo) ++ (t)))))))) (by rw [← e7]; exact z7)
  have e8 : mc8 S = tS val ++ (nS (wU gr) ++ (fS mv ++ (nS (wU wg) ++ (tS wk ++ (nS (wU wi) ++ (nS (wU wo) ++ (t))))))) := by unfold mc8; rw [e7]; exact T8.2.2
  have g8 : md8 true S = true := gT_ok g7 (by rw [e7]; exact T8.1)
  have z8 : szk (mc8 S) = true := mz8 hz
  have T9 := tS_facts h_val (nS (wU gr) ++ (fS mv ++ (nS (wU wg) ++ (tS wk ++ (nS (wU wi) ++ (nS (wU wo) ++ (t))))))) (by rw [← e8]; exact z8)
  have e9 : mc9 S = nS (wU gr) ++ (fS mv ++ (nS (wU wg) ++ (tS wk ++ (nS (wU wi) ++ (nS (wU wo) ++ (t)))))) := by unfold mc9; rw [e8]; exact T9.2.2
  have g9 : md9 true S = true := gT_ok g8 (by rw [e8]; exact T9.1)
  have z9 : szk (mc9 S) = true := mz9 hz
  have u10 : uOk (wU gr) = true := uOk_wrap gr
  have V10 : numV (mc9 S) = wU gr := by rw [e9]; exact nS_V u10 _
  have e10 : mc10 S = fS mv ++ (nS (wU wg) ++ (tS wk ++ (nS (wU wi) ++ (nS (wU wo) ++ (t))))) := by unfold mc10; rw [e9]; exact nr_nS u10 _
  have g10 : md10 true S = true := gN_ok g9 (by rw [e9]; exact nb_nS u10 _) (by rw [V10, wU_id h_gr.1 h_gr.2]; exact h_gr.2)
  have z10 : szk (mc10 S) = true := mz10 hz
  have T11 := fS_facts mv (nS (wU wg) ++ (tS wk ++ (nS (wU wi) ++ (nS (wU wo) ++ (t)))))
  have e11 : mc11 S = nS (wU wg) ++ (tS wk ++ (nS (wU wi) ++ (nS (wU wo) ++ (t)))) := by unfold mc11; rw [e10]; exact T11.2.2
  have g11 : md11 true S = true := gY_ok g10 (by rw [e10]; exact T11.1) (by rw [e10, T11.2.1]; cases mv <;> decide)
  have z11 : szk (mc11 S) = true := mz11 hz
  have u12 : uOk (wU wg) = true := uOk_wrap wg
  have V12 : numV (mc11 S) = wU wg := by rw [e11]; exact nS_V u12 _
  have e12 : mc12 S = tS wk ++ (nS (wU wi) ++ (nS (wU wo) ++ (t))) := by unfold mc12; rw [e11]; exact nr_nS u12 _
  have g12 : md12 true S = true := gN_ok g11 (by rw [e11]; exact nb_nS u12 _) (by rw [V12, wU_id h_wg.1 h_wg.2]; exact h_wg.2)
  have z12 : szk (mc12 S) = true := mz12 hz
  have T13 := tS_facts h_wk (nS (wU wi) ++ (nS (wU wo) ++ (t))) (by rw [← e12]; exact z12)
  have e13 : mc13 S = nS (wU wi) ++ (nS (wU wo) ++ (t)) := by unfold mc13; rw [e12]; exact T13.2.2
  have g13 : md13 true S = true := gT_ok g12 (by rw [e12]; exact T13.1)
  have z13 : szk (mc13 S) = true := mz13 hz
  have u14 : uOk (wU wi) = true := uOk_wrap wi
  have V14 : numV (mc13 S) = wU wi := by rw [e13]; exact nS_V u14 _
  have e14 : mc14 S = nS (wU wo) ++ (t) := by unfold mc14; rw [e13]; exact nr_nS u14 _
  have g14 : md14 true S = true := gN_ok g13 (by rw [e13]; exact nb_nS u14 _) (by rw [V14, wU_id h_wi.1 h_wi.2]; exact h_wi.2)
  have z14 : szk (mc14 S) = true := mz14 hz
  have u15 : uOk (wU wo) = true := uOk_wrap wo
  have V15 : numV (mc14 S) = wU wo := by rw [e14]; exact nS_V u15 _
  have e15 : mc15 S = t := by unfold mc15; rw [e14]; exact nr_nS u15 _
  have g15 : md15 true S = true := gN_ok g14 (by rw [e14]; exact nb_nS u15 _) (by rw [V15, wU_id h_wo.1 h_wo.2]; exact h_wo.2)
  have z15 : szk (mc15 S) = true := mz15 hz
  exact {
    rest := e15
    good := g15
    v_ck := by rw [V1]; exact wrapBack (by omega) (by omega)
    v_cl := by rw [V2]; exact wrapBack (by omega) (by omega)
    v_sq := V3
    v_ep := V4
    sub := B5
    v_pr := V6
    v_st := by rw [V7]; exact wrapBack (by omega) (by omega)
    v_key := by rw [e7]; exact T8.2.1
    v_val := by rw [e8]; exact T9.2.1
    v_gr := by rw [V10]; exact wrapBack (by omega) (by omega)
    v_mv := by rw [e10, T11.2.1]; cases mv <;> rfl
    v_wg := by rw [V12]; exact wrapBack (by omega) (by omega)
    v_wk := by rw [e12]; exact T13.2.1
    v_wi := by rw [V14]; exact wrapBack (by omega) (by omega)
    v_wo := by rw [V15]; exact wrapBack (by omega) (by omega)
  }
structure uBk (er : Int) (fo : Bool) (row : ByteArray) (val : ByteArray) (ver : Int) (t S : ByteArray) : Prop where
  rest : uc5 S = t
  good : ud5 true S = true
  v_er : IntKind.i64.wrap (numV S) = er
  v_fo : (yv (uc1 S) == 1) = fo
  v_row : tv (uc2 S) 65536 = row
  v_val : tv (uc3 S) 65536 = val
  v_ver : numV (uc4 S) = ver
theorem u_back (er : Int) (fo : Bool) (row : ByteArray) (val : ByteArray) (ver : Int) (t S : ByteArray) (h_er : 0 ≤ er ∧ er ≤ 1073741824) (h_row : row.size ≤ 65536) (h_val : val.size ≤ 65536) (h_ver : uOk ver = true ∧ ver ≤ 1099511627776) (hS : S = nS (wU er) ++ (fS fo ++ (tS row ++ (tS val ++ (nS ver ++ (t)))))) (hz : szk S = true) : uBk er fo row val ver t S := by
  have u1 : uOk (wU er) = true := uOk_wrap er
  have V1 : numV S = wU er := by rw [hS]; exact nS_V u1 _
  have e1 : uc1 S = fS fo ++ (tS row ++ (tS val ++ (nS ver ++ (t)))) := by unfold uc1; rw [hS]; exact nr_nS u1 _
  have g1 : ud1 true S = true := gN_ok rfl (by rw [hS]; exact nb_nS u1 _) (by rw [V1, wU_id h_er.1 h_er.2]; exact h_er.2)
  have z1 : szk (uc1 S) = true := uz1 hz
  have T2 := fS_facts fo (tS row ++ (tS val ++ (nS ver ++ (t))))
  have e2 : uc2 S = tS row ++ (tS val ++ (nS ver ++ (t))) := by unfold uc2; rw [e1]; exact T2.2.2
  have g2 : ud2 true S = true := gY_ok g1 (by rw [e1]; exact T2.1) (by rw [e1, T2.2.1]; cases fo <;> decide)
  have z2 : szk (uc2 S) = true := uz2 hz
  have T3 := tS_facts h_row (tS val ++ (nS ver ++ (t))) (by rw [← e2]; exact z2)
  have e3 : uc3 S = tS val ++ (nS ver ++ (t)) := by unfold uc3; rw [e2]; exact T3.2.2
  have g3 : ud3 true S = true := gT_ok g2 (by rw [e2]; exact T3.1)
  have z3 : szk (uc3 S) = true := uz3 hz
  have T4 := tS_facts h_val (nS ver ++ (t)) (by rw [← e3]; exact z3)
  have e4 : uc4 S = nS ver ++ (t) := by unfold uc4; rw [e3]; exact T4.2.2
  have g4 : ud4 true S = true := gT_ok g3 (by rw [e3]; exact T4.1)
  have z4 : szk (uc4 S) = true := uz4 hz
  have u5 : uOk (ver) = true := h_ver.1
  have V5 : numV (uc4 S) = ver := by rw [e4]; exact nS_V u5 _
  have e5 : uc5 S = t := by unfold uc5; rw [e4]; exact nr_nS u5 _
  have g5 : ud5 true S = true := gN_ok g4 (by rw [e4]; exact nb_nS u5 _) (by rw [V5]; exact h_ver.2)
  have z5 : szk (uc5 S) = true := uz5 hz
  exact {
    rest := e5
    good := g5
    v_er := by rw [V1]; exact wrapBack (by omega) (by omega)
    v_fo := by rw [e1, T2.2.1]; cases fo <;> rfl
    v_row := by rw [e2]; exact T3.2.1
    v_val := by rw [e3]; exact T4.2.1
    v_ver := V5
  }
structure wBk (er : Int) (fo : Bool) (row : ByteArray) (val : ByteArray) (t S : ByteArray) : Prop where
  rest : uc4 S = t
  good : ud4 true S = true
  v_er : IntKind.i64.wrap (numV S) = er
  v_fo : (yv (uc1 S) == 1) = fo
  v_row : tv (uc2 S) 65536 = row
  v_val : tv (uc3 S) 65536 = val
theorem w_back (er : Int) (fo : Bool) (row : ByteArray) (val : ByteArray) (t S : ByteArray) (h_er : 0 ≤ er ∧ er ≤ 1073741824) (h_row : row.size ≤ 65536) (h_val : val.size ≤ 65536) (hS : S = nS (wU er) ++ (fS fo ++ (tS row ++ (tS val ++ (t))))) (hz : szk S = true) : wBk er fo row val t S := by
  have u1 : uOk (wU er) = true := uOk_wrap er
  have V1 : numV S = wU er := by rw [hS]; exact nS_V u1 _
  have e1 : uc1 S = fS fo ++ (tS row ++ (tS val ++ (t))) := by unfold uc1; rw [hS]; exact nr_nS u1 _
  have g1 : ud1 true S = true := gN_ok rfl (by rw [hS]; exact nb_nS u1 _) (by rw [V1, wU_id h_er.1 h_er.2]; exact h_er.2)
  have z1 : szk (uc1 S) = true := uz1 hz
  have T2 := fS_facts fo (tS row ++ (tS val ++ (t)))
  have e2 : uc2 S = tS row ++ (tS val ++ (t)) := by unfold uc2; rw [e1]; exact T2.2.2
  have g2 : ud2 true S = true := gY_ok g1 (by rw [e1]; exact T2.1) (by rw [e1, T2.2.1]; cases fo <;> decide)
  have z2 : szk (uc2 S) = true := uz2 hz
  have T3 := tS_facts h_row (tS val ++ (t)) (by rw [← e2]; exact z2)
  have e3 : uc3 S = tS val ++ (t) := by unfold uc3; rw [e2]; exact T3.2.2
  have g3 : ud3 true S = true := gT_ok g2 (by rw [e2]; exact T3.1)
  have z3 : szk (uc3 S) = true := uz3 hz
  have T4 := tS_facts h_val t (by rw [← e3]; exact z3)
  have e4 : uc4 S = t := by unfold uc4; rw [e3]; exact T4.2.2
  have g4 : ud4 true S = true := gT_ok g3 (by rw [e3]; exact T4.1)
  have z4 : szk (uc4 S) = true := uz4 hz
  exact {
    rest := e4
    good := g4
    v_er := by rw [V1]; exact wrapBack (by omega) (by omega)
    v_fo := by rw [e1, T2.2.1]; cases fo <;> rfl
    v_row := by rw [e2]; exact T3.2.1
    v_val := by rw [e3]; exact T4.2.1
  }
end Go.Proofs.Ytjplobgambnhjaa
