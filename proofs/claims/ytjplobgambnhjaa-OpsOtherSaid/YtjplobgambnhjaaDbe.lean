/- An entry comes back of its bytes, and no bytes more or fewer are its; no statement. -/
import Derived.Test.YtjplobgambnhjaaDbk
import Derived.Test.YtjplobgambnhjaaEnt0
set_option linter.unusedVariables false
set_option linter.unusedSimpArgs false
set_option maxRecDepth 100000
namespace Go.Proofs.Ytjplobgambnhjaa
open Go Go.Eng

theorem numD_cut (pre : ByteArray) : ∀ (f k v w : Nat), pre.size = k → (numD (pre ++ strOfNums (varP f w)) f k v).2 = 0
  | 0, _, _, _, _ => rfl
  | f + 1, k, v, w, hp => by
    have hpl : pre.data.toList.length = k := by rw [Array.length_toList]; exact hp
    by_cases hw' : w < 128
    · rw [varP_lo hw']
      unfold numD
      rw [if_neg (by rw [ByteArray.size_append, strOfNums_size, hp]; simp)]
    · rw [varP_hi hw']
      have hget : bN (pre ++ strOfNums (((w % 128 + 128 : Nat) : Int) :: varP f (w / 128))) k = w % 128 + 128 := by
        rw [getD_data, data_app, strOfNums_list, List.getD_eq_getElem?_getD, List.getElem?_append_right (by omega), hpl, Nat.sub_self]
        simp only [List.map_cons, List.getElem?_cons_zero, Option.getD_some]
        rw [UInt8.toNat_ofNat']; omega
      unfold numD
      rw [hget]
      split
      · split
        · rfl
        · rw [if_pos (by omega)]
          have e2 : pre ++ strOfNums (((w % 128 + 128 : Nat) : Int) :: varP f (w / 128)) = pre ++ strOfNums [((w % 128 + 128 : Nat) : Int)] ++ strOfNums (varP f (w / 128)) := by
            rw [show ((w % 128 + 128 : Nat) : Int) :: varP f (w / 128) = [((w % 128 + 128 : Nat) : Int)] ++ varP f (w / 128) from rfl, strApp]
            simp only [ByteArray.append_assoc]
          rw [e2]
          exact numD_cut _ f (k + 1) _ (w / 128) (by rw [ByteArray.size_append, strOfNums_size, hp]; rfl)
      · rfl
/-- A number's bytes without the last one. -/
def cutB (v : Int) : ByteArray := strOfNums (varP 10 v.toNat)
theorem cutB_N (v : Int) : numN (cutB v) = 0 := by
  have := numD_cut (ByteArray.mk #[]) 10 0 0 v.toNat rfl
  rw [emptyApp'] at this
  unfold numN cutB
  rw [this]; rfl
theorem cutB_nb (v : Int) : nb (cutB v) = false := by unfold nb; rw [cutB_N]; rfl
theorem nS_cut (v : Int) : ∃ z : ByteArray, z.size = 1 ∧ nS v = cutB v ++ z := ⟨strOfNums [IntKind.u8.wrap ((varE 10 v.toNat : Nat) : Int)], by rw [strOfNums_size]; rfl, by unfold nS numB cutB; rw [strApp]⟩
theorem cut_last {A z : ByteArray} (hz : z.size = 1) : (A ++ z).extract 0 ((A ++ z).size - 1) = A := by
  rw [ByteArray.size_append, hz, Nat.add_sub_cancel]
  exact ByteArray.extract_append_eq_left rfl
theorem wrapBackU {n : Int} (h1 : -9223372036854775808 ≤ n) (h2 : n ≤ 9223372036854775807) : IntKind.i64.wrap (wU n) = n := wrapBack h1 h2
theorem gN_no {g : Bool} {s : ByteArray} {m : Int} (h1 : nb s = false) : (bif bif g then nb s else false then decide (numV s ≤ m) else false) = false := by
  rw [h1]; cases g <;> rfl
theorem gK_ok {g : Bool} {s : ByteArray} {k : Int} (hg : g = true) (h1 : nb s = true) (h2 : k ≤ 5) : (bif bif g then nb s else false then decide (k ≤ 5) else false) = true := by
  rw [hg, h1, decide_eq_true h2]; rfl
theorem gK_no {g : Bool} {s : ByteArray} {k : Int} (h1 : nb s = false) : (bif bif g then nb s else false then decide (k ≤ 5) else false) = false := by
  rw [h1]; cases g <;> rfl

structure nBk (ix tm kd : Int) (ck cl sq ep ok : Int) (r c v : ByteArray) (has : Bool) (x : ByteArray) (pr st : Int) (key val : ByteArray) (gr : Int) (mv : Bool) (wg : Int) (wk : ByteArray) (wi wo : Int) (t S : ByteArray) : Prop where
  rest : nc4 S = t
  good : nd4 true S = true
  v_ix : numV S = ix
  v_tm : numV (nc1 S) = tm
  v_kd : IntKind.i64.wrap (numV (nc2 S)) = kd
  sub : mBk ck cl sq ep ok r c v has x pr st key val gr mv wg wk wi wo t (nc3 S)
theorem n_back (ix tm kd : Int) (ck cl sq ep ok : Int) (r c v : ByteArray) (has : Bool) (x : ByteArray) (pr st : Int) (key val : ByteArray) (gr : Int) (mv : Bool) (wg : Int) (wk : ByteArray) (wi wo : Int) (t S : ByteArray) (h_ix : uOk ix = true) (h_tm : uOk tm = true) (h_kd : 0 ≤ kd ∧ kd ≤ 1073741824) (h_ck : 0 ≤ ck ∧ ck ≤ 1073741824) (h_cl : 0 ≤ cl ∧ cl ≤ 1073741824) (h_sq : uOk sq = true ∧ sq ≤ 1099511627776) (h_ep : uOk ep = true ∧ ep ≤ 1099511627776) (h_ok : 0 ≤ ok ∧ ok ≤ 1073741824) (h_r : r.size ≤ 65536) (h_c : c.size ≤ 65536) (h_v : v.size ≤ 65536) (h_x : x.size ≤ 65536) (h_pr : uOk pr = true ∧ pr ≤ 1099511627776) (h_st : 0 ≤ st ∧ st ≤ 1073741824) (h_key : key.size ≤ 65536) (h_val : val.size ≤ 65536) (h_gr : 0 ≤ gr ∧ gr ≤ 1073741824) (h_wg : 0 ≤ wg ∧ wg ≤ 1073741824) (h_wk : wk.size ≤ 65536) (h_wi : 0 ≤ wi ∧ wi ≤ 1073741824) (h_wo : 0 ≤ wo ∧ wo ≤ 1073741824) (hS : S = nS ix ++ (nS tm ++ (nS (wU kd) ++ (cmdB ck cl sq ep (opB ok r c v has x) pr st key val gr mv wg wk wi wo ++ t)))) (hz : szk S = true) : nBk ix tm kd ck cl sq ep ok r c v has x pr st key val gr mv wg wk wi wo t S := by
  have b1 := uOk_i h_ix; have b2 := uOk_i h_tm
  have V1 : numV S = ix := by rw [hS]; exact nS_V h_ix _
  have e1 : nc1 S = nS tm ++ (nS (wU kd) ++ (cmdB ck cl sq ep (opB ok r c v has x) pr st key val gr mv wg wk wi wo ++ t)) := by unfold nc1; rw [hS]; exact nr_nS h_ix _
  have g1 : nd1 true S = true := gN_ok rfl (by rw [hS]; exact nb_nS h_ix _) (by rw [V1]; omega)
  have V2 : numV (nc1 S) = tm := by rw [e1]; exact nS_V h_tm _
  have e2 : nc2 S = nS (wU kd) ++ (cmdB ck cl sq ep (opB ok r c v has x) pr st key val gr mv wg wk wi wo ++ t) := by unfold nc2; rw [e1]; exact nr_nS h_tm _
  have g2 : nd2 true S = true := gN_ok g1 (by rw [e1]; exact nb_nS h_tm _) (by rw [V2]; omega)
  have V3 : numV (nc2 S) = wU kd := by rw [e2]; exact nS_V (uOk_wrap kd) _
  have e3 : nc3 S = cmdB ck cl sq ep (opB ok r c v has x) pr st key val gr mv wg wk wi wo ++ t := by unfold nc3; rw [e2]; exact nr_nS (uOk_wrap kd) _
  have g3 : nd3 true S = true := gN_ok g2 (by rw [e2]; exact nb_nS (uOk_wrap kd) _) (by rw [V3, wU_id h_kd.1 h_kd.2]; exact h_kd.2)
  have B := m_back ck cl sq ep ok r c v has x pr st key val gr mv wg wk wi wo t (nc3 S) h_ck h_cl h_sq h_ep h_ok h_r h_c h_v h_x h_pr h_st h_key h_val h_gr h_wg h_wk h_wi h_wo (by rw [e3]; simp only [cmdB, ByteArray.append_assoc]) (nz3 hz)
  exact { rest := B.rest, good := by (unfold nd4; rw [g3]; exact B.good), v_ix := V1, v_tm := V2, v_kd := by (rw [V3]; exact wrapBack (by omega) (by omega)), sub := B }
theorem deV_back {ix tm kd : Int} {ck cl sq ep ok : Int} {r c v : ByteArray} {has : Bool} {x : ByteArray} {pr st : Int} {key val : ByteArray} {gr : Int} {mv : Bool} {wg : Int} {wk : ByteArray} {wi wo : Int} {t S : ByteArray} (B : nBk ix tm kd ck cl sq ep ok r c v has x pr st key val gr mv wg wk wi wo t S) (l : List Int) :
    deV l S = (ix, tm, kd, (ck, cl, sq, ep, (ok, r, c, v, has, x, ()), pr, st, key, val, gr, (mv, wg, wk, wi, wo, ()), ()), l, ()) := by
  obtain ⟨_, _, a1, a2, a3, ⟨_, _, c1, c2, c3, c4, ⟨_, _, d1, d2, d3, d4, d5, d6⟩, c5, c6, c7, c8, c9, c10, c11, c12, c13, c14⟩⟩ := B
  unfold deV deQ
  rw [a1, a2, a3, c1, c2, c3, c4, d1, d2, d3, d4, d5, d6, c5, c6, c7, c8, c9, c10, c11, c12, c13, c14]
theorem mem_ok0 {ix tm kd : Int} {ck cl sq ep ok : Int} {r c v : ByteArray} {has : Bool} {x : ByteArray} {pr st : Int} {key val : ByteArray} {gr : Int} {mv : Bool} {wg : Int} {wk : ByteArray} {wi wo : Int} {S : ByteArray} {u : ByteArray} (B : nBk ix tm kd ck cl sq ep ok r c v has x pr st key val gr mv wg wk wi wo (nS (wU 0) ++ (u)) S) : numV (nc4 S) = 0 ∧ ne0 0 true S = true ∧ nc5 S = u ∧ dl0 S = [] := by
  have V4 : numV (nc4 S) = 0 := by rw [B.rest]; exact nS_V (uOk_wrap 0) _
  have e5 : nc5 S = u := by unfold nc5; rw [B.rest]; exact nr_nS (uOk_wrap 0) _
  have g0 : ne0 0 true S = true := gK_ok B.good (by rw [B.rest]; exact nb_nS (uOk_wrap 0) _) (by decide)
  refine ⟨V4, g0, e5, ?_⟩
  rfl
theorem mem_cut0 {ix tm kd : Int} {ck cl sq ep ok : Int} {r c v : ByteArray} {has : Bool} {x : ByteArray} {pr st : Int} {key val : ByteArray} {gr : Int} {mv : Bool} {wg : Int} {wk : ByteArray} {wi wo : Int} {S : ByteArray} (B : nBk ix tm kd ck cl sq ep ok r c v has x pr st key val gr mv wg wk wi wo (cutB (wU 0)) S) : numV (nc4 S) = 0 ∧ ne0 0 true S = false := by
  have hb : nb (nc4 S) = false := by rw [B.rest]; exact cutB_nb _
  refine ⟨?_, gK_no hb⟩
  rw [B.rest]; exact numV_zero (cutB_N _)
theorem mem_ok1 {ix tm kd : Int} {ck cl sq ep ok : Int} {r c v : ByteArray} {has : Bool} {x : ByteArray} {pr st : Int} {key val : ByteArray} {gr : Int} {mv : Bool} {wg : Int} {wk : ByteArray} {wi wo : Int} {S : ByteArray} {a0 : Int} {u : ByteArray} (h0 : 0 ≤ a0 ∧ a0 < 5) (B : nBk ix tm kd ck cl sq ep ok r c v has x pr st key val gr mv wg wk wi wo (nS (wU 1) ++ (nS (wU a0) ++ (u))) S) : numV (nc4 S) = 1 ∧ ne1 1 true S = true ∧ nc6 S = u ∧ dl1 S = [a0] := by
  have V4 : numV (nc4 S) = 1 := by rw [B.rest]; exact nS_V (uOk_wrap 1) _
  have e5 : nc5 S = nS (wU a0) ++ (u) := by unfold nc5; rw [B.rest]; exact nr_nS (uOk_wrap 1) _
  have g0 : ne0 1 true S = true := gK_ok B.good (by rw [B.rest]; exact nb_nS (uOk_wrap 1) _) (by decide)
  have V5 : numV (nc5 S) = wU a0 := by rw [e5]; exact nS_V (uOk_wrap a0) _
  have e6 : nc6 S = u := by unfold nc6; rw [e5]; exact nr_nS (uOk_wrap a0) _
  have g1 : ne1 1 true S = true := gN_ok g0 (by rw [e5]; exact nb_nS (uOk_wrap a0) _) (by rw [V5, wU_id h0.1 (by omega)]; omega)
  refine ⟨V4, g1, e6, ?_⟩
  unfold dl1; rw [V5]
  rw [wrapBackU (n := a0) (by omega) (by omega)]
theorem mem_cut1 {ix tm kd : Int} {ck cl sq ep ok : Int} {r c v : ByteArray} {has : Bool} {x : ByteArray} {pr st : Int} {key val : ByteArray} {gr : Int} {mv : Bool} {wg : Int} {wk : ByteArray} {wi wo : Int} {S : ByteArray} {a0 : Int} (h0 : 0 ≤ a0 ∧ a0 < 5) (B : nBk ix tm kd ck cl sq ep ok r c v has x pr st key val gr mv wg wk wi wo (nS (wU 1) ++ (cutB (wU a0))) S) : numV (nc4 S) = 1 ∧ ne1 1 true S = false := by
  have V4 : numV (nc4 S) = 1 := by rw [B.rest]; exact nS_V (uOk_wrap 1) _
  have e5 : nc5 S = cutB (wU a0) := by unfold nc5; rw [B.rest]; exact nr_nS (uOk_wrap 1) _
  have g0 : ne0 1 true S = true := gK_ok B.good (by rw [B.rest]; exact nb_nS (uOk_wrap 1) _) (by decide)
  exact ⟨V4, gN_no (by rw [e5]; exact cutB_nb _)⟩
theorem mem_ok2 {ix tm kd : Int} {ck cl sq ep ok : Int} {r c v : ByteArray} {has : Bool} {x : ByteArray} {pr st : Int} {key val : ByteArray} {gr : Int} {mv : Bool} {wg : Int} {wk : ByteArray} {wi wo : Int} {S : ByteArray} {a0 : Int} {a1 : Int} {u : ByteArray} (h0 : 0 ≤ a0 ∧ a0 < 5) (h1 : 0 ≤ a1 ∧ a1 < 5) (B : nBk ix tm kd ck cl sq ep ok r c v has x pr st key val gr mv wg wk wi wo (nS (wU 2) ++ (nS (wU a0) ++ (nS (wU a1) ++ (u)))) S) : numV (nc4 S) = 2 ∧ ne2 2 true S = true ∧ nc7 S = u ∧ dl2 S = [a0, a1] := by
  have V4 : numV (nc4 S) = 2 := by rw [B.rest]; exact nS_V (uOk_wrap 2) _
  have e5 : nc5 S = nS (wU a0) ++ (nS (wU a1) ++ (u)) := by unfold nc5; rw [B.rest]; exact nr_nS (uOk_wrap 2) _
  have g0 : ne0 2 true S = true := gK_ok B.good (by rw [B.rest]; exact nb_nS (uOk_wrap 2) _) (by decide)
  have V5 : numV (nc5 S) = wU a0 := by rw [e5]; exact nS_V (uOk_wrap a0) _
  have e6 : nc6 S = nS (wU a1) ++ (u) := by unfold nc6; rw [e5]; exact nr_nS (uOk_wrap a0) _
  have g1 : ne1 2 true S = true := gN_ok g0 (by rw [e5]; exact nb_nS (uOk_wrap a0) _) (by rw [V5, wU_id h0.1 (by omega)]; omega)
  have V6 : numV (nc6 S) = wU a1 := by rw [e6]; exact nS_V (uOk_wrap a1) _
  have e7 : nc7 S = u := by unfold nc7; rw [e6]; exact nr_nS (uOk_wrap a1) _
  have g2 : ne2 2 true S = true := gN_ok g1 (by rw [e6]; exact nb_nS (uOk_wrap a1) _) (by rw [V6, wU_id h1.1 (by omega)]; omega)
  refine ⟨V4, g2, e7, ?_⟩
  unfold dl2; rw [V5, V6]
  rw [wrapBackU (n := a0) (by omega) (by omega), wrapBackU (n := a1) (by omega) (by omega)]
theorem mem_cut2 {ix tm kd : Int} {ck cl sq ep ok : Int} {r c v : ByteArray} {has : Bool} {x : ByteArray} {pr st : Int} {key val : ByteArray} {gr : Int} {mv : Bool} {wg : Int} {wk : ByteArray} {wi wo : Int} {S : ByteArray} {a0 : Int} {a1 : Int} (h0 : 0 ≤ a0 ∧ a0 < 5) (h1 : 0 ≤ a1 ∧ a1 < 5) (B : nBk ix tm kd ck cl sq ep ok r c v has x pr st key val gr mv wg wk wi wo (nS (wU 2) ++ (nS (wU a0) ++ (cutB (wU a1)))) S) : numV (nc4 S) = 2 ∧ ne2 2 true S = false := by
  have V4 : numV (nc4 S) = 2 := by rw [B.rest]; exact nS_V (uOk_wrap 2) _
  have e5 : nc5 S = nS (wU a0) ++ (cutB (wU a1)) := by unfold nc5; rw [B.rest]; exact nr_nS (uOk_wrap 2) _
  have g0 : ne0 2 true S = true := gK_ok B.good (by rw [B.rest]; exact nb_nS (uOk_wrap 2) _) (by decide)
  have V5 : numV (nc5 S) = wU a0 := by rw [e5]; exact nS_V (uOk_wrap a0) _
  have e6 : nc6 S = cutB (wU a1) := by unfold nc6; rw [e5]; exact nr_nS (uOk_wrap a0) _
  have g1 : ne1 2 true S = true := gN_ok g0 (by rw [e5]; exact nb_nS (uOk_wrap a0) _) (by rw [V5, wU_id h0.1 (by omega)]; omega)
  exact ⟨V4, gN_no (by rw [e6]; exact cutB_nb _)⟩
theorem mem_ok3 {ix tm kd : Int} {ck cl sq ep ok : Int} {r c v : ByteArray} {has : Bool} {x : ByteArray} {pr st : Int} {key val : ByteArray} {gr : Int} {mv : Bool} {wg : Int} {wk : ByteArray} {wi wo : Int} {S : ByteArray} {a0 : Int} {a1 : Int} {a2 : Int} {u : ByteArray} (h0 : 0 ≤ a0 ∧ a0 < 5) (h1 : 0 ≤ a1 ∧ a1 < 5) (h2 : 0 ≤ a2 ∧ a2 < 5) (B : nBk ix tm kd ck cl sq ep ok r c v has x pr st key val gr mv wg wk wi wo (nS (wU 3) ++ (nS (wU a0) ++ (nS (wU a1) ++ (nS (wU a2) ++ (u))))) S) : numV (nc4 S) = 3 ∧ ne3 3 true S = true ∧ nc8 S = u ∧ dl3 S = [a0, a1, a2] := by
  have V4 : numV (nc4 S) = 3 := by rw [B.rest]; exact nS_V (uOk_wrap 3) _
  have e5 : nc5 S = nS (wU a0) ++ (nS (wU a1) ++ (nS (wU a2) ++ (u))) := by unfold nc5; rw [B.rest]; exact nr_nS (uOk_wrap 3) _
  have g0 : ne0 3 true S = true := gK_ok B.good (by rw [B.rest]; exact nb_nS (uOk_wrap 3) _) (by decide)
  have V5 : numV (nc5 S) = wU a0 := by rw [e5]; exact nS_V (uOk_wrap a0) _
  have e6 : nc6 S = nS (wU a1) ++ (nS (wU a2) ++ (u)) := by unfold nc6; rw [e5]; exact nr_nS (uOk_wrap a0) _
  have g1 : ne1 3 true S = true := gN_ok g0 (by rw [e5]; exact nb_nS (uOk_wrap a0) _) (by rw [V5, wU_id h0.1 (by omega)]; omega)
  have V6 : numV (nc6 S) = wU a1 := by rw [e6]; exact nS_V (uOk_wrap a1) _
  have e7 : nc7 S = nS (wU a2) ++ (u) := by unfold nc7; rw [e6]; exact nr_nS (uOk_wrap a1) _
  have g2 : ne2 3 true S = true := gN_ok g1 (by rw [e6]; exact nb_nS (uOk_wrap a1) _) (by rw [V6, wU_id h1.1 (by omega)]; omega)
  have V7 : numV (nc7 S) = wU a2 := by rw [e7]; exact nS_V (uOk_wrap a2) _
  have e8 : nc8 S = u := by unfold nc8; rw [e7]; exact nr_nS (uOk_wrap a2) _
  have g3 : ne3 3 true S = true := gN_ok g2 (by rw [e7]; exact nb_nS (uOk_wrap a2) _) (by rw [V7, wU_id h2.1 (by omega)]; omega)
  refine ⟨V4, g3, e8, ?_⟩
  unfold dl3; rw [V5, V6, V7]
  rw [wrapBackU (n := a0) (by omega) (by omega), wrapBackU (n := a1) (by omega) (by omega), wrapBackU (n := a2) (by omega) (by omega)]
theorem mem_cut3 {ix tm kd : Int} {ck cl sq ep ok : Int} {r c v : ByteArray} {has : Bool} {x : ByteArray} {pr st : Int} {key val : ByteArray} {gr : Int} {mv : Bool} {wg : Int} {wk : ByteArray} {wi wo : Int} {S : ByteArray} {a0 : Int} {a1 : Int} {a2 : Int} (h0 : 0 ≤ a0 ∧ a0 < 5) (h1 : 0 ≤ a1 ∧ a1 < 5) (h2 : 0 ≤ a2 ∧ a2 < 5) (B : nBk ix tm kd ck cl sq ep ok r c v has x pr st key val gr mv wg wk wi wo (nS (wU 3) ++ (nS (wU a0) ++ (nS (wU a1) ++ (cutB (wU a2))))) S) : numV (nc4 S) = 3 ∧ ne3 3 true S = false := by
  have V4 : numV (nc4 S) = 3 := by rw [B.rest]; exact nS_V (uOk_wrap 3) _
  have e5 : nc5 S = nS (wU a0) ++ (nS (wU a1) ++ (cutB (wU a2))) := by unfold nc5; rw [B.rest]; exact nr_nS (uOk_wrap 3) _
  have g0 : ne0 3 true S = true := gK_ok B.good (by rw [B.rest]; exact nb_nS (uOk_wrap 3) _) (by decide)
  have V5 : numV (nc5 S) = wU a0 := by rw [e5]; exact nS_V (uOk_wrap a0) _
  have e6 : nc6 S = nS (wU a1) ++ (cutB (wU a2)) := by unfold nc6; rw [e5]; exact nr_nS (uOk_wrap a0) _
  have g1 : ne1 3 true S = true := gN_ok g0 (by rw [e5]; exact nb_nS (uOk_wrap a0) _) (by rw [V5, wU_id h0.1 (by omega)]; omega)
  have V6 : numV (nc6 S) = wU a1 := by rw [e6]; exact nS_V (uOk_wrap a1) _
  have e7 : nc7 S = cutB (wU a2) := by unfold nc7; rw [e6]; exact nr_nS (uOk_wrap a1) _
  have g2 : ne2 3 true S = true := gN_ok g1 (by rw [e6]; exact nb_nS (uOk_wrap a1) _) (by rw [V6, wU_id h1.1 (by omega)]; omega)
  exact ⟨V4, gN_no (by rw [e7]; exact cutB_nb _)⟩
theorem mem_ok4 {ix tm kd : Int} {ck cl sq ep ok : Int} {r c v : ByteArray} {has : Bool} {x : ByteArray} {pr st : Int} {key val : ByteArray} {gr : Int} {mv : Bool} {wg : Int} {wk : ByteArray} {wi wo : Int} {S : ByteArray} {a0 : Int} {a1 : Int} {a2 : Int} {a3 : Int} {u : ByteArray} (h0 : 0 ≤ a0 ∧ a0 < 5) (h1 : 0 ≤ a1 ∧ a1 < 5) (h2 : 0 ≤ a2 ∧ a2 < 5) (h3 : 0 ≤ a3 ∧ a3 < 5) (B : nBk ix tm kd ck cl sq ep ok r c v has x pr st key val gr mv wg wk wi wo (nS (wU 4) ++ (nS (wU a0) ++ (nS (wU a1) ++ (nS (wU a2) ++ (nS (wU a3) ++ (u)))))) S) : numV (nc4 S) = 4 ∧ ne4 4 true S = true ∧ nc9 S = u ∧ dl4 S = [a0, a1, a2, a3] := by
  have V4 : numV (nc4 S) = 4 := by rw [B.rest]; exact nS_V (uOk_wrap 4) _
  have e5 : nc5 S = nS (wU a0) ++ (nS (wU a1) ++ (nS (wU a2) ++ (nS (wU a3) ++ (u)))) := by unfold nc5; rw [B.rest]; exact nr_nS (uOk_wrap 4) _
  have g0 : ne0 4 true S = true := gK_ok B.good (by rw [B.rest]; exact nb_nS (uOk_wrap 4) _) (by decide)
  have V5 : numV (nc5 S) = wU a0 := by rw [e5]; exact nS_V (uOk_wrap a0) _
  have e6 : nc6 S = nS (wU a1) ++ (nS (wU a2) ++ (nS (wU a3) ++ (u))) := by unfold nc6; rw [e5]; exact nr_nS (uOk_wrap a0) _
  have g1 : ne1 4 true S = true := gN_ok g0 (by rw [e5]; exact nb_nS (uOk_wrap a0) _) (by rw [V5, wU_id h0.1 (by omega)]; omega)
  have V6 : numV (nc6 S) = wU a1 := by rw [e6]; exact nS_V (uOk_wrap a1) _
  have e7 : nc7 S = nS (wU a2) ++ (nS (wU a3) ++ (u)) := by unfold nc7; rw [e6]; exact nr_nS (uOk_wrap a1) _
  have g2 : ne2 4 true S = true := gN_ok g1 (by rw [e6]; exact nb_nS (uOk_wrap a1) _) (by rw [V6, wU_id h1.1 (by omega)]; omega)
  have V7 : numV (nc7 S) = wU a2 := by rw [e7]; exact nS_V (uOk_wrap a2) _
  have e8 : nc8 S = nS (wU a3) ++ (u) := by unfold nc8; rw [e7]; exact nr_nS (uOk_wrap a2) _
  have g3 : ne3 4 true S = true := gN_ok g2 (by rw [e7]; exact nb_nS (uOk_wrap a2) _) (by rw [V7, wU_id h2.1 (by omega)]; omega)
  have V8 : numV (nc8 S) = wU a3 := by rw [e8]; exact nS_V (uOk_wrap a3) _
  have e9 : nc9 S = u := by unfold nc9; rw [e8]; exact nr_nS (uOk_wrap a3) _
  have g4 : ne4 4 true S = true := gN_ok g3 (by rw [e8]; exact nb_nS (uOk_wrap a3) _) (by rw [V8, wU_id h3.1 (by omega)]; omega)
  refine ⟨V4, g4, e9, ?_⟩
  unfold dl4; rw [V5, V6, V7, V8]
  rw [wrapBackU (n := a0) (by omega) (by omega), wrapBackU (n := a1) (by omega) (by omega), wrapBackU (n := a2) (by omega) (by omega), wrapBackU (n := a3) (by omega) (by omega)]
theorem mem_cut4 {ix tm kd : Int} {ck cl sq ep ok : Int} {r c v : ByteArray} {has : Bool} {x : ByteArray} {pr st : Int} {key val : ByteArray} {gr : Int} {mv : Bool} {wg : Int} {wk : ByteArray} {wi wo : Int} {S : ByteArray} {a0 : Int} {a1 : Int} {a2 : Int} {a3 : Int} (h0 : 0 ≤ a0 ∧ a0 < 5) (h1 : 0 ≤ a1 ∧ a1 < 5) (h2 : 0 ≤ a2 ∧ a2 < 5) (h3 : 0 ≤ a3 ∧ a3 < 5) (B : nBk ix tm kd ck cl sq ep ok r c v has x pr st key val gr mv wg wk wi wo (nS (wU 4) ++ (nS (wU a0) ++ (nS (wU a1) ++ (nS (wU a2) ++ (cutB (wU a3)))))) S) : numV (nc4 S) = 4 ∧ ne4 4 true S = false := by
  have V4 : numV (nc4 S) = 4 := by rw [B.rest]; exact nS_V (uOk_wrap 4) _
  have e5 : nc5 S = nS (wU a0) ++ (nS (wU a1) ++ (nS (wU a2) ++ (cutB (wU a3)))) := by unfold nc5; rw [B.rest]; exact nr_nS (uOk_wrap 4) _
  have g0 : ne0 4 true S = true := gK_ok B.good (by rw [B.rest]; exact nb_nS (uOk_wrap 4) _) (by decide)
  have V5 : numV (nc5 S) = wU a0 := by rw [e5]; exact nS_V (uOk_wrap a0) _
  have e6 : nc6 S = nS (wU a1) ++ (nS (wU a2) ++ (cutB (wU a3))) := by unfold nc6; rw [e5]; exact nr_nS (uOk_wrap a0) _
  have g1 : ne1 4 true S = true := gN_ok g0 (by rw [e5]; exact nb_nS (uOk_wrap a0) _) (by rw [V5, wU_id h0.1 (by omega)]; omega)
  have V6 : numV (nc6 S) = wU a1 := by rw [e6]; exact nS_V (uOk_wrap a1) _
  have e7 : nc7 S = nS (wU a2) ++ (cutB (wU a3)) := by unfold nc7; rw [e6]; exact nr_nS (uOk_wrap a1) _
  have g2 : ne2 4 true S = true := gN_ok g1 (by rw [e6]; exact nb_nS (uOk_wrap a1) _) (by rw [V6, wU_id h1.1 (by omega)]; omega)
  have V7 : numV (nc7 S) = wU a2 := by rw [e7]; exact nS_V (uOk_wrap a2) _
  have e8 : nc8 S = cutB (wU a3) := by unfold nc8; rw [e7]; exact nr_nS (uOk_wrap a2) _
  have g3 : ne3 4 true S = true := gN_ok g2 (by rw [e7]; exact nb_nS (uOk_wrap a2) _) (by rw [V7, wU_id h2.1 (by omega)]; omega)
  exact ⟨V4, gN_no (by rw [e8]; exact cutB_nb _)⟩
theorem mem_ok5 {ix tm kd : Int} {ck cl sq ep ok : Int} {r c v : ByteArray} {has : Bool} {x : ByteArray} {pr st : Int} {key val : ByteArray} {gr : Int} {mv : Bool} {wg : Int} {wk : ByteArray} {wi wo : Int} {S : ByteArray} {a0 : Int} {a1 : Int} {a2 : Int} {a3 : Int} {a4 : Int} {u : ByteArray} (h0 : 0 ≤ a0 ∧ a0 < 5) (h1 : 0 ≤ a1 ∧ a1 < 5) (h2 : 0 ≤ a2 ∧ a2 < 5) (h3 : 0 ≤ a3 ∧ a3 < 5) (h4 : 0 ≤ a4 ∧ a4 < 5) (B : nBk ix tm kd ck cl sq ep ok r c v has x pr st key val gr mv wg wk wi wo (nS (wU 5) ++ (nS (wU a0) ++ (nS (wU a1) ++ (nS (wU a2) ++ (nS (wU a3) ++ (nS (wU a4) ++ (u))))))) S) : numV (nc4 S) = 5 ∧ ne5 5 true S = true ∧ nc10 S = u ∧ dl5 S = [a0, a1, a2, a3, a4] := by
  have V4 : numV (nc4 S) = 5 := by rw [B.rest]; exact nS_V (uOk_wrap 5) _
  have e5 : nc5 S = nS (wU a0) ++ (nS (wU a1) ++ (nS (wU a2) ++ (nS (wU a3) ++ (nS (wU a4) ++ (u))))) := by unfold nc5; rw [B.rest]; exact nr_nS (uOk_wrap 5) _
  have g0 : ne0 5 true S = true := gK_ok B.good (by rw [B.rest]; exact nb_nS (uOk_wrap 5) _) (by decide)
  have V5 : numV (nc5 S) = wU a0 := by rw [e5]; exact nS_V (uOk_wrap a0) _
  have e6 : nc6 S = nS (wU a1) ++ (nS (wU a2) ++ (nS (wU a3) ++ (nS (wU a4) ++ (u)))) := by unfold nc6; rw [e5]; exact nr_nS (uOk_wrap a0) _
  have g1 : ne1 5 true S = true := gN_ok g0 (by rw [e5]; exact nb_nS (uOk_wrap a0) _) (by rw [V5, wU_id h0.1 (by omega)]; omega)
  have V6 : numV (nc6 S) = wU a1 := by rw [e6]; exact nS_V (uOk_wrap a1) _
  have e7 : nc7 S = nS (wU a2) ++ (nS (wU a3) ++ (nS (wU a4) ++ (u))) := by unfold nc7; rw [e6]; exact nr_nS (uOk_wrap a1) _
  have g2 : ne2 5 true S = true := gN_ok g1 (by rw [e6]; exact nb_nS (uOk_wrap a1) _) (by rw [V6, wU_id h1.1 (by omega)]; omega)
  have V7 : numV (nc7 S) = wU a2 := by rw [e7]; exact nS_V (uOk_wrap a2) _
  have e8 : nc8 S = nS (wU a3) ++ (nS (wU a4) ++ (u)) := by unfold nc8; rw [e7]; exact nr_nS (uOk_wrap a2) _
  have g3 : ne3 5 true S = true := gN_ok g2 (by rw [e7]; exact nb_nS (uOk_wrap a2) _) (by rw [V7, wU_id h2.1 (by omega)]; omega)
  have V8 : numV (nc8 S) = wU a3 := by rw [e8]; exact nS_V (uOk_wrap a3) _
  have e9 : nc9 S = nS (wU a4) ++ (u) := by unfold nc9; rw [e8]; exact nr_nS (uOk_wrap a3) _
  have g4 : ne4 5 true S = true := gN_ok g3 (by rw [e8]; exact nb_nS (uOk_wrap a3) _) (by rw [V8, wU_id h3.1 (by omega)]; omega)
  have V9 : numV (nc9 S) = wU a4 := by rw [e9]; exact nS_V (uOk_wrap a4) _
  have e10 : nc10 S = u := by unfold nc10; rw [e9]; exact nr_nS (uOk_wrap a4) _
  have g5 : ne5 5 true S = true := gN_ok g4 (by rw [e9]; exact nb_nS (uOk_wrap a4) _) (by rw [V9, wU_id h4.1 (by omega)]; omega)
  refine ⟨V4, g5, e10, ?_⟩
  unfold dl5; rw [V5, V6, V7, V8, V9]
  rw [wrapBackU (n := a0) (by omega) (by omega), wrapBackU (n := a1) (by omega) (by omega), wrapBackU (n := a2) (by omega) (by omega), wrapBackU (n := a3) (by omega) (by omega), wrapBackU (n := a4) (by omega) (by omega)]
theorem mem_cut5 {ix tm kd : Int} {ck cl sq ep ok : Int} {r c v : ByteArray} {has : Bool} {x : ByteArray} {pr st : Int} {key val : ByteArray} {gr : Int} {mv : Bool} {wg : Int} {wk : ByteArray} {wi wo : Int} {S : ByteArray} {a0 : Int} {a1 : Int} {a2 : Int} {a3 : Int} {a4 : Int} (h0 : 0 ≤ a0 ∧ a0 < 5) (h1 : 0 ≤ a1 ∧ a1 < 5) (h2 : 0 ≤ a2 ∧ a2 < 5) (h3 : 0 ≤ a3 ∧ a3 < 5) (h4 : 0 ≤ a4 ∧ a4 < 5) (B : nBk ix tm kd ck cl sq ep ok r c v has x pr st key val gr mv wg wk wi wo (nS (wU 5) ++ (nS (wU a0) ++ (nS (wU a1) ++ (nS (wU a2) ++ (nS (wU a3) ++ (cutB (wU a4))))))) S) : numV (nc4 S) = 5 ∧ ne5 5 true S = false := by
  have V4 : numV (nc4 S) = 5 := by rw [B.rest]; exact nS_V (uOk_wrap 5) _
  have e5 : nc5 S = nS (wU a0) ++ (nS (wU a1) ++ (nS (wU a2) ++ (nS (wU a3) ++ (cutB (wU a4))))) := by unfold nc5; rw [B.rest]; exact nr_nS (uOk_wrap 5) _
  have g0 : ne0 5 true S = true := gK_ok B.good (by rw [B.rest]; exact nb_nS (uOk_wrap 5) _) (by decide)
  have V5 : numV (nc5 S) = wU a0 := by rw [e5]; exact nS_V (uOk_wrap a0) _
  have e6 : nc6 S = nS (wU a1) ++ (nS (wU a2) ++ (nS (wU a3) ++ (cutB (wU a4)))) := by unfold nc6; rw [e5]; exact nr_nS (uOk_wrap a0) _
  have g1 : ne1 5 true S = true := gN_ok g0 (by rw [e5]; exact nb_nS (uOk_wrap a0) _) (by rw [V5, wU_id h0.1 (by omega)]; omega)
  have V6 : numV (nc6 S) = wU a1 := by rw [e6]; exact nS_V (uOk_wrap a1) _
  have e7 : nc7 S = nS (wU a2) ++ (nS (wU a3) ++ (cutB (wU a4))) := by unfold nc7; rw [e6]; exact nr_nS (uOk_wrap a1) _
  have g2 : ne2 5 true S = true := gN_ok g1 (by rw [e6]; exact nb_nS (uOk_wrap a1) _) (by rw [V6, wU_id h1.1 (by omega)]; omega)
  have V7 : numV (nc7 S) = wU a2 := by rw [e7]; exact nS_V (uOk_wrap a2) _
  have e8 : nc8 S = nS (wU a3) ++ (cutB (wU a4)) := by unfold nc8; rw [e7]; exact nr_nS (uOk_wrap a2) _
  have g3 : ne3 5 true S = true := gN_ok g2 (by rw [e7]; exact nb_nS (uOk_wrap a2) _) (by rw [V7, wU_id h2.1 (by omega)]; omega)
  have V8 : numV (nc8 S) = wU a3 := by rw [e8]; exact nS_V (uOk_wrap a3) _
  have e9 : nc9 S = cutB (wU a4) := by unfold nc9; rw [e8]; exact nr_nS (uOk_wrap a3) _
  have g4 : ne4 5 true S = true := gN_ok g3 (by rw [e8]; exact nb_nS (uOk_wrap a3) _) (by rw [V8, wU_id h3.1 (by omega)]; omega)
  exact ⟨V4, gN_no (by rw [e9]; exact cutB_nb _)⟩
theorem szk_le {a : ByteArray} (h : a.size ≤ 200000000) : szk a = true := decide_eq_true (by omega)
theorem dec_0 (ix tm kd ck cl sq ep ok pr st gr wg wi wo  : Int) (r c v x key val wk : ByteArray) (has mv : Bool) (hE : EB (ix, tm, kd, (ck, cl, sq, ep, (ok, r, c, v, has, x, ()), pr, st, key, val, gr, (mv, wg, wk, wi, wo, ()), ()), ([] : List Int), ())) (u1 : uOk ix = true) (u2 : uOk tm = true) (u3 : uOk sq = true) (u4 : uOk ep = true) (u5 : uOk pr = true) (h0 : entV (ix, tm, kd, (ck, cl, sq, ep, (ok, r, c, v, has, x, ()), pr, st, key, val, gr, (mv, wg, wk, wi, wo, ()), ()), ([] : List Int), ()) = 0) : PureCall Try.prog 32 [vS (encB (ix, tm, kd, (ck, cl, sq, ep, (ok, r, c, v, has, x, ()), pr, st, key, val, gr, (mv, wg, wk, wi, wo, ()), ()), ([] : List Int), ()))] (tupE (ix, tm, kd, (ck, cl, sq, ep, (ok, r, c, v, has, x, ()), pr, st, key, val, gr, (mv, wg, wk, wi, wo, ()), ()), ([] : List Int), ()) 0) ∧ PureCall Try.prog 32 [vS (encB (ix, tm, kd, (ck, cl, sq, ep, (ok, r, c, v, has, x, ()), pr, st, key, val, gr, (mv, wg, wk, wi, wo, ()), ()), ([] : List Int), ()) ++ (ByteArray.mk #[0]))] (tupE eZ 4) ∧ PureCall Try.prog 32 [vS ((encB (ix, tm, kd, (ck, cl, sq, ep, (ok, r, c, v, has, x, ()), pr, st, key, val, gr, (mv, wg, wk, wi, wo, ()), ()), ([] : List Int), ())).extract 0 ((encB (ix, tm, kd, (ck, cl, sq, ep, (ok, r, c, v, has, x, ()), pr, st, key, val, gr, (mv, wg, wk, wi, wo, ()), ()), ([] : List Int), ())).size - 1))] (tupE eZ 4) ∧ 0 < (encB (ix, tm, kd, (ck, cl, sq, ep, (ok, r, c, v, has, x, ()), pr, st, key, val, gr, (mv, wg, wk, wi, wo, ()), ()), ([] : List Int), ())).size ∧ (encB (ix, tm, kd, (ck, cl, sq, ep, (ok, r, c, v, has, x, ()), pr, st, key, val, gr, (mv, wg, wk, wi, wo, ()), ()), ([] : List Int), ())).size ≤ 100100000 := by
  have hew := hE.ew u1 u2 u3 u4 u5
  have hcs := cmdD_size _ hew.cw
  have hcs : (cmdB ck cl sq ep (opB ok r c v has x) pr st key val gr mv wg wk wi wo).size ≤ 100001000 := hcs
  obtain ⟨⟨k1, k2⟩, ⟨⟨b1, b2⟩, ⟨b3, b4⟩, b5, b6, ⟨⟨b7, b8⟩, b9, b10, b11, b12⟩, b13, ⟨b14, b15⟩, b16, b17, ⟨b18, b19⟩, ⟨b20, b21⟩, b22, ⟨b23, b24⟩, ⟨b25, b26⟩⟩, hlen, hmem⟩ := hE
  simp only at k1 k2 b1 b2 b3 b4 b5 b6 b7 b8 b9 b10 b11 b12 b13 b14 b15 b16 b17 b18 b19 b20 b21 b22 b23 b24 b25 b26
  have k1 : 1 ≤ kd := k1
  have k2 : kd ≤ 2 := k2
  have b1 : 0 ≤ ck := b1
  have b2 : ck ≤ 7 := b2
  have b3 : 0 ≤ cl := b3
  have b4 : cl ≤ 4 := b4
  have b5 : sq ≤ 1099511627776 := b5
  have b6 : ep ≤ 1099511627776 := b6
  have b7 : 0 ≤ ok := b7
  have b8 : ok ≤ 5 := b8
  have b13 : pr ≤ 1099511627776 := b13
  have b14 : 0 ≤ st := b14
  have b15 : st ≤ 100 := b15
  have b18 : 0 ≤ gr := b18
  have b19 : gr ≤ 12 := b19
  have b20 : 0 ≤ wg := b20
  have b21 : wg ≤ 12 := b21
  have b23 : 0 ≤ wi := b23
  have b24 : wi ≤ 5 := b24
  have b25 : 0 ≤ wo := b25
  have b26 : wo ≤ 5 := b26
  have hen : encB (ix, tm, kd, (ck, cl, sq, ep, (ok, r, c, v, has, x, ()), pr, st, key, val, gr, (mv, wg, wk, wi, wo, ()), ()), ([] : List Int), ()) = nS ix ++ (nS tm ++ (nS (wU kd) ++ (cmdB ck cl sq ep (opB ok r c v has x) pr st key val gr mv wg wk wi wo ++ (nS (wU 0) ++ ((ByteArray.mk #[])))))) := by
    simp only [encB, cmdD, memB, List.length_cons, List.length_nil, List.foldr_cons, List.foldr_nil]
    rfl
  have hen2 : encB (ix, tm, kd, (ck, cl, sq, ep, (ok, r, c, v, has, x, ()), pr, st, key, val, gr, (mv, wg, wk, wi, wo, ()), ()), ([] : List Int), ()) ++ (ByteArray.mk #[0]) = nS ix ++ (nS tm ++ (nS (wU kd) ++ (cmdB ck cl sq ep (opB ok r c v has x) pr st key val gr mv wg wk wi wo ++ (nS (wU 0) ++ ((ByteArray.mk #[0])))))) := by
    rw [hen]; simp only [ByteArray.append_assoc, emptyApp']
  have f1 := nS_size ix; have f2 := nS_size tm; have f3 := nS_size (wU kd); have f4 := nS_size (wU 0); have f5 := nS_pos ix
  have hsz : (nS ix ++ (nS tm ++ (nS (wU kd) ++ (cmdB ck cl sq ep (opB ok r c v has x) pr st key val gr mv wg wk wi wo ++ (nS (wU 0) ++ ((ByteArray.mk #[]))))))).size ≤ 100100000 := by
    simp only [ByteArray.size_append, show (ByteArray.mk #[]).size = 0 from rfl]; omega
  have hsz2 : (nS ix ++ (nS tm ++ (nS (wU kd) ++ (cmdB ck cl sq ep (opB ok r c v has x) pr st key val gr mv wg wk wi wo ++ (nS (wU 0) ++ ((ByteArray.mk #[0]))))))).size ≤ 200000000 := by
    simp only [ByteArray.size_append, show (ByteArray.mk #[0]).size = 1 from rfl]; omega
  have hpos : 0 < (nS ix ++ (nS tm ++ (nS (wU kd) ++ (cmdB ck cl sq ep (opB ok r c v has x) pr st key val gr mv wg wk wi wo ++ (nS (wU 0) ++ ((ByteArray.mk #[]))))))).size := by rw [ByteArray.size_append]; omega
  refine ⟨?_, ?_, ?_, by rw [hen]; exact hpos, by rw [hen]; exact hsz⟩
  · rw [hen]
    generalize hS : nS ix ++ (nS tm ++ (nS (wU kd) ++ (cmdB ck cl sq ep (opB ok r c v has x) pr st key val gr mv wg wk wi wo ++ (nS (wU 0) ++ ((ByteArray.mk #[])))))) = S at hsz
    have hz : szk S = true := szk_le (by omega)
    have B := n_back ix tm kd ck cl sq ep ok r c v has x pr st key val gr mv wg wk wi wo _ _ u1 u2 (by omega) (by omega) (by omega) ⟨u3, b5⟩ ⟨u4, b6⟩ (by omega) (by omega) (by omega) (by omega) (by omega) ⟨u5, b13⟩ (by omega) (by omega) (by omega) (by omega) (by omega) (by omega) (by omega) (by omega) hS.symm hz
    obtain ⟨q1, q2, q3, q4⟩ := mem_ok0  B
    have hd : db0 S = false := by
      unfold db0 da0
      rw [q2, q3, deV_back B, q4, h0]; rfl
    have h := dent0 S hz (by rw [q1]; rfl)
    rw [hd, deV_back B, q4] at h
    exact h
  · rw [hen2]
    generalize hS : nS ix ++ (nS tm ++ (nS (wU kd) ++ (cmdB ck cl sq ep (opB ok r c v has x) pr st key val gr mv wg wk wi wo ++ (nS (wU 0) ++ ((ByteArray.mk #[0])))))) = S at hsz2
    have hz : szk S = true := szk_le hsz2
    have B := n_back ix tm kd ck cl sq ep ok r c v has x pr st key val gr mv wg wk wi wo _ _ u1 u2 (by omega) (by omega) (by omega) ⟨u3, b5⟩ ⟨u4, b6⟩ (by omega) (by omega) (by omega) (by omega) (by omega) ⟨u5, b13⟩ (by omega) (by omega) (by omega) (by omega) (by omega) (by omega) (by omega) (by omega) hS.symm hz
    obtain ⟨q1, q2, q3, q4⟩ := mem_ok0  B
    have hd : db0 S = true := by
      unfold db0 da0
      rw [q2, q3]; rfl
    have h := dent0 S hz (by rw [q1]; rfl)
    rw [hd] at h
    exact h
  · obtain ⟨z, hz1, hz2⟩ := nS_cut (wU 0)
    have hcut : encB (ix, tm, kd, (ck, cl, sq, ep, (ok, r, c, v, has, x, ()), pr, st, key, val, gr, (mv, wg, wk, wi, wo, ()), ()), ([] : List Int), ()) = (nS ix ++ (nS tm ++ (nS (wU kd) ++ (cmdB ck cl sq ep (opB ok r c v has x) pr st key val gr mv wg wk wi wo ++ (cutB (wU 0)))))) ++ z := by
      rw [hen, appEmpty, hz2]; simp only [ByteArray.append_assoc]
    have hzz : szk (nS ix ++ (nS tm ++ (nS (wU kd) ++ (cmdB ck cl sq ep (opB ok r c v has x) pr st key val gr mv wg wk wi wo ++ (cutB (wU 0)))))) = true := by
      have : ((nS ix ++ (nS tm ++ (nS (wU kd) ++ (cmdB ck cl sq ep (opB ok r c v has x) pr st key val gr mv wg wk wi wo ++ (cutB (wU 0)))))) ++ z).size ≤ 100100000 := by rw [← hcut, hen]; exact hsz
      rw [ByteArray.size_append] at this
      exact szk_le (by omega)
    rw [hcut, cut_last hz1]
    generalize hS : nS ix ++ (nS tm ++ (nS (wU kd) ++ (cmdB ck cl sq ep (opB ok r c v has x) pr st key val gr mv wg wk wi wo ++ (cutB (wU 0))))) = S at hzz
    have B := n_back ix tm kd ck cl sq ep ok r c v has x pr st key val gr mv wg wk wi wo _ _ u1 u2 (by omega) (by omega) (by omega) ⟨u3, b5⟩ ⟨u4, b6⟩ (by omega) (by omega) (by omega) (by omega) (by omega) ⟨u5, b13⟩ (by omega) (by omega) (by omega) (by omega) (by omega) (by omega) (by omega) (by omega) hS.symm hzz
    obtain ⟨q1, q2⟩ := mem_cut0  B
    have hd : db0 S = true := by
      unfold db0 da0
      rw [q2]; rfl
    have h := dent0 S hzz (by rw [q1]; rfl)
    rw [hd] at h
    exact h
theorem dec_1 (ix tm kd ck cl sq ep ok pr st gr wg wi wo a0 : Int) (r c v x key val wk : ByteArray) (has mv : Bool) (hE : EB (ix, tm, kd, (ck, cl, sq, ep, (ok, r, c, v, has, x, ()), pr, st, key, val, gr, (mv, wg, wk, wi, wo, ()), ()), [a0], ())) (u1 : uOk ix = true) (u2 : uOk tm = true) (u3 : uOk sq = true) (u4 : uOk ep = true) (u5 : uOk pr = true) (h0 : entV (ix, tm, kd, (ck, cl, sq, ep, (ok, r, c, v, has, x, ()), pr, st, key, val, gr, (mv, wg, wk, wi, wo, ()), ()), [a0], ()) = 0) : PureCall Try.prog 32 [vS (encB (ix, tm, kd, (ck, cl, sq, ep, (ok, r, c, v, has, x, ()), pr, st, key, val, gr, (mv, wg, wk, wi, wo, ()), ()), [a0], ()))] (tupE (ix, tm, kd, (ck, cl, sq, ep, (ok, r, c, v, has, x, ()), pr, st, key, val, gr, (mv, wg, wk, wi, wo, ()), ()), [a0], ()) 0) ∧ PureCall Try.prog 32 [vS (encB (ix, tm, kd, (ck, cl, sq, ep, (ok, r, c, v, has, x, ()), pr, st, key, val, gr, (mv, wg, wk, wi, wo, ()), ()), [a0], ()) ++ (ByteArray.mk #[0]))] (tupE eZ 4) ∧ PureCall Try.prog 32 [vS ((encB (ix, tm, kd, (ck, cl, sq, ep, (ok, r, c, v, has, x, ()), pr, st, key, val, gr, (mv, wg, wk, wi, wo, ()), ()), [a0], ())).extract 0 ((encB (ix, tm, kd, (ck, cl, sq, ep, (ok, r, c, v, has, x, ()), pr, st, key, val, gr, (mv, wg, wk, wi, wo, ()), ()), [a0], ())).size - 1))] (tupE eZ 4) ∧ 0 < (encB (ix, tm, kd, (ck, cl, sq, ep, (ok, r, c, v, has, x, ()), pr, st, key, val, gr, (mv, wg, wk, wi, wo, ()), ()), [a0], ())).size ∧ (encB (ix, tm, kd, (ck, cl, sq, ep, (ok, r, c, v, has, x, ()), pr, st, key, val, gr, (mv, wg, wk, wi, wo, ()), ()), [a0], ())).size ≤ 100100000 := by
  have hew := hE.ew u1 u2 u3 u4 u5
  have hcs := cmdD_size _ hew.cw
  have hcs : (cmdB ck cl sq ep (opB ok r c v has x) pr st key val gr mv wg wk wi wo).size ≤ 100001000 := hcs
  obtain ⟨⟨k1, k2⟩, ⟨⟨b1, b2⟩, ⟨b3, b4⟩, b5, b6, ⟨⟨b7, b8⟩, b9, b10, b11, b12⟩, b13, ⟨b14, b15⟩, b16, b17, ⟨b18, b19⟩, ⟨b20, b21⟩, b22, ⟨b23, b24⟩, ⟨b25, b26⟩⟩, hlen, hmem⟩ := hE
  simp only at k1 k2 b1 b2 b3 b4 b5 b6 b7 b8 b9 b10 b11 b12 b13 b14 b15 b16 b17 b18 b19 b20 b21 b22 b23 b24 b25 b26
  have k1 : 1 ≤ kd := k1
  have k2 : kd ≤ 2 := k2
  have b1 : 0 ≤ ck := b1
  have b2 : ck ≤ 7 := b2
  have b3 : 0 ≤ cl := b3
  have b4 : cl ≤ 4 := b4
  have b5 : sq ≤ 1099511627776 := b5
  have b6 : ep ≤ 1099511627776 := b6
  have b7 : 0 ≤ ok := b7
  have b8 : ok ≤ 5 := b8
  have b13 : pr ≤ 1099511627776 := b13
  have b14 : 0 ≤ st := b14
  have b15 : st ≤ 100 := b15
  have b18 : 0 ≤ gr := b18
  have b19 : gr ≤ 12 := b19
  have b20 : 0 ≤ wg := b20
  have b21 : wg ≤ 12 := b21
  have b23 : 0 ≤ wi := b23
  have b24 : wi ≤ 5 := b24
  have b25 : 0 ≤ wo := b25
  have b26 : wo ≤ 5 := b26
  have m0 : 0 ≤ a0 ∧ a0 < 5 := hmem a0 (by simp)
  have hen : encB (ix, tm, kd, (ck, cl, sq, ep, (ok, r, c, v, has, x, ()), pr, st, key, val, gr, (mv, wg, wk, wi, wo, ()), ()), [a0], ()) = nS ix ++ (nS tm ++ (nS (wU kd) ++ (cmdB ck cl sq ep (opB ok r c v has x) pr st key val gr mv wg wk wi wo ++ (nS (wU 1) ++ (nS (wU a0) ++ ((ByteArray.mk #[]))))))) := by
    simp only [encB, cmdD, memB, List.length_cons, List.length_nil, List.foldr_cons, List.foldr_nil]
    rfl
  have hen2 : encB (ix, tm, kd, (ck, cl, sq, ep, (ok, r, c, v, has, x, ()), pr, st, key, val, gr, (mv, wg, wk, wi, wo, ()), ()), [a0], ()) ++ (ByteArray.mk #[0]) = nS ix ++ (nS tm ++ (nS (wU kd) ++ (cmdB ck cl sq ep (opB ok r c v has x) pr st key val gr mv wg wk wi wo ++ (nS (wU 1) ++ (nS (wU a0) ++ ((ByteArray.mk #[0]))))))) := by
    rw [hen]; simp only [ByteArray.append_assoc, emptyApp']
  have f1 := nS_size ix; have f2 := nS_size tm; have f3 := nS_size (wU kd); have f4 := nS_size (wU 1); have f5 := nS_pos ix
  have s0 := nS_size (wU a0)
  have hsz : (nS ix ++ (nS tm ++ (nS (wU kd) ++ (cmdB ck cl sq ep (opB ok r c v has x) pr st key val gr mv wg wk wi wo ++ (nS (wU 1) ++ (nS (wU a0) ++ ((ByteArray.mk #[])))))))).size ≤ 100100000 := by
    simp only [ByteArray.size_append, show (ByteArray.mk #[]).size = 0 from rfl]; omega
  have hsz2 : (nS ix ++ (nS tm ++ (nS (wU kd) ++ (cmdB ck cl sq ep (opB ok r c v has x) pr st key val gr mv wg wk wi wo ++ (nS (wU 1) ++ (nS (wU a0) ++ ((ByteArray.mk #[0])))))))).size ≤ 200000000 := by
    simp only [ByteArray.size_append, show (ByteArray.mk #[0]).size = 1 from rfl]; omega
  have hpos : 0 < (nS ix ++ (nS tm ++ (nS (wU kd) ++ (cmdB ck cl sq ep (opB ok r c v has x) pr st key val gr mv wg wk wi wo ++ (nS (wU 1) ++ (nS (wU a0) ++ ((ByteArray.mk #[])))))))).size := by rw [ByteArray.size_append]; omega
  refine ⟨?_, ?_, ?_, by rw [hen]; exact hpos, by rw [hen]; exact hsz⟩
  · rw [hen]
    generalize hS : nS ix ++ (nS tm ++ (nS (wU kd) ++ (cmdB ck cl sq ep (opB ok r c v has x) pr st key val gr mv wg wk wi wo ++ (nS (wU 1) ++ (nS (wU a0) ++ ((ByteArray.mk #[]))))))) = S at hsz
    have hz : szk S = true := szk_le (by omega)
    have B := n_back ix tm kd ck cl sq ep ok r c v has x pr st key val gr mv wg wk wi wo _ _ u1 u2 (by omega) (by omega) (by omega) ⟨u3, b5⟩ ⟨u4, b6⟩ (by omega) (by omega) (by omega) (by omega) (by omega) ⟨u5, b13⟩ (by omega) (by omega) (by omega) (by omega) (by omega) (by omega) (by omega) (by omega) hS.symm hz
    obtain ⟨q1, q2, q3, q4⟩ := mem_ok1 m0 B
    have hd : db1 S = false := by
      unfold db1 da1
      rw [q2, q3, deV_back B, q4, h0]; rfl
    have h := dent1 S hz (by rw [q1]; rfl)
    rw [hd, deV_back B, q4] at h
    exact h
  · rw [hen2]
    generalize hS : nS ix ++ (nS tm ++ (nS (wU kd) ++ (cmdB ck cl sq ep (opB ok r c v has x) pr st key val gr mv wg wk wi wo ++ (nS (wU 1) ++ (nS (wU a0) ++ ((ByteArray.mk #[0]))))))) = S at hsz2
    have hz : szk S = true := szk_le hsz2
    have B := n_back ix tm kd ck cl sq ep ok r c v has x pr st key val gr mv wg wk wi wo _ _ u1 u2 (by omega) (by omega) (by omega) ⟨u3, b5⟩ ⟨u4, b6⟩ (by omega) (by omega) (by omega) (by omega) (by omega) ⟨u5, b13⟩ (by omega) (by omega) (by omega) (by omega) (by omega) (by omega) (by omega) (by omega) hS.symm hz
    obtain ⟨q1, q2, q3, q4⟩ := mem_ok1 m0 B
    have hd : db1 S = true := by
      unfold db1 da1
      rw [q2, q3]; rfl
    have h := dent1 S hz (by rw [q1]; rfl)
    rw [hd] at h
    exact h
  · obtain ⟨z, hz1, hz2⟩ := nS_cut (wU a0)
    have hcut : encB (ix, tm, kd, (ck, cl, sq, ep, (ok, r, c, v, has, x, ()), pr, st, key, val, gr, (mv, wg, wk, wi, wo, ()), ()), [a0], ()) = (nS ix ++ (nS tm ++ (nS (wU kd) ++ (cmdB ck cl sq ep (opB ok r c v has x) pr st key val gr mv wg wk wi wo ++ (nS (wU 1) ++ (cutB (wU a0))))))) ++ z := by
      rw [hen, appEmpty, hz2]; simp only [ByteArray.append_assoc]
    have hzz : szk (nS ix ++ (nS tm ++ (nS (wU kd) ++ (cmdB ck cl sq ep (opB ok r c v has x) pr st key val gr mv wg wk wi wo ++ (nS (wU 1) ++ (cutB (wU a0))))))) = true := by
      have : ((nS ix ++ (nS tm ++ (nS (wU kd) ++ (cmdB ck cl sq ep (opB ok r c v has x) pr st key val gr mv wg wk wi wo ++ (nS (wU 1) ++ (cutB (wU a0))))))) ++ z).size ≤ 100100000 := by rw [← hcut, hen]; exact hsz
      rw [ByteArray.size_append] at this
      exact szk_le (by omega)
    rw [hcut, cut_last hz1]
    generalize hS : nS ix ++ (nS tm ++ (nS (wU kd) ++ (cmdB ck cl sq ep (opB ok r c v has x) pr st key val gr mv wg wk wi wo ++ (nS (wU 1) ++ (cutB (wU a0)))))) = S at hzz
    have B := n_back ix tm kd ck cl sq ep ok r c v has x pr st key val gr mv wg wk wi wo _ _ u1 u2 (by omega) (by omega) (by omega) ⟨u3, b5⟩ ⟨u4, b6⟩ (by omega) (by omega) (by omega) (by omega) (by omega) ⟨u5, b13⟩ (by omega) (by omega) (by omega) (by omega) (by omega) (by omega) (by omega) (by omega) hS.symm hzz
    obtain ⟨q1, q2⟩ := mem_cut1 m0 B
    have hd : db1 S = true := by
      unfold db1 da1
      rw [q2]; rfl
    have h := dent1 S hzz (by rw [q1]; rfl)
    rw [hd] at h
    exact h
theorem dec_2 (ix tm kd ck cl sq ep ok pr st gr wg wi wo a0 a1 : Int) (r c v x key val wk : ByteArray) (has mv : Bool) (hE : EB (ix, tm, kd, (ck, cl, sq, ep, (ok, r, c, v, has, x, ()), pr, st, key, val, gr, (mv, wg, wk, wi, wo, ()), ()), [a0, a1], ())) (u1 : uOk ix = true) (u2 : uOk tm = true) (u3 : uOk sq = true) (u4 : uOk ep = true) (u5 : uOk pr = true) (h0 : entV (ix, tm, kd, (ck, cl, sq, ep, (ok, r, c, v, has, x, ()), pr, st, key, val, gr, (mv, wg, wk, wi, wo, ()), ()), [a0, a1], ()) = 0) : PureCall Try.prog 32 [vS (encB (ix, tm, kd, (ck, cl, sq, ep, (ok, r, c, v, has, x, ()), pr, st, key, val, gr, (mv, wg, wk, wi, wo, ()), ()), [a0, a1], ()))] (tupE (ix, tm, kd, (ck, cl, sq, ep, (ok, r, c, v, has, x, ()), pr, st, key, val, gr, (mv, wg, wk, wi, wo, ()), ()), [a0, a1], ()) 0) ∧ PureCall Try.prog 32 [vS (encB (ix, tm, kd, (ck, cl, sq, ep, (ok, r, c, v, has, x, ()), pr, st, key, val, gr, (mv, wg, wk, wi, wo, ()), ()), [a0, a1], ()) ++ (ByteArray.mk #[0]))] (tupE eZ 4) ∧ PureCall Try.prog 32 [vS ((encB (ix, tm, kd, (ck, cl, sq, ep, (ok, r, c, v, has, x, ()), pr, st, key, val, gr, (mv, wg, wk, wi, wo, ()), ()), [a0, a1], ())).extract 0 ((encB (ix, tm, kd, (ck, cl, sq, ep, (ok, r, c, v, has, x, ()), pr, st, key, val, gr, (mv, wg, wk, wi, wo, ()), ()), [a0, a1], ())).size - 1))] (tupE eZ 4) ∧ 0 < (encB (ix, tm, kd, (ck, cl, sq, ep, (ok, r, c, v, has, x, ()), pr, st, key, val, gr, (mv, wg, wk, wi, wo, ()), ()), [a0, a1], ())).size ∧ (encB (ix, tm, kd, (ck, cl, sq, ep, (ok, r, c, v, has, x, ()), pr, st, key, val, gr, (mv, wg, wk, wi, wo, ()), ()), [a0, a1], ())).size ≤ 100100000 := by
  have hew := hE.ew u1 u2 u3 u4 u5
  have hcs := cmdD_size _ hew.cw
  have hcs : (cmdB ck cl sq ep (opB ok r c v has x) pr st key val gr mv wg wk wi wo).size ≤ 100001000 := hcs
  obtain ⟨⟨k1, k2⟩, ⟨⟨b1, b2⟩, ⟨b3, b4⟩, b5, b6, ⟨⟨b7, b8⟩, b9, b10, b11, b12⟩, b13, ⟨b14, b15⟩, b16, b17, ⟨b18, b19⟩, ⟨b20, b21⟩, b22, ⟨b23, b24⟩, ⟨b25, b26⟩⟩, hlen, hmem⟩ := hE
  simp only at k1 k2 b1 b2 b3 b4 b5 b6 b7 b8 b9 b10 b11 b12 b13 b14 b15 b16 b17 b18 b19 b20 b21 b22 b23 b24 b25 b26
  have k1 : 1 ≤ kd := k1
  have k2 : kd ≤ 2 := k2
  have b1 : 0 ≤ ck := b1
  have b2 : ck ≤ 7 := b2
  have b3 : 0 ≤ cl := b3
  have b4 : cl ≤ 4 := b4
  have b5 : sq ≤ 1099511627776 := b5
  have b6 : ep ≤ 1099511627776 := b6
  have b7 : 0 ≤ ok := b7
  have b8 : ok ≤ 5 := b8
  have b13 : pr ≤ 1099511627776 := b13
  have b14 : 0 ≤ st := b14
  have b15 : st ≤ 100 := b15
  have b18 : 0 ≤ gr := b18
  have b19 : gr ≤ 12 := b19
  have b20 : 0 ≤ wg := b20
  have b21 : wg ≤ 12 := b21
  have b23 : 0 ≤ wi := b23
  have b24 : wi ≤ 5 := b24
  have b25 : 0 ≤ wo := b25
  have b26 : wo ≤ 5 := b26
  have m0 : 0 ≤ a0 ∧ a0 < 5 := hmem a0 (by simp)
  have m1 : 0 ≤ a1 ∧ a1 < 5 := hmem a1 (by simp)
  have hen : encB (ix, tm, kd, (ck, cl, sq, ep, (ok, r, c, v, has, x, ()), pr, st, key, val, gr, (mv, wg, wk, wi, wo, ()), ()), [a0, a1], ()) = nS ix ++ (nS tm ++ (nS (wU kd) ++ (cmdB ck cl sq ep (opB ok r c v has x) pr st key val gr mv wg wk wi wo ++ (nS (wU 2) ++ (nS (wU a0) ++ (nS (wU a1) ++ ((ByteArray.mk #[])))))))) := by
    simp only [encB, cmdD, memB, List.length_cons, List.length_nil, List.foldr_cons, List.foldr_nil]
    rfl
  have hen2 : encB (ix, tm, kd, (ck, cl, sq, ep, (ok, r, c, v, has, x, ()), pr, st, key, val, gr, (mv, wg, wk, wi, wo, ()), ()), [a0, a1], ()) ++ (ByteArray.mk #[0]) = nS ix ++ (nS tm ++ (nS (wU kd) ++ (cmdB ck cl sq ep (opB ok r c v has x) pr st key val gr mv wg wk wi wo ++ (nS (wU 2) ++ (nS (wU a0) ++ (nS (wU a1) ++ ((ByteArray.mk #[0])))))))) := by
    rw [hen]; simp only [ByteArray.append_assoc, emptyApp']
  have f1 := nS_size ix; have f2 := nS_size tm; have f3 := nS_size (wU kd); have f4 := nS_size (wU 2); have f5 := nS_pos ix
  have s0 := nS_size (wU a0)
  have s1 := nS_size (wU a1)
  have hsz : (nS ix ++ (nS tm ++ (nS (wU kd) ++ (cmdB ck cl sq ep (opB ok r c v has x) pr st key val gr mv wg wk wi wo ++ (nS (wU 2) ++ (nS (wU a0) ++ (nS (wU a1) ++ ((ByteArray.mk #[]))))))))).size ≤ 100100000 := by
    simp only [ByteArray.size_append, show (ByteArray.mk #[]).size = 0 from rfl]; omega
  have hsz2 : (nS ix ++ (nS tm ++ (nS (wU kd) ++ (cmdB ck cl sq ep (opB ok r c v has x) pr st key val gr mv wg wk wi wo ++ (nS (wU 2) ++ (nS (wU a0) ++ (nS (wU a1) ++ ((ByteArray.mk #[0]))))))))).size ≤ 200000000 := by
    simp only [ByteArray.size_append, show (ByteArray.mk #[0]).size = 1 from rfl]; omega
  have hpos : 0 < (nS ix ++ (nS tm ++ (nS (wU kd) ++ (cmdB ck cl sq ep (opB ok r c v has x) pr st key val gr mv wg wk wi wo ++ (nS (wU 2) ++ (nS (wU a0) ++ (nS (wU a1) ++ ((ByteArray.mk #[]))))))))).size := by rw [ByteArray.size_append]; omega
  refine ⟨?_, ?_, ?_, by rw [hen]; exact hpos, by rw [hen]; exact hsz⟩
  · rw [hen]
    generalize hS : nS ix ++ (nS tm ++ (nS (wU kd) ++ (cmdB ck cl sq ep (opB ok r c v has x) pr st key val gr mv wg wk wi wo ++ (nS (wU 2) ++ (nS (wU a0) ++ (nS (wU a1) ++ ((ByteArray.mk #[])))))))) = S at hsz
    have hz : szk S = true := szk_le (by omega)
    have B := n_back ix tm kd ck cl sq ep ok r c v has x pr st key val gr mv wg wk wi wo _ _ u1 u2 (by omega) (by omega) (by omega) ⟨u3, b5⟩ ⟨u4, b6⟩ (by omega) (by omega) (by omega) (by omega) (by omega) ⟨u5, b13⟩ (by omega) (by omega) (by omega) (by omega) (by omega) (by omega) (by omega) (by omega) hS.symm hz
    obtain ⟨q1, q2, q3, q4⟩ := mem_ok2 m0 m1 B
    have hd : db2 S = false := by
      unfold db2 da2
      rw [q2, q3, deV_back B, q4, h0]; rfl
    have h := dent2 S hz (by rw [q1]; rfl)
    rw [hd, deV_back B, q4] at h
    exact h
  · rw [hen2]
    generalize hS : nS ix ++ (nS tm ++ (nS (wU kd) ++ (cmdB ck cl sq ep (opB ok r c v has x) pr st key val gr mv wg wk wi wo ++ (nS (wU 2) ++ (nS (wU a0) ++ (nS (wU a1) ++ ((ByteArray.mk #[0])))))))) = S at hsz2
    have hz : szk S = true := szk_le hsz2
    have B := n_back ix tm kd ck cl sq ep ok r c v has x pr st key val gr mv wg wk wi wo _ _ u1 u2 (by omega) (by omega) (by omega) ⟨u3, b5⟩ ⟨u4, b6⟩ (by omega) (by omega) (by omega) (by omega) (by omega) ⟨u5, b13⟩ (by omega) (by omega) (by omega) (by omega) (by omega) (by omega) (by omega) (by omega) hS.symm hz
    obtain ⟨q1, q2, q3, q4⟩ := mem_ok2 m0 m1 B
    have hd : db2 S = true := by
      unfold db2 da2
      rw [q2, q3]; rfl
    have h := dent2 S hz (by rw [q1]; rfl)
    rw [hd] at h
    exact h
  · obtain ⟨z, hz1, hz2⟩ := nS_cut (wU a1)
    have hcut : encB (ix, tm, kd, (ck, cl, sq, ep, (ok, r, c, v, has, x, ()), pr, st, key, val, gr, (mv, wg, wk, wi, wo, ()), ()), [a0, a1], ()) = (nS ix ++ (nS tm ++ (nS (wU kd) ++ (cmdB ck cl sq ep (opB ok r c v has x) pr st key val gr mv wg wk wi wo ++ (nS (wU 2) ++ (nS (wU a0) ++ (cutB (wU a1)))))))) ++ z := by
      rw [hen, appEmpty, hz2]; simp only [ByteArray.append_assoc]
    have hzz : szk (nS ix ++ (nS tm ++ (nS (wU kd) ++ (cmdB ck cl sq ep (opB ok r c v has x) pr st key val gr mv wg wk wi wo ++ (nS (wU 2) ++ (nS (wU a0) ++ (cutB (wU a1)))))))) = true := by
      have : ((nS ix ++ (nS tm ++ (nS (wU kd) ++ (cmdB ck cl sq ep (opB ok r c v has x) pr st key val gr mv wg wk wi wo ++ (nS (wU 2) ++ (nS (wU a0) ++ (cutB (wU a1)))))))) ++ z).size ≤ 100100000 := by rw [← hcut, hen]; exact hsz
      rw [ByteArray.size_append] at this
      exact szk_le (by omega)
    rw [hcut, cut_last hz1]
    generalize hS : nS ix ++ (nS tm ++ (nS (wU kd) ++ (cmdB ck cl sq ep (opB ok r c v has x) pr st key val gr mv wg wk wi wo ++ (nS (wU 2) ++ (nS (wU a0) ++ (cutB (wU a1))))))) = S at hzz
    have B := n_back ix tm kd ck cl sq ep ok r c v has x pr st key val gr mv wg wk wi wo _ _ u1 u2 (by omega) (by omega) (by omega) ⟨u3, b5⟩ ⟨u4, b6⟩ (by omega) (by omega) (by omega) (by omega) (by omega) ⟨u5, b13⟩ (by omega) (by omega) (by omega) (by omega) (by omega) (by omega) (by omega) (by omega) hS.symm hzz
    obtain ⟨q1, q2⟩ := mem_cut2 m0 m1 B
    have hd : db2 S = true := by
      unfold db2 da2
      rw [q2]; rfl
    have h := dent2 S hzz (by rw [q1]; rfl)
    rw [hd] at h
    exact h
theorem dec_3 (ix tm kd ck cl sq ep ok pr st gr wg wi wo a0 a1 a2 : Int) (r c v x key val wk : ByteArray) (has mv : Bool) (hE : EB (ix, tm, kd, (ck, cl, sq, ep, (ok, r, c, v, has, x, ()), pr, st, key, val, gr, (mv, wg, wk, wi, wo, ()), ()), [a0, a1, a2], ())) (u1 : uOk ix = true) (u2 : uOk tm = true) (u3 : uOk sq = true) (u4 : uOk ep = true) (u5 : uOk pr = true) (h0 : entV (ix, tm, kd, (ck, cl, sq, ep, (ok, r, c, v, has, x, ()), pr, st, key, val, gr, (mv, wg, wk, wi, wo, ()), ()), [a0, a1, a2], ()) = 0) : PureCall Try.prog 32 [vS (encB (ix, tm, kd, (ck, cl, sq, ep, (ok, r, c, v, has, x, ()), pr, st, key, val, gr, (mv, wg, wk, wi, wo, ()), ()), [a0, a1, a2], ()))] (tupE (ix, tm, kd, (ck, cl, sq, ep, (ok, r, c, v, has, x, ()), pr, st, key, val, gr, (mv, wg, wk, wi, wo, ()), ()), [a0, a1, a2], ()) 0) ∧ PureCall Try.prog 32 [vS (encB (ix, tm, kd, (ck, cl, sq, ep, (ok, r, c, v, has, x, ()), pr, st, key, val, gr, (mv, wg, wk, wi, wo, ()), ()), [a0, a1, a2], ()) ++ (ByteArray.mk #[0]))] (tupE eZ 4) ∧ PureCall Try.prog 32 [vS ((encB (ix, tm, kd, (ck, cl, sq, ep, (ok, r, c, v, has, x, ()), pr, st, key, val, gr, (mv, wg, wk, wi, wo, ()), ()), [a0, a1, a2], ())).extract 0 ((encB (ix, tm, kd, (ck, cl, sq, ep, (ok, r, c, v, has, x, ()), pr, st, key, val, gr, (mv, wg, wk, wi, wo, ()), ()), [a0, a1, a2], ())).size - 1))] (tupE eZ 4) ∧ 0 < (encB (ix, tm, kd, (ck, cl, sq, ep, (ok, r, c, v, has, x, ()), pr, st, key, val, gr, (mv, wg, wk, wi, wo, ()), ()), [a0, a1, a2], ())).size ∧ (encB (ix, tm, kd, (ck, cl, sq, ep, (ok, r, c, v, has, x, ()), pr, st, key, val, gr, (mv, wg, wk, wi, wo, ()), ()), [a0, a1, a2], ())).size ≤ 100100000 := by
  have hew := hE.ew u1 u2 u3 u4 u5
  have hcs := cmdD_size _ hew.cw
  have hcs : (cmdB ck cl sq ep (opB ok r c v has x) pr st key val gr mv wg wk wi wo).size ≤ 100001000 := hcs
  obtain ⟨⟨k1, k2⟩, ⟨⟨b1, b2⟩, ⟨b3, b4⟩, b5, b6, ⟨⟨b7, b8⟩, b9, b10, b11, b12⟩, b13, ⟨b14, b15⟩, b16, b17, ⟨b18, b19⟩, ⟨b20, b21⟩, b22, ⟨b23, b24⟩, ⟨b25, b26⟩⟩, hlen, hmem⟩ := hE
  simp only at k1 k2 b1 b2 b3 b4 b5 b6 b7 b8 b9 b10 b11 b12 b13 b14 b15 b16 b17 b18 b19 b20 b21 b22 b23 b24 b25 b26
  have k1 : 1 ≤ kd := k1
  have k2 : kd ≤ 2 := k2
  have b1 : 0 ≤ ck := b1
  have b2 : ck ≤ 7 := b2
  have b3 : 0 ≤ cl := b3
  have b4 : cl ≤ 4 := b4
  have b5 : sq ≤ 1099511627776 := b5
  have b6 : ep ≤ 1099511627776 := b6
  have b7 : 0 ≤ ok := b7
  have b8 : ok ≤ 5 := b8
  have b13 : pr ≤ 1099511627776 := b13
  have b14 : 0 ≤ st := b14
  have b15 : st ≤ 100 := b15
  have b18 : 0 ≤ gr := b18
  have b19 : gr ≤ 12 := b19
  have b20 : 0 ≤ wg := b20
  have b21 : wg ≤ 12 := b21
  have b23 : 0 ≤ wi := b23
  have b24 : wi ≤ 5 := b24
  have b25 : 0 ≤ wo := b25
  have b26 : wo ≤ 5 := b26
  have m0 : 0 ≤ a0 ∧ a0 < 5 := hmem a0 (by simp)
  have m1 : 0 ≤ a1 ∧ a1 < 5 := hmem a1 (by simp)
  have m2 : 0 ≤ a2 ∧ a2 < 5 := hmem a2 (by simp)
  have hen : encB (ix, tm, kd, (ck, cl, sq, ep, (ok, r, c, v, has, x, ()), pr, st, key, val, gr, (mv, wg, wk, wi, wo, ()), ()), [a0, a1, a2], ()) = nS ix ++ (nS tm ++ (nS (wU kd) ++ (cmdB ck cl sq ep (opB ok r c v has x) pr st key val gr mv wg wk wi wo ++ (nS (wU 3) ++ (nS (wU a0) ++ (nS (wU a1) ++ (nS (wU a2) ++ ((ByteArray.mk #[]))))))))) := by
    simp only [encB, cmdD, memB, List.length_cons, List.length_nil, List.foldr_cons, List.foldr_nil]
    rfl
  have hen2 : encB (ix, tm, kd, (ck, cl, sq, ep, (ok, r, c, v, has, x, ()), pr, st, key, val, gr, (mv, wg, wk, wi, wo, ()), ()), [a0, a1, a2], ()) ++ (ByteArray.mk #[0]) = nS ix ++ (nS tm ++ (nS (wU kd) ++ (cmdB ck cl sq ep (opB ok r c v has x) pr st key val gr mv wg wk wi wo ++ (nS (wU 3) ++ (nS (wU a0) ++ (nS (wU a1) ++ (nS (wU a2) ++ ((ByteArray.mk #[0]))))))))) := by
    rw [hen]; simp only [ByteArray.append_assoc, emptyApp']
  have f1 := nS_size ix; have f2 := nS_size tm; have f3 := nS_size (wU kd); have f4 := nS_size (wU 3); have f5 := nS_pos ix
  have s0 := nS_size (wU a0)
  have s1 := nS_size (wU a1)
  have s2 := nS_size (wU a2)
  have hsz : (nS ix ++ (nS tm ++ (nS (wU kd) ++ (cmdB ck cl sq ep (opB ok r c v has x) pr st key val gr mv wg wk wi wo ++ (nS (wU 3) ++ (nS (wU a0) ++ (nS (wU a1) ++ (nS (wU a2) ++ ((ByteArray.mk #[])))))))))).size ≤ 100100000 := by
    simp only [ByteArray.size_append, show (ByteArray.mk #[]).size = 0 from rfl]; omega
  have hsz2 : (nS ix ++ (nS tm ++ (nS (wU kd) ++ (cmdB ck cl sq ep (opB ok r c v has x) pr st key val gr mv wg wk wi wo ++ (nS (wU 3) ++ (nS (wU a0) ++ (nS (wU a1) ++ (nS (wU a2) ++ ((ByteArray.mk #[0])))))))))).size ≤ 200000000 := by
    simp only [ByteArray.size_append, show (ByteArray.mk #[0]).size = 1 from rfl]; omega
  have hpos : 0 < (nS ix ++ (nS tm ++ (nS (wU kd) ++ (cmdB ck cl sq ep (opB ok r c v has x) pr st key val gr mv wg wk wi wo ++ (nS (wU 3) ++ (nS (wU a0) ++ (nS (wU a1) ++ (nS (wU a2) ++ ((ByteArray.mk #[])))))))))).size := by rw [ByteArray.size_append]; omega
  refine ⟨?_, ?_, ?_, by rw [hen]; exact hpos, by rw [hen]; exact hsz⟩
  · rw [hen]
    generalize hS : nS ix ++ (nS tm ++ (nS (wU kd) ++ (cmdB ck cl sq ep (opB ok r c v has x) pr st key val gr mv wg wk wi wo ++ (nS (wU 3) ++ (nS (wU a0) ++ (nS (wU a1) ++ (nS (wU a2) ++ ((ByteArray.mk #[]))))))))) = S at hsz
    have hz : szk S = true := szk_le (by omega)
    have B := n_back ix tm kd ck cl sq ep ok r c v has x pr st key val gr mv wg wk wi wo _ _ u1 u2 (by omega) (by omega) (by omega) ⟨u3, b5⟩ ⟨u4, b6⟩ (by omega) (by omega) (by omega) (by omega) (by omega) ⟨u5, b13⟩ (by omega) (by omega) (by omega) (by omega) (by omega) (by omega) (by omega) (by omega) hS.symm hz
    obtain ⟨q1, q2, q3, q4⟩ := mem_ok3 m0 m1 m2 B
    have hd : db3 S = false := by
      unfold db3 da3
      rw [q2, q3, deV_back B, q4, h0]; rfl
    have h := dent3 S hz (by rw [q1]; rfl)
    rw [hd, deV_back B, q4] at h
    exact h
  · rw [hen2]
    generalize hS : nS ix ++ (nS tm ++ (nS (wU kd) ++ (cmdB ck cl sq ep (opB ok r c v has x) pr st key val gr mv wg wk wi wo ++ (nS (wU 3) ++ (nS (wU a0) ++ (nS (wU a1) ++ (nS (wU a2) ++ ((ByteArray.mk #[0]))))))))) = S at hsz2
    have hz : szk S = true := szk_le hsz2
    have B := n_back ix tm kd ck cl sq ep ok r c v has x pr st key val gr mv wg wk wi wo _ _ u1 u2 (by omega) (by omega) (by omega) ⟨u3, b5⟩ ⟨u4, b6⟩ (by omega) (by omega) (by omega) (by omega) (by omega) ⟨u5, b13⟩ (by omega) (by omega) (by omega) (by omega) (by omega) (by omega) (by omega) (by omega) hS.symm hz
    obtain ⟨q1, q2, q3, q4⟩ := mem_ok3 m0 m1 m2 B
    have hd : db3 S = true := by
      unfold db3 da3
      rw [q2, q3]; rfl
    have h := dent3 S hz (by rw [q1]; rfl)
    rw [hd] at h
    exact h
  · obtain ⟨z, hz1, hz2⟩ := nS_cut (wU a2)
    have hcut : encB (ix, tm, kd, (ck, cl, sq, ep, (ok, r, c, v, has, x, ()), pr, st, key, val, gr, (mv, wg, wk, wi, wo, ()), ()), [a0, a1, a2], ()) = (nS ix ++ (nS tm ++ (nS (wU kd) ++ (cmdB ck cl sq ep (opB ok r c v has x) pr st key val gr mv wg wk wi wo ++ (nS (wU 3) ++ (nS (wU a0) ++ (nS (wU a1) ++ (cutB (wU a2))))))))) ++ z := by
      rw [hen, appEmpty, hz2]; simp only [ByteArray.append_assoc]
    have hzz : szk (nS ix ++ (nS tm ++ (nS (wU kd) ++ (cmdB ck cl sq ep (opB ok r c v has x) pr st key val gr mv wg wk wi wo ++ (nS (wU 3) ++ (nS (wU a0) ++ (nS (wU a1) ++ (cutB (wU a2))))))))) = true := by
      have : ((nS ix ++ (nS tm ++ (nS (wU kd) ++ (cmdB ck cl sq ep (opB ok r c v has x) pr st key val gr mv wg wk wi wo ++ (nS (wU 3) ++ (nS (wU a0) ++ (nS (wU a1) ++ (cutB (wU a2))))))))) ++ z).size ≤ 100100000 := by rw [← hcut, hen]; exact hsz
      rw [ByteArray.size_append] at this
      exact szk_le (by omega)
    rw [hcut, cut_last hz1]
    generalize hS : nS ix ++ (nS tm ++ (nS (wU kd) ++ (cmdB ck cl sq ep (opB ok r c v has x) pr st key val gr mv wg wk wi wo ++ (nS (wU 3) ++ (nS (wU a0) ++ (nS (wU a1) ++ (cutB (wU a2)))))))) = S at hzz
    have B := n_back ix tm kd ck cl sq ep ok r c v has x pr st key val gr mv wg wk wi wo _ _ u1 u2 (by omega) (by omega) (by omega) ⟨u3, b5⟩ ⟨u4, b6⟩ (by omega) (by omega) (by omega) (by omega) (by omega) ⟨u5, b13⟩ (by omega) (by omega) (by omega) (by omega) (by omega) (by omega) (by omega) (by omega) hS.symm hzz
    obtain ⟨q1, q2⟩ := mem_cut3 m0 m1 m2 B
    have hd : db3 S = true := by
      unfold db3 da3
      rw [q2]; rfl
    have h := dent3 S hzz (by rw [q1]; rfl)
    rw [hd] at h
    exact h
theorem dec_4 (ix tm kd ck cl sq ep ok pr st gr wg wi wo a0 a1 a2 a3 : Int) (r c v x key val wk : ByteArray) (has mv : Bool) (hE : EB (ix, tm, kd, (ck, cl, sq, ep, (ok, r, c, v, has, x, ()), pr, st, key, val, gr, (mv, wg, wk, wi, wo, ()), ()), [a0, a1, a2, a3], ())) (u1 : uOk ix = true) (u2 : uOk tm = true) (u3 : uOk sq = true) (u4 : uOk ep = true) (u5 : uOk pr = true) (h0 : entV (ix, tm, kd, (ck, cl, sq, ep, (ok, r, c, v, has, x, ()), pr, st, key, val, gr, (mv, wg, wk, wi, wo, ()), ()), [a0, a1, a2, a3], ()) = 0) : PureCall Try.prog 32 [vS (encB (ix, tm, kd, (ck, cl, sq, ep, (ok, r, c, v, has, x, ()), pr, st, key, val, gr, (mv, wg, wk, wi, wo, ()), ()), [a0, a1, a2, a3], ()))] (tupE (ix, tm, kd, (ck, cl, sq, ep, (ok, r, c, v, has, x, ()), pr, st, key, val, gr, (mv, wg, wk, wi, wo, ()), ()), [a0, a1, a2, a3], ()) 0) ∧ PureCall Try.prog 32 [vS (encB (ix, tm, kd, (ck, cl, sq, ep, (ok, r, c, v, has, x, ()), pr, st, key, val, gr, (mv, wg, wk, wi, wo, ()), ()), [a0, a1, a2, a3], ()) ++ (ByteArray.mk #[0]))] (tupE eZ 4) ∧ PureCall Try.prog 32 [vS ((encB (ix, tm, kd, (ck, cl, sq, ep, (ok, r, c, v, has, x, ()), pr, st, key, val, gr, (mv, wg, wk, wi, wo, ()), ()), [a0, a1, a2, a3], ())).extract 0 ((encB (ix, tm, kd, (ck, cl, sq, ep, (ok, r, c, v, has, x, ()), pr, st, key, val, gr, (mv, wg, wk, wi, wo, ()), ()), [a0, a1, a2, a3], ())).size - 1))] (tupE eZ 4) ∧ 0 < (encB (ix, tm, kd, (ck, cl, sq, ep, (ok, r, c, v, has, x, ()), pr, st, key, val, gr, (mv, wg, wk, wi, wo, ()), ()), [a0, a1, a2, a3], ())).size ∧ (encB (ix, tm, kd, (ck, cl, sq, ep, (ok, r, c, v, has, x, ()), pr, st, key, val, gr, (mv, wg, wk, wi, wo, ()), ()), [a0, a1, a2, a3], ())).size ≤ 100100000 := by
  have hew := hE.ew u1 u2 u3 u4 u5
  have hcs := cmdD_size _ hew.cw
  have hcs : (cmdB ck cl sq ep (opB ok r c v has x) pr st key val gr mv wg wk wi wo).size ≤ 100001000 := hcs
  obtain ⟨⟨k1, k2⟩, ⟨⟨b1, b2⟩, ⟨b3, b4⟩, b5, b6, ⟨⟨b7, b8⟩, b9, b10, b11, b12⟩, b13, ⟨b14, b15⟩, b16, b17, ⟨b18, b19⟩, ⟨b20, b21⟩, b22, ⟨b23, b24⟩, ⟨b25, b26⟩⟩, hlen, hmem⟩ := hE
  simp only at k1 k2 b1 b2 b3 b4 b5 b6 b7 b8 b9 b10 b11 b12 b13 b14 b15 b16 b17 b18 b19 b20 b21 b22 b23 b24 b25 b26
  have k1 : 1 ≤ kd := k1
  have k2 : kd ≤ 2 := k2
  have b1 : 0 ≤ ck := b1
  have b2 : ck ≤ 7 := b2
  have b3 : 0 ≤ cl := b3
  have b4 : cl ≤ 4 := b4
  have b5 : sq ≤ 1099511627776 := b5
  have b6 : ep ≤ 1099511627776 := b6
  have b7 : 0 ≤ ok := b7
  have b8 : ok ≤ 5 := b8
  have b13 : pr ≤ 1099511627776 := b13
  have b14 : 0 ≤ st := b14
  have b15 : st ≤ 100 := b15
  have b18 : 0 ≤ gr := b18
  have b19 : gr ≤ 12 := b19
  have b20 : 0 ≤ wg := b20
  have b21 : wg ≤ 12 := b21
  have b23 : 0 ≤ wi := b23
  have b24 : wi ≤ 5 := b24
  have b25 : 0 ≤ wo := b25
  have b26 : wo ≤ 5 := b26
  have m0 : 0 ≤ a0 ∧ a0 < 5 := hmem a0 (by simp)
  have m1 : 0 ≤ a1 ∧ a1 < 5 := hmem a1 (by simp)
  have m2 : 0 ≤ a2 ∧ a2 < 5 := hmem a2 (by simp)
  have m3 : 0 ≤ a3 ∧ a3 < 5 := hmem a3 (by simp)
  have hen : encB (ix, tm, kd, (ck, cl, sq, ep, (ok, r, c, v, has, x, ()), pr, st, key, val, gr, (mv, wg, wk, wi, wo, ()), ()), [a0, a1, a2, a3], ()) = nS ix ++ (nS tm ++ (nS (wU kd) ++ (cmdB ck cl sq ep (opB ok r c v has x) pr st key val gr mv wg wk wi wo ++ (nS (wU 4) ++ (nS (wU a0) ++ (nS (wU a1) ++ (nS (wU a2) ++ (nS (wU a3) ++ ((ByteArray.mk #[])))))))))) := by
    simp only [encB, cmdD, memB, List.length_cons, List.length_nil, List.foldr_cons, List.foldr_nil]
    rfl
  have hen2 : encB (ix, tm, kd, (ck, cl, sq, ep, (ok, r, c, v, has, x, ()), pr, st, key, val, gr, (mv, wg, wk, wi, wo, ()), ()), [a0, a1, a2, a3], ()) ++ (ByteArray.mk #[0]) = nS ix ++ (nS tm ++ (nS (wU kd) ++ (cmdB ck cl sq ep (opB ok r c v has x) pr st key val gr mv wg wk wi wo ++ (nS (wU 4) ++ (nS (wU a0) ++ (nS (wU a1) ++ (nS (wU a2) ++ (nS (wU a3) ++ ((ByteArray.mk #[0])))))))))) := by
    rw [hen]; simp only [ByteArray.append_assoc, emptyApp']
  have f1 := nS_size ix; have f2 := nS_size tm; have f3 := nS_size (wU kd); have f4 := nS_size (wU 4); have f5 := nS_pos ix
  have s0 := nS_size (wU a0)
  have s1 := nS_size (wU a1)
  have s2 := nS_size (wU a2)
  have s3 := nS_size (wU a3)
  have hsz : (nS ix ++ (nS tm ++ (nS (wU kd) ++ (cmdB ck cl sq ep (opB ok r c v has x) pr st key val gr mv wg wk wi wo ++ (nS (wU 4) ++ (nS (wU a0) ++ (nS (wU a1) ++ (nS (wU a2) ++ (nS (wU a3) ++ ((ByteArray.mk #[]))))))))))).size ≤ 100100000 := by
    simp only [ByteArray.size_append, show (ByteArray.mk #[]).size = 0 from rfl]; omega
  have hsz2 : (nS ix ++ (nS tm ++ (nS (wU kd) ++ (cmdB ck cl sq ep (opB ok r c v has x) pr st key val gr mv wg wk wi wo ++ (nS (wU 4) ++ (nS (wU a0) ++ (nS (wU a1) ++ (nS (wU a2) ++ (nS (wU a3) ++ ((ByteArray.mk #[0]))))))))))).size ≤ 200000000 := by
    simp only [ByteArray.size_append, show (ByteArray.mk #[0]).size = 1 from rfl]; omega
  have hpos : 0 < (nS ix ++ (nS tm ++ (nS (wU kd) ++ (cmdB ck cl sq ep (opB ok r c v has x) pr st key val gr mv wg wk wi wo ++ (nS (wU 4) ++ (nS (wU a0) ++ (nS (wU a1) ++ (nS (wU a2) ++ (nS (wU a3) ++ ((ByteArray.mk #[]))))))))))).size := by rw [ByteArray.size_append]; omega
  refine ⟨?_, ?_, ?_, by rw [hen]; exact hpos, by rw [hen]; exact hsz⟩
  · rw [hen]
    generalize hS : nS ix ++ (nS tm ++ (nS (wU kd) ++ (cmdB ck cl sq ep (opB ok r c v has x) pr st key val gr mv wg wk wi wo ++ (nS (wU 4) ++ (nS (wU a0) ++ (nS (wU a1) ++ (nS (wU a2) ++ (nS (wU a3) ++ ((ByteArray.mk #[])))))))))) = S at hsz
    have hz : szk S = true := szk_le (by omega)
    have B := n_back ix tm kd ck cl sq ep ok r c v has x pr st key val gr mv wg wk wi wo _ _ u1 u2 (by omega) (by omega) (by omega) ⟨u3, b5⟩ ⟨u4, b6⟩ (by omega) (by omega) (by omega) (by omega) (by omega) ⟨u5, b13⟩ (by omega) (by omega) (by omega) (by omega) (by omega) (by omega) (by omega) (by omega) hS.symm hz
    obtain ⟨q1, q2, q3, q4⟩ := mem_ok4 m0 m1 m2 m3 B
    have hd : db4 S = false := by
      unfold db4 da4
      rw [q2, q3, deV_back B, q4, h0]; rfl
    have h := dent4 S hz (by rw [q1]; rfl)
    rw [hd, deV_back B, q4] at h
    exact h
  · rw [hen2]
    generalize hS : nS ix ++ (nS tm ++ (nS (wU kd) ++ (cmdB ck cl sq ep (opB ok r c v has x) pr st key val gr mv wg wk wi wo ++ (nS (wU 4) ++ (nS (wU a0) ++ (nS (wU a1) ++ (nS (wU a2) ++ (nS (wU a3) ++ ((ByteArray.mk #[0])))))))))) = S at hsz2
    have hz : szk S = true := szk_le hsz2
    have B := n_back ix tm kd ck cl sq ep ok r c v has x pr st key val gr mv wg wk wi wo _ _ u1 u2 (by omega) (by omega) (by omega) ⟨u3, b5⟩ ⟨u4, b6⟩ (by omega) (by omega) (by omega) (by omega) (by omega) ⟨u5, b13⟩ (by omega) (by omega) (by omega) (by omega) (by omega) (by omega) (by omega) (by omega) hS.symm hz
    obtain ⟨q1, q2, q3, q4⟩ := mem_ok4 m0 m1 m2 m3 B
    have hd : db4 S = true := by
      unfold db4 da4
      rw [q2, q3]; rfl
    have h := dent4 S hz (by rw [q1]; rfl)
    rw [hd] at h
    exact h
  · obtain ⟨z, hz1, hz2⟩ := nS_cut (wU a3)
    have hcut : encB (ix, tm, kd, (ck, cl, sq, ep, (ok, r, c, v, has, x, ()), pr, st, key, val, gr, (mv, wg, wk, wi, wo, ()), ()), [a0, a1, a2, a3], ()) = (nS ix ++ (nS tm ++ (nS (wU kd) ++ (cmdB ck cl sq ep (opB ok r c v has x) pr st key val gr mv wg wk wi wo ++ (nS (wU 4) ++ (nS (wU a0) ++ (nS (wU a1) ++ (nS (wU a2) ++ (cutB (wU a3)))))))))) ++ z := by
      rw [hen, appEmpty, hz2]; simp only [ByteArray.append_assoc]
    have hzz : szk (nS ix ++ (nS tm ++ (nS (wU kd) ++ (cmdB ck cl sq ep (opB ok r c v has x) pr st key val gr mv wg wk wi wo ++ (nS (wU 4) ++ (nS (wU a0) ++ (nS (wU a1) ++ (nS (wU a2) ++ (cutB (wU a3)))))))))) = true := by
      have : ((nS ix ++ (nS tm ++ (nS (wU kd) ++ (cmdB ck cl sq ep (opB ok r c v has x) pr st key val gr mv wg wk wi wo ++ (nS (wU 4) ++ (nS (wU a0) ++ (nS (wU a1) ++ (nS (wU a2) ++ (cutB (wU a3)))))))))) ++ z).size ≤ 100100000 := by rw [← hcut, hen]; exact hsz
      rw [ByteArray.size_append] at this
      exact szk_le (by omega)
    rw [hcut, cut_last hz1]
    generalize hS : nS ix ++ (nS tm ++ (nS (wU kd) ++ (cmdB ck cl sq ep (opB ok r c v has x) pr st key val gr mv wg wk wi wo ++ (nS (wU 4) ++ (nS (wU a0) ++ (nS (wU a1) ++ (nS (wU a2) ++ (cutB (wU a3))))))))) = S at hzz
    have B := n_back ix tm kd ck cl sq ep ok r c v has x pr st key val gr mv wg wk wi wo _ _ u1 u2 (by omega) (by omega) (by omega) ⟨u3, b5⟩ ⟨u4, b6⟩ (by omega) (by omega) (by omega) (by omega) (by omega) ⟨u5, b13⟩ (by omega) (by omega) (by omega) (by omega) (by omega) (by omega) (by omega) (by omega) hS.symm hzz
    obtain ⟨q1, q2⟩ := mem_cut4 m0 m1 m2 m3 B
    have hd : db4 S = true := by
      unfold db4 da4
      rw [q2]; rfl
    have h := dent4 S hzz (by rw [q1]; rfl)
    rw [hd] at h
    exact h
theorem dec_5 (ix tm kd ck cl sq ep ok pr st gr wg wi wo a0 a1 a2 a3 a4 : Int) (r c v x key val wk : ByteArray) (has mv : Bool) (hE : EB (ix, tm, kd, (ck, cl, sq, ep, (ok, r, c, v, has, x, ()), pr, st, key, val, gr, (mv, wg, wk, wi, wo, ()), ()), [a0, a1, a2, a3, a4], ())) (u1 : uOk ix = true) (u2 : uOk tm = true) (u3 : uOk sq = true) (u4 : uOk ep = true) (u5 : uOk pr = true) (h0 : entV (ix, tm, kd, (ck, cl, sq, ep, (ok, r, c, v, has, x, ()), pr, st, key, val, gr, (mv, wg, wk, wi, wo, ()), ()), [a0, a1, a2, a3, a4], ()) = 0) : PureCall Try.prog 32 [vS (encB (ix, tm, kd, (ck, cl, sq, ep, (ok, r, c, v, has, x, ()), pr, st, key, val, gr, (mv, wg, wk, wi, wo, ()), ()), [a0, a1, a2, a3, a4], ()))] (tupE (ix, tm, kd, (ck, cl, sq, ep, (ok, r, c, v, has, x, ()), pr, st, key, val, gr, (mv, wg, wk, wi, wo, ()), ()), [a0, a1, a2, a3, a4], ()) 0) ∧ PureCall Try.prog 32 [vS (encB (ix, tm, kd, (ck, cl, sq, ep, (ok, r, c, v, has, x, ()), pr, st, key, val, gr, (mv, wg, wk, wi, wo, ()), ()), [a0, a1, a2, a3, a4], ()) ++ (ByteArray.mk #[0]))] (tupE eZ 4) ∧ PureCall Try.prog 32 [vS ((encB (ix, tm, kd, (ck, cl, sq, ep, (ok, r, c, v, has, x, ()), pr, st, key, val, gr, (mv, wg, wk, wi, wo, ()), ()), [a0, a1, a2, a3, a4], ())).extract 0 ((encB (ix, tm, kd, (ck, cl, sq, ep, (ok, r, c, v, has, x, ()), pr, st, key, val, gr, (mv, wg, wk, wi, wo, ()), ()), [a0, a1, a2, a3, a4], ())).size - 1))] (tupE eZ 4) ∧ 0 < (encB (ix, tm, kd, (ck, cl, sq, ep, (ok, r, c, v, has, x, ()), pr, st, key, val, gr, (mv, wg, wk, wi, wo, ()), ()), [a0, a1, a2, a3, a4], ())).size ∧ (encB (ix, tm, kd, (ck, cl, sq, ep, (ok, r, c, v, has, x, ()), pr, st, key, val, gr, (mv, wg, wk, wi, wo, ()), ()), [a0, a1, a2, a3, a4], ())).size ≤ 100100000 := by
  have hew := hE.ew u1 u2 u3 u4 u5
  have hcs := cmdD_size _ hew.cw
  have hcs : (cmdB ck cl sq ep (opB ok r c v has x) pr st key val gr mv wg wk wi wo).size ≤ 100001000 := hcs
  obtain ⟨⟨k1, k2⟩, ⟨⟨b1, b2⟩, ⟨b3, b4⟩, b5, b6, ⟨⟨b7, b8⟩, b9, b10, b11, b12⟩, b13, ⟨b14, b15⟩, b16, b17, ⟨b18, b19⟩, ⟨b20, b21⟩, b22, ⟨b23, b24⟩, ⟨b25, b26⟩⟩, hlen, hmem⟩ := hE
  simp only at k1 k2 b1 b2 b3 b4 b5 b6 b7 b8 b9 b10 b11 b12 b13 b14 b15 b16 b17 b18 b19 b20 b21 b22 b23 b24 b25 b26
  have k1 : 1 ≤ kd := k1
  have k2 : kd ≤ 2 := k2
  have b1 : 0 ≤ ck := b1
  have b2 : ck ≤ 7 := b2
  have b3 : 0 ≤ cl := b3
  have b4 : cl ≤ 4 := b4
  have b5 : sq ≤ 1099511627776 := b5
  have b6 : ep ≤ 1099511627776 := b6
  have b7 : 0 ≤ ok := b7
  have b8 : ok ≤ 5 := b8
  have b13 : pr ≤ 1099511627776 := b13
  have b14 : 0 ≤ st := b14
  have b15 : st ≤ 100 := b15
  have b18 : 0 ≤ gr := b18
  have b19 : gr ≤ 12 := b19
  have b20 : 0 ≤ wg := b20
  have b21 : wg ≤ 12 := b21
  have b23 : 0 ≤ wi := b23
  have b24 : wi ≤ 5 := b24
  have b25 : 0 ≤ wo := b25
  have b26 : wo ≤ 5 := b26
  have m0 : 0 ≤ a0 ∧ a0 < 5 := hmem a0 (by simp)
  have m1 : 0 ≤ a1 ∧ a1 < 5 := hmem a1 (by simp)
  have m2 : 0 ≤ a2 ∧ a2 < 5 := hmem a2 (by simp)
  have m3 : 0 ≤ a3 ∧ a3 < 5 := hmem a3 (by simp)
  have m4 : 0 ≤ a4 ∧ a4 < 5 := hmem a4 (by simp)
  have hen : encB (ix, tm, kd, (ck, cl, sq, ep, (ok, r, c, v, has, x, ()), pr, st, key, val, gr, (mv, wg, wk, wi, wo, ()), ()), [a0, a1, a2, a3, a4], ()) = nS ix ++ (nS tm ++ (nS (wU kd) ++ (cmdB ck cl sq ep (opB ok r c v has x) pr st key val gr mv wg wk wi wo ++ (nS (wU 5) ++ (nS (wU a0) ++ (nS (wU a1) ++ (nS (wU a2) ++ (nS (wU a3) ++ (nS (wU a4) ++ ((ByteArray.mk #[]))))))))))) := by
    simp only [encB, cmdD, memB, List.length_cons, List.length_nil, List.foldr_cons, List.foldr_nil]
    rfl
  have hen2 : encB (ix, tm, kd, (ck, cl, sq, ep, (ok, r, c, v, has, x, ()), pr, st, key, val, gr, (mv, wg, wk, wi, wo, ()), ()), [a0, a1, a2, a3, a4], ()) ++ (ByteArray.mk #[0]) = nS ix ++ (nS tm ++ (nS (wU kd) ++ (cmdB ck cl sq ep (opB ok r c v has x) pr st key val gr mv wg wk wi wo ++ (nS (wU 5) ++ (nS (wU a0) ++ (nS (wU a1) ++ (nS (wU a2) ++ (nS (wU a3) ++ (nS (wU a4) ++ ((ByteArray.mk #[0]))))))))))) := by
    rw [hen]; simp only [ByteArray.append_assoc, emptyApp']
  have f1 := nS_size ix; have f2 := nS_size tm; have f3 := nS_size (wU kd); have f4 := nS_size (wU 5); have f5 := nS_pos ix
  have s0 := nS_size (wU a0)
  have s1 := nS_size (wU a1)
  have s2 := nS_size (wU a2)
  have s3 := nS_size (wU a3)
  have s4 := nS_size (wU a4)
  have hsz : (nS ix ++ (nS tm ++ (nS (wU kd) ++ (cmdB ck cl sq ep (opB ok r c v has x) pr st key val gr mv wg wk wi wo ++ (nS (wU 5) ++ (nS (wU a0) ++ (nS (wU a1) ++ (nS (wU a2) ++ (nS (wU a3) ++ (nS (wU a4) ++ ((ByteArray.mk #[])))))))))))).size ≤ 100100000 := by
    simp only [ByteArray.size_append, show (ByteArray.mk #[]).size = 0 from rfl]; omega
  have hsz2 : (nS ix ++ (nS tm ++ (nS (wU kd) ++ (cmdB ck cl sq ep (opB ok r c v has x) pr st key val gr mv wg wk wi wo ++ (nS (wU 5) ++ (nS (wU a0) ++ (nS (wU a1) ++ (nS (wU a2) ++ (nS (wU a3) ++ (nS (wU a4) ++ ((ByteArray.mk #[0])))))))))))).size ≤ 200000000 := by
    simp only [ByteArray.size_append, show (ByteArray.mk #[0]).size = 1 from rfl]; omega
  have hpos : 0 < (nS ix ++ (nS tm ++ (nS (wU kd) ++ (cmdB ck cl sq ep (opB ok r c v has x) pr st key val gr mv wg wk wi wo ++ (nS (wU 5) ++ (nS (wU a0) ++ (nS (wU a1) ++ (nS (wU a2) ++ (nS (wU a3) ++ (nS (wU a4) ++ ((ByteArray.mk #[])))))))))))).size := by rw [ByteArray.size_append]; omega
  refine ⟨?_, ?_, ?_, by rw [hen]; exact hpos, by rw [hen]; exact hsz⟩
  · rw [hen]
    generalize hS : nS ix ++ (nS tm ++ (nS (wU kd) ++ (cmdB ck cl sq ep (opB ok r c v has x) pr st key val gr mv wg wk wi wo ++ (nS (wU 5) ++ (nS (wU a0) ++ (nS (wU a1) ++ (nS (wU a2) ++ (nS (wU a3) ++ (nS (wU a4) ++ ((ByteArray.mk #[]))))))))))) = S at hsz
    have hz : szk S = true := szk_le (by omega)
    have B := n_back ix tm kd ck cl sq ep ok r c v has x pr st key val gr mv wg wk wi wo _ _ u1 u2 (by omega) (by omega) (by omega) ⟨u3, b5⟩ ⟨u4, b6⟩ (by omega) (by omega) (by omega) (by omega) (by omega) ⟨u5, b13⟩ (by omega) (by omega) (by omega) (by omega) (by omega) (by omega) (by omega) (by omega) hS.symm hz
    obtain ⟨q1, q2, q3, q4⟩ := mem_ok5 m0 m1 m2 m3 m4 B
    have hd : db5 S = false := by
      unfold db5 da5
      rw [q2, q3, deV_back B, q4, h0]; rfl
    have h := dent5 S hz (by rw [q1]; rfl)
    rw [hd, deV_back B, q4] at h
    exact h
  · rw [hen2]
    generalize hS : nS ix ++ (nS tm ++ (nS (wU kd) ++ (cmdB ck cl sq ep (opB ok r c v has x) pr st key val gr mv wg wk wi wo ++ (nS (wU 5) ++ (nS (wU a0) ++ (nS (wU a1) ++ (nS (wU a2) ++ (nS (wU a3) ++ (nS (wU a4) ++ ((ByteArray.mk #[0]))))))))))) = S at hsz2
    have hz : szk S = true := szk_le hsz2
    have B := n_back ix tm kd ck cl sq ep ok r c v has x pr st key val gr mv wg wk wi wo _ _ u1 u2 (by omega) (by omega) (by omega) ⟨u3, b5⟩ ⟨u4, b6⟩ (by omega) (by omega) (by omega) (by omega) (by omega) ⟨u5, b13⟩ (by omega) (by omega) (by omega) (by omega) (by omega) (by omega) (by omega) (by omega) hS.symm hz
    obtain ⟨q1, q2, q3, q4⟩ := mem_ok5 m0 m1 m2 m3 m4 B
    have hd : db5 S = true := by
      unfold db5 da5
      rw [q2, q3]; rfl
    have h := dent5 S hz (by rw [q1]; rfl)
    rw [hd] at h
    exact h
  · obtain ⟨z, hz1, hz2⟩ := nS_cut (wU a4)
    have hcut : encB (ix, tm, kd, (ck, cl, sq, ep, (ok, r, c, v, has, x, ()), pr, st, key, val, gr, (mv, wg, wk, wi, wo, ()), ()), [a0, a1, a2, a3, a4], ()) = (nS ix ++ (nS tm ++ (nS (wU kd) ++ (cmdB ck cl sq ep (opB ok r c v has x) pr st key val gr mv wg wk wi wo ++ (nS (wU 5) ++ (nS (wU a0) ++ (nS (wU a1) ++ (nS (wU a2) ++ (nS (wU a3) ++ (cutB (wU a4))))))))))) ++ z := by
      rw [hen, appEmpty, hz2]; simp only [ByteArray.append_assoc]
    have hzz : szk (nS ix ++ (nS tm ++ (nS (wU kd) ++ (cmdB ck cl sq ep (opB ok r c v has x) pr st key val gr mv wg wk wi wo ++ (nS (wU 5) ++ (nS (wU a0) ++ (nS (wU a1) ++ (nS (wU a2) ++ (nS (wU a3) ++ (cutB (wU a4))))))))))) = true := by
      have : ((nS ix ++ (nS tm ++ (nS (wU kd) ++ (cmdB ck cl sq ep (opB ok r c v has x) pr st key val gr mv wg wk wi wo ++ (nS (wU 5) ++ (nS (wU a0) ++ (nS (wU a1) ++ (nS (wU a2) ++ (nS (wU a3) ++ (cutB (wU a4))))))))))) ++ z).size ≤ 100100000 := by rw [← hcut, hen]; exact hsz
      rw [ByteArray.size_append] at this
      exact szk_le (by omega)
    rw [hcut, cut_last hz1]
    generalize hS : nS ix ++ (nS tm ++ (nS (wU kd) ++ (cmdB ck cl sq ep (opB ok r c v has x) pr st key val gr mv wg wk wi wo ++ (nS (wU 5) ++ (nS (wU a0) ++ (nS (wU a1) ++ (nS (wU a2) ++ (nS (wU a3) ++ (cutB (wU a4)))))))))) = S at hzz
    have B := n_back ix tm kd ck cl sq ep ok r c v has x pr st key val gr mv wg wk wi wo _ _ u1 u2 (by omega) (by omega) (by omega) ⟨u3, b5⟩ ⟨u4, b6⟩ (by omega) (by omega) (by omega) (by omega) (by omega) ⟨u5, b13⟩ (by omega) (by omega) (by omega) (by omega) (by omega) (by omega) (by omega) (by omega) hS.symm hzz
    obtain ⟨q1, q2⟩ := mem_cut5 m0 m1 m2 m3 m4 B
    have hd : db5 S = true := by
      unfold db5 da5
      rw [q2]; rfl
    have h := dent5 S hzz (by rw [q1]; rfl)
    rw [hd] at h
    exact h
theorem dec_facts (e : rEntry.den) (hE : EB e) (u1 : uOk e.1 = true) (u2 : uOk e.2.1 = true) (u3 : uOk e.2.2.2.1.2.2.1 = true) (u4 : uOk e.2.2.2.1.2.2.2.1 = true) (u5 : uOk e.2.2.2.1.2.2.2.2.2.1 = true) (h0 : entV e = 0) :
    PureCall Try.prog 32 [vS (encB e)] (tupE e 0) ∧ PureCall Try.prog 32 [vS (encB e ++ (ByteArray.mk #[0]))] (tupE eZ 4) ∧ PureCall Try.prog 32 [vS ((encB e).extract 0 ((encB e).size - 1))] (tupE eZ 4) ∧ 0 < (encB e).size ∧ (encB e).size ≤ 100100000 := by
  obtain ⟨ix, tm, kd, ⟨ck, cl, sq, ep, ⟨ok, r, c, v, has, x, _⟩, pr, st, key, val, gr, ⟨mv, wg, wk, wi, wo, _⟩, _⟩, l, _⟩ := e
  have hl := hE.len
  match l, hl, hE, h0 with
  | [], _, hE, h0 => exact dec_0 ix tm kd ck cl sq ep ok pr st gr wg wi wo  r c v x key val wk has mv hE u1 u2 u3 u4 u5 h0
  | [a0], _, hE, h0 => exact dec_1 ix tm kd ck cl sq ep ok pr st gr wg wi wo a0 r c v x key val wk has mv hE u1 u2 u3 u4 u5 h0
  | [a0, a1], _, hE, h0 => exact dec_2 ix tm kd ck cl sq ep ok pr st gr wg wi wo a0 a1 r c v x key val wk has mv hE u1 u2 u3 u4 u5 h0
  | [a0, a1, a2], _, hE, h0 => exact dec_3 ix tm kd ck cl sq ep ok pr st gr wg wi wo a0 a1 a2 r c v x key val wk has mv hE u1 u2 u3 u4 u5 h0
  | [a0, a1, a2, a3], _, hE, h0 => exact dec_4 ix tm kd ck cl sq ep ok pr st gr wg wi wo a0 a1 a2 a3 r c v x key val wk has mv hE u1 u2 u3 u4 u5 h0
  | [a0, a1, a2, a3, a4], _, hE, h0 => exact dec_5 ix tm kd ck cl sq ep ok pr st gr wg wi wo a0 a1 a2 a3 a4 r c v x key val wk has mv hE u1 u2 u3 u4 u5 h0
  | _ :: _ :: _ :: _ :: _ :: _ :: _, hl, _, _ => simp at hl
end Go.Proofs.Ytjplobgambnhjaa
