/- Results taken of bytes, and laid; no statement. -/
import Derived.Test.YtjplobgambnhjaaAge
set_option linter.unusedVariables false
set_option linter.unusedSimpArgs false
set_option maxRecDepth 100000
namespace Go.Proofs.Ytjplobgambnhjaa
open Go Go.Eng

abbrev tupR (d : rRes.den) (e : Int) : AV := .tup [(true, rRes.cells d), (false, [.int .i64 e])]
def rResL : List Rd := [wN, .y, cT, cT, tN]
def rsG (s : ByteArray) : Bool := rdsG rResL true s
def rsT (s : ByteArray) : ByteArray := rdsS rResL s
def resD (V : List RV) : rRes.den := (ww V 0, ff V 1, tt V 2, tt V 3, nn V 4, ())
def rsD (s : ByteArray) : rRes.den := resD (rdsV rResL s)
def okR (r : rRes.den) : Bool := resOk r.1 r.2.2.1 r.2.2.2.1 r.2.2.2.2.1
def rB2 (s : ByteArray) : Bool := bif !rsG s then true else decide ((((rsT s).size : Nat) : Int) > 0)
def rB3 (s : ByteArray) : Bool := bif rB2 s then true else !okR (rsD s)
def drA (s : ByteArray) : rRes.den × Int := bif rB3 s then (rRes.dflt, 4) else (rsD s, 0)
theorem dr_runT (s : ByteArray) : EDr.pureRun 33 [vS s] [true, true, true, true] =
    some (tupR rRes.dflt 4, [true, true, true, true, (!rsG s) == true, (!rsG s) == true, (!rsG s) == true] ++ rdsC rResL true s) := by kernel_rfl
theorem dr_runF (s : ByteArray) : EDr.pureRun 33 [vS s] [false, false, false] =
    some (tupR (rsD s) 0, [rB3 s == false, (fun q => rB2 s || q) (rB2 s == false), (fun q => !(rB2 s == false) || q) (rB2 s == false), (fun q => !(rB2 s == false) || q) (rB2 s == false), (fun q => !rsG s || q) ((!rsG s) == false), true, (!rsG s) == false, (!rsG s) == false] ++ rdsC rResL true s) := by kernel_rfl
theorem dr_runB (s : ByteArray) : EDr.pureRun 33 [vS s] [false, false, true] =
    some (tupR rRes.dflt 4, [rB3 s == true, (fun q => rB2 s || q) (rB2 s == false), (fun q => !(rB2 s == false) || q) (rB2 s == false), (fun q => !(rB2 s == false) || q) (rB2 s == false), (fun q => !rsG s || q) ((!rsG s) == false), true, (!rsG s) == false, (!rsG s) == false] ++ rdsC rResL true s) := by kernel_rfl
theorem dr_any (s : ByteArray) (hs : szk s = true) : PureCall Try.prog 33 [vS s] (tupR (drA s).1 (drA s).2) := by
  have hc := rdsC_all rResL true hs (by decide)
  unfold drA
  cases hg : rsG s with
  | false =>
    have h2 : rB2 s = true := by unfold rB2; rw [hg]; rfl
    have h3 : rB3 s = true := by unfold rB3; rw [h2]; rfl
    rw [h3]
    refine EDr.pure_ok (dr_runT s) (allI ?_)
    rw [List.all_append, hc, hg]; rfl
  | true =>
    cases h3 : rB3 s with
    | true =>
      refine EDr.pure_ok (dr_runB s) (allI ?_)
      rw [List.all_append, hc, hg, h3]
      cases rB2 s <;> rfl
    | false =>
      refine EDr.pure_ok (dr_runF s) (allI ?_)
      rw [List.all_append, hc, hg, h3]
      cases rB2 s <;> rfl
def resX (r : rRes.den) : List RV := [.n (wU r.1)]
def resY (r : rRes.den) : List RV := [.t r.2.2.1, .t r.2.2.2.1, .n r.2.2.2.2.1]
theorem er_run (f : Bool) (r : rRes.den) : EWn.pureRun 25 [.agg (rRes.cells r)] [false, f] =
    some (tupY (laysB (laysB mt (resX r) ++ yS (bif f then 1 else 0)) (resY r)) 0, laysC (laysB mt (resX r) ++ yS (bif f then 1 else 0)) (resY r) ++ ([room (laysB mt (resX r)) 20, r.2.1 == f] ++ (laysC mt (resX r) ++ [(!okR r) == false]))) := by cases f <;> kernel_rfl
theorem er_runB (r : rRes.den) : EWn.pureRun 25 [.agg (rRes.cells r)] [true] = some (tupY mt 2, [(!okR r) == true]) := by kernel_rfl
def encRs (r : rRes.den) : ByteArray := encsB (resR r)
theorem er_good (r : rRes.den) (h : okR r = true) (hu : (resR r).all layU = true) (hz : laysSz (resR r) ≤ 100000000000) : PureCall Try.prog 25 [.agg (rRes.cells r)] (tupY (encRs r) 0) := by
  have e : encRs r = laysB (laysB mt (resX r) ++ fS r.2.1) (resY r) := by
    have : laysB (laysB mt (resX r) ++ fS r.2.1) (resY r) = laysB mt (resR r) := rfl
    rw [this, laysB_encs]; exact (emptyApp _).symm
  rw [e]
  have hl : (resR r) = resX r ++ ([.f r.2.1] ++ resY r) := rfl
  rw [hl, List.all_append, List.all_append, Bool.and_eq_true, Bool.and_eq_true] at hu
  rw [hl, laysSz_app, laysSz_app] at hz
  have z1 := laysB_size (resX r) mt
  have z2 := fS_size r.2.1
  have z0 := size_mt
  have hq : laysSz [RV.f r.2.1] = 20 := rfl
  refine EWn.pure_ok (er_run r.2.1 r) (allI ?_)
  have e2 : laysB mt (resX r) ++ yS (bif r.2.1 then 1 else 0) = laysB mt (resX r) ++ fS r.2.1 := rfl
  rw [e2, List.all_append, List.all_append, List.all_append, laysC_all _ _ hu.2.2 (by rw [ByteArray.size_append]; omega), laysC_all _ _ hu.1 (by omega), h]
  have hr := room_of (b := laysB mt (resX r)) (n := 20) (by omega)
  simp only [List.all_cons, List.all_nil, hr, beq_self_eq_true]
  rfl
theorem er_bad (r : rRes.den) (h : okR r = false) : PureCall Try.prog 25 [.agg (rRes.cells r)] (tupY mt 2) :=
  EWn.pure_ok (er_runB r) (allI (by rw [h]; rfl))
theorem resR_wr (s : ByteArray) : resR (rsD s) = List.zipWith wr rResL (rdsR rResL s) := by kernel_rfl
theorem res_sgs (s : ByteArray) : sgsK rResL (rdsR rResL s) = true := by kernel_rfl
theorem res_sz : szsR rResL ≤ 3000000 := by decide
/-- A result that is read is laid as it was. -/
theorem res_again {s : ByteArray} (hs : szk s = true) (h : rB3 s = false) : okR (rsD s) = true ∧ (resR (rsD s)).all layU = true ∧ laysSz (resR (rsD s)) ≤ 3000000 ∧ encRs (rsD s) = s := by
  obtain ⟨h2, hk⟩ := bif_or (show (bif rB2 s then true else !okR (rsD s)) = false from h)
  obtain ⟨hg, hz⟩ := bif_or (show (bif !rsG s then true else decide ((((rsT s).size : Nat) : Int) > 0)) = false from h2)
  have hg : rsG s = true := by
    cases e : rsG s with
    | true => rfl
    | false => rw [e] at hg; cases hg
  obtain ⟨_, e1, f1⟩ := rds_again rResL hs (by decide) hg
  have hm : rsT s = ByteArray.mk #[] := mt_of (by have := of_decide_eq_false hz; omega)
  have hm : rdsS rResL s = ByteArray.mk #[] := hm
  rw [hm, appMt] at e1
  have w : resR (rsD s) = rdsR rResL s := (resR_wr s).trans (wrs_id _ _ f1 (res_sgs s))
  obtain ⟨l1, z1⟩ := fits_lay _ _ f1 (by decide)
  refine ⟨?_, by rw [w]; exact l1, by rw [w]; exact Nat.le_trans z1 res_sz, ?_⟩
  · cases e : okR (rsD s) with
    | true => rfl
    | false => rw [e] at hk; cases hk
  · unfold encRs
    rw [w]; exact e1.symm
end Go.Proofs.Ytjplobgambnhjaa
