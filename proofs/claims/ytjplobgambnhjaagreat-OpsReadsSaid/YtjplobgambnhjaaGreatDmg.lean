/- DecodeMsg of any bytes: one contract; no statement. -/
import Derived.Test.YtjplobgambnhjaaGreatMm3
set_option linter.unusedVariables false
set_option linter.unusedSimpArgs false
set_option maxRecDepth 100000
namespace Go.Proofs.YtjplobgambnhjaaGreat
open Go Go.Eng

theorem szk_sp1 {s : ByteArray} (h : szk s = true) : szk (sp1 s) = true := szk_rdsS _ h
theorem szk_sp2 {s : ByteArray} (h : szk s = true) : szk (sp2 s) = true := szk_frS _ (szk_nr (szk_sp1 h))
theorem szk_sp3 {s : ByteArray} (h : szk s = true) : szk (sp3 s) = true := szk_rdsS _ (szk_sp2 h)
theorem szk_sp4 {s : ByteArray} (h : szk s = true) : szk (sp4 s) = true := szk_mbS _ (szk_nr (szk_sp3 h))
theorem csMsg_all {s : ByteArray} (h : szk s = true) (g : Bool) : (csMsg s g).all (fun c => c) = true := by
  unfold csMsg
  simp only [List.all_append, rdsC_all rdL3 _ (szk_sp4 h) (by decide), rdsC_all rdL2 _ (szk_sp2 h) (by decide), rdsC_all rdL1 _ h (by decide), List.all_cons, List.all_nil, szk_sp1 h]
  rfl
theorem msg_h (s : ByteArray) (g : Bool) (hs : szk s = true) : HeapCall Tryz.prog 26 [wT, .one (.ptr 4 0)] (hMb s g (rMsg.cells dZ)) (.one (.bool (!bdM s))) (hMb (sp5 s) (gp5 g s) (rMsg.cells (dM s))) :=
  EMs.heap_cut 5 (msg_run s g) (allI (csMsg_all hs g)) (Nat.le_refl 5) (by simp [idsV, idsC]) (by kernel_rfl) (by simp [idsB, idsC, dM, msgD, CT.cells])
def eqZ : (t : CT) → t.den → Bool
  | .int _, n => (n : Int) == 0
  | .bool, b => !(b : Bool)
  | .str, s => (s : ByteArray).size == 0
  | .sl _, l => List.isEmpty l
  | .unit, _ => true
  | .pair c cs, v => eqZ c v.1 && eqZ cs v.2
theorem eqZ_eq : ∀ (t : CT) (d : t.den), eqZ t d = true → d = t.dflt
  | .int _, n, h => eq_of_beq h
  | .bool, b, h => by
    have h : (!(b : Bool)) = true := h
    show (b : Bool) = false
    simpa using h
  | .str, s, h => by
    have h : (s : ByteArray).size = 0 := eq_of_beq h
    obtain ⟨⟨l⟩⟩ := s
    have : l = [] := List.eq_nil_of_length_eq_zero h
    subst this; rfl
  | .sl _, l, h => List.isEmpty_iff.1 h
  | .unit, _, _ => rfl
  | .pair c cs, v, h => by
    simp only [eqZ, Bool.and_eq_true] at h
    exact Prod.ext (eqZ_eq c _ h.1) (eqZ_eq cs _ h.2)
def msgF (args : List AV) (hp : List AB) (os : List Bool) : Option ((AV × List AB) × List Bool × List Bool) := match args, hp with
  | [.agg [.fn f1 [(2, 0), (3, 0)], .fn f2 [(2, 0), (3, 0)], .fn f3 [(2, 0), (3, 0)]], .one (.ptr 4 0)], [.cells [.str s], .cells [.bool g], .cells [.ptr 0 0], .cells [.ptr 1 0], .cells c] => match CT.un rMsg c with
    | some (d, []) => retC (.one (.bool (!bdM s)), hMb (sp5 s) (gp5 g s) (rMsg.cells (dM s))) [fnT f1 f2 f3, eqZ rMsg d, szk s] os
    | _ => none
  | _, _ => none
noncomputable def EDg : Env Tryz.prog := (EMs.addHF 26 selTk msgF
  (fun args hp os r' hp' cs os' h hc => by
    unfold msgF at h
    split at h
    · split at h
      · rename_i hu
        simp only [retC, Option.some.injEq, Prod.mk.injEq] at h
        obtain ⟨⟨rfl, rfl⟩, rfl, rfl⟩ := h
        obtain ⟨h1, hc⟩ := of_allTc hc
        obtain ⟨h2, hc⟩ := of_allTc hc
        obtain ⟨h3, _⟩ := of_allTc hc
        obtain ⟨rfl, rfl, rfl⟩ := of_decide_eq_true h1
        have e := eqZ_eq _ _ h2
        subst e
        exact hMb_pre hu (msg_h _ _ h3)
      · cases h
    · cases h)).addT1 27 [.agg rMsg] (fun d => vI (msgV d.1)) (fun _ => []) fun d _ => msg_pure d.1
abbrev tupM (d : rMsg.den) (e : Int) : AV := .tup [(true, rMsg.cells d), (false, [.int .i64 e])]
def mx1 (s : ByteArray) : Bool := !!bdM s
def mx2 (s : ByteArray) : Bool := bif mx1 s then true else !gp5 true s
def mx3 (s : ByteArray) : Bool := bif mx2 s then true else decide ((((sp5 s).size : Nat) : Int) > 0)
def mx4 (s : ByteArray) : Bool := bif mx3 s then true else msgV (dM s) != 0
/-- The message of bytes, and whether there is one. -/
def dmA (s : ByteArray) : rMsg.den × Int := bif mx4 s then (dZ, 4) else (dM s, 0)
def cZm : List AC := [.int .i64 0, .int .i64 0, .int .u64 0, .int .u64 0, .int .u64 0, .int .u64 0, .bool false, .nils, .int .u64 0, .int .u64 0, .nils] ++ (CT.pair .str (.pair rReq (.pair rRep (.pair rAsk (.pair rTold .unit))))).cells (CT.pair .str (.pair rReq (.pair rRep (.pair rAsk (.pair rTold .unit))))).dflt
theorem cZm_w : CW cZm (rMsg.cells dZ) := CW.un (t := rMsg) (d := dZ) (by kernel_rfl)
theorem dm_runT (s : ByteArray) : EDg.pureRun 8 [vS s] [true, true, true, true, true] =
    some (.tup [(true, cZm), (false, [.int .i64 4])], [true, true, true, true, mx2 s == true, mx2 s == true, mx2 s == true] ++ (tO (mx1 s) 1 ++ [true, true, szk s])) := by kernel_rfl
theorem dm_runF (s : ByteArray) : EDg.pureRun 8 [vS s] [false, false, false] =
    some (tupM (dM s) 0, [mx4 s == false] ++ (tO (mx3 s) 2 ++ ([(fun q => mx2 s || q) (mx2 s == false), true, mx2 s == false, mx2 s == false] ++ (tO (mx1 s) 1 ++ [true, true, szk s])))) := by kernel_rfl
theorem dm_runB (s : ByteArray) : EDg.pureRun 8 [vS s] [false, false, true] =
    some (.tup [(true, cZm), (false, [.int .i64 4])], [mx4 s == true] ++ (tO (mx3 s) 2 ++ ([(fun q => mx2 s || q) (mx2 s == false), true, mx2 s == false, mx2 s == false] ++ (tO (mx1 s) 1 ++ [true, true, szk s])))) := by kernel_rfl
theorem dm_any (s : ByteArray) (hs : szk s = true) : PureCall Tryz.prog 8 [vS s] (tupM (dmA s).1 (dmA s).2) := by
  unfold dmA
  cases h2 : mx2 s with
  | true =>
    have h3 : mx3 s = true := by unfold mx3; rw [h2]; rfl
    have h4 : mx4 s = true := by unfold mx4; rw [h3]; rfl
    rw [h4]
    refine PureCall.resw (EDg.pure_ok (dm_runT s) (allI ?_)) fun X v _ hv => tup_w cZm_w hv
    simp only [List.all_append, tO_all, List.all_cons, List.all_nil, hs, h2]; rfl
  | false =>
    cases h4 : mx4 s with
    | true =>
      refine PureCall.resw (EDg.pure_ok (dm_runB s) (allI ?_)) fun X v _ hv => tup_w cZm_w hv
      simp only [List.all_append, tO_all, List.all_cons, List.all_nil, hs, h2, h4]; rfl
    | false =>
      refine EDg.pure_ok (dm_runF s) (allI ?_)
      simp only [List.all_append, tO_all, List.all_cons, List.all_nil, hs, h2, h4]; rfl
end Go.Proofs.YtjplobgambnhjaaGreat
