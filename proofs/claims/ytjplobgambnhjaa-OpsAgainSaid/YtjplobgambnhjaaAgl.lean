/- OpsAgain: the environment of the law's run; no statement. -/
import Derived.Test.YtjplobgambnhjaaRsc
import Derived.Test.YtjplobgambnhjaaOworks
set_option linter.unusedVariables false
set_option linter.unusedSimpArgs false
set_option maxRecDepth 100000
namespace Go.Proofs.Ytjplobgambnhjaa
open Go Go.Eng

def emT (d : rMsg.den) : ByteArray := bif msgV d == 0 then encM d else mt
def emV (d : rMsg.den) : Int := bif msgV d == 0 then 0 else 2
noncomputable def emOk (d : rMsg.den) : Bool := okP (msgV d = 0 → MOk d)
theorem em_any (d : rMsg.den) (h : emOk d = true) : PureCall Try.prog 28 [.agg (rMsg.cells d)] (tupY (emT d) (emV d)) := by
  unfold emT emV
  by_cases h0 : msgV d = 0
  · have e : (msgV d == 0) = true := beq_iff_eq.2 h0
    rw [e]; exact em_good h0 (okP_of h h0)
  · have e : (msgV d == 0) = false := beq_eq_false_iff_ne.2 h0
    rw [e]; exact emx_h d h0
def erT (r : rRes.den) : ByteArray := bif okR r then encRs r else mt
def erV (r : rRes.den) : Int := bif okR r then 0 else 2
def erOk (r : rRes.den) : Bool := !okR r || ((resR r).all layU && decide (laysSz (resR r) ≤ 100000000000))
theorem er_any (r : rRes.den) (h : erOk r = true) : PureCall Try.prog 25 [.agg (rRes.cells r)] (tupY (erT r) (erV r)) := by
  unfold erT erV
  unfold erOk at h
  cases e : okR r with
  | true =>
    rw [e] at h
    have h : ((resR r).all layU && decide (laysSz (resR r) ≤ 100000000000)) = true := h
    rw [Bool.and_eq_true, decide_eq_true_eq] at h
    exact er_good r e h.1 h.2
  | false => exact er_bad r e
noncomputable def ELw : Env Try.prog := (((((((EWn.addT1 30 [.one .str] (fun d => tupM (dmA d.1).1 (dmA d.1).2) (fun d => [szk d.1]) fun d hc => dm_any d.1 (of_allTc hc).1).addT1
  28 [.agg rMsg] (fun d => tupY (emT d.1) (emV d.1)) (fun d => [emOk d.1]) fun d hc => em_any d.1 (of_allTc hc).1).addT1
  32 [.one .str] (fun d => tupE (deA d.1).1 (deA d.1).2) (fun d => [szk d.1]) fun d hc => dent_any d.1 (of_allTc hc).1).addT1
  20 [.agg rEntry] (fun d => tupY (encT d.1) (encV d.1)) (fun d => [!(entV d.1 == 0) || enOk d.1]) fun d hc => en_any d.1 (of_allTc hc).1).addT1
  33 [.one .str] (fun d => tupR (drA d.1).1 (drA d.1).2) (fun d => [szk d.1]) fun d hc => dr_any d.1 (of_allTc hc).1).addT1
  25 [.agg rRes] (fun d => tupY (erT d.1) (erV d.1)) (fun d => [erOk d.1]) fun d hc => er_any d.1 (of_allTc hc).1).addT1
  18 [] (fun _ => vB true) (fun _ => []) fun _ _ => works16_pure).spec
open Go Go.Eng

/-- What a run takes for granted at `P && (x || b && c)`, and at `x || b && c`. -/
def tX (P x b : Bool) : List Bool := [(fun q => !P || q) (P == true), (fun q => !(P == true) || q) (P == true), (fun q => !(P == true) || q) ((fun q => x || q) (P == true && x == false)), (fun q => !(P == true && x == false) || q) (P == true && x == false), (fun q => !(P == true && x == false) || q) ((fun q => !b || q) (P == true && x == false && b == true)),
  (fun q => !(P == true && x == false && b == true) || q) (P == true && x == false && b == true), (fun q => !(P == true && x == false && b == true) || q) (P == true && x == false && b == true), (fun q => !(P == true && x == false) || q) (P == true && x == false), (fun q => !(P == true && x == false) || q) (P == true && x == false), (fun q => !(P == true) || q) (P == true), (fun q => !(P == true) || q) (P == true)]
def tX0 (x b : Bool) : List Bool := [(fun q => x || q) (x == false), (fun q => !(x == false) || q) (x == false), (fun q => !(x == false) || q) ((fun q => !b || q) (x == false && b == true)), (fun q => !(x == false && b == true) || q) (x == false && b == true), (fun q => !(x == false && b == true) || q) (x == false && b == true), (fun q => !(x == false) || q) (x == false), (fun q => !(x == false) || q) (x == false)]
theorem tX_all (P x b : Bool) : (tX P x b).all (fun c => c) = true := by cases P <;> cases x <;> cases b <;> rfl
theorem tX0_all (x b : Bool) : (tX0 x b).all (fun c => c) = true := by cases x <;> cases b <;> rfl
def orI (x b c : Bool) : Bool := bif x then true else bif b then c else false
def qa1 (s : ByteArray) : Bool := orI ((dmA s).2 != 0) (emV (dmA s).1 == 0) (ByteArray.toList (emT (dmA s).1) == ByteArray.toList s)
def qa2 (s : ByteArray) : Bool := orI ((deA s).2 != 0) (encV (deA s).1 == 0) (ByteArray.toList (encT (deA s).1) == ByteArray.toList s)
def qa3 (s : ByteArray) : Bool := orI ((drA s).2 != 0) (erV (drA s).1 == 0) (ByteArray.toList (erT (drA s).1) == ByteArray.toList s)
def qa4 (s : ByteArray) : Bool := orI ((dmA s).2 == 0) ((dmA s).2 == 4) ((dmA s).1.1 == (0 : Int))
def qP2 (s : ByteArray) : Bool := bif qa1 s then qa2 s else false
def qP3 (s : ByteArray) : Bool := bif qP2 s then qa3 s else false
def qP4 (s : ByteArray) : Bool := bif qP3 s then qa4 s else false
theorem agn_run (s : ByteArray) : ELw.pureRun 9 [vS s] [false] =
    some (vB (qP4 s), tX (qP3 s) ((dmA s).2 == 0) ((dmA s).2 == 4) ++ (tX (qP2 s) ((drA s).2 != 0) (erV (drA s).1 == 0) ++ (tX (qa1 s) ((deA s).2 != 0) (encV (deA s).1 == 0) ++ (tX0 ((dmA s).2 != 0) (emV (dmA s).1 == 0) ++
      [erOk (drA s).1, szk s, !(entV (deA s).1 == 0) || enOk (deA s).1, szk s, emOk (dmA s).1, szk s, true])))) := by kernel_rfl
theorem bl_refl (s : ByteArray) : (ByteArray.toList s == ByteArray.toList s) = true := beq_self_eq_true _
theorem entV_Z : entV eZ = 2 := by decide
theorem msgV_Z : msgV dZ = 2 := by decide
theorem again_law (s : ByteArray) (hs : szk s = true) : PureCall Try.prog 9 [vS s] (vB true) := by
  -- the message
  have m : qa1 s = true ∧ qa4 s = true ∧ emOk (dmA s).1 = true := by
    unfold qa1 qa4 dmA
    cases h4 : mx4 s with
    | true =>
      refine ⟨rfl, rfl, okP_is fun e => ?_⟩
      have e : msgV dZ = 0 := e
      rw [msgV_Z] at e; cases e
    | false =>
      obtain ⟨h1, h2, h3⟩ := msg_again hs h4
      have e1 : emV (dM s) = 0 := by unfold emV; rw [h1]; rfl
      have e2 : emT (dM s) = s := by unfold emT; rw [h1]; exact h3
      refine ⟨?_, rfl, okP_is fun _ => h2⟩
      show orI false (emV (dM s) == 0) (ByteArray.toList (emT (dM s)) == ByteArray.toList s) = true
      rw [e1, e2, bl_refl]; rfl
  have e : qa2 s = true ∧ (!(entV (deA s).1 == 0) || enOk (deA s).1) = true := by
    by_cases h : (deA s).2 = 0
    · obtain ⟨h1, h2, h3, h4, _⟩ := ent_again hs h
      have e1 : encV (eD s) = 0 := by unfold encV; rw [h3]; rfl
      have e2 : encT (eD s) = s := by unfold encT; rw [h3]; exact h2
      unfold qa2
      rw [h, h1, e1, e2, bl_refl, h4, Bool.or_true]
      exact ⟨rfl, rfl⟩
    · have hb : (deA s).1 = eZ := by
        unfold deA at h ⊢
        cases e : eB3 s with
        | true => rfl
        | false => rw [e] at h; exact absurd rfl h
      have hx : ((deA s).2 != 0) = true := bne_iff_ne.2 h
      unfold qa2
      rw [hx, hb, entV_Z]
      exact ⟨rfl, rfl⟩
  have r : qa3 s = true ∧ erOk (drA s).1 = true := by
    unfold qa3 drA
    cases h3 : rB3 s with
    | true =>
      refine ⟨rfl, ?_⟩
      show erOk rRes.dflt = true
      decide
    | false =>
      obtain ⟨h1, h2, h4, h5⟩ := res_again hs h3
      have e1 : erV (rsD s) = 0 := by unfold erV; rw [h1]; rfl
      have e2 : erT (rsD s) = s := by unfold erT; rw [h1]; exact h5
      refine ⟨?_, ?_⟩
      · show orI false (erV (rsD s) == 0) (ByteArray.toList (erT (rsD s)) == ByteArray.toList s) = true
        rw [e1, e2, bl_refl]; rfl
      · show erOk (rsD s) = true
        unfold erOk
        rw [h2, decide_eq_true (Nat.le_trans h4 (by decide))]
        exact Bool.or_true _
  refine PureCall.res (ELw.pure_ok (agn_run s) (allI ?_)) ?_
  · rw [List.all_append, List.all_append, List.all_append, List.all_append, tX_all, tX_all, tX_all, tX0_all]
    simp only [List.all_cons, List.all_nil, hs, m.2.2, e.2, r.2]
    rfl
  · unfold qP4 qP3 qP2
    rw [m.1, m.2.1, e.1, r.1]; rfl
theorem again_lawS (d : dens [.one .str]) (h : WFs [.one .str] d) : PureCall Try.prog 9 (encs [.one .str] d) (vB true) :=
  by
  have h1 := h.1
  simp only [WFp, WF] at h1
  exact again_law d.1 (decide_eq_true (Nat.le_trans h1 (by decide +kernel)))
end Go.Proofs.Ytjplobgambnhjaa
