/- A result that is read of bytes is laid as these bytes (plain); no statement. -/
import Derived.Test.YtkpehdhkhmomoaaDoorDag
import Derived.Test.YtkpehdhkhmomoaaDoorDrs7
set_option linter.unusedVariables false
namespace Go.Proofs.YtkpehdhkhmomoaaDoor
open Go Go.Eng

def resBy (er : Int) (fo : Bool) (row val : ByteArray) (ver : Int) : ByteArray := nS (wU er) ++ (fS fo ++ (tS row ++ (tS val ++ nS ver)))
theorem bif_split {a b : Bool} (h : (bif a then b else false) = true) : a = true ∧ b = true := by
  cases a with
  | true => exact ⟨rfl, h⟩
  | false => cases h
theorem res_again {s : ByteArray} (hs : szk s = true) (h : resB s = false) : s = resBy (drV s).1 (drV s).2.1 (drV s).2.2.1 (drV s).2.2.2.1 (drV s).2.2.2.2.1 ∧ resOk (drV s).1 (drV s).2.2.1 (drV s).2.2.2.1 (drV s).2.2.2.2.1 = true ∧ uOk (drV s).2.2.2.2.1 = true := by
  unfold resB at h
  cases ha : resA s with
  | true => rw [ha] at h; cases h
  | false =>
    rw [ha, cond_false] at h
    have hok : resOk (IntKind.i64.wrap (numV s)) (tv (uc2 s) 65536) (tv (uc3 s) 65536) (numV (uc4 s)) = true := by
      cases hx : resOk (IntKind.i64.wrap (numV s)) (tv (uc2 s) 65536) (tv (uc3 s) 65536) (numV (uc4 s)) with
      | true => rfl
      | false => rw [hx] at h; cases h
    unfold resA at ha
    have hd : ud5 true s = true := by
      cases hx : ud5 true s with
      | true => rfl
      | false => rw [hx] at ha; cases ha
    rw [hd, Bool.not_true, cond_false, decide_eq_false_iff_not] at ha
    have h0 : (uc5 s).size = 0 := by
      omega
    unfold ud5 at hd
    obtain ⟨hd, x5⟩ := bif_split hd
    obtain ⟨hd, g5⟩ := bif_split hd
    unfold ud4 at hd
    obtain ⟨hd, g4⟩ := bif_split hd
    unfold ud3 at hd
    obtain ⟨hd, g3⟩ := bif_split hd
    unfold ud2 at hd
    obtain ⟨hd, x2⟩ := bif_split hd
    obtain ⟨hd, g2⟩ := bif_split hd
    unfold ud1 at hd
    obtain ⟨hd, x1⟩ := bif_split hd
    obtain ⟨hd, g1⟩ := bif_split hd
    have x1 := of_decide_eq_true x1
    have x2 := of_decide_eq_true x2
    obtain ⟨b1, _⟩ := nb_again g1
    have v0 := numV_ge s
    have w1 : IntKind.i64.wrap (numV s) = numV s := wrap64 (by omega) (by omega)
    have w2 : wU (numV s) = numV s := by unfold wU; exact wrapU64 (by omega) (by omega)
    have b2 := fb_again g2 x2
    have b3 := (tb_again (uz2 hs) (by omega) g3).1
    have b4 := (tb_again (uz3 hs) (by omega) g4).1
    obtain ⟨b5, u5⟩ := nb_again g5
    have e5 : nr (uc4 s) = ByteArray.mk #[] := by
      have : uc5 s = ByteArray.mk #[] := ByteArray.ext (Array.ext' (List.eq_nil_of_length_eq_zero (by rw [Array.length_toList]; exact h0)))
      exact this
    unfold drV
    dsimp only
    refine ⟨?_, hok, u5⟩
    show s = resBy (IntKind.i64.wrap (numV s)) (yv (uc1 s) == 1) (tv (uc2 s) 65536) (tv (uc3 s) 65536) (numV (uc4 s))
    unfold resBy
    have c4 : nS (numV (uc4 s)) = uc4 s := by
      have := b5; rw [e5] at this
      have z : nS (numV (uc4 s)) ++ ByteArray.mk #[] = nS (numV (uc4 s)) := by
        apply ByteArray.ext; simp [ByteArray.data_append]
      rw [z] at this; exact this.symm
    have c3 : tS (tv (uc3 s) 65536) ++ uc4 s = uc3 s := b4.symm
    have c2 : tS (tv (uc2 s) 65536) ++ uc3 s = uc2 s := b3.symm
    have c1 : fS (yv (uc1 s) == 1) ++ uc2 s = uc1 s := b2.symm
    rw [w1, w2, c4, c3, c2, c1]
    exact b1
end Go.Proofs.YtkpehdhkhmomoaaDoor
