/- SessionLooks, its run; no statement. -/
import Derived.Test.YtkpehdhkhmomoaaDoorSlc
set_option linter.unusedVariables false
set_option linter.unusedSimpArgs false
namespace Go.Proofs.YtkpehdhkhmomoaaDoor
open Go Go.Eng

def mn (c : Int) (b : ByteArray) : Int := if c < ((b.size : Nat) : Int) then c else ((b.size : Nat) : Int)
theorem mn_ok {c : Int} (hc : 0 ≤ c) (b : ByteArray) : 0 ≤ mn c b ∧ mn c b ≤ ((b.size : Nat) : Int) ∧ mn c b ≤ c := by unfold mn; split <;> omega
def cutS (s : ByteArray) : ByteArray := s.extract (Int.toNat 0) (mn 3000 s).toNat
theorem cutS_size (s : ByteArray) : (cutS s).size ≤ 3000 := by
  have m1 := mn_ok (show (0 : Int) ≤ 3000 by decide) s
  unfold cutS
  rw [ByteArray.size_extract]
  omega
theorem baB (b : ByteArray) : (b == b) = true := by
  first | exact beq_self_eq_true b | exact decide_eq_true rfl | (cases b; exact beq_self_eq_true (α := Array UInt8) _)
theorem looks_law (d : dens [.one .str, .one cU, .one cI]) (h : WFs [.one .str, .one cU, .one cI] d) : PureCall Tryd.prog 3 (encs [.one .str, .one cU, .one cI] d) (vB true) := by
  obtain ⟨s, n, c, _⟩ := d
  have m1 := mn_ok (show (0 : Int) ≤ 3000 by decide) s
  have c1 : decide (((0 : Int) ≤ 0 ∧ ((0 : Int) ≤ mn 3000 s ∧ mn 3000 s ≤ ((s.size : Nat) : Int)))) = true := decide_eq_true ⟨by omega, by omega, by omega⟩
  have c2 : decide ((cutS s).size ≤ 3000) = true := decide_eq_true (cutS_size s)
  have b1 : ((colV c).toList == (colV c).toList) = true := beq_self_eq_true _
  show PureCall Tryd.prog _ [vS s, vU n, vI c] _
  refine ESlw.pure_ok (os := [true, true, true, true, true, true, true, true, true, true, true, true, true, true, true, true, true, true, true, true]) (cs := (fun X : rRes.den × Bool × Int => [(((colV c).toList == (colV c).toList) == true), (((colV c).toList == (colV c).toList) == true), ((X.snd.snd == X.snd.snd) == true), ((X.snd.snd == X.snd.snd) == true), ((X.snd.snd == X.snd.snd) == true), ((X.snd.snd == X.snd.snd) == true), ((X.snd.snd == X.snd.snd) == true), ((X.snd.snd == X.snd.snd) == true), ((X.snd.fst == X.snd.fst) == true), ((X.snd.fst == X.snd.fst) == true), ((X.snd.fst == X.snd.fst) == true), ((X.snd.fst == X.snd.fst) == true), ((X.fst.fst == X.fst.fst && (X.fst.snd.fst == X.fst.snd.fst && (X.fst.snd.snd.fst == X.fst.snd.snd.fst && (X.fst.snd.snd.snd.fst == X.fst.snd.snd.snd.fst && (X.fst.snd.snd.snd.snd.fst == X.fst.snd.snd.snd.snd.fst && true))))) == true), ((X.fst.fst == X.fst.fst && (X.fst.snd.fst == X.fst.snd.fst && (X.fst.snd.snd.fst == X.fst.snd.snd.fst && (X.fst.snd.snd.snd.fst == X.fst.snd.snd.snd.fst && (X.fst.snd.snd.snd.snd.fst == X.fst.snd.snd.snd.snd.fst && true))))) == true), ((X.fst.fst == X.fst.fst && (X.fst.snd.fst == X.fst.snd.fst && (X.fst.snd.snd.fst == X.fst.snd.snd.fst && (X.fst.snd.snd.snd.fst == X.fst.snd.snd.snd.fst && (X.fst.snd.snd.snd.snd.fst == X.fst.snd.snd.snd.snd.fst && true))))) == true), ((X.fst.fst == X.fst.fst && (X.fst.snd.fst == X.fst.snd.fst && (X.fst.snd.snd.fst == X.fst.snd.snd.fst && (X.fst.snd.snd.snd.fst == X.fst.snd.snd.snd.fst && (X.fst.snd.snd.snd.snd.fst == X.fst.snd.snd.snd.snd.fst && true))))) == true), (decide ((cutS s).size ≤ 3000)), (decide ((cutS s).size ≤ 3000)), (decide ((0 : Int) ≤ 0 ∧ ((0 : Int) ≤ mn 3000 s) ∧ (mn 3000 s) ≤ ((s.size : Nat) : Int)))]) (lookW (cutS s) (nr (cutS s)) n)) (by kernel_rfl) (allI ?_)
  generalize lookW (cutS s) (nr (cutS s)) n = X
  obtain ⟨⟨e, f, r, v, w, _⟩, a, b⟩ := X
  simp only [c1, c2, b1, baB, beq_self_eq_true, Bool.and_self, Bool.and_true, List.all_cons, List.all_nil]
end Go.Proofs.YtkpehdhkhmomoaaDoor
