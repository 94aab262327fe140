/- QuorumBack, its run; no statement. -/
import Derived.Test.YtcigjehfmiiolaaQbk0
set_option linter.unusedVariables false
namespace Go.Proofs.Ytcigjehfmiiolaa
open Go Go.Eng

def ins5 : List Int := [0, 1, 2, 3, 4]
def backB (L : List Int) (r : Int) : Bool := !mayB L ||
  (bif hasI L r then
    (bif chgE L (-1) r == 0 then chgE (chgV L (-1) r) r (-1) == 0 && (chgV (chgV L (-1) r) r (-1) == L && chkI (chgV L (-1) r) == 0) else L.length == 1 && (L.getD 0 0 == r && (chgV L (-1) r).length == 0))
  else (chgE L r (-1) == 0 && (chgE (chgV L r (-1)) (-1) r == 0 && (chgV (chgV L r (-1)) (-1) r == L && chkI (chgV L r (-1)) == 0))))
set_option maxRecDepth 100000 in
theorem back_all : (all32.all fun L => ins5.all fun r => backB L r) = true := by kernel_rfl

def nod5 (n : Int) : Int := IntKind.i64.wrap (n.tmod 5)
theorem nod5_in {n : Int} (h : byteB n = true) : nod5 n ∈ ins5 := by
  simp only [byteB, Bool.and_eq_true, decide_eq_true_eq] at h
  have e : n.tmod 5 = n % 5 := Int.tmod_eq_emod_of_nonneg h.1
  unfold nod5
  rw [e, wrap64 (by omega) (by omega)]
  have : n % 5 = 0 ∨ n % 5 = 1 ∨ n % 5 = 2 ∨ n % 5 = 3 ∨ n % 5 = 4 := by omega
  rcases this with h | h | h | h | h <;> rw [h] <;> decide
abbrev sYY : List PT := [.one cB, .one cB]
theorem byte_of {n : Int} (h : WF cB n) : byteB n = true := by
  have : (0 : Int) ≤ n ∧ n ≤ 255 := h
  simp [byteB, this.1, this.2]
theorem back_law (d : dens sYY) (h : WFs sYY d) : PureCall Try.prog 7 (encs sYY d) (vB true) := by
  obtain ⟨m, n, _⟩ := d
  have hm : byteB m = true := byte_of h.1
  have hn : byteB n = true := byte_of h.2.1
  have hmay := lstM_may hm
  have hb := List.all_eq_true.1 (List.all_eq_true.1 back_all _ (mem32 hmay)) _ (nod5_in hn)
  unfold backB at hb
  rw [hmay, Bool.not_true, Bool.false_or] at hb
  have hl := (may_len hmay).2
  cases h1 : hasI (lstM m) (nod5 n) with
  | true =>
    rw [h1, cond_true] at hb
    cases h2 : chgE (lstM m) (-1) (nod5 n) == 0 with
    | false =>
      rw [h2, cond_false] at hb
      simp only [Bool.and_eq_true, beq_iff_eq] at hb
      obtain ⟨h3, h4, h5⟩ := hb
      refine PureCall.res (EBk.pure_ok (os := [true,true,true,true,true,true,true,true,true,true,true,true,true,true,true,true,true,true,true]) (r := vB true) (cs := [(((((chgV (lstM m) (-1) (nod5 n)).length : Nat) : Int) == 0) == true), (((((chgV (lstM m) (-1) (nod5 n)).length : Nat) : Int) == 0) == true), (((lstM m).getD (Int.toNat 0) 0 == nod5 n) == true), (((lstM m).getD (Int.toNat 0) 0 == nod5 n) == true), (((lstM m).getD (Int.toNat 0) 0 == nod5 n) == true), (((lstM m).getD (Int.toNat 0) 0 == nod5 n) == true), (((((lstM m).length : Nat) : Int) == 1) == true), (((((lstM m).length : Nat) : Int) == 1) == true), (((((lstM m).length : Nat) : Int) == 1) == true), (((((lstM m).length : Nat) : Int) == 1) == true), (inB (0) (lstM m).length), (((((lstM m).length : Nat) : Int) == 1) == true), (((((lstM m).length : Nat) : Int) == 1) == true), ((chgE (lstM m) (-1) (nod5 n) != 0) == true), (hasI (lstM m) (nod5 n) == true), (byteB m)]) (by kernel_rfl) (allI ?_)) rfl
      have h2' : ¬ chgE (lstM m) (-1) (nod5 n) = 0 := by simpa using h2
      have h4' : ∀ hh : 0 < (lstM m).length, (lstM m)[0]'hh = nod5 n := fun hh => by rw [← h4, List.getD_eq_getElem?_getD, List.getElem?_eq_getElem hh]; rfl
      simp [h1, h2', h3, h4', h5, hm, inB]
    | true =>
      rw [h2, cond_true] at hb
      simp only [Bool.and_eq_true, beq_iff_eq] at hb
      obtain ⟨h3, h4, h5⟩ := hb
      refine PureCall.res (EBk.pure_ok (os := [true,false,false,false,false,false,false,false,false,false,false,false,false,false,false,false,false]) (r := vB true) (cs := [(decide (0 = 0)), (decide (false = false)), (decide (chgV (chgV (lstM m) (-1) (nod5 n)) (nod5 n) (-1) = lstM m)), (decide ((lstM m).length ≤ 9223372036854775807)), true, ((chkI (chgV (lstM m) (-1) (nod5 n)) != 0) == false), (((((chgV (chgV (lstM m) (-1) (nod5 n)) (nod5 n) (-1)).length : Nat) : Int) != (((lstM m).length : Nat) : Int)) == false), (((((chgV (chgV (lstM m) (-1) (nod5 n)) (nod5 n) (-1)).length : Nat) : Int) != (((lstM m).length : Nat) : Int)) == false), (((((chgV (chgV (lstM m) (-1) (nod5 n)) (nod5 n) (-1)).length : Nat) : Int) != (((lstM m).length : Nat) : Int)) == false), (((((chgV (chgV (lstM m) (-1) (nod5 n)) (nod5 n) (-1)).length : Nat) : Int) != (((lstM m).length : Nat) : Int)) == false), ((chgE (chgV (lstM m) (-1) (nod5 n)) (nod5 n) (-1) != 0) == false), ((chgE (chgV (lstM m) (-1) (nod5 n)) (nod5 n) (-1) != 0) == false), ((chgE (chgV (lstM m) (-1) (nod5 n)) (nod5 n) (-1) != 0) == false), ((chgE (chgV (lstM m) (-1) (nod5 n)) (nod5 n) (-1) != 0) == false), ((chgE (chgV (lstM m) (-1) (nod5 n)) (nod5 n) (-1) != 0) == false), ((chgE (chgV (lstM m) (-1) (nod5 n)) (nod5 n) (-1) != 0) == false), ((chgE (lstM m) (-1) (nod5 n) != 0) == false), (hasI (lstM m) (nod5 n) == true), (byteB m)]) (by kernel_rfl) (allI ?_)) rfl
      have h2' : chgE (lstM m) (-1) (nod5 n) = 0 := by simpa using h2
      simp [h1, h2', h3, h4, h5, hm, inB]
      omega
  | false =>
    rw [h1, cond_false] at hb
    simp only [Bool.and_eq_true, beq_iff_eq] at hb
    obtain ⟨h2, h3, h4, h5⟩ := hb
    refine PureCall.res (EBk.pure_ok (os := [false,false,false,false,false,false,false,false,false,false,false,false,false,false,false,false,false]) (r := vB true) (cs := [(decide (0 = 0)), (decide (false = false)), (decide (chgV (chgV (lstM m) (nod5 n) (-1)) (-1) (nod5 n) = lstM m)), (decide ((lstM m).length ≤ 9223372036854775807)), true, ((chkI (chgV (lstM m) (nod5 n) (-1)) != 0) == false), (((((chgV (chgV (lstM m) (nod5 n) (-1)) (-1) (nod5 n)).length : Nat) : Int) != (((lstM m).length : Nat) : Int)) == false), (((((chgV (chgV (lstM m) (nod5 n) (-1)) (-1) (nod5 n)).length : Nat) : Int) != (((lstM m).length : Nat) : Int)) == false), (((((chgV (chgV (lstM m) (nod5 n) (-1)) (-1) (nod5 n)).length : Nat) : Int) != (((lstM m).length : Nat) : Int)) == false), (((((chgV (chgV (lstM m) (nod5 n) (-1)) (-1) (nod5 n)).length : Nat) : Int) != (((lstM m).length : Nat) : Int)) == false), ((chgE (chgV (lstM m) (nod5 n) (-1)) (-1) (nod5 n) != 0) == false), ((chgE (chgV (lstM m) (nod5 n) (-1)) (-1) (nod5 n) != 0) == false), ((chgE (chgV (lstM m) (nod5 n) (-1)) (-1) (nod5 n) != 0) == false), ((chgE (chgV (lstM m) (nod5 n) (-1)) (-1) (nod5 n) != 0) == false), ((chgE (chgV (lstM m) (nod5 n) (-1)) (-1) (nod5 n) != 0) == false), ((chgE (chgV (lstM m) (nod5 n) (-1)) (-1) (nod5 n) != 0) == false), ((chgE (lstM m) (nod5 n) (-1) != 0) == false), (hasI (lstM m) (nod5 n) == false), (byteB m)]) (by kernel_rfl) (allI ?_)) rfl
    simp [h1, h2, h3, h4, h5, hm, inB]
    omega
end Go.Proofs.Ytcigjehfmiiolaa
