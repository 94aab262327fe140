/- QuorumMeet, its run; no statement. -/
import Derived.Test.YtcigjehfmiiolaaQmt2
set_option linter.unusedVariables false
namespace Go.Proofs.Ytcigjehfmiiolaa
open Go Go.Eng

theorem most_eq {l : List Int} (h : l.length ≤ 5) : mostI l = ((l.length / 2 + 1 : Nat) : Int) := by
  unfold mostI
  have e : ((l.length : Nat) : Int).tdiv 2 = ((l.length / 2 : Nat) : Int) := by rw [Int.tdiv_eq_ediv_of_nonneg (by omega)]; omega
  rw [e, wrap64 (n := ((l.length / 2 : Nat) : Int)) (by omega) (by omega), wrap64 (by omega) (by omega)]; rfl
theorem win_cnt {l y : List Int} (h : winI l y = true) : l.length / 2 + 1 ≤ cntI l y := by
  unfold winI at h
  simp only [Bool.and_eq_true, decide_eq_true_eq] at h
  rw [most_eq (may_len h.1).2] at h
  omega
theorem cnt_split {l p q : List Int} (h : ∀ x, hasI p x = true → hasI q x = true → False) : cntI l p + cntI l q ≤ l.length := by
  induction l with
  | nil => simp [cntI]
  | cons a r ih =>
    have hx := h a
    unfold cntI at *
    simp only [List.filter_cons, List.length_cons]
    cases h1 : hasI p a <;> cases h2 : hasI q a <;> simp_all <;> omega
theorem any_no {p q : List Int} (h : anyI p q = false) : ∀ x, hasI p x = true → hasI q x = true → False := fun x h1 h2 => by
  have := List.any_eq_false.1 h x (hasI_iff.1 h1)
  exact this h2
theorem meet_same {l p q : List Int} (h1 : winI l p = true) (h2 : winI l q = true) (hl : l.length ≤ 5) : anyI p q = true := by
  cases h : anyI p q with
  | true => rfl
  | false =>
    have := cnt_split (l := l) (any_no h)
    have := win_cnt h1
    have := win_cnt h2
    omega
theorem cnt_sub {l m : List Int} (h : l.Sublist m) (y : List Int) : cntI l y ≤ cntI m y := (h.filter _).length_le
theorem meet_less {l b p q : List Int} (h1 : winI l p = true) (h2 : winI b q = true) (hl : l.length ≤ 5) (hs : b.isSublist l = true) (hb : b.length + 1 = l.length) : anyI p q = true := by
  cases h : anyI p q with
  | true => rfl
  | false =>
    have := cnt_split (l := l) (any_no h)
    have := win_cnt h1
    have := win_cnt h2
    have := cnt_sub (List.isSublist_iff_sublist.1 hs) q
    omega
theorem meet_more {l b p q : List Int} (h1 : winI l p = true) (h2 : winI b q = true) (hl : l.length ≤ 5) (hs : l.isSublist b = true) (hb : l.length + 1 = b.length) : anyI p q = true := by
  cases h : anyI p q with
  | true => rfl
  | false =>
    have := cnt_split (l := b) (any_no h)
    have := win_cnt h1
    have := win_cnt h2
    have := cnt_sub (List.isSublist_iff_sublist.1 hs) p
    omega
def meetB (L : List Int) (r : Int) : Bool := !mayB L || (meetI L L &&
  (bif hasI L r then
    (bif chgE L (-1) r == 0 then hasI (chgV L (-1) r) r == false && (meetI L (chgV L (-1) r) && (meetI (chgV L (-1) r) L && ((chgV L (-1) r).isSublist L && (chgV L (-1) r).length + 1 == L.length))) else L.length == 1 && L.getD 0 0 == r)
  else (chgE L r (-1) == 0 && (hasI (chgV L r (-1)) r == true && (meetI L (chgV L r (-1)) && (meetI (chgV L r (-1)) L && (L.isSublist (chgV L r (-1)) && L.length + 1 == (chgV L r (-1)).length)))))))
set_option maxRecDepth 100000 in
theorem meet_all : (all32.all fun L => ins5.all fun r => meetB L r) = true := by kernel_rfl

abbrev sYYY : List PT := [.one cB, .one cB, .agg (.pair cB (.pair cB .unit))]
theorem meet_law (d : dens sYYY) (h : WFs sYYY d) : PureCall Try.prog 8 (encs sYYY d) (vB true) := by
  obtain ⟨m, x, ⟨y0, y1, _⟩, _⟩ := d
  have hm : byteB m = true := byte_of h.1
  have hx : byteB x = true := byte_of h.2.1
  have hy : byteB y0 = true := byte_of h.2.2.1.1
  have hz : byteB y1 = true := byte_of h.2.2.1.2.1
  have hmay := lstM_may hm
  have hlx : (lstM x).length ≤ 9223372036854775807 := by have := (may_len (lstM_may hx)).2; omega
  have hinb : ∀ k : Int, inB k 2 = (decide (0 ≤ k) && decide (k < 2)) := fun k => by simp [inB]
  have hb := List.all_eq_true.1 (List.all_eq_true.1 meet_all _ (mem32 hmay)) _ (nod5_in hz)
  unfold meetB at hb
  rw [hmay, Bool.not_true, Bool.false_or, Bool.and_eq_true] at hb
  obtain ⟨hmm, hb⟩ := hb
  have hl := (may_len hmay).2
  show PureCall Try.prog _ [vY m, vY x, .agg [.int .u8 y0, .int .u8 y1]] _
  cases h1 : hasI (lstM m) (nod5 y1) with
  | true =>
    rw [h1, cond_true] at hb
    by_cases h2 : chgE (lstM m) (-1) (nod5 y1) = 0
    · rw [beq_iff_eq.2 h2, cond_true] at hb
      simp only [Bool.and_eq_true, beq_iff_eq] at hb
      obtain ⟨h3, h4, h5, h6, h7⟩ := hb
      cases w1 : winI (lstM m) (lstM x) with
      | false => exact EMt2.pure_ok (os := [true, false, false, false, false, false, false, false, false, false, false, false, false, false, false, false, false, false, false, false, false, false, false, true, true]) (r := vB true) (cs := [(meetI (lstM m) (lstM m) == true), (meetI (lstM m) (lstM m) == true), (false == false), (false == false), (false == false), (false == false), (winI (lstM m) (lstM x) == false), (winI (lstM m) (lstM x) == false), (winI (lstM m) (lstM x) == false), (winI (lstM m) (lstM x) == false), (winI (lstM m) (lstM x) == false), (winI (lstM m) (lstM x) == false), (decide (0 = 0)), (decide (false = false)), (decide ((lstM x).length ≤ 9223372036854775807)), (byteB y0), (inB (0) 2), (byteB x), ((!meetI (chgV (lstM m) (-1) (nod5 y1)) (lstM m)) == false), ((!meetI (lstM m) (chgV (lstM m) (-1) (nod5 y1))) == false), ((!meetI (lstM m) (chgV (lstM m) (-1) (nod5 y1))) == false), ((!meetI (lstM m) (chgV (lstM m) (-1) (nod5 y1))) == false), ((!meetI (lstM m) (chgV (lstM m) (-1) (nod5 y1))) == false), ((!meetI (lstM m) (chgV (lstM m) (-1) (nod5 y1))) == false), ((hasI (lstM m) (nod5 y1) == hasI (chgV (lstM m) (-1) (nod5 y1)) (nod5 y1)) == false), ((hasI (lstM m) (nod5 y1) == hasI (chgV (lstM m) (-1) (nod5 y1)) (nod5 y1)) == false), ((hasI (lstM m) (nod5 y1) == hasI (chgV (lstM m) (-1) (nod5 y1)) (nod5 y1)) == false), ((hasI (lstM m) (nod5 y1) == hasI (chgV (lstM m) (-1) (nod5 y1)) (nod5 y1)) == false), ((hasI (lstM m) (nod5 y1) == hasI (chgV (lstM m) (-1) (nod5 y1)) (nod5 y1)) == false), ((chgE (lstM m) (-1) (nod5 y1) != 0) == false), (hasI (lstM m) (nod5 y1) == true), (inB (1) 2), (byteB m)]) (by kernel_rfl) (allI (by simp [hm, hx, hy, hlx, hinb, hmm, h1, h2, h3, h4, h5, w1]))
      | true =>
        cases w2 : winI (lstM m) (lstM y0) with
        | true =>
          have hc := meet_same w1 w2 hl
          exact EMt2.pure_ok (os := [true, false, false, false, false, false, false, false, false, false, false, false, false, true, true, true, true, true, true, true, true, true, true, true, true, true, false, true, true]) (r := vB true) (cs := [(meetI (lstM m) (lstM m) == true), (meetI (lstM m) (lstM m) == true), ((!anyI (lstM x) (lstM y0)) == false), (true == true), (true == true), (true == true), (winI (lstM m) (lstM x) == true), (winI (lstM m) (lstM y0) == true), (winI (lstM m) (lstM x) == true), (winI (lstM m) (lstM y0) == true), (winI (lstM m) (lstM y0) == true), (winI (lstM m) (lstM y0) == true), (winI (lstM m) (lstM x) == true), (winI (lstM m) (lstM x) == true), (winI (lstM m) (lstM x) == true), (winI (lstM m) (lstM x) == true), (decide (0 = 0)), (decide (false = false)), (decide ((lstM x).length ≤ 9223372036854775807)), (byteB y0), (inB (0) 2), (byteB x), ((!meetI (chgV (lstM m) (-1) (nod5 y1)) (lstM m)) == false), ((!meetI (lstM m) (chgV (lstM m) (-1) (nod5 y1))) == false), ((!meetI (lstM m) (chgV (lstM m) (-1) (nod5 y1))) == false), ((!meetI (lstM m) (chgV (lstM m) (-1) (nod5 y1))) == false), ((!meetI (lstM m) (chgV (lstM m) (-1) (nod5 y1))) == false), ((!meetI (lstM m) (chgV (lstM m) (-1) (nod5 y1))) == false), ((hasI (lstM m) (nod5 y1) == hasI (chgV (lstM m) (-1) (nod5 y1)) (nod5 y1)) == false), ((hasI (lstM m) (nod5 y1) == hasI (chgV (lstM m) (-1) (nod5 y1)) (nod5 y1)) == false), ((hasI (lstM m) (nod5 y1) == hasI (chgV (lstM m) (-1) (nod5 y1)) (nod5 y1)) == false), ((hasI (lstM m) (nod5 y1) == hasI (chgV (lstM m) (-1) (nod5 y1)) (nod5 y1)) == false), ((hasI (lstM m) (nod5 y1) == hasI (chgV (lstM m) (-1) (nod5 y1)) (nod5 y1)) == false), ((chgE (lstM m) (-1) (nod5 y1) != 0) == false), (hasI (lstM m) (nod5 y1) == true), (inB (1) 2), (byteB m)]) (by kernel_rfl) (allI (by simp [hm, hx, hy, hlx, hinb, hmm, h1, h2, h3, h4, h5, w1, w2, hc]))
        | false =>
          cases w3 : winI (chgV (lstM m) (-1) (nod5 y1)) (lstM y0) with
          | false => exact EMt2.pure_ok (os := [true, false, false, false, false, false, false, false, false, false, false, false, false, true, true, true, true, false, false, false, true, false, true, false, false, false, false, true, true]) (r := vB true) (cs := [(meetI (lstM m) (lstM m) == true), (meetI (lstM m) (lstM m) == true), (false == false), (winI (chgV (lstM m) (-1) (nod5 y1)) (lstM y0) == false), (winI (chgV (lstM m) (-1) (nod5 y1)) (lstM y0) == false), (winI (chgV (lstM m) (-1) (nod5 y1)) (lstM y0) == false), (winI (lstM m) (lstM x) == true), (winI (lstM m) (lstM y0) == false), (winI (lstM m) (lstM x) == true), (winI (lstM m) (lstM y0) == false), (winI (lstM m) (lstM y0) == false), (winI (lstM m) (lstM y0) == false), (winI (lstM m) (lstM x) == true), (winI (lstM m) (lstM x) == true), (winI (lstM m) (lstM x) == true), (winI (lstM m) (lstM x) == true), (decide (0 = 0)), (decide (false = false)), (decide ((lstM x).length ≤ 9223372036854775807)), (byteB y0), (inB (0) 2), (byteB x), ((!meetI (chgV (lstM m) (-1) (nod5 y1)) (lstM m)) == false), ((!meetI (lstM m) (chgV (lstM m) (-1) (nod5 y1))) == false), ((!meetI (lstM m) (chgV (lstM m) (-1) (nod5 y1))) == false), ((!meetI (lstM m) (chgV (lstM m) (-1) (nod5 y1))) == false), ((!meetI (lstM m) (chgV (lstM m) (-1) (nod5 y1))) == false), ((!meetI (lstM m) (chgV (lstM m) (-1) (nod5 y1))) == false), ((hasI (lstM m) (nod5 y1) == hasI (chgV (lstM m) (-1) (nod5 y1)) (nod5 y1)) == false), ((hasI (lstM m) (nod5 y1) == hasI (chgV (lstM m) (-1) (nod5 y1)) (nod5 y1)) == false), ((hasI (lstM m) (nod5 y1) == hasI (chgV (lstM m) (-1) (nod5 y1)) (nod5 y1)) == false), ((hasI (lstM m) (nod5 y1) == hasI (chgV (lstM m) (-1) (nod5 y1)) (nod5 y1)) == false), ((hasI (lstM m) (nod5 y1) == hasI (chgV (lstM m) (-1) (nod5 y1)) (nod5 y1)) == false), ((chgE (lstM m) (-1) (nod5 y1) != 0) == false), (hasI (lstM m) (nod5 y1) == true), (inB (1) 2), (byteB m)]) (by kernel_rfl) (allI (by simp [hm, hx, hy, hlx, hinb, hmm, h1, h2, h3, h4, h5, w1, w2, w3]))
          | true =>
            have hc := meet_less w1 w3 hl h6 h7
            exact EMt2.pure_ok (os := [true, false, false, false, false, false, false, false, false, false, false, false, false, true, true, true, true, false, false, false, true, false, true, true, true, true, false, true, true]) (r := vB true) (cs := [(meetI (lstM m) (lstM m) == true), (meetI (lstM m) (lstM m) == true), ((!anyI (lstM x) (lstM y0)) == false), (winI (chgV (lstM m) (-1) (nod5 y1)) (lstM y0) == true), (winI (chgV (lstM m) (-1) (nod5 y1)) (lstM y0) == true), (winI (chgV (lstM m) (-1) (nod5 y1)) (lstM y0) == true), (winI (lstM m) (lstM x) == true), (winI (lstM m) (lstM y0) == false), (winI (lstM m) (lstM x) == true), (winI (lstM m) (lstM y0) == false), (winI (lstM m) (lstM y0) == false), (winI (lstM m) (lstM y0) == false), (winI (lstM m) (lstM x) == true), (winI (lstM m) (lstM x) == true), (winI (lstM m) (lstM x) == true), (winI (lstM m) (lstM x) == true), (decide (0 = 0)), (decide (false = false)), (decide ((lstM x).length ≤ 9223372036854775807)), (byteB y0), (inB (0) 2), (byteB x), ((!meetI (chgV (lstM m) (-1) (nod5 y1)) (lstM m)) == false), ((!meetI (lstM m) (chgV (lstM m) (-1) (nod5 y1))) == false), ((!meetI (lstM m) (chgV (lstM m) (-1) (nod5 y1))) == false), ((!meetI (lstM m) (chgV (lstM m) (-1) (nod5 y1))) == false), ((!meetI (lstM m) (chgV (lstM m) (-1) (nod5 y1))) == false), ((!meetI (lstM m) (chgV (lstM m) (-1) (nod5 y1))) == false), ((hasI (lstM m) (nod5 y1) == hasI (chgV (lstM m) (-1) (nod5 y1)) (nod5 y1)) == false), ((hasI (lstM m) (nod5 y1) == hasI (chgV (lstM m) (-1) (nod5 y1)) (nod5 y1)) == false), ((hasI (lstM m) (nod5 y1) == hasI (chgV (lstM m) (-1) (nod5 y1)) (nod5 y1)) == false), ((hasI (lstM m) (nod5 y1) == hasI (chgV (lstM m) (-1) (nod5 y1)) (nod5 y1)) == false), ((hasI (lstM m) (nod5 y1) == hasI (chgV (lstM m) (-1) (nod5 y1)) (nod5 y1)) == false), ((chgE (lstM m) (-1) (nod5 y1) != 0) == false), (hasI (lstM m) (nod5 y1) == true), (inB (1) 2), (byteB m)]) (by kernel_rfl) (allI (by simp [hm, hx, hy, hlx, hinb, hmm, h1, h2, h3, h4, h5, w1, w2, w3, hc]))
    · rw [beq_eq_false_iff_ne.2 h2, cond_false] at hb
      simp only [Bool.and_eq_true, beq_iff_eq] at hb
      obtain ⟨h3, h4⟩ := hb
      have h4' : ∀ hh : 0 < (lstM m).length, (lstM m)[0]'hh = nod5 y1 := fun hh => by rw [← h4, List.getD_eq_getElem?_getD, List.getElem?_eq_getElem hh]; rfl
      have hinb : ∀ (k : Int) (n : Nat), inB k n = (decide (0 ≤ k) && decide (k < n)) := fun k n => by simp [inB]
      cases w1 : winI (lstM m) (lstM x) with
      | false => exact EMt2.pure_ok (os := [true, true, false, false, false, false, false, false, false, false, false, false, false, false, false, false, false, false, false, true, true]) (r := vB true) (cs := [(meetI (lstM m) (lstM m) == true), (meetI (lstM m) (lstM m) == true), (false == false), (false == false), (false == false), (false == false), (winI (lstM m) (lstM x) == false), (winI (lstM m) (lstM x) == false), (winI (lstM m) (lstM x) == false), (winI (lstM m) (lstM x) == false), (winI (lstM m) (lstM x) == false), (winI (lstM m) (lstM x) == false), (decide (0 = 0)), (decide (false = false)), (decide ((lstM x).length ≤ 9223372036854775807)), (byteB y0), (inB (0) 2), (byteB x), (((lstM m).getD (Int.toNat 0) 0 != nod5 y1) == false), (((((lstM m).length : Nat) : Int) != 1) == false), (((((lstM m).length : Nat) : Int) != 1) == false), (((((lstM m).length : Nat) : Int) != 1) == false), (((((lstM m).length : Nat) : Int) != 1) == false), (inB (0) (lstM m).length), (((((lstM m).length : Nat) : Int) != 1) == false), (((((lstM m).length : Nat) : Int) != 1) == false), ((chgE (lstM m) (-1) (nod5 y1) != 0) == true), (hasI (lstM m) (nod5 y1) == true), (inB (1) 2), (byteB m)]) (by kernel_rfl) (allI (by simp [hm, hx, hy, hlx, hinb, hmm, h1, h2, h3, h4', w1]))
      | true =>
        cases w2 : winI (lstM m) (lstM y0) with
        | true =>
          have hc := meet_same w1 w2 hl
          exact EMt2.pure_ok (os := [true, true, false, false, false, false, false, false, false, true, true, true, true, true, true, true, true, true, true, true, true, true, false, true, true]) (r := vB true) (cs := [(meetI (lstM m) (lstM m) == true), (meetI (lstM m) (lstM m) == true), ((!anyI (lstM x) (lstM y0)) == false), (true == true), (true == true), (true == true), (winI (lstM m) (lstM x) == true), (winI (lstM m) (lstM y0) == true), (winI (lstM m) (lstM x) == true), (winI (lstM m) (lstM y0) == true), (winI (lstM m) (lstM y0) == true), (winI (lstM m) (lstM y0) == true), (winI (lstM m) (lstM x) == true), (winI (lstM m) (lstM x) == true), (winI (lstM m) (lstM x) == true), (winI (lstM m) (lstM x) == true), (decide (0 = 0)), (decide (false = false)), (decide ((lstM x).length ≤ 9223372036854775807)), (byteB y0), (inB (0) 2), (byteB x), (((lstM m).getD (Int.toNat 0) 0 != nod5 y1) == false), (((((lstM m).length : Nat) : Int) != 1) == false), (((((lstM m).length : Nat) : Int) != 1) == false), (((((lstM m).length : Nat) : Int) != 1) == false), (((((lstM m).length : Nat) : Int) != 1) == false), (inB (0) (lstM m).length), (((((lstM m).length : Nat) : Int) != 1) == false), (((((lstM m).length : Nat) : Int) != 1) == false), ((chgE (lstM m) (-1) (nod5 y1) != 0) == true), (hasI (lstM m) (nod5 y1) == true), (inB (1) 2), (byteB m)]) (by kernel_rfl) (allI (by simp [hm, hx, hy, hlx, hinb, hmm, h1, h2, h3, h4', w1, w2, hc]))
        | false =>
          exact EMt2.pure_ok (os := [true, true, false, false, false, false, false, false, false, true, true, true, true, false, false, false, true, false, true, false, false, false, false, true, true]) (r := vB true) (cs := [(meetI (lstM m) (lstM m) == true), (meetI (lstM m) (lstM m) == true), (false == false), (winI (lstM m) (lstM y0) == false), (winI (lstM m) (lstM y0) == false), (winI (lstM m) (lstM y0) == false), (winI (lstM m) (lstM x) == true), (winI (lstM m) (lstM y0) == false), (winI (lstM m) (lstM x) == true), (winI (lstM m) (lstM y0) == false), (winI (lstM m) (lstM y0) == false), (winI (lstM m) (lstM y0) == false), (winI (lstM m) (lstM x) == true), (winI (lstM m) (lstM x) == true), (winI (lstM m) (lstM x) == true), (winI (lstM m) (lstM x) == true), (decide (0 = 0)), (decide (false = false)), (decide ((lstM x).length ≤ 9223372036854775807)), (byteB y0), (inB (0) 2), (byteB x), (((lstM m).getD (Int.toNat 0) 0 != nod5 y1) == false), (((((lstM m).length : Nat) : Int) != 1) == false), (((((lstM m).length : Nat) : Int) != 1) == false), (((((lstM m).length : Nat) : Int) != 1) == false), (((((lstM m).length : Nat) : Int) != 1) == false), (inB (0) (lstM m).length), (((((lstM m).length : Nat) : Int) != 1) == false), (((((lstM m).length : Nat) : Int) != 1) == false), ((chgE (lstM m) (-1) (nod5 y1) != 0) == true), (hasI (lstM m) (nod5 y1) == true), (inB (1) 2), (byteB m)]) (by kernel_rfl) (allI (by simp [hm, hx, hy, hlx, hinb, hmm, h1, h2, h3, h4', w1, w2]))
  | false =>
    rw [h1, cond_false] at hb
    simp only [Bool.and_eq_true, beq_iff_eq] at hb
    obtain ⟨h2, h3, h4, h5, h6, h7⟩ := hb
    cases w1 : winI (lstM m) (lstM x) with
    | false => exact EMt2.pure_ok (os := [false, false, false, false, false, false, false, false, false, false, false, false, false, false, false, false, false, false, false, false, false, false, false, true, true]) (r := vB true) (cs := [(meetI (lstM m) (lstM m) == true), (meetI (lstM m) (lstM m) == true), (false == false), (false == false), (false == false), (false == false), (winI (lstM m) (lstM x) == false), (winI (lstM m) (lstM x) == false), (winI (lstM m) (lstM x) == false), (winI (lstM m) (lstM x) == false), (winI (lstM m) (lstM x) == false), (winI (lstM m) (lstM x) == false), (decide (0 = 0)), (decide (false = false)), (decide ((lstM x).length ≤ 9223372036854775807)), (byteB y0), (inB (0) 2), (byteB x), ((!meetI (chgV (lstM m) (nod5 y1) (-1)) (lstM m)) == false), ((!meetI (lstM m) (chgV (lstM m) (nod5 y1) (-1))) == false), ((!meetI (lstM m) (chgV (lstM m) (nod5 y1) (-1))) == false), ((!meetI (lstM m) (chgV (lstM m) (nod5 y1) (-1))) == false), ((!meetI (lstM m) (chgV (lstM m) (nod5 y1) (-1))) == false), ((!meetI (lstM m) (chgV (lstM m) (nod5 y1) (-1))) == false), ((hasI (lstM m) (nod5 y1) == hasI (chgV (lstM m) (nod5 y1) (-1)) (nod5 y1)) == false), ((hasI (lstM m) (nod5 y1) == hasI (chgV (lstM m) (nod5 y1) (-1)) (nod5 y1)) == false), ((hasI (lstM m) (nod5 y1) == hasI (chgV (lstM m) (nod5 y1) (-1)) (nod5 y1)) == false), ((hasI (lstM m) (nod5 y1) == hasI (chgV (lstM m) (nod5 y1) (-1)) (nod5 y1)) == false), ((hasI (lstM m) (nod5 y1) == hasI (chgV (lstM m) (nod5 y1) (-1)) (nod5 y1)) == false), ((chgE (lstM m) (nod5 y1) (-1) != 0) == false), (hasI (lstM m) (nod5 y1) == false), (inB (1) 2), (byteB m)]) (by kernel_rfl) (allI (by simp [hm, hx, hy, hlx, hinb, hmm, h1, h2, h3, h4, h5, w1]))
    | true =>
      cases w2 : winI (lstM m) (lstM y0) with
      | true =>
        have hc := meet_same w1 w2 hl
        exact EMt2.pure_ok (os := [false, false, false, false, false, false, false, false, false, false, false, false, false, true, true, true, true, true, true, true, true, true, true, true, true, true, false, true, true]) (r := vB true) (cs := [(meetI (lstM m) (lstM m) == true), (meetI (lstM m) (lstM m) == true), ((!anyI (lstM x) (lstM y0)) == false), (true == true), (true == true), (true == true), (winI (lstM m) (lstM x) == true), (winI (lstM m) (lstM y0) == true), (winI (lstM m) (lstM x) == true), (winI (lstM m) (lstM y0) == true), (winI (lstM m) (lstM y0) == true), (winI (lstM m) (lstM y0) == true), (winI (lstM m) (lstM x) == true), (winI (lstM m) (lstM x) == true), (winI (lstM m) (lstM x) == true), (winI (lstM m) (lstM x) == true), (decide (0 = 0)), (decide (false = false)), (decide ((lstM x).length ≤ 9223372036854775807)), (byteB y0), (inB (0) 2), (byteB x), ((!meetI (chgV (lstM m) (nod5 y1) (-1)) (lstM m)) == false), ((!meetI (lstM m) (chgV (lstM m) (nod5 y1) (-1))) == false), ((!meetI (lstM m) (chgV (lstM m) (nod5 y1) (-1))) == false), ((!meetI (lstM m) (chgV (lstM m) (nod5 y1) (-1))) == false), ((!meetI (lstM m) (chgV (lstM m) (nod5 y1) (-1))) == false), ((!meetI (lstM m) (chgV (lstM m) (nod5 y1) (-1))) == false), ((hasI (lstM m) (nod5 y1) == hasI (chgV (lstM m) (nod5 y1) (-1)) (nod5 y1)) == false), ((hasI (lstM m) (nod5 y1) == hasI (chgV (lstM m) (nod5 y1) (-1)) (nod5 y1)) == false), ((hasI (lstM m) (nod5 y1) == hasI (chgV (lstM m) (nod5 y1) (-1)) (nod5 y1)) == false), ((hasI (lstM m) (nod5 y1) == hasI (chgV (lstM m) (nod5 y1) (-1)) (nod5 y1)) == false), ((hasI (lstM m) (nod5 y1) == hasI (chgV (lstM m) (nod5 y1) (-1)) (nod5 y1)) == false), ((chgE (lstM m) (nod5 y1) (-1) != 0) == false), (hasI (lstM m) (nod5 y1) == false), (inB (1) 2), (byteB m)]) (by kernel_rfl) (allI (by simp [hm, hx, hy, hlx, hinb, hmm, h1, h2, h3, h4, h5, w1, w2, hc]))
      | false =>
        cases w3 : winI (chgV (lstM m) (nod5 y1) (-1)) (lstM y0) with
        | false => exact EMt2.pure_ok (os := [false, false, false, false, false, false, false, false, false, false, false, false, false, true, true, true, true, false, false, false, true, false, true, false, false, false, false, true, true]) (r := vB true) (cs := [(meetI (lstM m) (lstM m) == true), (meetI (lstM m) (lstM m) == true), (false == false), (winI (chgV (lstM m) (nod5 y1) (-1)) (lstM y0) == false), (winI (chgV (lstM m) (nod5 y1) (-1)) (lstM y0) == false), (winI (chgV (lstM m) (nod5 y1) (-1)) (lstM y0) == false), (winI (lstM m) (lstM x) == true), (winI (lstM m) (lstM y0) == false), (winI (lstM m) (lstM x) == true), (winI (lstM m) (lstM y0) == false), (winI (lstM m) (lstM y0) == false), (winI (lstM m) (lstM y0) == false), (winI (lstM m) (lstM x) == true), (winI (lstM m) (lstM x) == true), (winI (lstM m) (lstM x) == true), (winI (lstM m) (lstM x) == true), (decide (0 = 0)), (decide (false = false)), (decide ((lstM x).length ≤ 9223372036854775807)), (byteB y0), (inB (0) 2), (byteB x), ((!meetI (chgV (lstM m) (nod5 y1) (-1)) (lstM m)) == false), ((!meetI (lstM m) (chgV (lstM m) (nod5 y1) (-1))) == false), ((!meetI (lstM m) (chgV (lstM m) (nod5 y1) (-1))) == false), ((!meetI (lstM m) (chgV (lstM m) (nod5 y1) (-1))) == false), ((!meetI (lstM m) (chgV (lstM m) (nod5 y1) (-1))) == false), ((!meetI (lstM m) (chgV (lstM m) (nod5 y1) (-1))) == false), ((hasI (lstM m) (nod5 y1) == hasI (chgV (lstM m) (nod5 y1) (-1)) (nod5 y1)) == false), ((hasI (lstM m) (nod5 y1) == hasI (chgV (lstM m) (nod5 y1) (-1)) (nod5 y1)) == false), ((hasI (lstM m) (nod5 y1) == hasI (chgV (lstM m) (nod5 y1) (-1)) (nod5 y1)) == false), ((hasI (lstM m) (nod5 y1) == hasI (chgV (lstM m) (nod5 y1) (-1)) (nod5 y1)) == false), ((hasI (lstM m) (nod5 y1) == hasI (chgV (lstM m) (nod5 y1) (-1)) (nod5 y1)) == false), ((chgE (lstM m) (nod5 y1) (-1) != 0) == false), (hasI (lstM m) (nod5 y1) == false), (inB (1) 2), (byteB m)]) (by kernel_rfl) (allI (by simp [hm, hx, hy, hlx, hinb, hmm, h1, h2, h3, h4, h5, w1, w2, w3]))
        | true =>
          have hc := meet_more w1 w3 hl h6 h7
          exact EMt2.pure_ok (os := [false, false, false, false, false, false, false, false, false, false, false, false, false, true, true, true, true, false, false, false, true, false, true, true, true, true, false, true, true]) (r := vB true) (cs := [(meetI (lstM m) (lstM m) == true), (meetI (lstM m) (lstM m) == true), ((!anyI (lstM x) (lstM y0)) == false), (winI (chgV (lstM m) (nod5 y1) (-1)) (lstM y0) == true), (winI (chgV (lstM m) (nod5 y1) (-1)) (lstM y0) == true), (winI (chgV (lstM m) (nod5 y1) (-1)) (lstM y0) == true), (winI (lstM m) (lstM x) == true), (winI (lstM m) (lstM y0) == false), (winI (lstM m) (lstM x) == true), (winI (lstM m) (lstM y0) == false), (winI (lstM m) (lstM y0) == false), (winI (lstM m) (lstM y0) == false), (winI (lstM m) (lstM x) == true), (winI (lstM m) (lstM x) == true), (winI (lstM m) (lstM x) == true), (winI (lstM m) (lstM x) == true), (decide (0 = 0)), (decide (false = false)), (decide ((lstM x).length ≤ 9223372036854775807)), (byteB y0), (inB (0) 2), (byteB x), ((!meetI (chgV (lstM m) (nod5 y1) (-1)) (lstM m)) == false), ((!meetI (lstM m) (chgV (lstM m) (nod5 y1) (-1))) == false), ((!meetI (lstM m) (chgV (lstM m) (nod5 y1) (-1))) == false), ((!meetI (lstM m) (chgV (lstM m) (nod5 y1) (-1))) == false), ((!meetI (lstM m) (chgV (lstM m) (nod5 y1) (-1))) == false), ((!meetI (lstM m) (chgV (lstM m) (nod5 y1) (-1))) == false), ((hasI (lstM m) (nod5 y1) == hasI (chgV (lstM m) (nod5 y1) (-1)) (nod5 y1)) == false), ((hasI (lstM m) (nod5 y1) == hasI (chgV (lstM m) (nod5 y1) (-1)) (nod5 y1)) == false), ((hasI (lstM m) (nod5 y1) == hasI (chgV (lstM m) (nod5 y1) (-1)) (nod5 y1)) == false), ((hasI (lstM m) (nod5 y1) == hasI (chgV (lstM m) (nod5 y1) (-1)) (nod5 y1)) == false), ((hasI (lstM m) (nod5 y1) == hasI (chgV (lstM m) (nod5 y1) (-1)) (nod5 y1)) == false), ((chgE (lstM m) (nod5 y1) (-1) != 0) == false), (hasI (lstM m) (nod5 y1) == false), (inB (1) 2), (byteB m)]) (by kernel_rfl) (allI (by simp [hm, hx, hy, hlx, hinb, hmm, h1, h2, h3, h4, h5, w1, w2, w3, hc]))
end Go.Proofs.Ytcigjehfmiiolaa
