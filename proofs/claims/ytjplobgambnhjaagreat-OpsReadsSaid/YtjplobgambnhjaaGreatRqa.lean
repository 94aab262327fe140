/- The document's reader: the environment; no statement. -/
import Derived.Test.YtjplobgambnhjaaGreatTto
import Derived.Test.YtjplobgambnhjaaGreatRda
set_option linter.unusedVariables false
set_option linter.unusedSimpArgs false
namespace Go.Proofs.YtjplobgambnhjaaGreat
open Go Go.Eng
noncomputable def ERt : Env Tryz.prog := E0.addT1 102 [.one .str] (fun d => tupN (numV d.1) (numN d.1)) (fun _ => []) fun d _ => take_number d.1
open Go Go.Eng

theorem nr_zero {s : ByteArray} (h : numN s = 0) : nr s = s := by
  unfold nr; rw [h]; exact ByteArray.extract_zero_size
theorem rnrd_heap (s : ByteArray) : HeapCall Tryz.prog 76 [.one (.ptr 0 0)] [.cells [.str s]] (tupB (.int .u64 (numV s)) (nb s)) [.cells [.str (nr s)]] := by
  have hg := numN_ge s; have hl := numN_le s
  have n1 : decide (numN s > ((s.size : Nat) : Int)) = false := decide_eq_false (by omega)
  have n2 : decide (numN s < 0) = false := decide_eq_false (by omega)
  have n3 : decide ((0 : Int) ≤ 0 ∧ 0 ≤ numN s ∧ numN s ≤ ((s.size : Nat) : Int)) = true := decide_eq_true (by omega)
  have n4 : decide (0 ≤ numN s ∧ numN s ≤ ((s.size : Nat) : Int) ∧ ((s.size : Nat) : Int) ≤ ((s.size : Nat) : Int)) = true := decide_eq_true (by omega)
  cases h1 : (numN s == 0 : Bool) with
  | true =>
    first | exact absurd (n1.symm.trans (by assumption)) Bool.false_ne_true | exact byRead (ERt.heap_ok (os := [true]) (r := (.tup [(false, [(.int .u64 (0))]), (false, [(.bool false)])])) (hp' := [(.cells [(.str s)])]) (cs := [(numN s == 0) == true]) (by kernel_rfl) (allI (by simp only [n1, n2, n3, n4, h1]; rfl))) (by simp only [nb, h1]; first | rfl | (rw [numV_zero (eq_of_beq (by assumption))]; rfl)) (by first | rfl | (rw [nr_zero (eq_of_beq (by assumption))]))
  | false =>
    first | exact absurd (n1.symm.trans (by assumption)) Bool.false_ne_true | exact byRead (ERt.heap_ok (os := [false]) (r := (.tup [(false, [(.int .u64 (numV s))]), (false, [(.bool true)])])) (hp' := [(.cells [(.str (s.extract (numN s).toNat (((s.size : Nat) : Int)).toNat))])]) (cs := [decide (0 ≤ numN s ∧ numN s ≤ ((s.size : Nat) : Int) ∧ ((s.size : Nat) : Int) ≤ ((s.size : Nat) : Int)), (numN s == 0) == false]) (by kernel_rfl) (allI (by simp only [n1, n2, n3, n4, h1]; rfl))) (by simp only [nb, h1]; first | rfl | (rw [numV_zero (eq_of_beq (by assumption))]; rfl)) (by first | rfl | (rw [nr_zero (eq_of_beq (by assumption))]))
theorem rbrd_heap (s : ByteArray) : HeapCall Tryz.prog 77 [.one (.ptr 0 0)] [.cells [.str s]] (tupB (.int .u8 (yv s)) (yb s)) [.cells [.str (yr s)]] := by
  have b1 : decide (1 > ((s.size : Nat) : Int)) = false → inB 0 (s.extract (Int.toNat 0) (Int.toNat 1)).size = true := fun h => by
    have h := of_decide_eq_false h
    rw [ByteArray.size_extract]
    have e0 : Int.toNat 0 = 0 := rfl
    have e1 : Int.toNat 1 = 1 := rfl
    exact inB_of (by omega) (by omega)
  have b2 : decide (1 > ((s.size : Nat) : Int)) = false → decide ((0 : Int) ≤ 1 ∧ 1 ≤ ((s.size : Nat) : Int) ∧ ((s.size : Nat) : Int) ≤ ((s.size : Nat) : Int)) = true := fun h => by
    have h := of_decide_eq_false h
    exact decide_eq_true (by omega)
  have b3 : decide (1 > ((s.size : Nat) : Int)) = false → decide ((0 : Int) ≤ 0 ∧ (0 : Int) ≤ 1 ∧ 1 ≤ ((s.size : Nat) : Int)) = true := fun h => by
    have h := of_decide_eq_false h
    exact decide_eq_true (by omega)
  cases h1 : (decide (1 > ((s.size : Nat) : Int)) : Bool) with
  | true =>
    exact byRead (ERt.heap_ok (os := [false, false, false, false, false, false, false, false, true, true]) (r := (.tup [(false, [(.int .u8 (0))]), (false, [(.bool false)])])) (hp' := [(.cells [(.str s)])]) (cs := [(!false) == true, decide (1 > ((s.size : Nat) : Int)) == true, decide ((1 : Int) < 0) == false, decide ((1 : Int) < 0) == false, decide ((1 : Int) < 0) == false, decide ((1 : Int) < 0) == false, decide ((1 : Int) < 0) == false, decide ((1 : Int) < 0) == false, decide ((1 : Int) < 0) == false, decide ((1 : Int) < 0) == false]) (by kernel_rfl) (allI (by first | (simp only [h1]; rfl) | (simp only [b1 (by assumption), b2 (by assumption), b3 (by assumption), h1]; rfl)))) (by simp only [yb, yv, h1]; rfl) (by simp only [yb, yr, h1]; rfl)
  | false =>
    exact byRead (ERt.heap_ok (os := [false, false, false, false, false, false, false, false, false, false]) (r := (.tup [(false, [(.int .u8 (byteAt (s.extract (Int.toNat 0) (Int.toNat 1)) (Int.toNat 0)))]), (false, [(.bool true)])])) (hp' := [(.cells [(.str (s.extract (Int.toNat 1) (((s.size : Nat) : Int)).toNat))])]) (cs := [inB 0 (s.extract (Int.toNat 0) (Int.toNat 1)).size, (!true) == false, decide ((0 : Int) ≤ 1 ∧ 1 ≤ ((s.size : Nat) : Int) ∧ ((s.size : Nat) : Int) ≤ ((s.size : Nat) : Int)), decide ((0 : Int) ≤ 0 ∧ (0 : Int) ≤ 1 ∧ 1 ≤ ((s.size : Nat) : Int)), decide (1 > ((s.size : Nat) : Int)) == false, decide ((1 : Int) < 0) == false, decide ((1 : Int) < 0) == false, decide ((1 : Int) < 0) == false, decide ((1 : Int) < 0) == false, decide ((1 : Int) < 0) == false, decide ((1 : Int) < 0) == false, decide ((1 : Int) < 0) == false, decide ((1 : Int) < 0) == false]) (by kernel_rfl) (allI (by first | (simp only [h1]; rfl) | (simp only [b1 (by assumption), b2 (by assumption), b3 (by assumption), h1]; rfl)))) (by simp only [yb, yv, h1]; rfl) (by simp only [yb, yr, h1]; rfl)
theorem rtrd_heap (s : ByteArray) (m : Int) (hm : 0 ≤ m) (hs : szk s = true) : HeapCall Tryz.prog 78 [.one (.ptr 0 0), vI m] [.cells [.str s]] (tupB (.str (tv s m)) (tb s m)) [.cells [.str (tr s m)]] := by
  have hs := of_decide_eq_true hs
  have hg := numN_ge s; have hl := numN_le s; have hv := numV_ge s
  have q2 : decide (m < 0) = false := decide_eq_false (by omega)
  have q0 : decide (numV s > IntKind.u64.wrap (IntKind.i64.wrap (((s.size : Nat) : Int) - numN s))) = false → numV s ≤ ((s.size : Nat) : Int) - numN s := fun h => by
    have h := of_decide_eq_false h
    rw [wrap64 (by omega) (by omega), wrapU64 (by omega) (by omega)] at h
    omega
  have qb : decide (numV s > IntKind.u64.wrap (IntKind.i64.wrap (((s.size : Nat) : Int) - numN s))) = false → IntKind.i64.wrap (numN s + IntKind.i64.wrap (numV s)) = numN s + numV s := fun h => by
    have := q0 h
    rw [wrap64 (n := numV s) (by omega) (by omega), wrap64 (by omega) (by omega)]
  have q5 : decide (numV s > IntKind.u64.wrap (IntKind.i64.wrap (((s.size : Nat) : Int) - numN s))) = false → (numN s == 0) = false → (IntKind.i64.wrap (numN s + IntKind.i64.wrap (numV s)) == 0) = false := fun h h1 => by
    have h1 : numN s ≠ 0 := beq_eq_false_iff_ne.1 h1
    rw [qb h]; exact beq_eq_false_iff_ne.2 (by omega)
  have q6 : decide (numV s > IntKind.u64.wrap (IntKind.i64.wrap (((s.size : Nat) : Int) - numN s))) = false → decide (0 ≤ numN s ∧ numN s ≤ IntKind.i64.wrap (numN s + IntKind.i64.wrap (numV s)) ∧ IntKind.i64.wrap (numN s + IntKind.i64.wrap (numV s)) ≤ ((s.size : Nat) : Int)) = true := fun h => by
    have := q0 h
    rw [qb h]; exact decide_eq_true (by omega)
  have q8 : decide (numV s > IntKind.u64.wrap (IntKind.i64.wrap (((s.size : Nat) : Int) - numN s))) = false → decide (0 ≤ IntKind.i64.wrap (numN s + IntKind.i64.wrap (numV s)) ∧ IntKind.i64.wrap (numN s + IntKind.i64.wrap (numV s)) ≤ ((s.size : Nat) : Int) ∧ ((s.size : Nat) : Int) ≤ ((s.size : Nat) : Int)) = true := fun h => by
    have := q0 h
    rw [qb h]; exact decide_eq_true (by omega)
  have qr : decide (numV s > IntKind.u64.wrap (IntKind.i64.wrap (((s.size : Nat) : Int) - numN s))) = false → s.extract (IntKind.i64.wrap (numN s + IntKind.i64.wrap (numV s))).toNat (((s.size : Nat) : Int)).toNat = s.extract ((numN s).toNat + (numV s).toNat) s.size := fun h => by
    rw [qb h, Int.toNat_add hg hv]; rfl
  have qv : decide (numV s > IntKind.u64.wrap (IntKind.i64.wrap (((s.size : Nat) : Int) - numN s))) = false → s.extract (numN s).toNat (IntKind.i64.wrap (numN s + IntKind.i64.wrap (numV s))).toNat = s.extract (numN s).toNat ((numN s).toNat + (numV s).toNat) := fun h => by
    rw [qb h, Int.toNat_add hg hv]
  cases h1 : (numN s == 0 : Bool) with
  | true =>
    first | exact absurd (q2.symm.trans (by assumption)) Bool.false_ne_true | exact absurd ((q5 (by assumption) (by assumption)).symm.trans (by assumption)) Bool.false_ne_true | exact byRead (ERt.heap_ok (os := [true, true, true, true, true, true, true, true, true]) (r := (.tup [(false, [(.str ((ByteArray.mk #[])))]), (false, [(.bool false)])])) (hp' := [(.cells [(.str s)])]) (cs := [true == true, (numN s == 0) == true, (numN s == 0) == true, (numN s == 0) == true, (numN s == 0) == true, (numN s == 0) == true, (numN s == 0) == true, (numN s == 0) == true, (numN s == 0) == true]) (by kernel_rfl) (allI (by simp only [q2, h1]; rfl))) (by simp only [tv, tb, nb, h1, Bool.not_true, Bool.not_false, Bool.and_false, Bool.and_true, cond_false, cond_true]; try rfl) (by simp only [tr, tb, nb, h1, Bool.not_true, Bool.not_false, Bool.and_false, Bool.and_true, cond_false, cond_true]; try rfl) | exact byRead (ERt.heap_ok (os := [true, true, true, true, true, true, true, true, true]) (r := (.tup [(false, [(.str ((ByteArray.mk #[])))]), (false, [(.bool false)])])) (hp' := [(.cells [(.str s)])]) (cs := [true == true, (numN s == 0) == true, (numN s == 0) == true, (numN s == 0) == true, (numN s == 0) == true, (numN s == 0) == true, (numN s == 0) == true, (numN s == 0) == true, (numN s == 0) == true]) (by kernel_rfl) (allI (by simp only [q2, q6 (by assumption), q8 (by assumption), h1]; rfl))) (by rw [qv (by assumption)]; simp only [tv, tb, nb, h1, Bool.not_true, Bool.not_false, Bool.and_false, Bool.and_true, cond_false, cond_true]; try rfl) (by rw [qr (by assumption)]; simp only [tr, tb, nb, h1, Bool.not_true, Bool.not_false, Bool.and_false, Bool.and_true, cond_false, cond_true]; try rfl)
  | false =>
    cases h2 : (decide (numV s > IntKind.u64.wrap (IntKind.i64.wrap (((s.size : Nat) : Int) - numN s))) : Bool) with
    | true =>
      first | exact absurd (q2.symm.trans (by assumption)) Bool.false_ne_true | exact absurd ((q5 (by assumption) (by assumption)).symm.trans (by assumption)) Bool.false_ne_true | exact byRead (ERt.heap_ok (os := [false, false, false, false, false, false, false, false, true, true, true, true]) (r := (.tup [(false, [(.str ((ByteArray.mk #[])))]), (false, [(.bool false)])])) (hp' := [(.cells [(.str s)])]) (cs := [true == true, decide (numV s > IntKind.u64.wrap (IntKind.i64.wrap (((s.size : Nat) : Int) - numN s))) == true, decide (numV s > IntKind.u64.wrap (IntKind.i64.wrap (((s.size : Nat) : Int) - numN s))) == true, decide (numV s > IntKind.u64.wrap (IntKind.i64.wrap (((s.size : Nat) : Int) - numN s))) == true, (numN s == 0) == false, (numN s == 0) == false, (numN s == 0) == false, (numN s == 0) == false, (numN s == 0) == false, (numN s == 0) == false, (numN s == 0) == false, (numN s == 0) == false]) (by kernel_rfl) (allI (by simp only [q2, h1, h2]; rfl))) (by simp only [tv, tb, nb, h1, h2, Bool.not_true, Bool.not_false, Bool.and_false, Bool.and_true, cond_false, cond_true]; try rfl) (by simp only [tr, tb, nb, h1, h2, Bool.not_true, Bool.not_false, Bool.and_false, Bool.and_true, cond_false, cond_true]; try rfl) | exact byRead (ERt.heap_ok (os := [false, false, false, false, false, false, false, false, true, true, true, true]) (r := (.tup [(false, [(.str ((ByteArray.mk #[])))]), (false, [(.bool false)])])) (hp' := [(.cells [(.str s)])]) (cs := [true == true, decide (numV s > IntKind.u64.wrap (IntKind.i64.wrap (((s.size : Nat) : Int) - numN s))) == true, decide (numV s > IntKind.u64.wrap (IntKind.i64.wrap (((s.size : Nat) : Int) - numN s))) == true, decide (numV s > IntKind.u64.wrap (IntKind.i64.wrap (((s.size : Nat) : Int) - numN s))) == true, (numN s == 0) == false, (numN s == 0) == false, (numN s == 0) == false, (numN s == 0) == false, (numN s == 0) == false, (numN s == 0) == false, (numN s == 0) == false, (numN s == 0) == false]) (by kernel_rfl) (allI (by simp only [q2, q6 (by assumption), q8 (by assumption), h1, h2]; rfl))) (by rw [qv (by assumption)]; simp only [tv, tb, nb, h1, h2, Bool.not_true, Bool.not_false, Bool.and_false, Bool.and_true, cond_false, cond_true]; try rfl) (by rw [qr (by assumption)]; simp only [tr, tb, nb, h1, h2, Bool.not_true, Bool.not_false, Bool.and_false, Bool.and_true, cond_false, cond_true]; try rfl)
    | false =>
      cases h3 : (decide (m < 0) : Bool) with
      | true =>
        first | exact absurd (q2.symm.trans (by assumption)) Bool.false_ne_true | exact absurd ((q5 (by assumption) (by assumption)).symm.trans (by assumption)) Bool.false_ne_true | exact byRead (ERt.heap_ok (os := [false, false, false, false, false, false, false, false, false, false, false, true, true, true, true, true, true, true]) (r := (.tup [(false, [(.str ((ByteArray.mk #[])))]), (false, [(.bool false)])])) (hp' := [(.cells [(.str s)])]) (cs := [(0 == 0) == true, true == true, decide (m < 0) == true, decide (m < 0) == true, decide (m < 0) == true, decide (m < 0) == true, decide (m < 0) == true, decide (numV s > IntKind.u64.wrap (IntKind.i64.wrap (((s.size : Nat) : Int) - numN s))) == false, decide (numV s > IntKind.u64.wrap (IntKind.i64.wrap (((s.size : Nat) : Int) - numN s))) == false, decide (numV s > IntKind.u64.wrap (IntKind.i64.wrap (((s.size : Nat) : Int) - numN s))) == false, (numN s == 0) == false, (numN s == 0) == false, (numN s == 0) == false, (numN s == 0) == false, (numN s == 0) == false, (numN s == 0) == false, (numN s == 0) == false, (numN s == 0) == false]) (by kernel_rfl) (allI (by simp only [q2, h1, h2, h3]; rfl))) (by simp only [tv, tb, nb, h1, h2, h3, Bool.not_true, Bool.not_false, Bool.and_false, Bool.and_true, cond_false, cond_true]; try rfl) (by simp only [tr, tb, nb, h1, h2, h3, Bool.not_true, Bool.not_false, Bool.and_false, Bool.and_true, cond_false, cond_true]; try rfl) | exact byRead (ERt.heap_ok (os := [false, false, false, false, false, false, false, false, false, false, false, true, true, true, true, true, true, true]) (r := (.tup [(false, [(.str ((ByteArray.mk #[])))]), (false, [(.bool false)])])) (hp' := [(.cells [(.str s)])]) (cs := [(0 == 0) == true, true == true, decide (m < 0) == true, decide (m < 0) == true, decide (m < 0) == true, decide (m < 0) == true, decide (m < 0) == true, decide (numV s > IntKind.u64.wrap (IntKind.i64.wrap (((s.size : Nat) : Int) - numN s))) == false, decide (numV s > IntKind.u64.wrap (IntKind.i64.wrap (((s.size : Nat) : Int) - numN s))) == false, decide (numV s > IntKind.u64.wrap (IntKind.i64.wrap (((s.size : Nat) : Int) - numN s))) == false, (numN s == 0) == false, (numN s == 0) == false, (numN s == 0) == false, (numN s == 0) == false, (numN s == 0) == false, (numN s == 0) == false, (numN s == 0) == false, (numN s == 0) == false]) (by kernel_rfl) (allI (by simp only [q2, q6 (by assumption), q8 (by assumption), h1, h2, h3]; rfl))) (by rw [qv (by assumption)]; simp only [tv, tb, nb, h1, h2, h3, Bool.not_true, Bool.not_false, Bool.and_false, Bool.and_true, cond_false, cond_true]; try rfl) (by rw [qr (by assumption)]; simp only [tr, tb, nb, h1, h2, h3, Bool.not_true, Bool.not_false, Bool.and_false, Bool.and_true, cond_false, cond_true]; try rfl)
      | false =>
        cases h4 : (decide (numV s > IntKind.u64.wrap m) : Bool) with
        | true =>
          first | exact absurd (q2.symm.trans (by assumption)) Bool.false_ne_true | exact absurd ((q5 (by assumption) (by assumption)).symm.trans (by assumption)) Bool.false_ne_true | exact byRead (ERt.heap_ok (os := [false, false, false, false, false, false, false, false, false, false, false, false, false, false, false, false, true, true]) (r := (.tup [(false, [(.str ((ByteArray.mk #[])))]), (false, [(.bool false)])])) (hp' := [(.cells [(.str s)])]) (cs := [(0 == 0) == true, decide (numV s > IntKind.u64.wrap m) == true, decide (m < 0) == false, decide (m < 0) == false, decide (m < 0) == false, decide (m < 0) == false, decide (m < 0) == false, decide (numV s > IntKind.u64.wrap (IntKind.i64.wrap (((s.size : Nat) : Int) - numN s))) == false, decide (numV s > IntKind.u64.wrap (IntKind.i64.wrap (((s.size : Nat) : Int) - numN s))) == false, decide (numV s > IntKind.u64.wrap (IntKind.i64.wrap (((s.size : Nat) : Int) - numN s))) == false, (numN s == 0) == false, (numN s == 0) == false, (numN s == 0) == false, (numN s == 0) == false, (numN s == 0) == false, (numN s == 0) == false, (numN s == 0) == false, (numN s == 0) == false]) (by kernel_rfl) (allI (by simp only [q2, h1, h2, h3, h4]; rfl))) (by simp only [tv, tb, nb, h1, h2, h3, h4, Bool.not_true, Bool.not_false, Bool.and_false, Bool.and_true, cond_false, cond_true]; try rfl) (by simp only [tr, tb, nb, h1, h2, h3, h4, Bool.not_true, Bool.not_false, Bool.and_false, Bool.and_true, cond_false, cond_true]; try rfl) | exact byRead (ERt.heap_ok (os := [false, false, false, false, false, false, false, false, false, false, false, false, false, false, false, false, true, true]) (r := (.tup [(false, [(.str ((ByteArray.mk #[])))]), (false, [(.bool false)])])) (hp' := [(.cells [(.str s)])]) (cs := [(0 == 0) == true, decide (numV s > IntKind.u64.wrap m) == true, decide (m < 0) == false, decide (m < 0) == false, decide (m < 0) == false, decide (m < 0) == false, decide (m < 0) == false, decide (numV s > IntKind.u64.wrap (IntKind.i64.wrap (((s.size : Nat) : Int) - numN s))) == false, decide (numV s > IntKind.u64.wrap (IntKind.i64.wrap (((s.size : Nat) : Int) - numN s))) == false, decide (numV s > IntKind.u64.wrap (IntKind.i64.wrap (((s.size : Nat) : Int) - numN s))) == false, (numN s == 0) == false, (numN s == 0) == false, (numN s == 0) == false, (numN s == 0) == false, (numN s == 0) == false, (numN s == 0) == false, (numN s == 0) == false, (numN s == 0) == false]) (by kernel_rfl) (allI (by simp only [q2, q6 (by assumption), q8 (by assumption), h1, h2, h3, h4]; rfl))) (by rw [qv (by assumption)]; simp only [tv, tb, nb, h1, h2, h3, h4, Bool.not_true, Bool.not_false, Bool.and_false, Bool.and_true, cond_false, cond_true]; try rfl) (by rw [qr (by assumption)]; simp only [tr, tb, nb, h1, h2, h3, h4, Bool.not_true, Bool.not_false, Bool.and_false, Bool.and_true, cond_false, cond_true]; try rfl)
        | false =>
          cases h5 : (IntKind.i64.wrap (numN s + IntKind.i64.wrap (numV s)) == 0 : Bool) with
          | true =>
            first | exact absurd (q2.symm.trans (by assumption)) Bool.false_ne_true | exact absurd ((q5 (by assumption) (by assumption)).symm.trans (by assumption)) Bool.false_ne_true | exact byRead (ERt.heap_ok (os := [false, false, false, false, false, false, false, false, false, false, false, false, false, false, false, false, false, true]) (r := (.tup [(false, [(.str ((ByteArray.mk #[])))]), (false, [(.bool false)])])) (hp' := [(.cells [(.str s)])]) (cs := [(IntKind.i64.wrap (numN s + IntKind.i64.wrap (numV s)) == 0) == true, decide (0 ≤ numN s ∧ numN s ≤ IntKind.i64.wrap (numN s + IntKind.i64.wrap (numV s)) ∧ IntKind.i64.wrap (numN s + IntKind.i64.wrap (numV s)) ≤ ((s.size : Nat) : Int)), decide (numV s > IntKind.u64.wrap m) == false, decide (m < 0) == false, decide (m < 0) == false, decide (m < 0) == false, decide (m < 0) == false, decide (m < 0) == false, decide (numV s > IntKind.u64.wrap (IntKind.i64.wrap (((s.size : Nat) : Int) - numN s))) == false, decide (numV s > IntKind.u64.wrap (IntKind.i64.wrap (((s.size : Nat) : Int) - numN s))) == false, decide (numV s > IntKind.u64.wrap (IntKind.i64.wrap (((s.size : Nat) : Int) - numN s))) == false, (numN s == 0) == false, (numN s == 0) == false, (numN s == 0) == false, (numN s == 0) == false, (numN s == 0) == false, (numN s == 0) == false, (numN s == 0) == false, (numN s == 0) == false]) (by kernel_rfl) (allI (by simp only [q2, h1, h2, h3, h4, h5]; rfl))) (by simp only [tv, tb, nb, h1, h2, h3, h4, h5, Bool.not_true, Bool.not_false, Bool.and_false, Bool.and_true, cond_false, cond_true]; try rfl) (by simp only [tr, tb, nb, h1, h2, h3, h4, h5, Bool.not_true, Bool.not_false, Bool.and_false, Bool.and_true, cond_false, cond_true]; try rfl) | exact byRead (ERt.heap_ok (os := [false, false, false, false, false, false, false, false, false, false, false, false, false, false, false, false, false, true]) (r := (.tup [(false, [(.str ((ByteArray.mk #[])))]), (false, [(.bool false)])])) (hp' := [(.cells [(.str s)])]) (cs := [(IntKind.i64.wrap (numN s + IntKind.i64.wrap (numV s)) == 0) == true, decide (0 ≤ numN s ∧ numN s ≤ IntKind.i64.wrap (numN s + IntKind.i64.wrap (numV s)) ∧ IntKind.i64.wrap (numN s + IntKind.i64.wrap (numV s)) ≤ ((s.size : Nat) : Int)), decide (numV s > IntKind.u64.wrap m) == false, decide (m < 0) == false, decide (m < 0) == false, decide (m < 0) == false, decide (m < 0) == false, decide (m < 0) == false, decide (numV s > IntKind.u64.wrap (IntKind.i64.wrap (((s.size : Nat) : Int) - numN s))) == false, decide (numV s > IntKind.u64.wrap (IntKind.i64.wrap (((s.size : Nat) : Int) - numN s))) == false, decide (numV s > IntKind.u64.wrap (IntKind.i64.wrap (((s.size : Nat) : Int) - numN s))) == false, (numN s == 0) == false, (numN s == 0) == false, (numN s == 0) == false, (numN s == 0) == false, (numN s == 0) == false, (numN s == 0) == false, (numN s == 0) == false, (numN s == 0) == false]) (by kernel_rfl) (allI (by simp only [q2, q6 (by assumption), q8 (by assumption), h1, h2, h3, h4, h5]; rfl))) (by rw [qv (by assumption)]; simp only [tv, tb, nb, h1, h2, h3, h4, h5, Bool.not_true, Bool.not_false, Bool.and_false, Bool.and_true, cond_false, cond_true]; try rfl) (by rw [qr (by assumption)]; simp only [tr, tb, nb, h1, h2, h3, h4, h5, Bool.not_true, Bool.not_false, Bool.and_false, Bool.and_true, cond_false, cond_true]; try rfl)
          | false =>
            first | exact absurd (q2.symm.trans (by assumption)) Bool.false_ne_true | exact absurd ((q5 (by assumption) (by assumption)).symm.trans (by assumption)) Bool.false_ne_true | exact byRead (ERt.heap_ok (os := [false, false, false, false, false, false, false, false, false, false, false, false, false, false, false, false, false, false]) (r := (.tup [(false, [(.str (s.extract (numN s).toNat (IntKind.i64.wrap (numN s + IntKind.i64.wrap (numV s))).toNat))]), (false, [(.bool true)])])) (hp' := [(.cells [(.str (s.extract (IntKind.i64.wrap (numN s + IntKind.i64.wrap (numV s))).toNat (((s.size : Nat) : Int)).toNat))])]) (cs := [decide (0 ≤ IntKind.i64.wrap (numN s + IntKind.i64.wrap (numV s)) ∧ IntKind.i64.wrap (numN s + IntKind.i64.wrap (numV s)) ≤ ((s.size : Nat) : Int) ∧ ((s.size : Nat) : Int) ≤ ((s.size : Nat) : Int)), (IntKind.i64.wrap (numN s + IntKind.i64.wrap (numV s)) == 0) == false, decide (0 ≤ numN s ∧ numN s ≤ IntKind.i64.wrap (numN s + IntKind.i64.wrap (numV s)) ∧ IntKind.i64.wrap (numN s + IntKind.i64.wrap (numV s)) ≤ ((s.size : Nat) : Int)), decide (numV s > IntKind.u64.wrap m) == false, decide (m < 0) == false, decide (m < 0) == false, decide (m < 0) == false, decide (m < 0) == false, decide (m < 0) == false, decide (numV s > IntKind.u64.wrap (IntKind.i64.wrap (((s.size : Nat) : Int) - numN s))) == false, decide (numV s > IntKind.u64.wrap (IntKind.i64.wrap (((s.size : Nat) : Int) - numN s))) == false, decide (numV s > IntKind.u64.wrap (IntKind.i64.wrap (((s.size : Nat) : Int) - numN s))) == false, (numN s == 0) == false, (numN s == 0) == false, (numN s == 0) == false, (numN s == 0) == false, (numN s == 0) == false, (numN s == 0) == false, (numN s == 0) == false, (numN s == 0) == false]) (by kernel_rfl) (allI (by simp only [q2, h1, h2, h3, h4, h5]; rfl))) (by simp only [tv, tb, nb, h1, h2, h3, h4, h5, Bool.not_true, Bool.not_false, Bool.and_false, Bool.and_true, cond_false, cond_true]; try rfl) (by simp only [tr, tb, nb, h1, h2, h3, h4, h5, Bool.not_true, Bool.not_false, Bool.and_false, Bool.and_true, cond_false, cond_true]; try rfl) | exact byRead (ERt.heap_ok (os := [false, false, false, false, false, false, false, false, false, false, false, false, false, false, false, false, false, false]) (r := (.tup [(false, [(.str (s.extract (numN s).toNat (IntKind.i64.wrap (numN s + IntKind.i64.wrap (numV s))).toNat))]), (false, [(.bool true)])])) (hp' := [(.cells [(.str (s.extract (IntKind.i64.wrap (numN s + IntKind.i64.wrap (numV s))).toNat (((s.size : Nat) : Int)).toNat))])]) (cs := [decide (0 ≤ IntKind.i64.wrap (numN s + IntKind.i64.wrap (numV s)) ∧ IntKind.i64.wrap (numN s + IntKind.i64.wrap (numV s)) ≤ ((s.size : Nat) : Int) ∧ ((s.size : Nat) : Int) ≤ ((s.size : Nat) : Int)), (IntKind.i64.wrap (numN s + IntKind.i64.wrap (numV s)) == 0) == false, decide (0 ≤ numN s ∧ numN s ≤ IntKind.i64.wrap (numN s + IntKind.i64.wrap (numV s)) ∧ IntKind.i64.wrap (numN s + IntKind.i64.wrap (numV s)) ≤ ((s.size : Nat) : Int)), decide (numV s > IntKind.u64.wrap m) == false, decide (m < 0) == false, decide (m < 0) == false, decide (m < 0) == false, decide (m < 0) == false, decide (m < 0) == false, decide (numV s > IntKind.u64.wrap (IntKind.i64.wrap (((s.size : Nat) : Int) - numN s))) == false, decide (numV s > IntKind.u64.wrap (IntKind.i64.wrap (((s.size : Nat) : Int) - numN s))) == false, decide (numV s > IntKind.u64.wrap (IntKind.i64.wrap (((s.size : Nat) : Int) - numN s))) == false, (numN s == 0) == false, (numN s == 0) == false, (numN s == 0) == false, (numN s == 0) == false, (numN s == 0) == false, (numN s == 0) == false, (numN s == 0) == false, (numN s == 0) == false]) (by kernel_rfl) (allI (by simp only [q2, q6 (by assumption), q8 (by assumption), h1, h2, h3, h4, h5]; rfl))) (by rw [qv (by assumption)]; simp only [tv, tb, nb, h1, h2, h3, h4, h5, Bool.not_true, Bool.not_false, Bool.and_false, Bool.and_true, cond_false, cond_true]; try rfl) (by rw [qr (by assumption)]; simp only [tr, tb, nb, h1, h2, h3, h4, h5, Bool.not_true, Bool.not_false, Bool.and_false, Bool.and_true, cond_false, cond_true]; try rfl)
open Go Go.Eng

def selR (args : List AV) (_ : List AB) : List Nat := match args with
  | .one (.ptr i 0) :: _ => [i]
  | _ => []
noncomputable def ERr : Env Tryz.prog := (((E0.addHF 76 selR
  (fun args hp os => match args, hp with
    | [.one (.ptr 0 0)], [.cells [.str s]] => ret1 (tupB (.int .u64 (numV s)) (nb s), [.cells [.str (nr s)]]) os
    | _, _ => none)
  (fun args hp os r hp' cs os' h hc => by
    split at h
    · simp only [ret1, Option.some.injEq, Prod.mk.injEq] at h
      obtain ⟨⟨rfl, rfl⟩, rfl, rfl⟩ := h
      exact rnrd_heap _
    · cases h)).addHF 77 selR
  (fun args hp os => match args, hp with
    | [.one (.ptr 0 0)], [.cells [.str s]] => ret1 (tupB (.int .u8 (yv s)) (yb s), [.cells [.str (yr s)]]) os
    | _, _ => none)
  (fun args hp os r hp' cs os' h hc => by
    split at h
    · simp only [ret1, Option.some.injEq, Prod.mk.injEq] at h
      obtain ⟨⟨rfl, rfl⟩, rfl, rfl⟩ := h
      exact rbrd_heap _
    · cases h)).addHF 78 selR
  (fun args hp os => match args, hp with
    | [.one (.ptr 0 0), .one (.int .i64 m)], [.cells [.str s]] => retC (tupB (.str (tv s m)) (tb s m), [.cells [.str (tr s m)]]) [decide (0 ≤ m), szk s] os
    | _, _ => none)
  (fun args hp os r hp' cs os' h hc => by
    split at h
    · simp only [retC, Option.some.injEq, Prod.mk.injEq] at h
      obtain ⟨⟨rfl, rfl⟩, rfl, rfl⟩ := h
      obtain ⟨h1, hc⟩ := of_allTc hc
      exact rtrd_heap _ _ (of_decide_eq_true h1) (of_allTc hc).1
    · cases h))
open Go Go.Eng

def nk (s : ByteArray) (m : Int) : Bool := nb s && !(decide (numV s > m))
def yk (s : ByteArray) : Bool := yb s && !(decide (yv s > 1))
theorem tkn_h (s : ByteArray) (m : Int) (g : Bool) : HeapCall Tryz.prog 29 [.one (.ptr 1 0), vU m] [.cells [.str s], .cells [.ptr 0 0, .bool g]] (vU (bif nk s m then numV s else 0)) [.cells [.str (nr s)], .cells [.ptr 0 0, .bool (bif nk s m then g else true)]] := by
  cases h1 : (nb s : Bool) with
  | true =>
    cases h2 : (decide (numV s > m) : Bool) with
    | true =>
      exact byRead (ERr.heap_ok (os := [false, false, false, false, true]) (r := (.one (.int .u64 (0)))) (hp' := [(.cells [(.str (nr s))]), (.cells [(.ptr 0 0), (.bool true)])]) (cs := [decide (numV s > m) == true, (!nb s) == false, (!nb s) == false, (!nb s) == false, (!nb s) == false]) (by kernel_rfl) (allI (by simp only [h1, h2]; rfl))) (by simp only [nk, h1, h2]; rfl) (by simp only [nk, h1, h2]; rfl)
    | false =>
      exact byRead (ERr.heap_ok (os := [false, false, false, false, false]) (r := (.one (.int .u64 (numV s)))) (hp' := [(.cells [(.str (nr s))]), (.cells [(.ptr 0 0), (.bool g)])]) (cs := [decide (numV s > m) == false, (!nb s) == false, (!nb s) == false, (!nb s) == false, (!nb s) == false]) (by kernel_rfl) (allI (by simp only [h1, h2]; rfl))) (by simp only [nk, h1, h2]; rfl) (by simp only [nk, h1, h2]; rfl)
  | false =>
    exact byRead (ERr.heap_ok (os := [true, true, true, true, true]) (r := (.one (.int .u64 (0)))) (hp' := [(.cells [(.str (nr s))]), (.cells [(.ptr 0 0), (.bool true)])]) (cs := [true == true, (!nb s) == true, (!nb s) == true, (!nb s) == true, (!nb s) == true]) (by kernel_rfl) (allI (by simp only [h1]; rfl))) (by simp only [nk, h1]; rfl) (by simp only [nk, h1]; rfl)
theorem tkt_h (s : ByteArray) (m : Int) (g : Bool) (hm : decide ((0 : Int) ≤ m) = true) (hs : szk s = true) : HeapCall Tryz.prog 31 [.one (.ptr 1 0), vI m] [.cells [.str s], .cells [.ptr 0 0, .bool g]] (vS (tv s m)) [.cells [.str (tr s m)], .cells [.ptr 0 0, .bool (bif tb s m then g else true)]] := by
  cases h1 : (tb s m : Bool) with
  | true =>
    exact byRead (ERr.heap_ok (os := [false]) (r := (.one (.str (tv s m)))) (hp' := [(.cells [(.str (tr s m))]), (.cells [(.ptr 0 0), (.bool g)])]) (cs := [(!tb s m) == false, decide ((0 : Int) ≤ m), szk s]) (by kernel_rfl) (allI (by rw [hm, hs, h1]; rfl))) rfl rfl
  | false =>
    exact byRead (ERr.heap_ok (os := [true]) (r := (.one (.str (tv s m)))) (hp' := [(.cells [(.str (tr s m))]), (.cells [(.ptr 0 0), (.bool true)])]) (cs := [(!tb s m) == true, decide ((0 : Int) ≤ m), szk s]) (by kernel_rfl) (allI (by rw [hm, hs, h1]; rfl))) rfl rfl
theorem tkb_h (s : ByteArray) (g : Bool) : HeapCall Tryz.prog 30 [.one (.ptr 1 0)] [.cells [.str s], .cells [.ptr 0 0, .bool g]] (vB (yv s == 1)) [.cells [.str (yr s)], .cells [.ptr 0 0, .bool (bif yk s then g else true)]] := by
  cases h1 : (yb s : Bool) with
  | true =>
    cases h2 : (decide (yv s > 1) : Bool) with
    | true =>
      exact byRead (ERr.heap_ok (os := [false, false, false, true]) (r := (.one (.bool (yv s == 1)))) (hp' := [(.cells [(.str (yr s))]), (.cells [(.ptr 0 0), (.bool true)])]) (cs := [decide (yv s > 1) == true, (!yb s) == false, (!yb s) == false, (!yb s) == false]) (by kernel_rfl) (allI (by simp only [h1, h2]; rfl))) rfl (by simp only [yk, h1, h2]; rfl)
    | false =>
      exact byRead (ERr.heap_ok (os := [false, false, false, false]) (r := (.one (.bool (yv s == 1)))) (hp' := [(.cells [(.str (yr s))]), (.cells [(.ptr 0 0), (.bool g)])]) (cs := [decide (yv s > 1) == false, (!yb s) == false, (!yb s) == false, (!yb s) == false]) (by kernel_rfl) (allI (by simp only [h1, h2]; rfl))) rfl (by simp only [yk, h1, h2]; rfl)
  | false =>
    exact byRead (ERr.heap_ok (os := [true, true, true, true]) (r := (.one (.bool (yv s == 1)))) (hp' := [(.cells [(.str (yr s))]), (.cells [(.ptr 0 0), (.bool true)])]) (cs := [true == true, (!yb s) == true, (!yb s) == true, (!yb s) == true]) (by kernel_rfl) (allI (by simp only [h1]; rfl))) rfl (by simp only [yk, h1]; rfl)
def selT (args : List AV) (hp : List AB) : List Nat := match args with
  | .one (.ptr i 0) :: _ => match hp[i]? with
    | some (.cells (.ptr r 0 :: _)) => [r, i]
    | _ => []
  | _ => []
noncomputable def ERk : Env Tryz.prog := (((ERr.addHF 29 selT
  (fun args hp os => match args, hp with
    | [.one (.ptr 1 0), .one (.int .u64 m)], [.cells [.str s], .cells [.ptr 0 0, .bool g]] => ret1 (vU (bif nk s m then numV s else 0), [.cells [.str (nr s)], .cells [.ptr 0 0, .bool (bif nk s m then g else true)]]) os
    | _, _ => none)
  (fun args hp os r hp' cs os' h hc => by
    split at h
    · simp only [ret1, Option.some.injEq, Prod.mk.injEq] at h
      obtain ⟨⟨rfl, rfl⟩, rfl, rfl⟩ := h
      exact tkn_h _ _ _
    · cases h)).addHF 30 selT
  (fun args hp os => match args, hp with
    | [.one (.ptr 1 0)], [.cells [.str s], .cells [.ptr 0 0, .bool g]] => ret1 (vB (yv s == 1), [.cells [.str (yr s)], .cells [.ptr 0 0, .bool (bif yk s then g else true)]]) os
    | _, _ => none)
  (fun args hp os r hp' cs os' h hc => by
    split at h
    · simp only [ret1, Option.some.injEq, Prod.mk.injEq] at h
      obtain ⟨⟨rfl, rfl⟩, rfl, rfl⟩ := h
      exact tkb_h _ _
    · cases h)).addHF 31 selT
  (fun args hp os => match args, hp with
    | [.one (.ptr 1 0), .one (.int .i64 m)], [.cells [.str s], .cells [.ptr 0 0, .bool g]] => retC (vS (tv s m), [.cells [.str (tr s m)], .cells [.ptr 0 0, .bool (bif tb s m then g else true)]]) [decide ((0 : Int) ≤ m), szk s] os
    | _, _ => none)
  (fun args hp os r hp' cs os' h hc => by
    split at h
    · simp only [retC, Option.some.injEq, Prod.mk.injEq] at h
      obtain ⟨⟨rfl, rfl⟩, rfl, rfl⟩ := h
      obtain ⟨h1, hc⟩ := of_allTc hc
      exact tkt_h _ _ _ h1 (of_allTc hc).1
    · cases h))
open Go Go.Eng

def qdB : Rd → Bool → ByteArray → Bool
  | .n m, b, s => bif nk s m then b else true
  | .t m, b, s => bif tb s m then b else true
  | .y, b, s => bif yk s then b else true
  | .g, b, s => bif nk s 1073741824 then b else true
/-- A number that is too big, or missing, is taken as 0. -/
def nq (s : ByteArray) (m : Int) : Int := bif nk s m then numV s else 0
/-- A number with a sign, as the document has it. -/
def sgQ (n : Int) : Int := bif n.tmod 2 == 1 then IntKind.i64.wrap (IntKind.i64.wrap (0 - IntKind.i64.wrap (IntKind.u64.wrap (n.tdiv 2))) - 1) else IntKind.i64.wrap (IntKind.u64.wrap (n.tdiv 2))
def qdV : Rd → ByteArray → RV
  | .n m, s => .n (nq s m)
  | .t m, s => .t (tv s m)
  | .y, s => .f (yv s == 1)
  | .g, s => .n (sgQ (nq s 1073741824))
def qdsB : List Rd → Bool → ByteArray → Bool
  | [], b, _ => b
  | r :: l, b, s => qdsB l (qdB r b s) (rdS r s)
def qdsV : List Rd → ByteArray → List RV
  | [], _ => []
  | r :: l, s => qdV r s :: qdsV l (rdS r s)
/-- What a run takes for granted. -/
def qdC : Rd → ByteArray → List Bool
  | .t m, s => [decide ((0 : Int) ≤ m), szk s]
  | _, _ => []
def qdsC : List Rd → ByteArray → List Bool
  | [], _ => []
  | r :: l, s => qdsC l (rdS r s) ++ qdC r s
theorem qdC_all (r : Rd) {s : ByteArray} (h : szk s = true) (ho : rdOk r = true) : (qdC r s).all (fun c => c) = true := by
  cases r with
  | t m =>
    have ho : decide ((0 : Int) ≤ m) = true := ho
    simp only [qdC, List.all_cons, List.all_nil, h, ho]; rfl
  | n m => rfl
  | y => rfl
  | g => rfl
theorem qdsC_all : ∀ (l : List Rd) {s : ByteArray}, szk s = true → l.all rdOk = true → (qdsC l s).all (fun c => c) = true
  | [], _, _, _ => rfl
  | r :: l, s, h, ho => by
    rw [List.all_cons, Bool.and_eq_true] at ho
    rw [qdsC, List.all_append, qdsC_all l (szk_rdS r h) ho.2, qdC_all r h ho.1]; rfl
theorem ngt' (a b : Int) : (!(decide (a > b))) = decide (a ≤ b) := by
  by_cases h : a ≤ b
  · rw [decide_eq_true h, decide_eq_false (by omega)]; rfl
  · rw [decide_eq_false h, decide_eq_true (by omega)]; rfl
theorem nk_eq (s : ByteArray) (m : Int) : nk s m = (nb s && decide (numV s ≤ m)) := by unfold nk; rw [ngt']
theorem yk_eq (s : ByteArray) : yk s = (yb s && decide (yv s ≤ 1)) := by unfold yk; rw [ngt']
theorem qdB_eq (r : Rd) (b : Bool) (s : ByteArray) : qdB r b s = !rdG r (!b) s := by
  cases r with
  | n m =>
    simp only [qdB, rdG, nk_eq]
    generalize decide (numV s ≤ m) = x
    cases nb s <;> cases x <;> cases b <;> rfl
  | t m =>
    simp only [qdB, rdG]
    cases tb s m <;> cases b <;> rfl
  | y =>
    simp only [qdB, rdG, yk_eq]
    generalize decide (yv s ≤ 1) = x
    cases yb s <;> cases x <;> cases b <;> rfl
  | g =>
    simp only [qdB, rdG, cgB, nk_eq]
    generalize decide (numV s ≤ 1073741824) = x
    cases nb s <;> cases x <;> cases b <;> rfl
theorem qdsB_eq : ∀ (l : List Rd) (b : Bool) (s : ByteArray), qdsB l b s = !rdsG l (!b) s
  | [], b, s => by cases b <;> rfl
  | r :: l, b, s => by rw [qdsB, qdsB_eq l, qdB_eq, rdsG, Bool.not_not]
theorem rdG_true {r : Rd} {g : Bool} {s : ByteArray} (h : rdG r g s = true) : g = true := by
  cases r <;> cases g <;> first | rfl | cases h
theorem rdsG_true : ∀ {l : List Rd} {g : Bool} {s : ByteArray}, rdsG l g s = true → g = true
  | [], _, _, h => h
  | r :: l, _, _, h => rdG_true (rdsG_true (l := l) h)
theorem nq_good {s : ByteArray} {m : Int} (h : (bif nb s then decide (numV s ≤ m) else false) = true) : nq s m = numV s := by
  unfold nq
  rw [nk_eq]
  cases hb : nb s with
  | true => rw [hb] at h; have h : decide (numV s ≤ m) = true := h; rw [h]; rfl
  | false => rw [hb] at h; cases h
theorem sgQ_eq {n : Int} (h0 : 0 ≤ n) (h1 : n ≤ 1073741824) : sgQ n = sgV n := by
  obtain ⟨k, rfl⟩ : ∃ k : Nat, n = k := ⟨n.toNat, by omega⟩
  have e1 : sgO ((k : Nat) : Int) = ((((k : Nat) : Int)).tmod 2 == 1) := by
    unfold sgO
    have w : (BitVec.ofInt IntKind.u64.bits ((k : Nat) : Int) &&& BitVec.ofInt IntKind.u64.bits 1).toNat = k % 2 := by
      rw [show IntKind.u64.bits = 64 from rfl, BitVec.ofInt_natCast, show (BitVec.ofInt 64 1) = BitVec.ofNat 64 1 from rfl, BitVec.toNat_and, BitVec.toNat_ofNat, BitVec.toNat_ofNat, Nat.mod_eq_of_lt (show k < 2 ^ 64 by omega), Nat.mod_eq_of_lt (show 1 < 2 ^ 64 by decide), Nat.and_one_is_mod]
    rw [w, wrapU64 (by omega) (by omega), Int.tmod_eq_emod_of_nonneg (by omega)]
    have : (((k % 2 : Nat)) : Int) = (k : Int) % 2 := by omega
    rw [this]
  have e2 : sgH ((k : Nat) : Int) = IntKind.i64.wrap (IntKind.u64.wrap ((((k : Nat) : Int)).tdiv 2)) := by
    have ht : (((k : Nat) : Int)).tdiv 2 = (k : Int) / 2 := Int.tdiv_eq_ediv_of_nonneg (by omega)
    rw [wrapU64 (n := (((k : Nat) : Int)).tdiv 2) (by rw [ht]; omega) (by rw [ht]; omega)]
    unfold sgH
    have : min (Int.toNat 1) IntKind.u64.bits = 1 := rfl
    rw [this, Int.tdiv_eq_ediv_of_nonneg (by omega), show (2 : Int) ^ 1 = 2 from rfl, Int.fdiv_eq_ediv_of_nonneg _ (by decide)]
  unfold sgQ sgV
  rw [e1, e2]
theorem qdV_eq {r : Rd} {s : ByteArray} (h : rdG r true s = true) : qdV r s = rdV r s := by
  cases r with
  | n m => exact congrArg RV.n (nq_good h)
  | t m => rfl
  | y => rfl
  | g =>
    have e := nq_good (m := 1073741824) h
    have h2 : numV s ≤ 1073741824 := by
      have h : (bif bif true then nb s else false then decide (numV s ≤ 1073741824) else false) = true := h
      cases hb : nb s with
      | true => rw [hb] at h; exact of_decide_eq_true h
      | false => rw [hb] at h; cases h
    show RV.n _ = RV.n _
    rw [e, sgQ_eq (numV_ge s) h2]
theorem qdsV_eq : ∀ {l : List Rd} {s : ByteArray}, rdsG l true s = true → qdsV l s = rdsV l s
  | [], _, _ => rfl
  | r :: l, s, h => by
    have h1 : rdG r true s = true := rdsG_true (l := l) h
    have h2 : rdsG l (rdG r true s) (rdS r s) = true := h
    rw [h1] at h2
    rw [qdsV, rdsV, qdV_eq h1, qdsV_eq h2]
end Go.Proofs.YtjplobgambnhjaaGreat
