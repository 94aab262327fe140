/- QuorumReached, its run; no statement. -/
import Derived.Test.YtcigjehfmiiolaaReb
set_option linter.unusedVariables false
namespace Go.Proofs.Ytcigjehfmiiolaa
open Go Go.Eng

def nodupI : List Int → Bool
  | [] => true
  | a :: r => !(hasI r a) && nodupI r
theorem nodupI_inj : ∀ {l : List Int}, nodupI l = true → ∀ {i j : Nat}, i < l.length → j < l.length → l.getD i 0 = l.getD j 0 → i = j
  | [], _, i, j, hi, _, _ => by simp at hi
  | a :: r, h, i, j, hi, hj, e => by
    simp only [nodupI, Bool.and_eq_true, Bool.not_eq_true'] at h
    have hm : ∀ k, k < r.length → a ≠ r.getD k 0 := fun k hk e => by
      have : hasI r a = true := hasI_iff.2 (by rw [e]; exact List.mem_of_getElem? (getD_get (d := 0) hk))
      rw [h.1] at this; cases this
    cases i with
    | zero =>
      cases j with
      | zero => rfl
      | succ j => exact absurd (by simpa using e) (hm j (by simpa using hj))
    | succ i =>
      cases j with
      | zero => exact absurd (by simpa using e.symm) (hm i (by simpa using hi))
      | succ j => exact congrArg Nat.succ (nodupI_inj h.2 (by simpa using hi) (by simpa using hj) (by simpa using e))
set_option maxRecDepth 100000 in
theorem members_nodup : (all256.all fun m => nodupI (lstM m)) = true := by kernel_rfl

theorem selI_mem {p : Int → Bool} {l a : List Int} {x : Int} : ∀ {n : Nat}, x ∈ selI p l a n ↔ ∃ j, j < n ∧ p (l.getD j 0) = true ∧ x = a.getD j 0
  | 0 => by simp [selI]
  | n + 1 => by
    rw [selI, List.mem_append, selI_mem (n := n)]
    constructor
    · rintro (⟨j, h1, h2, h3⟩ | h)
      · exact ⟨j, by omega, h2, h3⟩
      · cases hp : p (l.getD n 0) with
        | false => rw [hp] at h; simp at h
        | true => rw [hp] at h; exact ⟨n, by omega, hp, by simpa using h⟩
    · rintro ⟨j, h1, h2, h3⟩
      by_cases hj : j = n
      · subst hj; right; rw [h2, h3]; simp
      · exact .inl ⟨j, by omega, h2, h3⟩

theorem filter_same {q p : Int → Bool} : ∀ (a l : List Int), a.length = l.length → (∀ j, j < a.length → q (a.getD j 0) = p (l.getD j 0)) → (a.filter q).length = (l.filter p).length
  | [], [], _, _ => rfl
  | [], _ :: _, h, _ => by cases h
  | _ :: _, [], h, _ => by cases h
  | x :: a, y :: l, h, hh => by
    have h0 : q x = p y := by simpa using hh 0 (by simp)
    have ih := filter_same (q := q) (p := p) a l (by simpa using h) fun j hj => by simpa using hh (j + 1) (by simpa using hj)
    rw [List.filter_cons, List.filter_cons, h0]
    cases p y <;> simp [ih]

theorem sel_cnt {p : Int → Bool} {l a : List Int} (hn : nodupI a = true) (hl : l.length = a.length) : cntI a (selI p l a a.length) = (l.filter p).length := by
  unfold cntI
  refine filter_same a l hl.symm fun j hj => ?_
  rw [Bool.eq_iff_iff, hasI_iff, selI_mem]
  constructor
  · rintro ⟨i, h1, h2, h3⟩
    rw [nodupI_inj hn hj h1 h3]; exact h2
  · intro h
    exact ⟨j, hj, h, rfl⟩

theorem cge_set {v w : Int} : ∀ (l : List Int) (i : Nat), l.getD i 0 ≤ v → cge l w ≤ cge (l.set i v) w
  | [], i, _ => by simp
  | x :: l, 0, h => by
    have h' : x ≤ v := by simpa using h
    simp only [cge, List.set_cons_zero, List.filter_cons]
    by_cases h1 : x ≥ w
    · have h2 : v ≥ w := by omega
      simp [h1, h2]
    · by_cases h2 : v ≥ w <;> simp [h1, h2]
  | x :: l, i + 1, h => by
    have ih := cge_set (v := v) (w := w) l i (by simpa using h)
    simp only [cge] at ih
    simp only [cge, List.set_cons_succ, List.filter_cons]
    by_cases h1 : x ≥ w <;> simp [h1] <;> omega

theorem com_mid {a l : List Int} (ha : mayB a = true) (hl : l.length = a.length) : comI a l = midI l := by
  have hp : padI a.length l = l := by
    unfold padI
    rw [← hl, List.take_length, Nat.sub_self]; simp
  unfold comI
  rw [ha, hp]; rfl

theorem reached_wins {a l : List Int} (ha : mayB a = true) (hn : nodupI a = true) (hl : l.length = a.length) : winI a (selI (geC (comI a l)) l a a.length) = true := by
  have hlen := may_len ha
  unfold winI
  rw [ha, sel_cnt hn hl, most_eq hlen.2, com_mid ha hl, Bool.true_and, decide_eq_true_eq]
  have h := (mid_cge (r := l) (by omega)).1
  have e : (l.filter (geC (midI l))).length = cge l (midI l) := rfl
  rw [e]; omega
theorem above_not {a l : List Int} (ha : mayB a = true) (hn : nodupI a = true) (hl : l.length = a.length) : winI a (selI (gtC (comI a l)) l a a.length) = false := by
  have hlen := may_len ha
  unfold winI
  rw [ha, sel_cnt hn hl, most_eq hlen.2, com_mid ha hl, Bool.true_and, decide_eq_false_iff_not]
  have h := (mid_cge (r := l) (by omega)).2 (midI l + 1) (by omega)
  have e : (l.filter (gtC (midI l))).length = cge l (midI l + 1) := by
    exact congrArg List.length (List.filter_congr fun x _ => decide_eq_decide.2 (by omega))
  rw [e]; omega
theorem commit_up {a l : List Int} {i : Nat} {v : Int} (ha : mayB a = true) (hl : l.length = a.length) (hv : l.getD i 0 ≤ v) : comI a (l.set i v) ≥ comI a l := by
  have hlen := may_len ha
  rw [com_mid ha hl, com_mid ha (by rw [List.length_set]; exact hl)]
  have h1 := (mid_cge (r := l) (by omega)).1
  have h2 := (mid_cge (r := l.set i v) (by rw [List.length_set]; omega)).2
  have h3 := cge_set (w := midI l) l i hv
  rw [List.length_set] at h2
  rcases Int.lt_or_le (midI (l.set i v)) (midI l) with h | h
  · have := h2 (midI l) h
    omega
  · exact h

theorem bump {x : Int} (h0 : 0 ≤ x) (h1 : x < 9223372036854775808) : x ≤ IntKind.u64.wrap (IntKind.u64.wrap (x + 1) + IntKind.u64.wrap (Int.tdiv x 3)) := by
  have e : Int.tdiv x 3 = x / 3 := Int.tdiv_eq_ediv_of_nonneg h0
  rw [e, wrapU64 (n := x + 1) (by omega) (by omega), wrapU64 (n := x / 3) (by omega) (by omega), wrapU64 (by omega) (by omega)]
  omega

theorem rea_run (m t m0 m1 m2 m3 m4 : Int) (hm : byteB m = true) (ht : 0 ≤ t ∧ t ≤ 255) (hA : 0 ≤ m0 ∧ 0 ≤ m1 ∧ 0 ≤ m2 ∧ 0 ≤ m3 ∧ 0 ≤ m4) :
    PureCall Try.prog 4 [vY m, .agg [.int .u64 m0, .int .u64 m1, .int .u64 m2, .int .u64 m3, .int .u64 m4], vY t] (vB true) := by
  have hmay := lstM_may hm
  have hn : nodupI (lstM m) = true := List.all_eq_true.1 members_nodup m (byteB_mem hm)
  have hlen := may_len hmay
  have hL0 : (List.take (lstM m).length (mm5 m0 m1 m2 m3 m4)).length = (lstM m).length := by rw [List.length_take]; exact Nat.min_eq_left hlen.2
  have hLp : ∀ x ∈ List.take (lstM m).length (mm5 m0 m1 m2 m3 m4), (0 : Int) ≤ x := fun x hx => by
    have := List.mem_of_mem_take hx
    simp only [mm5, List.mem_cons, List.not_mem_nil, or_false] at this
    omega
  have hr : ∃ i : Nat, i < (lstM m).length ∧ (IntKind.i64.wrap t).tmod (((lstM m).length : Nat) : Int) = (i : Int) := by
    rw [wrap64 (by omega) (by omega)]
    have e1 : t.tmod (((lstM m).length : Nat) : Int) = t % (((lstM m).length : Nat) : Int) := Int.tmod_eq_emod_of_nonneg ht.1
    have e2 := Int.emod_nonneg t (show (((lstM m).length : Nat) : Int) ≠ 0 by omega)
    have e3 := Int.emod_lt_of_pos t (show (0 : Int) < (((lstM m).length : Nat) : Int) by omega)
    exact ⟨(t % (((lstM m).length : Nat) : Int)).toNat, by omega, by rw [e1]; omega⟩
  obtain ⟨i, hi, hie⟩ := hr
  have b1 := reached_wins hmay hn hL0
  have b2 := above_not hmay hn hL0
  by_cases hlt : (List.take (lstM m).length (mm5 m0 m1 m2 m3 m4)).getD i 0 < 9223372036854775808
  · refine ERc.pure_ok (os := [false, false, false, false, false, true, true, true, true, true, true]) (r := vB true) (cs := [(decide (comI (lstM m) (List.take (List.take (lstM m).length (mm5 m0 m1 m2 m3 m4)).length (List.drop 0 ((List.take (lstM m).length (mm5 m0 m1 m2 m3 m4)).set (0 + ((IntKind.i64.wrap t).tmod (((lstM m).length : Nat) : Int)).toNat) (IntKind.u64.wrap (IntKind.u64.wrap ((List.take (lstM m).length (mm5 m0 m1 m2 m3 m4)).getD (0 + ((IntKind.i64.wrap t).tmod (((lstM m).length : Nat) : Int)).toNat) 0 + 1) + IntKind.u64.wrap (Int.tdiv ((List.take (lstM m).length (mm5 m0 m1 m2 m3 m4)).getD (0 + ((IntKind.i64.wrap t).tmod (((lstM m).length : Nat) : Int)).toNat) 0) 3)))))) ≥ comI (lstM m) (List.take (List.take (lstM m).length (mm5 m0 m1 m2 m3 m4)).length (List.drop 0 (List.take (lstM m).length (mm5 m0 m1 m2 m3 m4))))) == true), (decide (comI (lstM m) (List.take (List.take (lstM m).length (mm5 m0 m1 m2 m3 m4)).length (List.drop 0 ((List.take (lstM m).length (mm5 m0 m1 m2 m3 m4)).set (0 + ((IntKind.i64.wrap t).tmod (((lstM m).length : Nat) : Int)).toNat) (IntKind.u64.wrap (IntKind.u64.wrap ((List.take (lstM m).length (mm5 m0 m1 m2 m3 m4)).getD (0 + ((IntKind.i64.wrap t).tmod (((lstM m).length : Nat) : Int)).toNat) 0 + 1) + IntKind.u64.wrap (Int.tdiv ((List.take (lstM m).length (mm5 m0 m1 m2 m3 m4)).getD (0 + ((IntKind.i64.wrap t).tmod (((lstM m).length : Nat) : Int)).toNat) 0) 3)))))) ≥ comI (lstM m) (List.take (List.take (lstM m).length (mm5 m0 m1 m2 m3 m4)).length (List.drop 0 (List.take (lstM m).length (mm5 m0 m1 m2 m3 m4))))) == true), (inB ((IntKind.i64.wrap t).tmod (((lstM m).length : Nat) : Int)) (List.take (lstM m).length (mm5 m0 m1 m2 m3 m4)).length), (inB ((IntKind.i64.wrap t).tmod (((lstM m).length : Nat) : Int)) (List.take (lstM m).length (mm5 m0 m1 m2 m3 m4)).length), (inB ((IntKind.i64.wrap t).tmod (((lstM m).length : Nat) : Int)) (List.take (lstM m).length (mm5 m0 m1 m2 m3 m4)).length), (decide ((List.take (lstM m).length (mm5 m0 m1 m2 m3 m4)).getD (0 + ((IntKind.i64.wrap t).tmod (((lstM m).length : Nat) : Int)).toNat) 0 < 9223372036854775808) == true), (inB ((IntKind.i64.wrap t).tmod (((lstM m).length : Nat) : Int)) (List.take (lstM m).length (mm5 m0 m1 m2 m3 m4)).length), (decide ((((lstM m).length : Nat) : Int) ≠ 0)), (winI (lstM m) (selI (gtC (comI (lstM m) (List.take (List.take (lstM m).length (mm5 m0 m1 m2 m3 m4)).length (List.drop 0 (List.take (lstM m).length (mm5 m0 m1 m2 m3 m4)))))) (List.take (lstM m).length (mm5 m0 m1 m2 m3 m4)) (lstM m) (lstM m).length) == false), ((!winI (lstM m) (selI (geC (comI (lstM m) (List.take (List.take (lstM m).length (mm5 m0 m1 m2 m3 m4)).length (List.drop 0 (List.take (lstM m).length (mm5 m0 m1 m2 m3 m4)))))) (List.take (lstM m).length (mm5 m0 m1 m2 m3 m4)) (lstM m) (lstM m).length)) == false), ((!winI (lstM m) (selI (geC (comI (lstM m) (List.take (List.take (lstM m).length (mm5 m0 m1 m2 m3 m4)).length (List.drop 0 (List.take (lstM m).length (mm5 m0 m1 m2 m3 m4)))))) (List.take (lstM m).length (mm5 m0 m1 m2 m3 m4)) (lstM m) (lstM m).length)) == false), ((!winI (lstM m) (selI (geC (comI (lstM m) (List.take (List.take (lstM m).length (mm5 m0 m1 m2 m3 m4)).length (List.drop 0 (List.take (lstM m).length (mm5 m0 m1 m2 m3 m4)))))) (List.take (lstM m).length (mm5 m0 m1 m2 m3 m4)) (lstM m) (lstM m).length)) == false), ((!winI (lstM m) (selI (geC (comI (lstM m) (List.take (List.take (lstM m).length (mm5 m0 m1 m2 m3 m4)).length (List.drop 0 (List.take (lstM m).length (mm5 m0 m1 m2 m3 m4)))))) (List.take (lstM m).length (mm5 m0 m1 m2 m3 m4)) (lstM m) (lstM m).length)) == false), (decide (0 = 0)), (decide (1 = 1 ∧ 0 = 0 ∧ (List.take (lstM m).length (mm5 m0 m1 m2 m3 m4)).length = (List.take (lstM m).length (mm5 m0 m1 m2 m3 m4)).length)), (decide ((List.take (lstM m).length (mm5 m0 m1 m2 m3 m4)).length = (lstM m).length ∧ (lstM m).length ≤ 5)), (decide (0 = 0)), (decide (0 = 0 ∧ 0 = 0)), (decide (0 < (lstM m).length ∧ (lstM m).length ≤ 5)), (byteB m)]) (by kernel_rfl) (allI ?_)
    rw [hie]
    obtain ⟨L, hL⟩ : ∃ L, L = List.take (lstM m).length (mm5 m0 m1 m2 m3 m4) := ⟨_, rfl⟩
    rw [← hL] at hL0 hLp b1 b2 hlt ⊢
    have hx : 0 ≤ L.getD i 0 := hLp _ (List.mem_of_getElem? (getD_get (d := 0) (by omega)))
    have b4 := commit_up (i := i) hmay hL0 (bump hx hlt)
    have b3 : inB (i : Int) L.length = true := inB_of (by omega) (by omega)
    have hT : List.take L.length (List.drop 0 L) = L := by rw [List.drop_zero, List.take_length]
    have hT2 : ∀ w : Int, List.take L.length (List.drop 0 (L.set i w)) = L.set i w := fun w => by rw [List.drop_zero]; exact List.take_of_length_le (by simp)
    have hlen5 : decide (0 < (lstM m).length ∧ (lstM m).length ≤ 5) = true := decide_eq_true ⟨by omega, hlen.2⟩
    have hlen6 : decide (L.length = (lstM m).length ∧ (lstM m).length ≤ 5) = true := decide_eq_true ⟨hL0, hlen.2⟩
    have hne : decide ((((lstM m).length : Nat) : Int) ≠ 0) = true := decide_eq_true (by omega)
    simp only [Int.toNat_natCast, Nat.zero_add, hT, hT2, b1, b2, b3, hm, decide_eq_true b4, decide_eq_true hlt, hlen5, hlen6, hne]
    simp
  · refine ERc.pure_ok (os := [false, false, false, false, false, false, true, true, true, true, true]) (r := vB true) (cs := [(decide (comI (lstM m) (List.take (List.take (lstM m).length (mm5 m0 m1 m2 m3 m4)).length (List.drop 0 (List.take (lstM m).length (mm5 m0 m1 m2 m3 m4)))) ≥ comI (lstM m) (List.take (List.take (lstM m).length (mm5 m0 m1 m2 m3 m4)).length (List.drop 0 (List.take (lstM m).length (mm5 m0 m1 m2 m3 m4))))) == true), (decide (comI (lstM m) (List.take (List.take (lstM m).length (mm5 m0 m1 m2 m3 m4)).length (List.drop 0 (List.take (lstM m).length (mm5 m0 m1 m2 m3 m4)))) ≥ comI (lstM m) (List.take (List.take (lstM m).length (mm5 m0 m1 m2 m3 m4)).length (List.drop 0 (List.take (lstM m).length (mm5 m0 m1 m2 m3 m4))))) == true), (decide ((List.take (lstM m).length (mm5 m0 m1 m2 m3 m4)).getD (0 + ((IntKind.i64.wrap t).tmod (((lstM m).length : Nat) : Int)).toNat) 0 < 9223372036854775808) == false), (inB ((IntKind.i64.wrap t).tmod (((lstM m).length : Nat) : Int)) (List.take (lstM m).length (mm5 m0 m1 m2 m3 m4)).length), (decide ((((lstM m).length : Nat) : Int) ≠ 0)), (winI (lstM m) (selI (gtC (comI (lstM m) (List.take (List.take (lstM m).length (mm5 m0 m1 m2 m3 m4)).length (List.drop 0 (List.take (lstM m).length (mm5 m0 m1 m2 m3 m4)))))) (List.take (lstM m).length (mm5 m0 m1 m2 m3 m4)) (lstM m) (lstM m).length) == false), ((!winI (lstM m) (selI (geC (comI (lstM m) (List.take (List.take (lstM m).length (mm5 m0 m1 m2 m3 m4)).length (List.drop 0 (List.take (lstM m).length (mm5 m0 m1 m2 m3 m4)))))) (List.take (lstM m).length (mm5 m0 m1 m2 m3 m4)) (lstM m) (lstM m).length)) == false), ((!winI (lstM m) (selI (geC (comI (lstM m) (List.take (List.take (lstM m).length (mm5 m0 m1 m2 m3 m4)).length (List.drop 0 (List.take (lstM m).length (mm5 m0 m1 m2 m3 m4)))))) (List.take (lstM m).length (mm5 m0 m1 m2 m3 m4)) (lstM m) (lstM m).length)) == false), ((!winI (lstM m) (selI (geC (comI (lstM m) (List.take (List.take (lstM m).length (mm5 m0 m1 m2 m3 m4)).length (List.drop 0 (List.take (lstM m).length (mm5 m0 m1 m2 m3 m4)))))) (List.take (lstM m).length (mm5 m0 m1 m2 m3 m4)) (lstM m) (lstM m).length)) == false), ((!winI (lstM m) (selI (geC (comI (lstM m) (List.take (List.take (lstM m).length (mm5 m0 m1 m2 m3 m4)).length (List.drop 0 (List.take (lstM m).length (mm5 m0 m1 m2 m3 m4)))))) (List.take (lstM m).length (mm5 m0 m1 m2 m3 m4)) (lstM m) (lstM m).length)) == false), (decide (0 = 0)), (decide (1 = 1 ∧ 0 = 0 ∧ (List.take (lstM m).length (mm5 m0 m1 m2 m3 m4)).length = (List.take (lstM m).length (mm5 m0 m1 m2 m3 m4)).length)), (decide ((List.take (lstM m).length (mm5 m0 m1 m2 m3 m4)).length = (lstM m).length ∧ (lstM m).length ≤ 5)), (decide (0 = 0)), (decide (0 = 0 ∧ 0 = 0)), (decide (0 < (lstM m).length ∧ (lstM m).length ≤ 5)), (byteB m)]) (by kernel_rfl) (allI ?_)
    rw [hie]
    obtain ⟨L, hL⟩ : ∃ L, L = List.take (lstM m).length (mm5 m0 m1 m2 m3 m4) := ⟨_, rfl⟩
    rw [← hL] at hL0 hLp b1 b2 hlt ⊢
    have b3 : inB (i : Int) L.length = true := inB_of (by omega) (by omega)
    have hT : List.take L.length (List.drop 0 L) = L := by rw [List.drop_zero, List.take_length]
    have hlen5 : decide (0 < (lstM m).length ∧ (lstM m).length ≤ 5) = true := decide_eq_true ⟨by omega, hlen.2⟩
    have hlen6 : decide (L.length = (lstM m).length ∧ (lstM m).length ≤ 5) = true := decide_eq_true ⟨hL0, hlen.2⟩
    have hne : decide ((((lstM m).length : Nat) : Int) ≠ 0) = true := decide_eq_true (by omega)
    simp only [Int.toNat_natCast, Nat.zero_add, hT, b1, b2, b3, hm, decide_eq_false hlt, hlen5, hlen6, hne]
    simp

theorem rea_law (d : dens sRea) (h : WFs sRea d) : PureCall Try.prog 4 (encs sRea d) (vB true) := by
  obtain ⟨m, ⟨m0, m1, m2, m3, m4, _⟩, t, _⟩ := d
  have hm : byteB m = true := by
    have := h.1
    simp only [byteB, Bool.and_eq_true, decide_eq_true_eq]
    exact this
  exact rea_run m t m0 m1 m2 m3 m4 hm h.2.2.1 ⟨h.2.1.1.1, h.2.1.2.1.1, h.2.1.2.2.1.1, h.2.1.2.2.2.1.1, h.2.1.2.2.2.2.1.1⟩
end Go.Proofs.Ytcigjehfmiiolaa
