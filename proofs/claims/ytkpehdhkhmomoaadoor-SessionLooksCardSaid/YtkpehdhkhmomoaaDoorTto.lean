/- The document's TakeNumber: the contract; no statement. -/
import Derived.Test.YtkpehdhkhmomoaaDoorTtn
import Derived.Test.YtkpehdhkhmomoaaDoorDag
set_option linter.unusedVariables false
namespace Go.Proofs.YtkpehdhkhmomoaaDoor
open Go Go.Eng

def wN (v : Int) : ByteArray := strOfNums (numB v.toNat)
def vI0 (s : ByteArray) (i : Int) : Nat := vD s (i + 1).toNat 0
theorem vok : VOk vI0 := fun s i h0 h1 h9 => ti_loop s i h0 h1 h9
theorem wok : WOk wN := fun v h => number_pure v h
def fo (s : ByteArray) : Bool := (List.range 10).any fun m => decide (m < s.size) && decide (bN s m < 128)
theorem fo_iff {s : ByteArray} : fo s = true ↔ ∃ m, m < 10 ∧ m < s.size ∧ bN s m < 128 := by
  unfold fo
  rw [List.any_eq_true]
  constructor
  · rintro ⟨m, h1, h2⟩
    rw [Bool.and_eq_true, decide_eq_true_eq, decide_eq_true_eq] at h2
    exact ⟨m, List.mem_range.1 h1, h2.1, h2.2⟩
  · rintro ⟨m, h1, h2, h3⟩
    exact ⟨m, List.mem_range.2 h1, by rw [decide_eq_true h2, decide_eq_true h3]; rfl⟩
theorem toList_inj {a b : ByteArray} (h : a.toList = b.toList) : a = b := by
  rw [ByteArray.toList_eq, ByteArray.toList_eq] at h
  exact ByteArray.ext (Array.ext' h)
theorem tk_len {s : ByteArray} {m n : Nat} (hall : ∀ i, i + 1 < n → 128 ≤ bN s i) (hn : 1 ≤ n) (hlt : bN s (n - 1) < 128) (e4 : ∀ i, 0 ≤ i → i < 0 + m → 128 ≤ bN s i) (e5 : bN s (0 + m) < 128) : n = m + 1 := by
  rw [Nat.zero_add] at e4 e5
  rcases Nat.lt_trichotomy (n - 1) m with h | h | h
  · exact absurd (e4 (n - 1) (by omega) h) (by omega)
  · omega
  · exact absurd (hall m (by omega)) (by omega)
theorem tk_val (s : ByteArray) (n : Nat) (hn : 1 ≤ n) (h10 : n ≤ 10) (hs : n ≤ s.size) (hall : ∀ i, i + 1 < n → 128 ≤ bN s i) (hlt : bN s (n - 1) < 128) :
    (wN ((vD s n 0 : Nat) : Int) = s.extract 0 n → numD s 10 0 0 = (vD s n 0, n)) ∧ (wN ((vD s n 0 : Nat) : Int) ≠ s.extract 0 n → numD s 10 0 0 = (0, 0)) := by
  have hv : vD s n 0 < 18446744073709551616 := by
    rw [vD_eq s n 0 (by decide)]; exact Nat.mod_lt _ (by decide)
  constructor
  · intro h
    have e : s = wN ((vD s n 0 : Nat) : Int) ++ s.extract n s.size := by
      rw [h, ByteArray.extract_append_extract, Nat.min_eq_left (Nat.zero_le _), Nat.max_eq_right hs, ByteArray.extract_zero_size]
    unfold wN at e h
    rw [Int.toNat_natCast] at e h
    have hb := num_back hv (s.extract n s.size)
    rw [← e] at hb
    rw [hb]
    congr 1
    have := congrArg ByteArray.size h
    rw [strOfNums_size, ByteArray.size_extract] at this
    omega
  · intro h
    by_cases h0 : (numD s 10 0 0).2 = 0
    · exact Prod.ext (numD_zero s 10 0 0 h0) h0
    · exfalso
      apply h
      obtain ⟨m, e1, e2, e3, e4, e5⟩ := numD_vP s 10 0 0 rfl h0
      obtain ⟨w, a1, _, a3, a4, a5⟩ := numD_again s 10 0 0 rfl h0
      have hm : n = m + 1 := tk_len hall hn hlt e4 e5
      rw [Nat.pow_zero, Nat.mul_one, Nat.zero_add] at e3 a1
      rw [Nat.pow_zero, Nat.mul_one] at a3
      have hw : vD s n 0 = w := by
        rw [vD_eq s n 0 (by decide), Nat.zero_mul, Nat.zero_add, hm, ← e3, a1, Nat.mod_eq_of_lt (by omega)]
      rw [hw]
      unfold wN
      rw [Int.toNat_natCast, numB_eq (by omega), ← a5, e1, hm, Nat.zero_add]
noncomputable def lTo : Code := (theLoop Tryd.prog 23 2).getD .skip
theorem lTo_eq : theLoop Tryd.prog 23 2 = some lTo := by kernel_rfl
theorem to_loop (V : ByteArray → Int → Nat) (hV : VOk V) (W : Int → ByteArray) (hW : WOk W) (s : ByteArray) (hVV : ∀ n : Nat, V s ((n : Int) - 1) = vD s n 0) (hWW : ∀ v, W v = wN v) :
    (fo s = true → LoopOk Tryd.prog lTo 44 [4, 2, 3] [0] [vI 1, vU 0, vI 0] [vS s] [] .ret [vX, vU (numD s 10 0 0).1, vI (numD s 10 0 0).2] []) ∧
    (fo s = false → LoopOk Tryd.prog lTo 44 [4, 2, 3] [0] [vI 1, vU 0, vI 0] [vS s] [] (.exit 0) [vX, vU 0, vI 0] []) := by
  refine ⟨fun hf => ?_, fun hf => ?_⟩
  all_goals
    refine LoopOk.rounds (S := Nat) (ETi V hV W hW) lTo_eq (by kernel_rfl) (fun n => [vI n, vU 0, vI 0]) (fun _ => []) (fun n => 1 ≤ n ∧ n ≤ 11 ∧ n ≤ s.size + 1 ∧ ∀ i, i + 1 < n → 128 ≤ bN s i) (fun n => 11 - n) 1 ⟨by decide, by decide, by omega, fun i h => by omega⟩ ?_ (fun _ _ => rfl)
    intro n ⟨hn, h11, hsz, hall⟩
    by_cases h10 : n ≤ 10
    · have q1 : decide (((n : Nat) : Int) ≤ 10) = true := decide_eq_true (by omega)
      by_cases hs : n ≤ s.size
      · have q2 : decide (((n : Nat) : Int) ≤ ((s.size : Nat) : Int)) = true := decide_eq_true (by omega)
        have wn : IntKind.i64.wrap (((n : Nat) : Int) - 1) = ((n : Nat) : Int) - 1 := wrap64 (by omega) (by omega)
        have tn : (((n : Nat) : Int) - 1).toNat = n - 1 := by omega
        have q3 : inB (IntKind.i64.wrap (((n : Nat) : Int) - 1)) s.size = true := by rw [wn]; exact inB_of (by omega) (by omega)
        by_cases hb : 128 ≤ bN s (n - 1)
        · have q4 : decide (byteAt s (IntKind.i64.wrap (((n : Nat) : Int) - 1)).toNat ≥ 128) = true := decide_eq_true (by rw [wn, tn, byteAt_bN]; omega)
          refine OneRound.go [true, true, true, true, true, true, true] (vs := [vI (IntKind.i64.wrap (((n : Nat) : Int) + 1)), vU 0, vI 0]) (hp' := []) (cs := [decide (byteAt s (IntKind.i64.wrap (((n : Nat) : Int) - 1)).toNat ≥ 128) == true, inB (IntKind.i64.wrap (((n : Nat) : Int) - 1)) s.size, decide (((n : Nat) : Int) ≤ ((s.size : Nat) : Int)) == true, decide (((n : Nat) : Int) ≤ 10) == true, decide (((n : Nat) : Int) ≤ 10) == true, decide (((n : Nat) : Int) ≤ 10) == true, decide (((n : Nat) : Int) ≤ 10) == true, decide (((n : Nat) : Int) ≤ 10) == true]) (fun rest => by kernel_rfl) (allI (by rw [q1, q2, q3, q4]; rfl)) (n + 1) ⟨by omega, by omega, by omega, fun i hi => ?_⟩ (by omega) ⟨.of_eq ?_, .refl, .refl, trivial⟩ rfl (.inl (Nat.le_refl _))
          · by_cases he : i = n - 1
            · subst he; exact hb
            · exact hall i (by omega)
          · rw [wrap64 (by omega) (by omega)]; rfl
        · have q4 : decide (byteAt s (IntKind.i64.wrap (((n : Nat) : Int) - 1)).toNat ≥ 128) = false := decide_eq_false (by rw [wn, tn, byteAt_bN]; omega)
          have hfo : fo s = true := fo_iff.2 ⟨n - 1, by omega, by omega, by omega⟩
          have q5 : decide ((-1 : Int) ≤ IntKind.i64.wrap (((n : Nat) : Int) - 1) ∧ IntKind.i64.wrap (((n : Nat) : Int) - 1) < ((s.size : Nat) : Int) ∧ IntKind.i64.wrap (((n : Nat) : Int) - 1) ≤ 9) = true := by rw [wn]; exact decide_eq_true (by omega)
          have hv : vD s n 0 < 18446744073709551616 := by
            rw [vD_eq s n 0 (by decide)]; exact Nat.mod_lt _ (by decide)
          have ev : V s (IntKind.i64.wrap (((n : Nat) : Int) - 1)) = vD s n 0 := by rw [wn]; exact hVV n
          have q6 : uOk (V s (IntKind.i64.wrap (((n : Nat) : Int) - 1)) : Nat) = true := by rw [ev, uOk, decide_eq_true (by omega), decide_eq_true (by omega)]; rfl
          have q7 : decide ((0 : Int) ≤ 0 ∧ (0 : Int) ≤ ((n : Nat) : Int) ∧ ((n : Nat) : Int) ≤ ((s.size : Nat) : Int)) = true := decide_eq_true (by omega)
          have hval := tk_val s n hn h10 hs hall (by omega)
          rw [← ev, ← hWW] at hval
          have et : s.extract (Int.toNat 0) (((n : Nat) : Int)).toNat = s.extract 0 n := by rw [Int.toNat_natCast]; rfl
          cases hc : (!((W (V s (IntKind.i64.wrap (((n : Nat) : Int) - 1)) : Nat)).toList == (s.extract (Int.toNat 0) (((n : Nat) : Int)).toNat).toList)) with
          | true =>
            have hne : W (V s (IntKind.i64.wrap (((n : Nat) : Int) - 1)) : Nat) ≠ s.extract 0 n := by
              intro he; rw [he, et, beq_self_eq_true] at hc; cases hc
            have hr := hval.2 hne
            first
              | exact absurd (hfo.symm.trans hf) (by decide)
              | exact OneRound.stop [true, true, true, true, true, true, false, true] (vs := [vI n, vU 0, vI 0]) (hp' := []) (cs := [(!((W (V s (IntKind.i64.wrap (((n : Nat) : Int) - 1)) : Nat)).toList == (s.extract (Int.toNat 0) (((n : Nat) : Int)).toNat).toList)) == true, decide ((0 : Int) ≤ 0 ∧ (0 : Int) ≤ ((n : Nat) : Int) ∧ ((n : Nat) : Int) ≤ ((s.size : Nat) : Int)), uOk (V s (IntKind.i64.wrap (((n : Nat) : Int) - 1)) : Nat), decide ((0 : Int) = 0), decide ((-1 : Int) ≤ IntKind.i64.wrap (((n : Nat) : Int) - 1) ∧ IntKind.i64.wrap (((n : Nat) : Int) - 1) < ((s.size : Nat) : Int) ∧ IntKind.i64.wrap (((n : Nat) : Int) - 1) ≤ 9), true, decide (byteAt s (IntKind.i64.wrap (((n : Nat) : Int) - 1)).toNat ≥ 128) == false, inB (IntKind.i64.wrap (((n : Nat) : Int) - 1)) s.size, decide (((n : Nat) : Int) ≤ ((s.size : Nat) : Int)) == true, decide (((n : Nat) : Int) ≤ 10) == true, decide (((n : Nat) : Int) ≤ 10) == true, decide (((n : Nat) : Int) ≤ 10) == true, decide (((n : Nat) : Int) ≤ 10) == true, decide (((n : Nat) : Int) ≤ 10) == true]) (fun rest => by kernel_rfl) (allI (by rw [hc, q1, q2, q3, q4, q5, q6, q7]; rfl)) (by simp) ⟨.unk, .of_eq (by rw [hr]; rfl), .of_eq (by rw [hr]; rfl), trivial⟩ rfl (.inl (Nat.le_refl _))
          | false =>
            have heq : W (V s (IntKind.i64.wrap (((n : Nat) : Int) - 1)) : Nat) = s.extract 0 n := by
              rw [et] at hc
              have : ((W (V s (IntKind.i64.wrap (((n : Nat) : Int) - 1)) : Nat)).toList == (s.extract 0 n).toList) = true := by
                cases hx : ((W (V s (IntKind.i64.wrap (((n : Nat) : Int) - 1)) : Nat)).toList == (s.extract 0 n).toList) with
                | true => rfl
                | false => rw [hx] at hc; cases hc
              exact toList_inj (eq_of_beq this)
            have hr := hval.1 heq
            first
              | exact absurd (hfo.symm.trans hf) (by decide)
              | exact OneRound.stop [true, true, true, true, true, true, false, false] (vs := [vI n, vU (V s (IntKind.i64.wrap (((n : Nat) : Int) - 1)) : Nat), vI n]) (hp' := []) (cs := [(!((W (V s (IntKind.i64.wrap (((n : Nat) : Int) - 1)) : Nat)).toList == (s.extract (Int.toNat 0) (((n : Nat) : Int)).toNat).toList)) == false, decide ((0 : Int) ≤ 0 ∧ (0 : Int) ≤ ((n : Nat) : Int) ∧ ((n : Nat) : Int) ≤ ((s.size : Nat) : Int)), uOk (V s (IntKind.i64.wrap (((n : Nat) : Int) - 1)) : Nat), decide ((0 : Int) = 0), decide ((-1 : Int) ≤ IntKind.i64.wrap (((n : Nat) : Int) - 1) ∧ IntKind.i64.wrap (((n : Nat) : Int) - 1) < ((s.size : Nat) : Int) ∧ IntKind.i64.wrap (((n : Nat) : Int) - 1) ≤ 9), true, decide (byteAt s (IntKind.i64.wrap (((n : Nat) : Int) - 1)).toNat ≥ 128) == false, inB (IntKind.i64.wrap (((n : Nat) : Int) - 1)) s.size, decide (((n : Nat) : Int) ≤ ((s.size : Nat) : Int)) == true, decide (((n : Nat) : Int) ≤ 10) == true, decide (((n : Nat) : Int) ≤ 10) == true, decide (((n : Nat) : Int) ≤ 10) == true, decide (((n : Nat) : Int) ≤ 10) == true, decide (((n : Nat) : Int) ≤ 10) == true]) (fun rest => by kernel_rfl) (allI (by rw [hc, q1, q2, q3, q4, q5, q6, q7]; rfl)) (by simp) ⟨.unk, .of_eq (by rw [hr]), .of_eq (by rw [hr]), trivial⟩ rfl (.inl (Nat.le_refl _))
      · have q2 : decide (((n : Nat) : Int) ≤ ((s.size : Nat) : Int)) = false := decide_eq_false (by omega)
        have hno : fo s = false := by
          cases hx : fo s with
          | false => rfl
          | true =>
            obtain ⟨m, m1, m2, m3⟩ := fo_iff.1 hx
            exact absurd (hall m (by omega)) (by omega)
        first
          | exact absurd (hf.symm.trans hno) (by decide)
          | exact OneRound.stop [true, true, true, true, true, false] (vs := [vI n, vU 0, vI 0]) (hp' := []) (cs := [decide (((n : Nat) : Int) ≤ ((s.size : Nat) : Int)) == false, decide (((n : Nat) : Int) ≤ 10) == true, decide (((n : Nat) : Int) ≤ 10) == true, decide (((n : Nat) : Int) ≤ 10) == true, decide (((n : Nat) : Int) ≤ 10) == true, decide (((n : Nat) : Int) ≤ 10) == true]) (fun rest => by kernel_rfl) (allI (by rw [q1, q2]; rfl)) (by simp) ⟨.unk, .refl, .refl, trivial⟩ rfl (.inl (Nat.le_refl _))
    · have q1 : decide (((n : Nat) : Int) ≤ 10) = false := decide_eq_false (by omega)
      have hno : fo s = false := by
        cases hx : fo s with
        | false => rfl
        | true =>
          obtain ⟨m, m1, m2, m3⟩ := fo_iff.1 hx
          exact absurd (hall m (by omega)) (by omega)
      first
        | exact absurd (hf.symm.trans hno) (by decide)
        | exact OneRound.stop [false, false, false, false, false] (vs := [vI n, vU 0, vI 0]) (hp' := []) (cs := [decide (((n : Nat) : Int) ≤ 10) == false, decide (((n : Nat) : Int) ≤ 10) == false, decide (((n : Nat) : Int) ≤ 10) == false, decide (((n : Nat) : Int) ≤ 10) == false, decide (((n : Nat) : Int) ≤ 10) == false]) (fun rest => by kernel_rfl) (allI (by rw [q1]; rfl)) (by simp) ⟨.unk, .refl, .refl, trivial⟩ rfl (.inl (Nat.le_refl _))
noncomputable def ETo : Env Tryd.prog := E0.addLT 23 2 lTo_eq 44 [4, 2, 3] [0] (by kernel_rfl) [.one cI, .one cU, .one cI] [.one .str]
  (fun (n, v, i, _) (s, _) hp os => brL (fo s) os
    (fun os => retC (.ret, [vX, vU (numV s), vI (numN s)], []) [decide (n = 1), decide (v = 0), decide (i = 0), hp.isEmpty] os)
    (fun os => retC (.exit 0, [vX, vU 0, vI 0], []) [decide (n = 1), decide (v = 0), decide (i = 0), hp.isEmpty] os))
  (fun (n, v, i, _) (s, _) hp os e outs hp' cs os' h hc => by
    have hL := to_loop vI0 vok wN wok s (fun n => by unfold vI0; congr 1; omega) (fun v => rfl)
    rcases brL_some h hc with ⟨hb, o, c, h, hc⟩ | ⟨hb, o, c, h, hc⟩
    all_goals
      simp only [retC, Option.some.injEq, Prod.mk.injEq] at h
      obtain ⟨⟨rfl, rfl, rfl⟩, rfl, rfl⟩ := h
      obtain ⟨h1, hc⟩ := of_allTc hc
      obtain ⟨h2, hc⟩ := of_allTc hc
      obtain ⟨h3, hc⟩ := of_allTc hc
      obtain ⟨h4, _⟩ := of_allTc hc
      have h4 := List.isEmpty_iff.1 h4
      simp only [decide_eq_true_eq] at h1 h2 h3
      subst h1; subst h2; subst h3; subst h4
      first | exact hL.1 hb | exact hL.2 hb)
theorem take_number (s : ByteArray) : PureCall Tryd.prog 23 [vS s] (tupN (numV s) (numN s)) := by
  cases h : fo s with
  | true => exact ETo.pure_ok (os := [true]) (cs := [decide ((1 : Int) = 1), decide ((0 : Int) = 0), decide ((0 : Int) = 0), true, fo s == true]) (by kernel_rfl) (allI (by rw [h]; rfl))
  | false =>
    refine PureCall.res (ETo.pure_ok (os := [false]) (r := tupN 0 0) (cs := [decide ((1 : Int) = 1), decide ((0 : Int) = 0), decide ((0 : Int) = 0), true, fo s == false]) (by kernel_rfl) (allI (by rw [h]; rfl))) ?_
    have h0 : (numD s 10 0 0).2 = 0 := by
      by_cases hx : (numD s 10 0 0).2 = 0
      · exact hx
      · obtain ⟨m, e1, e2, _, _, e5⟩ := numD_vP s 10 0 0 rfl hx
        have := numD_le s 10 0 0
        rw [Nat.zero_add] at e5
        exact absurd (fo_iff.2 ⟨m, by omega, by omega, e5⟩) (by rw [h]; decide)
    unfold numV numN
    rw [h0, numD_zero s 10 0 0 h0]; rfl
end Go.Proofs.YtkpehdhkhmomoaaDoor
