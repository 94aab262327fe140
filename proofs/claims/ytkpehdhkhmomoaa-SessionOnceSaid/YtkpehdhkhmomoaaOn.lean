/- SessionOnce's loop; no statement. -/
import Derived.Test.YtkpehdhkhmomoaaLo
import Derived.Test.YtkpehdhkhmomoaaSbk
set_option linter.unusedVariables false
namespace Go.Proofs.Ytkpehdhkhmomoaa
open Go Go.Eng

def pkB (f : Nat → Bool) (n : Int) (j : Nat) : Nat → Bool
  | 0 => f j
  | k + 1 => bif decide (n = ((j : Nat) : Int)) then f j else pkB f n (j + 1) k
def pkI (f : Nat → Int) (n : Int) (j : Nat) : Nat → Int
  | 0 => f j
  | k + 1 => bif decide (n = ((j : Nat) : Int)) then f j else pkI f n (j + 1) k
theorem pkB_eq (f : Nat → Bool) (n : Nat) : ∀ (k j : Nat), j ≤ n → n ≤ j + k → pkB f ((n : Nat) : Int) j k = f n
  | 0, j, h1, h2 => by rw [pkB, show n = j by omega]
  | k + 1, j, h1, h2 => by
    rw [pkB]
    by_cases h : n = j
    · subst h; simp
    · rw [decide_eq_false (by omega), cond_false]; exact pkB_eq f n k (j + 1) (by omega) (by omega)
theorem pkI_eq (f : Nat → Int) (n : Nat) : ∀ (k j : Nat), j ≤ n → n ≤ j + k → pkI f ((n : Nat) : Int) j k = f n
  | 0, j, h1, h2 => by rw [pkI, show n = j by omega]
  | k + 1, j, h1, h2 => by
    rw [pkI]
    by_cases h : n = j
    · subst h; simp
    · rw [decide_eq_false (by omega), cond_false]; exact pkI_eq f n k (j + 1) (by omega) (by omega)
def setB (f : Nat → Bool) (n : Int) (k : Nat) : Bool := bif decide (n = ((k : Nat) : Int)) then true else f k
def setI (f : Nat → Int) (n x : Int) (k : Nat) : Int := bif decide (n = ((k : Nat) : Int)) then x else f k
def nA (l : List Int) (i : Nat) : Int := IntKind.i64.wrap (Int.tmod (l.getD i 0) 16)
def sN (l : List Int) (i : Nat) : Int := IntKind.u64.wrap (IntKind.u64.wrap (nA l i) + 1)
def tN (l : List Int) (i : Nat) : Int := IntKind.i64.wrap (nA l i + 1)
def uI (i : Nat) : Int := IntKind.u64.wrap (IntKind.u64.wrap ((i : Nat) : Int) + 1)
def eB : ByteArray := ByteArray.mk #[]
theorem emp {s : ByteArray} (h0 : s.size = 0) : s = ByteArray.mk #[] := by
  cases s with
  | mk a => cases a with | mk l => cases l with
    | nil => rfl
    | cons x xs => simp [ByteArray.size] at h0
/-- What is read of a laid session. -/
structure Sess (n a : Int) (s : ByteArray) : Prop where
  x1 : decG (rR s) = true
  x2 : numV s = n
  x3 : lookF s = true
  x4 : IntKind.i64.wrap (numV (rR s)) = 0
  x5 : (byteAt (tH (s1 (rR s))) (Int.toNat 0) == 1) = true
  x6 : tX (s2 (rR s)) = ByteArray.mk #[]
  x7 : tX (s3 (rR s)) = ByteArray.mk #[]
  x8 : numV (s4 (rR s)) = a
  k1 : s.size.beq 0 = false
theorem sess {n a : Int} (h1 : 1 ≤ n) (h2 : n ≤ 16) (h3 : 1 ≤ a) (h4 : a ≤ 60) : putE n 0 true (ByteArray.mk #[]) (ByteArray.mk #[]) a = 0 ∧ Sess n a (putV n 0 true (ByteArray.mk #[]) (ByteArray.mk #[]) a) := by
  obtain ⟨e, x1, x2, x3, x4, x5, x6, x7, x8, _, _, _, _, _, _, k1, _⟩ := back (n := n - 1) (e := 0) true (ByteArray.mk #[]) (ByteArray.mk #[]) (ver := a) (by omega) (by omega) (by omega) (by omega)
  have en : nn (n - 1) = n := by
    rw [(nn_ok (show 0 ≤ n - 1 by omega)).1, Int.tmod_eq_of_lt (by omega) (by omega)]; omega
  have ea : vR a = a := by unfold vR; exact Int.tmod_eq_of_lt (by omega) (by omega)
  have er : rW (ByteArray.mk #[]) = ByteArray.mk #[] := emp (by unfold rW; rw [ByteArray.size_extract]; show min _ (0 : Nat) - _ = 0; omega)
  have ev : vL (ByteArray.mk #[]) = ByteArray.mk #[] := emp (by unfold vL; rw [ByteArray.size_extract]; show min _ (0 : Nat) - _ = 0; omega)
  unfold pE at e
  rw [en, ea, er, ev] at e
  have ep : pS (n - 1) 0 true (ByteArray.mk #[]) (ByteArray.mk #[]) a = putV n 0 true (ByteArray.mk #[]) (ByteArray.mk #[]) a := by
    unfold pS; rw [en, ea, er, ev]
  rw [ep] at x1 x2 x3 x4 x5 x6 x7 x8 k1
  refine ⟨e, x1, x2.trans en, x3, x4, x5, x6.trans er, x7.trans ev, x8.trans ea, ?_⟩
  rw [Bool.eq_false_iff]; intro h; simp only [Nat.beq_eq] at h; omega

abbrev OSt := Nat × Nat × (Nat → Bool) × (Nat → Int)
def ocell (t : Nat) (A : Nat → Int) : ByteArray := if t = 0 then ByteArray.mk #[] else putV ((t : Nat) : Int) 0 true (ByteArray.mk #[]) (ByteArray.mk #[]) (A (t - 1))
def ohp (D : Nat → Bool) (A : Nat → Int) : List AB := [.cells [.bool (D 0), .bool (D 1), .bool (D 2), .bool (D 3), .bool (D 4), .bool (D 5), .bool (D 6), .bool (D 7), .bool (D 8), .bool (D 9), .bool (D 10), .bool (D 11), .bool (D 12), .bool (D 13), .bool (D 14), .bool (D 15)], .cells [.int .u64 (A 0), .int .u64 (A 1), .int .u64 (A 2), .int .u64 (A 3), .int .u64 (A 4), .int .u64 (A 5), .int .u64 (A 6), .int .u64 (A 7), .int .u64 (A 8), .int .u64 (A 9), .int .u64 (A 10), .int .u64 (A 11), .int .u64 (A 12), .int .u64 (A 13), .int .u64 (A 14), .int .u64 (A 15)]]
theorem ids_ok (i t : Int) (s : ByteArray) (D : Nat → Bool) (A : Nat → Int) : idsLt 2 [vI i, vS s, vI t] (ohp D A) := by
  refine ⟨fun v hv j hj => ?_, fun b hb j hj => ?_⟩
  · simp only [List.mem_cons, List.not_mem_nil, or_false] at hv
    rcases hv with rfl | rfl | rfl <;> simp [idsV, idsC] at hj
  · simp only [ohp, List.mem_cons, List.not_mem_nil, or_false] at hb
    rcases hb with rfl | rfl <;> simp [idsB, idsC] at hj
def ostep (l : List Int) : OSt → OSt := fun s => if s.2.1 ≤ (nA l s.1).toNat then (s.1 + 1, (nA l s.1).toNat + 1, setB s.2.2.1 (nA l s.1), setI s.2.2.2 (nA l s.1) (uI s.1)) else (s.1 + 1, s.2.1, s.2.2.1, s.2.2.2)
def ofin (l : List Int) : Nat → OSt → OSt
  | 0, s => s
  | f + 1, s => if s.1 < l.length then ofin l f (ostep l s) else s
structure OInv (l : List Int) (r : OSt) (s : OSt) : Prop where
  i : s.1 ≤ 60
  t : s.2.1 ≤ 16
  d : ∀ k, s.2.2.1 k = true → k < s.2.1
  a : 0 < s.2.1 → s.2.2.1 (s.2.1 - 1) = true ∧ 1 ≤ s.2.2.2 (s.2.1 - 1) ∧ s.2.2.2 (s.2.1 - 1) ≤ 60
  fin : ofin l (60 - s.1) s = r
noncomputable def lOn : Code := (theLoop Try.prog 4 6).getD .skip
theorem lOn_eq : theLoop Try.prog 4 6 = some lOn := by kernel_rfl

theorem once_loop (l : List Int) (hl : ∀ x ∈ l, 0 ≤ x ∧ x < 256) (s0 r : OSt) (h0 : OInv l r s0) :
    LoopOk Try.prog lOn 119 [7, 3, 6] [0, 4, 5] [vI s0.1, vS (ocell s0.2.1 s0.2.2.2), vI s0.2.1] [.one (.sl cB l .shared), .one (.ptr 0 0), .one (.ptr 1 0)] (ohp s0.2.2.1 s0.2.2.2) (.exit 0) [vX, vX, vX] (ohp r.2.2.1 r.2.2.2) := by
  refine LoopOk.rounds (S := OSt) ELo lOn_eq (by kernel_rfl) (fun s => [vI s.1, vS (ocell s.2.1 s.2.2.2), vI s.2.1]) (fun s => ohp s.2.2.1 s.2.2.2) (OInv l r) (fun s => 60 - s.1) s0 h0 ?_ (fun _ _ => rfl)
  intro ⟨i, t, D, A⟩ ⟨hi, ht, hD, hA, hfin⟩
  simp only at hi ht hD hA hfin
  show OneRound ELo _ lOn 119 2 [7, 3, 6] _ _ _ _ _ _ _ _ _
  by_cases hlt : i < l.length
  · have q1 : decide (((i : Nat) : Int) < ((l.length : Nat) : Int)) = true := decide_eq_true (by omega)
    by_cases h60 : i < 60
    · have q2 : decide (((i : Nat) : Int) < 60) = true := decide_eq_true (by omega)
      have q3 : inB ((i : Nat) : Int) l.length = true := inB_of (by omega) (by omega)
      have hx : 0 ≤ l.getD i 0 ∧ l.getD i 0 < 256 := by
        rw [List.getD_eq_getElem?_getD, List.getElem?_eq_getElem hlt]
        exact hl _ (List.getElem_mem hlt)
      obtain ⟨n, hn, hn16⟩ : ∃ n : Nat, nA l i = ((n : Nat) : Int) ∧ n < 16 := by
        have h1 := tmod_pos (m := 16) hx.1 (by omega)
        refine ⟨(Int.tmod (l.getD i 0) 16).toNat, ?_, by omega⟩
        unfold nA; rw [wrap64 (by omega) (by omega)]; omega
      have es : sN l i = ((n + 1 : Nat) : Int) := by unfold sN; rw [hn, wrapU64 (n := ((n : Nat) : Int)) (by omega) (by omega), wrapU64 (by omega) (by omega)]; omega
      have et : tN l i = ((n + 1 : Nat) : Int) := by unfold tN; rw [hn, wrap64 (by omega) (by omega)]; omega
      have eu : uI i = ((i + 1 : Nat) : Int) := by unfold uI; rw [wrapU64 (n := ((i : Nat) : Int)) (by omega) (by omega), wrapU64 (by omega) (by omega)]; omega
      have eD : pkB D (nA l i) 0 15 = D n := by rw [hn]; exact pkB_eq D n 15 0 (by omega) (by omega)
      have eA : pkI A (nA l i) 0 15 = A n := by rw [hn]; exact pkI_eq A n 15 0 (by omega) (by omega)
      have eS : pkI (setI A (nA l i) (uI i)) (nA l i) 0 15 = ((i + 1 : Nat) : Int) := by
        rw [hn, pkI_eq _ n 15 0 (by omega) (by omega), setI, decide_eq_true rfl, cond_true, eu]
      have qn : inB (nA l i) 16 = true := by rw [hn]; exact inB_of (by omega) (by omega)
      have g1 : decide (sN l i ≥ 1) = true := decide_eq_true (by rw [es]; omega)
      have g2 : decide (sN l i ≤ 1099511627776) = true := decide_eq_true (by rw [es]; omega)
      have u1 : uOk (sN l i) = true := uOk_in (by rw [es]; omega) (by rw [es]; omega)
      have u2 : uOk (pkI (setI A (nA l i) (uI i)) (nA l i) 0 15) = true := uOk_in (by rw [eS]; omega) (by rw [eS]; omega)
      have wi : IntKind.i64.wrap (((i : Nat) : Int) + 1) = ((i + 1 : Nat) : Int) := by rw [wrap64 (by omega) (by omega)]; omega
      have hf : ofin l (60 - (i + 1)) (ostep l (i, t, D, A)) = r := by
        rw [show 60 - i = (60 - (i + 1)) + 1 by omega, ofin, if_pos hlt] at hfin; exact hfin
      obtain ⟨pe, sp⟩ := sess (n := ((n + 1 : Nat) : Int)) (a := ((i + 1 : Nat) : Int)) (by omega) (by omega) (by omega) (by omega)
      have eE : (putE (sN l i) 0 true (ByteArray.mk #[]) (ByteArray.mk #[]) (pkI (setI A (nA l i) (uI i)) (nA l i) 0 15) != 0) = false := by rw [es, eS, pe]; rfl
      by_cases htn : t ≤ n
      · have hstep : ostep l (i, t, D, A) = (i + 1, n + 1, setB D (nA l i), setI A (nA l i) (uI i)) := by
          unfold ostep; simp only [hn, Int.toNat_natCast]; rw [if_pos htn]
        rw [hstep] at hf
        have dn : D n = false := by
          rw [Bool.eq_false_iff]; intro h; have := hD n h; omega
        have c1 : decide (tN l i ≤ ((t : Nat) : Int)) = false := decide_eq_false (by rw [et]; omega)
        have c2 : decide (nA l i < ((t : Nat) : Int)) = false := decide_eq_false (by rw [hn]; omega)
        have inv : OInv l r (i + 1, n + 1, setB D (nA l i), setI A (nA l i) (uI i)) := by
          refine ⟨by show i + 1 ≤ 60; omega, by show n + 1 ≤ 16; omega, fun k hk => ?_, fun _ => ?_, hf⟩
          · simp only [setB, hn] at hk
            show k < n + 1
            by_cases e : n = k
            · omega
            · rw [decide_eq_false (by omega), cond_false] at hk
              have := hD k hk; omega
          · simp only [Nat.add_sub_cancel, setB, setI, hn, decide_true, cond_true, eu]
            exact ⟨by simp, by omega, by omega⟩
        have vals : Wks (ohp (setB D (nA l i)) (setI A (nA l i) (uI i))) [vI (IntKind.i64.wrap (((i : Nat) : Int) + 1)), vS (putV (sN l i) 0 true (ByteArray.mk #[]) (ByteArray.mk #[]) (pkI (setI A (nA l i) (uI i)) (nA l i) 0 15)), vI (tN l i)] [vI ((i + 1 : Nat) : Int), vS (ocell (n + 1) (setI A (nA l i) (uI i))), vI ((n + 1 : Nat) : Int)] := by
          refine Wks.of_eq ?_
          have : setI A (nA l i) (uI i) n = ((i + 1 : Nat) : Int) := by simp only [setI, hn, decide_true, cond_true, eu]
          rw [wi, es, et, eS]
          simp only [ocell, Nat.succ_ne_zero, if_false, Nat.add_sub_cancel, this]
        by_cases h0 : t = 0
        · obtain ⟨s, hs⟩ : ∃ s, s = ocell t A := ⟨_, rfl⟩
          have k0 : s.size.beq 0 = true := by rw [hs]; unfold ocell; rw [if_pos h0]; rfl
          exact OneRound.go (List.replicate 5 true ++ List.replicate 20 false) (vs := [(.one (.int .i64 (IntKind.i64.wrap (((i : Nat) : Int) + 1)))), (.one (.str (putV (sN l i) 0 true (ByteArray.mk #[]) (ByteArray.mk #[]) (pkI (setI A (nA l i) (uI i)) (nA l i) 0 15)))), (.one (.int .i64 (tN l i)))]) (hp' := [(.cells [(.bool (setB D (nA l i) 0)), (.bool (setB D (nA l i) 1)), (.bool (setB D (nA l i) 2)), (.bool (setB D (nA l i) 3)), (.bool (setB D (nA l i) 4)), (.bool (setB D (nA l i) 5)), (.bool (setB D (nA l i) 6)), (.bool (setB D (nA l i) 7)), (.bool (setB D (nA l i) 8)), (.bool (setB D (nA l i) 9)), (.bool (setB D (nA l i) 10)), (.bool (setB D (nA l i) 11)), (.bool (setB D (nA l i) 12)), (.bool (setB D (nA l i) 13)), (.bool (setB D (nA l i) 14)), (.bool (setB D (nA l i) 15))]), (.cells [(.int .u64 (setI A (nA l i) (uI i) 0)), (.int .u64 (setI A (nA l i) (uI i) 1)), (.int .u64 (setI A (nA l i) (uI i) 2)), (.int .u64 (setI A (nA l i) (uI i) 3)), (.int .u64 (setI A (nA l i) (uI i) 4)), (.int .u64 (setI A (nA l i) (uI i) 5)), (.int .u64 (setI A (nA l i) (uI i) 6)), (.int .u64 (setI A (nA l i) (uI i) 7)), (.int .u64 (setI A (nA l i) (uI i) 8)), (.int .u64 (setI A (nA l i) (uI i) 9)), (.int .u64 (setI A (nA l i) (uI i) 10)), (.int .u64 (setI A (nA l i) (uI i) 11)), (.int .u64 (setI A (nA l i) (uI i) 12)), (.int .u64 (setI A (nA l i) (uI i) 13)), (.int .u64 (setI A (nA l i) (uI i) 14)), (.int .u64 (setI A (nA l i) (uI i) 15))]), (.cells [(.int .i64 (0)), (.bool false), (.str ((ByteArray.mk #[]))), (.str ((ByteArray.mk #[]))), (.int .u64 (0))])]) (cs := [((putE (sN l i) 0 true (ByteArray.mk #[]) (ByteArray.mk #[]) (pkI (setI A (nA l i) (uI i)) (nA l i) 0 15) != 0) == false), (uOk (sN l i)), (uOk (pkI (setI A (nA l i) (uI i)) (nA l i) 0 15)), (inB (nA l i) 16), (inB (nA l i) 16), (inB (nA l i) 16), (decide (tN l i ≤ ((t : Nat) : Int)) == false), ((pkB D (nA l i) 0 15) == false), ((pkB D (nA l i) 0 15) == false), ((pkB D (nA l i) 0 15) == false), ((pkB D (nA l i) 0 15) == false), ((pkB D (nA l i) 0 15) == false), (inB (nA l i) 16), (false == false), (false == false), ((0 == 12) == false), (false == false), (false == false), (false == false), (false == false), (false == false), (false == false), (false == false), (decide (nA l i < ((t : Nat) : Int)) == false), (decide (nA l i < ((t : Nat) : Int)) == false), (decide (nA l i < ((t : Nat) : Int)) == false), (decide (sN l i ≥ 1)), (decide (sN l i ≤ 1099511627776)), (s.size.beq 0 == true), (inB (((i : Nat) : Int)) l.length), (decide (((i : Nat) : Int) < 60) == true), (decide (((i : Nat) : Int) < ((l.length : Nat) : Int)) == true), (decide (((i : Nat) : Int) < ((l.length : Nat) : Int)) == true), (decide (((i : Nat) : Int) < ((l.length : Nat) : Int)) == true)]) (fun rest => by show view [7, 3, 6] (ELo.round 4 lOn (headS 119 (zipT [7, 3, 6] [vI i, vS (ocell t A), vI ((t : Nat) : Int)] ++ (zipT [0, 4, 5] [.one (.sl cB l .shared), .one (.ptr 0 0), .one (.ptr 1 0)] ++ rest)) (ohp D A) _)) = _; rw [← hs]; kernel_rfl) (allI (by simp only [q1, q2, q3, qn, g1, g2, u1, u2, eD, eA, eE, dn, c1, c2, k0]; rfl)) (i + 1, n + 1, setB D (nA l i), setI A (nA l i) (uI i)) inv (by show 60 - (i + 1) < 60 - i; omega) vals rfl (.inr (ids_ok _ _ _ _ _))
        · have ec : ocell t A = putV ((t : Nat) : Int) 0 true (ByteArray.mk #[]) (ByteArray.mk #[]) (A (t - 1)) := by unfold ocell; rw [if_neg h0]
          obtain ⟨a1, a2, a3⟩ := hA (by omega)
          obtain ⟨_, x1, x2, x3, x4, x5, x6, x7, x8, k1⟩ := sess (n := ((t : Nat) : Int)) (a := A (t - 1)) (by omega) (by omega) a2 a3
          rw [← ec] at x1 x2 x3 x4 x5 x6 x7 x8 k1
          obtain ⟨s, hs⟩ : ∃ s, s = ocell t A := ⟨_, rfl⟩
          rw [← hs] at x1 x2 x3 x4 x5 x6 x7 x8 k1
          have y1 : (sN l i == numV s) = false := beq_eq_false_iff_ne.2 (by rw [es, x2]; omega)
          have y2 : decide (sN l i < numV s) = false := decide_eq_false (by rw [es, x2]; omega)
          exact OneRound.go (List.replicate 4 true ++ List.replicate 30 false) (vs := [(.one (.int .i64 (IntKind.i64.wrap (((i : Nat) : Int) + 1)))), (.one (.str (putV (sN l i) 0 true (ByteArray.mk #[]) (ByteArray.mk #[]) (pkI (setI A (nA l i) (uI i)) (nA l i) 0 15)))), (.one (.int .i64 (tN l i)))]) (hp' := [(.cells [(.bool (setB D (nA l i) 0)), (.bool (setB D (nA l i) 1)), (.bool (setB D (nA l i) 2)), (.bool (setB D (nA l i) 3)), (.bool (setB D (nA l i) 4)), (.bool (setB D (nA l i) 5)), (.bool (setB D (nA l i) 6)), (.bool (setB D (nA l i) 7)), (.bool (setB D (nA l i) 8)), (.bool (setB D (nA l i) 9)), (.bool (setB D (nA l i) 10)), (.bool (setB D (nA l i) 11)), (.bool (setB D (nA l i) 12)), (.bool (setB D (nA l i) 13)), (.bool (setB D (nA l i) 14)), (.bool (setB D (nA l i) 15))]), (.cells [(.int .u64 (setI A (nA l i) (uI i) 0)), (.int .u64 (setI A (nA l i) (uI i) 1)), (.int .u64 (setI A (nA l i) (uI i) 2)), (.int .u64 (setI A (nA l i) (uI i) 3)), (.int .u64 (setI A (nA l i) (uI i) 4)), (.int .u64 (setI A (nA l i) (uI i) 5)), (.int .u64 (setI A (nA l i) (uI i) 6)), (.int .u64 (setI A (nA l i) (uI i) 7)), (.int .u64 (setI A (nA l i) (uI i) 8)), (.int .u64 (setI A (nA l i) (uI i) 9)), (.int .u64 (setI A (nA l i) (uI i) 10)), (.int .u64 (setI A (nA l i) (uI i) 11)), (.int .u64 (setI A (nA l i) (uI i) 12)), (.int .u64 (setI A (nA l i) (uI i) 13)), (.int .u64 (setI A (nA l i) (uI i) 14)), (.int .u64 (setI A (nA l i) (uI i) 15))]), (.cells [(.int .i64 (0)), (.bool false), (.str ((ByteArray.mk #[]))), (.str ((ByteArray.mk #[]))), (.int .u64 (0))])]) (cs := [((putE (sN l i) 0 true (ByteArray.mk #[]) (ByteArray.mk #[]) (pkI (setI A (nA l i) (uI i)) (nA l i) 0 15) != 0) == false), (uOk (sN l i)), (uOk (pkI (setI A (nA l i) (uI i)) (nA l i) 0 15)), (inB (nA l i) 16), (inB (nA l i) 16), (inB (nA l i) 16), (decide (tN l i ≤ ((t : Nat) : Int)) == false), ((pkB D (nA l i) 0 15) == false), ((pkB D (nA l i) 0 15) == false), ((pkB D (nA l i) 0 15) == false), ((pkB D (nA l i) 0 15) == false), ((pkB D (nA l i) 0 15) == false), (inB (nA l i) 16), (false == false), (false == false), ((0 == 12) == false), (false == false), (false == false), (false == false), (false == false), (false == false), (false == false), (false == false), (decide (nA l i < ((t : Nat) : Int)) == false), (decide (nA l i < ((t : Nat) : Int)) == false), (decide (nA l i < ((t : Nat) : Int)) == false), (decide (sN l i ≥ 1)), (decide (sN l i ≤ 1099511627776)), (lookF s), (decG (rR s)), (decide (sN l i < numV s) == false), ((sN l i == numV s) == false), (s.size.beq 0 == false), (inB (((i : Nat) : Int)) l.length), (decide (((i : Nat) : Int) < 60) == true), (decide (((i : Nat) : Int) < ((l.length : Nat) : Int)) == true), (decide (((i : Nat) : Int) < ((l.length : Nat) : Int)) == true), (decide (((i : Nat) : Int) < ((l.length : Nat) : Int)) == true)]) (fun rest => by show view [7, 3, 6] (ELo.round 4 lOn (headS 119 (zipT [7, 3, 6] [vI i, vS (ocell t A), vI ((t : Nat) : Int)] ++ (zipT [0, 4, 5] [.one (.sl cB l .shared), .one (.ptr 0 0), .one (.ptr 1 0)] ++ rest)) (ohp D A) _)) = _; rw [← hs]; kernel_rfl) (allI (by simp only [q1, q2, q3, qn, g1, g2, u1, u2, eD, eA, eE, dn, c1, c2, k1, x1, x3, y1, y2]; rfl)) (i + 1, n + 1, setB D (nA l i), setI A (nA l i) (uI i)) inv (by show 60 - (i + 1) < 60 - i; omega) vals rfl (.inr (ids_ok _ _ _ _ _))
      · have h0 : t ≠ 0 := by omega
        have hstep : ostep l (i, t, D, A) = (i + 1, t, D, A) := by
          unfold ostep; simp only [hn, Int.toNat_natCast]; rw [if_neg htn]
        rw [hstep] at hf
        have inv : OInv l r (i + 1, t, D, A) := ⟨by show i + 1 ≤ 60; omega, ht, hD, hA, hf⟩
        have ec : ocell t A = putV ((t : Nat) : Int) 0 true (ByteArray.mk #[]) (ByteArray.mk #[]) (A (t - 1)) := by unfold ocell; rw [if_neg h0]
        obtain ⟨a1, a2, a3⟩ := hA (by omega)
        obtain ⟨_, x1, x2, x3, x4, x5, x6, x7, x8, k1⟩ := sess (n := ((t : Nat) : Int)) (a := A (t - 1)) (by omega) (by omega) a2 a3
        rw [← ec] at x1 x2 x3 x4 x5 x6 x7 x8 k1
        obtain ⟨s, hs⟩ : ∃ s, s = ocell t A := ⟨_, rfl⟩
        rw [← hs] at x1 x2 x3 x4 x5 x6 x7 x8 k1
        have c2 : decide (nA l i < ((t : Nat) : Int)) = true := decide_eq_true (by rw [hn]; omega)
        have vals : Wks (ohp D A) [vI (IntKind.i64.wrap (((i : Nat) : Int) + 1)), vS s, vI ((t : Nat) : Int)] [vI ((i + 1 : Nat) : Int), vS (ocell t A), vI ((t : Nat) : Int)] := Wks.of_eq (by rw [wi, hs])
        by_cases htn1 : n + 1 = t
        · have y1 : (sN l i == numV s) = true := by rw [es, x2, htn1]; exact beq_self_eq_true _
          have dn : D n = true := by rw [show n = t - 1 by omega]; exact a1
          have en : A (t - 1) = A n := by rw [show t - 1 = n by omega]
          have c3 : (tN l i != ((t : Nat) : Int)) = false := by rw [et, htn1]; exact bne_self_eq_false _
          have c4 : (nA l i == IntKind.i64.wrap (((t : Nat) : Int) - 1)) = true := by rw [hn, wrap64 (by omega) (by omega), show ((t : Nat) : Int) - 1 = ((n : Nat) : Int) by omega]; exact beq_self_eq_true _
          have y3 : (numV (s4 (rR s)) == A n) = true := by rw [x8, en]; exact beq_self_eq_true _
          exact OneRound.go (List.replicate 4 true ++ List.replicate 1 false ++ List.replicate 10 true ++ List.replicate 3 false ++ List.replicate 1 true ++ List.replicate 13 false) (vs := [(.one (.int .i64 (IntKind.i64.wrap (((i : Nat) : Int) + 1)))), (.one (.str s)), (.one (.int .i64 ((t : Nat) : Int)))]) (hp' := [(.cells [(.bool (D 0)), (.bool (D 1)), (.bool (D 2)), (.bool (D 3)), (.bool (D 4)), (.bool (D 5)), (.bool (D 6)), (.bool (D 7)), (.bool (D 8)), (.bool (D 9)), (.bool (D 10)), (.bool (D 11)), (.bool (D 12)), (.bool (D 13)), (.bool (D 14)), (.bool (D 15))]), (.cells [(.int .u64 (A 0)), (.int .u64 (A 1)), (.int .u64 (A 2)), (.int .u64 (A 3)), (.int .u64 (A 4)), (.int .u64 (A 5)), (.int .u64 (A 6)), (.int .u64 (A 7)), (.int .u64 (A 8)), (.int .u64 (A 9)), (.int .u64 (A 10)), (.int .u64 (A 11)), (.int .u64 (A 12)), (.int .u64 (A 13)), (.int .u64 (A 14)), (.int .u64 (A 15))]), (.cells [(.int .i64 (IntKind.i64.wrap (numV (rR s)))), (.bool (byteAt (tH (s1 (rR s))) (Int.toNat 0) == 1)), (.str (tX (s2 (rR s)))), (.str (tX (s3 (rR s)))), (.int .u64 (numV (s4 (rR s))))])]) (cs := [((tN l i != ((t : Nat) : Int)) == false), ((!(IntKind.i64.wrap (numV (rR s)) == 0 && ((byteAt (tH (s1 (rR s))) (Int.toNat 0) == 1) == true && (tX (s2 (rR s)) == (ByteArray.mk #[]) && (tX (s3 (rR s)) == (ByteArray.mk #[]) && ((numV (s4 (rR s)) == (pkI A (nA l i) 0 15)) && true)))))) == false), ((!(IntKind.i64.wrap (numV (rR s)) == 0 && ((byteAt (tH (s1 (rR s))) (Int.toNat 0) == 1) == true && (tX (s2 (rR s)) == (ByteArray.mk #[]) && (tX (s3 (rR s)) == (ByteArray.mk #[]) && ((numV (s4 (rR s)) == (pkI A (nA l i) 0 15)) && true)))))) == false), ((!(IntKind.i64.wrap (numV (rR s)) == 0 && ((byteAt (tH (s1 (rR s))) (Int.toNat 0) == 1) == true && (tX (s2 (rR s)) == (ByteArray.mk #[]) && (tX (s3 (rR s)) == (ByteArray.mk #[]) && ((numV (s4 (rR s)) == (pkI A (nA l i) 0 15)) && true)))))) == false), ((!(IntKind.i64.wrap (numV (rR s)) == 0 && ((byteAt (tH (s1 (rR s))) (Int.toNat 0) == 1) == true && (tX (s2 (rR s)) == (ByteArray.mk #[]) && (tX (s3 (rR s)) == (ByteArray.mk #[]) && ((numV (s4 (rR s)) == (pkI A (nA l i) 0 15)) && true)))))) == false), ((!(IntKind.i64.wrap (numV (rR s)) == 0 && ((byteAt (tH (s1 (rR s))) (Int.toNat 0) == 1) == true && (tX (s2 (rR s)) == (ByteArray.mk #[]) && (tX (s3 (rR s)) == (ByteArray.mk #[]) && ((numV (s4 (rR s)) == (pkI A (nA l i) 0 15)) && true)))))) == false), ((!(pkB D (nA l i) 0 15)) == false), ((!(pkB D (nA l i) 0 15)) == false), ((!(pkB D (nA l i) 0 15)) == false), ((!(pkB D (nA l i) 0 15)) == false), (inB (nA l i) 16), ((!(pkB D (nA l i) 0 15)) == false), ((!(pkB D (nA l i) 0 15)) == false), ((!(pkB D (nA l i) 0 15)) == false), (inB (nA l i) 16), (true == true), (false == false), ((0 == 12) == false), ((!nA l i == IntKind.i64.wrap (((t : Nat) : Int) - 1)) == false), (true == true), (true == true), (true == true), (true == true), (true == true), (true == true), (decide (nA l i < ((t : Nat) : Int)) == true), (decide (nA l i < ((t : Nat) : Int)) == true), (decide (nA l i < ((t : Nat) : Int)) == true), (decide (sN l i ≥ 1)), (decide (sN l i ≤ 1099511627776)), (lookF s), (decG (rR s)), ((sN l i == numV s) == true), (s.size.beq 0 == false), (inB (((i : Nat) : Int)) l.length), (decide (((i : Nat) : Int) < 60) == true), (decide (((i : Nat) : Int) < ((l.length : Nat) : Int)) == true), (decide (((i : Nat) : Int) < ((l.length : Nat) : Int)) == true), (decide (((i : Nat) : Int) < ((l.length : Nat) : Int)) == true)]) (fun rest => by show view [7, 3, 6] (ELo.round 4 lOn (headS 119 (zipT [7, 3, 6] [vI i, vS (ocell t A), vI ((t : Nat) : Int)] ++ (zipT [0, 4, 5] [.one (.sl cB l .shared), .one (.ptr 0 0), .one (.ptr 1 0)] ++ rest)) (ohp D A) _)) = _; rw [← hs]; kernel_rfl) (allI (by simp only [q1, q2, q3, qn, g1, g2, eD, eA, dn, c2, c3, c4, k1, x1, x3, x4, x5, x6, x7, y1, y3, baBeq]; rfl)) (i + 1, t, D, A) inv (by show 60 - (i + 1) < 60 - i; omega) vals rfl (.inr (ids_ok _ _ _ _ _))
        · have y1 : (sN l i == numV s) = false := beq_eq_false_iff_ne.2 (by rw [es, x2]; omega)
          have y2 : decide (sN l i < numV s) = true := decide_eq_true (by rw [es, x2]; omega)
          have c3 : decide (tN l i ≥ ((t : Nat) : Int)) = false := decide_eq_false (by rw [et]; omega)
          exact OneRound.go (List.replicate 4 true ++ List.replicate 2 false ++ List.replicate 4 true ++ List.replicate 7 false ++ List.replicate 1 true ++ List.replicate 6 false) (vs := [(.one (.int .i64 (IntKind.i64.wrap (((i : Nat) : Int) + 1)))), (.one (.str s)), (.one (.int .i64 ((t : Nat) : Int)))]) (hp' := [(.cells [(.bool (D 0)), (.bool (D 1)), (.bool (D 2)), (.bool (D 3)), (.bool (D 4)), (.bool (D 5)), (.bool (D 6)), (.bool (D 7)), (.bool (D 8)), (.bool (D 9)), (.bool (D 10)), (.bool (D 11)), (.bool (D 12)), (.bool (D 13)), (.bool (D 14)), (.bool (D 15))]), (.cells [(.int .u64 (A 0)), (.int .u64 (A 1)), (.int .u64 (A 2)), (.int .u64 (A 3)), (.int .u64 (A 4)), (.int .u64 (A 5)), (.int .u64 (A 6)), (.int .u64 (A 7)), (.int .u64 (A 8)), (.int .u64 (A 9)), (.int .u64 (A 10)), (.int .u64 (A 11)), (.int .u64 (A 12)), (.int .u64 (A 13)), (.int .u64 (A 14)), (.int .u64 (A 15))]), (.cells [(.int .i64 (0)), (.bool false), (.str ((ByteArray.mk #[]))), (.str ((ByteArray.mk #[]))), (.int .u64 (0))])]) (cs := [(decide (tN l i ≥ ((t : Nat) : Int)) == false), (false == false), (false == false), (false == false), (false == false), (false == false), ((12 == 12) == true), (false == false), (false == false), (false == false), (false == false), (false == false), (false == false), (false == false), (decide (nA l i < ((t : Nat) : Int)) == true), (decide (nA l i < ((t : Nat) : Int)) == true), (decide (nA l i < ((t : Nat) : Int)) == true), (decide (sN l i ≥ 1)), (decide (sN l i ≤ 1099511627776)), (lookF s), (decG (rR s)), (decide (sN l i < numV s) == true), ((sN l i == numV s) == false), (s.size.beq 0 == false), (inB (((i : Nat) : Int)) l.length), (decide (((i : Nat) : Int) < 60) == true), (decide (((i : Nat) : Int) < ((l.length : Nat) : Int)) == true), (decide (((i : Nat) : Int) < ((l.length : Nat) : Int)) == true), (decide (((i : Nat) : Int) < ((l.length : Nat) : Int)) == true)]) (fun rest => by show view [7, 3, 6] (ELo.round 4 lOn (headS 119 (zipT [7, 3, 6] [vI i, vS (ocell t A), vI ((t : Nat) : Int)] ++ (zipT [0, 4, 5] [.one (.sl cB l .shared), .one (.ptr 0 0), .one (.ptr 1 0)] ++ rest)) (ohp D A) _)) = _; rw [← hs]; kernel_rfl) (allI (by simp only [q1, q2, q3, qn, g1, g2, c2, c3, k1, x1, x3, y1, y2]; rfl)) (i + 1, t, D, A) inv (by show 60 - (i + 1) < 60 - i; omega) vals rfl (.inr (ids_ok _ _ _ _ _))
    · have q2 : decide (((i : Nat) : Int) < 60) = false := decide_eq_false (by omega)
      have he : (i, t, D, A) = r := by rw [show 60 - i = 0 by omega, ofin] at hfin; exact hfin
      subst he
      generalize ocell t A = s
      exact OneRound.stop (List.replicate 3 true ++ List.replicate 30 false) (vs := [(.one (.int .i64 ((i : Nat) : Int))), (.one (.str s)), (.one (.int .i64 ((t : Nat) : Int)))]) (hp' := [(.cells [(.bool (D 0)), (.bool (D 1)), (.bool (D 2)), (.bool (D 3)), (.bool (D 4)), (.bool (D 5)), (.bool (D 6)), (.bool (D 7)), (.bool (D 8)), (.bool (D 9)), (.bool (D 10)), (.bool (D 11)), (.bool (D 12)), (.bool (D 13)), (.bool (D 14)), (.bool (D 15))]), (.cells [(.int .u64 (A 0)), (.int .u64 (A 1)), (.int .u64 (A 2)), (.int .u64 (A 3)), (.int .u64 (A 4)), (.int .u64 (A 5)), (.int .u64 (A 6)), (.int .u64 (A 7)), (.int .u64 (A 8)), (.int .u64 (A 9)), (.int .u64 (A 10)), (.int .u64 (A 11)), (.int .u64 (A 12)), (.int .u64 (A 13)), (.int .u64 (A 14)), (.int .u64 (A 15))])]) (cs := [(decide (((i : Nat) : Int) < 60) == false), (decide (((i : Nat) : Int) < ((l.length : Nat) : Int)) == true), (decide (((i : Nat) : Int) < ((l.length : Nat) : Int)) == true), (decide (((i : Nat) : Int) < ((l.length : Nat) : Int)) == true)]) (fun rest => by kernel_rfl) (allI (by simp only [q1, q2]; rfl)) (by simp) ⟨.unk, .unk, .unk, trivial⟩ rfl (.inl (Nat.le_refl _))
  · have q1 : decide (((i : Nat) : Int) < ((l.length : Nat) : Int)) = false := decide_eq_false (by omega)
    have he : (i, t, D, A) = r := by
      cases hm : 60 - i with
      | zero => rw [hm, ofin] at hfin; exact hfin
      | succ m => rw [hm, ofin, if_neg (show ¬ (i, t, D, A).1 < l.length from hlt)] at hfin; exact hfin
    subst he
    generalize ocell t A = s
    exact OneRound.stop (List.replicate 30 false) (vs := [(.one (.int .i64 ((i : Nat) : Int))), (.one (.str s)), (.one (.int .i64 ((t : Nat) : Int)))]) (hp' := [(.cells [(.bool (D 0)), (.bool (D 1)), (.bool (D 2)), (.bool (D 3)), (.bool (D 4)), (.bool (D 5)), (.bool (D 6)), (.bool (D 7)), (.bool (D 8)), (.bool (D 9)), (.bool (D 10)), (.bool (D 11)), (.bool (D 12)), (.bool (D 13)), (.bool (D 14)), (.bool (D 15))]), (.cells [(.int .u64 (A 0)), (.int .u64 (A 1)), (.int .u64 (A 2)), (.int .u64 (A 3)), (.int .u64 (A 4)), (.int .u64 (A 5)), (.int .u64 (A 6)), (.int .u64 (A 7)), (.int .u64 (A 8)), (.int .u64 (A 9)), (.int .u64 (A 10)), (.int .u64 (A 11)), (.int .u64 (A 12)), (.int .u64 (A 13)), (.int .u64 (A 14)), (.int .u64 (A 15))])]) (cs := [(false == false), (decide (((i : Nat) : Int) < ((l.length : Nat) : Int)) == false), (decide (((i : Nat) : Int) < ((l.length : Nat) : Int)) == false), (decide (((i : Nat) : Int) < ((l.length : Nat) : Int)) == false)]) (fun rest => by kernel_rfl) (allI (by simp only [q1]; rfl)) (by simp) ⟨.unk, .unk, .unk, trivial⟩ rfl (.inl (Nat.le_refl _))
end Go.Proofs.Ytkpehdhkhmomoaa
