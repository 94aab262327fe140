/- ModelLast's first loop; no statement. -/
import Derived.Test.YtolhkkoakneflaaMt
set_option linter.unusedVariables false
set_option linter.unusedSimpArgs false
namespace Go.Proofs.Ytolhkkoakneflaa
open Go Go.Eng

def pkI (f : Nat → Int) (n : Int) (j : Nat) : Nat → Int
  | 0 => f j
  | k + 1 => bif decide (n = ((j : Nat) : Int)) then f j else pkI f n (j + 1) k
def pkS (f : Nat → ByteArray) (n : Int) (j : Nat) : Nat → ByteArray
  | 0 => f j
  | k + 1 => bif decide (n = ((j : Nat) : Int)) then f j else pkS f n (j + 1) k
theorem pkI_eq (f : Nat → Int) (n : Nat) : ∀ (k j : Nat), j ≤ n → n ≤ j + k → pkI f ((n : Nat) : Int) j k = f n
  | 0, j, h1, h2 => by rw [pkI, show n = j by omega]
  | k + 1, j, h1, h2 => by
    rw [pkI]
    by_cases h : n = j
    · subst h; simp
    · rw [decide_eq_false (by omega), cond_false]; exact pkI_eq f n k (j + 1) (by omega) (by omega)
theorem pkS_eq (f : Nat → ByteArray) (n : Nat) : ∀ (k j : Nat), j ≤ n → n ≤ j + k → pkS f ((n : Nat) : Int) j k = f n
  | 0, j, h1, h2 => by rw [pkS, show n = j by omega]
  | k + 1, j, h1, h2 => by
    rw [pkS]
    by_cases h : n = j
    · subst h; simp
    · rw [decide_eq_false (by omega), cond_false]; exact pkS_eq f n k (j + 1) (by omega) (by omega)
def setI (f : Nat → Int) (n x : Int) (k : Nat) : Int := bif decide (n = ((k : Nat) : Int)) then x else f k
def setS (f : Nat → ByteArray) (n : Int) (x : ByteArray) (k : Nat) : ByteArray := bif decide (n = ((k : Nat) : Int)) then x else f k
theorem setI_eq (f : Nat → Int) (n : Nat) (x : Int) : setI f ((n : Nat) : Int) x = fset f n x := by
  funext k
  unfold setI fset
  by_cases h : k = n
  · subst h; simp
  · rw [decide_eq_false (by omega), cond_false, if_neg h]
theorem setS_eq (f : Nat → ByteArray) (n : Nat) (x : ByteArray) : setS f ((n : Nat) : Int) x = fset f n x := by
  funext k
  unfold setS fset
  by_cases h : k = n
  · subst h; simp
  · rw [decide_eq_false (by omega), cond_false, if_neg h]
theorem fset_two {α : Type} (f : Nat → α) (n : Nat) (x y : α) : fset (fset f n x) n y = fset f n y := by
  funext k; unfold fset; by_cases h : k = n
  · rw [if_pos h, if_pos h]
  · rw [if_neg h, if_neg h, if_neg h]
def aA (l : List rAct.den) (i : Nat) : rAct.den := l.getD i rAct.dflt
def pA (l : List rAct.den) (i : Nat) : rOp.den := ofV (aA l i)
def rI (l : List rAct.den) (i : Nat) : Int := IntKind.i64.wrap (Int.tmod (aA l i).2.1 4)
def aI (l : List rAct.den) (i : Nat) : Int := IntKind.i64.wrap (IntKind.i64.wrap (3 * rI l i) + IntKind.i64.wrap (Int.tmod (aA l i).2.2.1 3))
def cX (C : Nat → Int) (l : List rAct.den) (i : Nat) : Int := IntKind.u64.wrap (pkI C (rI l i) 0 3 + 1)
def dX (C : Nat → Int) (l : List rAct.den) (i : Nat) : Int := pkI (setI C (rI l i) (cX C l i)) (rI l i) 0 3
abbrev LS := Nat × MapT × (Nat → Int) × (Nat → ByteArray) × (Nat → Int)
def chgV (l : List rAct.den) (i : Nat) (V : Nat → ByteArray) (W : Nat → Int) : Bool :=
  bif (pA l i).1 == 1 then true else bif (pA l i).1 == 2 then false else bif (pA l i).1 == 3 then decide (pkI W (aI l i) 0 11 > 0)
  else (decide (pkI W (aI l i) 0 11 > 0) == (pA l i).2.2.2.2.1) && (!decide (pkI W (aI l i) 0 11 > 0) || (pkS V (aI l i) 0 11 == (pA l i).2.2.2.2.2.1))
def lstep (l : List rAct.den) : LS → LS := fun s => (s.1 + 1, doM (pA l s.1) s.2.1, bif chgV l s.1 s.2.2.2.1 s.2.2.2.2 then setI s.2.2.1 (rI l s.1) (cX s.2.2.1 l s.1) else s.2.2.1,
  bif chgV l s.1 s.2.2.2.1 s.2.2.2.2 then setS s.2.2.2.1 (aI l s.1) (pA l s.1).2.2.2.1 else s.2.2.2.1,
  bif chgV l s.1 s.2.2.2.1 s.2.2.2.2 then (bif (pA l s.1).1 == 3 then setI (setI s.2.2.2.2 (aI l s.1) (dX s.2.2.1 l s.1)) (aI l s.1) 0 else setI s.2.2.2.2 (aI l s.1) (dX s.2.2.1 l s.1)) else s.2.2.2.2)
def lfin (l : List rAct.den) : Nat → LS → LS
  | 0, s => s
  | f + 1, s => if s.1 < l.length then lfin l f (lstep l s) else s
structure LInv (l : List rAct.den) (rr s : LS) : Prop where
  i : s.1 ≤ 80
  m : MInv s.2.1 s.2.2.1 s.2.2.2.2 s.2.2.2.1 ((s.1 : Nat) : Int)
  fin : lfin l (80 - s.1) s = rr
theorem ids5 (i : Int) (M : MapT) (C : Nat → Int) (V : Nat → ByteArray) (W : Nat → Int) : idsLt 5 [vI i] (hp5 M C V W) := by
  refine ⟨fun v hv j hj => ?_, fun b hb j hj => ?_⟩
  · simp only [List.mem_cons, List.not_mem_nil, or_false] at hv
    rcases hv with rfl <;> simp [idsV, idsC] at hj
  · simp only [hp5, List.mem_cons, List.not_mem_nil, or_false] at hb
    rcases hb with rfl | rfl | rfl | rfl | rfl <;> simp [idsB, idsC] at hj
    omega
theorem ids5x (M : MapT) (C : Nat → Int) (V : Nat → ByteArray) (W : Nat → Int) : idsLt 5 [vX] (hp5 M C V W) := by
  refine ⟨fun v hv j hj => ?_, (ids5 0 M C V W).2⟩
  simp only [List.mem_cons, List.not_mem_nil, or_false] at hv
  rcases hv with rfl <;> simp [idsV, idsC] at hj
theorem act_at {l : List rAct.den} (hl : ∀ x ∈ l, WF rAct x) {i : Nat} (h : i < l.length) : ∃ (k r c : Nat), k < 4 ∧ r < 4 ∧ c < 3 ∧ kV (aA l i) = ((k + 1 : Nat) : Int) ∧ rI l i = ((r : Nat) : Int) ∧ aI l i = ((3 * r + c : Nat) : Int) ∧ rwS (aA l i).2.1 = rowN r ∧ clS (aA l i).2.2.1 = colN c := by
  have hx : WF rAct (aA l i) := hl _ (by
    unfold aA; rw [List.getD_eq_getElem?_getD, List.getElem?_eq_getElem h]; exact List.getElem_mem h)
  have u : ∀ n : Int, WF cB n → 0 ≤ n := fun n hn => hn.1
  have h1 := u _ hx.1
  have h2 := u _ hx.2.1
  have h3 := u _ hx.2.2.1
  have tp : ∀ (n m : Int), 0 ≤ n → 0 < m → 0 ≤ n.tmod m ∧ n.tmod m < m := fun n m h hm => by
    rw [Int.tmod_eq_emod_of_nonneg h]; exact ⟨Int.emod_nonneg _ (by omega), Int.emod_lt_of_pos _ hm⟩
  have t1 := tp _ 4 h1 (by omega)
  have t2 := tp _ 4 h2 (by omega)
  have t3 := tp _ 3 h3 (by omega)
  obtain ⟨k, hk⟩ := Int.eq_ofNat_of_zero_le t1.1
  obtain ⟨r, hr⟩ := Int.eq_ofNat_of_zero_le t2.1
  obtain ⟨c, hc⟩ := Int.eq_ofNat_of_zero_le t3.1
  have er : rI l i = ((r : Nat) : Int) := by unfold rI; rw [hr, wrap64 (by omega) (by omega)]
  refine ⟨k, r, c, by omega, by omega, by omega, ?_, er, ?_, ?_, ?_⟩
  · unfold kV; rw [hk, wrap64 (n := ((k : Nat) : Int)) (by omega) (by omega), wrap64 (by omega) (by omega)]; omega
  · unfold aI; rw [er, hc, wrap64 (n := 3 * ((r : Nat) : Int)) (by omega) (by omega), wrap64 (n := ((c : Nat) : Int)) (by omega) (by omega), wrap64 (by omega) (by omega)]; omega
  · unfold rwS rowN; rw [hr]
  · unfold clS colN; rw [hc]
noncomputable def lLa : Code := (theLoop Try.prog 4 8).getD .skip
theorem lLa_eq : theLoop Try.prog 4 8 = some lLa := by kernel_rfl
theorem last_loop (l : List rAct.den) (hl : ∀ x ∈ l, WF rAct x) (s0 rr : LS) (h0 : LInv l rr s0) :
    LoopOk Try.prog lLa 180 [7] [0, 3, 4, 5, 6] [vI s0.1] [vL rAct l, .one (.ptr 1 0), .one (.ptr 2 0), .one (.ptr 3 0), .one (.ptr 4 0)] (hp5 s0.2.1 s0.2.2.1 s0.2.2.2.1 s0.2.2.2.2) (.exit 0) [vX] (hp5 rr.2.1 rr.2.2.1 rr.2.2.2.1 rr.2.2.2.2) := by
  refine LoopOk.rounds (S := LS) EMi lLa_eq (by kernel_rfl) (fun s => [vI s.1]) (fun s => hp5 s.2.1 s.2.2.1 s.2.2.2.1 s.2.2.2.2) (LInv l rr) (fun s => 80 - s.1) s0 h0 ?_ (fun _ _ => rfl)
  intro ⟨i, M, C, V, W⟩ ⟨hi, I, hfin⟩
  simp only at hi I hfin
  show OneRound EMi _ lLa 180 5 [7] _ _ _ _ _ _ _ _ _
  by_cases hlt : i < l.length
  · have q1 : decide (((i : Nat) : Int) < ((l.length : Nat) : Int)) = true := decide_eq_true (by omega)
    by_cases h80 : i < 80
    · have q2 : decide (((i : Nat) : Int) < 80) = true := decide_eq_true (by omega)
      have q3 : inB ((i : Nat) : Int) l.length = true := inB_of (by omega) (by omega)
      obtain ⟨k, r, c, hk, hr, hc, ek, er, ea, hrow, hcol⟩ := act_at hl hlt
      have q4 : inB (rI l i) 4 = true := by rw [er]; exact inB_of (by omega) (by omega)
      have q5 : inB (aI l i) 12 = true := by rw [ea]; exact inB_of (by omega) (by omega)
      have hp0 := I.pos r hr
      have eC0 : pkI C (rI l i) 0 3 = C r := by rw [er]; exact pkI_eq C r 3 0 (by omega) (by omega)
      have eW0 : pkI W (aI l i) 0 11 = W (3 * r + c) := by rw [ea]; exact pkI_eq W _ 11 0 (by omega) (by omega)
      have eV0 : pkS V (aI l i) 0 11 = V (3 * r + c) := by rw [ea]; exact pkS_eq V _ 11 0 (by omega) (by omega)
      have ecx : cX C l i = C r + 1 := by unfold cX; rw [eC0, wrapU64 (by omega) (by omega)]
      have eSC : setI C (rI l i) (cX C l i) = fset C r (C r + 1) := by rw [ecx, er, setI_eq]
      have eX : dX C l i = C r + 1 := by unfold dX; rw [eSC, er, pkI_eq _ r 3 0 (by omega) (by omega), fset_same]
      have eSW : setI W (aI l i) (dX C l i) = fset W (3 * r + c) (C r + 1) := by rw [eX, ea, setI_eq]
      have eSW0 : setI (setI W (aI l i) (dX C l i)) (aI l i) 0 = fset W (3 * r + c) 0 := by rw [eSW, ea, setI_eq, fset_two]
      have eSV : setS V (aI l i) (pA l i).2.2.2.1 = fset V (3 * r + c) (pA l i).2.2.2.1 := by rw [ea, setS_eq]
      have wi : IntKind.i64.wrap (((i : Nat) : Int) + 1) = ((i + 1 : Nat) : Int) := by rw [wrap64 (by omega) (by omega)]; omega
      have hf : lfin l (80 - (i + 1)) (lstep l (i, M, C, V, W)) = rr := by
        rw [show 80 - i = (80 - (i + 1)) + 1 by omega, lfin, if_pos hlt] at hfin; exact hfin
      have hcast : ((i + 1 : Nat) : Int) = ((i : Nat) : Int) + 1 := by omega
      have f5 : ((pA l i).fst == 5) = false := beq_eq_false_iff_ne.2 (by show kV (aA l i) ≠ 5; rw [ek]; omega)
      have hkk : k = 0 ∨ k = 1 ∨ k = 2 ∨ k = 3 := by omega
      rcases hkk with rfl | rfl | rfl | rfl
      · have f0 : (pA l i).fst = 1 := ek
        have f1 : ((pA l i).fst == 1) = true := by rw [f0]; rfl
        have f2 : ((pA l i).fst == 2) = false := by rw [f0]; rfl
        have f3 : ((pA l i).fst == 3) = false := by rw [f0]; rfl
        have hp : pA l i = opP 1 r c (strOfNums [Int.tmod (aA l i).2.2.2.1 3]) false e0B := by
          have ek' : kV (aA l i) = 1 := ek
          unfold pA ofV opP; rw [hrow, hcol, ek']; rfl
        have hv : (pA l i).2.2.2.1 = strOfNums [Int.tmod (aA l i).2.2.2.1 3] := by rw [hp]; rfl
        obtain ⟨d1, d2⟩ := do_put I hr hc (by omega) (strOfNums [Int.tmod (aA l i).2.2.2.1 3]) (by rw [one_size]; omega)
        have hR : doR (pA l i) M = (0, false, e0B, e0B, C r + 1, ()) := by rw [hp]; exact d1
        have inv : MInv (doM (pA l i) M) (setI C (rI l i) (cX C l i)) (setI W (aI l i) (dX C l i)) (setS V (aI l i) (pA l i).2.2.2.1) ((i + 1 : Nat) : Int) := by rw [eSC, eSW, eSV, hv, hp, hcast]; exact d2
        exact OneRound.goT [true, true, true, true, true, true, false, false] (vs := [vI (IntKind.i64.wrap (((i : Nat) : Int) + 1))]) (hp' := hp5 (doM (pA l i) M) (setI C (rI l i) (cX C l i)) (setS V (aI l i) (pA l i).2.2.2.1) (setI W (aI l i) (dX C l i))) (cs := [(!((doR (pA l i) M).fst == 0 && ((doR (pA l i) M).snd.fst == false && ((doR (pA l i) M).snd.snd.fst == (ByteArray.mk #[]) && ((doR (pA l i) M).snd.snd.snd.fst == (ByteArray.mk #[]) && (((doR (pA l i) M).snd.snd.snd.snd.fst == dX C l i) && true)))))) == false, !(pA l i).fst == 5, ((pA l i).fst == 3) == false, inB (aI l i) 12, inB (rI l i) 4, inB (aI l i) 12, inB (rI l i) 4, inB (rI l i) 4, inB (rI l i) 4, true == true, ((pA l i).fst == 1) == true, inB (aI l i) 12, inB (((i : Nat) : Int)) l.length, inB (((i : Nat) : Int)) l.length, inB (((i : Nat) : Int)) l.length, decide (((i : Nat) : Int) < 80) == true, decide (((i : Nat) : Int) < ((l.length : Nat) : Int)) == true, decide (((i : Nat) : Int) < ((l.length : Nat) : Int)) == true, decide (((i : Nat) : Int) < ((l.length : Nat) : Int)) == true]) (fun rest => by kernel_rfl) (allI (by simp only [q1, q2, q3, q4, q5, f1, f2, f3, f5, eW0, eV0, eX, hR, f0, baRfl, beq_self_eq_true]; rfl)) (i + 1, doM (pA l i) M, (setI C (rI l i) (cX C l i)), (setS V (aI l i) (pA l i).2.2.2.1), (setI W (aI l i) (dX C l i))) ⟨by show i + 1 ≤ 80; omega, inv, by have e := hf; rw [show lstep l (i, M, C, V, W) = (i + 1, doM (pA l i) M, (setI C (rI l i) (cX C l i)), (setS V (aI l i) (pA l i).2.2.2.1), (setI W (aI l i) (dX C l i))) from by simp only [lstep, chgV, f1, f2, f3, eW0, eV0, ← bl, f0]; rfl] at e; exact e⟩ (by show 80 - (i + 1) < 80 - i; omega) ⟨.of_eq (by rw [wi]), trivial⟩ rfl (ids5 _ _ _ _ _)
      · have f0 : (pA l i).fst = 2 := ek
        have f1 : ((pA l i).fst == 1) = false := by rw [f0]; rfl
        have f2 : ((pA l i).fst == 2) = true := by rw [f0]; rfl
        have f3 : ((pA l i).fst == 3) = false := by rw [f0]; rfl
        have hp : pA l i = opP 2 r c e0B false e0B := by
          have ek' : kV (aA l i) = 2 := ek
          unfold pA ofV opP; rw [hrow, hcol, ek']; rfl
        obtain ⟨d1, d2⟩ := do_get I hr hc
        have inv : MInv (doM (pA l i) M) C W V ((i + 1 : Nat) : Int) := by rw [hp, d2, hcast]; exact I.more
        rw [← hp] at d1
        cases hh : (decide (W (3 * r + c) > 0) : Bool) with
        | true =>
          have hR : doR (pA l i) M = (0, true, e0B, V (3 * r + c), W (3 * r + c), ()) := by rw [d1, show decide (0 < W (3 * r + c)) = true from hh]; rfl
          exact OneRound.goT [true, true, true, true, false, true, true, false, false] (vs := [vI (IntKind.i64.wrap (((i : Nat) : Int) + 1))]) (hp' := hp5 (doM (pA l i) M) C V W) (cs := [(!((doR (pA l i) M).fst == 0 && ((doR (pA l i) M).snd.fst == true && ((doR (pA l i) M).snd.snd.fst == (ByteArray.mk #[]) && (((doR (pA l i) M).snd.snd.snd.fst == pkS V (aI l i) 0 11) && (((doR (pA l i) M).snd.snd.snd.snd.fst == pkI W (aI l i) 0 11) && true)))))) == false, !(pA l i).fst == 5, false == false, inB (aI l i) 12, inB (aI l i) 12, decide ((pkI W (aI l i) 0 11) > 0) == true, ((pA l i).fst == 2) == true, ((pA l i).fst == 1) == false, inB (aI l i) 12, inB (((i : Nat) : Int)) l.length, inB (((i : Nat) : Int)) l.length, inB (((i : Nat) : Int)) l.length, decide (((i : Nat) : Int) < 80) == true, decide (((i : Nat) : Int) < ((l.length : Nat) : Int)) == true, decide (((i : Nat) : Int) < ((l.length : Nat) : Int)) == true, decide (((i : Nat) : Int) < ((l.length : Nat) : Int)) == true]) (fun rest => by kernel_rfl) (allI (by simp only [q1, q2, q3, q4, q5, f1, f2, f3, f5, eW0, eV0, eX, hR, hh, baRfl, beq_self_eq_true]; rfl)) (i + 1, doM (pA l i) M, C, V, W) ⟨by show i + 1 ≤ 80; omega, inv, by have e := hf; rw [show lstep l (i, M, C, V, W) = (i + 1, doM (pA l i) M, C, V, W) from by simp only [lstep, chgV, f1, f2, f3, eW0, eV0, ← bl, f0]; rfl] at e; exact e⟩ (by show 80 - (i + 1) < 80 - i; omega) ⟨.of_eq (by rw [wi]), trivial⟩ rfl (ids5 _ _ _ _ _)
        | false =>
          have hR : doR (pA l i) M = (0, false, e0B, e0B, 0, ()) := by rw [d1, show decide (0 < W (3 * r + c)) = false from hh]; rfl
          exact OneRound.goT [true, true, true, true, false, true, false, false, false] (vs := [vI (IntKind.i64.wrap (((i : Nat) : Int) + 1))]) (hp' := hp5 (doM (pA l i) M) C V W) (cs := [(!((doR (pA l i) M).fst == 0 && ((doR (pA l i) M).snd.fst == false && ((doR (pA l i) M).snd.snd.fst == (ByteArray.mk #[]) && ((doR (pA l i) M).snd.snd.snd.fst == (ByteArray.mk #[]) && ((doR (pA l i) M).snd.snd.snd.snd.fst == 0 && true)))))) == false, !(pA l i).fst == 5, false == false, decide ((pkI W (aI l i) 0 11) > 0) == false, ((pA l i).fst == 2) == true, ((pA l i).fst == 1) == false, inB (aI l i) 12, inB (((i : Nat) : Int)) l.length, inB (((i : Nat) : Int)) l.length, inB (((i : Nat) : Int)) l.length, decide (((i : Nat) : Int) < 80) == true, decide (((i : Nat) : Int) < ((l.length : Nat) : Int)) == true, decide (((i : Nat) : Int) < ((l.length : Nat) : Int)) == true, decide (((i : Nat) : Int) < ((l.length : Nat) : Int)) == true]) (fun rest => by kernel_rfl) (allI (by simp only [q1, q2, q3, q4, q5, f1, f2, f3, f5, eW0, eV0, eX, hR, hh, baRfl, beq_self_eq_true]; rfl)) (i + 1, doM (pA l i) M, C, V, W) ⟨by show i + 1 ≤ 80; omega, inv, by have e := hf; rw [show lstep l (i, M, C, V, W) = (i + 1, doM (pA l i) M, C, V, W) from by simp only [lstep, chgV, f1, f2, f3, eW0, eV0, ← bl, f0]; rfl] at e; exact e⟩ (by show 80 - (i + 1) < 80 - i; omega) ⟨.of_eq (by rw [wi]), trivial⟩ rfl (ids5 _ _ _ _ _)
      · have f0 : (pA l i).fst = 3 := ek
        have f1 : ((pA l i).fst == 1) = false := by rw [f0]; rfl
        have f2 : ((pA l i).fst == 2) = false := by rw [f0]; rfl
        have f3 : ((pA l i).fst == 3) = true := by rw [f0]; rfl
        have hp : pA l i = opP 3 r c e0B false e0B := by
          have ek' : kV (aA l i) = 3 := ek
          unfold pA ofV opP; rw [hrow, hcol, ek']; rfl
        have hv : (pA l i).2.2.2.1 = e0B := by rw [hp]; rfl
        obtain ⟨d1, d2⟩ := do_del I hr hc (by omega)
        cases hh : (decide (W (3 * r + c) > 0) : Bool) with
        | true =>
          obtain ⟨g1, g2⟩ := d1 (of_decide_eq_true hh)
          have hR : doR (pA l i) M = (0, true, e0B, e0B, C r + 1, ()) := by rw [hp]; exact g1
          have inv : MInv (doM (pA l i) M) (setI C (rI l i) (cX C l i)) (setI (setI W (aI l i) (dX C l i)) (aI l i) 0) (setS V (aI l i) (pA l i).2.2.2.1) ((i + 1 : Nat) : Int) := by rw [eSC, eSW0, eSV, hv, hp, hcast]; exact g2
          exact OneRound.goT [true, true, true, true, false, false, true, true, true, false] (vs := [vI (IntKind.i64.wrap (((i : Nat) : Int) + 1))]) (hp' := hp5 (doM (pA l i) M) (setI C (rI l i) (cX C l i)) (setS V (aI l i) (pA l i).2.2.2.1) (setI (setI W (aI l i) (dX C l i)) (aI l i) 0)) (cs := [(!((doR (pA l i) M).fst == 0 && ((doR (pA l i) M).snd.fst == decide ((pkI W (aI l i) 0 11) > 0) && ((doR (pA l i) M).snd.snd.fst == (ByteArray.mk #[]) && ((doR (pA l i) M).snd.snd.snd.fst == (ByteArray.mk #[]) && (((doR (pA l i) M).snd.snd.snd.snd.fst == dX C l i) && true)))))) == false, !(pA l i).fst == 5, inB (aI l i) 12, ((pA l i).fst == 3) == true, inB (aI l i) 12, inB (rI l i) 4, inB (aI l i) 12, inB (rI l i) 4, inB (rI l i) 4, inB (rI l i) 4, decide ((pkI W (aI l i) 0 11) > 0) == true, ((pA l i).fst == 3) == true, ((pA l i).fst == 2) == false, ((pA l i).fst == 1) == false, inB (aI l i) 12, inB (((i : Nat) : Int)) l.length, inB (((i : Nat) : Int)) l.length, inB (((i : Nat) : Int)) l.length, decide (((i : Nat) : Int) < 80) == true, decide (((i : Nat) : Int) < ((l.length : Nat) : Int)) == true, decide (((i : Nat) : Int) < ((l.length : Nat) : Int)) == true, decide (((i : Nat) : Int) < ((l.length : Nat) : Int)) == true]) (fun rest => by kernel_rfl) (allI (by simp only [q1, q2, q3, q4, q5, f1, f2, f3, f5, eW0, eV0, eX, hR, hh, baRfl, beq_self_eq_true]; rfl)) (i + 1, doM (pA l i) M, (setI C (rI l i) (cX C l i)), (setS V (aI l i) (pA l i).2.2.2.1), (setI (setI W (aI l i) (dX C l i)) (aI l i) 0)) ⟨by show i + 1 ≤ 80; omega, inv, by have e := hf; rw [show lstep l (i, M, C, V, W) = (i + 1, doM (pA l i) M, (setI C (rI l i) (cX C l i)), (setS V (aI l i) (pA l i).2.2.2.1), (setI (setI W (aI l i) (dX C l i)) (aI l i) 0)) from by simp only [lstep, chgV, f1, f2, f3, eW0, eV0, ← bl, hh]; rfl] at e; exact e⟩ (by show 80 - (i + 1) < 80 - i; omega) ⟨.of_eq (by rw [wi]), trivial⟩ rfl (ids5 _ _ _ _ _)
        | false =>
          obtain ⟨g1, g2⟩ := d2 (of_decide_eq_false hh)
          have hR : doR (pA l i) M = (0, false, e0B, e0B, 0, ()) := by rw [hp]; exact g1
          have inv : MInv (doM (pA l i) M) C W V ((i + 1 : Nat) : Int) := by rw [hp, g2, hcast]; exact I.more
          exact OneRound.goT [true, true, true, true, false, false, true, false, false] (vs := [vI (IntKind.i64.wrap (((i : Nat) : Int) + 1))]) (hp' := hp5 (doM (pA l i) M) C V W) (cs := [(!((doR (pA l i) M).fst == 0 && ((doR (pA l i) M).snd.fst == decide ((pkI W (aI l i) 0 11) > 0) && ((doR (pA l i) M).snd.snd.fst == (ByteArray.mk #[]) && ((doR (pA l i) M).snd.snd.snd.fst == (ByteArray.mk #[]) && ((doR (pA l i) M).snd.snd.snd.snd.fst == 0 && true)))))) == false, !(pA l i).fst == 5, decide ((pkI W (aI l i) 0 11) > 0) == false, ((pA l i).fst == 3) == true, ((pA l i).fst == 2) == false, ((pA l i).fst == 1) == false, inB (aI l i) 12, inB (((i : Nat) : Int)) l.length, inB (((i : Nat) : Int)) l.length, inB (((i : Nat) : Int)) l.length, decide (((i : Nat) : Int) < 80) == true, decide (((i : Nat) : Int) < ((l.length : Nat) : Int)) == true, decide (((i : Nat) : Int) < ((l.length : Nat) : Int)) == true, decide (((i : Nat) : Int) < ((l.length : Nat) : Int)) == true]) (fun rest => by kernel_rfl) (allI (by simp only [q1, q2, q3, q4, q5, f1, f2, f3, f5, eW0, eV0, eX, hR, hh, baRfl, beq_self_eq_true]; rfl)) (i + 1, doM (pA l i) M, C, V, W) ⟨by show i + 1 ≤ 80; omega, inv, by have e := hf; rw [show lstep l (i, M, C, V, W) = (i + 1, doM (pA l i) M, C, V, W) from by simp only [lstep, chgV, f1, f2, f3, eW0, eV0, ← bl, hh]; rfl] at e; exact e⟩ (by show 80 - (i + 1) < 80 - i; omega) ⟨.of_eq (by rw [wi]), trivial⟩ rfl (ids5 _ _ _ _ _)
      · have f0 : (pA l i).fst = 4 := ek
        have f1 : ((pA l i).fst == 1) = false := by rw [f0]; rfl
        have f2 : ((pA l i).fst == 2) = false := by rw [f0]; rfl
        have f3 : ((pA l i).fst == 3) = false := by rw [f0]; rfl
        obtain ⟨x, h, y, hp, hx, hy, hxy⟩ : ∃ x h y, pA l i = opP 4 r c x h y ∧ x.size ≤ 1 ∧ y.size ≤ 1 ∧ (h = false → y = e0B) := by
          have ek' : kV (aA l i) = 4 := ek
          refine ⟨strOfNums [Int.tmod (aA l i).2.2.2.1 3], (aA l i).2.2.2.2.2.1, bif (aA l i).2.2.2.2.2.1 then strOfNums [Int.tmod (aA l i).2.2.2.2.1 3] else e0B, ?_, by rw [one_size]; omega, ?_, fun e => by rw [e]; rfl⟩
          · unfold pA ofV opP; rw [hrow, hcol, ek']; rfl
          · cases (aA l i).2.2.2.2.2.1
            · exact Nat.zero_le _
            · show (strOfNums _).size ≤ 1; rw [one_size]; omega
        have hv : (pA l i).2.2.2.1 = x := by rw [hp]; rfl
        have hh5 : (pA l i).snd.snd.snd.snd.fst = h := by rw [hp]; rfl
        have hh6 : (pA l i).snd.snd.snd.snd.snd.fst = y := by rw [hp]; rfl
        obtain ⟨d1, d2⟩ := do_chk I hr hc (by omega) x hx h y hy hxy
        have ok (ht : (decide (0 < W (3 * r + c)) == h && (!decide (0 < W (3 * r + c)) || (V (3 * r + c) == y))) = true) : doR (pA l i) M = (0, true, e0B, e0B, C r + 1, ()) ∧ MInv (doM (pA l i) M) (setI C (rI l i) (cX C l i)) (setI W (aI l i) (dX C l i)) (setS V (aI l i) (pA l i).2.2.2.1) ((i + 1 : Nat) : Int) := by
          obtain ⟨g1, g2⟩ := d1 ht
          exact ⟨by rw [hp]; exact g1, by rw [eSC, eSW, eSV, hv, hp, hcast]; exact g2⟩
        have no (ht : (decide (0 < W (3 * r + c)) == h && (!decide (0 < W (3 * r + c)) || (V (3 * r + c) == y))) = false) : doR (pA l i) M = (bif decide (0 < W (3 * r + c)) then (0, false, e0B, V (3 * r + c), W (3 * r + c), ()) else (0, false, e0B, e0B, 0, ())) ∧ MInv (doM (pA l i) M) C W V ((i + 1 : Nat) : Int) := by
          obtain ⟨g1, g2⟩ := d2 ht
          exact ⟨by rw [hp]; exact g1, by rw [hp, g2, hcast]; exact I.more⟩
        cases hh : (decide (W (3 * r + c) > 0) : Bool) with
        | true =>
          have hh' : decide (0 < W (3 * r + c)) = true := hh
          rw [hh'] at ok no
          cases hq : (true == h : Bool) with
          | true =>
            cases hs : ((V (3 * r + c)).toList == y.toList : Bool) with
            | true =>
              obtain ⟨hR, inv⟩ := ok (by rw [hq, ← bl, hs]; rfl)
              exact OneRound.goT [true, true, true, true, false, false, false, true, true, true, false, false, false, false, false, false, true, false, true, false, false, false, true, false, false] (vs := [vI (IntKind.i64.wrap (((i : Nat) : Int) + 1))]) (hp' := hp5 (doM (pA l i) M) (setI C (rI l i) (cX C l i)) (setS V (aI l i) (pA l i).2.2.2.1) (setI W (aI l i) (dX C l i))) (cs := [(!((doR (pA l i) M).fst == 0 && ((doR (pA l i) M).snd.fst == ((pkS V (aI l i) 0 11).toList == ByteArray.toList (pA l i).snd.snd.snd.snd.snd.fst) && ((doR (pA l i) M).snd.snd.fst == (ByteArray.mk #[]) && ((doR (pA l i) M).snd.snd.snd.fst == (ByteArray.mk #[]) && (((doR (pA l i) M).snd.snd.snd.snd.fst == dX C l i) && true)))))) == false, !(pA l i).fst == 5, ((pA l i).fst == 3) == false, inB (aI l i) 12, inB (rI l i) 4, inB (aI l i) 12, inB (rI l i) 4, inB (rI l i) 4, inB (rI l i) 4, ((pkS V (aI l i) 0 11).toList == ByteArray.toList (pA l i).snd.snd.snd.snd.snd.fst) == true, false == false, (!(pkS V (aI l i) 0 11).toList == ByteArray.toList (pA l i).snd.snd.snd.snd.snd.fst) == false, (!(pkS V (aI l i) 0 11).toList == ByteArray.toList (pA l i).snd.snd.snd.snd.snd.fst) == false, (decide ((pkI W (aI l i) 0 11) > 0) == (pA l i).snd.snd.snd.snd.fst) == true, (!decide ((pkI W (aI l i) 0 11) > 0)) == false, (decide ((pkI W (aI l i) 0 11) > 0) == (pA l i).snd.snd.snd.snd.fst) == true, (!decide ((pkI W (aI l i) 0 11) > 0)) == false, (!decide ((pkI W (aI l i) 0 11) > 0)) == false, (!decide ((pkI W (aI l i) 0 11) > 0)) == false, (!decide ((pkI W (aI l i) 0 11) > 0)) == false, inB (aI l i) 12, (!decide ((pkI W (aI l i) 0 11) > 0)) == false, (!decide ((pkI W (aI l i) 0 11) > 0)) == false, (decide ((pkI W (aI l i) 0 11) > 0) == (pA l i).snd.snd.snd.snd.fst) == true, (decide ((pkI W (aI l i) 0 11) > 0) == (pA l i).snd.snd.snd.snd.fst) == true, (decide ((pkI W (aI l i) 0 11) > 0) == (pA l i).snd.snd.snd.snd.fst) == true, ((pA l i).fst == 3) == false, ((pA l i).fst == 2) == false, ((pA l i).fst == 1) == false, inB (aI l i) 12, inB (((i : Nat) : Int)) l.length, inB (((i : Nat) : Int)) l.length, inB (((i : Nat) : Int)) l.length, decide (((i : Nat) : Int) < 80) == true, decide (((i : Nat) : Int) < ((l.length : Nat) : Int)) == true, decide (((i : Nat) : Int) < ((l.length : Nat) : Int)) == true, decide (((i : Nat) : Int) < ((l.length : Nat) : Int)) == true]) (fun rest => by kernel_rfl) (allI (by simp only [q1, q2, q3, q4, q5, f1, f2, f3, f5, eW0, eV0, eX, hR, hh, hq, hs, hh5, hh6, baRfl, beq_self_eq_true]; rfl)) (i + 1, doM (pA l i) M, (setI C (rI l i) (cX C l i)), (setS V (aI l i) (pA l i).2.2.2.1), (setI W (aI l i) (dX C l i))) ⟨by show i + 1 ≤ 80; omega, inv, by have e := hf; rw [show lstep l (i, M, C, V, W) = (i + 1, doM (pA l i) M, (setI C (rI l i) (cX C l i)), (setS V (aI l i) (pA l i).2.2.2.1), (setI W (aI l i) (dX C l i))) from by simp only [lstep, chgV, f1, f2, f3, eW0, eV0, ← bl, hh, hq, hs, hh5, hh6]; rfl] at e; exact e⟩ (by show 80 - (i + 1) < 80 - i; omega) ⟨.of_eq (by rw [wi]), trivial⟩ rfl (ids5 _ _ _ _ _)
            | false =>
              obtain ⟨hR, inv⟩ := no (by rw [hq, ← bl, hs]; rfl)
              simp only [cond_true] at hR
              exact OneRound.goT [true, true, true, true, false, false, false, true, true, true, false, false, false, false, false, false, true, false, true, true, true, true, false, false] (vs := [vI (IntKind.i64.wrap (((i : Nat) : Int) + 1))]) (hp' := hp5 (doM (pA l i) M) C V W) (cs := [(!((doR (pA l i) M).fst == 0 && ((doR (pA l i) M).snd.fst == false && ((doR (pA l i) M).snd.snd.fst == (ByteArray.mk #[]) && (((doR (pA l i) M).snd.snd.snd.fst == pkS V (aI l i) 0 11) && (((doR (pA l i) M).snd.snd.snd.snd.fst == pkI W (aI l i) 0 11) && true)))))) == false, !(pA l i).fst == 5, ((pkS V (aI l i) 0 11).toList == ByteArray.toList (pA l i).snd.snd.snd.snd.snd.fst) == false, inB (aI l i) 12, inB (aI l i) 12, decide ((pkI W (aI l i) 0 11) > 0) == true, (!(pkS V (aI l i) 0 11).toList == ByteArray.toList (pA l i).snd.snd.snd.snd.snd.fst) == true, (!(pkS V (aI l i) 0 11).toList == ByteArray.toList (pA l i).snd.snd.snd.snd.snd.fst) == true, (decide ((pkI W (aI l i) 0 11) > 0) == (pA l i).snd.snd.snd.snd.fst) == true, (!decide ((pkI W (aI l i) 0 11) > 0)) == false, (decide ((pkI W (aI l i) 0 11) > 0) == (pA l i).snd.snd.snd.snd.fst) == true, (!decide ((pkI W (aI l i) 0 11) > 0)) == false, (!decide ((pkI W (aI l i) 0 11) > 0)) == false, (!decide ((pkI W (aI l i) 0 11) > 0)) == false, (!decide ((pkI W (aI l i) 0 11) > 0)) == false, inB (aI l i) 12, (!decide ((pkI W (aI l i) 0 11) > 0)) == false, (!decide ((pkI W (aI l i) 0 11) > 0)) == false, (decide ((pkI W (aI l i) 0 11) > 0) == (pA l i).snd.snd.snd.snd.fst) == true, (decide ((pkI W (aI l i) 0 11) > 0) == (pA l i).snd.snd.snd.snd.fst) == true, (decide ((pkI W (aI l i) 0 11) > 0) == (pA l i).snd.snd.snd.snd.fst) == true, ((pA l i).fst == 3) == false, ((pA l i).fst == 2) == false, ((pA l i).fst == 1) == false, inB (aI l i) 12, inB (((i : Nat) : Int)) l.length, inB (((i : Nat) : Int)) l.length, inB (((i : Nat) : Int)) l.length, decide (((i : Nat) : Int) < 80) == true, decide (((i : Nat) : Int) < ((l.length : Nat) : Int)) == true, decide (((i : Nat) : Int) < ((l.length : Nat) : Int)) == true, decide (((i : Nat) : Int) < ((l.length : Nat) : Int)) == true]) (fun rest => by kernel_rfl) (allI (by simp only [q1, q2, q3, q4, q5, f1, f2, f3, f5, eW0, eV0, eX, hR, hh, hq, hs, hh5, hh6, baRfl, beq_self_eq_true]; rfl)) (i + 1, doM (pA l i) M, C, V, W) ⟨by show i + 1 ≤ 80; omega, inv, by have e := hf; rw [show lstep l (i, M, C, V, W) = (i + 1, doM (pA l i) M, C, V, W) from by simp only [lstep, chgV, f1, f2, f3, eW0, eV0, ← bl, hh, hq, hs, hh5, hh6]; rfl] at e; exact e⟩ (by show 80 - (i + 1) < 80 - i; omega) ⟨.of_eq (by rw [wi]), trivial⟩ rfl (ids5 _ _ _ _ _)
          | false =>
            obtain ⟨hR, inv⟩ := no (by rw [hq]; rfl)
            simp only [cond_true] at hR
            exact OneRound.goT [true, true, true, true, false, false, false, false, false, false, false, false, true, true, true, false, false] (vs := [vI (IntKind.i64.wrap (((i : Nat) : Int) + 1))]) (hp' := hp5 (doM (pA l i) M) C V W) (cs := [(!((doR (pA l i) M).fst == 0 && ((doR (pA l i) M).snd.fst == false && ((doR (pA l i) M).snd.snd.fst == (ByteArray.mk #[]) && (((doR (pA l i) M).snd.snd.snd.fst == pkS V (aI l i) 0 11) && (((doR (pA l i) M).snd.snd.snd.snd.fst == pkI W (aI l i) 0 11) && true)))))) == false, !(pA l i).fst == 5, false == false, inB (aI l i) 12, inB (aI l i) 12, decide ((pkI W (aI l i) 0 11) > 0) == true, (!false) == true, (!false) == true, (decide ((pkI W (aI l i) 0 11) > 0) == (pA l i).snd.snd.snd.snd.fst) == false, (decide ((pkI W (aI l i) 0 11) > 0) == (pA l i).snd.snd.snd.snd.fst) == false, (decide ((pkI W (aI l i) 0 11) > 0) == (pA l i).snd.snd.snd.snd.fst) == false, (decide ((pkI W (aI l i) 0 11) > 0) == (pA l i).snd.snd.snd.snd.fst) == false, (decide ((pkI W (aI l i) 0 11) > 0) == (pA l i).snd.snd.snd.snd.fst) == false, ((pA l i).fst == 3) == false, ((pA l i).fst == 2) == false, ((pA l i).fst == 1) == false, inB (aI l i) 12, inB (((i : Nat) : Int)) l.length, inB (((i : Nat) : Int)) l.length, inB (((i : Nat) : Int)) l.length, decide (((i : Nat) : Int) < 80) == true, decide (((i : Nat) : Int) < ((l.length : Nat) : Int)) == true, decide (((i : Nat) : Int) < ((l.length : Nat) : Int)) == true, decide (((i : Nat) : Int) < ((l.length : Nat) : Int)) == true]) (fun rest => by kernel_rfl) (allI (by simp only [q1, q2, q3, q4, q5, f1, f2, f3, f5, eW0, eV0, eX, hR, hh, hq, hh5, hh6, baRfl, beq_self_eq_true]; rfl)) (i + 1, doM (pA l i) M, C, V, W) ⟨by show i + 1 ≤ 80; omega, inv, by have e := hf; rw [show lstep l (i, M, C, V, W) = (i + 1, doM (pA l i) M, C, V, W) from by simp only [lstep, chgV, f1, f2, f3, eW0, eV0, ← bl, hh, hq, hh5, hh6]; rfl] at e; exact e⟩ (by show 80 - (i + 1) < 80 - i; omega) ⟨.of_eq (by rw [wi]), trivial⟩ rfl (ids5 _ _ _ _ _)
        | false =>
          have hh' : decide (0 < W (3 * r + c)) = false := hh
          rw [hh'] at ok no
          cases hq : (false == h : Bool) with
          | true =>
            obtain ⟨hR, inv⟩ := ok (by rw [hq]; rfl)
            exact OneRound.goT [true, true, true, true, false, false, false, true, true, true, true, true, true, true, true, true, true, true, true, false, false, false, true, false, false] (vs := [vI (IntKind.i64.wrap (((i : Nat) : Int) + 1))]) (hp' := hp5 (doM (pA l i) M) (setI C (rI l i) (cX C l i)) (setS V (aI l i) (pA l i).2.2.2.1) (setI W (aI l i) (dX C l i))) (cs := [(!((doR (pA l i) M).fst == 0 && ((doR (pA l i) M).snd.fst == true && ((doR (pA l i) M).snd.snd.fst == (ByteArray.mk #[]) && ((doR (pA l i) M).snd.snd.snd.fst == (ByteArray.mk #[]) && (((doR (pA l i) M).snd.snd.snd.snd.fst == dX C l i) && true)))))) == false, !(pA l i).fst == 5, ((pA l i).fst == 3) == false, inB (aI l i) 12, inB (rI l i) 4, inB (aI l i) 12, inB (rI l i) 4, inB (rI l i) 4, inB (rI l i) 4, true == true, false == false, (!true) == false, (!true) == false, (decide ((pkI W (aI l i) 0 11) > 0) == (pA l i).snd.snd.snd.snd.fst) == true, (!decide ((pkI W (aI l i) 0 11) > 0)) == true, (decide ((pkI W (aI l i) 0 11) > 0) == (pA l i).snd.snd.snd.snd.fst) == true, (!decide ((pkI W (aI l i) 0 11) > 0)) == true, (!decide ((pkI W (aI l i) 0 11) > 0)) == true, (!decide ((pkI W (aI l i) 0 11) > 0)) == true, (!decide ((pkI W (aI l i) 0 11) > 0)) == true, (!decide ((pkI W (aI l i) 0 11) > 0)) == true, (!decide ((pkI W (aI l i) 0 11) > 0)) == true, (decide ((pkI W (aI l i) 0 11) > 0) == (pA l i).snd.snd.snd.snd.fst) == true, (decide ((pkI W (aI l i) 0 11) > 0) == (pA l i).snd.snd.snd.snd.fst) == true, (decide ((pkI W (aI l i) 0 11) > 0) == (pA l i).snd.snd.snd.snd.fst) == true, ((pA l i).fst == 3) == false, ((pA l i).fst == 2) == false, ((pA l i).fst == 1) == false, inB (aI l i) 12, inB (((i : Nat) : Int)) l.length, inB (((i : Nat) : Int)) l.length, inB (((i : Nat) : Int)) l.length, decide (((i : Nat) : Int) < 80) == true, decide (((i : Nat) : Int) < ((l.length : Nat) : Int)) == true, decide (((i : Nat) : Int) < ((l.length : Nat) : Int)) == true, decide (((i : Nat) : Int) < ((l.length : Nat) : Int)) == true]) (fun rest => by kernel_rfl) (allI (by simp only [q1, q2, q3, q4, q5, f1, f2, f3, f5, eW0, eV0, eX, hR, hh, hq, hh5, hh6, baRfl, beq_self_eq_true]; rfl)) (i + 1, doM (pA l i) M, (setI C (rI l i) (cX C l i)), (setS V (aI l i) (pA l i).2.2.2.1), (setI W (aI l i) (dX C l i))) ⟨by show i + 1 ≤ 80; omega, inv, by have e := hf; rw [show lstep l (i, M, C, V, W) = (i + 1, doM (pA l i) M, (setI C (rI l i) (cX C l i)), (setS V (aI l i) (pA l i).2.2.2.1), (setI W (aI l i) (dX C l i))) from by simp only [lstep, chgV, f1, f2, f3, eW0, eV0, ← bl, hh, hq, hh5, hh6]; rfl] at e; exact e⟩ (by show 80 - (i + 1) < 80 - i; omega) ⟨.of_eq (by rw [wi]), trivial⟩ rfl (ids5 _ _ _ _ _)
          | false =>
            obtain ⟨hR, inv⟩ := no (by rw [hq]; rfl)
            simp only [cond_false] at hR
            exact OneRound.goT [true, true, true, true, false, false, false, false, false, false, false, false, true, true, false, false, false] (vs := [vI (IntKind.i64.wrap (((i : Nat) : Int) + 1))]) (hp' := hp5 (doM (pA l i) M) C V W) (cs := [(!((doR (pA l i) M).fst == 0 && ((doR (pA l i) M).snd.fst == false && ((doR (pA l i) M).snd.snd.fst == (ByteArray.mk #[]) && ((doR (pA l i) M).snd.snd.snd.fst == (ByteArray.mk #[]) && ((doR (pA l i) M).snd.snd.snd.snd.fst == 0 && true)))))) == false, !(pA l i).fst == 5, false == false, decide ((pkI W (aI l i) 0 11) > 0) == false, (!false) == true, (!false) == true, (decide ((pkI W (aI l i) 0 11) > 0) == (pA l i).snd.snd.snd.snd.fst) == false, (decide ((pkI W (aI l i) 0 11) > 0) == (pA l i).snd.snd.snd.snd.fst) == false, (decide ((pkI W (aI l i) 0 11) > 0) == (pA l i).snd.snd.snd.snd.fst) == false, (decide ((pkI W (aI l i) 0 11) > 0) == (pA l i).snd.snd.snd.snd.fst) == false, (decide ((pkI W (aI l i) 0 11) > 0) == (pA l i).snd.snd.snd.snd.fst) == false, ((pA l i).fst == 3) == false, ((pA l i).fst == 2) == false, ((pA l i).fst == 1) == false, inB (aI l i) 12, inB (((i : Nat) : Int)) l.length, inB (((i : Nat) : Int)) l.length, inB (((i : Nat) : Int)) l.length, decide (((i : Nat) : Int) < 80) == true, decide (((i : Nat) : Int) < ((l.length : Nat) : Int)) == true, decide (((i : Nat) : Int) < ((l.length : Nat) : Int)) == true, decide (((i : Nat) : Int) < ((l.length : Nat) : Int)) == true]) (fun rest => by kernel_rfl) (allI (by simp only [q1, q2, q3, q4, q5, f1, f2, f3, f5, eW0, eV0, eX, hR, hh, hq, hh5, hh6, baRfl, beq_self_eq_true]; rfl)) (i + 1, doM (pA l i) M, C, V, W) ⟨by show i + 1 ≤ 80; omega, inv, by have e := hf; rw [show lstep l (i, M, C, V, W) = (i + 1, doM (pA l i) M, C, V, W) from by simp only [lstep, chgV, f1, f2, f3, eW0, eV0, ← bl, hh, hq, hh5, hh6]; rfl] at e; exact e⟩ (by show 80 - (i + 1) < 80 - i; omega) ⟨.of_eq (by rw [wi]), trivial⟩ rfl (ids5 _ _ _ _ _)
    · have q2 : decide (((i : Nat) : Int) < 80) = false := decide_eq_false (by omega)
      have he : (i, M, C, V, W) = rr := by rw [show 80 - i = 0 by omega, lfin] at hfin; exact hfin
      subst he
      exact OneRound.stopT [true, true, true, false] (vs := [vI i]) (hp' := hp5 M C V W) (cs := [decide (((i : Nat) : Int) < 80) == false, decide (((i : Nat) : Int) < ((l.length : Nat) : Int)) == true, decide (((i : Nat) : Int) < ((l.length : Nat) : Int)) == true, decide (((i : Nat) : Int) < ((l.length : Nat) : Int)) == true]) (fun rest => by kernel_rfl) (allI (by simp only [q1, q2]; rfl)) (by simp) ⟨.unk, trivial⟩ rfl (ids5x _ _ _ _)
  · have q1 : decide (((i : Nat) : Int) < ((l.length : Nat) : Int)) = false := decide_eq_false (by omega)
    have he : (i, M, C, V, W) = rr := by
      cases hm : 80 - i with
      | zero => rw [hm, lfin] at hfin; exact hfin
      | succ m => rw [hm, lfin, if_neg (show ¬ (i, M, C, V, W).1 < l.length from hlt)] at hfin; exact hfin
    subst he
    exact OneRound.stopT [false, false, false, false] (vs := [vI i]) (hp' := hp5 M C V W) (cs := [false == false, decide (((i : Nat) : Int) < ((l.length : Nat) : Int)) == false, decide (((i : Nat) : Int) < ((l.length : Nat) : Int)) == false, decide (((i : Nat) : Int) < ((l.length : Nat) : Int)) == false]) (fun rest => by kernel_rfl) (allI (by simp only [q1]; rfl)) (by simp) ⟨.unk, trivial⟩ rfl (ids5x _ _ _ _)
end Go.Proofs.Ytolhkkoakneflaa
