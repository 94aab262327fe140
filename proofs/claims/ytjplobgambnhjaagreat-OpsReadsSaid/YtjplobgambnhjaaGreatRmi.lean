/- May a message be, as the document has it: the runs; no statement. -/
import Derived.Test.YtjplobgambnhjaaGreatRme
set_option linter.unusedVariables false
set_option linter.unusedSimpArgs false
set_option maxRecDepth 100000
namespace Go.Proofs.YtjplobgambnhjaaGreat
open Go Go.Eng

/-- A chain of `||`. -/
def chP : Bool → List (Nat × Bool) → Bool
  | b, [] => b
  | b, (_, x) :: l => chP (bif b then true else x) l
def chQ : Bool → List (Nat × Bool) → List Bool
  | _, [] => []
  | b, (n, x) :: l => chQ (bif b then true else x) l ++ tO b n
theorem chQ_all : ∀ (b : Bool) (l : List (Nat × Bool)), (chQ b l).all (fun c => c) = true
  | _, [] => rfl
  | b, (n, x) :: l => by rw [chQ, List.all_append, chQ_all, tO_all]; rfl
abbrev eE (d : rMsg.den) : List rEntry.den := d.2.2.2.2.2.2.2.1
abbrev eB (d : rMsg.den) : rBase.den := d.2.2.2.2.2.2.2.2.1
abbrev eT' (d : rMsg.den) : ByteArray := d.2.2.2.2.2.2.2.2.2.1
abbrev ltZ (d : rMsg.den) : Bool := d.2.2.2.2.1 == 0
/-- What of each kind must hold. -/
def krM (d : rMsg.den) : Nat → List (Nat × Bool)
  | 1 => [(1, plB d true true false false)]
  | 2 => [(1, plB d true false false true), (2, ltZ d)]
  | 3 => [(1, plB d true true true false)]
  | 4 => [(1, plB d true true false true), (2, ltZ d)]
  | 5 => [(1, plB d true false false false), (2, ltZ d), (3, decide ((eB d).1 > (0 : Int))), (3, decide ((eB d).2.1 > (0 : Int))), (4, memV (eB d).2.2.1 == 0), (3, decide ((((ByteArray.size (eT' d)) : Nat) : Int) ≤ 1048576))]
  | 6 => [(1, plB d false false false false), (2, ltZ d), (2, blB (aR d).1 4), (2, nuB (aR d).2.1), (2, leT (aR d).2.2.2.1), (4, (aR d).2.2.1 == d.2.1), (3, chkV (aR d).2.2.2.2.1 == 0)]
  | 7 => [(1, plB d false false false false), (2, ltZ d), (2, blB (aP d).1 4), (2, nuB (aP d).2.1), (2, resOk (aP d).2.2.1.1 (aP d).2.2.1.2.2.1 (aP d).2.2.1.2.2.2.1 (aP d).2.2.1.2.2.2.2.1), (2, rhB (aP d).2.2.2.1)]
  | 8 => [(1, plB d false false false false), (2, ltZ d), (4, (aA d).1 == d.2.1), (1, askB (aA d))]
  | 9 => [(1, plB d false false false false), (2, ltZ d), (4, (aT d).1 == d.2.1), (2, nuB (aT d).2.1), (2, decide ((aT d).2.2.1 ≥ (0 : Int))), (2, decide ((aT d).2.2.1 ≤ (100 : Int))), (2, decide ((aT d).2.2.2.1 ≥ (0 : Int))), (2, decide ((aT d).2.2.2.1 ≤ (15 : Int))), (2, rhB (aT d).2.2.2.2.1)]
  | _ => []
def k0 (d : rMsg.den) : Nat → Bool
  | 0 => false
  | _ => g0 d
def enK : Nat → Int
  | 3 => 8
  | _ => 0
def isK (d : rMsg.den) (k : Nat) : Bool := rkB (chV (k0 d k) (krM d k)) (enK k) (eE d) (eE d).length
def rqK (d : rMsg.den) : Nat → rReq.den
  | 6 => aR d
  | _ => zR
def rpK (d : rMsg.den) : Nat → rRep.den
  | 7 => aP d
  | _ => zP
def raK (d : rMsg.den) : Nat → rAsk.den
  | 8 => aA d
  | _ => zA
def rtK (d : rMsg.den) : Nat → rTold.den
  | 9 => aT d
  | _ => zT
def frM (d : rMsg.den) (k : Nat) : List (Nat × Bool) := [(3, !CT.same rReq (aR d) (rqK d k)), (3, !CT.same rRep (aP d) (rpK d k)), (3, !CT.same rAsk (aA d) (raK d k)), (3, !CT.same rTold (aT d) (rtK d k))]
def xb1 (d : rMsg.den) : Bool := (eB d).1 != 0
def xb2 (d : rMsg.den) : Bool := bif xb1 d then true else (eB d).2.1 != 0
def xb3 (d : rMsg.den) : Bool := bif xb2 d then true else (((eB d).2.2.1.length : Nat) : Int) != 0
def xb4 (d : rMsg.den) : Bool := bif xb3 d then true else !((eT' d).toList == (ByteArray.mk #[]).toList)
def tD (b : Bool) (n : Nat) : List Bool := ((fun q => b || q) (b == false)) :: List.replicate n ((fun q => !(b == false) || q) (b == false))
theorem tD_all (b : Bool) (n : Nat) : (tD b n).all (fun c => c) = true := tO_all b n
def csX (d : rMsg.den) : List Bool := true :: true :: (tD (xb3 d) 2 ++ (true :: true :: (tD (xb2 d) 4 ++ (true :: true :: (tD (xb1 d) 3 ++ [true, true, true, true])))))
theorem csX_all (d : rMsg.den) : (csX d).all (fun c => c) = true := by
  unfold csX
  simp only [List.all_cons, List.all_append, tD_all, List.all_nil, Bool.and_true]
def csL (d : rMsg.den) (k : Nat) : List Bool := true :: decide ((eE d).length ≤ maxLen) :: nnE (eE d) :: chC (k0 d k) (krM d k)
theorem rmsg_runF : ∀ k : Nat, 1 ≤ k → k ≤ 9 → k ≠ 5 → ∀ (f : Bool) (d : rMsg.den), ERm4.pureRun 36 [.agg (rMsg.cells d)] (List.replicate (k - 1) false ++ [true, false, f]) =
    some (vI (bif f then 2 else 0), (chP (!isK d k) (frM d k) == f) :: (chQ (!isK d k) (frM d k) ++ ((xb4 d == false) :: (csX d ++ (csL d k ++ (((d.1 == ((k : Nat) : Int)) == true) :: csQ d (k - 1))))))) := by
  intro k h1 h9 h3
  have h : k = 1 ∨ k = 2 ∨ k = 3 ∨ k = 4 ∨ k = 6 ∨ k = 7 ∨ k = 8 ∨ k = 9 := by omega
  rcases h with rfl | rfl | rfl | rfl | rfl | rfl | rfl | rfl
  all_goals (intro f d; cases f <;> kernel_rfl)
theorem rmsg_runT : ∀ k : Nat, 1 ≤ k → k ≤ 9 → k ≠ 5 → ∀ (d : rMsg.den), ERm4.pureRun 36 [.agg (rMsg.cells d)] (List.replicate (k - 1) false ++ [true, true, true]) =
    some (vI 2, true :: (chQ true (frM d k) ++ ((xb4 d == true) :: (csX d ++ (csL d k ++ (((d.1 == ((k : Nat) : Int)) == true) :: csQ d (k - 1))))))) := by
  intro k h1 h9 h3
  have h : k = 1 ∨ k = 2 ∨ k = 3 ∨ k = 4 ∨ k = 6 ∨ k = 7 ∨ k = 8 ∨ k = 9 := by omega
  rcases h with rfl | rfl | rfl | rfl | rfl | rfl | rfl | rfl
  all_goals (intro d; kernel_rfl)
theorem rmsg_run5 (f : Bool) (d : rMsg.den) : ERm4.pureRun 36 [.agg (rMsg.cells d)] [false, false, false, false, true, false, f] =
    some (vI (bif f then 2 else 0), (chP (!isK d 5) (frM d 5) == f) :: (chQ (!isK d 5) (frM d 5) ++ (List.replicate 23 true ++ (csL d 5 ++ (((d.1 == (5 : Int)) == true) :: csQ d 4))))) := by cases f <;> kernel_rfl
theorem rmsg_run0F (d : rMsg.den) : ERm4.pureRun 36 [.agg (rMsg.cells d)] (List.replicate 9 false ++ [false, true]) =
    some (vI 2, (chP (!isK d 0) (frM d 0) == true) :: (chQ (!isK d 0) (frM d 0) ++ ((xb4 d == false) :: (csX d ++ (csL d 0 ++ csQ d 9))))) := by kernel_rfl
theorem rmsg_run0T (d : rMsg.den) : ERm4.pureRun 36 [.agg (rMsg.cells d)] (List.replicate 9 false ++ [true, true]) =
    some (vI 2, true :: (chQ true (frM d 0) ++ ((xb4 d == true) :: (csX d ++ (csL d 0 ++ csQ d 9))))) := by kernel_rfl
open Go Go.Eng

theorem ba_comm (a b : ByteArray) : (a == b) = (b == a) := by
  cases a with | mk x => cases b with | mk y =>
    show (x == y) = (y == x)
    exact BEq.comm
theorem same_comm' : ∀ (t : CT) (a b : t.den), CT.same t a b = CT.same t b a
  | .int _, a, b => by show ((a : Int) == b) = ((b : Int) == a); exact BEq.comm
  | .bool, a, b => by show ((a : Bool) == b) = ((b : Bool) == a); exact BEq.comm
  | .str, a, b => ba_comm a b
  | .sl _, _, _ => rfl
  | .unit, _, _ => rfl
  | .pair c cs, a, b => by
    show (CT.same c a.1 b.1 && CT.same cs a.2 b.2) = (CT.same c b.1 a.1 && CT.same cs b.2 a.2)
    rw [same_comm' c, same_comm' cs]
theorem ba_refl (a : ByteArray) : (a == a) = true := by
  cases a with | mk d => exact beq_self_eq_true d
theorem same_refl' : ∀ (t : CT) (a : t.den), CT.same t a a = true
  | .int _, a => beq_self_eq_true (a : Int)
  | .bool, a => beq_self_eq_true (a : Bool)
  | .str, a => ba_refl a
  | .sl _, _ => rfl
  | .unit, _ => rfl
  | .pair c cs, a => by
    show (CT.same c a.1 a.1 && CT.same cs a.2 a.2) = true
    rw [same_refl' c, same_refl' cs]; rfl
theorem rk_zero (c : Bool) (l : List rEntry.den) : ∀ n, rkB c 0 l n = (c && n == 0)
  | 0 => by simp [rkB]
  | n + 1 => by
    have : decide (((n : Nat) : Int) < 0) = false := decide_eq_false (by omega)
    simp [rkB, this]
theorem rk_eight (c : Bool) (l : List rEntry.den) : ∀ n, n ≤ l.length → (rkB c 8 l n = true ↔ c = true ∧ n ≤ 8 ∧ ∀ k, k < n → badE (l.getD k rEntry.dflt) = false)
  | 0, _ => by simp [rkB]
  | n + 1, h => by
    have ih := rk_eight c l n (by omega)
    simp only [rkB, bif_and, Bool.and_eq_true, ih, decide_eq_true_eq]
    have hb : ((entV (l.getD n rEntry.dflt) == 0) = true) ↔ badE (l.getD n rEntry.dflt) = false := by
      unfold badE
      simp
    rw [hb]
    constructor
    · rintro ⟨⟨h1, h2, h3⟩, h4, h5⟩
      refine ⟨h1, by omega, fun k hk => ?_⟩
      by_cases e : k = n
      · rw [e]; exact h5
      · exact h3 k (by omega)
    · rintro ⟨h1, h2, h3⟩
      exact ⟨⟨h1, by omega, fun k hk => h3 k (by omega)⟩, by omega, h3 n (by omega)⟩
theorem any_bad (l : List rEntry.den) : (l.any badE = false) ↔ ∀ k, k < l.length → badE (l.getD k rEntry.dflt) = false := by
  rw [List.any_eq_false]
  constructor
  · intro h k hk
    have := h _ (List.mem_of_getElem? (getD_getE hk))
    simpa using this
  · intro h x hx
    obtain ⟨j, hj⟩ := List.getElem?_of_mem hx
    have hjl := (List.getElem?_eq_some_iff.1 hj).1
    have := h j hjl
    rw [getD_getE hjl] at hj
    injection hj with hj
    rw [hj] at this; simpa using this
theorem rk8 (c : Bool) (l : List rEntry.den) : rkB c 8 l l.length = (c && (decide (((l.length : Nat) : Int) ≤ 8) && !(l.any badE))) := by
  rw [Bool.eq_iff_iff, rk_eight c l l.length (Nat.le_refl _)]
  simp only [Bool.and_eq_true, Bool.not_eq_true', any_bad, decide_eq_true_eq]
  constructor
  · rintro ⟨h1, h2, h3⟩; exact ⟨h1, by omega, (any_bad l).2 h3⟩
  · rintro ⟨h1, h2, h3⟩; exact ⟨h1, by omega, (any_bad l).1 h3⟩
def xk (d : rMsg.den) : Nat → Bool
  | 5 => false
  | _ => xb4 d
/-- As the document has it: may it be? -/
def rmB (d : rMsg.den) (k : Nat) : Bool := bif xk d k then false else !chP (!isK d k) (frM d k)
theorem leT0 {n : Int} (h : n = 0) : leT n = true := by subst h; rfl
theorem int_len (l : List Int) : ((((l.length : Nat) : Int)) != 0) = !(decide ([] = l)) := by
  cases l with
  | nil => rfl
  | cons a l => simp; omega
theorem emp_len (l : List rEntry.den) : (((0 : Nat) : Int) == ((l.length : Nat) : Int)) = (l.length == 0) := by
  rw [Bool.eq_iff_iff]; simp only [beq_iff_eq]; omega
def cjs : List Bool → Bool
  | [] => true
  | b :: l => b && cjs l
theorem chV_cj : ∀ (b : Bool) (l : List (Nat × Bool)), chV b l = (b && cjs (l.map (·.2)))
  | b, [] => by simp [chV, cjs]
  | b, (n, x) :: l => by rw [chV, chV_cj, bif_and]; simp [cjs, Bool.and_assoc]
theorem chP_cj : ∀ (b : Bool) (l : List (Nat × Bool)), (!chP b l) = (!b && cjs (l.map (fun p => !p.2)))
  | b, [] => by simp [chP, cjs]
  | b, (n, x) :: l => by rw [chP, chP_cj, bif_or']; simp [cjs, Bool.and_assoc]
theorem sameM_cj (a b : rMsg.den) : sameM a b = (a.2.2.1 == b.2.2.1 && (a.2.2.2.1 == b.2.2.2.1 && (a.2.2.2.2.1 == b.2.2.2.2.1 && (a.2.2.2.2.2.1 == b.2.2.2.2.2.1 && (a.2.2.2.2.2.2.1 == b.2.2.2.2.2.2.1 && (ByteArray.toList (eT' a) == ByteArray.toList (eT' b) && ((eB a).1 == (eB b).1 && ((eB a).2.1 == (eB b).2.1 && (decide ((eB a).2.2.1 = (eB b).2.2.1) && (CT.same rReq (aR a) (aR b) && (CT.same rRep (aP a) (aP b) && (CT.same rAsk (aA a) (aA b) && CT.same rTold (aT a) (aT b))))))))))))) := by
  unfold sameM sm_4 sm_3 sm_2 sm_1 sb_3 sb_2 sb_1 sp_6 sp_5 sp_4 sp_3 sp_2 sp_1
  simp only [bif_and, Bool.and_assoc]
open Go Go.Eng

theorem beqz (n : Int) : (0 == n) = (n == 0) := BEq.comm
theorem cond_ft (a b : Bool) : (bif a then false else b) = (!a && b) := by cases a <;> rfl
theorem tl_comm (a : ByteArray) : (ByteArray.toList a == ByteArray.toList (ByteArray.mk #[])) = (ByteArray.toList (ByteArray.mk #[]) == ByteArray.toList a) := BEq.comm
theorem i_ne (n : Int) : (!(n != 0)) = (n == 0) := by simp [bne]
theorem rm_1 (d : rMsg.den) (h7 : rhB (aP d).2.2.2.1 = hiB (aP d).2.2.2.1) (h9 : rhB (aT d).2.2.2.2.1 = hiB (aT d).2.2.2.2.1) : rmB d 1 = msK d 1 := by
  obtain ⟨kd, gr, t, i, lt, cm, ok, E, ⟨bi, bt, bm, ⟨⟩⟩, dt, q, p, a, o, ⟨⟩⟩ := d
  have r8 : ∀ c, rkB c 8 E (List.length E) = (c && (decide (((List.length E : Nat) : Int) ≤ 8) && !(List.any E badE))) := fun c => rk8 c E
  simp only [rmB, xk, chP_cj, isK, enK, rk_zero, chV_cj, krM, k0, frM, rqK, rpK, raK, rtK, xb4, xb3, xb2, xb1, List.map, cjs, msK, ms3, g3, g1, kdM, tlM, mXk, mX, sameM_cj, plB, pl7, pl6, pl5, pl4, pl3, pl2, pl1, bif_and, bif_or', cond_ft, ltZ, eE, eB, eT', aR, aP, aA, aT, h7, h9, stB, blB_eq, Bool.not_not, Bool.not_or, i_ne, int_len, tl_comm, beqz, Bool.true_or, Bool.false_or, Bool.or_true, Bool.or_false, List.nil_append, List.cons_append, Bool.and_true, Bool.true_and, Bool.and_assoc, beq_self_eq_true, same_refl', cond_true, cond_false, Bool.not_true, Bool.not_false] at h7 h9 ⊢
  try rw [same_comm' rReq q]
  try rw [same_comm' rRep p]
  try rw [same_comm' rAsk a]
  try rw [same_comm' rTold o]
  have e0 : (((0 : Nat) : Int) == ((List.length E : Nat) : Int)) = (List.length E == 0) := emp_len E
  have e1 : leT 0 = true := rfl
  have e2 : (false == ok) = !ok := by cases ok <;> rfl
  have z1 := @leT0 t
  have z2 := @leT0 i
  have z3 := @leT0 lt
  have z4 := @leT0 cm
  try rw [e0]
  try rw [e1]
  try rw [e2]
  rw [Bool.eq_iff_iff]
  simp only [Bool.and_eq_true, beq_iff_eq, decide_eq_true_eq]
  generalize g0 (kd, gr, t, i, lt, cm, ok, E, (bi, bt, bm, PUnit.unit), dt, q, p, a, o, PUnit.unit) = G
  generalize rReq.same zR q = R1
  generalize rRep.same zP p = R2
  generalize rAsk.same zA a = R3
  generalize rTold.same zT o = R4
  generalize leT t = T1 at *
  generalize leT i = T2 at *
  generalize leT lt = T3 at *
  generalize leT cm = T4 at *
  grind
theorem rm_2 (d : rMsg.den) (h7 : rhB (aP d).2.2.2.1 = hiB (aP d).2.2.2.1) (h9 : rhB (aT d).2.2.2.2.1 = hiB (aT d).2.2.2.2.1) : rmB d 2 = msK d 2 := by
  obtain ⟨kd, gr, t, i, lt, cm, ok, E, ⟨bi, bt, bm, ⟨⟩⟩, dt, q, p, a, o, ⟨⟩⟩ := d
  have r8 : ∀ c, rkB c 8 E (List.length E) = (c && (decide (((List.length E : Nat) : Int) ≤ 8) && !(List.any E badE))) := fun c => rk8 c E
  simp only [rmB, xk, chP_cj, isK, enK, rk_zero, chV_cj, krM, k0, frM, rqK, rpK, raK, rtK, xb4, xb3, xb2, xb1, List.map, cjs, msK, ms3, g3, g1, kdM, tlM, mXk, mX, sameM_cj, plB, pl7, pl6, pl5, pl4, pl3, pl2, pl1, bif_and, bif_or', cond_ft, ltZ, eE, eB, eT', aR, aP, aA, aT, h7, h9, stB, blB_eq, Bool.not_not, Bool.not_or, i_ne, int_len, tl_comm, beqz, Bool.true_or, Bool.false_or, Bool.or_true, Bool.or_false, List.nil_append, List.cons_append, Bool.and_true, Bool.true_and, Bool.and_assoc, beq_self_eq_true, same_refl', cond_true, cond_false, Bool.not_true, Bool.not_false] at h7 h9 ⊢
  try rw [same_comm' rReq q]
  try rw [same_comm' rRep p]
  try rw [same_comm' rAsk a]
  try rw [same_comm' rTold o]
  have e0 : (((0 : Nat) : Int) == ((List.length E : Nat) : Int)) = (List.length E == 0) := emp_len E
  have e1 : leT 0 = true := rfl
  have e2 : (false == ok) = !ok := by cases ok <;> rfl
  have z1 := @leT0 t
  have z2 := @leT0 i
  have z3 := @leT0 lt
  have z4 := @leT0 cm
  try rw [e0]
  try rw [e1]
  try rw [e2]
  rw [Bool.eq_iff_iff]
  simp only [Bool.and_eq_true, beq_iff_eq, decide_eq_true_eq]
  generalize g0 (kd, gr, t, i, lt, cm, ok, E, (bi, bt, bm, PUnit.unit), dt, q, p, a, o, PUnit.unit) = G
  generalize rReq.same zR q = R1
  generalize rRep.same zP p = R2
  generalize rAsk.same zA a = R3
  generalize rTold.same zT o = R4
  generalize leT t = T1 at *
  generalize leT i = T2 at *
  generalize leT lt = T3 at *
  generalize leT cm = T4 at *
  grind
theorem rm_3 (d : rMsg.den) (h7 : rhB (aP d).2.2.2.1 = hiB (aP d).2.2.2.1) (h9 : rhB (aT d).2.2.2.2.1 = hiB (aT d).2.2.2.2.1) : rmB d 3 = ms3 d := by
  obtain ⟨kd, gr, t, i, lt, cm, ok, E, ⟨bi, bt, bm, ⟨⟩⟩, dt, q, p, a, o, ⟨⟩⟩ := d
  have r8 : ∀ c, rkB c 8 E (List.length E) = (c && (decide (((List.length E : Nat) : Int) ≤ 8) && !(List.any E badE))) := fun c => rk8 c E
  simp only [rmB, xk, chP_cj, isK, enK, r8, chV_cj, krM, k0, frM, rqK, rpK, raK, rtK, xb4, xb3, xb2, xb1, List.map, cjs, msK, ms3, g3, g1, kdM, tlM, mXk, mX, sameM_cj, plB, pl7, pl6, pl5, pl4, pl3, pl2, pl1, bif_and, bif_or', cond_ft, ltZ, eE, eB, eT', aR, aP, aA, aT, h7, h9, stB, blB_eq, Bool.not_not, Bool.not_or, i_ne, int_len, tl_comm, beqz, Bool.true_or, Bool.false_or, Bool.or_true, Bool.or_false, List.nil_append, List.cons_append, Bool.and_true, Bool.true_and, Bool.and_assoc, beq_self_eq_true, same_refl', cond_true, cond_false, Bool.not_true, Bool.not_false] at h7 h9 ⊢
  try rw [same_comm' rReq q]
  try rw [same_comm' rRep p]
  try rw [same_comm' rAsk a]
  try rw [same_comm' rTold o]
  have e0 : (((0 : Nat) : Int) == ((List.length E : Nat) : Int)) = (List.length E == 0) := emp_len E
  have e1 : leT 0 = true := rfl
  have e2 : (false == ok) = !ok := by cases ok <;> rfl
  have z1 := @leT0 t
  have z2 := @leT0 i
  have z3 := @leT0 lt
  have z4 := @leT0 cm
  try rw [e0]
  try rw [e1]
  try rw [e2]
  rw [Bool.eq_iff_iff]
  simp only [Bool.and_eq_true, beq_iff_eq, decide_eq_true_eq]
  generalize g0 (kd, gr, t, i, lt, cm, ok, E, (bi, bt, bm, PUnit.unit), dt, q, p, a, o, PUnit.unit) = G
  generalize rReq.same zR q = R1
  generalize rRep.same zP p = R2
  generalize rAsk.same zA a = R3
  generalize rTold.same zT o = R4
  generalize leT t = T1 at *
  generalize leT i = T2 at *
  generalize leT lt = T3 at *
  generalize leT cm = T4 at *
  grind
theorem rm_4 (d : rMsg.den) (h7 : rhB (aP d).2.2.2.1 = hiB (aP d).2.2.2.1) (h9 : rhB (aT d).2.2.2.2.1 = hiB (aT d).2.2.2.2.1) : rmB d 4 = msK d 4 := by
  obtain ⟨kd, gr, t, i, lt, cm, ok, E, ⟨bi, bt, bm, ⟨⟩⟩, dt, q, p, a, o, ⟨⟩⟩ := d
  have r8 : ∀ c, rkB c 8 E (List.length E) = (c && (decide (((List.length E : Nat) : Int) ≤ 8) && !(List.any E badE))) := fun c => rk8 c E
  simp only [rmB, xk, chP_cj, isK, enK, rk_zero, chV_cj, krM, k0, frM, rqK, rpK, raK, rtK, xb4, xb3, xb2, xb1, List.map, cjs, msK, ms3, g3, g1, kdM, tlM, mXk, mX, sameM_cj, plB, pl7, pl6, pl5, pl4, pl3, pl2, pl1, bif_and, bif_or', cond_ft, ltZ, eE, eB, eT', aR, aP, aA, aT, h7, h9, stB, blB_eq, Bool.not_not, Bool.not_or, i_ne, int_len, tl_comm, beqz, Bool.true_or, Bool.false_or, Bool.or_true, Bool.or_false, List.nil_append, List.cons_append, Bool.and_true, Bool.true_and, Bool.and_assoc, beq_self_eq_true, same_refl', cond_true, cond_false, Bool.not_true, Bool.not_false] at h7 h9 ⊢
  try rw [same_comm' rReq q]
  try rw [same_comm' rRep p]
  try rw [same_comm' rAsk a]
  try rw [same_comm' rTold o]
  have e0 : (((0 : Nat) : Int) == ((List.length E : Nat) : Int)) = (List.length E == 0) := emp_len E
  have e1 : leT 0 = true := rfl
  have e2 : (false == ok) = !ok := by cases ok <;> rfl
  have z1 := @leT0 t
  have z2 := @leT0 i
  have z3 := @leT0 lt
  have z4 := @leT0 cm
  try rw [e0]
  try rw [e1]
  try rw [e2]
  rw [Bool.eq_iff_iff]
  simp only [Bool.and_eq_true, beq_iff_eq, decide_eq_true_eq]
  generalize g0 (kd, gr, t, i, lt, cm, ok, E, (bi, bt, bm, PUnit.unit), dt, q, p, a, o, PUnit.unit) = G
  generalize rReq.same zR q = R1
  generalize rRep.same zP p = R2
  generalize rAsk.same zA a = R3
  generalize rTold.same zT o = R4
  generalize leT t = T1 at *
  generalize leT i = T2 at *
  generalize leT lt = T3 at *
  generalize leT cm = T4 at *
  grind
theorem rm_5 (d : rMsg.den) (h7 : rhB (aP d).2.2.2.1 = hiB (aP d).2.2.2.1) (h9 : rhB (aT d).2.2.2.2.1 = hiB (aT d).2.2.2.2.1) : rmB d 5 = msK d 5 := by
  obtain ⟨kd, gr, t, i, lt, cm, ok, E, ⟨bi, bt, bm, ⟨⟩⟩, dt, q, p, a, o, ⟨⟩⟩ := d
  have r8 : ∀ c, rkB c 8 E (List.length E) = (c && (decide (((List.length E : Nat) : Int) ≤ 8) && !(List.any E badE))) := fun c => rk8 c E
  simp only [rmB, xk, chP_cj, isK, enK, rk_zero, chV_cj, krM, k0, frM, rqK, rpK, raK, rtK, xb4, xb3, xb2, xb1, List.map, cjs, msK, ms3, g3, g1, kdM, tlM, mXk, mX, sameM_cj, plB, pl7, pl6, pl5, pl4, pl3, pl2, pl1, bif_and, bif_or', cond_ft, ltZ, eE, eB, eT', aR, aP, aA, aT, h7, h9, stB, blB_eq, Bool.not_not, Bool.not_or, i_ne, int_len, tl_comm, beqz, Bool.true_or, Bool.false_or, Bool.or_true, Bool.or_false, List.nil_append, List.cons_append, Bool.and_true, Bool.true_and, Bool.and_assoc, beq_self_eq_true, same_refl', cond_true, cond_false, Bool.not_true, Bool.not_false] at h7 h9 ⊢
  try rw [same_comm' rReq q]
  try rw [same_comm' rRep p]
  try rw [same_comm' rAsk a]
  try rw [same_comm' rTold o]
  have e0 : (((0 : Nat) : Int) == ((List.length E : Nat) : Int)) = (List.length E == 0) := emp_len E
  have e1 : leT 0 = true := rfl
  have e2 : (false == ok) = !ok := by cases ok <;> rfl
  have z1 := @leT0 t
  have z2 := @leT0 i
  have z3 := @leT0 lt
  have z4 := @leT0 cm
  try rw [e0]
  try rw [e1]
  try rw [e2]
  rw [Bool.eq_iff_iff]
  simp only [Bool.and_eq_true, beq_iff_eq, decide_eq_true_eq]
  generalize g0 (kd, gr, t, i, lt, cm, ok, E, (bi, bt, bm, PUnit.unit), dt, q, p, a, o, PUnit.unit) = G
  generalize rReq.same zR q = R1
  generalize rRep.same zP p = R2
  generalize rAsk.same zA a = R3
  generalize rTold.same zT o = R4
  generalize leT t = T1 at *
  generalize leT i = T2 at *
  generalize leT lt = T3 at *
  generalize leT cm = T4 at *
  grind
theorem rm_6 (d : rMsg.den) (h7 : rhB (aP d).2.2.2.1 = hiB (aP d).2.2.2.1) (h9 : rhB (aT d).2.2.2.2.1 = hiB (aT d).2.2.2.2.1) : rmB d 6 = msK d 6 := by
  obtain ⟨kd, gr, t, i, lt, cm, ok, E, ⟨bi, bt, bm, ⟨⟩⟩, dt, q, p, a, o, ⟨⟩⟩ := d
  have r8 : ∀ c, rkB c 8 E (List.length E) = (c && (decide (((List.length E : Nat) : Int) ≤ 8) && !(List.any E badE))) := fun c => rk8 c E
  simp only [rmB, xk, chP_cj, isK, enK, rk_zero, chV_cj, krM, k0, frM, rqK, rpK, raK, rtK, xb4, xb3, xb2, xb1, List.map, cjs, msK, ms3, g3, g1, kdM, tlM, mXk, mX, sameM_cj, plB, pl7, pl6, pl5, pl4, pl3, pl2, pl1, bif_and, bif_or', cond_ft, ltZ, eE, eB, eT', aR, aP, aA, aT, h7, h9, stB, blB_eq, Bool.not_not, Bool.not_or, i_ne, int_len, tl_comm, beqz, Bool.true_or, Bool.false_or, Bool.or_true, Bool.or_false, List.nil_append, List.cons_append, Bool.and_true, Bool.true_and, Bool.and_assoc, beq_self_eq_true, same_refl', cond_true, cond_false, Bool.not_true, Bool.not_false] at h7 h9 ⊢
  try rw [same_comm' rReq q]
  try rw [same_comm' rRep p]
  try rw [same_comm' rAsk a]
  try rw [same_comm' rTold o]
  have e0 : (((0 : Nat) : Int) == ((List.length E : Nat) : Int)) = (List.length E == 0) := emp_len E
  have e1 : leT 0 = true := rfl
  have e2 : (false == ok) = !ok := by cases ok <;> rfl
  have z1 := @leT0 t
  have z2 := @leT0 i
  have z3 := @leT0 lt
  have z4 := @leT0 cm
  try rw [e0]
  try rw [e1]
  try rw [e2]
  rw [Bool.eq_iff_iff]
  simp only [Bool.and_eq_true, beq_iff_eq, decide_eq_true_eq]
  generalize g0 (kd, gr, t, i, lt, cm, ok, E, (bi, bt, bm, PUnit.unit), dt, q, p, a, o, PUnit.unit) = G
  generalize rReq.same zR q = R1
  generalize rRep.same zP p = R2
  generalize rAsk.same zA a = R3
  generalize rTold.same zT o = R4
  generalize leT t = T1 at *
  generalize leT i = T2 at *
  generalize leT lt = T3 at *
  generalize leT cm = T4 at *
  grind
theorem rm_7 (d : rMsg.den) (h7 : rhB (aP d).2.2.2.1 = hiB (aP d).2.2.2.1) (h9 : rhB (aT d).2.2.2.2.1 = hiB (aT d).2.2.2.2.1) : rmB d 7 = msK d 7 := by
  obtain ⟨kd, gr, t, i, lt, cm, ok, E, ⟨bi, bt, bm, ⟨⟩⟩, dt, q, p, a, o, ⟨⟩⟩ := d
  have r8 : ∀ c, rkB c 8 E (List.length E) = (c && (decide (((List.length E : Nat) : Int) ≤ 8) && !(List.any E badE))) := fun c => rk8 c E
  simp only [rmB, xk, chP_cj, isK, enK, rk_zero, chV_cj, krM, k0, frM, rqK, rpK, raK, rtK, xb4, xb3, xb2, xb1, List.map, cjs, msK, ms3, g3, g1, kdM, tlM, mXk, mX, sameM_cj, plB, pl7, pl6, pl5, pl4, pl3, pl2, pl1, bif_and, bif_or', cond_ft, ltZ, eE, eB, eT', aR, aP, aA, aT, h7, h9, stB, blB_eq, Bool.not_not, Bool.not_or, i_ne, int_len, tl_comm, beqz, Bool.true_or, Bool.false_or, Bool.or_true, Bool.or_false, List.nil_append, List.cons_append, Bool.and_true, Bool.true_and, Bool.and_assoc, beq_self_eq_true, same_refl', cond_true, cond_false, Bool.not_true, Bool.not_false] at h7 h9 ⊢
  try rw [same_comm' rReq q]
  try rw [same_comm' rRep p]
  try rw [same_comm' rAsk a]
  try rw [same_comm' rTold o]
  have e0 : (((0 : Nat) : Int) == ((List.length E : Nat) : Int)) = (List.length E == 0) := emp_len E
  have e1 : leT 0 = true := rfl
  have e2 : (false == ok) = !ok := by cases ok <;> rfl
  have z1 := @leT0 t
  have z2 := @leT0 i
  have z3 := @leT0 lt
  have z4 := @leT0 cm
  try rw [e0]
  try rw [e1]
  try rw [e2]
  rw [Bool.eq_iff_iff]
  simp only [Bool.and_eq_true, beq_iff_eq, decide_eq_true_eq]
  generalize g0 (kd, gr, t, i, lt, cm, ok, E, (bi, bt, bm, PUnit.unit), dt, q, p, a, o, PUnit.unit) = G
  generalize rReq.same zR q = R1
  generalize rRep.same zP p = R2
  generalize rAsk.same zA a = R3
  generalize rTold.same zT o = R4
  generalize leT t = T1 at *
  generalize leT i = T2 at *
  generalize leT lt = T3 at *
  generalize leT cm = T4 at *
  grind
theorem rm_8 (d : rMsg.den) (h7 : rhB (aP d).2.2.2.1 = hiB (aP d).2.2.2.1) (h9 : rhB (aT d).2.2.2.2.1 = hiB (aT d).2.2.2.2.1) : rmB d 8 = msK d 8 := by
  obtain ⟨kd, gr, t, i, lt, cm, ok, E, ⟨bi, bt, bm, ⟨⟩⟩, dt, q, p, a, o, ⟨⟩⟩ := d
  have r8 : ∀ c, rkB c 8 E (List.length E) = (c && (decide (((List.length E : Nat) : Int) ≤ 8) && !(List.any E badE))) := fun c => rk8 c E
  simp only [rmB, xk, chP_cj, isK, enK, rk_zero, chV_cj, krM, k0, frM, rqK, rpK, raK, rtK, xb4, xb3, xb2, xb1, List.map, cjs, msK, ms3, g3, g1, kdM, tlM, mXk, mX, sameM_cj, plB, pl7, pl6, pl5, pl4, pl3, pl2, pl1, bif_and, bif_or', cond_ft, ltZ, eE, eB, eT', aR, aP, aA, aT, h7, h9, stB, blB_eq, Bool.not_not, Bool.not_or, i_ne, int_len, tl_comm, beqz, Bool.true_or, Bool.false_or, Bool.or_true, Bool.or_false, List.nil_append, List.cons_append, Bool.and_true, Bool.true_and, Bool.and_assoc, beq_self_eq_true, same_refl', cond_true, cond_false, Bool.not_true, Bool.not_false] at h7 h9 ⊢
  try rw [same_comm' rReq q]
  try rw [same_comm' rRep p]
  try rw [same_comm' rAsk a]
  try rw [same_comm' rTold o]
  have e0 : (((0 : Nat) : Int) == ((List.length E : Nat) : Int)) = (List.length E == 0) := emp_len E
  have e1 : leT 0 = true := rfl
  have e2 : (false == ok) = !ok := by cases ok <;> rfl
  have z1 := @leT0 t
  have z2 := @leT0 i
  have z3 := @leT0 lt
  have z4 := @leT0 cm
  try rw [e0]
  try rw [e1]
  try rw [e2]
  rw [Bool.eq_iff_iff]
  simp only [Bool.and_eq_true, beq_iff_eq, decide_eq_true_eq]
  generalize g0 (kd, gr, t, i, lt, cm, ok, E, (bi, bt, bm, PUnit.unit), dt, q, p, a, o, PUnit.unit) = G
  generalize rReq.same zR q = R1
  generalize rRep.same zP p = R2
  generalize rAsk.same zA a = R3
  generalize rTold.same zT o = R4
  generalize leT t = T1 at *
  generalize leT i = T2 at *
  generalize leT lt = T3 at *
  generalize leT cm = T4 at *
  grind
theorem rm_9 (d : rMsg.den) (h7 : rhB (aP d).2.2.2.1 = hiB (aP d).2.2.2.1) (h9 : rhB (aT d).2.2.2.2.1 = hiB (aT d).2.2.2.2.1) : rmB d 9 = msK d 9 := by
  obtain ⟨kd, gr, t, i, lt, cm, ok, E, ⟨bi, bt, bm, ⟨⟩⟩, dt, q, p, a, o, ⟨⟩⟩ := d
  have r8 : ∀ c, rkB c 8 E (List.length E) = (c && (decide (((List.length E : Nat) : Int) ≤ 8) && !(List.any E badE))) := fun c => rk8 c E
  simp only [rmB, xk, chP_cj, isK, enK, rk_zero, chV_cj, krM, k0, frM, rqK, rpK, raK, rtK, xb4, xb3, xb2, xb1, List.map, cjs, msK, ms3, g3, g1, kdM, tlM, mXk, mX, sameM_cj, plB, pl7, pl6, pl5, pl4, pl3, pl2, pl1, bif_and, bif_or', cond_ft, ltZ, eE, eB, eT', aR, aP, aA, aT, h7, h9, stB, blB_eq, Bool.not_not, Bool.not_or, i_ne, int_len, tl_comm, beqz, Bool.true_or, Bool.false_or, Bool.or_true, Bool.or_false, List.nil_append, List.cons_append, Bool.and_true, Bool.true_and, Bool.and_assoc, beq_self_eq_true, same_refl', cond_true, cond_false, Bool.not_true, Bool.not_false] at h7 h9 ⊢
  try rw [same_comm' rReq q]
  try rw [same_comm' rRep p]
  try rw [same_comm' rAsk a]
  try rw [same_comm' rTold o]
  have e0 : (((0 : Nat) : Int) == ((List.length E : Nat) : Int)) = (List.length E == 0) := emp_len E
  have e1 : leT 0 = true := rfl
  have e2 : (false == ok) = !ok := by cases ok <;> rfl
  have z1 := @leT0 t
  have z2 := @leT0 i
  have z3 := @leT0 lt
  have z4 := @leT0 cm
  try rw [e0]
  try rw [e1]
  try rw [e2]
  rw [Bool.eq_iff_iff]
  simp only [Bool.and_eq_true, beq_iff_eq, decide_eq_true_eq]
  generalize g0 (kd, gr, t, i, lt, cm, ok, E, (bi, bt, bm, PUnit.unit), dt, q, p, a, o, PUnit.unit) = G
  generalize rReq.same zR q = R1
  generalize rRep.same zP p = R2
  generalize rAsk.same zA a = R3
  generalize rTold.same zT o = R4
  generalize leT t = T1 at *
  generalize leT i = T2 at *
  generalize leT lt = T3 at *
  generalize leT cm = T4 at *
  grind
open Go Go.Eng

def hR (n : Int) : Bool := decide (-9223372036854775808 ≤ n ∧ n ≤ 9223372036854775807)
theorem chP_true : ∀ l, chP true l = true
  | [] => rfl
  | (n, x) :: l => chP_true l
theorem rk_f : ∀ (en : Int) (l : List rEntry.den) (n : Nat), rkB false en l n = false
  | _, _, 0 => rfl
  | en, l, n + 1 => by rw [rkB, rk_f en l n]; rfl
theorem rm_all (d : rMsg.den) (h7 : rhB (aP d).2.2.2.1 = hiB (aP d).2.2.2.1) (h9 : rhB (aT d).2.2.2.2.1 = hiB (aT d).2.2.2.2.1) (k : Nat) (h1 : 1 ≤ k) (h9' : k ≤ 9) (hk : d.1 = ((k : Nat) : Int)) : msgB d = rmB d k := by
  have h : k = 1 ∨ k = 2 ∨ k = 3 ∨ k = 4 ∨ k = 5 ∨ k = 6 ∨ k = 7 ∨ k = 8 ∨ k = 9 := by omega
  unfold msgB
  rw [hk]
  rcases h with rfl | rfl | rfl | rfl | rfl | rfl | rfl | rfl | rfl
  · exact (rm_1 d h7 h9).symm
  · exact (rm_2 d h7 h9).symm
  · exact (rm_3 d h7 h9).symm
  · exact (rm_4 d h7 h9).symm
  · exact (rm_5 d h7 h9).symm
  · exact (rm_6 d h7 h9).symm
  · exact (rm_7 d h7 h9).symm
  · exact (rm_8 d h7 h9).symm
  · exact (rm_9 d h7 h9).symm
theorem csL_all {d : rMsg.den} {k : Nat} (hl : (eE d).length ≤ maxLen) (hn : nnE (eE d) = true) : (csL d k).all (fun c => c) = true := by
  unfold csL
  rw [List.all_cons, List.all_cons, List.all_cons, chC_all, hn, decide_eq_true hl]; rfl
theorem rmsg_pure (d : rMsg.den) (hl : (eE d).length ≤ maxLen) (hn : nnE (eE d) = true) (h7 : hR (aP d).2.2.2.1 = true) (h9 : hR (aT d).2.2.2.2.1 = true) :
    PureCall Tryz.prog 36 [.agg (rMsg.cells d)] (vI (msgV d)) := by
  have h7 := of_decide_eq_true h7
  have h9 := of_decide_eq_true h9
  have h7 := rhB_eq _ h7.1 h7.2
  have h9 := rhB_eq _ h9.1 h9.2
  obtain ⟨n, hd⟩ : ∃ n : Int, d.1 = n := ⟨_, rfl⟩
  have hq : ∀ k : Nat, (∀ j : Nat, 1 ≤ j → j ≤ k → n ≠ ((j : Nat) : Int)) → (csQ d k).all (fun c => c) = true := fun k h => csQ_all k fun j h1 h2 e => h j h1 h2 (hd.symm.trans e)
  unfold msgV
  by_cases h : 1 ≤ n ∧ n ≤ 9
  · obtain ⟨h1, h2⟩ := h
    have hk : n = ((n.toNat : Nat) : Int) := by omega
    generalize n.toNat = k at hk
    have e : (d.1 == ((k : Nat) : Int)) = true := beq_iff_eq.2 (hd.trans hk)
    rw [rm_all d h7 h9 k (by omega) (by omega) (hd.trans hk)]
    have hqk := hq (k - 1) (fun j _ hj => by omega)
    by_cases h5 : k = 5
    · subst h5
      have hr := ERm4.pure_ok (rmsg_run5 (chP (!isK d 5) (frM d 5)) d) (allI (by
        have e : (d.1 == (5 : Int)) = true := e
        have hqk : (csQ d 4).all (fun c => c) = true := hqk
        rw [List.all_cons, List.all_append, List.all_append, List.all_append, List.all_cons, chQ_all, csL_all hl hn, hqk, e, beq_self_eq_true]; rfl))
      have hv : rmB d 5 = !chP (!isK d 5) (frM d 5) := rfl
      rw [hv]
      cases hf : chP (!isK d 5) (frM d 5) <;> (rw [hf] at hr; exact hr)
    · have hx : xk d k = xb4 d := by
        unfold xk
        split
        · exact absurd rfl h5
        · rfl
      unfold rmB
      rw [hx]
      cases hb : xb4 d with
      | true =>
        exact ERm4.pure_ok (rmsg_runT k (by omega) (by omega) h5 d) (allI (by
          rw [List.all_cons, List.all_append, List.all_cons, List.all_append, List.all_append, List.all_cons, chQ_all, csX_all, csL_all hl hn, hqk, e, hb]; rfl))
      | false =>
        have hr := ERm4.pure_ok (rmsg_runF k (by omega) (by omega) h5 (chP (!isK d k) (frM d k)) d) (allI (by
          rw [List.all_cons, List.all_append, List.all_cons, List.all_append, List.all_append, List.all_cons, chQ_all, csX_all, csL_all hl hn, hqk, e, hb, beq_self_eq_true]; rfl))
        rw [cond_false]
        cases hf : chP (!isK d k) (frM d k) <;> (rw [hf] at hr; exact hr)
  · have hB : msgB d = false := by unfold msgB; rw [hd, if_neg (show ¬ n = 3 by omega), if_neg h]
    rw [hB]
    have hq9 := hq 9 (fun j _ hj => by omega)
    have hi : isK d 0 = false := rk_f _ _ _
    cases hb : xb4 d with
    | true =>
      exact ERm4.pure_ok (rmsg_run0T d) (allI (by
        rw [List.all_cons, List.all_append, List.all_cons, List.all_append, List.all_append, chQ_all, csX_all, csL_all hl hn, hq9, hb]; rfl))
    | false =>
      exact ERm4.pure_ok (rmsg_run0F d) (allI (by
        rw [List.all_cons, List.all_append, List.all_cons, List.all_append, List.all_append, chQ_all, csX_all, csL_all hl hn, hq9, hb, hi, Bool.not_false, chP_true]; rfl))
end Go.Proofs.YtjplobgambnhjaaGreat
