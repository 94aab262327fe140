/- May a message be: the environment; no statement. -/
import Derived.Test.YtjplobgambnhjaaGreatCnt
import Derived.Test.YtjplobgambnhjaaGreatMsc
set_option linter.unusedVariables false
set_option linter.unusedSimpArgs false
set_option maxRecDepth 100000
set_option linter.unnecessarySimpa false
namespace Go.Proofs.YtjplobgambnhjaaGreat
open Go Go.Eng
noncomputable def EMm : Env Tryz.prog := ((ECnt.addT1 71 [.agg rOp] (fun d => vI (chkV d.1)) (fun _ => []) fun d _ => check_pure d.1).addT1
  23 [.agg rRes] (fun d => vB (resOk d.1.1 d.1.2.2.1 d.1.2.2.2.1 d.1.2.2.2.2.1)) (fun _ => []) fun d _ => result_pure d.1.1 d.1.2.1 d.1.2.2.1 d.1.2.2.2.1 d.1.2.2.2.2.1).spec
open Go Go.Eng

/-- What a run takes for granted at `P && ..`, and at `P || ..`. -/
def tA (P : Bool) (n : Nat) : List Bool := ((fun q => !P || q) (P == true)) :: List.replicate n ((fun q => !(P == true) || q) (P == true))
def tO (P : Bool) (n : Nat) : List Bool := ((fun q => P || q) (P == false)) :: List.replicate n ((fun q => !(P == false) || q) (P == false))
theorem tA_all (P : Bool) (n : Nat) : (tA P n).all (fun c => c) = true := by
  unfold tA
  rw [List.all_cons]
  cases P <;> (induction n with
    | zero => rfl
    | succ n ih => rw [List.replicate_succ, List.all_cons]; simpa using ih)
theorem tO_all (P : Bool) (n : Nat) : (tO P n).all (fun c => c) = true := by
  unfold tO
  rw [List.all_cons]
  cases P <;> (induction n with
    | zero => rfl
    | succ n ih => rw [List.replicate_succ, List.all_cons]; simpa using ih)
abbrev aR (d : rMsg.den) : rReq.den := d.2.2.2.2.2.2.2.2.2.2.1
abbrev aP (d : rMsg.den) : rRep.den := d.2.2.2.2.2.2.2.2.2.2.2.1
abbrev aA (d : rMsg.den) : rAsk.den := d.2.2.2.2.2.2.2.2.2.2.2.2.1
abbrev aT (d : rMsg.den) : rTold.den := d.2.2.2.2.2.2.2.2.2.2.2.2.2.1
def sp_1 (a b : rMsg.den) : Bool := a.2.2.1 == b.2.2.1
def sp_2 (a b : rMsg.den) : Bool := bif sp_1 a b then a.2.2.2.1 == b.2.2.2.1 else false
def sp_3 (a b : rMsg.den) : Bool := bif sp_2 a b then a.2.2.2.2.1 == b.2.2.2.2.1 else false
def sp_4 (a b : rMsg.den) : Bool := bif sp_3 a b then a.2.2.2.2.2.1 == b.2.2.2.2.2.1 else false
def sp_5 (a b : rMsg.den) : Bool := bif sp_4 a b then a.2.2.2.2.2.2.1 == b.2.2.2.2.2.2.1 else false
def sp_6 (a b : rMsg.den) : Bool := bif sp_5 a b then ByteArray.toList a.2.2.2.2.2.2.2.2.2.1 == ByteArray.toList b.2.2.2.2.2.2.2.2.2.1 else false
def sb_1 (a b : rMsg.den) : Bool := a.2.2.2.2.2.2.2.2.1.1 == b.2.2.2.2.2.2.2.2.1.1
def sb_2 (a b : rMsg.den) : Bool := bif sb_1 a b then a.2.2.2.2.2.2.2.2.1.2.1 == b.2.2.2.2.2.2.2.2.1.2.1 else false
def sb_3 (a b : rMsg.den) : Bool := bif sb_2 a b then decide (a.2.2.2.2.2.2.2.2.1.2.2.1 = b.2.2.2.2.2.2.2.2.1.2.2.1) else false
def sm_1 (a b : rMsg.den) : Bool := bif sp_6 a b then sb_3 a b else false
def sm_2 (a b : rMsg.den) : Bool := bif sm_1 a b then CT.same rReq (aR a) (aR b) else false
def sm_3 (a b : rMsg.den) : Bool := bif sm_2 a b then CT.same rRep (aP a) (aP b) else false
def sm_4 (a b : rMsg.den) : Bool := bif sm_3 a b then CT.same rAsk (aA a) (aA b) else false
/-- Two messages alike but for kind, group and entries. -/
def sameM (a b : rMsg.den) : Bool := bif sm_4 a b then CT.same rTold (aT a) (aT b) else false
theorem same_run (a b : rMsg.den) : EMm.pureRun 75 [.agg (rMsg.cells a), .agg (rMsg.cells b)] [] =
    some (vB (sameM a b), tA (sm_4 a b) 4 ++ (tA (sm_3 a b) 4 ++ (tA (sm_2 a b) 4 ++ (tA (sm_1 a b) 4 ++ (tA (sp_6 a b) 0 ++ (tA (sb_2 a b) 6 ++ (tA (sb_1 a b) 6 ++ (tA (sp_5 a b) 4 ++ (tA (sp_4 a b) 4 ++ (tA (sp_3 a b) 4 ++ (tA (sp_2 a b) 4 ++ tA (sp_1 a b) 4))))))))))) := by kernel_rfl
theorem same_m (a b : rMsg.den) : PureCall Tryz.prog 75 [.agg (rMsg.cells a), .agg (rMsg.cells b)] (vB (sameM a b)) :=
  EMm.pure_ok (same_run a b) (allI (by simp only [List.all_append, tA_all, Bool.and_true]))
def blB (n m : Int) : Bool := bif decide (n ≥ 0) then decide (n < m) else false
def nuB (n : Int) : Bool := bif decide (n ≥ 1) then decide (n ≤ 1099511627776) else false
def hiB (n : Int) : Bool := blB (IntKind.i64.wrap (n + 1)) 6
theorem bl_pure (n m : Int) : PureCall Tryz.prog 60 [vI n, vI m] (vB (blB n m)) :=
  EMm.pure_ok (os := []) (cs := tA (decide (n ≥ 0)) 2) (by kernel_rfl) (allI (tA_all _ _))
theorem nu_pure (n : Int) : PureCall Tryz.prog 70 [vU n] (vB (nuB n)) :=
  EMm.pure_ok (os := []) (cs := tA (decide (n ≥ 1)) 1) (by kernel_rfl) (allI (tA_all _ _))
theorem hi_pure (n : Int) : PureCall Tryz.prog 72 [vI n] (vB (hiB n)) :=
  EMm.pure_ok (os := []) (cs := tA (decide (IntKind.i64.wrap (n + 1) ≥ 0)) 2) (by kernel_rfl) (allI (tA_all _ _))
noncomputable def EMm1 : Env Tryz.prog := (((EMm.addT1 60 [.one cI, .one cI] (fun d => vB (blB d.1 d.2.1)) (fun _ => []) fun d _ => bl_pure d.1 d.2.1).addT1
  70 [.one cU] (fun d => vB (nuB d.1)) (fun _ => []) fun d _ => nu_pure d.1).addT1
  72 [.one cI] (fun d => vB (hiB d.1)) (fun _ => []) fun d _ => hi_pure d.1).addT1
  75 [.agg rMsg, .agg rMsg] (fun d => vB (sameM d.1 d.2.1)) (fun _ => []) fun d _ => same_m d.1 d.2.1
open Go Go.Eng

def stB (n m : Int) : Bool := bif nuB n then blB m 101 else false
theorem st_pure (n m : Int) : PureCall Tryz.prog 74 [vU n, vI m] (vB (stB n m)) :=
  EMm1.pure_ok (os := []) (cs := tA (nuB n) 1) (by kernel_rfl) (allI (tA_all _ _))
noncomputable def EMm2 : Env Tryz.prog := EMm1.addT1 74 [.one cU, .one cI] (fun d => vB (stB d.1 d.2.1)) (fun _ => []) fun d _ => st_pure d.1 d.2.1
def tM (x y : Bool) : List Bool := [(fun q => !x || q) (x == true), (fun q => !(x == true) || q) (x == true), (fun q => !(x == true) || q) ((fun q => y || q) (x == true && y == false)), (fun q => !(x == true && y == false) || q) (x == true && y == false), (fun q => !(x == true && y == false) || q) (x == true && y == false), (fun q => !(x == true) || q) (x == true), (fun q => !(x == true) || q) (x == true), (fun q => !(x == true) || q) (x == true)]
theorem tM_all (x y : Bool) : (tM x y).all (fun c => c) = true := by cases x <;> cases y <;> rfl
def aq1 (a : rAsk.den) : Bool := cmdV a.2.1 == 0
def aq2 (a : rAsk.den) : Bool := bif aq1 a then a.2.2.1 == -1 else false
def aq3 (a : rAsk.den) : Bool := bif aq2 a then a.2.2.2.1 == -1 else false
def ax1 (a : rAsk.den) : Bool := !(blB a.2.2.1 5 == blB a.2.2.2.1 5)
def ay (a : rAsk.den) : Bool := a.2.2.1 == -1
def ax2 (a : rAsk.den) : Bool := bif ax1 a then (bif ay a then true else a.2.2.2.1 == -1) else false
def ax3 (a : rAsk.den) : Bool := bif ax2 a then stB a.2.1.2.2.2.2.2.1 a.2.1.2.2.2.2.2.2.1 else false
def cmdZ (p st : Int) : rCmd.den := (0, 0, 0, 0, (0, ByteArray.mk #[], ByteArray.mk #[], ByteArray.mk #[], false, ByteArray.mk #[], ()), p, st, ByteArray.mk #[], ByteArray.mk #[], 0, (false, 0, ByteArray.mk #[], 0, 0, ()), ())
def ax4 (a : rAsk.den) : Bool := bif ax3 a then CT.same rCmd a.2.1 (cmdZ a.2.1.2.2.2.2.2.1 a.2.1.2.2.2.2.2.2.1) else false
/-- May a step of a boss's procedure be? -/
def askB (a : rAsk.den) : Bool := bif a.2.1.1 == 2 then aq3 a else bif a.2.1.1 == 3 then aq3 a else bif a.2.1.1 == 4 then aq3 a else bif a.2.1.1 == 5 then aq3 a else ax4 a
def csK (a : rAsk.den) : Nat → List Bool
  | 0 => []
  | 1 => [(a.2.1.1 == 2) == false]
  | 2 => [(a.2.1.1 == 3) == false, (a.2.1.1 == 2) == false]
  | 3 => [(a.2.1.1 == 4) == false, (a.2.1.1 == 3) == false, (a.2.1.1 == 2) == false]
  | _ => [(a.2.1.1 == 5) == false, (a.2.1.1 == 4) == false, (a.2.1.1 == 3) == false, (a.2.1.1 == 2) == false]
theorem ask_run2 (a : rAsk.den) : EMm2.pureRun 73 [.agg (rAsk.cells a)] [true, true] = some (vB (aq3 a), tA (aq2 a) 2 ++ (tA (aq1 a) 2 ++ ([(a.2.1.1 == 2) == true, (a.2.1.1 == 2) == true] ++ csK a 0))) := by kernel_rfl
theorem ask_run3 (a : rAsk.den) : EMm2.pureRun 73 [.agg (rAsk.cells a)] [false, true, true] = some (vB (aq3 a), tA (aq2 a) 2 ++ (tA (aq1 a) 2 ++ ([(a.2.1.1 == 3) == true, (a.2.1.1 == 3) == true] ++ csK a 1))) := by kernel_rfl
theorem ask_run4 (a : rAsk.den) : EMm2.pureRun 73 [.agg (rAsk.cells a)] [false, false, true, true] = some (vB (aq3 a), tA (aq2 a) 2 ++ (tA (aq1 a) 2 ++ ([(a.2.1.1 == 4) == true, (a.2.1.1 == 4) == true] ++ csK a 2))) := by kernel_rfl
theorem ask_run5 (a : rAsk.den) : EMm2.pureRun 73 [.agg (rAsk.cells a)] [false, false, false, true] = some (vB (aq3 a), tA (aq2 a) 2 ++ (tA (aq1 a) 2 ++ ([(a.2.1.1 == 5) == true] ++ csK a 3))) := by kernel_rfl
theorem ask_run0 (a : rAsk.den) : EMm2.pureRun 73 [.agg (rAsk.cells a)] [false, false, false, false] = some (vB (ax4 a), tA (ax3 a) 9 ++ (tA (ax2 a) 6 ++ (tM (ax1 a) (ay a) ++ csK a 4))) := by kernel_rfl
theorem ask_pure (a : rAsk.den) : PureCall Tryz.prog 73 [.agg (rAsk.cells a)] (vB (askB a)) := by
  unfold askB
  cases h2 : (a.2.1.1 == (2 : Int) : Bool) with
  | true => exact EMm2.pure_ok (ask_run2 a) (allI (by simp only [List.all_append, tA_all, csK, h2, List.all_cons, List.all_nil]; rfl))
  | false =>
    cases h3 : (a.2.1.1 == (3 : Int) : Bool) with
    | true => exact EMm2.pure_ok (ask_run3 a) (allI (by simp only [List.all_append, tA_all, csK, h2, h3, List.all_cons, List.all_nil]; rfl))
    | false =>
      cases h4 : (a.2.1.1 == (4 : Int) : Bool) with
      | true => exact EMm2.pure_ok (ask_run4 a) (allI (by simp only [List.all_append, tA_all, csK, h2, h3, h4, List.all_cons, List.all_nil]; rfl))
      | false =>
        cases h5 : (a.2.1.1 == (5 : Int) : Bool) with
        | true => exact EMm2.pure_ok (ask_run5 a) (allI (by simp only [List.all_append, tA_all, csK, h2, h3, h4, h5, List.all_cons, List.all_nil]; rfl))
        | false => exact EMm2.pure_ok (ask_run0 a) (allI (by simp only [List.all_append, tA_all, tM_all, csK, h2, h3, h4, h5, List.all_cons, List.all_nil]; rfl))
noncomputable def EMm3 : Env Tryz.prog := EMm2.addT1 73 [.agg rAsk] (fun d => vB (askB d.1)) (fun _ => []) fun d _ => ask_pure d.1
open Go Go.Eng

/-- A chain of `&&`: what it comes to, and what its run takes for granted. -/
def chV : Bool → List (Nat × Bool) → Bool
  | b, [] => b
  | b, (_, x) :: l => chV (bif b then x else false) l
def chC : Bool → List (Nat × Bool) → List Bool
  | _, [] => []
  | b, (n, x) :: l => chC (bif b then x else false) l ++ tA b n
theorem chC_all : ∀ (b : Bool) (l : List (Nat × Bool)), (chC b l).all (fun c => c) = true
  | _, [] => rfl
  | b, (n, x) :: l => by rw [chC, List.all_append, chC_all, tA_all]; rfl
def mX (d : rMsg.den) (t i l c : Int) (o : Bool) (b : rBase.den) (dt : ByteArray) (rq : rReq.den) (rp : rRep.den) (ak : rAsk.den) (to : rTold.den) : rMsg.den := (d.1, d.2.1, t, i, l, c, o, [], b, dt, rq, rp, ak, to, ())
abbrev bE : ByteArray := ByteArray.mk #[]
abbrev zB : rBase.den := (0, 0, [], ())
abbrev zR : rReq.den := rReq.dflt
abbrev zP : rRep.den := rRep.dflt
abbrev zA : rAsk.den := rAsk.dflt
abbrev zT : rTold.den := rTold.dflt
/-- Of each kind: the message with just the fields that may be. -/
def mXk (d : rMsg.den) : Nat → rMsg.den
  | 1 => mX d d.2.2.1 d.2.2.2.1 d.2.2.2.2.1 0 false zB bE zR zP zA zT
  | 2 => mX d d.2.2.1 0 0 0 d.2.2.2.2.2.2.1 zB bE zR zP zA zT
  | 3 => mX d d.2.2.1 d.2.2.2.1 d.2.2.2.2.1 d.2.2.2.2.2.1 false zB bE zR zP zA zT
  | 4 => mX d d.2.2.1 d.2.2.2.1 0 0 d.2.2.2.2.2.2.1 zB bE zR zP zA zT
  | 5 => mX d d.2.2.1 0 0 0 false d.2.2.2.2.2.2.2.2.1 d.2.2.2.2.2.2.2.2.2.1 zR zP zA zT
  | 6 => mX d 0 0 0 0 false zB bE (aR d) zP zA zT
  | 7 => mX d 0 0 0 0 false zB bE zR (aP d) zA zT
  | 8 => mX d 0 0 0 0 false zB bE zR zP (aA d) zT
  | 9 => mX d 0 0 0 0 false zB bE zR zP zA (aT d)
  | _ => mX d 0 0 0 0 false zB bE zR zP zA zT
def leT (n : Int) : Bool := decide (n ≤ 1099511627776)
def tlM (x m : rMsg.den) (n : Nat) : List (Nat × Bool) := [(2, leT x.2.2.1), (2, leT x.2.2.2.1), (2, leT x.2.2.2.2.1), (2, leT x.2.2.2.2.2.1), (2, sameM x m), (5, ((n : Nat) : Int) == ((m.2.2.2.2.2.2.2.1.length : Nat) : Int))]
def kdM (d : rMsg.den) : Nat → List (Nat × Bool)
  | 5 => [(3, decide (d.2.2.2.2.2.2.2.2.1.1 > (0 : Int))), (3, decide (d.2.2.2.2.2.2.2.2.1.2.1 > (0 : Int))), (4, memV d.2.2.2.2.2.2.2.2.1.2.2.1 == 0), (3, decide ((((ByteArray.size d.2.2.2.2.2.2.2.2.2.1) : Nat) : Int) ≤ 1048576))]
  | 6 => [(2, blB (aR d).1 4), (2, nuB (aR d).2.1), (2, leT (aR d).2.2.2.1), (4, (aR d).2.2.1 == d.2.1), (3, chkV (aR d).2.2.2.2.1 == 0)]
  | 7 => [(2, blB (aP d).1 4), (2, nuB (aP d).2.1), (2, resOk (aP d).2.2.1.1 (aP d).2.2.1.2.2.1 (aP d).2.2.1.2.2.2.1 (aP d).2.2.1.2.2.2.2.1), (2, hiB (aP d).2.2.2.1)]
  | 8 => [(5, (aA d).1 == d.2.1), (2, askB (aA d))]
  | 9 => [(4, (aT d).1 == d.2.1), (4, stB (aT d).2.1 (aT d).2.2.1), (2, blB (aT d).2.2.2.1 16), (2, hiB (aT d).2.2.2.2.1)]
  | _ => []
def g0 (d : rMsg.den) : Bool := blB d.2.1 12
def g1 (d : rMsg.den) : Bool := bif g0 d then decide (((d.2.2.2.2.2.2.2.1.length : Nat) : Int) ≤ 8) else false
def g3 (d : rMsg.den) : Bool := bif g1 d then !(d.2.2.2.2.2.2.2.1.any badE) else false
def msK (d : rMsg.den) (k : Nat) : Bool := chV (g0 d) (kdM d k ++ tlM (mXk d k) d 0)
def ms3 (d : rMsg.den) : Bool := chV (g3 d) (tlM (mXk d 3) d d.2.2.2.2.2.2.2.1.length)
def ms0 (d : rMsg.den) : Bool := chV false (tlM (mXk d 0) d 0)
/-- Kinds below this one: it is none of them. -/
def csQ (d : rMsg.den) : Nat → List Bool
  | 0 => []
  | k + 1 => ((d.1 == ((k + 1 : Nat) : Int)) == false) :: csQ d k
def t3 (P : Bool) : List Bool := [(fun q => !P || q) (P == true), (fun q => !(P == true) || q) (P == true), (fun q => !(P == true) || q) true, (fun q => !(P == true) || q) (P == true)]
theorem t3_all (P : Bool) : (t3 P).all (fun c => c) = true := by cases P <;> rfl
theorem msg_runK : ∀ k : Nat, 1 ≤ k → k ≤ 9 → k ≠ 3 → ∀ (b : Bool) (d : rMsg.den), EMm3.pureRun 27 [.agg (rMsg.cells d)] (List.replicate (k - 1) false ++ [true, b]) =
    some (vI (bif b then 0 else 2), (msK d k == b) :: (chC (g0 d) (kdM d k ++ tlM (mXk d k) d 0) ++ (((d.1 == ((k : Nat) : Int)) == true) :: csQ d (k - 1)))) := by
  intro k h1 h9 h3
  have h : k = 1 ∨ k = 2 ∨ k = 4 ∨ k = 5 ∨ k = 6 ∨ k = 7 ∨ k = 8 ∨ k = 9 := by omega
  rcases h with rfl | rfl | rfl | rfl | rfl | rfl | rfl | rfl
  all_goals (intro b d; cases b <;> kernel_rfl)
theorem msg_run3 (b : Bool) (d : rMsg.den) : EMm3.pureRun 27 [.agg (rMsg.cells d)] [false, false, true, b] =
    some (vI (bif b then 0 else 2), (ms3 d == b) :: (chC (g3 d) (tlM (mXk d 3) d d.2.2.2.2.2.2.2.1.length) ++ (t3 (g1 d) ++ (tA (g0 d) 2 ++ (((d.1 == (3 : Int)) == true) :: csQ d 2))))) := by cases b <;> kernel_rfl
theorem msg_run0 (d : rMsg.den) : EMm3.pureRun 27 [.agg (rMsg.cells d)] (List.replicate 9 false ++ [false]) =
    some (vI 2, (ms0 d == false) :: (chC false (tlM (mXk d 0) d 0) ++ csQ d 9)) := by kernel_rfl
theorem chV_false : ∀ (l : List (Nat × Bool)), chV false l = false
  | [] => rfl
  | (n, x) :: l => chV_false l
/-- May a message be? -/
def msgB (d : rMsg.den) : Bool := if d.1 = 3 then ms3 d else if 1 ≤ d.1 ∧ d.1 ≤ 9 then msK d (d.1 : Int).toNat else false
def msgV (d : rMsg.den) : Int := bif msgB d then 0 else 2
theorem csQ_all {d : rMsg.den} : ∀ k : Nat, (∀ j : Nat, 1 ≤ j → j ≤ k → d.1 ≠ ((j : Nat) : Int)) → (csQ d k).all (fun c => c) = true
  | 0, _ => rfl
  | k + 1, h => by
    have h1 : (d.1 == ((k + 1 : Nat) : Int)) = false := beq_eq_false_iff_ne.2 (h (k + 1) (by omega) (by omega))
    rw [csQ, List.all_cons, h1, csQ_all k fun j h1 h2 => h j h1 (by omega)]; rfl
theorem msg_pure (d : rMsg.den) : PureCall Tryz.prog 27 [.agg (rMsg.cells d)] (vI (msgV d)) := by
  obtain ⟨n, hn⟩ : ∃ n : Int, d.1 = n := ⟨_, rfl⟩
  have hq : ∀ k : Nat, (∀ j : Nat, 1 ≤ j → j ≤ k → n ≠ ((j : Nat) : Int)) → (csQ d k).all (fun c => c) = true := fun k h => csQ_all k fun j h1 h2 e => h j h1 h2 (hn.symm.trans e)
  by_cases h3 : n = 3
  · have hB : msgB d = ms3 d := if_pos (hn.trans h3)
    unfold msgV
    rw [hB]
    refine EMm3.pure_ok (msg_run3 (ms3 d) d) (allI ?_)
    have e : (d.1 == (3 : Int)) = true := beq_iff_eq.2 (hn.trans h3)
    rw [List.all_cons, List.all_append, List.all_append, List.all_append, List.all_cons, chC_all, t3_all, tA_all, hq 2 (fun j _ hj => by omega), e]
    simp
  · by_cases h : 1 ≤ n ∧ n ≤ 9
    · have hB : msgB d = msK d n.toNat := by unfold msgB; rw [hn, if_neg h3, if_pos h]
      unfold msgV
      rw [hB]
      obtain ⟨h1, h9⟩ := h
      have hk : n = ((n.toNat : Nat) : Int) := by omega
      generalize n.toNat = k at hk ⊢
      refine EMm3.pure_ok (msg_runK k (by omega) (by omega) (by omega) (msK d k) d) (allI ?_)
      have e : (d.1 == ((k : Nat) : Int)) = true := beq_iff_eq.2 (hn.trans hk)
      rw [List.all_cons, List.all_append, List.all_cons, chC_all, hq (k - 1) (fun j _ hj => by omega), e]
      simp
    · have hB : msgB d = false := by unfold msgB; rw [hn, if_neg h3, if_neg h]
      unfold msgV
      rw [hB]
      refine EMm3.pure_ok (msg_run0 d) (allI ?_)
      have e : ms0 d = false := chV_false _
      rw [List.all_cons, List.all_append, chC_all, hq 9 (fun j _ hj => by omega), e]; rfl
end Go.Proofs.YtjplobgambnhjaaGreat
