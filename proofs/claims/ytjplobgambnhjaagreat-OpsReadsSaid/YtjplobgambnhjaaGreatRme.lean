/- May a message be, as the document has it: the environment; no statement. -/
import Derived.Test.YtjplobgambnhjaaGreatMm3
set_option linter.unusedVariables false
set_option linter.unusedSimpArgs false
set_option maxRecDepth 100000
namespace Go.Proofs.YtjplobgambnhjaaGreat
open Go Go.Eng
noncomputable def ERm0 : Env Tryz.prog := ((EMm.addT1 83 [.agg rOp] (fun d => vI (chkV d.1)) (fun _ => []) fun d _ => PureCall.res (rcheck_pure d.1) (by rw [chk_same])).addT1
  25 [.agg rRes] (fun d => vB (resOk d.1.1 d.1.2.2.1 d.1.2.2.2.1 d.1.2.2.2.2.1)) (fun _ => []) fun d _ => rresult_pure d.1.1 d.1.2.1 d.1.2.2.1 d.1.2.2.2.1 d.1.2.2.2.2.1).addT1
  21 [.agg rEntry] (fun d => vI (entV d.1)) (fun d => [decide ((0 : Int) ≤ d.1.1), decide ((0 : Int) ≤ d.1.2.1)]) fun d hc => rent_pure d.1 (of_decide_eq_true (of_allTc hc).1) (of_decide_eq_true (of_allTc (of_allTc hc).2).1)
theorem nod_pure (n : Int) : PureCall Tryz.prog 98 [vI n] (vB (blB n 5)) := ERm0.pure_ok (os := []) (cs := tA (decide (n ≥ 0)) 1) (by kernel_rfl) (allI (tA_all _ _))
theorem grp_pure (n : Int) : PureCall Tryz.prog 79 [vI n] (vB (blB n 12)) := ERm0.pure_ok (os := []) (cs := tA (decide (n ≥ 0)) 1) (by kernel_rfl) (allI (tA_all _ _))
theorem cli_pure (n : Int) : PureCall Tryz.prog 81 [vI n] (vB (blB n 4)) := ERm0.pure_ok (os := []) (cs := tA (decide (n ≥ 0)) 1) (by kernel_rfl) (allI (tA_all _ _))
theorem seq_pure (n : Int) : PureCall Tryz.prog 82 [vU n] (vB (nuB n)) := ERm0.pure_ok (os := []) (cs := tA (decide (n ≥ 1)) 1) (by kernel_rfl) (allI (tA_all _ _))
noncomputable def ERm1 : Env Tryz.prog := (((ERm0.addT1 98 [.one cI] (fun d => vB (blB d.1 5)) (fun _ => []) fun d _ => nod_pure d.1).addT1
  79 [.one cI] (fun d => vB (blB d.1 12)) (fun _ => []) fun d _ => grp_pure d.1).addT1
  81 [.one cI] (fun d => vB (blB d.1 4)) (fun _ => []) fun d _ => cli_pure d.1).addT1
  82 [.one cU] (fun d => vB (nuB d.1)) (fun _ => []) fun d _ => seq_pure d.1
open Go Go.Eng

def tB (P r : Bool) : List Bool := [(fun q => !P || q) (P == true), (fun q => !(P == true) || q) (P == true), (fun q => !(P == true) || q) ((fun q => r || q) (P == true && r == false)), (fun q => !(P == true && r == false) || q) (P == true && r == false), (fun q => !(P == true && r == false) || q) (P == true && r == false), (fun q => !(P == true) || q) (P == true)]
theorem tB_all (P r : Bool) : (tB P r).all (fun c => c) = true := by cases P <;> cases r <;> rfl
def rhB (n : Int) : Bool := bif n == -1 then true else blB n 5
theorem rhi_pure (n : Int) : PureCall Tryz.prog 84 [vI n] (vB (rhB n)) := ERm1.pure_ok (os := []) (cs := tO (n == -1) 1) (by kernel_rfl) (allI (tO_all _ _))
def rs1 (c : rCmd.den) : Bool := bif nuB c.2.2.2.2.2.1 then decide (c.2.2.2.2.2.2.1 ≥ (0 : Int)) else false
def rsB (c : rCmd.den) : Bool := bif rs1 c then decide (c.2.2.2.2.2.2.1 ≤ (100 : Int)) else false
theorem rst_pure (c : rCmd.den) : PureCall Tryz.prog 95 [.agg (rCmd.cells c)] (vB (rsB c)) :=
  ERm1.pure_ok (os := []) (cs := tA (rs1 c) 2 ++ tA (nuB c.2.2.2.2.2.1) 2) (by kernel_rfl) (allI (by rw [List.all_append, tA_all, tA_all]; rfl))
def pl1 (d : rMsg.den) (p : Bool) : Bool := bif p then true else d.2.2.1 == 0
def pl2 (d : rMsg.den) (p q : Bool) : Bool := bif pl1 d p then (bif q then true else d.2.2.2.1 == 0) else false
def pl3 (d : rMsg.den) (p q r : Bool) : Bool := bif pl2 d p q then (bif r then true else d.2.2.2.2.2.1 == 0) else false
def pl4 (d : rMsg.den) (p q r t : Bool) : Bool := bif pl3 d p q r then (bif t then true else !d.2.2.2.2.2.2.1) else false
def pl5 (d : rMsg.den) (p q r t : Bool) : Bool := bif pl4 d p q r t then leT d.2.2.1 else false
def pl6 (d : rMsg.den) (p q r t : Bool) : Bool := bif pl5 d p q r t then leT d.2.2.2.1 else false
def pl7 (d : rMsg.den) (p q r t : Bool) : Bool := bif pl6 d p q r t then leT d.2.2.2.2.1 else false
def plB (d : rMsg.den) (p q r t : Bool) : Bool := bif pl7 d p q r t then leT d.2.2.2.2.2.1 else false
theorem rpl_run (d : rMsg.den) (p q r t : Bool) : ERm1.pureRun 80 [.agg (rMsg.cells d), vB p, vB q, vB r, vB t] [] =
    some (vB (plB d p q r t), tA (pl7 d p q r t) 2 ++ (tA (pl6 d p q r t) 2 ++ (tA (pl5 d p q r t) 2 ++ (tA (pl4 d p q r t) 2 ++ (tB (pl3 d p q r) t ++ (tB (pl2 d p q) r ++ (tB (pl1 d p) q ++ tO p 2))))))) := by kernel_rfl
theorem rpl_pure (d : rMsg.den) (p q r t : Bool) : PureCall Tryz.prog 80 [.agg (rMsg.cells d), vB p, vB q, vB r, vB t] (vB (plB d p q r t)) :=
  ERm1.pure_ok (rpl_run d p q r t) (allI (by simp only [List.all_append, tA_all, tB_all, tO_all, Bool.and_true]))
noncomputable def ERm2 : Env Tryz.prog := ((ERm1.addT1 84 [.one cI] (fun d => vB (rhB d.1)) (fun _ => []) fun d _ => rhi_pure d.1).addT1
  95 [.agg rCmd] (fun d => vB (rsB d.1)) (fun _ => []) fun d _ => rst_pure d.1).addT1
  80 [.agg rMsg, .one .bool, .one .bool, .one .bool, .one .bool] (fun d => vB (plB d.1 d.2.1 d.2.2.1 d.2.2.2.1 d.2.2.2.2.1)) (fun _ => []) fun d _ => rpl_pure d.1 d.2.1 d.2.2.1 d.2.2.2.1 d.2.2.2.2.1
open Go Go.Eng

def tC (x z : Bool) : List Bool := [(fun q => x || q) (x == false), (fun q => !(x == false) || q) (x == false), (fun q => !(x == false) || q) ((fun q => !z || q) (x == false && z == true)), (fun q => !(x == false && z == true) || q) (x == false && z == true), (fun q => !(x == false && z == true) || q) (x == false && z == true), (fun q => !(x == false) || q) (x == false), (fun q => !(x == false) || q) (x == false), (fun q => !(x == false) || q) (x == false)]
theorem tC_all (x z : Bool) : (tC x z).all (fun c => c) = true := by cases x <;> cases z <;> rfl
def ry1 (a : rAsk.den) : Bool := bif blB a.2.2.1 5 then a.2.2.2.1 == -1 else false
def ry2 (a : rAsk.den) : Bool := bif ry1 a then true else (bif ay a then blB a.2.2.2.1 5 else false)
def ry3 (a : rAsk.den) : Bool := bif ry2 a then rsB a.2.1 else false
def ry4 (a : rAsk.den) : Bool := bif ry3 a then CT.same rCmd a.2.1 (cmdZ a.2.1.2.2.2.2.2.1 a.2.1.2.2.2.2.2.2.1) else false
theorem rask_run2 (a : rAsk.den) : ERm2.pureRun 85 [.agg (rAsk.cells a)] [true, true] = some (vB (aq3 a), tA (aq2 a) 2 ++ (tA (aq1 a) 2 ++ ([(a.2.1.1 == 2) == true, (a.2.1.1 == 2) == true] ++ csK a 0))) := by kernel_rfl
theorem rask_run3 (a : rAsk.den) : ERm2.pureRun 85 [.agg (rAsk.cells a)] [false, true, true] = some (vB (aq3 a), tA (aq2 a) 2 ++ (tA (aq1 a) 2 ++ ([(a.2.1.1 == 3) == true, (a.2.1.1 == 3) == true] ++ csK a 1))) := by kernel_rfl
theorem rask_run4 (a : rAsk.den) : ERm2.pureRun 85 [.agg (rAsk.cells a)] [false, false, true, true] = some (vB (aq3 a), tA (aq2 a) 2 ++ (tA (aq1 a) 2 ++ ([(a.2.1.1 == 4) == true, (a.2.1.1 == 4) == true] ++ csK a 2))) := by kernel_rfl
theorem rask_run5 (a : rAsk.den) : ERm2.pureRun 85 [.agg (rAsk.cells a)] [false, false, false, true] = some (vB (aq3 a), tA (aq2 a) 2 ++ (tA (aq1 a) 2 ++ ([(a.2.1.1 == 5) == true] ++ csK a 3))) := by kernel_rfl
theorem rask_run0 (a : rAsk.den) : ERm2.pureRun 85 [.agg (rAsk.cells a)] [false, false, false, false, true] = some (vB (ry4 a), tA (ry3 a) 9 ++ (tA (ry2 a) 2 ++ (tC (ry1 a) (ay a) ++ (tA (blB a.2.2.1 5) 2 ++ (((a.2.1.1 == 0) == true) :: csK a 4))))) := by kernel_rfl
theorem rask_run9 (a : rAsk.den) : ERm2.pureRun 85 [.agg (rAsk.cells a)] [false, false, false, false, false] = some (vB false, ((a.2.1.1 == 0) == false) :: csK a 4) := by kernel_rfl
def raskB (a : rAsk.den) : Bool := bif a.2.1.1 == 2 then aq3 a else bif a.2.1.1 == 3 then aq3 a else bif a.2.1.1 == 4 then aq3 a else bif a.2.1.1 == 5 then aq3 a else bif a.2.1.1 == 0 then ry4 a else false
theorem rask_pure0 (a : rAsk.den) : PureCall Tryz.prog 85 [.agg (rAsk.cells a)] (vB (raskB a)) := by
  unfold raskB
  cases h2 : (a.2.1.1 == (2 : Int) : Bool) with
  | true => exact ERm2.pure_ok (rask_run2 a) (allI (by simp only [List.all_append, tA_all, csK, h2, List.all_cons, List.all_nil]; rfl))
  | false =>
    cases h3 : (a.2.1.1 == (3 : Int) : Bool) with
    | true => exact ERm2.pure_ok (rask_run3 a) (allI (by simp only [List.all_append, tA_all, csK, h2, h3, List.all_cons, List.all_nil]; rfl))
    | false =>
      cases h4 : (a.2.1.1 == (4 : Int) : Bool) with
      | true => exact ERm2.pure_ok (rask_run4 a) (allI (by simp only [List.all_append, tA_all, csK, h2, h3, h4, List.all_cons, List.all_nil]; rfl))
      | false =>
        cases h5 : (a.2.1.1 == (5 : Int) : Bool) with
        | true => exact ERm2.pure_ok (rask_run5 a) (allI (by simp only [List.all_append, tA_all, csK, h2, h3, h4, h5, List.all_cons, List.all_nil]; rfl))
        | false =>
          cases h0 : (a.2.1.1 == (0 : Int) : Bool) with
          | true => exact ERm2.pure_ok (rask_run0 a) (allI (by simp only [List.all_append, tA_all, tC_all, csK, h2, h3, h4, h5, h0, List.all_cons, List.all_nil]; rfl))
          | false => exact ERm2.pure_ok (rask_run9 a) (allI (by simp only [List.all_append, csK, h2, h3, h4, h5, h0, List.all_cons, List.all_nil]; rfl))
open Go Go.Eng

theorem bif_and (a b : Bool) : (bif a then b else false) = (a && b) := by cases a <;> rfl
theorem bif_or' (a b : Bool) : (bif a then true else b) = (a || b) := by cases a <;> rfl
theorem blB_eq (n m : Int) : blB n m = decide (0 ≤ n ∧ n < m) := by
  unfold blB
  rw [bif_and, Bool.eq_iff_iff, Bool.and_eq_true, decide_eq_true_eq, decide_eq_true_eq, decide_eq_true_eq]
theorem ask2_eq (a : rAsk.den) : ry2 a = ax2 a := by
  unfold ry2 ry1 ax2 ax1 ay
  obtain ⟨a0, a1, i, o, ⟨⟩⟩ := a
  show (bif (bif blB i 5 then o == -1 else false) then true else (bif i == -1 then blB o 5 else false)) = (bif !(blB i 5 == blB o 5) then (bif i == -1 then true else o == -1) else false)
  have key : ∀ i o : Int, (bif (bif blB i 5 then o == -1 else false) then true else (bif i == -1 then blB o 5 else false)) = (bif !(blB i 5 == blB o 5) then (bif i == -1 then true else o == -1) else false) := by
    clear i o
    intro i o
    have e1 : (i == -1) = decide (i = -1) := rfl
    have e2 : (o == -1) = decide (o = -1) := rfl
    rw [blB_eq, blB_eq, e1, e2]
    by_cases h1 : 0 ≤ i ∧ i < 5
    · have h3 : ¬ i = -1 := by omega
      rw [decide_eq_true h1, decide_eq_false h3]
      by_cases h2 : 0 ≤ o ∧ o < 5
      · have h4 : ¬ o = -1 := by omega
        rw [decide_eq_true h2, decide_eq_false h4]; rfl
      · rw [decide_eq_false h2]
        cases decide (o = -1) <;> rfl
    · rw [decide_eq_false h1]
      by_cases h2 : 0 ≤ o ∧ o < 5
      · have h4 : ¬ o = -1 := by omega
        rw [decide_eq_true h2, decide_eq_false h4]
        cases decide (i = -1) <;> rfl
      · rw [decide_eq_false h2]
        cases decide (i = -1) <;> rfl
  exact key i o
theorem rsB_eq (c : rCmd.den) : rsB c = stB c.2.2.2.2.2.1 c.2.2.2.2.2.2.1 := by
  unfold rsB rs1 stB
  have key : ∀ (n : Bool) (k : Int), (bif (bif n then decide (k ≥ 0) else false) then decide (k ≤ 100) else false) = (bif n then blB k 101 else false) := by
    intro n k
    rw [blB_eq]
    cases n with
    | false => rfl
    | true =>
      rw [cond_true, cond_true, bif_and, Bool.eq_iff_iff]
      simp only [Bool.and_eq_true, decide_eq_true_eq]
      omega
  exact key _ _
theorem same_kind {c : rCmd.den} {p st : Int} (h : CT.same rCmd c (cmdZ p st) = true) : (c.1 == (0 : Int)) = true := by
  have h : ((c.1 == (0 : Int)) && CT.same (.pair cI (.pair cU (.pair cU (.pair rOp (.pair cU (.pair cI (.pair .str (.pair .str (.pair cI (.pair rWant .unit)))))))))) c.2 (cmdZ p st).2) = true := h
  rw [Bool.and_eq_true] at h
  exact h.1
theorem ask4_eq (a : rAsk.den) : ry4 a = ax4 a := by
  unfold ry4 ax4 ry3 ax3
  rw [ask2_eq, rsB_eq]
theorem ax4_kind {a : rAsk.den} (h : ax4 a = true) : (a.2.1.1 == (0 : Int)) = true := by
  unfold ax4 at h
  cases h3 : ax3 a with
  | false => rw [h3] at h; cases h
  | true => rw [h3, cond_true] at h; exact same_kind h
theorem rask_eq (a : rAsk.den) : raskB a = askB a := by
  unfold raskB askB
  rw [ask4_eq]
  cases h0 : (a.2.1.1 == (0 : Int)) with
  | true => rfl
  | false =>
    have : ax4 a = false := by
      cases h : ax4 a with
      | false => rfl
      | true => rw [ax4_kind h] at h0; cases h0
    rw [this]; rfl
theorem rhB_eq (n : Int) (h1 : -9223372036854775808 ≤ n) (h2 : n ≤ 9223372036854775807) : rhB n = hiB n := by
  unfold rhB hiB
  rw [bif_or', blB_eq, blB_eq, Bool.eq_iff_iff]
  simp only [Bool.or_eq_true, decide_eq_true_eq, beq_iff_eq]
  by_cases h : n = 9223372036854775807
  · subst h; decide
  · rw [wrap64 (by omega) (by omega)]; omega
noncomputable def ERm3 : Env Tryz.prog := ERm2.addT1 85 [.agg rAsk] (fun d => vB (askB d.1)) (fun _ => []) fun d _ => PureCall.res (rask_pure0 d.1) (by rw [rask_eq])
open Go Go.Eng

def nnE (l : List rEntry.den) : Bool := l.all fun e => decide ((0 : Int) ≤ e.1) && decide ((0 : Int) ≤ e.2.1)
theorem nnE_at {l : List rEntry.den} (h : nnE l = true) {k : Nat} (hk : k < l.length) : decide ((0 : Int) ≤ (l.getD k rEntry.dflt).1) = true ∧ decide ((0 : Int) ≤ (l.getD k rEntry.dflt).2.1) = true := by
  have := List.all_eq_true.1 h (l.getD k rEntry.dflt) (List.mem_of_getElem? (getD_getE hk))
  rw [Bool.and_eq_true] at this
  exact this
/-- Is it still well behind so many entries? -/
def rkB (g : Bool) (en : Int) (l : List rEntry.den) : Nat → Bool
  | 0 => g
  | k + 1 => bif rkB g en l k then (bif decide (((k : Nat) : Int) < en) then entV (l.getD k rEntry.dflt) == 0 else false) else false
noncomputable def lRm : Code := (theLoop Tryz.prog 36 35).getD .skip
theorem lRm_eq : theLoop Tryz.prog 36 35 = some lRm := by kernel_rfl
abbrev hLp (x0 x1 x2 x3 x4 x5 x6 : AC) (l : List rEntry.den) (rest : List AC) (b1 b2 b3 b4 : AB) : List AB := [.cells (x0 :: x1 :: x2 :: x3 :: x4 :: x5 :: x6 :: .sl rEntry l .shared :: rest), b1, b2, b3, b4]
theorem rm_loop (g : Bool) (en : Int) (l : List rEntry.den) (x0 x1 x2 x3 x4 x5 x6 : AC) (rest : List AC) (b1 b2 b3 b4 : AB) (hlen : l.length ≤ maxLen) (hn : nnE l = true) :
    LoopOk Tryz.prog lRm 317 [10, 3] [1, 4] [vI 0, vB g] [.one (.ptr 0 0), vI en] (hLp x0 x1 x2 x3 x4 x5 x6 l rest b1 b2 b3 b4) (.exit 1) [vX, vB (rkB g en l l.length)] (hLp x0 x1 x2 x3 x4 x5 x6 l rest b1 b2 b3 b4) := by
  unfold maxLen at hlen
  refine LoopOk.rounds (S := Nat) ERm3 lRm_eq (by kernel_rfl) (fun k => [vI k, vB (rkB g en l k)]) (fun _ => hLp x0 x1 x2 x3 x4 x5 x6 l rest b1 b2 b3 b4) (fun k => k ≤ l.length) (fun k => l.length - k) 0 (Nat.zero_le _) ?_ (fun _ _ => rfl)
  intro k hk
  by_cases hlt : k < l.length
  · have q1 : decide (((k : Nat) : Int) < ((l.length : Nat) : Int)) = true := decide_eq_true (by omega)
    have q2 : inB ((k : Nat) : Int) l.length = true := inB_of (by omega) (by omega)
    obtain ⟨n1, n2⟩ := nnE_at hn hlt
    have hw : IntKind.i64.wrap (((k : Nat) : Int) + 1) = ((k + 1 : Nat) : Int) := by rw [wrap64 (by omega) (by omega)]; rfl
    cases hg : rkB g en l k with
    | true =>
      cases he : decide (((k : Nat) : Int) < en) with
      | true =>
        refine OneRound.go (List.replicate 13 true) (vs := [vI (IntKind.i64.wrap (k + 1)), vB (entV (l.getD k rEntry.dflt) == 0)]) (hp' := hLp x0 x1 x2 x3 x4 x5 x6 l rest b1 b2 b3 b4) (cs := [decide (((k : Nat) : Int) < en) == true, decide (((k : Nat) : Int) < en) == true, decide ((0 : Int) ≤ (l.getD k rEntry.dflt).1), decide ((0 : Int) ≤ (l.getD k rEntry.dflt).2.1), decide (((k : Nat) : Int) < en) == true, decide (((k : Nat) : Int) < en) == true, inB ((k : Nat) : Int) l.length, decide (((k : Nat) : Int) < en) == true, decide (((k : Nat) : Int) < en) == true, decide (((k : Nat) : Int) < en) == true, decide (((k : Nat) : Int) < en) == true, rkB g en l k == true, rkB g en l k == true, rkB g en l k == true, rkB g en l k == true, decide (((k : Nat) : Int) < ((l.length : Nat) : Int)) == true]) (fun rest' => by kernel_rfl) (allI (by rw [q1, q2, he, n1, n2, hg]; rfl)) (k + 1) (by omega) (by omega) ⟨.of_eq (by rw [hw]), .of_eq (by simp only [rkB, hg, he, cond_true]), trivial⟩ rfl (.inl (Nat.le_refl _))
      | false =>
        refine OneRound.go (List.replicate 5 true ++ List.replicate 8 false) (vs := [vI (IntKind.i64.wrap (k + 1)), vB false]) (hp' := hLp x0 x1 x2 x3 x4 x5 x6 l rest b1 b2 b3 b4) (cs := List.replicate 8 (decide (((k : Nat) : Int) < en) == false) ++ [rkB g en l k == true, rkB g en l k == true, rkB g en l k == true, rkB g en l k == true, decide (((k : Nat) : Int) < ((l.length : Nat) : Int)) == true]) (fun rest' => by kernel_rfl) (allI (by rw [q1, he, hg]; rfl)) (k + 1) (by omega) (by omega) ⟨.of_eq (by rw [hw]), .of_eq (by simp only [rkB, hg, he, cond_true, cond_false]), trivial⟩ rfl (.inl (Nat.le_refl _))
    | false =>
      refine OneRound.go (true :: List.replicate 12 false) (vs := [vI (IntKind.i64.wrap (k + 1)), vB false]) (hp' := hLp x0 x1 x2 x3 x4 x5 x6 l rest b1 b2 b3 b4) (cs := List.replicate 8 true ++ [rkB g en l k == false, rkB g en l k == false, rkB g en l k == false, rkB g en l k == false, decide (((k : Nat) : Int) < ((l.length : Nat) : Int)) == true]) (fun rest' => by kernel_rfl) (allI (by rw [q1, hg]; rfl)) (k + 1) (by omega) (by omega) ⟨.of_eq (by rw [hw]), .of_eq (by simp only [rkB, hg, cond_false]), trivial⟩ rfl (.inl (Nat.le_refl _))
  · have q1 : decide (((k : Nat) : Int) < ((l.length : Nat) : Int)) = false := decide_eq_false (by omega)
    have hkl : k = l.length := by omega
    exact OneRound.stop [false] (vs := [vI k, vB (rkB g en l k)]) (hp' := hLp x0 x1 x2 x3 x4 x5 x6 l rest b1 b2 b3 b4) (cs := [decide (((k : Nat) : Int) < ((l.length : Nat) : Int)) == false]) (fun rest' => by kernel_rfl) (allI (by rw [q1]; rfl)) (by simp) ⟨.unk, .of_eq (by rw [hkl]), trivial⟩ rfl (.inl (Nat.le_refl _))
noncomputable def ERm4 : Env Tryz.prog := ERm3.addL 36 35 lRm_eq 317 [10, 3] [1, 4] (by kernel_rfl)
  (fun vals rov hp os => match vals, rov, hp with
    | [.one (.int .i64 z), .one (.bool g)], [.one (.ptr 0 0), .one (.int .i64 en)], [.cells (x0 :: x1 :: x2 :: x3 :: x4 :: x5 :: x6 :: .sl row l .shared :: rest), b1, b2, b3, b4] =>
      if hr : row.eqb rEntry = true then
        retC (.exit 1, [vX, vB (rkB g en (castL row rEntry hr l) (castL row rEntry hr l).length)], hLp x0 x1 x2 x3 x4 x5 x6 (castL row rEntry hr l) rest b1 b2 b3 b4) [decide (z = 0), decide ((castL row rEntry hr l).length ≤ maxLen), nnE (castL row rEntry hr l)] os
      else none
    | _, _, _ => none)
  (fun vals rov hp os e outs hp' cs os' h hc => by
    split at h
    · split at h
      · rename_i hr
        have q1 := CT.eq_of_eqb _ _ hr
        subst q1
        simp only [retC, Option.some.injEq, Prod.mk.injEq] at h
        obtain ⟨⟨rfl, rfl, rfl⟩, rfl, rfl⟩ := h
        obtain ⟨h1, hc⟩ := of_allTc hc
        obtain ⟨h2, hc⟩ := of_allTc hc
        obtain ⟨h3, _⟩ := of_allTc hc
        simp only [decide_eq_true_eq] at h1 h2
        subst h1
        exact rm_loop _ _ _ _ _ _ _ _ _ _ _ _ _ _ _ h2 h3
      · cases h
    · cases h)
end Go.Proofs.YtjplobgambnhjaaGreat
