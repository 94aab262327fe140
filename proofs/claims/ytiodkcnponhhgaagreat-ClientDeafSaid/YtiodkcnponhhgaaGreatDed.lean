/- ClientDeaf: the loop; no statement. -/
import Derived.Test.YtiodkcnponhhgaaGreatDec8
set_option linter.unusedVariables false
set_option linter.unusedSimpArgs false
set_option maxRecDepth 100000
namespace Go.Proofs.YtiodkcnponhhgaaGreat
open Go Go.Eng

noncomputable def lDf : Code := (theLoop Tryz.prog 4 8).getD .skip
theorem lDf_eq : theLoop Tryz.prog 4 8 = some lDf := by kernel_rfl
def pk (l : List rPacket.den) (k : Nat) : rPacket.den := l.getD k rPacket.dflt
def dq1 (p : rPacket.den) : Bool := (dmA p.2.2.1).2 == 0
def dq2 (p : rPacket.den) : Bool := (mA' p).1 == 7
def dq3 (p : rPacket.den) : Bool := (aP (mA' p)).2.1 == 2
def dq4 (p : rPacket.den) : Bool := (mA' p).2.1 == 1
def dq5 (p : rPacket.den) : Bool := (aP (mA' p)).1 == 0
def dq6 (p : rPacket.den) : Bool := p.2.1 == 100
def cDt (l : List rPacket.den) (k : Nat) : List Bool := [szk (pk l k).2.2.1, inB k l.length, decide ((k : Int) < 50) == true, decide ((k : Int) < l.length) == true, decide ((k : Int) < l.length) == true, decide ((k : Int) < l.length) == true]
noncomputable def cDn (l : List rPacket.den) (k : Nat) : List Bool := [true, true, true, true, true, okQ (hX (dmA (pk l k).2.2.1).1 = hX (dmA (pk l k).2.2.1).1), szk (pk l k).2.2.1, dN (pk l k), inB k l.length]
theorem dN_of {p : rPacket.den} (h : (dq1 p && (dq2 p && (dq3 p && (dq4 p && (dq5 p && dq6 p))))) = false) : dN p = true := by
  have e : IntKind.i64.wrap (100 + 0) = 100 := by decide
  unfold dN hT h4 h3 h2 h1
  unfold dq1 dq2 dq3 dq4 dq5 dq6 at h
  rw [e]
  cases a1 : ((dmA p.2.2.1).2 == (0 : Int)) <;> cases a2 : ((mA' p).1 == (7 : Int)) <;> cases a3 : ((aP (mA' p)).2.1 == (2 : Int)) <;> cases a4 : ((mA' p).2.1 == (1 : Int)) <;> cases a5 : ((aP (mA' p)).1 == (0 : Int)) <;> cases a6 : (p.2.1 == (100 : Int)) <;> simp_all [bne]
theorem rq_all (n : Nat) {b : Bool} (h : b = true) : (List.replicate n b).all (fun c => c) = true := by
  subst h; induction n with
  | zero => rfl
  | succ n ih => rw [List.replicate_succ, List.all_cons, ih]; rfl
noncomputable abbrev rnd0 (l : List rPacket.den) (k : Nat) (rest : List (Nat × AV)) (os : List Bool) := viewT 6 [5] (ELd.round 4 lDf (headS 101 (zipT [5] [vI k] ++ (zipT [0, 3] [.one (.sl rPacket l .shared), .one (.ptr 2 0)] ++ rest)) hW os))
theorem rn_E (l : List rPacket.den) (k : Nat) (rest : List (Nat × AV)) : rnd0 l k rest [true, true, true, true, false, false, false, false] = some (.normal, [vI (IntKind.i64.wrap (k + 1))], hW, cDn l k ++ ((List.replicate 4 (dq1 (pk l k) == false)) ++ cDt l k)) := by kernel_rfl
theorem rn_K (l : List rPacket.den) (k : Nat) (rest : List (Nat × AV)) : rnd0 l k rest [true, true, true, true, true, true, true, true, false, false, false, false, false] = some (.normal, [vI (IntKind.i64.wrap (k + 1))], hW, cDn l k ++ ((List.replicate 5 (dq2 (pk l k) == false) ++ List.replicate 4 (dq1 (pk l k) == true)) ++ cDt l k)) := by kernel_rfl
theorem rn_S (l : List rPacket.den) (k : Nat) (rest : List (Nat × AV)) : rnd0 l k rest [true, true, true, true, true, true, true, true, true, true, true, true, true, false, false, false, false] = some (.normal, [vI (IntKind.i64.wrap (k + 1))], hW, cDn l k ++ ((List.replicate 4 (dq3 (pk l k) == false) ++ (List.replicate 5 (dq2 (pk l k) == true) ++ List.replicate 4 (dq1 (pk l k) == true))) ++ cDt l k)) := by kernel_rfl
theorem rn_G (l : List rPacket.den) (k : Nat) (rest : List (Nat × AV)) : rnd0 l k rest [true, true, true, true, true, true, true, true, true, true, true, true, true, true, true, true, true, false, false, false, false, false] = some (.normal, [vI (IntKind.i64.wrap (k + 1))], hW, cDn l k ++ ((List.replicate 5 (dq4 (pk l k) == false) ++ (List.replicate 4 (dq3 (pk l k) == true) ++ (List.replicate 5 (dq2 (pk l k) == true) ++ List.replicate 4 (dq1 (pk l k) == true)))) ++ cDt l k)) := by kernel_rfl
theorem rn_C (l : List rPacket.den) (k : Nat) (rest : List (Nat × AV)) : rnd0 l k rest [true, true, true, true, true, true, true, true, true, true, true, true, true, true, true, true, true, true, true, true, true, true, false, false, false, false, false, false, false] = some (.normal, [vI (IntKind.i64.wrap (k + 1))], hW, cDn l k ++ ((List.replicate 7 (dq5 (pk l k) == false) ++ (List.replicate 5 (dq4 (pk l k) == true) ++ (List.replicate 4 (dq3 (pk l k) == true) ++ (List.replicate 5 (dq2 (pk l k) == true) ++ List.replicate 4 (dq1 (pk l k) == true))))) ++ cDt l k)) := by kernel_rfl
theorem rn_T (l : List rPacket.den) (k : Nat) (rest : List (Nat × AV)) : rnd0 l k rest [true, true, true, true, true, true, true, true, true, true, true, true, true, true, true, true, true, true, true, true, true, true, true, true, true, true, true, true, true, false] = some (.normal, [vI (IntKind.i64.wrap (k + 1))], hW, cDn l k ++ (((dq6 (pk l k) == false) :: (List.replicate 4 (dq5 (pk l k) == true) ++ (inB k l.length :: (List.replicate 3 (dq5 (pk l k) == true) ++ (List.replicate 5 (dq4 (pk l k) == true) ++ (List.replicate 4 (dq3 (pk l k) == true) ++ (List.replicate 5 (dq2 (pk l k) == true) ++ List.replicate 4 (dq1 (pk l k) == true)))))))) ++ cDt l k)) := by kernel_rfl
theorem rn_X (l : List rPacket.den) (k : Nat) (rest : List (Nat × AV)) : rnd0 l k rest [true, true, true, true, true, true, true, true, true, true, true, true, true, true, true, true, true, true, true, true, true, true, true, true, true, true, true, true, true, true] = some (.normal, [vI (IntKind.i64.wrap (k + 1))], hW, ((dq6 (pk l k) == true) :: (List.replicate 4 (dq5 (pk l k) == true) ++ (inB k l.length :: (List.replicate 3 (dq5 (pk l k) == true) ++ (List.replicate 5 (dq4 (pk l k) == true) ++ (List.replicate 4 (dq3 (pk l k) == true) ++ (List.replicate 5 (dq2 (pk l k) == true) ++ List.replicate 4 (dq1 (pk l k) == true)))))))) ++ cDt l k) := by kernel_rfl
end Go.Proofs.YtiodkcnponhhgaaGreat
