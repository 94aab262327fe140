/- Two messages alike, as the law asks it: small parts; no statement. -/
import Derived.Test.YtjplobgambnhjaaMm3
import Derived.Test.YtjplobgambnhjaaLye
set_option linter.unusedVariables false
set_option linter.unusedSimpArgs false
set_option maxRecDepth 100000
namespace Go.Proofs.Ytjplobgambnhjaa
open Go Go.Eng

def se_1 (a b : rEntry.den) : Bool := a.1 == b.1
def se_2 (a b : rEntry.den) : Bool := bif se_1 a b then a.2.1 == b.2.1 else false
def se_3 (a b : rEntry.den) : Bool := bif se_2 a b then a.2.2.1 == b.2.2.1 else false
def se_4 (a b : rEntry.den) : Bool := bif se_3 a b then CT.same rCmd a.2.2.2.1 b.2.2.2.1 else false
def seE (a b : rEntry.den) : Bool := bif se_4 a b then decide (a.2.2.2.2.1 = b.2.2.2.2.1) else false
theorem seE_run (a b : rEntry.den) : EMm.pureRun 27 [.agg (rEntry.cells a), .agg (rEntry.cells b)] [] = some (vB (seE a b), tA (se_4 a b) 4 ++ (tA (se_3 a b) 4 ++ (tA (se_2 a b) 4 ++ tA (se_1 a b) 4))) := by kernel_rfl
theorem seE_p (a b : rEntry.den) : PureCall Try.prog 27 [.agg (rEntry.cells a), .agg (rEntry.cells b)] (vB (seE a b)) :=
  EMm.pure_ok (seE_run a b) (allI (by simp only [List.all_append, tA_all, Bool.and_true]))
theorem ba_rr (a : ByteArray) : (a == a) = true := by
  cases a with | mk d => exact beq_self_eq_true d
theorem same_rr : ∀ (t : CT) (d : t.den), CT.same t d d = true := by
  intro t
  induction t with
  | int k => intro d; exact beq_self_eq_true _
  | bool => intro d; exact beq_self_eq_true _
  | str => intro d; exact ba_rr _
  | sl row _ => intro d; simp [CT.same]
  | unit => intro d; rfl
  | pair c cs h1 h2 => intro d; simp [CT.same, h1, h2]
theorem seE_rr (a : rEntry.den) : seE a a = true := by
  unfold seE se_4 se_3 se_2 se_1
  rw [same_rr]
  simp
def csN : List Int → List Bool → List Bool
  | [], r => r
  | x :: l, r => csN l (((x != x) == false) :: true :: true :: true :: r)
theorem csN_all : ∀ (l : List Int) (r : List Bool), r.all (fun c => c) = true → (csN l r).all (fun c => c) = true
  | [], _, h => h
  | x :: l, r, h => csN_all l _ (by simp [h])
theorem ints_0 : EMm.pureRun 68 [.one (.sl cI [] .shared), .one (.sl cI [] .shared)] [false] = some (vB true, csN [] [true]) := by kernel_rfl
theorem ints_1 (a : Int) : EMm.pureRun 68 [.one (.sl cI [a] .shared), .one (.sl cI [a] .shared)] [false, true, false] = some (vB true, csN [a] [true]) := by kernel_rfl
theorem ints_2 (a b : Int) : EMm.pureRun 68 [.one (.sl cI [a, b] .shared), .one (.sl cI [a, b] .shared)] [false, true, false, true, false] = some (vB true, csN [a, b] [true]) := by kernel_rfl
theorem ints_3 (a b c : Int) : EMm.pureRun 68 [.one (.sl cI [a, b, c] .shared), .one (.sl cI [a, b, c] .shared)] [false, true, false, true, false, true, false] = some (vB true, csN [a, b, c] [true]) := by kernel_rfl
theorem ints_4 (a b c d : Int) : EMm.pureRun 68 [.one (.sl cI [a, b, c, d] .shared), .one (.sl cI [a, b, c, d] .shared)] [false, true, false, true, false, true, false, true, false] = some (vB true, csN [a, b, c, d] [true]) := by kernel_rfl
theorem ints_5 (a b c d e : Int) : EMm.pureRun 68 [.one (.sl cI [a, b, c, d, e] .shared), .one (.sl cI [a, b, c, d, e] .shared)] [false, true, false, true, false, true, false, true, false, true, false] = some (vB true, csN [a, b, c, d, e] [true]) := by kernel_rfl
theorem ints_p (l : List Int) (h : l.length ≤ 5) : PureCall Try.prog 68 [.one (.sl cI l .shared), .one (.sl cI l .shared)] (vB true) := by
  rcases l with _ | ⟨a, l⟩
  · exact EMm.pure_ok ints_0 (allI (csN_all _ _ rfl))
  rcases l with _ | ⟨b, l⟩
  · exact EMm.pure_ok (ints_1 a) (allI (csN_all _ _ rfl))
  rcases l with _ | ⟨c, l⟩
  · exact EMm.pure_ok (ints_2 a b) (allI (csN_all _ _ rfl))
  rcases l with _ | ⟨d, l⟩
  · exact EMm.pure_ok (ints_3 a b c) (allI (csN_all _ _ rfl))
  rcases l with _ | ⟨e, l⟩
  · exact EMm.pure_ok (ints_4 a b c d) (allI (csN_all _ _ rfl))
  rcases l with _ | ⟨f, l⟩
  · exact EMm.pure_ok (ints_5 a b c d e) (allI (csN_all _ _ rfl))
  simp only [List.length_cons] at h; omega
noncomputable def EBs : Env Try.prog := (EMm.addT1 27 [.agg rEntry, .agg rEntry] (fun d => vB (seE d.1 d.2.1)) (fun _ => []) fun d _ => seE_p d.1 d.2.1).addT1
  68 [.one (.sl cI), .one (.sl cI)] (fun _ => vB true) (fun d => [decide (d.1 = d.2.1), decide (List.length d.1 ≤ 5)]) fun d hc => by
    obtain ⟨h1, hc⟩ := of_allTc hc
    obtain ⟨h2, _⟩ := of_allTc hc
    obtain ⟨l, l', _⟩ := d
    have h1 : l = l' := of_decide_eq_true h1
    subst h1
    exact ints_p l (of_decide_eq_true h2)
open Go Go.Eng

def lq0 (X : rMsg.den) : Bool := (((List.length (enL X) : Nat) : Int) != ((List.length (enL X) : Nat) : Int))
def lq1 (X : rMsg.den) : Bool := bif lq0 X then true else X.2.2.2.2.2.2.2.2.1.1 != X.2.2.2.2.2.2.2.2.1.1
def lq2 (X : rMsg.den) : Bool := bif lq1 X then true else X.2.2.2.2.2.2.2.2.1.2.1 != X.2.2.2.2.2.2.2.2.1.2.1
def lx1 (X : rMsg.den) : Bool := X.1 == X.1
def lx2 (X : rMsg.den) : Bool := bif lx1 X then X.2.1 == X.2.1 else false
def lx3 (X : rMsg.den) : Bool := bif lx2 X then X.2.2.1 == X.2.2.1 else false
def lx4 (X : rMsg.den) : Bool := bif lx3 X then X.2.2.2.1 == X.2.2.2.1 else false
def lx5 (X : rMsg.den) : Bool := bif lx4 X then X.2.2.2.2.1 == X.2.2.2.2.1 else false
def lx6 (X : rMsg.den) : Bool := bif lx5 X then X.2.2.2.2.2.1 == X.2.2.2.2.2.1 else false
def lx7 (X : rMsg.den) : Bool := bif lx6 X then X.2.2.2.2.2.2.1 == X.2.2.2.2.2.2.1 else false
def lx8 (X : rMsg.den) : Bool := bif lx7 X then ByteArray.toList X.2.2.2.2.2.2.2.2.2.1 == ByteArray.toList X.2.2.2.2.2.2.2.2.2.1 else false
def lx9 (X : rMsg.den) : Bool := bif lx8 X then CT.same rReq (aR X) (aR X) else false
def lx10 (X : rMsg.den) : Bool := bif lx9 X then CT.same rRep (aP X) (aP X) else false
def lx11 (X : rMsg.den) : Bool := bif lx10 X then CT.same rAsk (aA X) (aA X) else false
def lx12 (X : rMsg.den) : Bool := bif lx11 X then CT.same rTold (aT X) (aT X) else false
def lbE (X : rMsg.den) : Bool := decide (mbL' X = mbL' X)
theorem lbE_t (X : rMsg.den) : lbE X = true := decide_eq_true rfl
def tZ (P x y : Bool) : List Bool := (fun q => P || q) (P == false) :: (fun q => !(P == false) || q) (P == false) :: (fun q => !(P == false) || q) x :: (fun q => !(P == false) || q) y :: List.replicate 6 ((fun q => !(P == false) || q) (P == false))
theorem tZ_all (P x y : Bool) (hx : x = true) (hy : y = true) : (tZ P x y).all (fun c => c) = true := by subst hx; subst hy; cases P <;> rfl
def lsN : List rEntry.den → List Bool → List Bool
  | [], r => r
  | x :: l, r => lsN l (((!seE x x) == false) :: true :: true :: true :: r)
theorem lsN_all : ∀ (l : List rEntry.den) (r : List Bool), r.all (fun c => c) = true → (lsN l r).all (fun c => c) = true
  | [], _, h => h
  | x :: l, r, h => lsN_all l _ (by simp [h, seE_rr])
def lsC (X : rMsg.den) (l : List rEntry.den) : List Bool :=
  tA (lx11 X) 4 ++ (tA (lx10 X) 4 ++ (tA (lx9 X) 4 ++ (tA (lx8 X) 4 ++ (tA (lx7 X) 4 ++ (tA (lx6 X) 4 ++ (tA (lx5 X) 4 ++ (tA (lx4 X) 4 ++ (tA (lx3 X) 4 ++ (tA (lx2 X) 4 ++ (tA (lx1 X) 4 ++
    lsN l (((bif lq2 X then true else !true) == false) :: (tZ (lq2 X) (lbE X) (decide (List.length (mbL' X) ≤ 5)) ++ (tO (lq1 X) 6 ++ [true, true, true, true, true, true, true])))))))))))))
theorem toL_rr (a : ByteArray) : (ByteArray.toList a == ByteArray.toList a) = true := beq_self_eq_true _
theorem lx12_t (X : rMsg.den) : lx12 X = true := by
  unfold lx12 lx11 lx10 lx9 lx8 lx7 lx6 lx5 lx4 lx3 lx2 lx1
  rw [same_rr, same_rr, same_rr, same_rr, toL_rr]
  simp
theorem lq2_f (X : rMsg.den) : lq2 X = false := by
  unfold lq2 lq1 lq0
  simp
theorem lsC_all (X : rMsg.den) (l : List rEntry.den) (h : List.length (mbL' X) ≤ 5) : (lsC X l).all (fun c => c) = true := by
  unfold lsC
  simp only [List.all_append, tA_all, Bool.true_and]
  refine lsN_all l _ ?_
  rw [List.all_cons, List.all_append, List.all_append, tO_all, tZ_all _ _ _ (lbE_t X) (decide_eq_true h), lq2_f]
  rfl
theorem ls_run0 (d : rMsg.den) : EBs.pureRun 31 [.agg (rMsg.cells (setE d [])), .agg (rMsg.cells (setE d []))] [false] = some (vB (lx12 (setE d [])), lsC (setE d []) []) := by kernel_rfl
theorem ls_run1 (d : rMsg.den) (e0 : rEntry.den) : EBs.pureRun 31 [.agg (rMsg.cells (setE d [e0])), .agg (rMsg.cells (setE d [e0]))] [false, true, false] = some (vB (lx12 (setE d [e0])), lsC (setE d [e0]) [e0]) := by kernel_rfl
theorem ls_run2 (d : rMsg.den) (e0 e1 : rEntry.den) : EBs.pureRun 31 [.agg (rMsg.cells (setE d [e0, e1])), .agg (rMsg.cells (setE d [e0, e1]))] [false, true, false, true, false] = some (vB (lx12 (setE d [e0, e1])), lsC (setE d [e0, e1]) [e0, e1]) := by kernel_rfl
theorem ls_run3 (d : rMsg.den) (e0 e1 e2 : rEntry.den) : EBs.pureRun 31 [.agg (rMsg.cells (setE d [e0, e1, e2])), .agg (rMsg.cells (setE d [e0, e1, e2]))] [false, true, false, true, false, true, false] = some (vB (lx12 (setE d [e0, e1, e2])), lsC (setE d [e0, e1, e2]) [e0, e1, e2]) := by kernel_rfl
theorem ls_run4 (d : rMsg.den) (e0 e1 e2 e3 : rEntry.den) : EBs.pureRun 31 [.agg (rMsg.cells (setE d [e0, e1, e2, e3])), .agg (rMsg.cells (setE d [e0, e1, e2, e3]))] [false, true, false, true, false, true, false, true, false] = some (vB (lx12 (setE d [e0, e1, e2, e3])), lsC (setE d [e0, e1, e2, e3]) [e0, e1, e2, e3]) := by kernel_rfl
theorem ls_run5 (d : rMsg.den) (e0 e1 e2 e3 e4 : rEntry.den) : EBs.pureRun 31 [.agg (rMsg.cells (setE d [e0, e1, e2, e3, e4])), .agg (rMsg.cells (setE d [e0, e1, e2, e3, e4]))] [false, true, false, true, false, true, false, true, false, true, false] = some (vB (lx12 (setE d [e0, e1, e2, e3, e4])), lsC (setE d [e0, e1, e2, e3, e4]) [e0, e1, e2, e3, e4]) := by kernel_rfl
theorem ls_run6 (d : rMsg.den) (e0 e1 e2 e3 e4 e5 : rEntry.den) : EBs.pureRun 31 [.agg (rMsg.cells (setE d [e0, e1, e2, e3, e4, e5])), .agg (rMsg.cells (setE d [e0, e1, e2, e3, e4, e5]))] [false, true, false, true, false, true, false, true, false, true, false, true, false] = some (vB (lx12 (setE d [e0, e1, e2, e3, e4, e5])), lsC (setE d [e0, e1, e2, e3, e4, e5]) [e0, e1, e2, e3, e4, e5]) := by kernel_rfl
theorem ls_run7 (d : rMsg.den) (e0 e1 e2 e3 e4 e5 e6 : rEntry.den) : EBs.pureRun 31 [.agg (rMsg.cells (setE d [e0, e1, e2, e3, e4, e5, e6])), .agg (rMsg.cells (setE d [e0, e1, e2, e3, e4, e5, e6]))] [false, true, false, true, false, true, false, true, false, true, false, true, false, true, false] = some (vB (lx12 (setE d [e0, e1, e2, e3, e4, e5, e6])), lsC (setE d [e0, e1, e2, e3, e4, e5, e6]) [e0, e1, e2, e3, e4, e5, e6]) := by kernel_rfl
theorem ls_run8 (d : rMsg.den) (e0 e1 e2 e3 e4 e5 e6 e7 : rEntry.den) : EBs.pureRun 31 [.agg (rMsg.cells (setE d [e0, e1, e2, e3, e4, e5, e6, e7])), .agg (rMsg.cells (setE d [e0, e1, e2, e3, e4, e5, e6, e7]))] [false, true, false, true, false, true, false, true, false, true, false, true, false, true, false, true, false] = some (vB (lx12 (setE d [e0, e1, e2, e3, e4, e5, e6, e7])), lsC (setE d [e0, e1, e2, e3, e4, e5, e6, e7]) [e0, e1, e2, e3, e4, e5, e6, e7]) := by kernel_rfl
theorem ls_fin (X : rMsg.den) {l : List rEntry.den} {os : List Bool} (h : List.length (mbL' X) ≤ 5) (hr : EBs.pureRun 31 [.agg (rMsg.cells X), .agg (rMsg.cells X)] os = some (vB (lx12 X), lsC X l)) :
    PureCall Try.prog 31 [.agg (rMsg.cells X), .agg (rMsg.cells X)] (vB true) := by
  have := EBs.pure_ok hr (allI (lsC_all X l h))
  rw [lx12_t] at this
  exact this
theorem ls_all (d : rMsg.den) (l : List rEntry.den) (h : l.length ≤ 8) (h5 : List.length (mbL' d) ≤ 5) : PureCall Try.prog 31 [.agg (rMsg.cells (setE d l)), .agg (rMsg.cells (setE d l))] (vB true) := by
  rcases l with _ | ⟨e0, l⟩
  · exact ls_fin _ h5 (ls_run0 d )
  rcases l with _ | ⟨e1, l⟩
  · exact ls_fin _ h5 (ls_run1 d e0)
  rcases l with _ | ⟨e2, l⟩
  · exact ls_fin _ h5 (ls_run2 d e0 e1)
  rcases l with _ | ⟨e3, l⟩
  · exact ls_fin _ h5 (ls_run3 d e0 e1 e2)
  rcases l with _ | ⟨e4, l⟩
  · exact ls_fin _ h5 (ls_run4 d e0 e1 e2 e3)
  rcases l with _ | ⟨e5, l⟩
  · exact ls_fin _ h5 (ls_run5 d e0 e1 e2 e3 e4)
  rcases l with _ | ⟨e6, l⟩
  · exact ls_fin _ h5 (ls_run6 d e0 e1 e2 e3 e4 e5)
  rcases l with _ | ⟨e7, l⟩
  · exact ls_fin _ h5 (ls_run7 d e0 e1 e2 e3 e4 e5 e6)
  rcases l with _ | ⟨e8, l⟩
  · exact ls_fin _ h5 (ls_run8 d e0 e1 e2 e3 e4 e5 e6 e7)
  simp only [List.length_cons] at h; omega
theorem ls_self (d : rMsg.den) (h : List.length (enL d) ≤ 8) (h5 : List.length (mbL' d) ≤ 5) : PureCall Try.prog 31 [.agg (rMsg.cells d), .agg (rMsg.cells d)] (vB true) :=
  ls_all d (enL d) h h5
end Go.Proofs.Ytjplobgambnhjaa
