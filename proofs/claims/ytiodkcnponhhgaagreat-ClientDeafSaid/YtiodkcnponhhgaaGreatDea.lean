/- DecodeEntry of any bytes: one contract; no statement. -/
import Derived.Test.YtiodkcnponhhgaaGreatMbe
set_option linter.unusedVariables false
set_option linter.unusedSimpArgs false
set_option maxRecDepth 100000
namespace Go.Proofs.YtiodkcnponhhgaaGreat
open Go Go.Eng

abbrev tupE (d : rEntry.den) (e : Int) : AV := .tup [(true, rEntry.cells d), (false, [.int .i64 e])]
def eB2 (s : ByteArray) : Bool := bif !eG s then true else decide ((((eT s).size : Nat) : Int) > 0)
def eB3 (s : ByteArray) : Bool := bif eB2 s then true else entV (eD s) != 0
/-- The entry of bytes, and whether there is one. -/
def deA (s : ByteArray) : rEntry.den × Int := bif eB3 s then (eZ, 4) else (eD s, 0)
def csEn (s : ByteArray) : List Bool := [true, true] ++ rdsC rEntL true s
theorem csEn_all {s : ByteArray} (h : szk s = true) : (csEn s).all (fun c => c) = true := by
  unfold csEn
  rw [List.all_append, rdsC_all rEntL true h (by decide)]; rfl
theorem de_runT (s : ByteArray) : EMe.pureRun 100 [vS s] [true, true, true, true] =
    some (.tup [(true, (CT.pair cU (.pair cU (.pair cI (.pair rCmd .unit)))).cells (0, 0, 0, eZ.2.2.2.1, ()) ++ [.nils]), (false, [.int .i64 4])], [true, true, true, true, (!eG s) == true, (!eG s) == true, (!eG s) == true] ++ csEn s) := by kernel_rfl
theorem de_runF (s : ByteArray) : EMe.pureRun 100 [vS s] [false, false, false] =
    some (tupE (eD s) 0, [eB3 s == false, (fun q => eB2 s || q) (eB2 s == false), (fun q => !(eB2 s == false) || q) (eB2 s == false), (fun q => !(eB2 s == false) || q) (eB2 s == false), (fun q => !eG s || q) ((!eG s) == false), true, (!eG s) == false, (!eG s) == false] ++ csEn s) := by kernel_rfl
theorem de_runB (s : ByteArray) : EMe.pureRun 100 [vS s] [false, false, true] =
    some (.tup [(true, (CT.pair cU (.pair cU (.pair cI (.pair rCmd .unit)))).cells (0, 0, 0, eZ.2.2.2.1, ()) ++ [.nils]), (false, [.int .i64 4])], [eB3 s == true, (fun q => eB2 s || q) (eB2 s == false), (fun q => !(eB2 s == false) || q) (eB2 s == false), (fun q => !(eB2 s == false) || q) (eB2 s == false), (fun q => !eG s || q) ((!eG s) == false), true, (!eG s) == false, (!eG s) == false] ++ csEn s) := by kernel_rfl
theorem tup_w {X : Ctx} {cs cs2 : List AC} (hw : CW cs cs2) {e : Int} {v : Value} (h : VR X (.tup [(true, cs), (false, [.int .i64 e])]) v) : VR X (.tup [(true, cs2), (false, [.int .i64 e])]) v := by
  obtain ⟨arr, e1, hl, hp⟩ := h
  refine ⟨arr, e1, hl, fun j p y hj hy => ?_⟩
  cases j with
  | zero =>
    simp only [List.getElem?_cons_zero, Option.some.injEq] at hj
    subst hj
    obtain ⟨ar, e2, h2⟩ := hp 0 _ y rfl hy
    exact ⟨ar, e2, hw X _ h2⟩
  | succ j => exact hp (j + 1) p y (by simpa using hj) hy
theorem eZ_w : CW ((CT.pair cU (.pair cU (.pair cI (.pair rCmd .unit)))).cells (0, 0, 0, eZ.2.2.2.1, ()) ++ [.nils]) (rEntry.cells eZ) :=
  CW.un (t := rEntry) (d := eZ) (by kernel_rfl)
theorem dent_any (s : ByteArray) (hs : szk s = true) : PureCall Tryz.prog 100 [vS s] (tupE (deA s).1 (deA s).2) := by
  have hc := csEn_all hs
  unfold deA
  cases hg : eG s with
  | false =>
    have h2 : eB2 s = true := by unfold eB2; rw [hg]; rfl
    have h3 : eB3 s = true := by unfold eB3; rw [h2]; rfl
    rw [h3]
    refine PureCall.resw (EMe.pure_ok (de_runT s) (allI ?_)) fun X v _ hv => tup_w eZ_w hv
    rw [List.all_append, hc, hg]; rfl
  | true =>
    cases h3 : eB3 s with
    | true =>
      refine PureCall.resw (EMe.pure_ok (de_runB s) (allI ?_)) fun X v _ hv => tup_w eZ_w hv
      rw [List.all_append, hc, hg, h3]
      cases eB2 s <;> rfl
    | false =>
      refine EMe.pure_ok (de_runF s) (allI ?_)
      rw [List.all_append, hc, hg, h3]
      cases eB2 s <;> rfl
end Go.Proofs.YtiodkcnponhhgaaGreat
