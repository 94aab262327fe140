/- EncodeEntry of any entry; no statement. -/
import Derived.Test.YtjplobgambnhjaaLya
set_option linter.unusedVariables false
set_option linter.unusedSimpArgs false
set_option maxRecDepth 100000
namespace Go.Proofs.Ytjplobgambnhjaa
open Go Go.Eng

def opR (o : rOp.den) : List RV := [.n (wU o.1), .t o.2.1, .t o.2.2.1, .t o.2.2.2.1, .f o.2.2.2.2.1, .t o.2.2.2.2.2.1]
def cmdR (q : rCmd.den) : List RV := [.n (wU q.1), .n (wU q.2.1), .n q.2.2.1, .n q.2.2.2.1] ++ opR q.2.2.2.2.1 ++ [.n q.2.2.2.2.2.1, .n (wU q.2.2.2.2.2.2.1), .t q.2.2.2.2.2.2.2.1, .t q.2.2.2.2.2.2.2.2.1, .n (wU q.2.2.2.2.2.2.2.2.2.1), .f q.2.2.2.2.2.2.2.2.2.2.1.1, .n (wU q.2.2.2.2.2.2.2.2.2.2.1.2.1), .t q.2.2.2.2.2.2.2.2.2.2.1.2.2.1, .n (wU q.2.2.2.2.2.2.2.2.2.2.1.2.2.2.1), .n (wU q.2.2.2.2.2.2.2.2.2.2.1.2.2.2.2.1)]
def entR (a : rEntry.den) : List RV := [.n a.1, .n a.2.1, .n (wU a.2.2.1)] ++ cmdR a.2.2.2.1
/-- An entry's bytes. -/
def encE (a : rEntry.den) : ByteArray := encsB (entR a ++ memR a.2.2.2.2.1)
def csMl (l : List Int) (b : ByteArray) : List Bool := [true, decide (List.length l ≤ 5), List.all l smI, room b 200]
abbrev tupY (b : ByteArray) (e : Int) : AV := .tup [(false, [.str b]), (false, [.int .i64 e])]
theorem en_runF (a : rEntry.den) : EYm.pureRun 20 [.agg (rEntry.cells a)] [false] =
    some (tupY (laysB (laysB (ByteArray.mk #[]) (entR a)) (memR a.2.2.2.2.1)) 0, csMl a.2.2.2.2.1 (laysB (ByteArray.mk #[]) (entR a)) ++ laysC (ByteArray.mk #[]) (entR a) ++ [(entV a != 0) == false]) := by kernel_rfl
theorem en_runT (a : rEntry.den) : EYm.pureRun 20 [.agg (rEntry.cells a)] [true] =
    some (tupY (ByteArray.mk #[]) 2, [(entV a != 0) == true]) := by kernel_rfl
/-- Can it be laid: its numbers are numbers, its texts not too long, its members few. -/
def enOk (a : rEntry.den) : Bool := (entR a).all layU && decide (laysSz (entR a) ≤ 100000000000) && decide (List.length a.2.2.2.2.1 ≤ 5) && List.all a.2.2.2.2.1 smI
theorem encE_eq (a : rEntry.den) : laysB (laysB (ByteArray.mk #[]) (entR a)) (memR a.2.2.2.2.1) = encE a := by
  rw [← laysB_app, laysB_encs]
  exact emptyApp _
theorem en_good (a : rEntry.den) (h0 : entV a = 0) (h : enOk a = true) : PureCall Try.prog 20 [.agg (rEntry.cells a)] (tupY (encE a) 0) := by
  unfold enOk at h
  simp only [Bool.and_eq_true, decide_eq_true_eq] at h
  obtain ⟨⟨⟨h1, h2⟩, h3⟩, h4⟩ := h
  have hz := laysB_size (entR a) (ByteArray.mk #[])
  have z0 : (ByteArray.mk #[]).size = 0 := rfl
  rw [← encE_eq]
  refine EYm.pure_ok (en_runF a) (allI ?_)
  rw [List.all_append, List.all_append, laysC_all _ _ h1 (by omega), h0]
  simp only [csMl, List.all_cons, List.all_nil, h3, h4, decide_true, room_of (b := laysB (ByteArray.mk #[]) (entR a)) (n := 200) (by omega)]
  rfl
theorem en_bad (a : rEntry.den) (h0 : entV a ≠ 0) : PureCall Try.prog 20 [.agg (rEntry.cells a)] (tupY (ByteArray.mk #[]) 2) :=
  EYm.pure_ok (en_runT a) (allI (by
    have : (entV a != 0) = true := bne_iff_ne.2 h0
    rw [this]; rfl))
end Go.Proofs.Ytjplobgambnhjaa
