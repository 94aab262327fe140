/- An operation by small numbers; no statement. -/
import Derived.Test.YtolhkkoakneflaaMh
set_option linter.unusedVariables false
set_option linter.unusedSimpArgs false
namespace Go.Proofs.Ytolhkkoakneflaa
open Go Go.Eng

abbrev rAct : CT := .pair cB (.pair cB (.pair cB (.pair cB (.pair cB (.pair .bool .unit)))))
def kV (a : rAct.den) : Int := IntKind.i64.wrap (1 + IntKind.i64.wrap (Int.tmod a.1 4))
def rwS (r : Int) : ByteArray := ByteArray.mk #[114] ++ strOfNums [Int.tmod r 4]
def clS (c : Int) : ByteArray := ByteArray.mk #[99] ++ strOfNums [Int.tmod c 3]
def ofV (a : rAct.den) : rOp.den := (kV a, rwS a.2.1, clS a.2.2.1, bif kV a == 1 then strOfNums [Int.tmod a.2.2.2.1 3] else bif kV a == 4 then strOfNums [Int.tmod a.2.2.2.1 3] else ByteArray.mk #[], bif kV a == 4 then a.2.2.2.2.2.1 else false, bif kV a == 4 then (bif a.2.2.2.2.2.1 then strOfNums [Int.tmod a.2.2.2.2.1 3] else ByteArray.mk #[]) else ByteArray.mk #[], ())
theorem one_size (n : Int) : (strOfNums [n]).size = 1 := by simp [strOfNums, ByteArray.size]
theorem of_pure (a : rAct.den) : PureCall Try.prog 17 [.agg (rAct.cells a)] (.agg (rOp.cells (ofV a))) := by
  have z1 : decide ((ByteArray.mk #[99]).size + (strOfNums [Int.tmod a.2.2.1 3]).size ≤ 9223372036854775807) = true := decide_eq_true (by rw [one_size]; show 1 + 1 ≤ _; omega)
  have z2 : decide ((ByteArray.mk #[114]).size + (strOfNums [Int.tmod a.2.1 4]).size ≤ 9223372036854775807) = true := decide_eq_true (by rw [one_size]; show 1 + 1 ≤ _; omega)
  cases h1 : (kV a == 1 : Bool) with
  | true =>
    cases h2 : (kV a == 4 : Bool) with
    | true =>
      cases h3 : (a.snd.snd.snd.snd.snd.fst : Bool) with
      | true =>
        exact PureCall.res (EMh.pure_ok (os := [true, true, true, true, true, true, true, true, true]) (r := (.agg [(.int .i64 (kV a)), (.str ((ByteArray.mk #[114]) ++ strOfNums [Int.tmod a.snd.fst 4])), (.str ((ByteArray.mk #[99]) ++ strOfNums [Int.tmod a.snd.snd.fst 3])), (.str (strOfNums [Int.tmod a.snd.snd.snd.fst 3])), (.bool true), (.str (strOfNums [Int.tmod a.snd.snd.snd.snd.fst 3]))])) (cs := [decide (3 ≠ 0), a.snd.snd.snd.snd.snd.fst == true, (kV a == 4) == true, (kV a == 4) == true, (kV a == 4) == true, decide (3 ≠ 0), true == true, (kV a == 1) == true, (kV a == 1) == true, (kV a == 1) == true, (kV a == 1) == true, decide ((ByteArray.mk #[99]).size + (strOfNums [Int.tmod a.snd.snd.fst 3]).size ≤ 9223372036854775807), decide (3 ≠ 0), decide ((ByteArray.mk #[114]).size + (strOfNums [Int.tmod a.snd.fst 4]).size ≤ 9223372036854775807), decide (4 ≠ 0), decide (4 ≠ 0)]) (by kernel_rfl) (allI (by simp only [z1, z2, h1, h2, h3]; rfl))) (by simp only [ofV, h1, h2, h3]; rfl)
      | false =>
        exact PureCall.res (EMh.pure_ok (os := [true, true, true, true, true, true, true, true, false]) (r := (.agg [(.int .i64 (kV a)), (.str ((ByteArray.mk #[114]) ++ strOfNums [Int.tmod a.snd.fst 4])), (.str ((ByteArray.mk #[99]) ++ strOfNums [Int.tmod a.snd.snd.fst 3])), (.str (strOfNums [Int.tmod a.snd.snd.snd.fst 3])), (.bool false), (.str ((ByteArray.mk #[])))])) (cs := [a.snd.snd.snd.snd.snd.fst == false, (kV a == 4) == true, (kV a == 4) == true, (kV a == 4) == true, decide (3 ≠ 0), true == true, (kV a == 1) == true, (kV a == 1) == true, (kV a == 1) == true, (kV a == 1) == true, decide ((ByteArray.mk #[99]).size + (strOfNums [Int.tmod a.snd.snd.fst 3]).size ≤ 9223372036854775807), decide (3 ≠ 0), decide ((ByteArray.mk #[114]).size + (strOfNums [Int.tmod a.snd.fst 4]).size ≤ 9223372036854775807), decide (4 ≠ 0), decide (4 ≠ 0)]) (by kernel_rfl) (allI (by simp only [z1, z2, h1, h2, h3]; rfl))) (by simp only [ofV, h1, h2, h3]; rfl)
    | false =>
      exact PureCall.res (EMh.pure_ok (os := [true, true, true, true, true, false, false, false, false]) (r := (.agg [(.int .i64 (kV a)), (.str ((ByteArray.mk #[114]) ++ strOfNums [Int.tmod a.snd.fst 4])), (.str ((ByteArray.mk #[99]) ++ strOfNums [Int.tmod a.snd.snd.fst 3])), (.str (strOfNums [Int.tmod a.snd.snd.snd.fst 3])), (.bool false), (.str ((ByteArray.mk #[])))])) (cs := [false == false, (kV a == 4) == false, (kV a == 4) == false, (kV a == 4) == false, decide (3 ≠ 0), true == true, (kV a == 1) == true, (kV a == 1) == true, (kV a == 1) == true, (kV a == 1) == true, decide ((ByteArray.mk #[99]).size + (strOfNums [Int.tmod a.snd.snd.fst 3]).size ≤ 9223372036854775807), decide (3 ≠ 0), decide ((ByteArray.mk #[114]).size + (strOfNums [Int.tmod a.snd.fst 4]).size ≤ 9223372036854775807), decide (4 ≠ 0), decide (4 ≠ 0)]) (by kernel_rfl) (allI (by simp only [z1, z2, h1, h2]; rfl))) (by simp only [ofV, h1, h2]; rfl)
  | false =>
    cases h4 : (kV a == 4 : Bool) with
    | true =>
      cases h5 : (a.snd.snd.snd.snd.snd.fst : Bool) with
      | true =>
        exact PureCall.res (EMh.pure_ok (os := [false, false, false, false, true, true, true, true, true]) (r := (.agg [(.int .i64 (kV a)), (.str ((ByteArray.mk #[114]) ++ strOfNums [Int.tmod a.snd.fst 4])), (.str ((ByteArray.mk #[99]) ++ strOfNums [Int.tmod a.snd.snd.fst 3])), (.str (strOfNums [Int.tmod a.snd.snd.snd.fst 3])), (.bool true), (.str (strOfNums [Int.tmod a.snd.snd.snd.snd.fst 3]))])) (cs := [decide (3 ≠ 0), a.snd.snd.snd.snd.snd.fst == true, (kV a == 4) == true, (kV a == 4) == true, (kV a == 4) == true, decide (3 ≠ 0), (kV a == 4) == true, (kV a == 1) == false, (kV a == 1) == false, (kV a == 1) == false, (kV a == 1) == false, decide ((ByteArray.mk #[99]).size + (strOfNums [Int.tmod a.snd.snd.fst 3]).size ≤ 9223372036854775807), decide (3 ≠ 0), decide ((ByteArray.mk #[114]).size + (strOfNums [Int.tmod a.snd.fst 4]).size ≤ 9223372036854775807), decide (4 ≠ 0), decide (4 ≠ 0)]) (by kernel_rfl) (allI (by simp only [z1, z2, h1, h4, h5]; rfl))) (by simp only [ofV, h1, h4, h5]; rfl)
      | false =>
        exact PureCall.res (EMh.pure_ok (os := [false, false, false, false, true, true, true, true, false]) (r := (.agg [(.int .i64 (kV a)), (.str ((ByteArray.mk #[114]) ++ strOfNums [Int.tmod a.snd.fst 4])), (.str ((ByteArray.mk #[99]) ++ strOfNums [Int.tmod a.snd.snd.fst 3])), (.str (strOfNums [Int.tmod a.snd.snd.snd.fst 3])), (.bool false), (.str ((ByteArray.mk #[])))])) (cs := [a.snd.snd.snd.snd.snd.fst == false, (kV a == 4) == true, (kV a == 4) == true, (kV a == 4) == true, decide (3 ≠ 0), (kV a == 4) == true, (kV a == 1) == false, (kV a == 1) == false, (kV a == 1) == false, (kV a == 1) == false, decide ((ByteArray.mk #[99]).size + (strOfNums [Int.tmod a.snd.snd.fst 3]).size ≤ 9223372036854775807), decide (3 ≠ 0), decide ((ByteArray.mk #[114]).size + (strOfNums [Int.tmod a.snd.fst 4]).size ≤ 9223372036854775807), decide (4 ≠ 0), decide (4 ≠ 0)]) (by kernel_rfl) (allI (by simp only [z1, z2, h1, h4, h5]; rfl))) (by simp only [ofV, h1, h4, h5]; rfl)
    | false =>
      exact PureCall.res (EMh.pure_ok (os := [false, false, false, false, false, false, false, false, false]) (r := (.agg [(.int .i64 (kV a)), (.str ((ByteArray.mk #[114]) ++ strOfNums [Int.tmod a.snd.fst 4])), (.str ((ByteArray.mk #[99]) ++ strOfNums [Int.tmod a.snd.snd.fst 3])), (.str ((ByteArray.mk #[]))), (.bool false), (.str ((ByteArray.mk #[])))])) (cs := [false == false, (kV a == 4) == false, (kV a == 4) == false, (kV a == 4) == false, (kV a == 4) == false, (kV a == 1) == false, (kV a == 1) == false, (kV a == 1) == false, (kV a == 1) == false, decide ((ByteArray.mk #[99]).size + (strOfNums [Int.tmod a.snd.snd.fst 3]).size ≤ 9223372036854775807), decide (3 ≠ 0), decide ((ByteArray.mk #[114]).size + (strOfNums [Int.tmod a.snd.fst 4]).size ≤ 9223372036854775807), decide (4 ≠ 0), decide (4 ≠ 0)]) (by kernel_rfl) (allI (by simp only [z1, z2, h1, h4]; rfl))) (by simp only [ofV, h1, h4]; rfl)
noncomputable def EMi : Env Try.prog := EMh.addT1 17 [.agg rAct] (fun d => .agg (rOp.cells (ofV d.1))) (fun _ => []) fun d _ => of_pure d.1
end Go.Proofs.Ytolhkkoakneflaa
