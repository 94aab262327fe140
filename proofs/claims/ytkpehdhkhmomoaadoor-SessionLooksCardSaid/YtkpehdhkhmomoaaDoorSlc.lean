/- The columns; no statement. -/
import Derived.Test.YtkpehdhkhmomoaaDoorSll
set_option linter.unusedVariables false
namespace Go.Proofs.YtkpehdhkhmomoaaDoor
open Go Go.Eng
def colV (c : Int) : ByteArray := bif decide (c < 0) then (ByteArray.mk #[]) else bif decide (c ≥ 4) then (ByteArray.mk #[]) else (ByteArray.mk #[115]) ++ strOfNums [IntKind.u8.wrap (48 + IntKind.u8.wrap c)]
theorem one8 (c : Int) : (decide (1 + (strOfNums [IntKind.u8.wrap (48 + IntKind.u8.wrap c)]).size ≤ 9223372036854775807) && (true && (true && (true && (true && true))))) = true := by
  rw [strOfNums_size]; rfl
theorem rcol_pure (c : Int) : PureCall Tryd.prog 8 [vI c] (vS (colV c)) := by
  cases h1 : (decide (c < 0) : Bool) with
  | true =>
    exact bySame (E0.pure_ok (os := [true, true, true, true]) (r := (.one (.str ((ByteArray.mk #[]))))) (cs := [true == true, decide (c < 0) == true, decide (c < 0) == true, decide (c < 0) == true]) (by kernel_rfl) (allI (by simp only [h1]; first | rfl | exact one8 c))) (by simp only [colV, h1]; rfl)
  | false =>
    cases h2 : (decide (c ≥ 4) : Bool) with
    | true =>
      exact bySame (E0.pure_ok (os := [false, false, false, true]) (r := (.one (.str ((ByteArray.mk #[]))))) (cs := [decide (c ≥ 4) == true, decide (c < 0) == false, decide (c < 0) == false, decide (c < 0) == false]) (by kernel_rfl) (allI (by simp only [h1, h2]; first | rfl | exact one8 c))) (by simp only [colV, h1, h2]; rfl)
    | false =>
      exact bySame (E0.pure_ok (os := [false, false, false, false]) (r := (.one (.str ((ByteArray.mk #[115]) ++ strOfNums [IntKind.u8.wrap (48 + IntKind.u8.wrap c)])))) (cs := [decide ((ByteArray.mk #[115]).size + (strOfNums [IntKind.u8.wrap (48 + IntKind.u8.wrap c)]).size ≤ 9223372036854775807), decide (c ≥ 4) == false, decide (c < 0) == false, decide (c < 0) == false, decide (c < 0) == false]) (by kernel_rfl) (allI (by simp only [h1, h2]; first | rfl | exact one8 c))) (by simp only [colV, h1, h2]; rfl)
theorem col_pure (c : Int) : PureCall Tryd.prog 7 [vI c] (vS (colV c)) := by
  by_cases hn : c < 0
  · have h1 : decide (c < 0) = true := decide_eq_true hn
    exact bySame (E0.pure_ok (os := [true, true, true, true]) (r := (.one (.str ((ByteArray.mk #[]))))) (cs := [(true == true), (decide (c < 0) == true), (decide (c < 0) == true), (decide (c < 0) == true)]) (by kernel_rfl) (allI (by simp only [h1]; rfl))) (by simp only [colV, h1]; rfl)
  · have h1 : decide (c < 0) = false := decide_eq_false hn
    by_cases hg : c ≥ 4
    · have h2 : decide (c ≥ 4) = true := decide_eq_true hg
      exact bySame (E0.pure_ok (os := [false, false, false, true]) (r := (.one (.str ((ByteArray.mk #[]))))) (cs := [(decide (c ≥ 4) == true), (decide (c < 0) == false), (decide (c < 0) == false), (decide (c < 0) == false)]) (by kernel_rfl) (allI (by simp only [h1, h2]; rfl))) (by simp only [colV, h1, h2]; rfl)
    · have hc : c = 0 ∨ c = 1 ∨ c = 2 ∨ c = 3 := by omega
      rcases hc with rfl | rfl | rfl | rfl
      · exact bySame (E0.pure_ok (os := []) (r := (.one (.str ((ByteArray.mk #[115]) ++ (ByteArray.mk #[48, 49, 50, 51, 52, 53, 54, 55, 56, 57, 97, 98, 99, 100, 101, 102, 103, 104, 105, 106, 107, 108, 109, 110, 111, 112, 113, 114, 115, 116, 117, 118, 119, 120, 121, 122]).extract (Int.toNat 0) (IntKind.i64.wrap (0 + 1)).toNat)))) (cs := [(decide (2 ≤ 9223372036854775807)), (decide (0 ≤ 0 ∧ 0 ≤ 1 ∧ 1 ≤ 36))]) (by kernel_rfl) (allI (by decide))) (by kernel_rfl)
      · exact bySame (E0.pure_ok (os := []) (r := (.one (.str ((ByteArray.mk #[115]) ++ (ByteArray.mk #[48, 49, 50, 51, 52, 53, 54, 55, 56, 57, 97, 98, 99, 100, 101, 102, 103, 104, 105, 106, 107, 108, 109, 110, 111, 112, 113, 114, 115, 116, 117, 118, 119, 120, 121, 122]).extract (Int.toNat 1) (IntKind.i64.wrap (1 + 1)).toNat)))) (cs := [(decide (2 ≤ 9223372036854775807)), (decide (0 ≤ 1 ∧ 1 ≤ 2 ∧ 2 ≤ 36))]) (by kernel_rfl) (allI (by decide))) (by kernel_rfl)
      · exact bySame (E0.pure_ok (os := []) (r := (.one (.str ((ByteArray.mk #[115]) ++ (ByteArray.mk #[48, 49, 50, 51, 52, 53, 54, 55, 56, 57, 97, 98, 99, 100, 101, 102, 103, 104, 105, 106, 107, 108, 109, 110, 111, 112, 113, 114, 115, 116, 117, 118, 119, 120, 121, 122]).extract (Int.toNat 2) (IntKind.i64.wrap (2 + 1)).toNat)))) (cs := [(decide (2 ≤ 9223372036854775807)), (decide (0 ≤ 2 ∧ 2 ≤ 3 ∧ 3 ≤ 36))]) (by kernel_rfl) (allI (by decide))) (by kernel_rfl)
      · exact bySame (E0.pure_ok (os := []) (r := (.one (.str ((ByteArray.mk #[115]) ++ (ByteArray.mk #[48, 49, 50, 51, 52, 53, 54, 55, 56, 57, 97, 98, 99, 100, 101, 102, 103, 104, 105, 106, 107, 108, 109, 110, 111, 112, 113, 114, 115, 116, 117, 118, 119, 120, 121, 122]).extract (Int.toNat 3) (IntKind.i64.wrap (3 + 1)).toNat)))) (cs := [(decide (2 ≤ 9223372036854775807)), (decide (0 ≤ 3 ∧ 3 ≤ 4 ∧ 4 ≤ 36))]) (by kernel_rfl) (allI (by decide))) (by kernel_rfl)
theorem works_pure : PureCall Tryd.prog 9 [] (vB true) := E0.closedP (by kernel_rfl)
noncomputable def ESlw : Env Tryd.prog := ((((E0.addT1 9 [] (fun _ => vB true) (fun _ => []) fun d _ => works_pure).addT1
  7 [.one cI] (fun d => vS (colV d.1)) (fun _ => []) fun d _ => col_pure d.1).addT1
  8 [.one cI] (fun d => vS (colV d.1)) (fun _ => []) fun d _ => rcol_pure d.1).addT1
  5 [.one .str, .one cU] (fun d => lookT (lookW d.1 (nr d.1) d.2.1)) (fun d => [decide (ByteArray.size d.1 ≤ 3000)]) fun d hc => look_pure d.1 d.2.1 (of_decide_eq_true (of_allTc hc).1)).addT1
  6 [.one .str, .one cU] (fun d => lookT (lookW d.1 (nr d.1) d.2.1)) (fun d => [decide (ByteArray.size d.1 ≤ 3000)]) fun d hc => rlook_pure d.1 d.2.1 (of_decide_eq_true (of_allTc hc).1)
end Go.Proofs.YtkpehdhkhmomoaaDoor
