/- SortFunc of at most twelve cells: its contract; no statement. -/
import Derived.Test.YtolhkkoakneflaaCsr
set_option linter.unusedVariables false
set_option linter.unusedSimpArgs false
namespace Go.Proofs.Ytolhkkoakneflaa
open Go Go.Eng

theorem sf_heap (l : List rCell.den) (h0 : 0 < l.length) (h12 : l.length ≤ 12) :
    HeapCall Try.prog 32 [.one (.asl rCell 0 0 l.length l.length), .one (.fn 33 [])] [.arr rCell l] (.tup []) [.arr rCell (insC l (l.length - 1))] := by
  generalize hn : l.length = n at *
  have w1 : IntKind.u64.wrap (n : Int) = (n : Int) := wrapU64 (by omega) (by omega)
  have w2 : IntKind.i64.wrap ((n : Int) - 0) = (n : Int) := by rw [wrap64 (by omega) (by omega)]; omega
  have w3 : IntKind.u8.wrap (n : Int) = (n : Int) := by simp [IntKind.wrap, IntKind.bits, IntKind.signed]; omega
  have n1 : decide ((n : Int) ≥ 4294967296) = false := decide_eq_false (by omega)
  have n2 : decide ((n : Int) ≥ 65536) = false := decide_eq_false (by omega)
  have n3 : decide ((n : Int) ≥ 256) = false := decide_eq_false (by omega)
  have n4 : inB (n : Int) 256 = true := inB_of (by omega) (by omega)
  have n5 : decide ((n : Int) ≤ 12) = true := decide_eq_true (by omega)
  have n6 : decide (l.length ≤ maxLen) = true := decide_eq_true (by rw [hn]; unfold maxLen; omega)
  have n7 : decide (0 < l.length) = true := decide_eq_true (by omega)
  have n8 : decide (n = l.length) = true := decide_eq_true hn.symm
  have key := ESr.heap_ok (f := 32) (args := [.one (.asl rCell 0 0 n n), .one (.fn 33 [])]) (hp := [.arr rCell l]) (os := [false, false, false, false, true]) (r := .tup []) (hp' := [.arr rCell (insC l (l.length - 1))])
    (cs := [decide ((1 : Int) = 1), decide (n = n), decide ((0 : Int) = 0), decide ((n : Int) = (n : Int)), decide (n = l.length), decide (0 < l.length), decide (l.length ≤ maxLen), (decide (IntKind.i64.wrap ((n : Int) - 0) ≤ 12) == true), inB (IntKind.u8.wrap (IntKind.u64.wrap (n : Int))) 256,
      (decide (IntKind.u64.wrap (n : Int) ≥ 256) == false), (decide (IntKind.u64.wrap (n : Int) ≥ 65536) == false), (decide (IntKind.u64.wrap (n : Int) ≥ 4294967296) == false), (false == false)]) (by kernel_rfl) (allI (by
    simp only [w1, w2, w3, n1, n2, n3, n4, n5, ↓n6, ↓n7, ↓n8]; simp))
  rw [hn] at key
  exact key
noncomputable def ESf (E : Env Try.prog) : Env Try.prog := E.addHF 32 (fun args _ => match args with | [.one (.asl _ j _ _ _), _] => [j] | _ => [])
  (fun args hp os => match args, hp with
    | [.one (.asl r1 0 0 n n'), .one (.fn 33 [])], [.arr r2 l2] =>
      match asC r2 l2 with
      | some l => if r1.eqb rCell = true then retC (.tup [], [.arr rCell (insC l (l.length - 1))]) [decide (n = n'), decide (n = l.length), decide (0 < l.length), decide (l.length ≤ 12)] os else none
      | none => none
    | _, _ => none)
  (fun args hp os r hp' cs os' h hc => by
    split at h
    · rename_i r1 n n' r2 l2
      split at h
      · rename_i l e2
        split at h
        · rename_i er
          have er := CT.eq_of_eqb _ _ er
          subst er
          obtain ⟨rfl, e2⟩ := asC_eq e2
          subst e2
          simp only [retC, Option.some.injEq, Prod.mk.injEq] at h
          obtain ⟨⟨rfl, rfl⟩, rfl, rfl⟩ := h
          obtain ⟨h1, hc⟩ := of_allTc hc
          obtain ⟨h2, hc⟩ := of_allTc hc
          obtain ⟨h3, hc⟩ := of_allTc hc
          obtain ⟨h4, _⟩ := of_allTc hc
          simp only [decide_eq_true_eq] at h1 h2 h3 h4
          subst h1; subst h2
          exact sf_heap _ h3 h4
        · cases h
      · cases h
    · cases h)
end Go.Proofs.Ytolhkkoakneflaa
