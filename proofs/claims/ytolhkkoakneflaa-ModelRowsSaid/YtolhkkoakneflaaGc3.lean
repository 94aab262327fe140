/- Cells: its contract; no statement. -/
import Derived.Test.YtolhkkoakneflaaGc2
set_option linter.unusedVariables false
set_option linter.unusedSimpArgs false
namespace Go.Proofs.Ytolhkkoakneflaa
open Go Go.Eng

abbrev valsM (l : List (rPl.den × rCell.den)) : List rCell.den := l.map (·.2)

theorem cl_run (l : List (rPl.den × rCell.den)) (h12 : l.length ≤ 1099511627776) (hs : ∀ p : List rCell.den, p.Perm (valsM l) → srtG p = srtG (valsM l)) (acc : List rCell.den) (ha : ClInv l acc []) :
    ∃ cs os', runCl l acc [false, false, false, false, false, false, false] = some (.one (.asl rCell 2 0 l.length l.length), [.mp rPl rCell true true l, .cells [.mref 0], .arr rCell (srtG (valsM l)), .iter 0 l.length false], cs, os') ∧ ∀ c ∈ cs, c = true := by
  have hp : acc.Perm (valsM l) := by
    have h : (acc ++ ([] : List (rPl.den × rCell.den)).map (·.2)).Perm (l.map (·.2)) := ha
    rw [List.map_nil, List.append_nil] at h
    exact h
  have hl : acc.length = l.length := by rw [hp.length_eq, List.length_map]
  have hacc : accL l.length acc = acc := by
    unfold accL
    rw [hl, Nat.sub_self, List.replicate_zero, List.append_nil]
  have key : runCl l acc [false, false, false, false, false, false, false] = some (.one (.asl rCell 2 0 acc.length l.length), [.mp rPl rCell true true l, .cells [.mref 0], .arr rCell (srtG (accL l.length acc)), .iter 0 l.length false],
      [decide (acc.length = l.length), decide (acc.length = (accL l.length acc).length), decide ((accL l.length acc).length ≤ 1099511627776),
       okp ([AV.one (.asl rCell 2 0 0 l.length)] = [.one (.asl rCell 2 0 0 l.length)] ∧ [AV.one (.ptr 3 0)] = [.one (.ptr 3 0)] ∧ hpCl l.length [] (.iter 0 l.length true) (.mp rPl rCell true true l) = hpCl l.length [] (.iter 0 l.length true) (.mp rPl rCell true true l)),
       decide ((0 : Int) ≤ 0 ∧ (0 : Int) ≤ ((l.length : Nat) : Int) ∧ (64 : Int) * ((l.length : Nat) : Int) ≤ 281474976710656 ∧ ((l.length : Nat) : Int) ≤ 9223372036854775807), false == false, false == false, false == false, false == false, false == false, false == false, false == false], []) := by kernel_rfl
  rw [hacc, hl, hs acc hp] at key
  have n1 : decide (l.length = l.length) = true := decide_eq_true rfl
  have n3 : decide (l.length ≤ 1099511627776) = true := decide_eq_true h12
  have n4 : decide ((0 : Int) ≤ 0 ∧ (0 : Int) ≤ ((l.length : Nat) : Int) ∧ (64 : Int) * ((l.length : Nat) : Int) ≤ 281474976710656 ∧ ((l.length : Nat) : Int) ≤ 9223372036854775807) = true := decide_eq_true (by omega)
  have n5 : okp ([AV.one (.asl rCell 2 0 0 l.length)] = [.one (.asl rCell 2 0 0 l.length)] ∧ [AV.one (.ptr 3 0)] = [.one (.ptr 3 0)] ∧ hpCl l.length [] (.iter 0 l.length true) (.mp rPl rCell true true l) = hpCl l.length [] (.iter 0 l.length true) (.mp rPl rCell true true l)) = true := okp_of ⟨rfl, rfl, rfl⟩
  refine ⟨_, _, key, allI ?_⟩
  rw [n5]
  simp only [↓n1, ↓n3, ↓n4]
  rfl
theorem clN (l : List (rPl.den × rCell.den)) (h12 : l.length ≤ 1099511627776) (hs : ∀ p : List rCell.den, p.Perm (valsM l) → srtG p = srtG (valsM l)) :
    HeapCall Try.prog 20 [.one (.ptr 1 0)] [.mp rPl rCell true true l, .cells [.mref 0]] (.one (.asl rCell 2 0 l.length l.length)) [.mp rPl rCell true true l, .cells [.mref 0], .arr rCell (srtG (valsM l)), .iter 0 l.length false] :=
  ECx.heap_okN Try.func20 (by decide +kernel) (c := cCl) (by kernel_rfl) lCl_eq (by kernel_rfl) (slots := [3]) (ro := [18]) (nt := 30) (by kernel_rfl) (δ := { acc // ClInv l acc [] }) ⟨valsM l, by simp [ClInv]⟩ (cl_loop l) (fnD := fun d => fnCl l d.1)
    (fun d v r h os x hx => ⟨_, fun d' => rfl, fun hc => of_okp (hc _ (List.mem_cons_self ..))⟩)
    (os := [false, false, false, false, false, false, false]) (fun d => cl_run l h12 hs d.1 d.2)
theorem cl_heap (l : List (rPl.den × rCell.den)) (h12 : l.length ≤ 1099511627776) (hs : ∀ p : List rCell.den, p.Perm (valsM l) → srtG p = srtG (valsM l)) :
    HeapCall Try.prog 20 [.one (.ptr 1 0)] [.mp rPl rCell true true l, .cells [.mref 0]] (.one (.asl rCell 2 0 l.length l.length)) [.mp rPl rCell true true l, .cells [.mref 0], .arr rCell (srtG (valsM l))] :=
  cut_heap 3 (clN l h12 hs) (show 2 ≤ 3 by omega) (by simp [idsV, idsC]) (show ∀ b ∈ [AB.mp rPl rCell true true l, .cells [.mref 0], .arr rCell (srtG (valsM l))], ∀ i ∈ idsB b, i < 3 by simp [idsB, idsC])
end Go.Proofs.Ytolhkkoakneflaa
