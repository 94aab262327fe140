/- Cells' loop: the entries come in any order; no statement. -/
import Derived.Test.YtolhkkoakneflaaGc0
set_option linter.unusedVariables false
set_option linter.unusedSimpArgs false
namespace Go.Proofs.Ytolhkkoakneflaa
open Go Go.Eng

theorem accL_step {n : Nat} {acc : List rCell.den} {x : rCell.den} (h : acc.length < n) : List.take (0 + acc.length) (accL n acc) ++ ([x] ++ List.drop (0 + acc.length + 1) (accL n acc)) = accL n (acc ++ [x]) := by
  unfold accL
  have e : List.drop (acc.length + 1) (acc ++ List.replicate (n - acc.length) rCell.dflt) = List.replicate (n - (acc ++ [x]).length) rCell.dflt := by
    rw [List.drop_append, List.drop_of_length_le (by omega), List.nil_append, List.drop_replicate, List.length_append]
    congr 1
    simp only [List.length_cons, List.length_nil]
    omega
  rw [Nat.zero_add, List.take_left, e, List.append_assoc]
theorem cl_go (n : Nat) (acc : List rCell.den) (k : rPl.den) (x : rCell.den) (h : acc.length < n) :
    MapGo ECmc 20 msCl 3 0 30 4 [3] (zipT [18] [.one (.ptr 3 0)]) [.one (.asl rCell 2 0 acc.length n)] (hpCl n acc) (.tup [(true, rPl.cells k), (true, rCell.cells x)]) [.one (.asl rCell 2 0 (acc ++ [x]).length n)] (hpCl n (acc ++ [x])) := by
  have e : (fun it mp => ([mp, .cells [.mref 0], .arr rCell (List.take (0 + acc.length) (accL n acc) ++ ([x] ++ List.drop (0 + acc.length + 1) (accL n acc))), it] : List AB)) = hpCl n (acc ++ [x]) := by
    funext it mp
    rw [accL_step h]; rfl
  rw [← e, List.length_append]
  exact MapGo.mk [false, true] (v := [.one (.asl rCell 2 0 (acc.length + 1) n)]) (cs := [Nat.ble (acc.length + 1) n == true, false == false]) (fun rest oi om => by kernel_rfl) (allI (by
    have : Nat.ble (acc.length + 1) n = true := by rw [Nat.ble_eq]; omega
    rw [this]; rfl)) (fun _ _ => ⟨.refl, trivial⟩) (fun _ _ => by simp [idsLt, idsV, idsB, idsC])
theorem cl_end (n : Nat) (acc : List rCell.den) : MapEnd ECmc msCl 30 4 [3] (zipT [18] [.one (.ptr 3 0)]) [.one (.asl rCell 2 0 acc.length n)] (hpCl n acc) [.one (.asl rCell 2 0 acc.length n)] :=
  MapEnd.mk [] (v := [.one (.asl rCell 2 0 acc.length n)]) (cs := []) (fun rest oi om => by kernel_rfl) (allI rfl) (fun _ _ => ⟨.refl, trivial⟩) (fun _ _ => by simp [idsLt, idsV, idsB, idsC, hpCl])

abbrev ClInv (l : List (rPl.den × rCell.den)) (acc : List rCell.den) (rem : List (rPl.den × rCell.den)) : Prop := (acc ++ rem.map (·.2)).Perm (l.map (·.2))
theorem cl_loop (l : List (rPl.den × rCell.den)) : LoopOkN Try.prog lCl 30 [3] [18] [.one (.asl rCell 2 0 0 l.length)] [.one (.ptr 3 0)] (hpCl l.length [] (.iter 0 l.length true) (.mp rPl rCell true true l)) (δ := { acc // ClInv l acc [] })
    (fun d => (.exit 0, [.one (.asl rCell 2 0 d.1.length l.length)], hpCl l.length d.1 (.iter 0 l.length false) (.mp rPl rCell true true l))) := by
  refine LoopOkN.range ECmc lCl_eq msCl_eq (by kernel_rfl) (i := 3) (j := 0) (m := 4) (by decide) l (.inl rfl) (.inl rfl) (fun acc => [.one (.asl rCell 2 0 acc.length l.length)]) (hpCl l.length) (fun t a b => ⟨rfl, rfl⟩) (fun t a b c => ⟨rfl, rfl⟩) (fun t a b => rfl)
    (ClInv l) [] (by simp [ClInv]) (fun t rest hp => by kernel_rfl) ?_ (fun t _ => cl_end _ t)
  intro acc A p B hI
  have hlen : acc.length < l.length := by
    have := hI.length_eq
    simp at this
    omega
  refine ⟨acc ++ [p.2], ?_, cl_go _ acc p.1 p.2 hlen⟩
  refine List.Perm.trans ?_ hI
  rw [List.map_append, List.map_append, List.map_cons, List.append_assoc]
  exact List.Perm.append_left acc (show (p.2 :: (A.map (·.2) ++ B.map (·.2))).Perm _ from List.perm_middle.symm)
end Go.Proofs.Ytolhkkoakneflaa
