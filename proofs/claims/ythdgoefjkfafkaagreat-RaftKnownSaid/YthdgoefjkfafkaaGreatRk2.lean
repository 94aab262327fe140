/- What raft's won() leans on, as contracts of the engine: slices.Clone, quorum.Wins of a list in one of its orders, maps.Keys, slices.Collect; no statement. -/
import Derived.Test.YthdgoefjkfafkaaGreatRk1
import Derived.Test.YthdgoefjkfafkaaGreatClone
import Derived.Test.YthdgoefjkfafkaaGreatEngZ22
set_option linter.unusedVariables false
set_option maxRecDepth 100000
namespace Go.Proofs.YthdgoefjkfafkaaGreat
open Go Go.Eng Go.RowKit Go.Proofs

def winsA (m : List Int) : AV := .one (.sl cI m .shared)
theorem wins01_ok : PureCall Tryz.prog 79 [winsA [0, 1, 2], .alt [.sl cI ([0, 1] : List Int) .shared, .sl cI ([1, 0] : List Int) .shared]] (.one (.bool true)) :=
  PureCall.alt (by simp) (by
    intro c hc
    simp only [List.mem_cons, List.not_mem_nil, or_false] at hc
    rcases hc with rfl | rfl
    · exact E0.closedPu (by kernel_rfl)
    · exact E0.closedPu (by kernel_rfl))
theorem wins02_ok : PureCall Tryz.prog 79 [winsA [0, 1, 2], .alt [.sl cI ([0, 2] : List Int) .shared, .sl cI ([2, 0] : List Int) .shared]] (.one (.bool true)) :=
  PureCall.alt (by simp) (by
    intro c hc
    simp only [List.mem_cons, List.not_mem_nil, or_false] at hc
    rcases hc with rfl | rfl
    · exact E0.closedPu (by kernel_rfl)
    · exact E0.closedPu (by kernel_rfl))
theorem wins0_ok : PureCall Tryz.prog 79 [winsA [0, 1, 2], .alt [.sl cI ([0] : List Int) .shared]] (.one (.bool false)) :=
  PureCall.alt (by simp) (by
    intro c hc
    simp only [List.mem_cons, List.not_mem_nil, or_false] at hc
    subst hc
    exact E0.closedPu (by kernel_rfl))

def keysF (args : List AV) (H : Nat → Option AB) : Option AV := match args with
  | [.one (.mref j)] => some (.clo 88 (.mref j))
  | _ => none
def collF (args : List AV) (H : Nat → Option AB) : Option AV := match args with
  | [.clo f (.mref j)] => match H j with
    | some (.mp kt vt false va l) => if h : kt.eqb cI = true then
        if Nat.beq f 88 && (Nat.ble l.length 1000 && (castL kt cI h (l.map (·.1))).all (fun n => decide ((-9223372036854775808 : Int) ≤ n ∧ (n : Int) ≤ 9223372036854775807))) then some (.alt ((perms (castL kt cI h (l.map (·.1)))).map fun p => .sl cI p .shared)) else none
      else none
    | _ => none
  | _ => none
theorem pw1 {X : Ctx} {a : AV} {vs : List Value} (h : PW (VR X) [a] vs) : ∃ x, vs = [x] ∧ VR X a x := by
  cases vs with
  | nil => have := h.1; simp at this
  | cons x vs =>
    have hl : vs = [] := by have := h.1; simpa using this
    subst hl
    exact ⟨x, rfl, h.2 0 _ _ rfl rfl⟩
theorem keys_looks : Looks Tryz.prog 81 keysF := ⟨fun _ _ _ _ _ h => h, fun args X r h hX vs hv => by
  unfold keysF at h
  split at h
  · rename_i j
    injection h with h; subst h
    obtain ⟨x, rfl, hx⟩ := pw1 hv
    exact ⟨⟨_, Tryz.func81, by decide +kernel, by decide +kernel⟩, keys_calls X hX j x hx⟩
  · cases h⟩
theorem collF_mono (args : List AV) (H H' : Nat → Option AB) (r : AV) (hh : HLe H H') (h : collF args H = some r) : collF args H' = some r := by
  unfold collF at h ⊢
  split at h
  · rename_i f j
    split at h
    · rename_i kt vt va l hj
      rw [hh _ _ hj]
      exact h
    · cases h
  · cases h
theorem coll_looks : Looks Tryz.prog 80 collF := ⟨collF_mono, fun args X r h hX vs hv => by
  unfold collF at h
  split at h
  · rename_i f j
    split at h
    · rename_i kt vt va l hj
      split at h
      · rename_i hk
        have hk' := CT.eq_of_eqb _ _ hk
        subst hk'
        split at h
        · rename_i hc
          injection h with h; subst h
          simp only [Bool.and_eq_true, Nat.beq_eq, Nat.ble_eq, List.all_eq_true, decide_eq_true_eq] at hc
          obtain ⟨rfl, hl, hr⟩ := hc
          obtain ⟨x, rfl, hx⟩ := pw1 hv
          exact ⟨⟨_, Tryz.func80, by decide +kernel, by decide +kernel⟩, col_calls X hX j vt va l hj hl hr x hx⟩
        · cases h
      · cases h
    · cases h
  · cases h⟩

noncomputable def Ea : Env Tryz.prog := ((EClone.addAlt 79 (winsA [0, 1, 2]) _ _ wins01_ok).addAlt 79 (winsA [0, 1, 2]) _ _ wins02_ok).addAlt 79 (winsA [0, 1, 2]) _ _ wins0_ok
noncomputable def Eb : Env Tryz.prog := (Ea.addLk 81 keysF keys_looks).addLk 80 collF coll_looks
noncomputable def Er : Env Tryz.prog := ((((((((Eb.addR 55).addR 72).addR 22).addR 40).addR 42).addR 58).addR 26).addR 8).addR 39
end Go.Proofs.YthdgoefjkfafkaaGreat
