import Derived.Test.YthdgoefjkfafkaaGreatDoorEngZ16
import Derived.Test.YthdgoefjkfafkaaGreatDoorEngZ15
set_option linter.unusedVariables false
namespace Go.Eng
open Go Go.RowKit
variable {P : Program}

/-! ### A map's list in another order is the same map -/

theorem perm_brel {X : Ctx} {j : Nat} {kt vt : CT} {ka va : Bool} {l m : List (kt.den × vt.den)} (p : l.Perm m) (h : BRel X j (.mp kt vt ka va l)) : BRel X j (.mp kt vt ka va m) := by
  obtain ⟨hf, es, clock, h1, h2, hn, l', h3, h4⟩ := h
  exact ⟨hf, es, clock, h1, by rw [← p.length_eq]; exact h2, ((p.map (·.1)).nodup_iff).1 hn, l', h3.trans p, h4⟩
/-- A loop whose end has a map in some order. -/
theorem LoopOkN.perm {body : Code} {nt : Nat} {slots ro : List Nat} {vals rov : List AV} {hp : List AB} {δ : Type} {od : δ → XE × List AV × List AB} (h : LoopOkN P body nt slots ro vals rov hp (δ := δ) od)
    {e : XE} {outs : List AV} {hpo : List AB} {j : Nat} {kt vt : CT} {ka va : Bool} {m : List (kt.den × vt.den)} (hj : hpo[j]? = some (.mp kt vt ka va m)) (hd : ∀ d, ∃ l : List (kt.den × vt.den), l.Perm m ∧ od d = (e, outs, hpo.set j (.mp kt vt ka va l))) :
    LoopOk P body nt slots ro vals rov hp e outs hpo := by
  intro X a rest hrest hr Q hq
  refine h X a rest hrest hr Q fun d X' a' hle hr' => ?_
  obtain ⟨l, hp', ed⟩ := hd d
  rw [ed] at hr' ⊢
  have hlt : j < hpo.length := (List.getElem?_eq_some_iff.1 hj).1
  have hX' : X'.H j = some (.mp kt vt ka va l) := by
    rw [hr'.heap]
    show (hpo.set j (.mp kt vt ka va l))[j]? = _
    rw [List.getElem?_set_self hlt]
  have hb : BRel X' j (.mp kt vt ka va m) := perm_brel hp' (hr'.hrel.blk j _ hX')
  have hb2 : BRel (X'.setH j (.mp kt vt ka va m)) j (.mp kt vt ka va m) := BRel.mono (setH_le (b := .mp kt vt ka va m) hX' rfl rfl (fun _ _ h => by cases h)) rfl rfl rfl hb
  obtain ⟨k1, k2⟩ := hr'.setH (j := j) (b := .mp kt vt ka va m) hX' rfl rfl (fun _ _ h => by cases h) hb2
  have ee : (hpo.set j (.mp kt vt ka va l)).set j (.mp kt vt ka va m) = hpo := by
    rw [List.set_set]
    apply List.ext_getElem?
    intro i
    by_cases hi : i = j
    · subst hi; rw [List.getElem?_set_self hlt, hj]
    · rw [List.getElem?_set_ne (fun h => hi h.symm)]
  rw [ee] at k2
  exact hq (X'.setH j (.mp kt vt ka va m)) a' (hle.trans k1) k2
end Go.Eng
