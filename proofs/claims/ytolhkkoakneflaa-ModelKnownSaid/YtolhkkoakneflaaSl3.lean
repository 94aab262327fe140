/- Cells and seeks in use; no statement. -/
import Derived.Test.YtolhkkoakneflaaSl2
import Derived.Test.YtolhkkoakneflaaEngZ15
import Derived.Test.YtolhkkoakneflaaEngZ13
set_option linter.unusedVariables false
set_option linter.unusedSimpArgs false
namespace Go.Proofs.Ytolhkkoakneflaa
open Go Go.Eng

theorem asM_eq {k v : CT} {l : List (k.den × v.den)} {x : List (rPl.den × rCell.den)} (h : asM k v l = some x) : k = rPl ∧ v = rCell ∧ HEq l x := by
  unfold asM at h
  split at h
  · rename_i h1
    split at h
    · rename_i h2
      have e1 := CT.eq_of_eqb _ _ h1
      have e2 := CT.eq_of_eqb _ _ h2
      subst e1; subst e2
      injection h with h
      exact ⟨rfl, rfl, heq_of_eq h⟩
    · cases h
  · cases h
set_option maxRecDepth 100000 in
theorem sl_run (o : rOp.den) (l : List (rPl.den × rCell.den)) (hs : ∀ p : List (rPl.den × rCell.den), p.Perm l → skF o p = skF o l) (out : rRes.den) (ho : SlInv o l out []) :
    ∃ cs os', runSk o l out [] = some (.agg (rRes.cells (skF o l)), [.mp rPl rCell true true l, .cells [.mref 0], .cells (rOp.cells o), .cells (rRes.cells (skF o l)), .cells (rRes.cells (skF o l)), .iter 0 l.length false], cs, os') ∧ ∀ c ∈ cs, c = true := by
  have key : runSk o l out [] = some (.agg (rRes.cells out), [.mp rPl rCell true true l, .cells [.mref 0], .cells (rOp.cells o), .cells (rRes.cells out), .cells (rRes.cells out), .iter 0 l.length false],
      [ok' (([] : List AV) = [] ∧ rvS = rvS ∧ hpS o zRs zRs (.iter 0 l.length true) (.mp rPl rCell true true l) = hpS o zRs zRs (.iter 0 l.length true) (.mp rPl rCell true true l))], []) := by kernel_rfl
  obtain ⟨dn, h1, e⟩ := ho
  rw [List.append_nil] at h1
  have e2 : out = skF o l := e.trans (hs dn h1)
  rw [← e2]
  exact ⟨_, _, key, allI (by rw [ok_of' ⟨rfl, rfl, rfl⟩]; rfl)⟩
set_option maxRecDepth 100000 in
theorem slN (o : rOp.den) (l : List (rPl.den × rCell.den)) (hs : ∀ p : List (rPl.den × rCell.den), p.Perm l → skF o p = skF o l) :
    HeapCall Try.prog 31 [.one (.ptr 1 0), .agg (rOp.cells o)] [.mp rPl rCell true true l, .cells [.mref 0]] (.agg (rRes.cells (skF o l))) [.mp rPl rCell true true l, .cells [.mref 0], .cells (rOp.cells o), .cells (rRes.cells (skF o l)), .cells (rRes.cells (skF o l)), .iter 0 l.length false] :=
  ECx.heap_okN Try.func31 (by decide +kernel) (c := cSk) (by kernel_rfl) lSk_eq (by kernel_rfl) (slots := []) (ro := [14, 6]) (nt := 25) (by kernel_rfl) (δ := { out // SlInv o l out [] }) ⟨skF o l, l, by rw [List.append_nil], rfl⟩ (sl_loop o l) (fnD := fun d => fnSk o l d.1)
    (fun d v r h os x hx => ⟨_, fun d' => rfl, fun hc => of_ok' (hc _ (List.mem_cons_self ..))⟩)
    (os := []) (fun d => sl_run o l hs d.1 d.2)
theorem sl_heap (o : rOp.den) (l : List (rPl.den × rCell.den)) (hs : ∀ p : List (rPl.den × rCell.den), p.Perm l → skF o p = skF o l) :
    HeapCall Try.prog 31 [.one (.ptr 1 0), .agg (rOp.cells o)] [.mp rPl rCell true true l, .cells [.mref 0]] (.agg (rRes.cells (skF o l))) [.mp rPl rCell true true l, .cells [.mref 0]] :=
  cut_heap 2 (slN o l hs) (Nat.le_refl _) (by simp [idsV, idsC, rRes, CT.cells]) (show ∀ b ∈ [AB.mp rPl rCell true true l, .cells [.mref 0]], ∀ i ∈ idsB b, i < 2 by simp [idsB, idsC])

theorem bubC_len2 : ∀ (l : List rCell.den), (sortC l).length = l.length := fun l => insC_len l _
/-- A model and its map, as a call finds them: Cells' slice is promised. -/
theorem cel_ice (l : List (rPl.den × rCell.den)) (h0 : 0 < l.length) (h12 : l.length ≤ 12) (hs : ∀ p : List rCell.den, p.Perm (valsM l) → sortC p = sortC (valsM l)) :
    HeapCall Try.prog 20 [.one (.ptr 0 0)] [.cells [.mref 1], .mp rPl rCell true true l] (.one (.sl rCell (sortC (valsM l)) .shared)) [.cells [.mref 1], .mp rPl rCell true true l] := by
  have h := (cl_heap l h0 h12 hs).ice (args := [.one (.ptr 0 0)]) (hp := [.cells [.mref 1], .mp rPl rCell true true l]) (r1 := .one (.sl rCell (((sortC (valsM l)).drop 0).take l.length) .shared)) (hq := [.mp rPl rCell true true l, .cells [.mref 0]]) 2 (by simp) rfl (by kernel_rfl) (by kernel_rfl) [1, 0] (by kernel_rfl) (by kernel_rfl) rfl
  rw [List.drop_zero, List.take_of_length_le (by rw [bubC_len2, List.length_map]; exact Nat.le_refl _)] at h
  exact h
theorem sek_frame (o : rOp.den) (l : List (rPl.den × rCell.den)) (hs : ∀ p : List (rPl.den × rCell.den), p.Perm l → skF o p = skF o l) :
    HeapCall Try.prog 31 [.one (.ptr 0 0), .agg (rOp.cells o)] [.cells [.mref 1], .mp rPl rCell true true l] (.agg (rRes.cells (skF o l))) [.cells [.mref 1], .mp rPl rCell true true l] :=
  (sl_heap o l hs).ice (args := [.one (.ptr 0 0), .agg (rOp.cells o)]) (hp := [.cells [.mref 1], .mp rPl rCell true true l]) (r1 := .agg (rRes.cells (skF o l))) (hq := [.mp rPl rCell true true l, .cells [.mref 0]]) 2 (by simp) rfl (by kernel_rfl) (by kernel_rfl) [1, 0] (by kernel_rfl) (by kernel_rfl) rfl

/-- A contract at given values. -/
def cameS (x : Option ((AV × List AB) × List Bool × List Bool)) (r : AV) (hp' : List AB) : Bool := match x with
  | some ((r0, h0), cs, _) => cs.all (fun c => c) && AV.eqB r0 r && eqBs h0 hp'
  | none => false
theorem closedS {P : Program} {f : Nat} {fn : List AV → List AB → List Bool → Option ((AV × List AB) × List Bool × List Bool)}
    (ok : ∀ args hp os r hp' cs os', fn args hp os = some ((r, hp'), cs, os') → (∀ c ∈ cs, c = true) → HeapCall P f args hp r hp') (c : CC) (h : cameS (fn c.args c.hp []) c.r c.hp' = true) : CC.holds P f c := by
  unfold cameS at h
  split at h
  · rename_i r0 h0 cs os' he
    simp only [Bool.and_eq_true] at h
    obtain ⟨⟨h1, h2⟩, h3⟩ := h
    have e1 := AV.eqB_eq h2
    have e2 := eqL_eq (fun _ _ => AB.eqB_eq) _ _ h3
    have := ok _ _ _ _ _ _ _ he (fun q hq => List.all_eq_true.1 h1 q hq)
    rw [e1, e2] at this
    exact this
  · cases h
def fCel (args : List AV) (hp : List AB) (os : List Bool) : Option ((AV × List AB) × List Bool × List Bool) := match args, hp with
  | [.one (.ptr 0 0)], [.cells [.mref 1], .mp k v true true l0] => match asM k v l0 with
    | some l => retC (.one (.sl rCell (sortC (valsM l)) .shared), [.cells [.mref 1], .mp rPl rCell true true l]) [decide (0 < l.length), decide (l.length ≤ 12), sortsC (valsM l)] os
    | none => none
  | _, _ => none
theorem fCel_ok : ∀ args hp os r hp' cs os', fCel args hp os = some ((r, hp'), cs, os') → (∀ c ∈ cs, c = true) → HeapCall Try.prog 20 args hp r hp' := fun args hp os r hp' cs os' h hc => by
    unfold fCel at h
    split at h
    · rename_i k v l0
      split at h
      · rename_i l e
        obtain ⟨rfl, rfl, e⟩ := asM_eq e
        subst e
        simp only [retC, Option.some.injEq, Prod.mk.injEq] at h
        obtain ⟨⟨rfl, rfl⟩, rfl, rfl⟩ := h
        obtain ⟨h1, hc⟩ := of_allTc hc
        obtain ⟨h2, hc⟩ := of_allTc hc
        obtain ⟨h3, _⟩ := of_allTc hc
        exact cel_ice _ (of_decide_eq_true h1) (of_decide_eq_true h2) (fun p hp => sortsC_perm h3 hp)
      · cases h
    · cases h
/-- Whatever order they come in, the same is found. -/
def seeksC (o : rOp.den) (l : List (rPl.den × rCell.den)) : Bool := (permsL l).all fun p => rRes.same (skF o p) (skF o l)
theorem seeksC_perm {o : rOp.den} {l p : List (rPl.den × rCell.den)} (h : seeksC o l = true) (hp : p.Perm l) : skF o p = skF o l := same_eq rRes rfl (List.all_eq_true.1 h p (mem_permsL hp))
def fSek (args : List AV) (hp : List AB) (os : List Bool) : Option ((AV × List AB) × List Bool × List Bool) := match args, hp with
  | [.one (.ptr 0 0), .agg [.int .i64 a1, .str a2, .str a3, .str a4, .bool a5, .str a6]], [.cells [.mref 1], .mp k v true true l0] => match asM k v l0 with
    | some l => retC (.agg (rRes.cells (skF (a1, a2, a3, a4, a5, a6, ()) l)), [.cells [.mref 1], .mp rPl rCell true true l]) [seeksC (a1, a2, a3, a4, a5, a6, ()) l] os
    | none => none
  | _, _ => none
theorem fSek_ok : ∀ args hp os r hp' cs os', fSek args hp os = some ((r, hp'), cs, os') → (∀ c ∈ cs, c = true) → HeapCall Try.prog 31 args hp r hp' := fun args hp os r hp' cs os' h hc => by
    unfold fSek at h
    split at h
    · rename_i a1 a2 a3 a4 a5 a6 k v l0
      split at h
      · rename_i l e
        obtain ⟨rfl, rfl, e⟩ := asM_eq e
        subst e
        simp only [retC, Option.some.injEq, Prod.mk.injEq] at h
        obtain ⟨⟨rfl, rfl⟩, rfl, rfl⟩ := h
        obtain ⟨h1, _⟩ := of_allTc hc
        exact sek_frame (a1, a2, a3, a4, a5, a6, ()) _ (fun p hp => seeksC_perm h1 hp)
      · cases h
    · cases h
end Go.Proofs.Ytolhkkoakneflaa
