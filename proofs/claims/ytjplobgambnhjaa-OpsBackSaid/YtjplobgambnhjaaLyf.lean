/- A message without entries laid: flags, numbers with a sign, members; no statement. -/
import Derived.Test.YtjplobgambnhjaaLye
set_option linter.unusedVariables false
set_option linter.unusedSimpArgs false
set_option maxRecDepth 100000
namespace Go.Proofs.Ytjplobgambnhjaa
open Go Go.Eng

def ofM : Nat → Nat | 0 => 6 | 1 => 20 | 2 => 25 | 3 => 39 | _ => 46
def gtM (j : Nat) (d : rMsg.den) : Bool := match j with
  | 0 => d.2.2.2.2.2.2.1
  | 1 => (aR d).2.2.2.2.1.2.2.2.2.1
  | 2 => (aP d).2.2.1.2.1
  | 3 => (aA d).2.1.2.2.2.2.1.2.2.2.2.1
  | _ => (aA d).2.1.2.2.2.2.2.2.2.2.2.2.1.1
theorem flM_run (f : Bool) : ∀ j, j ≤ 4 → ∀ (b : ByteArray) (d : rMsg.den), EWn.run 77 [.one (.ptr 2 (ofM j)), .one (.ptr 1 0)] (hY b (rMsg.cells d)) [f] =
    some (.tup [], hY (b ++ yS (bif f then 1 else 0)) (rMsg.cells d), [room b 20, gtM j d == f]) := by
  intro j hj
  have h : j = 0 ∨ j = 1 ∨ j = 2 ∨ j = 3 ∨ j = 4 := by omega
  rcases h with rfl | rfl | rfl | rfl | rfl
  all_goals (intro b d; cases f <;> kernel_rfl)
def jM (off : Nat) : Nat := if off = 6 then 0 else if off = 20 then 1 else if off = 25 then 2 else if off = 39 then 3 else 4
theorem jM_le (off : Nat) : jM off ≤ 4 := by unfold jM; split <;> (try split) <;> (try split) <;> (try split) <;> omega
theorem flM_h (off : Nat) (b : ByteArray) (d : rMsg.den) (ho : Nat.beq (ofM (jM off)) off = true) (hb : room b 20 = true) : HeapCall Try.prog 77 [.one (.ptr 2 off), .one (.ptr 1 0)] (hY b (rMsg.cells d)) (.tup []) (hY (b ++ fS (gtM (jM off) d)) (rMsg.cells d)) := by
  have := EWn.heap_cut 3 (flM_run (gtM (jM off) d) (jM off) (jM_le off) b d) (allI (by rw [hb]; simp)) (Nat.le_refl 3) (by simp [idsV]) (hp2 := hY (b ++ fS (gtM (jM off) d)) (rMsg.cells d)) (by kernel_rfl) (by simp [idsB, idsC, CT.cells])
  rw [Nat.eq_of_beq_eq_true ho] at this
  exact this
def flMF (args : List AV) (hp : List AB) (os : List Bool) : Option ((AV × List AB) × List Bool × List Bool) := match args, hp with
  | [.one (.ptr 2 off), .one (.ptr 1 0)], [.cells [.str b], .cells [.ptr 0 0], .cells c] => match CT.un rMsg c with
    | some (d, []) => retC (.tup [], hY (b ++ fS (gtM (jM off) d)) (rMsg.cells d)) [Nat.beq (ofM (jM off)) off, room b 20] os
    | _ => none
  | _, _ => none
/-! Numbers with a sign: from -1 to 4. -/
theorem sgy_runN : ∀ j, j ≤ 3 → ∀ (b : ByteArray) (d : rMsg.den), EWn.run 89 [wY, .one (.ptr 2 (sgOff j))] (hY b (rMsg.cells (sgSet j d (-1)))) [true, true] =
    some (.tup [], hY (b ++ nS 1) (rMsg.cells (sgSet j d (-1))) ++ [.cells cY, .cells [.int .u64 1]], [true, true, true, room b 20, true, true, true]) := by
  intro j hj
  have h : j = 0 ∨ j = 1 ∨ j = 2 ∨ j = 3 := by omega
  rcases h with rfl | rfl | rfl | rfl
  all_goals (intro b d; kernel_rfl)
theorem sgy_runP : ∀ k, k ≤ 4 → ∀ j, j ≤ 3 → ∀ (b : ByteArray) (d : rMsg.den), EWn.run 89 [wY, .one (.ptr 2 (sgOff j))] (hY b (rMsg.cells (sgSet j d ((k : Nat) : Int)))) [false, false] =
    some (.tup [], hY (b ++ nS ((2 * k : Nat) : Int)) (rMsg.cells (sgSet j d ((k : Nat) : Int))) ++ [.cells cY, .cells [.int .u64 ((2 * k : Nat) : Int)]], [true, true, true, room b 20, true, true]) := by
  intro k hk j hj
  have h : j = 0 ∨ j = 1 ∨ j = 2 ∨ j = 3 := by omega
  have h2 : k = 0 ∨ k = 1 ∨ k = 2 ∨ k = 3 ∨ k = 4 := by omega
  rcases h with rfl | rfl | rfl | rfl
  all_goals (rcases h2 with rfl | rfl | rfl | rfl | rfl)
  all_goals (intro b d; kernel_rfl)
def sgK (v : Int) : Bool := decide (-1 ≤ v ∧ v ≤ 4)
theorem sgSet_get (j : Nat) (d : rMsg.den) : sgSet j d (sgGet j d) = d := by
  rcases j with _ | _ | _ | j <;> rfl
theorem sgy_h (off : Nat) (b : ByteArray) (d : rMsg.den) (ho : Nat.beq (sgOff (sgJ off)) off = true) (hv : sgK (sgGet (sgJ off) d) = true) (hb : room b 20 = true) :
    HeapCall Try.prog 89 [wY, .one (.ptr 2 off)] (hY b (rMsg.cells d)) (.tup []) (hY (b ++ nS (zg (sgGet (sgJ off) d))) (rMsg.cells d)) := by
  have hj := sgJ_le off
  have hd := sgSet_get (sgJ off) d
  have ho := Nat.eq_of_beq_eq_true ho
  generalize hg : sgGet (sgJ off) d = v at hv hd
  have hv := of_decide_eq_true hv
  have key : HeapCall Try.prog 89 [wY, .one (.ptr 2 (sgOff (sgJ off)))] (hY b (rMsg.cells (sgSet (sgJ off) d v))) (.tup []) (hY (b ++ nS (zg v)) (rMsg.cells (sgSet (sgJ off) d v))) := by
    by_cases hn : v < 0
    · have e : v = -1 := by omega
      subst e
      exact EWn.heap_cut 3 (sgy_runN (sgJ off) hj b d) (allI (by rw [List.all_cons]; simp [hb])) (Nat.le_refl 3) (by simp [idsV]) (by kernel_rfl) (by simp [idsB, idsC, CT.cells])
    · have hk : v = ((v.toNat : Nat) : Int) := by omega
      have hk4 : v.toNat ≤ 4 := by omega
      have e : zg v = ((2 * v.toNat : Nat) : Int) := by unfold zg; rw [if_neg hn]; omega
      rw [e]
      generalize v.toNat = k at hk hk4 ⊢
      subst hk
      exact EWn.heap_cut 3 (sgy_runP k hk4 (sgJ off) hj b d) (allI (by rw [List.all_cons]; simp [hb])) (Nat.le_refl 3) (by simp [idsV]) (by kernel_rfl) (by simp [idsB, idsC, CT.cells])
  rw [hd, ho] at key
  exact key
def sgyF (args : List AV) (hp : List AB) (os : List Bool) : Option ((AV × List AB) × List Bool × List Bool) := match args, hp with
  | [.agg [.fn f1 [(1, 0)], .fn f2 [(1, 0)], .fn f3 [(1, 0)]], .one (.ptr 2 off)], [.cells [.str b], .cells [.ptr 0 0], .cells c] => match CT.un rMsg c with
    | some (d, []) => retC (.tup [], hY (b ++ nS (zg (sgGet (sgJ off) d))) (rMsg.cells d)) [fnY f1 f2 f3, Nat.beq (sgOff (sgJ off)) off, sgK (sgGet (sgJ off) d), room b 20] os
    | _ => none
  | _, _ => none
/-! Members. -/
abbrev aYm : List AV := [wY, .one (.ptr 2 10)]
theorem mlm_run0 (b : ByteArray) (d : rMsg.den) : EWn.run 72 aYm (hY b (rMsg.cells (setM d []))) [false, false] =
    some (.tup [], hY (laysB b (memR [])) (rMsg.cells (setM d [])) ++ [.cells cY], true :: (csW [] (b ++ nS (wU 0)) ++ [true, true, room b 20])) := by kernel_rfl
theorem mlm_run1 (a0 : Int) (b : ByteArray) (d : rMsg.den) : EWn.run 72 aYm (hY b (rMsg.cells (setM d [a0]))) [false, true, false] =
    some (.tup [], hY (laysB b (memR [a0])) (rMsg.cells (setM d [a0])) ++ [.cells cY], true :: (csW [a0] (b ++ nS (wU 1)) ++ [true, true, room b 20])) := by kernel_rfl
theorem mlm_run2 (a0 a1 : Int) (b : ByteArray) (d : rMsg.den) : EWn.run 72 aYm (hY b (rMsg.cells (setM d [a0, a1]))) [false, true, true, false] =
    some (.tup [], hY (laysB b (memR [a0, a1])) (rMsg.cells (setM d [a0, a1])) ++ [.cells cY], true :: (csW [a0, a1] (b ++ nS (wU 2)) ++ [true, true, room b 20])) := by kernel_rfl
theorem mlm_run3 (a0 a1 a2 : Int) (b : ByteArray) (d : rMsg.den) : EWn.run 72 aYm (hY b (rMsg.cells (setM d [a0, a1, a2]))) [false, true, true, true, false] =
    some (.tup [], hY (laysB b (memR [a0, a1, a2])) (rMsg.cells (setM d [a0, a1, a2])) ++ [.cells cY], true :: (csW [a0, a1, a2] (b ++ nS (wU 3)) ++ [true, true, room b 20])) := by kernel_rfl
theorem mlm_run4 (a0 a1 a2 a3 : Int) (b : ByteArray) (d : rMsg.den) : EWn.run 72 aYm (hY b (rMsg.cells (setM d [a0, a1, a2, a3]))) [false, true, true, true, true, false] =
    some (.tup [], hY (laysB b (memR [a0, a1, a2, a3])) (rMsg.cells (setM d [a0, a1, a2, a3])) ++ [.cells cY], true :: (csW [a0, a1, a2, a3] (b ++ nS (wU 4)) ++ [true, true, room b 20])) := by kernel_rfl
theorem mlm_run5 (a0 a1 a2 a3 a4 : Int) (b : ByteArray) (d : rMsg.den) : EWn.run 72 aYm (hY b (rMsg.cells (setM d [a0, a1, a2, a3, a4]))) [false, true, true, true, true, true, false] =
    some (.tup [], hY (laysB b (memR [a0, a1, a2, a3, a4])) (rMsg.cells (setM d [a0, a1, a2, a3, a4])) ++ [.cells cY], true :: (csW [a0, a1, a2, a3, a4] (b ++ nS (wU 5)) ++ [true, true, room b 20])) := by kernel_rfl
theorem mlm_fin {l : List Int} {b : ByteArray} {d : rMsg.den} {os : List Bool} (hl : l.length ≤ 5) (hs : l.all smI = true) (hb : room b 200 = true)
    (hr : EWn.run 72 aYm (hY b (rMsg.cells (setM d l))) os = some (.tup [], hY (laysB b (memR l)) (rMsg.cells (setM d l)) ++ [.cells cY], true :: (csW l (b ++ nS (wU ((l.length : Nat) : Int))) ++ [true, true, room b 20]))) :
    HeapCall Try.prog 72 aYm (hY b (rMsg.cells (setM d l))) (.tup []) (hY (laysB b (memR l)) (rMsg.cells (setM d l))) := by
  have hb' := room_le hb
  have hz := nS_size (wU ((l.length : Nat) : Int))
  refine EWn.heap_cut 3 hr (allI ?_) (Nat.le_refl 3) (by simp [idsV]) (by kernel_rfl) (by simp [idsB, idsC, setM, CT.cells])
  rw [List.all_cons, List.all_append, csW_all l _ hs (by rw [ByteArray.size_append]; omega)]
  simp only [List.all_cons, List.all_nil, room_of (b := b) (n := 20) (by omega)]; rfl
theorem mlm_h (l : List Int) (b : ByteArray) (d : rMsg.den) (hl : l.length ≤ 5) (hs : l.all smI = true) (hb : room b 200 = true) :
    HeapCall Try.prog 72 aYm (hY b (rMsg.cells (setM d l))) (.tup []) (hY (laysB b (memR l)) (rMsg.cells (setM d l))) := by
  rcases l with _ | ⟨a0, l⟩
  · exact mlm_fin hl hs hb (mlm_run0  b d)
  rcases l with _ | ⟨a1, l⟩
  · exact mlm_fin hl hs hb (mlm_run1 a0 b d)
  rcases l with _ | ⟨a2, l⟩
  · exact mlm_fin hl hs hb (mlm_run2 a0 a1 b d)
  rcases l with _ | ⟨a3, l⟩
  · exact mlm_fin hl hs hb (mlm_run3 a0 a1 a2 b d)
  rcases l with _ | ⟨a4, l⟩
  · exact mlm_fin hl hs hb (mlm_run4 a0 a1 a2 a3 b d)
  rcases l with _ | ⟨a5, l⟩
  · exact mlm_fin hl hs hb (mlm_run5 a0 a1 a2 a3 a4 b d)
  simp only [List.length_cons] at hl
  omega
def mlmF (args : List AV) (hp : List AB) (os : List Bool) : Option ((AV × List AB) × List Bool × List Bool) := match args, hp with
  | [.agg [.fn f1 [(1, 0)], .fn f2 [(1, 0)], .fn f3 [(1, 0)]], .one (.ptr 2 10)], [.cells [.str b], .cells [.ptr 0 0], .cells c] => match CT.un rMsg c with
    | some (d, []) => retC (.tup [], hY (laysB b (memR (mbL' d))) (rMsg.cells d)) [fnY f1 f2 f3, decide (List.length (mbL' d) ≤ 5), List.all (mbL' d) smI, room b 200] os
    | _ => none
  | _, _ => none
noncomputable def EYb : Env Try.prog := (((EWn.addHF 77 selFlg flMF
  (fun args hp os r' hp' cs os' h hc => by
    unfold flMF at h
    split at h
    · split at h
      · rename_i hu
        simp only [retC, Option.some.injEq, Prod.mk.injEq] at h
        obtain ⟨⟨rfl, rfl⟩, rfl, rfl⟩ := h
        obtain ⟨h1, hc⟩ := of_allTc hc
        obtain ⟨h2, _⟩ := of_allTc hc
        exact hY_pre hu (flM_h _ _ _ h1 h2)
      · cases h
    · cases h)).addHF 72 selLay mlmF
  (fun args hp os r' hp' cs os' h hc => by
    unfold mlmF at h
    split at h
    · split at h
      · rename_i hu
        simp only [retC, Option.some.injEq, Prod.mk.injEq] at h
        obtain ⟨⟨rfl, rfl⟩, rfl, rfl⟩ := h
        obtain ⟨h1, hc⟩ := of_allTc hc
        obtain ⟨h2, hc⟩ := of_allTc hc
        obtain ⟨h3, hc⟩ := of_allTc hc
        obtain ⟨h4, _⟩ := of_allTc hc
        obtain ⟨rfl, rfl, rfl⟩ := of_decide_eq_true h1
        exact hY_pre hu (mlm_h _ _ _ (of_decide_eq_true h2) h3 h4)
      · cases h
    · cases h)).addHF 89 selLay sgyF
  (fun args hp os r' hp' cs os' h hc => by
    unfold sgyF at h
    split at h
    · split at h
      · rename_i hu
        simp only [retC, Option.some.injEq, Prod.mk.injEq] at h
        obtain ⟨⟨rfl, rfl⟩, rfl, rfl⟩ := h
        obtain ⟨h1, hc⟩ := of_allTc hc
        obtain ⟨h2, hc⟩ := of_allTc hc
        obtain ⟨h3, hc⟩ := of_allTc hc
        obtain ⟨h4, _⟩ := of_allTc hc
        obtain ⟨rfl, rfl, rfl⟩ := of_decide_eq_true h1
        exact hY_pre hu (sgy_h _ _ _ h2 h3 h4)
      · cases h
    · cases h)).addT1 29 [.agg rMsg] (fun d => vI (msgV d.1)) (fun _ => []) fun d _ => msg_pure d.1
end Go.Proofs.Ytjplobgambnhjaa
