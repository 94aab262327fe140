/- What the document's taker takes: a number with a sign, members; no statement. -/
import Derived.Test.YtjplobgambnhjaaGreatRqa
import Derived.Test.YtjplobgambnhjaaGreatOen
set_option linter.unusedVariables false
set_option linter.unusedSimpArgs false
set_option maxRecDepth 100000
namespace Go.Proofs.YtjplobgambnhjaaGreat
open Go Go.Eng

abbrev hQ (s : ByteArray) (b : Bool) : List AB := [.cells [.str s], .cells [.ptr 0 0, .bool b]]
theorem tki_run (s : ByteArray) (b c : Bool) : ERk.run 34 [.one (.ptr 1 0)] (hQ s b) [c] =
    some (vI (bif c then IntKind.i64.wrap (IntKind.i64.wrap (0 - IntKind.i64.wrap (IntKind.u64.wrap ((nq s 1073741824).tdiv 2))) - 1) else IntKind.i64.wrap (IntKind.u64.wrap ((nq s 1073741824).tdiv 2))), hQ (nr s) (qdB .g b s), [((nq s 1073741824).tmod 2 == 1) == c, true]) := by cases c <;> kernel_rfl
theorem tki_h (s : ByteArray) (b : Bool) : HeapCall Tryz.prog 34 [.one (.ptr 1 0)] (hQ s b) (vI (sgQ (nq s 1073741824))) (hQ (nr s) (qdB .g b s)) :=
  ERk.heap_ok (tki_run s b ((nq s 1073741824).tmod 2 == 1)) (allI (by rw [beq_self_eq_true]; rfl))
def mqL : Nat → ByteArray → List Int
  | 0, _ => []
  | k + 1, s => IntKind.i64.wrap (nq s 1073741824) :: mqL k (nr s)
def mqB : Nat → Bool → ByteArray → Bool
  | 0, b, _ => b
  | k + 1, b, s => mqB k (qdB wN b s) (nr s)
/-- So many are taken: what a run takes for granted. -/
def csMq (N : Int) : Nat → List Bool
  | 0 => []
  | 1 => [true, true, decide ((0 : Int) < N) == true]
  | k + 2 => [true, true, true, decide (((k + 1 : Nat) : Int) < N) == true] ++ csMq N (k + 1)
theorem tkm_run : ∀ k : Nat, 1 ≤ k → k ≤ 5 → ∀ (s : ByteArray) (b : Bool), ERk.run 32 [.one (.ptr 1 0)] (hQ s b) ((List.replicate k [true, false]).flatten ++ [false]) =
    some (.one (.sl cI (mqL k (nr s)) (.own 2 (k - 1))), hQ (mbS k (nr s)) (mqB k (qdB (.n 5) b s) (nr s)) ++ [.tok 3 (k - 1)], (decide (((k : Nat) : Int) < nq s 5) == false) :: csMq (nq s 5) k) := by
  intro k h1 h8
  have h : k = 1 ∨ k = 2 ∨ k = 3 ∨ k = 4 ∨ k = 5 := by omega
  rcases h with rfl | rfl | rfl | rfl | rfl
  all_goals (intro s b; kernel_rfl)
theorem tkm_run0 (s : ByteArray) (b : Bool) : ERk.run 32 [.one (.ptr 1 0)] (hQ s b) [false] =
    some (.one .nils, hQ (nr s) (qdB (.n 5) b s), [decide ((0 : Int) < nq s 5) == false]) := by kernel_rfl
theorem csMq_all {N : Int} : ∀ {k : Nat}, ((k : Nat) : Int) ≤ N → (csMq N k).all (fun c => c) = true
  | 0, _ => rfl
  | 1, h => by
    have e : decide ((0 : Int) < N) = true := decide_eq_true (by omega)
    simp only [csMq, e]; rfl
  | k + 2, h => by
    have e : decide (((k + 1 : Nat) : Int) < N) = true := decide_eq_true (by omega)
    rw [csMq, List.all_append, csMq_all (k := k + 1) (by omega), e]; rfl
theorem nq_ge (s : ByteArray) (m : Int) : 0 ≤ nq s m := by
  unfold nq
  cases nk s m
  · exact Int.le_refl 0
  · exact numV_ge s
theorem nq_le (s : ByteArray) {m : Int} (h : 0 ≤ m) : nq s m ≤ m := by
  unfold nq
  rw [nk_eq]
  cases nb s with
  | false => exact h
  | true =>
    cases hd : decide (numV s ≤ m) with
    | false => exact h
    | true => exact of_decide_eq_true hd
/-- How many members there are. -/
def mqN (s : ByteArray) : Nat := (nq s 5).toNat
theorem sl_w {X : Ctx} {row : CT} {l : List row.den} {k v : Nat} {x : Value} (h : VR X (.one (.sl row l (.own k v))) x) : VR X (.one (.sl row l .shared)) x := by
  obtain ⟨A, n, cap, h1, h2, h3, h4, h5, _⟩ := h
  exact ⟨A, n, cap, h1, h2, h3, h4, h5, trivial⟩
theorem tkm_h (s : ByteArray) (b : Bool) : HeapCall Tryz.prog 32 [.one (.ptr 1 0)] (hQ s b) (vL cI (mqL (mqN s) (nr s))) (hQ (mbS (mqN s) (nr s)) (mqB (mqN s) (qdB (.n 5) b s) (nr s))) := by
  have h0 := nq_ge s 5
  have h5 := nq_le s (m := 5) (by decide)
  have hN : nq s 5 = ((mqN s : Nat) : Int) := by unfold mqN; omega
  have hk : mqN s ≤ 5 := by omega
  generalize mqN s = k at hN hk ⊢
  rcases Nat.eq_zero_or_pos k with rfl | h1
  · refine HeapCall.weak (ERk.heap_ok (tkm_run0 s b) (allI ?_)) fun X v _ hv => ⟨none, 0, 0, hv, rfl, Nat.le_refl _, Nat.zero_le _, .inl rfl, trivial⟩
    rw [hN]; rfl
  · have e : decide (((k : Nat) : Int) < nq s 5) = false := decide_eq_false (by omega)
    have hc := ERk.heap_ok (tkm_run k h1 hk s b) (allI (by rw [List.all_cons, e, csMq_all (by omega)]; rfl))
    have q : (softs 2 (hQ (mbS k (nr s)) (mqB k (qdB (.n 5) b s) (nr s)) ++ [.tok 3 (k - 1)])).take 2 = hQ (mbS k (nr s)) (mqB k (qdB (.n 5) b s) (nr s)) := by kernel_rfl
    exact byRead (cut_heap 2 (hc.weak fun X v _ hv => sl_w hv) (Nat.le_refl 2) (by simp [idsV, idsC]) (by rw [q]; simp [idsB, idsC])) rfl q
noncomputable def ERq : Env Tryz.prog := ((((ERk.addHF 34 selT
  (fun args hp os => match args, hp with
    | [.one (.ptr 1 0)], [.cells [.str s], .cells [.ptr 0 0, .bool b]] => ret1 (vI (sgQ (nq s 1073741824)), hQ (nr s) (qdB .g b s)) os
    | _, _ => none)
  (fun args hp os r hp' cs os' h hc => by
    split at h
    · simp only [ret1, Option.some.injEq, Prod.mk.injEq] at h
      obtain ⟨⟨rfl, rfl⟩, rfl, rfl⟩ := h
      exact tki_h _ _
    · cases h)).addHF 32 selT
  (fun args hp os => match args, hp with
    | [.one (.ptr 1 0)], [.cells [.str s], .cells [.ptr 0 0, .bool b]] => ret1 (vL cI (mqL (mqN s) (nr s)), hQ (mbS (mqN s) (nr s)) (mqB (mqN s) (qdB (.n 5) b s) (nr s))) os
    | _, _ => none)
  (fun args hp os r hp' cs os' h hc => by
    split at h
    · simp only [ret1, Option.some.injEq, Prod.mk.injEq] at h
      obtain ⟨⟨rfl, rfl⟩, rfl, rfl⟩ := h
      exact tkm_h _ _
    · cases h)).addT1 25 [.agg rRes] (fun d => vB (resOk d.1.1 d.1.2.2.1 d.1.2.2.2.1 d.1.2.2.2.2.1)) (fun _ => []) fun d _ => rresult_pure d.1.1 d.1.2.1 d.1.2.2.1 d.1.2.2.2.1 d.1.2.2.2.2.1).addT1
  21 [.agg rEntry] (fun d => vI (entV d.1)) (fun d => [decide ((0 : Int) ≤ d.1.1), decide ((0 : Int) ≤ d.1.2.1)]) fun d hc => rent_pure d.1 (of_decide_eq_true (of_allTc hc).1) (of_decide_eq_true (of_allTc (of_allTc hc).2).1)).spec
end Go.Proofs.YtjplobgambnhjaaGreat
