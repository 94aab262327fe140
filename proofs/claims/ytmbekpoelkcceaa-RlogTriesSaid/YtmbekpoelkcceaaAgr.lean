/- agrees: its contract; no statement. -/
import Derived.Test.YtmbekpoelkcceaaPlc
set_option linter.unusedVariables false
set_option linter.unusedSimpArgs false
namespace Go.Proofs.Ytmbekpoelkcceaa
open Go Go.Eng

/-- Blocks that nothing names any more are let go, and tokens forgotten. -/
theorem trim_heap {P : Program} {f : Nat} {args : List AV} {hp : List AB} {r : AV} {hp' : List AB} (m : Nat) (h : HeapCall P f args hp r hp') (hm : hp.length ≤ m) (hr : ∀ i ∈ idsV r, i < m) (hb : ∀ b ∈ (softs m hp').take m, ∀ i ∈ idsB b, i < m) :
    HeapCall P f args hp r ((softs m hp').take m) :=
  ⟨h.1, fun X vs hX hH hv => (h.2 X vs hX hH hv).mono fun e w' ⟨val, X', h1, h2, h3, h4, h5, h6⟩ => ⟨val, (X'.soft m).cut m, h1, h2,
    cut_le (h3.trans (soft_le X' m)) (fun i hi => by rw [hH]; exact List.getElem?_eq_none (by omega)),
    (h4.soft m).cut fun i b hi hbb j hj => by
      refine hb b ?_ j hj
      obtain ⟨b0, g1, rfl⟩ := soft_H hbb
      rw [h5] at g1
      exact List.mem_of_getElem? (i := i) (by rw [List.getElem?_take, if_pos hi]; simp [softs, g1]),
    by
      funext i
      simp only [Ctx.cut, Ctx.soft, h5, List.getElem?_take, softs, List.getElem?_map],
    VR.cut _ _ hr (VR.mono (soft_le X' m) _ _ h6)⟩⟩
theorem _root_.Go.Eng.Env.heap_trim {P : Program} (E : Env P) (m : Nat) {f : Nat} {args : List AV} {hp : List AB} {os : List Bool} {r : AV} {hp' hp2 : List AB} {cs : List Bool} (h : E.run f args hp os = some (r, hp', cs)) (hcs : ∀ c ∈ cs, c = true)
    (hm : hp.length ≤ m) (hr : ∀ i ∈ idsV r, i < m) (he : (softs m hp').take m = hp2) (hb : ∀ b ∈ hp2, ∀ i ∈ idsB b, i < m) : HeapCall P f args hp r hp2 := by
  subst he
  exact trim_heap m (E.heap_ok h hcs) hm hr hb

theorem agr_heap (i t : Int) (l x : List rEntry.den) (h0 : 0 ≤ i ∧ i ≤ 2000) (hx : x.length ≤ 1000) :
    HeapCall Try.prog 35 [.one (.ptr 1 0), vU i, vU t, vL rEntry l] [baB, logB x .shared] (vB (folW i t l && hasT x i t)) [baB, logB x .shared] := by
  have g1 : decide (i ≥ 0) = true := decide_eq_true h0.1
  cases hf : folW i t l with
  | false =>
    exact EPlo.heap_trim 2 (os := [true]) (r := vB false) (hp' := [baB, logB x .shared, .cells [.ptr 1 0]]) (cs := [((!folW i t l) == true)]) (by kernel_rfl) (allI (by simp only [hf]; rfl)) (Nat.le_refl _) (by simp [idsV, idsC]) rfl (by simp [idsB, idsC])
  | true =>
    rw [Bool.true_and]
    have wl : IntKind.u64.wrap ((x.length : Nat) : Int) = ((x.length : Nat) : Int) := wrapU64 (by omega) (by omega)
    by_cases hz : i = 0
    · have nz : (i == 0) = true := beq_iff_eq.2 hz
      have e : hasT x i t = ((0 : Int) == t) := by
        unfold hasT
        rw [if_pos hz, Bool.eq_iff_iff, decide_eq_true_eq, beq_iff_eq]
        exact eq_comm
      rw [e]
      exact EPlo.heap_trim 2 (os := [false, true, false, false, false, false, false, false, false, true, true, true, true, true, true, true, true, true, true, true, true, true, true, true, true, true, true, true, true, true, true, true, true, true, true, true, true, true, true, true, true, true, true, true, true, true, true, true, true]) (r := vB ((0 : Int) == t)) (hp' := [baB, logB x .shared, .cells [.ptr 1 0]]) (cs := [(true == true), (true == true), (true == true), (true == true), ((i == 0) == true), ((!true) == false), (false == false), (false == false), (false == false), (false == false), (false == false), (false == false), (decide (i ≥ 0) == true), ((!folW i t l) == false)]) (by kernel_rfl) (allI (by simp only [hf, g1, nz]; rfl)) (Nat.le_refl _) (by simp [idsV, idsC]) rfl (by simp [idsB, idsC])
    · have n0 : (i == 0) = false := beq_eq_false_iff_ne.2 hz
      have n1 : decide (i ≤ 0) = false := decide_eq_false (by omega)
      have w0 : IntKind.u64.wrap (i - 0) = i := by rw [Int.sub_zero, wrapU64 (by omega) (by omega)]
      have w1 : IntKind.u64.wrap (i - 1) = i - 1 := wrapU64 (by omega) (by omega)
      have w2 : IntKind.i64.wrap (i - 1) = i - 1 := wrap64 (by omega) (by omega)
      have tn : (i - 1).toNat = i.toNat - 1 := by omega
      by_cases hl : i ≤ (x.length : Nat)
      · have g2 : decide (i > ((x.length : Nat) : Int)) = false := decide_eq_false (by omega)
        have g3 : inB (i - 1) x.length = true := inB_of (by omega) (by omega)
        have e : hasT x i t = ((x.getD (IntKind.i64.wrap (IntKind.u64.wrap (IntKind.u64.wrap (i - 0) - 1))).toNat rEntry.dflt).snd.fst == t) := by
          rw [w0, w1, w2, tn]
          unfold hasT
          rw [if_neg hz, decide_eq_true hl, Bool.true_and, Bool.eq_iff_iff, decide_eq_true_eq, beq_iff_eq]
        rw [e]
        exact EPlo.heap_trim 2 (os := [false, true, false, false, false, false, false, false, false, false, false, false, false, false, false, false, false, false, false, false, false, false, false, false, false, false, false, true, true, true, true, true, true, true, true, true, true, true, true, true, true, true, true, true, true, true, true]) (r := vB ((x.getD (IntKind.i64.wrap (IntKind.u64.wrap (IntKind.u64.wrap (i - 0) - 1))).toNat rEntry.dflt).snd.fst == t)) (hp' := [baB, logB x .shared, .cells [.ptr 1 0]]) (cs := [(true == true), (true == true), (true == true), (true == true), (inB (IntKind.i64.wrap (IntKind.u64.wrap (IntKind.u64.wrap (i - 0) - 1))) x.length), ((!true) == false), (decide (IntKind.u64.wrap (i - 0) > IntKind.u64.wrap ((x.length : Nat) : Int)) == false), (decide (i ≤ 0) == false), (decide (i ≤ 0) == false), (decide (i ≤ 0) == false), (decide (i ≤ 0) == false), (decide (i ≤ 0) == false), (decide (i ≤ 0) == false), (decide (i ≤ 0) == false), (decide (i ≤ 0) == false), (decide (i ≤ 0) == false), (decide (i ≤ 0) == false), (decide (i ≤ 0) == false), (decide (i ≤ 0) == false), (decide (i ≤ 0) == false), (decide (i ≤ 0) == false), (decide (i ≤ 0) == false), ((i == 0) == false), ((!true) == false), (false == false), (false == false), (false == false), (false == false), (false == false), (false == false), (decide (i ≥ 0) == true), ((!folW i t l) == false)]) (by kernel_rfl) (allI (by simp only [hf, g1, n0, n1, w0, w1, w2, wl, g2, g3]; rfl)) (Nat.le_refl _) (by simp [idsV, idsC]) rfl (by simp [idsB, idsC])
      · have g2 : decide (i > ((x.length : Nat) : Int)) = true := decide_eq_true (by omega)
        have e : hasT x i t = false := by
          unfold hasT
          rw [if_neg hz, decide_eq_false hl, Bool.false_and]
        rw [e]
        exact EPlo.heap_trim 2 (os := [false, true, false, false, false, false, false, false, false, false, false, false, false, false, false, false, false, false, false, false, false, false, false, false, false, true, true, false, false, false, false, false, false, false, false, false, false, false, false, false, false, false, false, false, false, false, false]) (r := vB false) (hp' := [baB, logB x .shared, .cells [.ptr 1 0]]) (cs := [(false == false), (false == false), (false == false), (false == false), ((!false) == true), (decide (IntKind.u64.wrap (i - 0) > IntKind.u64.wrap ((x.length : Nat) : Int)) == true), (decide (i ≤ 0) == false), (decide (i ≤ 0) == false), (decide (i ≤ 0) == false), (decide (i ≤ 0) == false), (decide (i ≤ 0) == false), (decide (i ≤ 0) == false), (decide (i ≤ 0) == false), (decide (i ≤ 0) == false), (decide (i ≤ 0) == false), (decide (i ≤ 0) == false), (decide (i ≤ 0) == false), (decide (i ≤ 0) == false), (decide (i ≤ 0) == false), (decide (i ≤ 0) == false), (decide (i ≤ 0) == false), ((i == 0) == false), ((!true) == false), (false == false), (false == false), (false == false), (false == false), (false == false), (false == false), (decide (i ≥ 0) == true), ((!folW i t l) == false)]) (by kernel_rfl) (allI (by simp only [hf, g1, n0, n1, w0, wl, g2]; rfl)) (Nat.le_refl _) (by simp [idsV, idsC]) rfl (by simp [idsB, idsC])
end Go.Proofs.Ytmbekpoelkcceaa
