/- slices.Index and slices.Contains of ints; no statement. -/
import Derived.Test.YtcigjehfmiiolaaBase
set_option linter.unusedVariables false
namespace Go.Proofs.Ytcigjehfmiiolaa
open Go Go.Eng

/-- Where the first one like it stands, from a place on; -1: nowhere. -/
def idxI (v : Int) : List Int → Nat → Int
  | [], _ => -1
  | x :: r, k => if v = x then (k : Int) else idxI v r (k + 1)

theorem idxI_none {v : Int} : ∀ (l : List Int) (k : Nat), (∀ x ∈ l, v ≠ x) → idxI v l k = -1
  | [], k, _ => rfl
  | x :: r, k, h => by
    simp only [idxI]
    rw [if_neg (h x (List.mem_cons_self ..))]
    exact idxI_none r (k + 1) fun y hy => h y (List.mem_cons_of_mem _ hy)
theorem idxI_at {v : Int} : ∀ (l : List Int) (k j : Nat), l[j]? = some v → (∀ i x, i < j → l[i]? = some x → v ≠ x) → idxI v l k = ((k + j : Nat) : Int)
  | [], k, j, h, _ => by simp at h
  | x :: r, k, 0, h, _ => by
    simp only [List.getElem?_cons_zero, Option.some.injEq] at h
    subst h; simp [idxI]
  | x :: r, k, j + 1, h, hh => by
    simp only [idxI]
    rw [if_neg (hh 0 x (by omega) rfl), idxI_at r (k + 1) j (by simpa using h) fun i y hi hy => hh (i + 1) y (by omega) (by simpa using hy)]
    congr 1; omega

def idxFound (l : List Int) (v : Int) : Bool := l.any fun x => decide (v = x)

noncomputable def lIdx : Code := (theLoop Try.prog 39 2).getD .skip
theorem lIdx_eq : theLoop Try.prog 39 2 = some lIdx := by kernel_rfl

theorem idx_loop (l : List Int) (m : SM) (v r : Int) (hp : List AB) :
    (idxFound l v = true → LoopOk Try.prog lIdx 19 [8, 4] [0, 7, 1] [vI 0, vI r] [.one (.sl cI l m), vI l.length, vI v] hp .ret [vX, vI (idxI v l 0)] hp) ∧
    (idxFound l v = false → LoopOk Try.prog lIdx 19 [8, 4] [0, 7, 1] [vI 0, vI r] [.one (.sl cI l m), vI l.length, vI v] hp (.exit 0) [vX, vX] hp) := by
  refine ⟨fun hf => ?_, fun hf => ?_⟩
  all_goals
    refine LoopOk.facts (by decide) (by decide) (by decide) rfl rfl fun ⟨X, hX, hH, _, hro⟩ => ?_
    obtain ⟨y, hy⟩ := hro _ (List.mem_cons_self ..)
    have hlen := sl_len hy
    unfold maxLen at hlen
    refine LoopOk.rounds (S := Nat) E0 lIdx_eq (by kernel_rfl) (fun k => [vI k, vI r]) (fun _ => hp) (fun k => k ≤ l.length ∧ ∀ j x, j < k → l[j]? = some x → v ≠ x) (fun k => l.length - k) 0 ⟨by omega, fun j x hj => by omega⟩ ?_ (fun _ _ => rfl)
    intro k ⟨hk, hbefore⟩
    by_cases hlt : k < l.length
    · have hget : l[k]? = some (l.getD k 0) := getD_get hlt
      by_cases he : v = l.getD k 0
      · first
          | refine OneRound.stop [true, true] (vs := [vI k, vI k]) (hp' := hp) (cs := [(v == l.getD k 0) == true, inB k l.length, decide ((k : Int) < l.length) == true]) (fun rest => by kernel_rfl) (allTc (eqT (beq_iff_eq.2 he)) (allTc (inB_of (by omega) (by omega)) (allT1 (dT (by omega))))) (by simp) ⟨.unk, .of_eq ?_, trivial⟩ (List.take_length) (.inl (Nat.le_refl _))
            rw [idxI_at l 0 k (by rw [hget, ← he]) (fun i x hi hx => hbefore i x hi hx)]; simp
          | exact absurd hf (by
              have : idxFound l v = true := by
                unfold idxFound
                rw [List.any_eq_true]
                exact ⟨_, List.mem_of_getElem? hget, by simpa using he⟩
              rw [this]; simp)
      · refine OneRound.go [true, false] (vs := [vI (IntKind.i64.wrap (k + 1)), vI r]) (hp' := hp) (cs := [(v == l.getD k 0) == false, inB k l.length, decide ((k : Int) < l.length) == true]) (fun rest => by kernel_rfl) (allTc (eqF (beq_eq_false_iff_ne.2 he)) (allTc (inB_of (by omega) (by omega)) (allT1 (dT (by omega))))) (k + 1) ⟨by omega, fun j x hj hx => ?_⟩ (by omega) ⟨.of_eq ?_, .refl, trivial⟩ (List.take_length) (.inl (Nat.le_refl _))
        · by_cases hjk : j < k
          · exact hbefore j x hjk hx
          · have : j = k := by omega
            subst this
            rw [hget] at hx
            injection hx with hx; subst hx; exact he
        · rw [wrap64 (by omega) (by omega)]; rfl
    · first
        | exact OneRound.stop [false] (vs := [vI k, vI r]) (hp' := hp) (cs := [decide ((k : Int) < l.length) == false]) (fun rest => by kernel_rfl) (allT1 (dF (by omega))) (by simp) ⟨.unk, .unk, trivial⟩ (List.take_length) (.inl (Nat.le_refl _))
        | exact absurd hf (by
            have : idxFound l v = false := by
              unfold idxFound
              rw [List.any_eq_false]
              intro x hx
              obtain ⟨j, hj⟩ := List.getElem?_of_mem hx
              have hjl := (List.getElem?_eq_some_iff.1 hj).1
              simpa using hbefore j x (by omega) hj
            rw [this]; simp)

noncomputable def EIdx1 : Env Try.prog := E0.addLT 39 2 lIdx_eq 19 [8, 4] [0, 7, 1] (by kernel_rfl) [.one (.int .i64), .one (.int .i64)] [.sl (.int .i64), .one (.int .i64), .one (.int .i64)]
  (fun (k, r, _) ((l, m), n, v, _) hp os => brL (idxFound l v) os (fun os => retC (.ret, [.one .unk, .one (.int .i64 (idxI v l 0))], hp) [decide (k = 0), decide (n = l.length)] os)
    (fun os => retC (.exit 0, [.one .unk, .one .unk], hp) [decide (k = 0), decide (n = l.length)] os))
  (fun (k, r, _) ((l, m), n, v, _) hp os e outs hp' cs os' h hc => by
    rcases brL_some h hc with ⟨hb, o, c, h, hc⟩ | ⟨hb, o, c, h, hc⟩
    all_goals
      simp only [retC, Option.some.injEq, Prod.mk.injEq] at h
      obtain ⟨⟨rfl, rfl, rfl⟩, rfl, rfl⟩ := h
      have h1 := hc _ (List.mem_cons_self ..)
      have h2 := hc _ (List.mem_cons_of_mem _ (List.mem_cons_self ..))
      simp only [decide_eq_true_eq] at h1 h2
      subst h1; subst h2
      first | exact (idx_loop l m v r hp).1 hb | exact (idx_loop l m v r hp).2 hb)

theorem index_pure (l : List Int) (v : Int) : PureCall Try.prog 39 [.one (.sl (.int .i64) l .shared), .one (.int .i64 v)] (.one (.int .i64 (idxI v l 0))) := by
  cases hf : idxFound l v with
  | true =>
    refine EIdx1.pure_ok (os := [true]) (cs := [decide ((0 : Int) = 0), decide ((l.length : Int) = l.length), idxFound l v == true]) (by kernel_rfl) ?_
    exact allTc (by simp) (allTc (by simp) (allT1 (by simp [hf])))
  | false =>
    have e : idxI v l 0 = -1 := idxI_none l 0 fun x hx he => by
      have : idxFound l v = true := by unfold idxFound; rw [List.any_eq_true]; exact ⟨x, hx, by simpa using he⟩
      rw [hf] at this; cases this
    rw [e]
    refine EIdx1.pure_ok (os := [false]) (cs := [decide ((0 : Int) = 0), decide ((l.length : Int) = l.length), idxFound l v == false]) (by kernel_rfl) ?_
    exact allTc (by simp) (allTc (by simp) (allT1 (by simp [hf])))
end Go.Proofs.Ytcigjehfmiiolaa
