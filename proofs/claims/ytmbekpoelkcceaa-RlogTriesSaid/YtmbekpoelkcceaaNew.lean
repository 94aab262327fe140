/- New, Put: their contracts in use; no statement. -/
import Derived.Test.YtmbekpoelkcceaaPch
set_option linter.unusedVariables false
set_option linter.unusedSimpArgs false
namespace Go.Proofs.Ytmbekpoelkcceaa
open Go Go.Eng

/-- Less is known of the log's array. -/
theorem dull_heap {P : Program} {f : Nat} {args : List AV} {hp : List AB} {r : AV} {x : List rEntry.den} {m : SM} (h : HeapCall P f args hp r [baB, logB x m]) : HeapCall P f args hp r [baB, logB x .shared] :=
  ⟨h.1, fun X vs hX hH hv => (h.2 X vs hX hH hv).mono fun e w' ⟨val, X', h1, h2, h3, h4, h5, h6⟩ => by
    have hb : X'.H 1 = some (logB x m) := by rw [h5]; rfl
    have hle := setH_le (b := logB x .shared) hb rfl rfl (fun _ _ e => by cases e)
    refine ⟨val, X'.setH 1 (logB x .shared), h1, h2, h3.trans hle, setH_rel hb rfl rfl h4 (fun _ _ e => by cases e) ?_, ?_, VR.mono hle _ _ h6⟩
    · obtain ⟨c, t, g1, g2⟩ := h4.blk 1 _ hb
      refine ⟨c, t, g1, g2.1, fun j d y hd hy => ?_⟩
      match j, hd with
      | 0, hd => exact VRc.mono hle _ _ (g2.2 0 d y hd hy)
      | 1, hd => exact VRc.mono hle _ _ (g2.2 1 d y hd hy)
      | 2, hd => exact VRc.mono hle _ _ (g2.2 2 d y hd hy)
      | 3, hd =>
        have h0 := VRc.mono hle _ _ (g2.2 3 (.sl rEntry x m) y rfl hy)
        simp only [List.getElem?_cons_succ, List.getElem?_cons_zero, Option.some.injEq] at hd
        subst hd
        obtain ⟨A, n, cap, k1, k2, k3, k4, k5, _⟩ := h0
        exact ⟨A, n, cap, k1, k2, k3, k4, k5, trivial⟩
      | 4, hd => exact VRc.mono hle _ _ (g2.2 4 d y hd hy)
      | j + 5, hd => simp at hd
    · funext i
      simp only [Ctx.setH, upd, h5]
      match i with
      | 0 => rfl
      | 1 => rfl
      | i + 2 => rfl⟩

theorem new_heap (l : List rEntry.den) (hl : l.length ≤ 1000) (hf : folW 0 0 l = true) (he : l.all entFits = true) :
    HeapCall Try.prog 10 [.agg [.int .u64 0, .int .u64 0, .nils], vL rEntry l] [] (.tup [(false, [.ptr 1 0]), (false, [.int .i64 0])]) [baB, logB l .shared] := by
  have z : Nat.ble (l.length * 264) 140737488355328 = true := by rw [Nat.ble_eq]; omega
  exact dull_heap (m := .full) (ESam.heap_trim 2 (os := [true, true, true, true, true, true, true, true, true, true, true, true, true, true, true, true, true, false, false, false, false, false, false, false, false, false]) (r := (.tup [(false, [(.ptr 1 0)]), (false, [(.int .i64 (0))])])) (hp' := [(.cells [(.int .u64 (0)), (.int .u64 (0)), .nils]), (.cells [(.int .u64 (0)), (.int .u64 (0)), (.sl (.int .i64) [] .shared), (.sl (.pair (.int .u64) (.pair (.int .u64) (.pair (.int .i64) (.pair (.pair (.int .i64) (.pair (.int .i64) (.pair (.int .u64) (.pair (.int .u64) (.pair (.pair (.int .i64) (.pair .str (.pair .str (.pair .str (.pair .bool (.pair .str .unit)))))) (.pair (.int .u64) (.pair (.int .i64) (.pair .str (.pair .str (.pair (.int .i64) (.pair (.pair .bool (.pair (.int .i64) (.pair .str (.pair (.int .i64) (.pair (.int .i64) .unit))))) .unit))))))))))) (.pair (.sl (.int .i64)) .unit))))) l .full), (.bool true)])]) (cs := [((l.length * 264).ble 140737488355328), (l.all entFits), true, true, ((!folW 0 0 l) == false), ((!true) == false), ((!true) == false), ((!true) == false), ((!true) == false), ((!true) == false), ((!true) == false), ((!true) == false), ((!true) == false), ((0 == 0) == true), ((0 == 0) == true), ((0 == 0) == true), ((0 == 0) == true), ((0 == 0) == true), ((0 == 0) == true), ((0 == 0) == true), ((0 == 0) == true), ((0 == 0) == true), ((0 == 0) == true), ((0 == 0) == true), ((0 == 0) == true), ((0 == 0) == true), ((0 == 0) == true), ((0 == 0) == true), ((0 == 0) == true), ((0 == 0) == true)]) (by kernel_rfl) (allI (by simp only [hf, he, z]; rfl)) (by simp) (by simp [idsV, idsC]) rfl (by simp [idsB, idsC]))

theorem HeapCall.nils {P : Program} {f : Nat} {a : AV} {hp : List AB} {r : AV} {hp' : List AB} (h : HeapCall P f [a, vL rEntry []] hp r hp') : HeapCall P f [a, .one .nils] hp r hp' :=
  ⟨h.1, fun X vs hX hH hv => h.2 X vs hX hH ⟨hv.1, fun j c y hc hy => by
    match j, hc with
    | 0, hc => exact hv.2 0 c y hc hy
    | 1, hc =>
      simp only [List.getElem?_cons_succ, List.getElem?_cons_zero, Option.some.injEq] at hc
      subst hc
      have := hv.2 1 (.one .nils) y rfl hy
      exact ⟨none, 0, 0, this, rfl, Nat.le_refl _, Nat.zero_le _, .inl rfl, trivial⟩
    | j + 2, hc => simp at hc⟩⟩

/-- The two blocks that New makes. -/
def sel2 (args : List AV) (_ : List AB) : List Nat := match args with
  | .one (.ptr (i + 1) _) :: _ => [i, i + 1]
  | _ => []
noncomputable def EPut : Env Try.prog := (ESam.addHF 10 (fun _ _ => [])
  (fun args hp os => match args, hp with
    | [.agg [.int .u64 b0, .int .u64 b1, .nils], .one (.sl r1 l1 .shared)], [] =>
      match asE r1 l1 with
      | some l => retC (.tup [(false, [.ptr 1 0]), (false, [.int .i64 0])], [baB, logB l .shared]) [decide (b0 = 0 ∧ b1 = 0), decide (l.length ≤ 1000), folW 0 0 l, l.all entFits] os
      | _ => none
    | [.agg [.int .u64 b0, .int .u64 b1, .nils], .one .nils], [] => retC (.tup [(false, [.ptr 1 0]), (false, [.int .i64 0])], [baB, logB [] .shared]) [decide (b0 = 0 ∧ b1 = 0)] os
    | _, _ => none)
  (fun args hp os r hp' cs os' h hc => by
    split at h
    · rename_i b0 b1 r1 l1
      split at h
      · rename_i l e1
        obtain ⟨rfl, e1⟩ := asE_eq e1
        subst e1
        simp only [retC, Option.some.injEq, Prod.mk.injEq] at h
        obtain ⟨⟨rfl, rfl⟩, rfl, rfl⟩ := h
        obtain ⟨h1, hc⟩ := of_allTc hc
        obtain ⟨h2, hc⟩ := of_allTc hc
        obtain ⟨h3, hc⟩ := of_allTc hc
        obtain ⟨h4, _⟩ := of_allTc hc
        obtain ⟨rfl, rfl⟩ := of_decide_eq_true h1
        exact new_heap _ (of_decide_eq_true h2) h3 h4
      · cases h
    · rename_i b0 b1
      simp only [retC, Option.some.injEq, Prod.mk.injEq] at h
      obtain ⟨⟨rfl, rfl⟩, rfl, rfl⟩ := h
      obtain ⟨rfl, rfl⟩ := of_decide_eq_true (of_allTc hc).1
      exact HeapCall.nils (new_heap [] (Nat.zero_le _) rfl rfl)
    · cases h)).addHF 12 sel2
  (fun args hp os => match args, hp with
    | [.one (.ptr 1 0), .one (.int .u64 i), .one (.int .u64 t), .one (.sl r1 l1 .shared)], [.cells [.int .u64 b0, .int .u64 b1, .nils], .cells [.int .u64 b2, .int .u64 b3, .sl (.int .i64) [] .shared, .sl r3 x3 .shared, .bool mk]] =>
      match asE r1 l1, asE r3 x3 with
      | some l, some x => retC (.tup [(false, [.int .u64 (putR i t l x).1]), (false, [.int .u64 (putR i t l x).2.1]), (false, [.bool (putR i t l x).2.2])], [baB, logB (putX i t l x) .shared]) [decide (b0 = 0 ∧ b1 = 0 ∧ b2 = 0 ∧ b3 = 0 ∧ mk = true), ok ((0 ≤ i ∧ i ≤ 2000) ∧ x.length ≤ 1000 ∧ ((folW i t l && hasT x i t) = true → ∃ j, PutOk j x l))] os
      | _, _ => none
    | _, _ => none)
  (fun args hp os r hp' cs os' h hc => by
    split at h
    · rename_i i t r1 l1 b0 b1 b2 b3 r3 x3 mk
      split at h
      · rename_i l x e1 e3
        obtain ⟨rfl, e1⟩ := asE_eq e1
        obtain ⟨rfl, e3⟩ := asE_eq e3
        subst e1; subst e3
        simp only [retC, Option.some.injEq, Prod.mk.injEq] at h
        obtain ⟨⟨rfl, rfl⟩, rfl, rfl⟩ := h
        obtain ⟨h1, hc⟩ := of_allTc hc
        obtain ⟨h2, _⟩ := of_allTc hc
        obtain ⟨rfl, rfl, rfl, rfl, rfl⟩ := of_decide_eq_true h1
        obtain ⟨g1, g2, g3⟩ := of_ok h2
        exact put_heap i t _ _ g1 g2 g3
      · cases h
    · cases h)
end Go.Proofs.Ytmbekpoelkcceaa
