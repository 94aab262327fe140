/- RlogCompacts: what its run over an empty log calls; no statement. -/
import Derived.Test.YtmbekpoelkcceaaRen
set_option linter.unusedVariables false
set_option linter.unusedSimpArgs false
namespace Go.Proofs.Ytmbekpoelkcceaa
open Go Go.Eng

noncomputable def ELd0 (E : Env Try.prog) : Env Try.prog := E.addT1 9 [.one cI, .one (.sl cB), .one cU] (fun d => vL rEntry []) (fun d => [decide (d.1 = 40), ok (d.2.1 = []), decide (d.2.2.1 = 0)])
  fun d hc => by
    obtain ⟨n, g, ev, u⟩ := d
    obtain ⟨h1, hc⟩ := of_allTc hc
    obtain ⟨h2, hc⟩ := of_allTc hc
    obtain ⟨h3, _⟩ := of_allTc hc
    have e1 : n = 40 := of_decide_eq_true h1
    have e2 : g = [] := of_ok h2
    have e3 : ev = 0 := of_decide_eq_true h3
    subst e1; subst e3
    rw [e2]
    exact led_pure 40 [] 0 (by omega) (.inl rfl) rfl
theorem new0_heap : HeapCall Try.prog 10 [.agg [.int .u64 0, .int .u64 0, .nils], vL rEntry []] [] (.tup [(false, [.ptr 1 0]), (false, [.int .i64 0])]) [baB, logC 0 0 [] []] :=
  dullAt 1 (m := .full) (EFol.heap_ok (os := [true, true, true, true, true, true, true, true, true, true, true, true, true, true, true, true, true, false, false, false, false, false, false, false, false, false]) (r := .tup [(false, [.ptr 1 0]), (false, [.int .i64 0])]) (hp' := [baB, logM 0 0 [] [] .full]) (cs := [true, true, true, true, ((!true) == false), ((!true) == false), ((!true) == false), ((!true) == false), ((!true) == false), ((!true) == false), ((!true) == false), ((!true) == false), ((!true) == false), ((0 == 0) == true), ((0 == 0) == true), ((0 == 0) == true), ((0 == 0) == true), ((0 == 0) == true), ((0 == 0) == true), ((0 == 0) == true), ((0 == 0) == true), ((0 == 0) == true), ((0 == 0) == true), ((0 == 0) == true), ((0 == 0) == true), ((0 == 0) == true), ((0 == 0) == true), ((0 == 0) == true), ((0 == 0) == true), ((0 == 0) == true)]) (by kernel_rfl) (allI (by kernel_rfl))) rfl
noncomputable def ENw0 (E : Env Try.prog) : Env Try.prog := E.addHF 10 (fun _ _ => [])
  (fun args hp os => match args, hp with
    | [.agg [.int .u64 b0, .int .u64 b1, .nils], .one (.sl r1 [] .shared)], [] => if r1.eqb rEntry = true then retC (.tup [(false, [.ptr 1 0]), (false, [.int .i64 0])], [baB, logC 0 0 [] []]) [decide (b0 = 0 ∧ b1 = 0)] os else none
    | _, _ => none)
  (fun args hp os r hp' cs os' h hc => by
    split at h
    · rename_i b0 b1 r1
      split at h
      · rename_i er
        have er := CT.eq_of_eqb _ _ er
        subst er
        simp only [retC, Option.some.injEq, Prod.mk.injEq] at h
        obtain ⟨⟨rfl, rfl⟩, rfl, rfl⟩ := h
        obtain ⟨h1, _⟩ := of_allTc hc
        obtain ⟨rfl, rfl⟩ := of_decide_eq_true h1
        exact new0_heap
      · cases h
    · cases h)
noncomputable def ECp3 : Env Try.prog := (ECoC (ENw0 (ECpC (ELd0 EWk2)))).addL 5 15 lCp_eq 208 [12, 6] [2, 7, 8, 10] (by kernel_rfl)
  (fun vals rov hp os => match vals, rov, hp with
    | [.one (.int .i64 z), .one (.bool b)], [.one (.sl r1 l1 .shared), .one (.sl r0 [] .shared), .one (.ptr 1 0), .one (.ptr 2 0)], [.cells [.int .u64 b0, .int .u64 b1, .nils], .cells [.int .u64 c0, .int .u64 c1, .sl (.int .i64) [] .shared, .sl r3 [] .shared, .bool mk], .cells [.int .u64 n, .int .u64 T, .sl (.int .i64) M .shared, .sl r4 l4 .shared, .bool mk2]] =>
      match asP r1 l1, asE r4 l4 with
      | some l, some B => if r0.eqb rEntry = true then if r3.eqb rEntry = true then retC (.exit 0, [vX, vB false], [baB, logC 0 0 [] [], logC 0 0 [] []]) [decide (z = 0 ∧ b = false ∧ b0 = 0 ∧ b1 = 0 ∧ c0 = 0 ∧ c1 = 0), mk, mk2, l.all pcB, ok (n = 0 ∧ T = 0 ∧ M = [] ∧ B = [])] os else none else none
      | _, _ => none
    | _, _, _ => none)
  (fun vals rov hp os e outs hp' cs os' h hc => by
    split at h
    · rename_i z b r1 l1 r0 b0 b1 c0 c1 r3 mk n T M r4 l4 mk2
      split at h
      · rename_i l B e1 e4
        split at h
        · rename_i er
          have er := CT.eq_of_eqb _ _ er
          subst er
          split at h
          · rename_i er
            have er := CT.eq_of_eqb _ _ er
            subst er
            obtain ⟨rfl, e1⟩ := asP_eq e1
            obtain ⟨rfl, e4⟩ := asE_eq e4
            subst e1; subst e4
            simp only [retC, Option.some.injEq, Prod.mk.injEq] at h
            obtain ⟨⟨rfl, rfl, rfl⟩, rfl, rfl⟩ := h
            obtain ⟨h1, hc⟩ := of_allTc hc
            obtain ⟨h2, hc⟩ := of_allTc hc
            obtain ⟨h3, hc⟩ := of_allTc hc
            obtain ⟨h4, hc⟩ := of_allTc hc
            obtain ⟨h5, _⟩ := of_allTc hc
            obtain ⟨rfl, rfl, rfl, rfl, rfl, rfl⟩ := of_decide_eq_true h1
            subst h2; subst h3
            obtain ⟨rfl, rfl, rfl, rfl⟩ := of_ok h5
            exact cp_loop0 _ h4 [] rfl
          · cases h
        · cases h
      · cases h
    · cases h)
noncomputable def ECp4 : Env Try.prog := ECp3.addL 5 25 lCq_eq 208 [23, 6] [7, 8, 10, 11] (by kernel_rfl)
  (fun vals rov hp os => match vals, rov, hp with
    | [.one (.int .u64 z), .one (.bool b)], [.one (.sl r0 [] .shared), .one (.ptr 1 0), .one (.ptr 2 0), .one (.int .u64 n2)], [.cells [.int .u64 b0, .int .u64 b1, .nils], .cells [.int .u64 c0, .int .u64 c1, .sl (.int .i64) [] .shared, .sl r3 [] .shared, .bool mk], .cells [.int .u64 n, .int .u64 T, .sl (.int .i64) [] .shared, .sl r4 [] .shared, .bool mk2]] =>
      if r0.eqb rEntry = true then if r3.eqb rEntry = true then if r4.eqb rEntry = true then retC (.exit 2, [vX, vB false], [baB, logC 0 0 [] [], logC 0 0 [] []]) [ok (z = 0 ∧ n2 = 0), decide (b = false ∧ b0 = 0 ∧ b1 = 0 ∧ c0 = 0 ∧ c1 = 0 ∧ n = 0 ∧ T = 0), mk, mk2] os else none else none else none
    | _, _, _ => none)
  (fun vals rov hp os e outs hp' cs os' h hc => by
    split at h
    · rename_i z b r0 n2 b0 b1 c0 c1 r3 mk n T r4 mk2
      split at h
      · rename_i er
        have er := CT.eq_of_eqb _ _ er
        subst er
        split at h
        · rename_i er
          have er := CT.eq_of_eqb _ _ er
          subst er
          split at h
          · rename_i er
            have er := CT.eq_of_eqb _ _ er
            subst er
            simp only [retC, Option.some.injEq, Prod.mk.injEq] at h
            obtain ⟨⟨rfl, rfl, rfl⟩, rfl, rfl⟩ := h
            obtain ⟨h1, hc⟩ := of_allTc hc
            obtain ⟨h2, hc⟩ := of_allTc hc
            obtain ⟨h3, hc⟩ := of_allTc hc
            obtain ⟨h4, _⟩ := of_allTc hc
            obtain ⟨rfl, rfl⟩ := of_ok h1
            obtain ⟨rfl, rfl, rfl, rfl, rfl, rfl, rfl⟩ := of_decide_eq_true h2
            subst h3; subst h4
            exact cq_loop0
          · cases h
        · cases h
      · cases h
    · cases h)
end Go.Proofs.Ytmbekpoelkcceaa
