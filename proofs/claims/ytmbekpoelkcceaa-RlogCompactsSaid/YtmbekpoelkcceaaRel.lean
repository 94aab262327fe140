/- RlogCompacts: what its run calls; no statement. -/
import Derived.Test.YtmbekpoelkcceaaRek
set_option linter.unusedVariables false
set_option linter.unusedSimpArgs false
namespace Go.Proofs.Ytmbekpoelkcceaa
open Go Go.Eng

def asP (r : CT) (l : List r.den) : Option (List rPc.den) := if h : r.eqb rPc = true then some (castL r rPc h l) else none
theorem asP_eq {r : CT} {l : List r.den} {x : List rPc.den} (h : asP r l = some x) : r = rPc ∧ HEq l x := by
  unfold asP at h
  split at h
  · rename_i h1
    have e := CT.eq_of_eqb _ _ h1
    subst e
    injection h with h
    exact ⟨rfl, heq_of_eq h⟩
  · cases h
/-- A log and what is left of it behind a place. -/
structure CpOk (A B : List rEntry.den) (L : Nat) (n T : Int) (M : List Int) : Prop where
  ex : ∃ (g : List Int) (k : Nat), (∀ x ∈ g, (0 : Int) ≤ x) ∧ L ≤ 40 ∧ 0 < L ∧ k ≤ L ∧ n = k ∧ A = comA g L ∧ B = (comA g L).drop k ∧ T = tmC g k ∧ M = memC k [] (comA g L)

noncomputable def EWk2 : Env Try.prog := EAll.addT1 8 [] (fun _ => vB true) (fun _ => []) fun _ _ => works_pure
/-- A leader's list as an own array, its first entry apart. -/
abbrev ldC (g : List Int) : List rEntry.den := ldEnt 40 g false 0 :: (ldTo 40 g false (ldLen g)).drop 1
abbrev CB (g : List Int) : List rEntry.den := hdE (ldEnt 40 g false 0) :: (ldTo 40 g false (ldLen g)).drop 1
theorem ldC_eq {g : List Int} (h : 0 < ldLen g) : ldTo 40 g false (ldLen g) = ldC g := by
  have e := ldTo_drop (n := 40) (g := g) (ev := false) (k := ldLen g) (i := 0) h
  rw [List.drop_zero] at e
  exact e
theorem CB_eq {g : List Int} (h : 0 < ldLen g) : CB g = comA g (ldLen g) := by
  have e := drop_cons (x := comA g (ldLen g)) (k := 0) (by rw [comA_len]; omega)
  rw [List.drop_zero, comA_get h, if_pos rfl, comA_drop (by omega)] at e
  exact e.symm
noncomputable def ELdC (E : Env Try.prog) : Env Try.prog := E.addHF 9 (fun _ _ => [])
  (fun args hp os => match args, hp with
    | [.one (.int .i64 n), .one (.sl (.int .u8) g .shared), .one (.int .u64 ev)], [] => retC (.one (.msl rEntry 0 0 (ldLen g)), [.arr rEntry (ldC g)]) [decide (n = 40), decide (ev = 0), g.all isByte, decide (0 < ldLen g)] os
    | _, _ => none)
  (fun args hp os r hp' cs os' h hc => by
    split at h
    · rename_i n g ev
      simp only [retC, Option.some.injEq, Prod.mk.injEq] at h
      obtain ⟨⟨rfl, rfl⟩, rfl, rfl⟩ := h
      obtain ⟨h1, hc⟩ := of_allTc hc
      obtain ⟨h2, hc⟩ := of_allTc hc
      obtain ⟨h3, hc⟩ := of_allTc hc
      obtain ⟨h4, _⟩ := of_allTc hc
      have h1 := of_decide_eq_true h1
      have h2 := of_decide_eq_true h2
      have h4 := of_decide_eq_true h4
      subst h1; subst h2
      rw [← ldC_eq h4]
      exact ledm_heap 40 g 0 (by omega) (.inl rfl) h3 h4
    · cases h)
noncomputable def ECp1 : Env Try.prog := (ECoC (ENwM (ELdC (ECpC EWk2)))).addL 5 15 lCp_eq 208 [12, 6] [2, 7, 8, 10] (by kernel_rfl)
  (fun vals rov hp os => match vals, rov, hp with
    | [.one (.int .i64 z), .one (.bool b)], [.one (.sl r1 l1 .shared), .one (.msl r0 0 0 L), .one (.ptr 2 0), .one (.ptr 3 0)], [.arr r2 l2, .cells [.int .u64 b0, .int .u64 b1, .nils], .cells [.int .u64 c0, .int .u64 c1, .sl (.int .i64) [] .shared, .sl r3 l3 .shared, .bool mk], .cells [.int .u64 n, .int .u64 T, .sl (.int .i64) M .shared, .sl r4 l4 .shared, .bool mk2]] =>
      match asP r1 l1, asE r2 l2, asE r3 l3, asE r4 l4 with
      | some l, some A, some A2, some B => if r0.eqb rEntry = true then retC (.exit 0, [vX, vB false], [.arr rEntry A, baB, logC 0 0 [] A, logC n T M B]) [decide (z = 0 ∧ b = false ∧ b0 = 0 ∧ b1 = 0 ∧ c0 = 0 ∧ c1 = 0), mk, mk2, l.all pcB, ok (A2 = A ∧ CpOk A B L n T M)] os else none
      | _, _, _, _ => none
    | _, _, _ => none)
  (fun vals rov hp os e outs hp' cs os' h hc => by
    split at h
    · rename_i z b r1 l1 r0 L r2 l2 b0 b1 c0 c1 r3 l3 mk n T M r4 l4 mk2
      split at h
      · rename_i l A A2 B e1 e2 e3 e4
        split at h
        · rename_i er
          have er := CT.eq_of_eqb _ _ er
          subst er
          obtain ⟨rfl, e1⟩ := asP_eq e1
          obtain ⟨rfl, e2⟩ := asE_eq e2
          obtain ⟨rfl, e3⟩ := asE_eq e3
          obtain ⟨rfl, e4⟩ := asE_eq e4
          subst e1; subst e2; subst e3; subst e4
          simp only [retC, Option.some.injEq, Prod.mk.injEq] at h
          obtain ⟨⟨rfl, rfl, rfl⟩, rfl, rfl⟩ := h
          obtain ⟨h1, hc⟩ := of_allTc hc
          obtain ⟨h2, hc⟩ := of_allTc hc
          obtain ⟨h3, hc⟩ := of_allTc hc
          obtain ⟨h4, hc⟩ := of_allTc hc
          obtain ⟨h5, _⟩ := of_allTc hc
          obtain ⟨rfl, rfl, rfl, rfl, rfl, rfl⟩ := of_decide_eq_true h1
          subst h2; subst h3
          obtain ⟨e, ⟨g, k, g1, g2, g3, g4, rfl, g5, g6, g7, g8⟩⟩ := of_ok h5
          subst e
          exact cp_loop _ h4 g g1 _ _ g2 g4 _ _ _ _ g5 g6 g7
        · cases h
      · cases h
    · cases h)
noncomputable def ECp2 : Env Try.prog := ECp1.addL 5 25 lCq_eq 208 [23, 6] [7, 8, 10, 11] (by kernel_rfl)
  (fun vals rov hp os => match vals, rov, hp with
    | [.one (.int .u64 z), .one (.bool b)], [.one (.msl r0 0 0 L), .one (.ptr 2 0), .one (.ptr 3 0), .one (.int .u64 n2)], [.arr r2 l2, .cells [.int .u64 b0, .int .u64 b1, .nils], .cells [.int .u64 c0, .int .u64 c1, .sl (.int .i64) [] .shared, .sl r3 l3 .shared, .bool mk], .cells [.int .u64 n, .int .u64 T, .sl (.int .i64) M .shared, .sl r4 l4 .shared, .bool mk2]] =>
      match asE r2 l2, asE r3 l3, asE r4 l4 with
      | some A, some A2, some B => if r0.eqb rEntry = true then retC (.exit 2, [vX, vB false], [.arr rEntry A, baB, logC 0 0 [] A, logC n T M B]) [decide (z = n ∧ n2 = n ∧ b = false ∧ b0 = 0 ∧ b1 = 0 ∧ c0 = 0 ∧ c1 = 0), mk, mk2, ok (A2 = A ∧ CpOk A B L n T M)] os else none
      | _, _, _ => none
    | _, _, _ => none)
  (fun vals rov hp os e outs hp' cs os' h hc => by
    split at h
    · rename_i z b r0 L n2 r2 l2 b0 b1 c0 c1 r3 l3 mk n T M r4 l4 mk2
      split at h
      · rename_i A A2 B e2 e3 e4
        split at h
        · rename_i er
          have er := CT.eq_of_eqb _ _ er
          subst er
          obtain ⟨rfl, e2⟩ := asE_eq e2
          obtain ⟨rfl, e3⟩ := asE_eq e3
          obtain ⟨rfl, e4⟩ := asE_eq e4
          subst e2; subst e3; subst e4
          simp only [retC, Option.some.injEq, Prod.mk.injEq] at h
          obtain ⟨⟨rfl, rfl, rfl⟩, rfl, rfl⟩ := h
          obtain ⟨h1, hc⟩ := of_allTc hc
          obtain ⟨h2, hc⟩ := of_allTc hc
          obtain ⟨h3, hc⟩ := of_allTc hc
          obtain ⟨h5, _⟩ := of_allTc hc
          obtain ⟨h0, rfl, rfl, rfl, rfl, rfl, rfl⟩ := of_decide_eq_true h1
          subst h2; subst h3
          obtain ⟨e, ⟨g, k, g1, g2, g3, g4, rfl, g5, g6, g7, g8⟩⟩ := of_ok h5
          subst e; subst h0
          exact cq_loop g _ _ g2 g3 g4 _ _ _ _ g5 g6 g7 g8
        · cases h
      · cases h
    · cases h)
end Go.Proofs.Ytmbekpoelkcceaa
