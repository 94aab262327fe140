/- Put, of a part of an own array: its contract; no statement. -/
import Derived.Test.YtmbekpoelkcceaaRdp
set_option linter.unusedVariables false
set_option linter.unusedSimpArgs false
namespace Go.Proofs.Ytmbekpoelkcceaa
open Go Go.Eng

theorem putm_heap (i t bi bt : Int) (off n : Nat) (bm : List Int) (x y : List rEntry.den) (hn : off + n ≤ y.length) (W : WellC bi bt x i t (cutL off n y)) :
    HeapCall Try.prog 12 [.one (.ptr 0 0), vU i, vU t, .one (.msl rEntry 1 off n)] [logC bi bt bm x, .arr rEntry y] (.tup [(false, [.int .u64 (i + ((n : Nat) : Int))]), (false, [.int .u64 0]), (false, [.bool true])]) [logC bi bt bm x, .arr rEntry y] := by
  have hi := W.hi; have hl : n ≤ 900 := by have := W.hl; rw [cutL_len hn] at this; exact this
  have q0 : decide (off + n ≤ y.length) = true := decide_eq_true hn
  have q1 : ok (WellC bi bt x i t (cutL off n y)) = true := ok_of W
  have q2 : ok (∃ i t, WellC bi bt x i t (cutL off n y)) = true := ok_of ⟨i, t, W⟩
  have q3 : decide ((0 : Int) = 0 ∧ (0 : Int) = 0 ∧ false = false ∧ ((n : Nat) : Int) = ((n : Nat) : Int) ∧ true = true ∧ off = off ∧ n = n) = true := decide_eq_true ⟨rfl, rfl, rfl, rfl, rfl, rfl, rfl⟩
  have wl : IntKind.u64.wrap ((n : Nat) : Int) = ((n : Nat) : Int) := wrapU64 (by omega) (by omega)
  have w2 : IntKind.u64.wrap (i + ((n : Nat) : Int)) = i + ((n : Nat) : Int) := wrapU64 (by omega) (by omega)
  have key := EPlM.heap_ok (f := 12) (args := [.one (.ptr 0 0), vU i, vU t, .one (.msl rEntry 1 off n)]) (hp := [logC bi bt bm x, .arr rEntry y]) (os := [false, false, false, false, false, false, false, false]) (r := (.tup [(false, [(.int .u64 (IntKind.u64.wrap (i + IntKind.u64.wrap ((n : Nat) : Int))))]), (false, [(.int .u64 (0))]), (false, [(.bool true)])])) (hp' := [logC bi bt bm x, .arr rEntry y]) (cs := [(decide ((0 : Int) = 0 ∧ (0 : Int) = 0 ∧ false = false ∧ ((n : Nat) : Int) = ((n : Nat) : Int) ∧ true = true ∧ off = off ∧ n = n)), (decide (off + n ≤ y.length)), (ok (∃ i t, WellC bi bt x i t (cutL off n y))), ((!true) == false), true, (decide (off + n ≤ y.length)), (ok (WellC bi bt x i t (cutL off n y))), ((!true) == false), (false == false), (false == false), (false == false), (false == false), (false == false), (false == false)]) (by kernel_rfl) (allI (by simp only [↓q0, ↓q1, ↓q2, ↓q3]; rfl))
  rw [wl, w2] at key
  exact key
noncomputable def EPmC (E : Env Try.prog) : Env Try.prog := E.addHK 12 (fun args => match args with | [.one (.ptr i 0), _, _, .one (.msl _ j _ _)] => [i, j] | _ => [])
  (fun args hp os => match args, hp with
    | [.one (.ptr 0 0), .one (.int .u64 i), .one (.int .u64 t), .one (.msl r1 1 off n)], [.cells [.int .u64 bi, .int .u64 bt, .sl (.int .i64) bm .shared, .sl r2 l2 .shared, .bool mk], .arr r3 l3] =>
      match asE r2 l2, asE r3 l3 with
      | some x, some y => if r1.eqb rEntry = true then retC (.tup [(false, [.int .u64 (i + ((n : Nat) : Int))]), (false, [.int .u64 0]), (false, [.bool true])], [logC bi bt bm x, .arr rEntry y]) [mk, decide (off + n ≤ y.length), ok (WellC bi bt x i t (cutL off n y))] os else none
      | _, _ => none
    | _, _ => none)
  (fun args hp os r hp' cs os' h hc => by
    split at h
    · rename_i i t r1 off n bi bt bm r2 l2 mk r3 l3
      split at h
      · rename_i x y e2 e3
        split at h
        · rename_i er
          have er := CT.eq_of_eqb _ _ er
          subst er
          obtain ⟨rfl, e2⟩ := asE_eq e2
          obtain ⟨rfl, e3⟩ := asE_eq e3
          subst e2; subst e3
          simp only [retC, Option.some.injEq, Prod.mk.injEq] at h
          obtain ⟨⟨rfl, rfl⟩, rfl, rfl⟩ := h
          obtain ⟨h1, hc⟩ := of_allTc hc
          obtain ⟨h2, hc⟩ := of_allTc hc
          obtain ⟨h3, _⟩ := of_allTc hc
          subst h1
          exact putm_heap _ _ _ _ _ _ _ _ _ (of_decide_eq_true h2) (of_ok h3)
        · cases h
      · cases h
    · cases h)
end Go.Proofs.Ytmbekpoelkcceaa
