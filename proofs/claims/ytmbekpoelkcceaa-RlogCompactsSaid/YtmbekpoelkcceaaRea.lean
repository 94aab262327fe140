/- rlog.all, handed an own array; no statement. -/
import Derived.Test.YtmbekpoelkcceaaRdq
import Derived.Test.YtmbekpoelkcceaaEngZ15
set_option linter.unusedVariables false
namespace Go.Proofs.Ytmbekpoelkcceaa
open Go Go.Eng

theorem alm_loop (y l : List rEntry.den) (hl : l.length ≤ maxLen) (hf : ∀ e ∈ l, entFits e = true) (n : Nat) (hn : n = l.length) :
    LoopOk Try.prog lAll 26 [13] [3, 12] [vI 0] [.one (.asl rEntry 1 0 n n), vI n] [.arr rEntry y, .arr rEntry l] (.exit 0) [vX] [.arr rEntry y, .arr rEntry l] := by
  subst hn
  unfold maxLen at hl
  refine LoopOk.rounds (S := Nat) EClone lAll_eq (by kernel_rfl) (fun k => [vI k]) (fun _ => [.arr rEntry y, .arr rEntry l]) (fun k => k ≤ l.length) (fun k => l.length - k) 0 (by omega) ?_ (fun _ _ => rfl)
  intro k hk
  by_cases hlt : k < l.length
  · have hfk := hf _ (List.mem_of_getElem? (getD_get (d := rEntry.dflt) hlt))
    unfold entFits at hfk
    rw [Bool.and_eq_true] at hfk
    refine OneRound.goT [true] (vs := [vI (IntKind.i64.wrap (k + 1))]) (hp' := [.arr rEntry y, .arr rEntry (l.set (0 + k) (l.getD (0 + k) rEntry.dflt))])
      (cs := [inB k l.length, Nat.ble (List.length (l.getD (0 + k) rEntry.dflt).2.2.2.2.1 * 8) 140737488355328, Nat.ble (List.length (l.getD (0 + k) rEntry.dflt).2.2.2.2.1) maxLen, inB k l.length, decide ((k : Int) < l.length) == true])
      (fun rest => by kernel_rfl) ?_ (k + 1) (by omega) (by omega) ⟨.of_eq ?_, trivial⟩ ?_ ⟨by simp [idsV, idsC], by simp [idsB]⟩
    · rw [Nat.zero_add]
      exact allTc (inB_of (by omega) (by omega)) (allTc hfk.1 (allTc hfk.2 (allTc (inB_of (by omega) (by omega)) (allT1 (dT (by omega))))))
    · rw [wrap64 (by omega) (by omega)]; rfl
    · rw [set_getD]
  · exact OneRound.stopT [false] (vs := [vI k]) (hp' := [.arr rEntry y, .arr rEntry l]) (cs := [decide ((k : Int) < l.length) == false]) (fun rest => by kernel_rfl) (allT1 (dF (by omega))) (by simp) ⟨.unk, trivial⟩ rfl ⟨by simp [idsV, idsC], by simp [idsB]⟩

noncomputable def EAlm1 : Env Try.prog := EClone.addL 33 4 lAll_eq 26 [13] [3, 12] (by kernel_rfl)
  (fun vals rov hp os => match vals, rov, hp with
    | [.one (.int .i64 z)], [.one (.asl row i off n n'), .one (.int .i64 m)], [.arr rowy ly, .arr row' l] => if h : row'.eqb rEntry = true then if hy : rowy.eqb rEntry = true then if row.eqb rEntry then
        retC (.exit 0, [vX], [.arr rEntry (castL rowy rEntry hy ly), .arr rEntry (castL row' rEntry h l)]) [decide (z = 0), decide (i = 1 ∧ off = 0 ∧ n = n' ∧ m = n ∧ n = l.length ∧ n ≤ maxLen), (castL row' rEntry h l).all entFits] os
      else none else none else none
    | _, _, _ => none)
  (fun vals rov hp os e outs hp' cs os' h hc => by
    split at h
    · rename_i z row i off n n' m rowy ly row' l
      split at h
      · rename_i hr
        have er := CT.eq_of_eqb _ _ hr
        subst er
        split at h
        · rename_i hy
          have ey := CT.eq_of_eqb _ _ hy
          subst ey
          split at h
          · rename_i hr2
            have er2 := CT.eq_of_eqb _ _ hr2
            subst er2
            simp only [retC, Option.some.injEq, Prod.mk.injEq] at h
            obtain ⟨⟨rfl, rfl, rfl⟩, rfl, rfl⟩ := h
            obtain ⟨h1, hc⟩ := of_allTc hc
            obtain ⟨h2, hc⟩ := of_allTc hc
            obtain ⟨h3, _⟩ := of_allTc hc
            simp only [decide_eq_true_eq] at h1 h2
            obtain ⟨rfl, rfl, rfl, rfl, e, hm⟩ := h2
            subst h1
            exact alm_loop _ l (by omega) (fun x hx => List.all_eq_true.1 h3 x hx) n e
          · cases h
        · cases h
      · cases h
    · cases h)

end Go.Proofs.Ytmbekpoelkcceaa
