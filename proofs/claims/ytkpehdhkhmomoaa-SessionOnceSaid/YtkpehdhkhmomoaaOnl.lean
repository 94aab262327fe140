/- SessionOnce, its run; no statement. -/
import Derived.Test.YtkpehdhkhmomoaaOn
set_option linter.unusedVariables false
namespace Go.Proofs.Ytkpehdhkhmomoaa
open Go Go.Eng

def bytesOk (l : List Int) : Bool := l.all fun x => decide (0 ≤ x ∧ x < 256)
def allF : List AC → Bool
  | [] => true
  | .bool b :: r => !b && allF r
  | _ => false
def allZ : List AC → Bool
  | [] => true
  | .int .u64 n :: r => decide (n = 0) && allZ r
  | _ => false
theorem allF_eq : ∀ (l : List AC), allF l = true → l = List.replicate l.length (.bool false)
  | [], _ => rfl
  | c :: r, h => by
    unfold allF at h
    split at h
    · rename_i e; cases e
    · rename_i b r' e
      injection e with e1 e2
      subst e1; subst e2
      simp only [Bool.and_eq_true, Bool.not_eq_true'] at h
      rw [h.1, List.length_cons, List.replicate_succ, ← allF_eq _ h.2]
    · cases h
theorem allZ_eq : ∀ (l : List AC), allZ l = true → l = List.replicate l.length (.int .u64 0)
  | [], _ => rfl
  | c :: r, h => by
    unfold allZ at h
    split at h
    · rename_i e; cases e
    · rename_i b r' e
      injection e with e1 e2
      subst e1; subst e2
      simp only [Bool.and_eq_true, decide_eq_true_eq] at h
      rw [h.1, List.length_cons, List.replicate_succ, ← allZ_eq _ h.2]
    · cases h
def oStart : OSt := (0, 0, fun _ => false, fun _ => 0)
def oEnd (l : List Int) : OSt := ofin l 60 oStart
noncomputable def EOn : Env Try.prog := ELo.addL 4 6 lOn_eq 119 [7, 3, 6] [0, 4, 5] (by kernel_rfl)
  (fun vals rov hp os => match vals, rov, hp with
    | [.one (.int .i64 i), .one (.str s), .one (.int .i64 t)], [.one (.sl (.int .u8) l .shared), .one (.ptr 0 0), .one (.ptr 1 0)], [.cells c1, .cells c2] =>
      retC (.exit 0, [vX, vX, vX], ohp (oEnd l).2.2.1 (oEnd l).2.2.2) [decide (i = 0), decide (s.size = 0), decide (t = 0), allF c1, allZ c2, decide (c1.length = 16), decide (c2.length = 16), bytesOk l] os
    | _, _, _ => none)
  (fun vals rov hp os e outs hp' cs os' h hc => by
    split at h
    · rename_i i s t l c1 c2
      simp only [retC, Option.some.injEq, Prod.mk.injEq] at h
      obtain ⟨⟨rfl, rfl, rfl⟩, rfl, rfl⟩ := h
      obtain ⟨h1, hc⟩ := of_allTc hc
      obtain ⟨h2, hc⟩ := of_allTc hc
      obtain ⟨h3, hc⟩ := of_allTc hc
      obtain ⟨h4, hc⟩ := of_allTc hc
      obtain ⟨h5, hc⟩ := of_allTc hc
      obtain ⟨h6, hc⟩ := of_allTc hc
      obtain ⟨h7, hc⟩ := of_allTc hc
      obtain ⟨h8, _⟩ := of_allTc hc
      simp only [decide_eq_true_eq] at h1 h2 h3 h6 h7
      have e1 := allF_eq _ h4
      have e2 := allZ_eq _ h5
      rw [h6] at e1
      rw [h7] at e2
      subst h1; subst h3; subst e1; subst e2
      rw [emp h2]
      have hl : ∀ x ∈ l, 0 ≤ x ∧ x < 256 := fun x hx => of_decide_eq_true (List.all_eq_true.1 h8 x hx)
      exact once_loop l hl oStart (oEnd l) (OInv.mk (by decide) (by decide) (fun k hk => absurd hk (by simp [oStart])) (fun h => absurd h (by simp [oStart])) rfl)
    · cases h)
abbrev sLb : List PT := [.one (.sl cB)]
theorem bytesOk_of {l : List Int} (h : WFs sLb (l, ())) : bytesOk l = true := by
  refine List.all_eq_true.2 fun x hx => decide_eq_true ?_
  have h1 : (0 : Int) ≤ x ∧ x ≤ 255 := h.1.2 x hx
  omega
theorem once_law (d : dens sLb) (h : WFs sLb d) : PureCall Try.prog 4 (encs sLb d) (vB true) := by
  obtain ⟨l, _⟩ := d
  have hb := bytesOk_of h
  show PureCall Try.prog _ [.one (.sl cB l .shared)] _
  exact EOn.pure_ok (os := []) (cs := [decide ((0 : Int) = 0), decide ((ByteArray.mk #[]).size = 0), decide ((0 : Int) = 0), allF (List.replicate 16 (.bool false)), allZ (List.replicate 16 (.int .u64 0)), decide (16 = 16), decide (16 = 16), bytesOk l]) (by kernel_rfl) (allI (by rw [hb]; rfl))
end Go.Proofs.Ytkpehdhkhmomoaa
