/- The document's Commit: its inner loop; quorum.Commit; no statement. -/
import Derived.Test.YtcigjehfmiiolaaQplain
set_option linter.unusedVariables false
namespace Go.Proofs.Ytcigjehfmiiolaa
open Go Go.Eng

noncomputable def lCin : Code := (theLoop Try.prog 12 7).getD .skip
theorem lCin_eq : theLoop Try.prog 12 7 = some lCin := by kernel_rfl
noncomputable def lCout : Code := (theLoop Try.prog 12 3).getD .skip
theorem lCout_eq : theLoop Try.prog 12 3 = some lCout := by kernel_rfl

theorem cge_le (l : List Int) (v : Int) : cge l v ≤ l.length := List.length_filter_le ..
theorem cge_step {m : List Int} {k : Nat} (h : k < m.length) (v : Int) : cge (m.take (k + 1)) v = cge (m.take k) v + (bif decide (m.getD k 0 ≥ v) then 1 else 0) := by
  rw [List.take_add_one, getD_get (d := 0) h, cge_app]
  congr 1
  unfold cge
  simp only [Option.toList, List.filter_cons, List.filter_nil]
  cases decide (m.getD k 0 ≥ v) <;> rfl

theorem cin_loop (l m : List Int) (sl sm : SM) (i : Nat) (hi : i < m.length) (hm : m.length ≤ maxLen) (hl : l.length ≤ maxLen) :
    LoopOk Try.prog lCin 65 [8, 7] [0, 1, 6] [vI 0, vI 0] [.one (.sl cI l sl), .one (.sl cU m sm), vI i] [] (.exit 2) [vX, vI (cge (m.take l.length) (m.getD i 0))] [] := by
  unfold maxLen at hl hm
  refine LoopOk.rounds (S := Nat) ESrt lCin_eq (by kernel_rfl) (fun k => [vI k, vI (cge (m.take k) (m.getD i 0))]) (fun _ => []) (fun k => k ≤ m.length ∧ k ≤ l.length) (fun k => m.length - k) 0 ⟨Nat.zero_le _, Nat.zero_le _⟩ ?_ (fun _ _ => rfl)
  intro k ⟨hk, hkl⟩
  have hii : inB ((i : Nat) : Int) m.length = true := inB_of (by omega) (by omega)
  by_cases hlt : k < m.length
  · have h1 : decide (((k : Nat) : Int) < ((m.length : Nat) : Int)) = true := decide_eq_true (by omega)
    have hki : inB ((k : Nat) : Int) m.length = true := inB_of (by omega) (by omega)
    by_cases hll : k < l.length
    · have h2 : decide (((k : Nat) : Int) < ((l.length : Nat) : Int)) = true := decide_eq_true (by omega)
      have hc := cge_step hlt (m.getD i 0)
      have hle := cge_le (m.take k) (m.getD i 0)
      rw [List.length_take] at hle
      have hw : IntKind.i64.wrap (((k : Nat) : Int) + 1) = ((k + 1 : Nat) : Int) := by rw [wrap64 (by omega) (by omega)]; rfl
      cases h3 : decide (m.getD k 0 ≥ m.getD i 0) with
      | true =>
        refine OneRound.go [true, true, true, true, true, true, true] (vs := [(.one (.int .i64 (IntKind.i64.wrap (((k : Nat) : Int) + 1)))), (.one (.int .i64 (IntKind.i64.wrap ((((cge (List.take k m) (m.getD i 0)) : Nat) : Int) + 1))))]) (hp' := []) (cs := [(decide (m.getD k 0 ≥ m.getD i 0) == true), (inB (((i : Nat) : Int)) m.length), (inB (((k : Nat) : Int)) m.length), (decide (((k : Nat) : Int) < ((l.length : Nat) : Int)) == true), (decide (((k : Nat) : Int) < ((m.length : Nat) : Int)) == true), (decide (((k : Nat) : Int) < ((m.length : Nat) : Int)) == true), (decide (((k : Nat) : Int) < ((m.length : Nat) : Int)) == true), (decide (((k : Nat) : Int) < ((m.length : Nat) : Int)) == true), (decide (((k : Nat) : Int) < ((m.length : Nat) : Int)) == true)]) (fun rest => by kernel_rfl) (allI (by simp only [h1, h2, h3, hii, hki]; rfl)) (k + 1) ⟨by omega, by omega⟩ (by omega) ⟨.of_eq (by rw [hw]), .of_eq ?_, trivial⟩ rfl (.inl (Nat.le_refl _))
        rw [hc, h3, wrap64 (by omega) (by omega)]; rfl
      | false =>
        refine OneRound.go [true, true, true, true, true, true, false] (vs := [(.one (.int .i64 (IntKind.i64.wrap (((k : Nat) : Int) + 1)))), (.one (.int .i64 ((((cge (List.take k m) (m.getD i 0)) : Nat) : Int))))]) (hp' := []) (cs := [(decide (m.getD k 0 ≥ m.getD i 0) == false), (inB (((i : Nat) : Int)) m.length), (inB (((k : Nat) : Int)) m.length), (decide (((k : Nat) : Int) < ((l.length : Nat) : Int)) == true), (decide (((k : Nat) : Int) < ((m.length : Nat) : Int)) == true), (decide (((k : Nat) : Int) < ((m.length : Nat) : Int)) == true), (decide (((k : Nat) : Int) < ((m.length : Nat) : Int)) == true), (decide (((k : Nat) : Int) < ((m.length : Nat) : Int)) == true), (decide (((k : Nat) : Int) < ((m.length : Nat) : Int)) == true)]) (fun rest => by kernel_rfl) (allI (by simp only [h1, h2, h3, hii, hki]; rfl)) (k + 1) ⟨by omega, by omega⟩ (by omega) ⟨.of_eq (by rw [hw]), .of_eq ?_, trivial⟩ rfl (.inl (Nat.le_refl _))
        rw [hc, h3]; rfl
    · have e : k = l.length := by omega
      subst e
      have h2 : decide (((l.length : Nat) : Int) < ((l.length : Nat) : Int)) = false := decide_eq_false (by omega)
      exact OneRound.stop [true, true, true, true, true, false] (vs := [vI l.length, vI (cge (m.take l.length) (m.getD i 0))]) (hp' := []) (cs := (fun k => [(decide (((k : Nat) : Int) < ((l.length : Nat) : Int)) == false), (decide (((k : Nat) : Int) < ((m.length : Nat) : Int)) == true), (decide (((k : Nat) : Int) < ((m.length : Nat) : Int)) == true), (decide (((k : Nat) : Int) < ((m.length : Nat) : Int)) == true), (decide (((k : Nat) : Int) < ((m.length : Nat) : Int)) == true), (decide (((k : Nat) : Int) < ((m.length : Nat) : Int)) == true)]) l.length) (fun rest => by kernel_rfl) (allI (by simp only [h1, h2]; rfl)) (by simp) ⟨.unk, .refl, trivial⟩ rfl (.inl (Nat.le_refl _))
  · have e : k = m.length := by omega
    subst e
    have h1 : decide (((m.length : Nat) : Int) < ((m.length : Nat) : Int)) = false := decide_eq_false (by omega)
    refine OneRound.stop [false, false, false, false, false, false] (vs := [vI m.length, vI (cge (m.take m.length) (m.getD i 0))]) (hp' := []) (cs := (fun k => [(false == false), (decide (((k : Nat) : Int) < ((m.length : Nat) : Int)) == false), (decide (((k : Nat) : Int) < ((m.length : Nat) : Int)) == false), (decide (((k : Nat) : Int) < ((m.length : Nat) : Int)) == false), (decide (((k : Nat) : Int) < ((m.length : Nat) : Int)) == false), (decide (((k : Nat) : Int) < ((m.length : Nat) : Int)) == false)]) m.length) (fun rest => by kernel_rfl) (allI (by simp only [h1]; rfl)) (by simp) ⟨.unk, .of_eq ?_, trivial⟩ rfl (.inl (Nat.le_refl _))
    rw [List.take_length, List.take_of_length_le hkl]

noncomputable def ECin : Env Try.prog := ESrt.addLT 12 7 lCin_eq 65 [8, 7] [0, 1, 6] (by kernel_rfl) [.one cI, .one cI] [.sl cI, .sl cU, .one cI]
  (fun (z, c, _) ((l, sl), (m, sm), i, _) hp os => retC (.exit 2, [vX, vI (cge (m.take l.length) (m.getD i.toNat 0))], []) [decide (z = 0), decide (c = 0), decide (0 ≤ i), decide (i < m.length), decide (m.length ≤ maxLen), decide (l.length ≤ maxLen), hp.isEmpty] os)
  (fun (z, c, _) ((l, sl), (m, sm), i, _) hp os e outs hp' cs os' h hc => by
    simp only [retC, Option.some.injEq, Prod.mk.injEq] at h
    obtain ⟨⟨rfl, rfl, rfl⟩, rfl, rfl⟩ := h
    obtain ⟨h1, hc⟩ := of_allTc hc
    obtain ⟨h2, hc⟩ := of_allTc hc
    obtain ⟨h3, hc⟩ := of_allTc hc
    obtain ⟨h4, hc⟩ := of_allTc hc
    obtain ⟨h5, hc⟩ := of_allTc hc
    obtain ⟨h6, hc⟩ := of_allTc hc
    obtain ⟨h7, _⟩ := of_allTc hc
    have h7 := List.isEmpty_iff.1 h7
    simp only [decide_eq_true_eq] at h1 h2 h3 h4 h5 h6
    subst h1; subst h2; subst h7
    obtain ⟨n, rfl⟩ : ∃ n : Nat, i = Int.ofNat n := ⟨i.toNat, (Int.toNat_of_nonneg h3).symm⟩
    exact cin_loop l m sl sm n (Int.ofNat_lt.1 h4) h5 h6)

/-- What quorum.Commit tells. -/
def comI (l m : List Int) : Int := bif mayB l then midI (padI l.length m) else 0
theorem madeU (n : Nat) (m : List Int) : List.take 0 (List.replicate n (0 : Int)) ++ (List.take (m.length.min n) m ++ List.drop (0 + (List.take (m.length.min n) m).length) (List.replicate n 0)) = padI n m := by
  have e : List.take (m.length.min n) m = m.take n := by
    by_cases h : m.length ≤ n
    · rw [show m.length.min n = m.length from Nat.min_eq_left h, List.take_length, List.take_of_length_le h]
    · rw [show m.length.min n = n from Nat.min_eq_right (by omega)]
  rw [e, List.take_zero, List.nil_append, Nat.zero_add, List.drop_replicate]; rfl
end Go.Proofs.Ytcigjehfmiiolaa
