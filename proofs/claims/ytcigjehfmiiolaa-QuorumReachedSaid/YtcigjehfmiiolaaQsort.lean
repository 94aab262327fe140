/- Insertion sort, falling; no statement. -/
import Derived.Test.YtcigjehfmiiolaaQcmp
set_option linter.unusedVariables false
namespace Go.Proofs.Ytcigjehfmiiolaa
open Go Go.Eng

def pre (j : Nat) : Int := IntKind.i64.wrap (((j : Nat) : Int) - 1)
theorem pre_eq {j : Nat} (h : 0 < j) (h2 : j ≤ 9223372036854775807) : pre j = ((j - 1 : Nat) : Int) := by unfold pre; rw [wrap64 (by omega) (by omega)]; omega
def swp (l : List Int) (j : Nat) : List Int := (l.set j (l.getD (j - 1) 0)).set (j - 1) (l.getD j 0)
def bub (l : List Int) : Nat → List Int
  | 0 => l
  | j + 1 => if l.getD (j + 1) 0 > l.getD j 0 then bub (swp l (j + 1)) j else l
theorem bub_pos {l : List Int} {j : Nat} (h : l.getD (j + 1) 0 > l.getD j 0) : bub l (j + 1) = bub (swp l (j + 1)) j := by rw [bub]; exact if_pos h
theorem bub_neg {l : List Int} {j : Nat} (h : ¬ l.getD (j + 1) 0 > l.getD j 0) : bub l (j + 1) = l := by rw [bub]; exact if_neg h
def ins (l : List Int) : Nat → List Int
  | 0 => l
  | k + 1 => bub (ins l k) (k + 1)
theorem swp_len (l : List Int) (j : Nat) : (swp l j).length = l.length := by simp [swp]
theorem bub_len : ∀ (j : Nat) (l : List Int), (bub l j).length = l.length
  | 0, l => rfl
  | j + 1, l => by
    unfold bub
    split
    · rw [bub_len j, swp_len]
    · rfl
theorem ins_len (l : List Int) : ∀ k, (ins l k).length = l.length
  | 0 => rfl
  | k + 1 => by unfold ins; rw [bub_len, ins_len l k]
theorem cmp_lt (a b : Int) : decide (cmpI a b < 0) = decide (a > b) := by
  unfold cmpI
  by_cases h : a > b
  · simp [h]
  · by_cases h2 : a < b <;> simp [h, h2]

noncomputable def lIns : Code := (theLoop Try.prog 40 4).getD .skip
theorem lIns_eq : theLoop Try.prog 40 4 = some lIns := by kernel_rfl
noncomputable def lSrt : Code := (theLoop Try.prog 40 1).getD .skip
theorem lSrt_eq : theLoop Try.prog 40 1 = some lSrt := by kernel_rfl

theorem ins_loop (l : List Int) (j : Nat) (hj : j < l.length) (hl : l.length ≤ maxLen) :
    LoopOk Try.prog lIns 53 [9] [0, 1, 3] [vI j] [.one (.asl cU 0 0 l.length l.length), vI 0, .one (.fn 29 [])] [.arr cU l] (.exit 2) [vX] [.arr cU (bub l j)] := by
  unfold maxLen at hl
  generalize hn : l.length = n at *
  refine LoopOk.rounds (S := Nat × List Int) ECmp lIns_eq (by kernel_rfl) (fun s => [vI s.1]) (fun s => [.arr cU s.2]) (fun s => s.1 < n ∧ s.2.length = n ∧ bub s.2 s.1 = bub l j) (fun s => s.1) (j, l) ⟨hj, hn, rfl⟩ ?_ (fun _ _ => rfl)
  intro ⟨j, l⟩ ⟨hj, hlen, hb⟩
  simp only at hj hlen hb
  have i0 : inB ((j : Nat) : Int) n = true := inB_of (by omega) (by omega)
  by_cases h0 : j > 0
  · have hp := pre_eq h0 (by omega)
    have i1 : inB (pre j) n = true := by rw [hp]; exact inB_of (by omega) (by omega)
    have hj0 : ((j : Nat) : Int) > 0 := by omega
    obtain ⟨i, rfl⟩ : ∃ i, j = i + 1 := ⟨j - 1, by omega⟩
    have e1 : (pre (i + 1)).toNat = i := by rw [hp]; simp
    cases hc : decide (l.getD (i + 1) 0 > l.getD i 0) with
    | true =>
      have hc' : decide (cmpI (l.getD (0 + (i + 1)) 0) (l.getD (0 + (pre (i + 1)).toNat) 0) < 0) = true := by rw [cmp_lt, e1, Nat.zero_add, Nat.zero_add]; exact hc
      refine OneRound.go [true, true, true, true, true, true, true, true, true, true, true, true, true, true] (vs := (fun j => [(.one (.int .i64 (pre j)))]) (i + 1)) (hp' := (fun j => [(.arr (.int .u64) ((l.set (0 + j) (l.getD (0 + (pre j).toNat) 0)).set (0 + (pre j).toNat) (l.getD (0 + j) 0)))]) (i + 1)) (cs := (fun j => [(inB (pre j) n), (inB (((j : Nat) : Int)) n), (inB (((j : Nat) : Int)) n), (inB (pre j) n), (decide (cmpI (l.getD (0 + j) 0) (l.getD (0 + (pre j).toNat) 0) < 0) == true), (decide (((j : Nat) : Int) > 0) == true), (decide (((j : Nat) : Int) > 0) == true), (decide (((j : Nat) : Int) > 0) == true), (decide (((j : Nat) : Int) > 0) == true), (inB (pre j) n), (decide (((j : Nat) : Int) > 0) == true), (decide (((j : Nat) : Int) > 0) == true), (decide (((j : Nat) : Int) > 0) == true), (decide (((j : Nat) : Int) > 0) == true), (decide (((j : Nat) : Int) > 0) == true), (inB (((j : Nat) : Int)) n), (decide (((j : Nat) : Int) > 0) == true), (decide (((j : Nat) : Int) > 0) == true), (decide (((j : Nat) : Int) > 0) == true), (decide (((j : Nat) : Int) > 0) == true)]) (i + 1)) (fun rest => by kernel_rfl)
        (allI (by simp only [hc', i0, i1, decide_eq_true hj0]; rfl)) (i, swp l (i + 1)) ⟨by omega, by rw [swp_len]; exact hlen, ?_⟩ (by simp) ⟨.of_eq ?_, trivial⟩ ?_ (.inl (Nat.le_refl _))
      · rw [← hb]
        exact (bub_pos (of_decide_eq_true hc)).symm
      · show vI (pre (i + 1)) = _
        rw [hp]; rfl
      · show [AB.arr cU ((l.set (0 + (i + 1)) (l.getD (0 + (pre (i + 1)).toNat) 0)).set (0 + (pre (i + 1)).toNat) (l.getD (0 + (i + 1)) 0))] = [AB.arr cU (swp l (i + 1))]
        rw [e1, Nat.zero_add, Nat.zero_add]; rfl
    | false =>
      have hc' : decide (cmpI (l.getD (0 + (i + 1)) 0) (l.getD (0 + (pre (i + 1)).toNat) 0) < 0) = false := by rw [cmp_lt, e1, Nat.zero_add, Nat.zero_add]; exact hc
      refine OneRound.stop [true, true, true, true, true, true, true, true, true, true, true, true, true, false] (vs := [vI ((i + 1 : Nat) : Int)]) (hp' := [.arr cU l]) (cs := (fun j => [(decide (cmpI (l.getD (0 + j) 0) (l.getD (0 + (pre j).toNat) 0) < 0) == false), (decide (((j : Nat) : Int) > 0) == true), (decide (((j : Nat) : Int) > 0) == true), (decide (((j : Nat) : Int) > 0) == true), (decide (((j : Nat) : Int) > 0) == true), (inB (pre j) n), (decide (((j : Nat) : Int) > 0) == true), (decide (((j : Nat) : Int) > 0) == true), (decide (((j : Nat) : Int) > 0) == true), (decide (((j : Nat) : Int) > 0) == true), (decide (((j : Nat) : Int) > 0) == true), (inB (((j : Nat) : Int)) n), (decide (((j : Nat) : Int) > 0) == true), (decide (((j : Nat) : Int) > 0) == true), (decide (((j : Nat) : Int) > 0) == true), (decide (((j : Nat) : Int) > 0) == true)]) (i + 1)) (fun rest => by kernel_rfl)
        (allI (by simp only [hc', i0, i1, decide_eq_true hj0]; rfl)) (by simp) ⟨.unk, trivial⟩ ?_ (.inl (Nat.le_refl _))
      rw [← hb, bub_neg (of_decide_eq_false hc)]; rfl
  · have : j = 0 := by omega
    subst this
    refine OneRound.stop [false, false, false, false, false, false, false, false, false, false, false, false, false, false] (vs := [vI ((0 : Nat) : Int)]) (hp' := [.arr cU l]) (cs := (fun j => [(false == false), (decide (((j : Nat) : Int) > 0) == false), (decide (((j : Nat) : Int) > 0) == false), (decide (((j : Nat) : Int) > 0) == false), (decide (((j : Nat) : Int) > 0) == false), (decide (((j : Nat) : Int) > 0) == false), (decide (((j : Nat) : Int) > 0) == false), (decide (((j : Nat) : Int) > 0) == false), (decide (((j : Nat) : Int) > 0) == false), (decide (((j : Nat) : Int) > 0) == false), (decide (((j : Nat) : Int) > 0) == false), (decide (((j : Nat) : Int) > 0) == false), (decide (((j : Nat) : Int) > 0) == false), (decide (((j : Nat) : Int) > 0) == false)]) 0) (fun rest => by kernel_rfl)
      (allI (by simp)) (by simp) ⟨.unk, trivial⟩ ?_ (.inl (Nat.le_refl _))
    rw [← hb]; rfl

noncomputable def EIns : Env Try.prog := ECmp.addL 40 4 lIns_eq 53 [9] [0, 1, 3] (by kernel_rfl)
  (fun vals rov hp os => match vals, rov, hp with
    | [.one (.int .i64 z)], [.one (.asl (.int .u64) 0 0 n n'), .one (.int .i64 a), .one (.fn 29 [])], [.arr (.int .u64) l] =>
      retC (.exit 2, [vX], [.arr cU (bub l z.toNat)]) [decide (0 ≤ z), decide (z < n), decide (n = n'), decide (a = 0), decide (n = l.length), decide (l.length ≤ maxLen)] os
    | _, _, _ => none)
  (fun vals rov hp os e outs hp' cs os' h hc => by
    split at h
    · rename_i z n n' a l
      simp only [retC, Option.some.injEq, Prod.mk.injEq] at h
      obtain ⟨⟨rfl, rfl, rfl⟩, rfl, rfl⟩ := h
      obtain ⟨h1, hc⟩ := of_allTc hc
      obtain ⟨h2, hc⟩ := of_allTc hc
      obtain ⟨h3, hc⟩ := of_allTc hc
      obtain ⟨h4, hc⟩ := of_allTc hc
      obtain ⟨h5, hc⟩ := of_allTc hc
      obtain ⟨h6, _⟩ := of_allTc hc
      simp only [decide_eq_true_eq] at h1 h2 h3 h4 h5 h6
      subst h3; subst h4; subst h5
      obtain ⟨n, rfl⟩ : ∃ n : Nat, z = Int.ofNat n := ⟨z.toNat, (Int.toNat_of_nonneg h1).symm⟩
      exact ins_loop l n (Int.ofNat_lt.1 h2) h6
    · cases h)

theorem srt_loop (l : List Int) (h0 : 0 < l.length) (hl : l.length ≤ maxLen) :
    LoopOk Try.prog lSrt 53 [8] [0, 1, 2, 3] [vI 1] [.one (.asl cU 0 0 l.length l.length), vI 0, vI l.length, .one (.fn 29 [])] [.arr cU l] (.exit 0) [vX] [.arr cU (ins l (l.length - 1))] := by
  unfold maxLen at hl
  generalize hn : l.length = n at *
  refine LoopOk.rounds (S := Nat) EIns lSrt_eq (by kernel_rfl) (fun k => [vI ((k + 1 : Nat) : Int)]) (fun k => [.arr cU (ins l k)]) (fun k => k + 1 ≤ n) (fun k => n - k) 0 h0 ?_ (fun _ _ => rfl)
  intro k hk
  have hlen : (ins l k).length = n := by rw [ins_len]; exact hn
  by_cases hlt : k + 1 < n
  · refine OneRound.go [true] (vs := [vI (IntKind.i64.wrap (((k + 1 : Nat) : Int) + 1))]) (hp' := [.arr cU (bub (ins l k) (k + 1))])
      (cs := [decide ((0 : Int) ≤ ((k + 1 : Nat) : Int)), decide (((k + 1 : Nat) : Int) < (n : Int)), decide (n = n), decide ((0 : Int) = 0), decide (n = (ins l k).length), decide ((ins l k).length ≤ maxLen), decide (((k + 1 : Nat) : Int) < (n : Int)) == true]) (fun rest => by kernel_rfl)
      (allI (by
        have a1 : (0 : Int) ≤ ((k + 1 : Nat) : Int) := by omega
        have a2 : ((k + 1 : Nat) : Int) < (n : Int) := by omega
        have a3 : n ≤ maxLen := hl
        simp only [hlen, decide_eq_true a1, decide_eq_true a2, decide_eq_true a3]; simp)) (k + 1) (by omega) (by omega) ⟨.of_eq ?_, trivial⟩ rfl (.inl (Nat.le_refl _))
    rw [wrap64 (by omega) (by omega)]; rfl
  · have e : k = n - 1 := by omega
    subst e
    refine OneRound.stop [false] (vs := [vI ((n - 1 + 1 : Nat) : Int)]) (hp' := [.arr cU (ins l (n - 1))]) (cs := [decide (((n - 1 + 1 : Nat) : Int) < (n : Int)) == false]) (fun rest => by kernel_rfl) (allT1 (dF (by omega))) (by simp) ⟨.unk, trivial⟩ rfl (.inl (Nat.le_refl _))
end Go.Proofs.Ytcigjehfmiiolaa
