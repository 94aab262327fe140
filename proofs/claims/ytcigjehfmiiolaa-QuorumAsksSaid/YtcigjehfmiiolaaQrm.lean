/- The document's Meet: its loops; no statement. -/
import Derived.Test.YtcigjehfmiiolaaQpart
set_option linter.unusedVariables false
namespace Go.Proofs.Ytcigjehfmiiolaa
open Go Go.Eng

def pw2 (y : List Int) : Int := IntKind.i64.wrap (1 * 2 ^ min (((y.length : Nat) : Int)).toNat IntKind.i64.bits)
theorem pw2_eq {y : List Int} (h : y.length ≤ 5) : pw2 y = ((2 ^ y.length : Nat) : Int) := by
  have : y.length = 0 ∨ y.length = 1 ∨ y.length = 2 ∨ y.length = 3 ∨ y.length = 4 ∨ y.length = 5 := by omega
  unfold pw2
  rcases this with h | h | h | h | h | h <;> rw [h] <;> rfl
def smallI (l p : List Int) : Bool := decide (((p.length : Nat) : Int) < mostI l)
def badI (l y : List Int) (x k : Nat) : Bool := !smallI l (partI l x) && (!smallI y (partI y k) && !anyI (partI l x) (partI y k))
def inBad (l y : List Int) (x : Nat) : Bool := (List.range (2 ^ y.length)).any fun k => badI l y x k
def outBad (l y : List Int) : Bool := (List.range (2 ^ l.length)).any fun x => inBad l y x
theorem partI_len : ∀ (l : List Int) (b : Nat), (partI l b).length ≤ l.length
  | [], _ => Nat.le_refl _
  | x :: r, b => by
    have := partI_len r (b / 2)
    unfold partI
    cases Nat.beq (b % 2) 1 <;> simp <;> omega

noncomputable def lIn : Code := (theLoop Try.prog 24 7).getD .skip
theorem lIn_eq : theLoop Try.prog 24 7 = some lIn := by kernel_rfl
noncomputable def lOut : Code := (theLoop Try.prog 24 4).getD .skip
theorem lOut_eq : theLoop Try.prog 24 4 = some lOut := by kernel_rfl

theorem in_loop (l y : List Int) (sl sy : SM) (x : Nat) (hl : l.length ≤ 5) (hy : y.length ≤ 5) (hx : x < 2 ^ l.length) :
    (inBad l y x = true → LoopOk Try.prog lIn 68 [6, 4] [0, 1, 5] [vI 0, vB false] [.one (.sl cI l sl), .one (.sl cI y sy), vI x] [] .ret [vX, vB false] []) ∧
    (inBad l y x = false → LoopOk Try.prog lIn 68 [6, 4] [0, 1, 5] [vI 0, vB false] [.one (.sl cI l sl), .one (.sl cI y sy), vI x] [] (.exit 2) [vX, vB false] []) := by
  have h32 : 2 ^ y.length ≤ 32 := by
    have : 2 ^ y.length ≤ 2 ^ 5 := Nat.pow_le_pow_right (by omega) hy
    simpa using this
  have hpw := pw2_eq hy
  have hplen := partI_len l x
  have hx' : ((x : Nat) : Int) < 2 ^ l.length := by have := Int.ofNat_lt.2 hx; simpa using this
  refine ⟨fun hf => ?_, fun hf => ?_⟩
  all_goals
    refine LoopOk.rounds (S := Nat) EPart lIn_eq (by kernel_rfl) (fun k => [vI k, vB false]) (fun _ => []) (fun k => k ≤ 2 ^ y.length ∧ ∀ j, j < k → badI l y x j = false) (fun k => 2 ^ y.length - k) 0 ⟨Nat.zero_le _, fun j hj => absurd hj (Nat.not_lt_zero j)⟩ ?_ (fun _ _ => rfl)
    intro k ⟨hk, hb⟩
    by_cases hlt : k < 2 ^ y.length
    · have hlt' : ((k : Nat) : Int) < 2 ^ y.length := by have := Int.ofNat_lt.2 hlt; simpa using this
      have hpk : ((k : Nat) : Int) < pw2 y := by rw [hpw]; exact Int.ofNat_lt.2 hlt
      have hl5 : (partI l x).length ≤ 9223372036854775807 := by omega
      have next : badI l y x k = false → ∀ j, j < k + 1 → badI l y x j = false := fun h j hj => by
        by_cases hjk : j < k
        · exact hb j hjk
        · have : j = k := by omega
          subst this; exact h
      have hw : IntKind.i64.wrap (((k : Nat) : Int) + 1) = ((k + 1 : Nat) : Int) := by rw [wrap64 (by omega) (by omega)]; rfl
      cases h1 : smallI l (partI l x) with
      | true =>
        have h1' := h1
        simp only [smallI] at h1'
        refine OneRound.go [true, true, true, true, true, true, true, true] (vs := [(.one (.int .i64 (IntKind.i64.wrap (((k : Nat) : Int) + 1)))), (.one (.bool false))]) (hp' := []) (cs := [(true == true), (decide ((((partI l x).length : Nat) : Int) < mostI l) == true), (decide ((((partI l x).length : Nat) : Int) < mostI l) == true), (decide ((((partI l x).length : Nat) : Int) < mostI l) == true), (decide ((((partI l x).length : Nat) : Int) < mostI l) == true), (decide ((((partI l x).length : Nat) : Int) < mostI l) == true), (decide ((((partI l x).length : Nat) : Int) < mostI l) == true), (decide (y.length ≤ 5)), (decide (0 ≤ ((k : Nat) : Int))), (decide (((k : Nat) : Int) < 2 ^ y.length)), (decide (l.length ≤ 5)), (decide (0 ≤ ((x : Nat) : Int))), (decide (((x : Nat) : Int) < 2 ^ l.length)), (decide (((k : Nat) : Int) < pw2 y) == true)]) (fun rest => by kernel_rfl) (allI (by simp only [h1']; simp [hl, hy, hx', hlt', hpk, h1'])) (k + 1) ⟨by omega, next (by simp [badI, h1])⟩ (by omega) ⟨.of_eq (by rw [hw]), .refl, trivial⟩ rfl (.inl (Nat.le_refl _))
      | false =>
        have h1' := h1
        simp only [smallI] at h1'
        cases h2 : smallI y (partI y k) with
        | true =>
          have h2' := h2
          simp only [smallI] at h2'
          refine OneRound.go [true, false, false, false, false, false, false, true] (vs := [(.one (.int .i64 (IntKind.i64.wrap (((k : Nat) : Int) + 1)))), (.one (.bool false))]) (hp' := []) (cs := [(decide ((((partI y k).length : Nat) : Int) < mostI y) == true), (decide ((((partI l x).length : Nat) : Int) < mostI l) == false), (decide ((((partI l x).length : Nat) : Int) < mostI l) == false), (decide ((((partI l x).length : Nat) : Int) < mostI l) == false), (decide ((((partI l x).length : Nat) : Int) < mostI l) == false), (decide ((((partI l x).length : Nat) : Int) < mostI l) == false), (decide ((((partI l x).length : Nat) : Int) < mostI l) == false), (decide (y.length ≤ 5)), (decide (0 ≤ ((k : Nat) : Int))), (decide (((k : Nat) : Int) < 2 ^ y.length)), (decide (l.length ≤ 5)), (decide (0 ≤ ((x : Nat) : Int))), (decide (((x : Nat) : Int) < 2 ^ l.length)), (decide (((k : Nat) : Int) < pw2 y) == true)]) (fun rest => by kernel_rfl) (allI (by simp only [h1', h2']; simp [hl, hy, hx', hlt', hpk])) (k + 1) ⟨by omega, next (by simp [badI, h2])⟩ (by omega) ⟨.of_eq (by rw [hw]), .refl, trivial⟩ rfl (.inl (Nat.le_refl _))
        | false =>
          have h2' := h2
          simp only [smallI] at h2'
          cases h3 : anyI (partI l x) (partI y k) with
          | true =>
            refine OneRound.go [true, false, false, false, false, false, false, false, false] (vs := [(.one (.int .i64 (IntKind.i64.wrap (((k : Nat) : Int) + 1)))), (.one (.bool false))]) (hp' := []) (cs := [((!anyI (partI l x) (partI y k)) == false), (decide (0 = 0)), (decide (false = false)), (decide ((partI l x).length ≤ 9223372036854775807)), (decide ((((partI y k).length : Nat) : Int) < mostI y) == false), (decide ((((partI l x).length : Nat) : Int) < mostI l) == false), (decide ((((partI l x).length : Nat) : Int) < mostI l) == false), (decide ((((partI l x).length : Nat) : Int) < mostI l) == false), (decide ((((partI l x).length : Nat) : Int) < mostI l) == false), (decide ((((partI l x).length : Nat) : Int) < mostI l) == false), (decide ((((partI l x).length : Nat) : Int) < mostI l) == false), (decide (y.length ≤ 5)), (decide (0 ≤ ((k : Nat) : Int))), (decide (((k : Nat) : Int) < 2 ^ y.length)), (decide (l.length ≤ 5)), (decide (0 ≤ ((x : Nat) : Int))), (decide (((x : Nat) : Int) < 2 ^ l.length)), (decide (((k : Nat) : Int) < pw2 y) == true)]) (fun rest => by kernel_rfl) (allI (by simp only [h1', h2', h3]; simp [hl, hy, hx', hlt', hpk, hl5])) (k + 1) ⟨by omega, next (by simp [badI, h3])⟩ (by omega) ⟨.of_eq (by rw [hw]), .refl, trivial⟩ rfl (.inl (Nat.le_refl _))
          | false =>
            have hbad : badI l y x k = true := by simp [badI, h1, h2, h3]
            have hin : inBad l y x = true := List.any_eq_true.2 ⟨k, List.mem_range.2 hlt, hbad⟩
            first
            | exact Bool.noConfusion (hin.symm.trans hf)
            | exact OneRound.stop [true, false, false, false, false, false, false, false, true] (vs := [(.one (.int .i64 ((k : Nat) : Int))), (.one (.bool false))]) (hp' := []) (cs := [((!anyI (partI l x) (partI y k)) == true), (decide (0 = 0)), (decide (false = false)), (decide ((partI l x).length ≤ 9223372036854775807)), (decide ((((partI y k).length : Nat) : Int) < mostI y) == false), (decide ((((partI l x).length : Nat) : Int) < mostI l) == false), (decide ((((partI l x).length : Nat) : Int) < mostI l) == false), (decide ((((partI l x).length : Nat) : Int) < mostI l) == false), (decide ((((partI l x).length : Nat) : Int) < mostI l) == false), (decide ((((partI l x).length : Nat) : Int) < mostI l) == false), (decide ((((partI l x).length : Nat) : Int) < mostI l) == false), (decide (y.length ≤ 5)), (decide (0 ≤ ((k : Nat) : Int))), (decide (((k : Nat) : Int) < 2 ^ y.length)), (decide (l.length ≤ 5)), (decide (0 ≤ ((x : Nat) : Int))), (decide (((x : Nat) : Int) < 2 ^ l.length)), (decide (((k : Nat) : Int) < pw2 y) == true)]) (fun rest => by kernel_rfl) (allI (by simp only [h1', h2', h3]; simp [hl, hy, hx', hlt', hpk, hl5])) (by simp) ⟨.unk, .refl, trivial⟩ rfl (.inl (Nat.le_refl _))
    · have hpk : ¬ ((k : Nat) : Int) < pw2 y := by rw [hpw]; intro h; exact hlt (Int.ofNat_lt.1 h)
      have hin : inBad l y x = false := List.any_eq_false.2 fun j hj => by rw [hb j (by have := List.mem_range.1 hj; omega)]; simp
      first
      | exact Bool.noConfusion (hin.symm.trans hf)
      | exact OneRound.stop [false] (vs := [vI k, vB false]) (hp' := []) (cs := [decide (((k : Nat) : Int) < pw2 y) == false]) (fun rest => by kernel_rfl) (allT1 (dF hpk)) (by simp) ⟨.unk, .refl, trivial⟩ rfl (.inl (Nat.le_refl _))

noncomputable def EIn : Env Try.prog := EPart.addLT 24 7 lIn_eq 68 [6, 4] [0, 1, 5] (by kernel_rfl) [.one cI, .one .bool] [.sl cI, .sl cI, .one cI]
  (fun (z, c, _) ((l, sl), (y, sy), x, _) hp os => brL (inBad l y x.toNat) os
    (fun os => retC (.ret, [vX, vB false], []) [decide (z = 0), decide (c = false), decide (l.length ≤ 5), decide (y.length ≤ 5), decide (0 ≤ x), decide (x < 2 ^ l.length), hp.isEmpty] os)
    (fun os => retC (.exit 2, [vX, vB false], []) [decide (z = 0), decide (c = false), decide (l.length ≤ 5), decide (y.length ≤ 5), decide (0 ≤ x), decide (x < 2 ^ l.length), hp.isEmpty] os))
  (fun (z, c, _) ((l, sl), (y, sy), x, _) hp os e outs hp' cs os' h hc => by
    rcases brL_some h hc with ⟨hb, o, c, h, hc⟩ | ⟨hb, o, c, h, hc⟩
    all_goals
      simp only [retC, Option.some.injEq, Prod.mk.injEq] at h
      obtain ⟨⟨rfl, rfl, rfl⟩, rfl, rfl⟩ := h
      obtain ⟨h1, hc⟩ := of_allTc hc
      obtain ⟨h2, hc⟩ := of_allTc hc
      obtain ⟨h3, hc⟩ := of_allTc hc
      obtain ⟨h4, hc⟩ := of_allTc hc
      obtain ⟨h5, hc⟩ := of_allTc hc
      obtain ⟨h6, hc⟩ := of_allTc hc
      obtain ⟨h7, _⟩ := of_allTc hc
      have h7 := List.isEmpty_iff.1 h7
      simp only [decide_eq_true_eq] at h1 h2 h3 h4 h5 h6
      subst h1; subst h2; subst h7
      obtain ⟨n, rfl⟩ : ∃ n : Nat, x = Int.ofNat n := ⟨x.toNat, (Int.toNat_of_nonneg h5).symm⟩
      have hn : n < 2 ^ l.length := by have := Int.ofNat_lt.1 (by simpa using h6 : (n : Int) < ((2 ^ l.length : Nat) : Int)); exact this
      first | exact (in_loop l y sl sy n h3 h4 hn).1 hb | exact (in_loop l y sl sy n h3 h4 hn).2 hb)
end Go.Proofs.Ytcigjehfmiiolaa
