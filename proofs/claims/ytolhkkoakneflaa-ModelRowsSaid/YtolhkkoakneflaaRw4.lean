/- ModelRows: its loop, and its run; no statement. -/
import Derived.Test.YtolhkkoakneflaaRw3
set_option linter.unusedVariables false
set_option linter.unusedSimpArgs false
namespace Go.Proofs.Ytolhkkoakneflaa
open Go Go.Eng

noncomputable def lRa : Code := (theLoop Try.prog 6 5).getD .skip
theorem lRa_eq : theLoop Try.prog 6 5 = some lRa := by kernel_rfl

def opsM (l : List rAct.den) (k : Nat) : MapT := (l.take k).foldl (fun M a => doM (ofV a) M) []
theorem opsM_succ {l : List rAct.den} {k : Nat} (h : k < l.length) : opsM l (k + 1) = doM (ofV (l.getD k rAct.dflt)) (opsM l k) := by
  unfold opsM
  rw [List.take_add_one, List.foldl_append, getD_get (d := rAct.dflt) h]
  rfl
theorem opsM_end {l : List rAct.den} {k n : Nat} (h : l.length ≤ k) (h2 : k ≤ n) : opsM l n = opsM l k := by
  unfold opsM
  rw [List.take_of_length_le (by omega), List.take_of_length_le (by omega)]
theorem opsM_inv {l : List rAct.den} : ∀ k, k ≤ l.length → MapInv (opsM l k) ∧ (opsM l k).length ≤ 2 * k
  | 0, _ => ⟨MapInv.nil, Nat.le_refl _⟩
  | k + 1, h => by
    obtain ⟨h1, h2⟩ := opsM_inv (l := l) k (by omega)
    rw [opsM_succ (by omega)]
    obtain ⟨h3, h4⟩ := h1.do (ofV (l.getD k rAct.dflt))
    exact ⟨h3, by omega⟩
def eqR (x y : rRes.den) : Bool := x.1 == y.1 && (x.2.1 == y.2.1 && (x.2.2.1 == y.2.2.1 && (x.2.2.2.1 == y.2.2.2.1 && (x.2.2.2.2.1 == y.2.2.2.2.1 && true))))
theorem eqR_refl (x : rRes.den) : eqR x x = true := by
  unfold eqR
  simp only [beq_self_eq_true, baRfl, Bool.and_self]
theorem cel_ok {M : MapT} (I : MapInv M) (h : M.length ≤ 1000) : okp (CelOk M) = true ∧ okp ((srtG (valsM M)).length ≤ 1000) = true :=
  ⟨okp_of ⟨by omega, I.pl.places⟩, okp_of (by rw [(srtG_perm (valsM M)).length_eq, List.length_map]; exact h)⟩

abbrev srtM (M : MapT) : List rCell.den := srtG (valsM M)
abbrev rowM (O : rOp.den) (M : MapT) : List rCell.den := rowAll O (srtM M)
theorem ra_facts {M : MapT} (I : MapInv M) (h : M.length ≤ 100) {O : rOp.den} (hc : O.2.2.1 ≠ ByteArray.mk #[]) :
    okp (CelOk M) = true ∧ okp ((srtM M).length ≤ 1000) = true ∧ okp (CelOk (doM O M)) = true ∧ okp ((srtM (doM O M)).length ≤ 1000) = true ∧
    eqR (doR O M) (effV O (rowM O M)).1 = true ∧ (eN O (rowM O M) = false → (((cn2 (e0 O (rowM O M)) (e1 O (rowM O M)) (srtM (doM O M)) : Nat) : Int) != ((2 : Nat) : Int)) = false) := by
  obtain ⟨I', h'⟩ := I.do O
  obtain ⟨c1, c2⟩ := cel_ok I (by omega)
  obtain ⟨c3, c4⟩ := cel_ok I' (by omega)
  have he : effV O (rowM O M) = effV O (rowV O M) := eff_row I hc (srtG_perm _)
  refine ⟨c1, c2, c3, c4, ?_, fun hE => ?_⟩
  · rw [he]
    exact eqR_refl (doR O M)
  · have e0' : e0 O (rowM O M) = e0 O (rowV O M) := by unfold e0; rw [he]
    have e1' : e1 O (rowM O M) = e1 O (rowV O M) := by unfold e1; rw [he]
    have eN' : eN O (rowV O M) = false := by rw [← hE]; unfold eN; rw [he]
    rw [e0', e1', done_once I hc eN' (srtG_perm _)]
    rfl
theorem ra_loop (l : List rAct.den) (hl : ∀ x ∈ l, WF rAct x) :
    LoopOk Try.prog lRa 107 [4] [0, 3] [vI 0] [vL rAct l, .one (.ptr 1 0)] [.mp rP rCell true true [], .cells [.mref 0]] (.exit 0) [vX] [.mp rP rCell true true (opsM l 40), .cells [.mref 0]] := by
  refine LoopOk.rounds (S := Nat) ERd lRa_eq (by kernel_rfl) (fun k => [vI k]) (fun k => [.mp rP rCell true true (opsM l k), .cells [.mref 0]]) (fun k => k ≤ min l.length 40) (fun k => min l.length 40 - k) 0 (Nat.zero_le _) ?_ (fun _ _ => rfl)
  intro k hk
  by_cases hlt : k < l.length
  · by_cases hlt2 : k < 40
    · have hin : inB (k : Int) l.length = true := inB_of (by omega) (by omega)
      have d1 : decide ((k : Int) < ((l.length : Nat) : Int)) = true := decide_eq_true (by omega)
      have d2 : decide ((k : Int) < 40) = true := decide_eq_true (by omega)
      obtain ⟨h5, hc⟩ := kind_act (hl _ (List.mem_of_getElem? (getD_get (d := rAct.dflt) hlt)))
      have hw : vI (IntKind.i64.wrap ((k : Int) + 1)) = vI ((k + 1 : Nat) : Int) := by rw [wrap64 (by omega) (by omega)]; rfl
      obtain ⟨I, hlen⟩ := opsM_inv (l := l) k (by omega)
      obtain ⟨c1, c2, c3, c4, hR, hN⟩ := ra_facts (O := ofV (l.getD k rAct.dflt)) I (by omega) hc
      have hs := opsM_succ hlt
      cases hE : eN (ofV (l.getD k rAct.dflt)) (rowM (ofV (l.getD k rAct.dflt)) (opsM l k)) with
      | false =>
        have hN := hN hE
        exact OneRound.goT [true, true, true, true, false, false, false, false, false, true, true, true, false, true, false, false, false] (vs := [vI (IntKind.i64.wrap ((k : Int) + 1))]) (hp' := [.mp rP rCell true true (doM (ofV (l.getD k rAct.dflt)) (opsM l k)), .cells [.mref 0]])
          (cs := [((((cn2 (e0 (ofV (l.getD k rAct.dflt)) (rowM (ofV (l.getD k rAct.dflt)) (opsM l k))) (e1 (ofV (l.getD k rAct.dflt)) (rowM (ofV (l.getD k rAct.dflt)) (opsM l k))) (srtM (doM (ofV (l.getD k rAct.dflt)) (opsM l k))) : Nat) : Int) != ((2 : Nat) : Int)) == false), decide ((0 : Int) = 0), decide ((0 : Int) = 0), okp ((srtM (doM (ofV (l.getD k rAct.dflt)) (opsM l k))).length ≤ 1000), okp (CelOk (doM (ofV (l.getD k rAct.dflt)) (opsM l k))), false == false, (!(eqR (doR (ofV (l.getD k rAct.dflt)) (opsM l k)) (effV (ofV (l.getD k rAct.dflt)) (rowM (ofV (l.getD k rAct.dflt)) (opsM l k))).1)) == false, true == true, (!(eqR (doR (ofV (l.getD k rAct.dflt)) (opsM l k)) (effV (ofV (l.getD k rAct.dflt)) (rowM (ofV (l.getD k rAct.dflt)) (opsM l k))).1)) == false, true == true, true == true, true == true, (!(eqR (doR (ofV (l.getD k rAct.dflt)) (opsM l k)) (effV (ofV (l.getD k rAct.dflt)) (rowM (ofV (l.getD k rAct.dflt)) (opsM l k))).1)) == false, (!(eqR (doR (ofV (l.getD k rAct.dflt)) (opsM l k)) (effV (ofV (l.getD k rAct.dflt)) (rowM (ofV (l.getD k rAct.dflt)) (opsM l k))).1)) == false, (!(eqR (doR (ofV (l.getD k rAct.dflt)) (opsM l k)) (effV (ofV (l.getD k rAct.dflt)) (rowM (ofV (l.getD k rAct.dflt)) (opsM l k))).1)) == false, (!(eqR (doR (ofV (l.getD k rAct.dflt)) (opsM l k)) (effV (ofV (l.getD k rAct.dflt)) (rowM (ofV (l.getD k rAct.dflt)) (opsM l k))).1)) == false, !((ofV (l.getD k rAct.dflt)).1 == 5), eN (ofV (l.getD k rAct.dflt)) (rowM (ofV (l.getD k rAct.dflt)) (opsM l k)) == false, decide ((0 : Int) = 0), okp ((srtM (opsM l k)).length ≤ 1000), okp (CelOk (opsM l k)), inB (k : Int) l.length, decide ((k : Int) < 40) == true, decide ((k : Int) < ((l.length : Nat) : Int)) == true, decide ((k : Int) < ((l.length : Nat) : Int)) == true, decide ((k : Int) < ((l.length : Nat) : Int)) == true])
          (fun rest => by kernel_rfl) (allI (by simp only [↓hE, ↓c1, ↓c2, ↓c3, ↓c4, ↓hR, ↓hN, ↓h5, hin, d1, d2]; rfl)) (k + 1) (by omega) (by omega) ⟨.of_eq hw, trivial⟩ (by rw [hs]) (by simp [idsLt, idsV, idsC, idsB])
      | true =>
        exact OneRound.goT [true, true, true, true, true, false, false, false, false, false, false, false, false, false, false, false, false] (vs := [vI (IntKind.i64.wrap ((k : Int) + 1))]) (hp' := [.mp rP rCell true true (doM (ofV (l.getD k rAct.dflt)) (opsM l k)), .cells [.mref 0]])
          (cs := [false == false, decide ((0 : Int) = 0), decide ((0 : Int) = 0), okp ((srtM (doM (ofV (l.getD k rAct.dflt)) (opsM l k))).length ≤ 1000), okp (CelOk (doM (ofV (l.getD k rAct.dflt)) (opsM l k))), false == false, (!(eqR (doR (ofV (l.getD k rAct.dflt)) (opsM l k)) (effV (ofV (l.getD k rAct.dflt)) (rowM (ofV (l.getD k rAct.dflt)) (opsM l k))).1)) == false, false == false, (!(eqR (doR (ofV (l.getD k rAct.dflt)) (opsM l k)) (effV (ofV (l.getD k rAct.dflt)) (rowM (ofV (l.getD k rAct.dflt)) (opsM l k))).1)) == false, false == false, false == false, false == false, (!(eqR (doR (ofV (l.getD k rAct.dflt)) (opsM l k)) (effV (ofV (l.getD k rAct.dflt)) (rowM (ofV (l.getD k rAct.dflt)) (opsM l k))).1)) == false, (!(eqR (doR (ofV (l.getD k rAct.dflt)) (opsM l k)) (effV (ofV (l.getD k rAct.dflt)) (rowM (ofV (l.getD k rAct.dflt)) (opsM l k))).1)) == false, (!(eqR (doR (ofV (l.getD k rAct.dflt)) (opsM l k)) (effV (ofV (l.getD k rAct.dflt)) (rowM (ofV (l.getD k rAct.dflt)) (opsM l k))).1)) == false, (!(eqR (doR (ofV (l.getD k rAct.dflt)) (opsM l k)) (effV (ofV (l.getD k rAct.dflt)) (rowM (ofV (l.getD k rAct.dflt)) (opsM l k))).1)) == false, !((ofV (l.getD k rAct.dflt)).1 == 5), eN (ofV (l.getD k rAct.dflt)) (rowM (ofV (l.getD k rAct.dflt)) (opsM l k)) == true, decide ((0 : Int) = 0), okp ((srtM (opsM l k)).length ≤ 1000), okp (CelOk (opsM l k)), inB (k : Int) l.length, decide ((k : Int) < 40) == true, decide ((k : Int) < ((l.length : Nat) : Int)) == true, decide ((k : Int) < ((l.length : Nat) : Int)) == true, decide ((k : Int) < ((l.length : Nat) : Int)) == true])
          (fun rest => by kernel_rfl) (allI (by simp only [↓hE, ↓c1, ↓c2, ↓c3, ↓c4, ↓hR, ↓h5, hin, d1, d2]; rfl)) (k + 1) (by omega) (by omega) ⟨.of_eq hw, trivial⟩ (by rw [hs]) (by simp [idsLt, idsV, idsC, idsB])
    · have d1 : decide ((k : Int) < ((l.length : Nat) : Int)) = true := decide_eq_true (by omega)
      have e : k = 40 := by omega
      subst e
      exact OneRound.stopT [true, true, true, false] (vs := [vI ((40 : Nat) : Int)]) (hp' := [.mp rP rCell true true (opsM l 40), .cells [.mref 0]]) (cs := [decide (((40 : Nat) : Int) < 40) == false, decide (((40 : Nat) : Int) < ((l.length : Nat) : Int)) == true, decide (((40 : Nat) : Int) < ((l.length : Nat) : Int)) == true, decide (((40 : Nat) : Int) < ((l.length : Nat) : Int)) == true]) (fun rest => by kernel_rfl) (allI (by simp only [d1]; rfl)) (by simp) ⟨.unk, trivial⟩ rfl (by simp [idsLt, idsV, idsC, idsB])
  · have d1 : decide ((k : Int) < ((l.length : Nat) : Int)) = false := decide_eq_false (by omega)
    exact OneRound.stopT [false, false, false, false] (vs := [vI k]) (hp' := [.mp rP rCell true true (opsM l k), .cells [.mref 0]]) (cs := [false == false, decide ((k : Int) < ((l.length : Nat) : Int)) == false, decide ((k : Int) < ((l.length : Nat) : Int)) == false, decide ((k : Int) < ((l.length : Nat) : Int)) == false]) (fun rest => by kernel_rfl) (allI (by simp only [d1]; rfl)) (by simp) ⟨.unk, trivial⟩ (by rw [opsM_end (k := k) (n := 40) (by omega) (by omega)]) (by simp [idsLt, idsV, idsC, idsB])
end Go.Proofs.Ytolhkkoakneflaa
