/- ModelLast: the loops' contracts; no statement. -/
import Derived.Test.YtolhkkoakneflaaMv
set_option linter.unusedVariables false
set_option linter.unusedSimpArgs false
namespace Go.Proofs.Ytolhkkoakneflaa
open Go Go.Eng

def actOk (l : List rAct.den) : Bool := l.all fun a => decide (0 ≤ a.1 ∧ a.1 ≤ 255) && (decide (0 ≤ a.2.1 ∧ a.2.1 ≤ 255) && (decide (0 ≤ a.2.2.1 ∧ a.2.2.1 ≤ 255) && (decide (0 ≤ a.2.2.2.1 ∧ a.2.2.2.1 ≤ 255) && decide (0 ≤ a.2.2.2.2.1 ∧ a.2.2.2.2.1 ≤ 255))))
theorem actOk_wf {l : List rAct.den} (h : actOk l = true) : ∀ x ∈ l, WF rAct x := fun x hx => by
  have h1 := List.all_eq_true.1 h x hx
  simp only [Bool.and_eq_true, decide_eq_true_eq] at h1
  obtain ⟨a1, a2, a3, a4, a5⟩ := h1
  exact ⟨a1, a2, a3, a4, a5, trivial, trivial⟩
theorem wf_actOk {l : List rAct.den} (h : ∀ x ∈ l, WF rAct x) : actOk l = true := by
  refine List.all_eq_true.2 fun x hx => ?_
  obtain ⟨a1, a2, a3, a4, a5, _⟩ := h x hx
  simp only [Bool.and_eq_true, decide_eq_true_eq]
  exact ⟨a1, a2, a3, a4, a5⟩
open Classical in
noncomputable def okI (M : MapT) (C W : Nat → Int) (V : Nat → ByteArray) : Bool := decide (∃ n, MInv M C W V n)
open Classical in
theorem okI_iff {M : MapT} {C W : Nat → Int} {V : Nat → ByteArray} : okI M C W V = true ↔ ∃ n, MInv M C W V n := by
  unfold okI; exact decide_eq_true_iff
theorem inv0 : MInv [] (fun _ => 0) (fun _ => 0) (fun _ => e0B) 0 :=
  ⟨fun r hr => rfl, fun r hr c hc => ⟨false, 0, false, e0B, rfl, by decide, fun h => by cases h⟩, fun r hr => ⟨Int.le_refl _, Int.le_refl _⟩, fun j hj => ⟨Int.le_refl _, Int.le_refl _⟩⟩
def lStart : LS := (0, [], fun _ => 0, fun _ => e0B, fun _ => 0)
def lEnd (l : List rAct.den) : LS := lfin l 80 lStart
noncomputable def EMw1 : Env Try.prog := EMi.addL 4 8 lLa_eq 180 [7] [0, 3, 4, 5, 6] (by kernel_rfl)
  (fun vals rov hp os => match vals, rov, hp with
    | [.one (.int .i64 i)], [.one (.sl (.pair (.int .u8) (.pair (.int .u8) (.pair (.int .u8) (.pair (.int .u8) (.pair (.int .u8) (.pair .bool .unit)))))) l .shared), .one (.ptr 1 0), .one (.ptr 2 0), .one (.ptr 3 0), .one (.ptr 4 0)], [.mp (.pair .str (.pair .str .unit)) (.pair .str (.pair .str (.pair (.int .u64) (.pair .bool (.pair .str .unit))))) true true M, .cells [.mref 0], .cells [.int .u64 c0, .int .u64 c1, .int .u64 c2, .int .u64 c3], .cells [.str v0, .str v1, .str v2, .str v3, .str v4, .str v5, .str v6, .str v7, .str v8, .str v9, .str v10, .str v11], .cells [.int .u64 w0, .int .u64 w1, .int .u64 w2, .int .u64 w3, .int .u64 w4, .int .u64 w5, .int .u64 w6, .int .u64 w7, .int .u64 w8, .int .u64 w9, .int .u64 w10, .int .u64 w11]] =>
      retC (.exit 0, [vX], hp5 (lEnd l).2.1 (lEnd l).2.2.1 (lEnd l).2.2.2.1 (lEnd l).2.2.2.2) [decide (i = 0), M.isEmpty, actOk l, decide (c0 = 0) && (decide (c1 = 0) && (decide (c2 = 0) && (decide (c3 = 0) && (decide (w0 = 0) && (decide (w1 = 0) && (decide (w2 = 0) && (decide (w3 = 0) && (decide (w4 = 0) && (decide (w5 = 0) && (decide (w6 = 0) && (decide (w7 = 0) && (decide (w8 = 0) && (decide (w9 = 0) && (decide (w10 = 0) && (decide (w11 = 0) && (decide (v0.size = 0) && (decide (v1.size = 0) && (decide (v2.size = 0) && (decide (v3.size = 0) && (decide (v4.size = 0) && (decide (v5.size = 0) && (decide (v6.size = 0) && (decide (v7.size = 0) && (decide (v8.size = 0) && (decide (v9.size = 0) && (decide (v10.size = 0) && (decide (v11.size = 0))))))))))))))))))))))))))))] os
    | _, _, _ => none)
  (fun vals rov hp os e outs hp' cs os' h hc => by
    split at h
    · rename_i i l M c0 c1 c2 c3 v0 v1 v2 v3 v4 v5 v6 v7 v8 v9 v10 v11 w0 w1 w2 w3 w4 w5 w6 w7 w8 w9 w10 w11
      simp only [retC, Option.some.injEq, Prod.mk.injEq] at h
      obtain ⟨⟨rfl, rfl, rfl⟩, rfl, rfl⟩ := h
      obtain ⟨h1, hc⟩ := of_allTc hc
      obtain ⟨h2, hc⟩ := of_allTc hc
      obtain ⟨h3, hc⟩ := of_allTc hc
      obtain ⟨h4, _⟩ := of_allTc hc
      have h2 := List.isEmpty_iff.1 h2
      simp only [Bool.and_eq_true, decide_eq_true_eq] at h1 h4
      obtain ⟨zc0, zc1, zc2, zc3, zw0, zw1, zw2, zw3, zw4, zw5, zw6, zw7, zw8, zw9, zw10, zw11, zv0, zv1, zv2, zv3, zv4, zv5, zv6, zv7, zv8, zv9, zv10, zv11⟩ := h4
      subst h1; subst h2
      subst zc0; subst zc1; subst zc2; subst zc3; subst zw0; subst zw1; subst zw2; subst zw3; subst zw4; subst zw5; subst zw6; subst zw7; subst zw8; subst zw9; subst zw10; subst zw11
      rw [emp zv0, emp zv1, emp zv2, emp zv3, emp zv4, emp zv5, emp zv6, emp zv7, emp zv8, emp zv9, emp zv10, emp zv11]
      exact last_loop l (actOk_wf h3) lStart (lEnd l) ⟨by show 0 ≤ 80; omega, inv0, rfl⟩
    · cases h)
noncomputable def EMw : Env Try.prog := EMw1.addL 4 39 lLb_eq 180 [14] [3, 5, 6] (by kernel_rfl)
  (fun vals rov hp os => match vals, rov, hp with
    | [.one (.int .i64 i)], [.one (.ptr 1 0), .one (.ptr 3 0), .one (.ptr 4 0)], [.mp (.pair .str (.pair .str .unit)) (.pair .str (.pair .str (.pair (.int .u64) (.pair .bool (.pair .str .unit))))) true true M, .cells [.mref 0], .cells [.int .u64 c0, .int .u64 c1, .int .u64 c2, .int .u64 c3], .cells [.str v0, .str v1, .str v2, .str v3, .str v4, .str v5, .str v6, .str v7, .str v8, .str v9, .str v10, .str v11], .cells [.int .u64 w0, .int .u64 w1, .int .u64 w2, .int .u64 w3, .int .u64 w4, .int .u64 w5, .int .u64 w6, .int .u64 w7, .int .u64 w8, .int .u64 w9, .int .u64 w10, .int .u64 w11]] =>
      retC (.exit 3, [vX], [.mp (.pair .str (.pair .str .unit)) (.pair .str (.pair .str (.pair (.int .u64) (.pair .bool (.pair .str .unit))))) true true M, .cells [.mref 0], .cells [.int .u64 c0, .int .u64 c1, .int .u64 c2, .int .u64 c3], .cells [.str v0, .str v1, .str v2, .str v3, .str v4, .str v5, .str v6, .str v7, .str v8, .str v9, .str v10, .str v11], .cells [.int .u64 w0, .int .u64 w1, .int .u64 w2, .int .u64 w3, .int .u64 w4, .int .u64 w5, .int .u64 w6, .int .u64 w7, .int .u64 w8, .int .u64 w9, .int .u64 w10, .int .u64 w11]]) [decide (i = 0), okI M (fun k => [c0, c1, c2, c3].getD k 0) (fun k => [w0, w1, w2, w3, w4, w5, w6, w7, w8, w9, w10, w11].getD k 0) (fun k => [v0, v1, v2, v3, v4, v5, v6, v7, v8, v9, v10, v11].getD k e0B)] os
    | _, _, _ => none)
  (fun vals rov hp os e outs hp' cs os' h hc => by
    split at h
    · rename_i i M c0 c1 c2 c3 v0 v1 v2 v3 v4 v5 v6 v7 v8 v9 v10 v11 w0 w1 w2 w3 w4 w5 w6 w7 w8 w9 w10 w11
      simp only [retC, Option.some.injEq, Prod.mk.injEq] at h
      obtain ⟨⟨rfl, rfl, rfl⟩, rfl, rfl⟩ := h
      obtain ⟨h1, hc⟩ := of_allTc hc
      obtain ⟨h2, _⟩ := of_allTc hc
      simp only [decide_eq_true_eq] at h1
      subst h1
      obtain ⟨n, I⟩ := okI_iff.1 h2
      exact got_loop M (fun k => [c0, c1, c2, c3].getD k 0) (fun k => [v0, v1, v2, v3, v4, v5, v6, v7, v8, v9, v10, v11].getD k e0B) (fun k => [w0, w1, w2, w3, w4, w5, w6, w7, w8, w9, w10, w11].getD k 0) I
    · cases h)
open Go Go.Eng

theorem MInv.congr {M : MapT} {C C' W W' : Nat → Int} {V V' : Nat → ByteArray} {n : Int} (I : MInv M C W V n) (hC : ∀ r, r < 4 → C' r = C r) (hW : ∀ j, j < 12 → W' j = W j) (hV : ∀ j, j < 12 → V' j = V j) : MInv M C' W' V' n := by
  refine ⟨fun r hr => ?_, fun r hr c hc => ?_, fun r hr => ?_, fun j hj => ?_⟩
  · rw [hC r hr]; exact I.cnt r hr
  · rw [hW _ (by omega), hV _ (by omega)]; exact I.cell r hr c hc
  · rw [hC r hr]; exact I.pos r hr
  · rw [hW j hj]; exact I.vpos j hj
theorem list4 (C : Nat → Int) : ∀ r, r < 4 → ([C 0, C 1, C 2, C 3] : List Int).getD r 0 = C r := fun r hr => by
  have : r = 0 ∨ r = 1 ∨ r = 2 ∨ r = 3 := by omega
  rcases this with rfl | rfl | rfl | rfl <;> rfl
theorem list12 {α : Type} (d : α) (W : Nat → α) : ∀ r, r < 12 → ([W 0, W 1, W 2, W 3, W 4, W 5, W 6, W 7, W 8, W 9, W 10, W 11] : List α).getD r d = W r := fun r hr => by
  have : r = 0 ∨ r = 1 ∨ r = 2 ∨ r = 3 ∨ r = 4 ∨ r = 5 ∨ r = 6 ∨ r = 7 ∨ r = 8 ∨ r = 9 ∨ r = 10 ∨ r = 11 := by omega
  rcases this with rfl | rfl | rfl | rfl | rfl | rfl | rfl | rfl | rfl | rfl | rfl | rfl <;> rfl
abbrev sAl : List PT := [.one (.sl rAct)]
theorem last_law (d : dens sAl) (h : WFs sAl d) : PureCall Try.prog 4 (encs sAl d) (vB true) := by
  obtain ⟨l, _⟩ := d
  have hw : ∀ x ∈ l, WF rAct x := h.1.2
  have h1 := wf_actOk hw
  obtain ⟨n, _, I⟩ := lfin_inv hw 80 lStart rfl inv0
  have h2 : okI (lEnd l).2.1 (fun k => [(lEnd l).2.2.1 0, (lEnd l).2.2.1 1, (lEnd l).2.2.1 2, (lEnd l).2.2.1 3].getD k 0) (fun k => [(lEnd l).2.2.2.2 0, (lEnd l).2.2.2.2 1, (lEnd l).2.2.2.2 2, (lEnd l).2.2.2.2 3, (lEnd l).2.2.2.2 4, (lEnd l).2.2.2.2 5, (lEnd l).2.2.2.2 6, (lEnd l).2.2.2.2 7, (lEnd l).2.2.2.2 8, (lEnd l).2.2.2.2 9, (lEnd l).2.2.2.2 10, (lEnd l).2.2.2.2 11].getD k 0) (fun k => [(lEnd l).2.2.2.1 0, (lEnd l).2.2.2.1 1, (lEnd l).2.2.2.1 2, (lEnd l).2.2.2.1 3, (lEnd l).2.2.2.1 4, (lEnd l).2.2.2.1 5, (lEnd l).2.2.2.1 6, (lEnd l).2.2.2.1 7, (lEnd l).2.2.2.1 8, (lEnd l).2.2.2.1 9, (lEnd l).2.2.2.1 10, (lEnd l).2.2.2.1 11].getD k e0B) = true :=
    okI_iff.2 ⟨n, MInv.congr I (list4 _) (list12 0 _) (list12 e0B _)⟩
  show PureCall Try.prog _ [.one (.sl rAct l .shared)] _
  exact EMw.pure_ok (os := [false]) (cs := [(decide (0 = 0)), (okI (lEnd l).snd.fst (fun k => [(lEnd l).snd.snd.fst 0, (lEnd l).snd.snd.fst 1, (lEnd l).snd.snd.fst 2, (lEnd l).snd.snd.fst 3].getD k 0) (fun k => [(lEnd l).snd.snd.snd.snd 0, (lEnd l).snd.snd.snd.snd 1, (lEnd l).snd.snd.snd.snd 2, (lEnd l).snd.snd.snd.snd 3, (lEnd l).snd.snd.snd.snd 4, (lEnd l).snd.snd.snd.snd 5, (lEnd l).snd.snd.snd.snd 6, (lEnd l).snd.snd.snd.snd 7, (lEnd l).snd.snd.snd.snd 8, (lEnd l).snd.snd.snd.snd 9, (lEnd l).snd.snd.snd.snd 10, (lEnd l).snd.snd.snd.snd 11].getD k 0) fun k => [(lEnd l).snd.snd.snd.fst 0, (lEnd l).snd.snd.snd.fst 1, (lEnd l).snd.snd.snd.fst 2, (lEnd l).snd.snd.snd.fst 3, (lEnd l).snd.snd.snd.fst 4, (lEnd l).snd.snd.snd.fst 5, (lEnd l).snd.snd.snd.fst 6, (lEnd l).snd.snd.snd.fst 7, (lEnd l).snd.snd.snd.fst 8, (lEnd l).snd.snd.snd.fst 9, (lEnd l).snd.snd.snd.fst 10, (lEnd l).snd.snd.snd.fst 11].getD k e0B), (decide (0 = 0)), true, (actOk l), (decide (0 = 0) && (decide (0 = 0) && (decide (0 = 0) && (decide (0 = 0) && (decide (0 = 0) && (decide (0 = 0) && (decide (0 = 0) && (decide (0 = 0) && (decide (0 = 0) && (decide (0 = 0) && (decide (0 = 0) && (decide (0 = 0) && (decide (0 = 0) && (decide (0 = 0) && (decide (0 = 0) && (decide (0 = 0) && (decide ((ByteArray.mk #[]).size = 0) && (decide ((ByteArray.mk #[]).size = 0) && (decide ((ByteArray.mk #[]).size = 0) && (decide ((ByteArray.mk #[]).size = 0) && (decide ((ByteArray.mk #[]).size = 0) && (decide ((ByteArray.mk #[]).size = 0) && (decide ((ByteArray.mk #[]).size = 0) && (decide ((ByteArray.mk #[]).size = 0) && (decide ((ByteArray.mk #[]).size = 0) && (decide ((ByteArray.mk #[]).size = 0) && (decide ((ByteArray.mk #[]).size = 0) && decide ((ByteArray.mk #[]).size = 0)))))))))))))))))))))))))))), (false == false)]) (by kernel_rfl) (allI (by rw [h1, h2]; rfl))
end Go.Proofs.Ytolhkkoakneflaa
