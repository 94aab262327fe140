/- Cells in order: a cell put among them, a seek among them: plain; no statement. -/
import Derived.Test.YtolhkkoakneflaaRw1
set_option linter.unusedVariables false
set_option linter.unusedSimpArgs false
namespace Go.Proofs.Ytolhkkoakneflaa
open Go Go.Eng

theorem less_list : ∀ a b : List UInt8, Op.bytesLess a b = decide (Lib.compareBytes a b < 0)
  | [], [] => rfl
  | [], _ :: _ => rfl
  | _ :: _, [] => rfl
  | a :: x, b :: y => by
    have e1 : Lib.compareBytes (a :: x) (b :: y) = if a < b then -1 else if b < a then 1 else Lib.compareBytes x y := rfl
    have e2 : Op.bytesLess (a :: x) (b :: y) = (decide (a < b) || (a == b && Op.bytesLess x y)) := rfl
    have ih := less_list x y
    rw [Bool.eq_iff_iff, decide_eq_true_eq, e1, e2, ih]
    by_cases h1 : a < b
    · rw [if_pos h1, decide_eq_true h1]
      exact ⟨fun _ => by omega, fun _ => rfl⟩
    · rw [if_neg h1, decide_eq_false h1, Bool.false_or]
      by_cases h2 : b < a
      · have h3 : (a == b) = false := beq_eq_false_iff_ne.2 fun e => by rw [e] at h2; simp only [UInt8.lt_iff_toNat_lt] at h2; omega
        rw [if_pos h2, h3]
        exact ⟨fun h => (by cases h), fun h => by omega⟩
      · have h3 : a = b := by
          apply UInt8.toNat_inj.1
          simp only [UInt8.lt_iff_toNat_lt] at h1 h2
          omega
        rw [if_neg h2, h3, beq_self_eq_true, Bool.true_and, decide_eq_true_eq]
theorem less_cmp (a b : ByteArray) : Op.bytesLess (ByteArray.toList a) (ByteArray.toList b) = decide (cmpB a b < 0) := by
  rw [ByteArray.toList_eq, ByteArray.toList_eq]; exact less_list _ _
theorem cmp3_B : Cmp3 cmpB := cmp3_bytes.on (fun x : ByteArray => x.data.toList)
theorem cmpB_refl (a : ByteArray) : cmpB a a = 0 := by have := cmp3_B.anti a a; omega
theorem cmpB_iff {a b : ByteArray} : cmpB a b = 0 ↔ a = b := ⟨cmpB_zero, fun e => by rw [e]; exact cmpB_refl b⟩
theorem eq_cmp (a b : ByteArray) : (ByteArray.toList a == ByteArray.toList b) = decide (cmpB a b = 0) := by
  rw [bl, Bool.eq_iff_iff, decide_eq_true_eq, cmpB_iff]; exact Go.MapKept.bytes_beq _ _
/-- The order of places. -/
def cmpP (x y : rCell.den) : Int := bif cmpB x.1 y.1 != 0 then cmpB x.1 y.1 else cmpB x.2.1 y.2.1
theorem cmp3_P : Cmp3 cmpP := (cmp3_B.on (fun x : rCell.den => x.1)).lex (cmp3_B.on (fun x : rCell.den => x.2.1))
theorem cmpP_iff {x y : rCell.den} : cmpP x y = 0 ↔ x.1 = y.1 ∧ x.2.1 = y.2.1 := by
  unfold cmpP
  by_cases h : cmpB x.1 y.1 = 0
  · rw [h]
    show cmpB x.2.1 y.2.1 = 0 ↔ _
    rw [cmpB_iff]
    exact ⟨fun e => ⟨cmpB_iff.1 h, e⟩, fun e => e.2⟩
  · rw [show (cmpB x.1 y.1 != 0) = true by simpa using h, cond_true]
    exact ⟨fun e => absurd e h, fun e => absurd (cmpB_iff.2 e.1) h⟩
theorem cmpP_cmpC {x y : rCell.den} (h : cmpP x y ≠ 0) : cmpC x y = cmpP x y := by
  unfold cmpC
  unfold cmpP at h ⊢
  by_cases h1 : cmpB x.1 y.1 = 0
  · rw [h1] at h ⊢
    have h : cmpB x.2.1 y.2.1 ≠ 0 := h
    show (bif cmpB x.2.1 y.2.1 != 0 then _ else _) = cmpB x.2.1 y.2.1
    rw [show (cmpB x.2.1 y.2.1 != 0) = true by simpa using h]; rfl
  · rw [show (cmpB x.1 y.1 != 0) = true by simpa using h1]; rfl
theorem cmpP_le {x y : rCell.den} (h : cmpP x y ≤ 0) : cmpB x.1 y.1 ≤ 0 := by
  unfold cmpP at h
  by_cases h1 : cmpB x.1 y.1 = 0
  · omega
  · rw [show (cmpB x.1 y.1 != 0) = true by simpa using h1] at h; exact h

/-! ### A place put among cells in order -/
def pstep (c : rCell.den) (st : List rCell.den × Bool) (x : rCell.den) : List rCell.den × Bool :=
  ((bif !st.2 && (decide (cmpP x c = 0) || decide (0 < cmpP x c)) then st.1 ++ [c] else st.1) ++ (bif decide (cmpP x c = 0) then [] else [x]), st.2 || (decide (cmpP x c = 0) || decide (0 < cmpP x c)))
def pF (c : rCell.den) (l : List rCell.den) : List rCell.den × Bool := l.foldl (pstep c) ([], false)
def putL (l : List rCell.den) (c : rCell.den) : List rCell.den := bif (pF c l).2 then (pF c l).1 else (pF c l).1 ++ [c]
theorem pF_succ {c : rCell.den} {l : List rCell.den} {k : Nat} (h : k < l.length) : pF c (l.take (k + 1)) = pstep c (pF c (l.take k)) (l.getD k rCell.dflt) := by
  unfold pF
  rw [List.take_add_one, getD_get (d := rCell.dflt) h, List.foldl_append]
  rfl
def mid (c : rCell.den) (l : List rCell.den) : List rCell.den := l.filter (fun x => decide (cmpP x c < 0)) ++ c :: l.filter (fun x => decide (0 < cmpP x c))
theorem pF_inv {c : rCell.den} {l : List rCell.den} (hl : l.Pairwise fun x y => cmpP x y < 0) : ∀ k, k ≤ l.length →
    ((pF c (l.take k)).2 = false → (∀ x ∈ l.take k, cmpP x c < 0) ∧ (pF c (l.take k)).1 = l.take k) ∧
    ((pF c (l.take k)).2 = true → (∃ x ∈ l.take k, 0 ≤ cmpP x c) ∧ (pF c (l.take k)).1 = mid c (l.take k))
  | 0, _ => ⟨fun _ => ⟨fun x hx => by simp at hx, rfl⟩, fun h => by cases h⟩
  | k + 1, hk => by
    have hlt : k < l.length := by omega
    obtain ⟨i1, i2⟩ := pF_inv hl k (by omega)
    rw [pF_succ hlt]
    have htk : l.take (k + 1) = l.take k ++ [l.getD k rCell.dflt] := by rw [List.take_add_one, getD_get (d := rCell.dflt) hlt]; rfl
    have hx : ∀ y ∈ l.take k, cmpP y (l.getD k rCell.dflt) < 0 := fun y hy => by
      obtain ⟨i, hi, e⟩ := List.getElem_of_mem hy
      rw [List.length_take] at hi
      rw [List.getElem_take] at e
      have := (List.pairwise_iff_getElem.1 hl) i k (by omega) hlt (by omega)
      rw [e] at this
      rwa [show l.getD k rCell.dflt = l[k] by rw [List.getD_eq_getElem?_getD, List.getElem?_eq_getElem hlt]; rfl]
    rw [htk]
    generalize l.getD k rCell.dflt = x at *
    generalize l.take k = p at *
    generalize hst : pF c p = st at *
    obtain ⟨out, d⟩ := st
    simp only at i1 i2
    unfold pstep mid
    simp only [List.filter_append, List.filter_cons, List.filter_nil]
    cases d with
    | false =>
      obtain ⟨a1, rfl⟩ := i1 rfl
      have f1 : out.filter (fun x => decide (cmpP x c < 0)) = out := List.filter_eq_self.2 fun y hy => decide_eq_true (a1 y hy)
      have f2 : out.filter (fun x => decide (0 < cmpP x c)) = [] := List.filter_eq_nil_iff.2 fun y hy => by have := a1 y hy; simp; omega
      rw [f1, f2]
      rcases Int.lt_trichotomy (cmpP x c) 0 with h | h | h
      · rw [decide_eq_false (show ¬ cmpP x c = 0 by omega), decide_eq_false (show ¬ 0 < cmpP x c by omega), decide_eq_true h]
        refine ⟨fun _ => ⟨fun y hy => ?_, rfl⟩, fun h => by cases h⟩
        rcases List.mem_append.1 hy with hy | hy
        · exact a1 y hy
        · rw [List.mem_singleton.1 hy]; exact h
      · rw [h]
        refine ⟨fun h => (by cases h), fun _ => ⟨⟨x, List.mem_append_right _ (List.mem_singleton.2 rfl), by omega⟩, ?_⟩⟩
        simp
      · rw [decide_eq_false (show ¬ cmpP x c = 0 by omega), decide_eq_true h, decide_eq_false (show ¬ cmpP x c < 0 by omega)]
        refine ⟨fun h => (by cases h), fun _ => ⟨⟨x, List.mem_append_right _ (List.mem_singleton.2 rfl), by omega⟩, ?_⟩⟩
        simp
    | true =>
      obtain ⟨⟨y, hy, hy0⟩, rfl⟩ := i2 rfl
      have hxc : 0 < cmpP x c := by
        have h1 := hx y hy
        have := cmp3_P.le x c y
        have a1 := cmp3_P.anti x y
        have a2 := cmp3_P.anti c y
        have := cmp3_P.le c x y
        have a3 := cmp3_P.anti x c
        have := cmp3_P.le y c x
        have := cmp3_P.le c y x
        have := cmp3_P.le y x c
        omega
      rw [decide_eq_false (show ¬ cmpP x c = 0 by omega), decide_eq_true hxc, decide_eq_false (show ¬ cmpP x c < 0 by omega)]
      refine ⟨fun h => (by cases h), fun _ => ⟨⟨y, List.mem_append_left _ hy, hy0⟩, ?_⟩⟩
      unfold mid
      simp
theorem putL_mid {c : rCell.den} {l : List rCell.den} (hl : l.Pairwise fun x y => cmpP x y < 0) : putL l c = mid c l := by
  obtain ⟨i1, i2⟩ := pF_inv (c := c) hl l.length (Nat.le_refl _)
  rw [List.take_length] at i1 i2
  unfold putL
  cases h : (pF c l).2 with
  | true => exact (i2 h).2
  | false =>
    obtain ⟨a1, a2⟩ := i1 h
    rw [a2]
    unfold mid
    rw [List.filter_eq_self.2 fun y hy => decide_eq_true (a1 y hy), List.filter_eq_nil_iff.2 fun y hy => by have := a1 y hy; simp; omega]
    rfl
theorem mid_pw {c : rCell.den} {l : List rCell.den} (hl : l.Pairwise fun x y => cmpP x y < 0) : (mid c l).Pairwise fun x y => cmpP x y < 0 := by
  unfold mid
  rw [List.pairwise_append]
  refine ⟨hl.filter _, List.pairwise_cons.2 ⟨fun y hy => ?_, hl.filter _⟩, fun x hx y hy => ?_⟩
  · have h := of_decide_eq_true (List.mem_filter.1 hy).2
    have := cmp3_P.anti y c
    omega
  · have h := of_decide_eq_true (List.mem_filter.1 hx).2
    rcases List.mem_cons.1 hy with rfl | hy
    · exact h
    · have h2 := of_decide_eq_true (List.mem_filter.1 hy).2
      have a1 := cmp3_P.anti x y
      have := cmp3_P.le y x c
      omega
theorem srt_pw {M : MapT} (I : MapInv M) : (srtG (valsM M)).Pairwise fun x y => cmpP x y < 0 := by
  have h1 := srtG_pw (valsM M)
  have h2 : Pl (srtG (valsM M)) := I.pl.perm (srtG_perm _)
  refine (h1.and h2).imp fun {x y} h => ?_
  have hne : cmpP x y ≠ 0 := fun e => h.2 (cmpP_iff.1 e)
  have := cmpP_cmpC hne
  have := h.1
  omega
theorem put_srt {M : MapT} (I : MapInv M) (c : rCell.den) : putL (srtG (valsM M)) c = srtG (valsM (aset (kOf c) c M)) := by
  have hS := srt_pw I
  have hm := mid_pw (c := c) hS
  have I' := I.set c
  rw [putL_mid hS]
  have nd : (mid c (srtG (valsM M))).Nodup := hm.imp fun {x y} h e => by rw [e] at h; have := cmp3_P.anti y y; omega
  symm
  refine sorted_one I'.pl.places ?_ (hm.imp fun {x y} h => by have := cmpP_cmpC (x := x) (y := y) (by omega); omega)
  refine (List.perm_ext_iff_of_nodup nd I'.pl.nodup).2 fun x => ?_
  have hx : x ∈ valsM (aset (kOf c) c M) ↔ alook (vt := rCell) (x.1, x.2.1, ()) (aset (kOf c) c M) = some x := ⟨fun h => I'.look.2 ⟨h, rfl, rfl⟩, fun h => (I'.look.1 h).1⟩
  have hx2 : x ∈ valsM M ↔ alook (vt := rCell) (x.1, x.2.1, ()) M = some x := ⟨fun h => I.look.2 ⟨h, rfl, rfl⟩, fun h => (I.look.1 h).1⟩
  have hS2 : x ∈ srtG (valsM M) ↔ x ∈ valsM M := (srtG_perm _).mem_iff
  rw [hx, alook_aset]
  unfold mid
  rw [List.mem_append, List.mem_cons, List.mem_filter, List.mem_filter, hS2, hx2]
  simp only [decide_eq_true_eq]
  by_cases h : cmpP x c = 0
  · obtain ⟨e1, e2⟩ := cmpP_iff.1 h
    rw [if_pos (by unfold kOf; rw [e1, e2])]
    constructor
    · rintro (⟨_, h1⟩ | h1 | ⟨_, h1⟩)
      · omega
      · rw [h1]
      · omega
    · intro h1
      injection h1 with h1
      exact .inr (.inl h1.symm)
  · rw [if_neg (fun e => h (cmpP_iff.2 (by unfold kOf at e; injection e with e1 e; injection e with e2; exact ⟨e1, e2⟩)))]
    constructor
    · rintro (⟨h1, _⟩ | h1 | ⟨h1, _⟩)
      · exact h1
      · rw [h1] at h; exact absurd (cmpP_iff.2 ⟨rfl, rfl⟩) h
      · exact h1
    · intro h1
      rcases Int.lt_trichotomy (cmpP x c) 0 with h2 | h2 | h2
      · exact .inl ⟨h1, h2⟩
      · exact absurd h2 h
      · exact .inr (.inr ⟨h1, h2⟩)
end Go.Proofs.Ytolhkkoakneflaa
