/- Put: its loop; no statement. -/
import Derived.Test.YtmbekpoelkcceaaLog
set_option linter.unusedVariables false
set_option linter.unusedSimpArgs false
namespace Go.Proofs.Ytmbekpoelkcceaa
open Go Go.Eng

noncomputable def lPut : Code := (theLoop Try.prog 12 12).getD .skip
theorem lPut_eq : theLoop Try.prog 12 12 = some lPut := by kernel_rfl

abbrev hasE (x : List rEntry.den) (e : rEntry.den) : Bool := hasT x e.1 e.2.1
theorem putL_cons (x : List rEntry.den) (e : rEntry.den) (r : List rEntry.den) : putL x (e :: r) = if hasE x e then putL x r else (x.take (e.1.toNat - 1) ++ e :: r, e.1) := rfl
theorem drop_getD {α : Type} {l : List α} {k : Nat} {d : α} (h : k < l.length) : l.drop k = l.getD k d :: l.drop (k + 1) := by
  rw [List.drop_eq_getElem_cons h]
  congr 1
  rw [List.getD_eq_getElem?_getD, List.getElem?_eq_getElem h]; rfl
theorem all_drop {α : Type} {p : α → Bool} {l : List α} (h : l.all p = true) (k : Nat) : (l.drop k).all p = true :=
  List.all_eq_true.2 fun y hy => List.all_eq_true.1 h y (List.mem_of_mem_drop hy)

/-- Entries that follow a place, of which a log may take what it has not. -/
structure PutOk (i : Nat) (x l : List rEntry.den) : Prop where
  hx : x.length ≤ 1000
  hl : l.length ≤ 1000
  hi : i ≤ x.length
  ix : ∀ k, k < l.length → (l.getD k rEntry.dflt).1 = ((i + k + 1 : Nat) : Int)
  fits : l.all entFits = true

theorem put_loop (i : Nat) (x l : List rEntry.den) (last : Int) (H : PutOk i x l) (b : Bool) (hb : l.all (hasE x) = b) :
    LoopOk Try.prog lPut 115 [58, 8, 9, 10] [0, 3, 56, 57] [vI 0, vU last, vU 0, vB false] [.one (.ptr 1 0), vL rEntry l, vL rEntry l, vI l.length] [baB, logB x .shared] (if b then .exit 1 else .ret)
      (if b then [vX, vU last, vU 0, vB false] else [vX, vU last, vU (putL x l).2, vB true]) [baB, logB (putL x l).1 .shared] := by
  have hx := H.hx
  have hl := H.hl
  refine LoopOk.rounds (S := Nat) ESam lPut_eq (by kernel_rfl) (fun k => [vI k, vU last, vU 0, vB false]) (fun _ => [baB, logB x .shared]) (fun k => k ≤ l.length ∧ i + k ≤ x.length ∧ putL x (l.drop k) = putL x l ∧ (l.drop k).all (hasE x) = b) (fun k => l.length - k) 0 ⟨Nat.zero_le _, H.hi, rfl, hb⟩ ?_ (fun _ _ => rfl)
  intro k ⟨hk, hik, hp, hbk⟩
  by_cases hlt : k < l.length
  · have hin : inB (k : Int) l.length = true := inB_of (by omega) (by omega)
    have dk : decide ((k : Int) < ((l.length : Nat) : Int)) = true := decide_eq_true (by omega)
    have e1 := H.ix k hlt
    rw [drop_getD (d := rEntry.dflt) hlt] at hp hbk
    rw [putL_cons] at hp
    rw [List.all_cons] at hbk
    have w0 : IntKind.u64.wrap ((l.getD k rEntry.dflt).fst - 0) = ((i + k + 1 : Nat) : Int) := by rw [e1, wrapU64 (by omega) (by omega)]; omega
    have w1 : IntKind.u64.wrap (((i + k + 1 : Nat) : Int) - 1) = ((i + k : Nat) : Int) := by rw [wrapU64 (by omega) (by omega)]; omega
    have w2 : IntKind.i64.wrap ((i + k : Nat) : Int) = ((i + k : Nat) : Int) := wrap64 (by omega) (by omega)
    have wl : IntKind.u64.wrap ((x.length : Nat) : Int) = ((x.length : Nat) : Int) := wrapU64 (by omega) (by omega)
    have n0 : decide ((l.getD k rEntry.dflt).fst ≤ 0) = false := decide_eq_false (fun h => by have h' : ((i + k + 1 : Nat) : Int) ≤ 0 := e1 ▸ h; omega)
    have n1 : ((l.getD k rEntry.dflt).fst == 0) = false := beq_eq_false_iff_ne.2 (fun h => by have h' : ((i + k + 1 : Nat) : Int) = 0 := e1 ▸ h; omega)
    have hw : vI (IntKind.i64.wrap ((k : Int) + 1)) = vI ((k + 1 : Nat) : Int) := by rw [wrap64 (by omega) (by omega)]; rfl
    have tk : (l.getD k rEntry.dflt).fst.toNat - 1 = i + k := by rw [e1]; omega
    have hh : hasE x (l.getD k rEntry.dflt) = (decide (((i + k + 1 : Nat) : Int) ≤ x.length) && decide ((x.getD (i + k) rEntry.dflt).2.1 = (l.getD k rEntry.dflt).2.1)) := by
      show hasT x _ _ = _
      unfold hasT
      rw [tk, e1, if_neg (by omega)]
    have ht : ∀ y : List rEntry.den, List.drop (Int.toNat 0) y = y := fun y => by rw [Int.toNat_zero, List.drop_zero]
    have hlt2 : List.take (((l.length : Nat) : Int)).toNat l = l := by rw [Int.toNat_natCast, List.take_length]
    have tn : (((i + k : Nat) : Int)).toNat = i + k := Int.toNat_natCast _
    have q1 : (x.take (i + k)).length ≤ 1000 := Nat.le_trans (List.length_take_le' _ _) hx
    have q2 : (l.drop k).length ≤ 1000 := by rw [List.length_drop]; exact Nat.le_trans (Nat.sub_le _ _) hl
    have z1 : Nat.ble (((x.take (i + k)).length + (l.drop k).length) * 264) 140737488355328 = true := by rw [Nat.ble_eq]; omega
    have z2 : Nat.ble ((x.take (i + k)).length + (l.drop k).length) maxLen = true := by rw [Nat.ble_eq]; unfold maxLen; omega
    have z3 : Nat.ble ((l.drop k).length * 264) 140737488355328 = true := by rw [Nat.ble_eq, List.length_drop]; omega
    have z4 : (l.drop k).all entFits = true := all_drop H.fits k
    have z5 : (l.drop k).isEmpty = false := by rw [drop_getD (d := rEntry.dflt) hlt]; rfl
    have z6 : decide (0 ≤ ((k : Nat) : Int) ∧ ((k : Nat) : Int) ≤ ((l.length : Nat) : Int) ∧ ((l.length : Nat) : Int) ≤ ((l.length : Nat) : Int)) = true := decide_eq_true ⟨by omega, by omega, by omega⟩
    have z7 : decide ((0 : Int) ≤ 0 ∧ 0 ≤ IntKind.i64.wrap (IntKind.u64.wrap (IntKind.u64.wrap ((l.getD k rEntry.dflt).fst - 0) - 1)) ∧ IntKind.i64.wrap (IntKind.u64.wrap (IntKind.u64.wrap ((l.getD k rEntry.dflt).fst - 0) - 1)) ≤ ((x.length : Nat) : Int) ∧ IntKind.i64.wrap (IntKind.u64.wrap (IntKind.u64.wrap ((l.getD k rEntry.dflt).fst - 0) - 1)) = IntKind.i64.wrap (IntKind.u64.wrap (IntKind.u64.wrap ((l.getD k rEntry.dflt).fst - 0) - 1))) = true := decide_eq_true (by rw [w0, w1, w2]; exact ⟨by omega, by omega, by omega, rfl⟩)
    by_cases hlen : ((i + k + 1 : Nat) : Int) ≤ x.length
    · have g1 : decide (((i + k + 1 : Nat) : Int) > ((x.length : Nat) : Int)) = false := decide_eq_false (by omega)
      have g2 : inB ((i + k : Nat) : Int) x.length = true := inB_of (by omega) (by omega)
      rw [decide_eq_true hlen, Bool.true_and] at hh
      by_cases hterm : (x.getD (i + k) rEntry.dflt).2.1 = (l.getD k rEntry.dflt).2.1
      · have g3 : ((x.getD (i + k) rEntry.dflt).snd.fst == (l.getD k rEntry.dflt).snd.fst) = true := beq_iff_eq.2 hterm
        rw [decide_eq_true hterm] at hh
        rw [hh, if_pos rfl] at hp
        rw [hh, Bool.true_and] at hbk
        exact OneRound.goT [true, false, false, false, false, false, false, false, false, false, false, false, false, false, false, false, false, false, false, false, false, false, false, false, false, false, false, true, true, true, true, true, true] (vs := [vI (IntKind.i64.wrap (k + 1)), vU last, vU 0, vB false]) (hp' := [baB, logB x .shared]) (cs := [(((x.getD (IntKind.i64.wrap (IntKind.u64.wrap (IntKind.u64.wrap ((l.getD k rEntry.dflt).fst - 0) - 1))).toNat rEntry.dflt).snd.fst == (l.getD k rEntry.dflt).snd.fst) == true), (true == true), (true == true), (true == true), (true == true), (true == true), (inB (IntKind.i64.wrap (IntKind.u64.wrap (IntKind.u64.wrap ((l.getD k rEntry.dflt).fst - 0) - 1))) x.length), ((!true) == false), (decide (IntKind.u64.wrap ((l.getD k rEntry.dflt).fst - 0) > IntKind.u64.wrap ((x.length : Nat) : Int)) == false), (decide ((l.getD k rEntry.dflt).fst ≤ 0) == false), (decide ((l.getD k rEntry.dflt).fst ≤ 0) == false), (decide ((l.getD k rEntry.dflt).fst ≤ 0) == false), (decide ((l.getD k rEntry.dflt).fst ≤ 0) == false), (decide ((l.getD k rEntry.dflt).fst ≤ 0) == false), (decide ((l.getD k rEntry.dflt).fst ≤ 0) == false), (decide ((l.getD k rEntry.dflt).fst ≤ 0) == false), (decide ((l.getD k rEntry.dflt).fst ≤ 0) == false), (decide ((l.getD k rEntry.dflt).fst ≤ 0) == false), (decide ((l.getD k rEntry.dflt).fst ≤ 0) == false), (decide ((l.getD k rEntry.dflt).fst ≤ 0) == false), (decide ((l.getD k rEntry.dflt).fst ≤ 0) == false), (decide ((l.getD k rEntry.dflt).fst ≤ 0) == false), (decide ((l.getD k rEntry.dflt).fst ≤ 0) == false), (decide ((l.getD k rEntry.dflt).fst ≤ 0) == false), (((l.getD k rEntry.dflt).fst == 0) == false), ((!true) == false), (false == false), (false == false), (false == false), (false == false), (false == false), (false == false), (decide ((l.getD k rEntry.dflt).fst ≤ 0) == false), (inB (((k : Nat) : Int)) l.length), (decide (((k : Nat) : Int) < ((l.length : Nat) : Int)) == true)]) (fun rest => by kernel_rfl)
          (allI (by simp only [w0, w1, w2, wl, n0, n1, tn, g1, g2, g3, hin, dk]; rfl)) (k + 1) ⟨hlt, by omega, hp, hbk⟩ (by omega) ⟨.of_eq hw, .refl, .refl, .refl, trivial⟩ rfl (by simp [idsLt, idsV, idsC, idsB])
      · have g3 : ((x.getD (i + k) rEntry.dflt).snd.fst == (l.getD k rEntry.dflt).snd.fst) = false := beq_eq_false_iff_ne.2 hterm
        rw [decide_eq_false hterm] at hh
        rw [hh, if_neg (by decide)] at hp
        rw [hh, Bool.false_and] at hbk
        subst hbk
        rw [← hp, tk]
        exact OneRound.stopS [true, false, false, false, false, false, false, false, false, false, false, false, false, false, false, false, false, false, false, false, false, false, false, false, false, false, false, true, true, true, true, true, false, false] (vs := [vI k, vU last, vU (l.getD k rEntry.dflt).1, vB true]) (hp' := [baB, logB (List.drop (Int.toNat 0) (List.take (IntKind.i64.wrap (IntKind.u64.wrap (IntKind.u64.wrap ((l.getD k rEntry.dflt).fst - 0) - 1))).toNat x) ++ List.drop k (List.take (((l.length : Nat) : Int)).toNat l)) (.own 3 0)]) (cs := [((((List.drop (Int.toNat 0) (List.take (IntKind.i64.wrap (IntKind.u64.wrap (IntKind.u64.wrap ((l.getD k rEntry.dflt).fst - 0) - 1))).toNat x)).length + (List.drop k (List.take (((l.length : Nat) : Int)).toNat l)).length) * 264).ble 140737488355328 && ((List.drop (Int.toNat 0) (List.take (IntKind.i64.wrap (IntKind.u64.wrap (IntKind.u64.wrap ((l.getD k rEntry.dflt).fst - 0) - 1))).toNat x)).length + (List.drop k (List.take (((l.length : Nat) : Int)).toNat l)).length).ble maxLen), ((List.drop k (List.take (((l.length : Nat) : Int)).toNat l)).isEmpty == false), (((List.drop k (List.take (((l.length : Nat) : Int)).toNat l)).length * 264).ble 140737488355328), ((List.drop k (List.take (((l.length : Nat) : Int)).toNat l)).all entFits), (decide (0 ≤ ((k : Nat) : Int) ∧ ((k : Nat) : Int) ≤ ((l.length : Nat) : Int) ∧ ((l.length : Nat) : Int) ≤ ((l.length : Nat) : Int))), (decide ((0 : Int) ≤ 0 ∧ 0 ≤ IntKind.i64.wrap (IntKind.u64.wrap (IntKind.u64.wrap ((l.getD k rEntry.dflt).fst - 0) - 1)) ∧ IntKind.i64.wrap (IntKind.u64.wrap (IntKind.u64.wrap ((l.getD k rEntry.dflt).fst - 0) - 1)) ≤ ((x.length : Nat) : Int) ∧ IntKind.i64.wrap (IntKind.u64.wrap (IntKind.u64.wrap ((l.getD k rEntry.dflt).fst - 0) - 1)) = IntKind.i64.wrap (IntKind.u64.wrap (IntKind.u64.wrap ((l.getD k rEntry.dflt).fst - 0) - 1)))), (((x.getD (IntKind.i64.wrap (IntKind.u64.wrap (IntKind.u64.wrap ((l.getD k rEntry.dflt).fst - 0) - 1))).toNat rEntry.dflt).snd.fst == (l.getD k rEntry.dflt).snd.fst) == false), (true == true), (true == true), (true == true), (true == true), (true == true), (inB (IntKind.i64.wrap (IntKind.u64.wrap (IntKind.u64.wrap ((l.getD k rEntry.dflt).fst - 0) - 1))) x.length), ((!true) == false), (decide (IntKind.u64.wrap ((l.getD k rEntry.dflt).fst - 0) > IntKind.u64.wrap ((x.length : Nat) : Int)) == false), (decide ((l.getD k rEntry.dflt).fst ≤ 0) == false), (decide ((l.getD k rEntry.dflt).fst ≤ 0) == false), (decide ((l.getD k rEntry.dflt).fst ≤ 0) == false), (decide ((l.getD k rEntry.dflt).fst ≤ 0) == false), (decide ((l.getD k rEntry.dflt).fst ≤ 0) == false), (decide ((l.getD k rEntry.dflt).fst ≤ 0) == false), (decide ((l.getD k rEntry.dflt).fst ≤ 0) == false), (decide ((l.getD k rEntry.dflt).fst ≤ 0) == false), (decide ((l.getD k rEntry.dflt).fst ≤ 0) == false), (decide ((l.getD k rEntry.dflt).fst ≤ 0) == false), (decide ((l.getD k rEntry.dflt).fst ≤ 0) == false), (decide ((l.getD k rEntry.dflt).fst ≤ 0) == false), (decide ((l.getD k rEntry.dflt).fst ≤ 0) == false), (decide ((l.getD k rEntry.dflt).fst ≤ 0) == false), (decide ((l.getD k rEntry.dflt).fst ≤ 0) == false), (((l.getD k rEntry.dflt).fst == 0) == false), ((!true) == false), (false == false), (false == false), (false == false), (false == false), (false == false), (false == false), (decide ((l.getD k rEntry.dflt).fst ≤ 0) == false), (inB (((k : Nat) : Int)) l.length), (decide (((k : Nat) : Int) < ((l.length : Nat) : Int)) == true)]) (fun rest => by kernel_rfl)
          (allI (by simp only [↓z7, w0, w1, w2, wl, n0, n1, tn, g1, g2, g3, hin, dk, ht, hlt2, z1, z2, z3, z4, z5, z6]; rfl)) (by simp) ⟨.unk, .refl, .refl, .refl, trivial⟩ (by rw [ht, hlt2, w0, w1, w2, tn, drop_getD (d := rEntry.dflt) hlt]; rfl) (by simp [idsLt, idsV, idsC, idsB])
    · have g1 : decide (((i + k + 1 : Nat) : Int) > ((x.length : Nat) : Int)) = true := decide_eq_true (by omega)
      rw [decide_eq_false hlen, Bool.false_and] at hh
      rw [hh, if_neg (by decide)] at hp
      rw [hh, Bool.false_and] at hbk
      subst hbk
      rw [← hp, tk]
      exact OneRound.stopS [true, false, false, false, false, false, false, false, false, false, false, false, false, false, false, false, false, false, false, false, false, false, false, false, false, true, true, false, false, false, false, false, false, false] (vs := [vI k, vU last, vU (l.getD k rEntry.dflt).1, vB true]) (hp' := [baB, logB (List.drop (Int.toNat 0) (List.take (IntKind.i64.wrap (IntKind.u64.wrap (IntKind.u64.wrap ((l.getD k rEntry.dflt).fst - 0) - 1))).toNat x) ++ List.drop k (List.take (((l.length : Nat) : Int)).toNat l)) (.own 3 0)]) (cs := [((((List.drop (Int.toNat 0) (List.take (IntKind.i64.wrap (IntKind.u64.wrap (IntKind.u64.wrap ((l.getD k rEntry.dflt).fst - 0) - 1))).toNat x)).length + (List.drop k (List.take (((l.length : Nat) : Int)).toNat l)).length) * 264).ble 140737488355328 && ((List.drop (Int.toNat 0) (List.take (IntKind.i64.wrap (IntKind.u64.wrap (IntKind.u64.wrap ((l.getD k rEntry.dflt).fst - 0) - 1))).toNat x)).length + (List.drop k (List.take (((l.length : Nat) : Int)).toNat l)).length).ble maxLen), ((List.drop k (List.take (((l.length : Nat) : Int)).toNat l)).isEmpty == false), (((List.drop k (List.take (((l.length : Nat) : Int)).toNat l)).length * 264).ble 140737488355328), ((List.drop k (List.take (((l.length : Nat) : Int)).toNat l)).all entFits), (decide (0 ≤ ((k : Nat) : Int) ∧ ((k : Nat) : Int) ≤ ((l.length : Nat) : Int) ∧ ((l.length : Nat) : Int) ≤ ((l.length : Nat) : Int))), (decide ((0 : Int) ≤ 0 ∧ 0 ≤ IntKind.i64.wrap (IntKind.u64.wrap (IntKind.u64.wrap ((l.getD k rEntry.dflt).fst - 0) - 1)) ∧ IntKind.i64.wrap (IntKind.u64.wrap (IntKind.u64.wrap ((l.getD k rEntry.dflt).fst - 0) - 1)) ≤ ((x.length : Nat) : Int) ∧ IntKind.i64.wrap (IntKind.u64.wrap (IntKind.u64.wrap ((l.getD k rEntry.dflt).fst - 0) - 1)) = IntKind.i64.wrap (IntKind.u64.wrap (IntKind.u64.wrap ((l.getD k rEntry.dflt).fst - 0) - 1)))), (false == false), (false == false), (false == false), (false == false), (false == false), (false == false), ((!false) == true), (decide (IntKind.u64.wrap ((l.getD k rEntry.dflt).fst - 0) > IntKind.u64.wrap ((x.length : Nat) : Int)) == true), (decide ((l.getD k rEntry.dflt).fst ≤ 0) == false), (decide ((l.getD k rEntry.dflt).fst ≤ 0) == false), (decide ((l.getD k rEntry.dflt).fst ≤ 0) == false), (decide ((l.getD k rEntry.dflt).fst ≤ 0) == false), (decide ((l.getD k rEntry.dflt).fst ≤ 0) == false), (decide ((l.getD k rEntry.dflt).fst ≤ 0) == false), (decide ((l.getD k rEntry.dflt).fst ≤ 0) == false), (decide ((l.getD k rEntry.dflt).fst ≤ 0) == false), (decide ((l.getD k rEntry.dflt).fst ≤ 0) == false), (decide ((l.getD k rEntry.dflt).fst ≤ 0) == false), (decide ((l.getD k rEntry.dflt).fst ≤ 0) == false), (decide ((l.getD k rEntry.dflt).fst ≤ 0) == false), (decide ((l.getD k rEntry.dflt).fst ≤ 0) == false), (decide ((l.getD k rEntry.dflt).fst ≤ 0) == false), (decide ((l.getD k rEntry.dflt).fst ≤ 0) == false), (((l.getD k rEntry.dflt).fst == 0) == false), ((!true) == false), (false == false), (false == false), (false == false), (false == false), (false == false), (false == false), (decide ((l.getD k rEntry.dflt).fst ≤ 0) == false), (inB (((k : Nat) : Int)) l.length), (decide (((k : Nat) : Int) < ((l.length : Nat) : Int)) == true)]) (fun rest => by kernel_rfl)
        (allI (by simp only [↓z7, w0, w1, w2, wl, n0, n1, tn, g1, hin, dk, ht, hlt2, z1, z2, z3, z4, z5, z6]; rfl)) (by simp) ⟨.unk, .refl, .refl, .refl, trivial⟩ (by rw [ht, hlt2, w0, w1, w2, tn, drop_getD (d := rEntry.dflt) hlt]; rfl) (by simp [idsLt, idsV, idsC, idsB])
  · have dk : decide ((k : Int) < ((l.length : Nat) : Int)) = false := decide_eq_false (by omega)
    rw [List.drop_of_length_le (by omega)] at hp hbk
    have hbk : true = b := hbk
    subst hbk
    rw [← hp]
    exact OneRound.stopT [false] (vs := [vI k, vU last, vU 0, vB false]) (hp' := [baB, logB x .shared]) (cs := [(decide (((k : Nat) : Int) < ((l.length : Nat) : Int)) == false)]) (fun rest => by kernel_rfl) (allI (by simp only [dk]; rfl)) (by simp) ⟨.unk, .refl, .refl, .refl, trivial⟩ rfl (by simp [idsLt, idsV, idsC, idsB])
end Go.Proofs.Ytmbekpoelkcceaa
