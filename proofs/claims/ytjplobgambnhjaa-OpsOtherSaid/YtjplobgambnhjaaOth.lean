/- OpsOther, its run; no statement. -/
import Derived.Test.YtjplobgambnhjaaOo0
set_option linter.unusedVariables false
namespace Go.Proofs.Ytjplobgambnhjaa
open Go Go.Eng
theorem uOk_of {n : Int} (h : WF cU n) : uOk n = true := by
  have h1 : (0 : Int) ≤ n := h.1
  have h2 : n ≤ 18446744073709551615 := h.2
  rw [uOk, decide_eq_true h1, decide_eq_true (show n < 18446744073709551616 by omega)]; rfl
theorem sl_ok {n : Nat} (h0 : 0 < n) (h : n ≤ 200000000) : decide ((0 : Int) ≤ 0 ∧ (0 : Int) ≤ IntKind.i64.wrap ((n : Int) - 1) ∧ IntKind.i64.wrap ((n : Int) - 1) ≤ (n : Int)) = true := by
  rw [wrap64 (by omega) (by omega)]
  exact decide_eq_true ⟨Int.le_refl 0, by omega, by omega⟩
theorem sl_eq (x : ByteArray) (h0 : 0 < x.size) (h : x.size ≤ 200000000) : decide (x.extract (Int.toNat 0) (IntKind.i64.wrap ((x.size : Int) - 1)).toNat = x.extract 0 (x.size - 1)) = true := by
  rw [wrap64 (by omega) (by omega)]
  refine decide_eq_true ?_
  congr 1
  omega
abbrev sEr : List PT := [.agg rEntry, .agg rRes]
theorem encS_B {e : rEntry.den} (h : entB e = true) : encS e = encB e := by unfold encS; rw [h]; rfl
theorem encRS_ok {d : rRes.den} (h : resOk d.1 d.2.2.1 d.2.2.2.1 d.2.2.2.2.1 = true) : encRS d = encRB d.1 d.2.1 d.2.2.1 d.2.2.2.1 d.2.2.2.2.1 ∧ encRE d = 0 := by unfold encRS encRE; rw [h]; exact ⟨rfl, rfl⟩
theorem encRS_no {d : rRes.den} (h : resOk d.1 d.2.2.1 d.2.2.2.1 d.2.2.2.2.1 = false) : encRS d = (ByteArray.mk #[]) ∧ encRE d = 2 := by unfold encRS encRE; rw [h]; exact ⟨rfl, rfl⟩
theorem other_tf (e : rEntry.den) (d : rRes.den) (l1 : decide (List.length e.2.2.2.2.1 ≤ 9223372036854775807) = true) (u1 : uOk e.1 = true) (u2 : uOk e.2.1 = true) (u3 : uOk e.2.2.2.1.2.2.1 = true) (u4 : uOk e.2.2.2.1.2.2.2.1 = true) (u5 : uOk e.2.2.2.1.2.2.2.2.2.1 = true) (u6 : uOk d.2.2.2.2.1 = true) (e1 : entB e = true) (e2 : entV e = 0) (h : DFe e) (r1 : encRS d = (ByteArray.mk #[])) (r2 : encRE d = 2) : PureCall Try.prog 8 [.agg (rEntry.cells e), .agg (rRes.cells d)] (vB true) := by
    have p1 : 0 < (encB e).size := h.2.2.2.1
    have p2 : (encB e).size ≤ 200000000 := Nat.le_trans h.2.2.2.2 (by decide)
    have p3 : decide ((encB e).size + (ByteArray.mk #[0]).size ≤ 9223372036854775807) = true := decide_eq_true (by rw [show (ByteArray.mk #[0]).size = 1 from rfl]; omega)
    refine PureCall.res ((addDe EEr e h).pure_ok (os := [false, true, true, false, true, false, false, false, false, false, false, false, false, false, false, false, false, false, false, true, true, true, true, true, true, true, true, true, true, true, true, true, true, true, true, true, true, true, true, true, true, true, true, true, true, true, true, true, true, true, true, true, true, true, true, true, true, true, true, true, true, true, true, true, true, true, true, true, true, true, true, true, true, true, true, true, true, true, true, true]) (r := (.one (.bool ((encRS d).toList == (ByteArray.mk #[]).toList)))) (cs := [((encRE d != 0) == true), (uOk d.snd.snd.snd.snd.fst), (false == false), (false == false), (false == false), (false == false), ((!sameE e e) == false), ((!sameE e e) == false), ((!sameE e e) == false), (false == false), (false == false), (false == false), (false == false), (false == false), (decide ((encS e).extract (Int.toNat 0) (IntKind.i64.wrap ((((encS e).size : Nat) : Int) - 1)).toNat = (encB e).extract 0 ((encB e).size - 1))), (decide ((0 : Int) ≤ 0 ∧ 0 ≤ IntKind.i64.wrap ((((encS e).size : Nat) : Int) - 1) ∧ IntKind.i64.wrap ((((encS e).size : Nat) : Int) - 1) ≤ (((encS e).size : Nat) : Int))), (decide (encS e ++ (ByteArray.mk #[0]) = encB e ++ (ByteArray.mk #[0]))), (decide ((encS e).size + (ByteArray.mk #[0]).size ≤ 9223372036854775807)), (decide (encS e = encB e)), ((entV e == 0) == true), (decide (List.length e.snd.snd.snd.snd.fst ≤ 9223372036854775807)), (uOk e.fst), (uOk e.snd.fst), (uOk e.snd.snd.snd.fst.snd.snd.fst), (uOk e.snd.snd.snd.fst.snd.snd.snd.fst), (uOk e.snd.snd.snd.fst.snd.snd.snd.snd.snd.fst), ((!true) == false)]) (by kernel_rfl) (allI ?_)) ?_
    · simp only [encS_B e1, sl_ok p1 p2, sl_eq _ p1 p2, p3, l1, u1, u2, u3, u4, u5, u6, beq_self_eq_true, sameE_refl, decide_true, Bool.not_true, Bool.not_false, bne_self_eq_false, Bool.and_self, Bool.and_true, List.all_cons, List.all_nil, baRefl, r2, r1, e2]
      try rfl
    · rw [r1, beq_self_eq_true]
theorem other_tt (e : rEntry.den) (d : rRes.den) (l1 : decide (List.length e.2.2.2.2.1 ≤ 9223372036854775807) = true) (u1 : uOk e.1 = true) (u2 : uOk e.2.1 = true) (u3 : uOk e.2.2.2.1.2.2.1 = true) (u4 : uOk e.2.2.2.1.2.2.2.1 = true) (u5 : uOk e.2.2.2.1.2.2.2.2.2.1 = true) (u6 : uOk d.2.2.2.2.1 = true) (e1 : entB e = true) (e2 : entV e = 0) (h : DFe e) (r2 : encRE d = 0) (hd : DFr d) : PureCall Try.prog 8 [.agg (rEntry.cells e), .agg (rRes.cells d)] (vB true) := by
    have p1 : 0 < (encB e).size := h.2.2.2.1
    have p2 : (encB e).size ≤ 200000000 := Nat.le_trans h.2.2.2.2 (by decide)
    have p3 : decide ((encB e).size + (ByteArray.mk #[0]).size ≤ 9223372036854775807) = true := decide_eq_true (by rw [show (ByteArray.mk #[0]).size = 1 from rfl]; omega)
    have q1 : 0 < (encRS d).size := hd.2.2.2.1
    have q2 : (encRS d).size ≤ 200000000 := Nat.le_trans hd.2.2.2.2 (by decide)
    have q3 : decide ((encRS d).size + (ByteArray.mk #[0]).size ≤ 9223372036854775807) = true := decide_eq_true (by rw [show (ByteArray.mk #[0]).size = 1 from rfl]; omega)
    refine PureCall.res ((addDr (addDe EEr e h) d hd).pure_ok (os := [false, true, true, false, true, false, false, false, false, false, false, false, false, false, false, false, false, false, false, false, true, false, true, false, false, true, true, true, true, true, true, true, true, true, true, true, true, true, true, true, true, true, true, true, true, true, true, true, true, true, true, true, true, true, true, true, true, true, true, true, true, true, true, true, true, true, true, true, true, true, true, true, true, true, true, true, true, true, true, true, true, true, true, true, true]) (r := (.one (.bool (4 == 4)))) (cs := [((4 == 4) == true), ((4 == 4) == true), ((4 == 4) == true), ((d.fst == d.fst && (d.snd.fst == d.snd.fst && (d.snd.snd.fst == d.snd.snd.fst && (d.snd.snd.snd.fst == d.snd.snd.snd.fst && (d.snd.snd.snd.snd.fst == d.snd.snd.snd.snd.fst && true))))) == true), ((d.fst == d.fst && (d.snd.fst == d.snd.fst && (d.snd.snd.fst == d.snd.snd.fst && (d.snd.snd.snd.fst == d.snd.snd.snd.fst && (d.snd.snd.snd.snd.fst == d.snd.snd.snd.snd.fst && true))))) == true), ((d.fst == d.fst && (d.snd.fst == d.snd.fst && (d.snd.snd.fst == d.snd.snd.fst && (d.snd.snd.snd.fst == d.snd.snd.snd.fst && (d.snd.snd.snd.snd.fst == d.snd.snd.snd.snd.fst && true))))) == true), ((0 == 0) == true), ((0 == 0) == true), ((0 == 0) == true), ((0 == 0) == true), (decide ((encRS d).extract (Int.toNat 0) (IntKind.i64.wrap ((((encRS d).size : Nat) : Int) - 1)).toNat = (encRS d).extract 0 ((encRS d).size - 1))), (decide ((0 : Int) ≤ 0 ∧ 0 ≤ IntKind.i64.wrap ((((encRS d).size : Nat) : Int) - 1) ∧ IntKind.i64.wrap ((((encRS d).size : Nat) : Int) - 1) ≤ (((encRS d).size : Nat) : Int))), (decide (encRS d ++ (ByteArray.mk #[0]) = encRS d ++ (ByteArray.mk #[0]))), (decide ((encRS d).size + (ByteArray.mk #[0]).size ≤ 9223372036854775807)), (decide (encRS d = encRS d)), ((encRE d != 0) == false), (uOk d.snd.snd.snd.snd.fst), (false == false), (false == false), (false == false), (false == false), ((!sameE e e) == false), ((!sameE e e) == false), ((!sameE e e) == false), (false == false), (false == false), (false == false), (false == false), (false == false), (decide ((encS e).extract (Int.toNat 0) (IntKind.i64.wrap ((((encS e).size : Nat) : Int) - 1)).toNat = (encB e).extract 0 ((encB e).size - 1))), (decide ((0 : Int) ≤ 0 ∧ 0 ≤ IntKind.i64.wrap ((((encS e).size : Nat) : Int) - 1) ∧ IntKind.i64.wrap ((((encS e).size : Nat) : Int) - 1) ≤ (((encS e).size : Nat) : Int))), (decide (encS e ++ (ByteArray.mk #[0]) = encB e ++ (ByteArray.mk #[0]))), (decide ((encS e).size + (ByteArray.mk #[0]).size ≤ 9223372036854775807)), (decide (encS e = encB e)), ((entV e == 0) == true), (decide (List.length e.snd.snd.snd.snd.fst ≤ 9223372036854775807)), (uOk e.fst), (uOk e.snd.fst), (uOk e.snd.snd.snd.fst.snd.snd.fst), (uOk e.snd.snd.snd.fst.snd.snd.snd.fst), (uOk e.snd.snd.snd.fst.snd.snd.snd.snd.snd.fst), ((!true) == false)]) (by kernel_rfl) (allI ?_)) ?_
    · simp only [sl_ok q1 q2, sl_eq _ q1 q2, q3, encS_B e1, sl_ok p1 p2, sl_eq _ p1 p2, p3, l1, u1, u2, u3, u4, u5, u6, beq_self_eq_true, sameE_refl, decide_true, Bool.not_true, Bool.not_false, bne_self_eq_false, Bool.and_self, Bool.and_true, List.all_cons, List.all_nil, baRefl, r2, e2]
      try rfl
    · rfl
theorem other_ff (e : rEntry.den) (d : rRes.den) (l1 : decide (List.length e.2.2.2.2.1 ≤ 9223372036854775807) = true) (u1 : uOk e.1 = true) (u2 : uOk e.2.1 = true) (u3 : uOk e.2.2.2.1.2.2.1 = true) (u4 : uOk e.2.2.2.1.2.2.2.1 = true) (u5 : uOk e.2.2.2.1.2.2.2.2.2.1 = true) (u6 : uOk d.2.2.2.2.1 = true) (e2 : entV e = 2) (r1 : encRS d = (ByteArray.mk #[])) (r2 : encRE d = 2) : PureCall Try.prog 8 [.agg (rEntry.cells e), .agg (rRes.cells d)] (vB true) := by
    refine PureCall.res (EEr.pure_ok (os := [false, false, true, true, true, true, true, true, true, true, true, true, true, true, true, true, true, true, true, true, true, true, true, true, true, true, true, true, true, true, true, true, true, true, true, true, true, true, true, true, true, true, true, true, true, true, true, true, true, true, true, true, true, true, true, true, true, true, true, true, true, true, true]) (r := (.one (.bool ((encRS d).toList == (ByteArray.mk #[]).toList)))) (cs := [((encRE d != 0) == true), (uOk d.snd.snd.snd.snd.fst), ((entV e == 0) == false), (decide (List.length e.snd.snd.snd.snd.fst ≤ 9223372036854775807)), (uOk e.fst), (uOk e.snd.fst), (uOk e.snd.snd.snd.fst.snd.snd.fst), (uOk e.snd.snd.snd.fst.snd.snd.snd.fst), (uOk e.snd.snd.snd.fst.snd.snd.snd.snd.snd.fst), ((!true) == false)]) (by kernel_rfl) (allI ?_)) ?_
    · simp only [l1, u1, u2, u3, u4, u5, u6, beq_self_eq_true, sameE_refl, decide_true, Bool.not_true, Bool.not_false, bne_self_eq_false, Bool.and_self, Bool.and_true, List.all_cons, List.all_nil, baRefl, r2, r1, e2]
      try rfl
    · rw [r1, beq_self_eq_true]
theorem other_ft (e : rEntry.den) (d : rRes.den) (l1 : decide (List.length e.2.2.2.2.1 ≤ 9223372036854775807) = true) (u1 : uOk e.1 = true) (u2 : uOk e.2.1 = true) (u3 : uOk e.2.2.2.1.2.2.1 = true) (u4 : uOk e.2.2.2.1.2.2.2.1 = true) (u5 : uOk e.2.2.2.1.2.2.2.2.2.1 = true) (u6 : uOk d.2.2.2.2.1 = true) (e2 : entV e = 2) (r2 : encRE d = 0) (hd : DFr d) : PureCall Try.prog 8 [.agg (rEntry.cells e), .agg (rRes.cells d)] (vB true) := by
    have q1 : 0 < (encRS d).size := hd.2.2.2.1
    have q2 : (encRS d).size ≤ 200000000 := Nat.le_trans hd.2.2.2.2 (by decide)
    have q3 : decide ((encRS d).size + (ByteArray.mk #[0]).size ≤ 9223372036854775807) = true := decide_eq_true (by rw [show (ByteArray.mk #[0]).size = 1 from rfl]; omega)
    refine PureCall.res ((addDr EEr d hd).pure_ok (os := [false, false, false, true, false, true, false, false, true, true, true, true, true, true, true, true, true, true, true, true, true, true, true, true, true, true, true, true, true, true, true, true, true, true, true, true, true, true, true, true, true, true, true, true, true, true, true, true, true, true, true, true, true, true, true, true, true, true, true, true, true, true, true, true, true, true, true, true]) (r := (.one (.bool (4 == 4)))) (cs := [((4 == 4) == true), ((4 == 4) == true), ((4 == 4) == true), ((d.fst == d.fst && (d.snd.fst == d.snd.fst && (d.snd.snd.fst == d.snd.snd.fst && (d.snd.snd.snd.fst == d.snd.snd.snd.fst && (d.snd.snd.snd.snd.fst == d.snd.snd.snd.snd.fst && true))))) == true), ((d.fst == d.fst && (d.snd.fst == d.snd.fst && (d.snd.snd.fst == d.snd.snd.fst && (d.snd.snd.snd.fst == d.snd.snd.snd.fst && (d.snd.snd.snd.snd.fst == d.snd.snd.snd.snd.fst && true))))) == true), ((d.fst == d.fst && (d.snd.fst == d.snd.fst && (d.snd.snd.fst == d.snd.snd.fst && (d.snd.snd.snd.fst == d.snd.snd.snd.fst && (d.snd.snd.snd.snd.fst == d.snd.snd.snd.snd.fst && true))))) == true), ((0 == 0) == true), ((0 == 0) == true), ((0 == 0) == true), ((0 == 0) == true), (decide ((encRS d).extract (Int.toNat 0) (IntKind.i64.wrap ((((encRS d).size : Nat) : Int) - 1)).toNat = (encRS d).extract 0 ((encRS d).size - 1))), (decide ((0 : Int) ≤ 0 ∧ 0 ≤ IntKind.i64.wrap ((((encRS d).size : Nat) : Int) - 1) ∧ IntKind.i64.wrap ((((encRS d).size : Nat) : Int) - 1) ≤ (((encRS d).size : Nat) : Int))), (decide (encRS d ++ (ByteArray.mk #[0]) = encRS d ++ (ByteArray.mk #[0]))), (decide ((encRS d).size + (ByteArray.mk #[0]).size ≤ 9223372036854775807)), (decide (encRS d = encRS d)), ((encRE d != 0) == false), (uOk d.snd.snd.snd.snd.fst), ((entV e == 0) == false), (decide (List.length e.snd.snd.snd.snd.fst ≤ 9223372036854775807)), (uOk e.fst), (uOk e.snd.fst), (uOk e.snd.snd.snd.fst.snd.snd.fst), (uOk e.snd.snd.snd.fst.snd.snd.snd.fst), (uOk e.snd.snd.snd.fst.snd.snd.snd.snd.snd.fst), ((!true) == false)]) (by kernel_rfl) (allI ?_)) ?_
    · simp only [sl_ok q1 q2, sl_eq _ q1 q2, q3, l1, u1, u2, u3, u4, u5, u6, beq_self_eq_true, sameE_refl, decide_true, Bool.not_true, Bool.not_false, bne_self_eq_false, Bool.and_self, Bool.and_true, List.all_cons, List.all_nil, baRefl, r2, e2]
      try rfl
    · rfl
theorem other_law (dd : dens sEr) (hW : WFs sEr dd) : PureCall Try.prog 8 (encs sEr dd) (vB true) := by
  obtain ⟨e, d, _⟩ := dd
  have hl : e.2.2.2.2.1.length * 8 ≤ 0x7ffffffff000 := hW.1.2.2.2.2.1.1
  have u1 : uOk e.1 = true := uOk_of hW.1.1
  have u2 : uOk e.2.1 = true := uOk_of hW.1.2.1
  have u3 : uOk e.2.2.2.1.2.2.1 = true := uOk_of hW.1.2.2.2.1.2.2.1
  have u4 : uOk e.2.2.2.1.2.2.2.1 = true := uOk_of hW.1.2.2.2.1.2.2.2.1
  have u5 : uOk e.2.2.2.1.2.2.2.2.2.1 = true := uOk_of hW.1.2.2.2.1.2.2.2.2.2.1
  have u6 : uOk d.2.2.2.2.1 = true := uOk_of hW.2.1.2.2.2.2.1
  have zs : (ByteArray.mk #[0]).size = 1 := rfl
  have l1 : decide (List.length e.2.2.2.2.1 ≤ 9223372036854775807) = true := decide_eq_true (by omega)
  show PureCall Try.prog _ [.agg (rEntry.cells e), .agg (rRes.cells d)] _
  have HE : entB e = true ∧ entV e = 0 → DFe e := fun ⟨_, h0⟩ => dec_facts e (ent_eb e (by omega) h0) u1 u2 u3 u4 u5 h0
  have HR : resOk d.1 d.2.2.1 d.2.2.2.1 d.2.2.2.2.1 = true → DFr d := fun hr => by
    unfold DFr
    rw [(encRS_ok hr).1]
    exact decr_facts d.1 d.2.1 d.2.2.1 d.2.2.2.1 d.2.2.2.2.1 u6 hr
  rcases entV_cases e with ⟨e1, e2⟩ | ⟨e1, e2⟩ <;> cases hr : resOk d.1 d.2.2.1 d.2.2.2.1 d.2.2.2.2.1
  · obtain ⟨r1, r2⟩ := encRS_no hr; exact other_tf e d l1 u1 u2 u3 u4 u5 u6 e1 e2 (HE ⟨e1, e2⟩) r1 r2
  · obtain ⟨r1, r2⟩ := encRS_ok hr; exact other_tt e d l1 u1 u2 u3 u4 u5 u6 e1 e2 (HE ⟨e1, e2⟩) r2 (HR hr)
  · obtain ⟨r1, r2⟩ := encRS_no hr; exact other_ff e d l1 u1 u2 u3 u4 u5 u6 e2 r1 r2
  · obtain ⟨r1, r2⟩ := encRS_ok hr; exact other_ft e d l1 u1 u2 u3 u4 u5 u6 e2 r2 (HR hr)
end Go.Proofs.Ytjplobgambnhjaa
