/- The document's Put and search in use; no statement. -/
import Derived.Test.YtolhkkoakneflaaPa2
import Derived.Test.YtolhkkoakneflaaPa3
set_option linter.unusedVariables false
set_option linter.unusedSimpArgs false
namespace Go.Proofs.Ytolhkkoakneflaa
open Go Go.Eng

noncomputable def EPa : Env Try.prog := EMd.addL 34 4 lPut_eq 88 [7, 5, 6] [0, 3] (by kernel_rfl)
  (fun vals rov hp os => match vals, rov, hp with
    | [.one (.int .i64 z), .one .nils, .one (.bool d)], [.one (.sl r1 l1 .shared), .one (.ptr 0 0)], [.cells [.str c0, .str c1, .int .u64 c2, .bool c3, .str c4]] =>
      match asG r1 l1 with
      | some l => retC (.exit 0, [vX, .one (.sl rCell (pF (c0, c1, c2, c3, c4, ()) l).1 (.own 1 (pF (c0, c1, c2, c3, c4, ()) l).1.length)), vB (pF (c0, c1, c2, c3, c4, ()) l).2], [.cells (rCell.cells (c0, c1, c2, c3, c4, ())), .tok 52 (pF (c0, c1, c2, c3, c4, ()) l).1.length]) [decide (z = 0), !d, okp (l.length ≤ 1000)] os
      | _ => none
    | _, _, _ => none)
  (fun vals rov hp os e outs hp' cs os' h hc => by
    split at h
    · rename_i z d r1 l1 c0 c1 c2 c3 c4
      split at h
      · rename_i l e1
        obtain ⟨rfl, e1⟩ := asG_eq e1
        subst e1
        simp only [retC, Option.some.injEq, Prod.mk.injEq] at h
        obtain ⟨⟨rfl, rfl, rfl⟩, rfl, rfl⟩ := h
        obtain ⟨h1, hc⟩ := of_allTc hc
        obtain ⟨h2, hc⟩ := of_allTc hc
        obtain ⟨h3, _⟩ := of_allTc hc
        have h1 := of_decide_eq_true h1
        subst h1
        have h2 : d = false := by simpa using h2
        subst h2
        exact put_loop _ (of_okp h3) (c0, c1, c2, c3, c4, ())
      · cases h
    · cases h)
noncomputable def EPd0 : Env Try.prog := EPa.addL 22 3 lSd_eq 88 [6, 4] [0, 3, 5] (by kernel_rfl)
  (fun vals rov hp os => match vals, rov, hp with
    | [.one (.int .i64 z), .one .nils], [.one (.sl r1 l1 .shared), .one (.ptr 0 0), .one (.ptr 1 0)], [.cells [.int .i64 o0, .str o1, .str o2, .str o3, .bool o4, .str o5], .cells [.int .i64 t0, .bool t1, .str t2, .str t3, .int .u64 t4]] =>
      match asG r1 l1 with
      | some l => brL (l.find? (cand (o0, o1, o2, o3, o4, o5, ()))).isSome os
        (fun os => retC (.ret, [vX, vL rCell l], hpD (o0, o1, o2, o3, o4, o5, ()) (firstL (o0, o1, o2, o3, o4, o5, ()) l)) [decide (z = 0), okp (l.length ≤ 1000 ∧ (t0, t1, t2, t3, t4, ()) = rRes.dflt)] os)
        (fun os => retC (.exit 0, [vX, .one .nils], hpD (o0, o1, o2, o3, o4, o5, ()) rRes.dflt) [decide (z = 0), okp (l.length ≤ 1000 ∧ (t0, t1, t2, t3, t4, ()) = rRes.dflt)] os)
      | _ => none
    | _, _, _ => none)
  (fun vals rov hp os e outs hp' cs os' h hc => by
    split at h
    · rename_i z r1 l1 o0 o1 o2 o3 o4 o5 t0 t1 t2 t3 t4
      split at h
      · rename_i l e1
        obtain ⟨rfl, e1⟩ := asG_eq e1
        subst e1
        rcases brL_some h hc with ⟨hb, os1, c1, h, hc⟩ | ⟨hb, os1, c1, h, hc⟩
        all_goals
          simp only [retC, Option.some.injEq, Prod.mk.injEq] at h
          obtain ⟨⟨rfl, rfl, rfl⟩, rfl, rfl⟩ := h
          obtain ⟨h1, hc⟩ := of_allTc hc
          obtain ⟨h2, _⟩ := of_allTc hc
          have h1 := of_decide_eq_true h1
          subst h1
          obtain ⟨h3, h4⟩ := of_okp h2
          have key := sd_loop (o0, o1, o2, o3, o4, o5, ()) _ h3 rfl
          rw [← h4] at key
          unfold sdE at key
        · unfold firstL
          cases hf : List.find? (cand (o0, o1, o2, o3, o4, o5, ())) l1 with
          | none => rw [hf] at hb; cases hb
          | some x => rw [hf] at key; exact key
        · cases hf : List.find? (cand (o0, o1, o2, o3, o4, o5, ())) l1 with
          | none => rw [hf] at key; exact key
          | some x => rw [hf] at hb; cases hb
      · cases h
    · cases h)
open Go Go.Eng

theorem put_pure (l : List rCell.den) (hl : l.length ≤ 1000) (c : rCell.den) : PureCall Try.prog 34 [vL rCell l, .agg (rCell.cells c)] (vL rCell (putL l c)) := by
  have h1 : okp (l.length ≤ 1000) = true := okp_of hl
  have hlen := pF_len (c := c) (l := l) l.length (Nat.le_refl _)
  rw [List.take_length] at hlen
  unfold putL
  cases hd : (pF c l).2 with
  | true =>
    exact EPa.pure_ok (os := [false]) (cs := [(!(pF c l).2) == false, decide ((0 : Int) = 0), !false, okp (l.length ≤ 1000)]) (by kernel_rfl) (allI (by simp only [↓h1, hd]; rfl))
  | false =>
    have sz0 : Nat.beq (pF c l).1.length (pF c l).1.length = true := by simp
    have sz1 : Nat.ble (((pF c l).1.length + 1) * 64) 140737488355328 = true := by rw [Nat.ble_eq]; omega
    have sz2 : Nat.ble ((pF c l).1.length + 1) maxLen = true := by rw [Nat.ble_eq]; unfold maxLen; omega
    exact EPa.pure_ok (os := [true]) (cs := [Nat.beq (pF c l).1.length (pF c l).1.length, Nat.ble (((pF c l).1.length + 1) * 64) 140737488355328 && Nat.ble ((pF c l).1.length + 1) maxLen, (!(pF c l).2) == true, decide ((0 : Int) = 0), !false, okp (l.length ≤ 1000)]) (by kernel_rfl) (allI (by simp only [↓h1, hd, sz0, sz1, sz2]; rfl))
theorem reff_pure (o : rOp.den) (l : List rCell.den) (h : verOk l = true) : PureCall Try.prog 11 [.agg (rOp.cells o), vL rCell l] (effA (effV o l)) := by
  rw [← eff_same o l h]; exact reff_pure0 o l
noncomputable def EPd1 : Env Try.prog := (EPd0.addT1 34 [.one (.sl rCell), .agg rCell] (fun d => vL rCell (putL d.1 d.2.1)) (fun d => [okp (d.1.length ≤ 1000)]) fun d hc => put_pure d.1 (of_okp (of_allTc hc).1) d.2.1).addT
  11 [.agg rOp, .one (.sl rCell)]
  (fun d os => brL (eN d.1 d.2.1) os
    (fun os => some (effA ((effV d.1 d.2.1).1, []), [verOk d.2.1], os))
    (fun os => some (effA ((effV d.1 d.2.1).1, [e0 d.1 d.2.1, e1 d.1 d.2.1]), [verOk d.2.1], os)))
  fun d os r cs os' h hc => by
    rcases brL_some h hc with ⟨hb, o, c, h, hc⟩ | ⟨hb, o, c, h, hc⟩
    · simp only [Option.some.injEq, Prod.mk.injEq] at h
      obtain ⟨rfl, rfl, _⟩ := h
      rw [← eff_nil hb]
      exact reff_pure d.1 d.2.1 (of_allTc hc).1
    · simp only [Option.some.injEq, Prod.mk.injEq] at h
      obtain ⟨rfl, rfl, _⟩ := h
      rw [← eff_two hb]
      exact reff_pure d.1 d.2.1 (of_allTc hc).1
open Go Go.Eng

def rdoA (l : List rCell.den) (o : rOp.den) : AV := .tup [(false, [.sl rCell (rdoL l o) .shared]), (true, rRes.cells (rdoR l o))]
theorem putL_len (l : List rCell.den) (c : rCell.den) : (putL l c).length ≤ 2 * l.length + 1 := by
  have h := pF_len (c := c) (l := l) l.length (Nat.le_refl _)
  rw [List.take_length] at h
  unfold putL
  cases (pF c l).2 with
  | true => show (pF c l).1.length ≤ _; omega
  | false => show ((pF c l).1 ++ [c]).length ≤ _; rw [List.length_append, List.length_singleton]; omega
theorem rdo_pure (l : List rCell.den) (hl : l.length ≤ 400) (hv : verOk l = true) (o : rOp.den) : PureCall Try.prog 22 [vL rCell l, .agg (rOp.cells o)] (rdoA l o) := by
  have h1 : okp (l.length ≤ 1000) = true := okp_of (by omega)
  have h2 : okp (l.length ≤ 1000 ∧ ((0 : Int), false, (ByteArray.mk #[]), (ByteArray.mk #[]), (0 : Int), ()) = rRes.dflt) = true := okp_of ⟨by omega, rfl⟩
  have h3 : okp ((putL l (e0 o l)).length ≤ 1000) = true := okp_of (by have := putL_len l (e0 o l); omega)
  unfold rdoA rdoL rdoR seekB
  cases hc : (chkV o == 0 : Bool) with
  | true =>
    cases hk : (o.1 == 5 : Bool) with
    | true =>
      cases hf : ((List.find? (cand o) l).isSome : Bool) with
      | true => exact EPd1.pure_ok (os := [true, true, true, true, true, true]) (r := .tup [(false, [.sl rCell l .shared]), (true, rRes.cells (firstL o l))]) (cs := [decide ((0 : Int) = 0), okp (l.length ≤ 1000 ∧ ((0 : Int), false, (ByteArray.mk #[]), (ByteArray.mk #[]), (0 : Int), ()) = rRes.dflt), (List.find? (cand o) l).isSome == true, (o.1 == 5) == true, (chkV o == 0) == true, (chkV o == 0) == true, (chkV o == 0) == true, (chkV o == 0) == true]) (by kernel_rfl) (allI (by simp only [↓h2, hf, hk, hc]; rfl))
      | false =>
        have e : firstL o l = rRes.dflt := by
          unfold firstL
          cases hq : List.find? (cand o) l with
          | none => rfl
          | some x => rw [hq] at hf; cases hf
        simp only [Bool.and_self, cond_true]
        rw [e]
        exact EPd1.pure_ok (os := [true, true, true, true, true, false]) (r := .tup [(false, [.sl rCell l .shared]), (true, rRes.cells rRes.dflt)]) (cs := [decide ((0 : Int) = 0), okp (l.length ≤ 1000 ∧ ((0 : Int), false, (ByteArray.mk #[]), (ByteArray.mk #[]), (0 : Int), ()) = rRes.dflt), (List.find? (cand o) l).isSome == false, (o.1 == 5) == true, (chkV o == 0) == true, (chkV o == 0) == true, (chkV o == 0) == true, (chkV o == 0) == true]) (by kernel_rfl) (allI (by simp only [↓h2, hf, hk, hc]; rfl))
    | false =>
      cases hN : (eN o l : Bool) with
      | true => exact EPd1.pure_ok (os := [true, true, true, true, false, true, false]) (r := .tup [(false, [.sl rCell l .shared]), (true, rRes.cells (effV o l).1)]) (cs := [decide ((0 : Int) < 0) == false, verOk l, eN o l == true, (o.1 == 5) == false, (chkV o == 0) == true, (chkV o == 0) == true, (chkV o == 0) == true, (chkV o == 0) == true]) (by kernel_rfl) (allI (by simp only [hv, hN, hk, hc]; rfl))
      | false => exact EPd1.pure_ok (os := [true, true, true, true, false, false, true, true, false]) (r := .tup [(false, [.sl rCell (putL (putL l (e0 o l)) (e1 o l)) .shared]), (true, rRes.cells (effV o l).1)]) (cs := [decide ((2 : Int) < 2) == false, okp ((putL l (e0 o l)).length ≤ 1000), inB 1 2, decide ((1 : Int) < 2) == true, okp (l.length ≤ 1000), inB 0 2, decide ((0 : Int) < 2) == true, verOk l, eN o l == false, (o.1 == 5) == false, (chkV o == 0) == true, (chkV o == 0) == true, (chkV o == 0) == true, (chkV o == 0) == true]) (by kernel_rfl) (allI (by simp only [↓h1, ↓h3, hv, hN, hk, hc]; rfl))
  | false =>
    cases hN : (eN o l : Bool) with
    | true => exact EPd1.pure_ok (os := [false, false, false, false, false, true, false]) (r := .tup [(false, [.sl rCell l .shared]), (true, rRes.cells (effV o l).1)]) (cs := [decide ((0 : Int) < 0) == false, verOk l, eN o l == true, false == false, (chkV o == 0) == false, (chkV o == 0) == false, (chkV o == 0) == false, (chkV o == 0) == false]) (by kernel_rfl) (allI (by simp only [hv, hN, hc]; rfl))
    | false => exact EPd1.pure_ok (os := [false, false, false, false, false, false, true, true, false]) (r := .tup [(false, [.sl rCell (putL (putL l (e0 o l)) (e1 o l)) .shared]), (true, rRes.cells (effV o l).1)]) (cs := [decide ((2 : Int) < 2) == false, okp ((putL l (e0 o l)).length ≤ 1000), inB 1 2, decide ((1 : Int) < 2) == true, okp (l.length ≤ 1000), inB 0 2, decide ((0 : Int) < 2) == true, verOk l, eN o l == false, false == false, (chkV o == 0) == false, (chkV o == 0) == false, (chkV o == 0) == false, (chkV o == 0) == false]) (by kernel_rfl) (allI (by simp only [↓h1, ↓h3, hv, hN, hc]; rfl))
end Go.Proofs.Ytolhkkoakneflaa
