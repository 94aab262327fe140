/- ModelRows: an operation's cells are there once each, and the environment of its run; no statement. -/
import Derived.Test.YtolhkkoakneflaaRw0
import Derived.Test.YtolhkkoakneflaaEngZ15
set_option linter.unusedVariables false
set_option linter.unusedSimpArgs false
namespace Go.Proofs.Ytolhkkoakneflaa
open Go Go.Eng

theorem eff_places {o : rOp.den} {l : List rCell.den} (h : eN o l = false) : (e0 o l).1 = o.2.1 ∧ (e0 o l).2.1 = ByteArray.mk #[] ∧ (e1 o l).1 = o.2.1 ∧ (e1 o l).2.1 = o.2.2.1 := by
  unfold eN e0 e1 effV at *
  generalize (chkV o != 0 || o.1 == 5) = b1 at *
  cases b1 with
  | true => cases h
  | false =>
    generalize (o.1 == 2) = b2 at *
    cases b2 with
    | true => cases h
    | false =>
      generalize (bif o.1 == 1 then false else bif o.1 == 3 then !hereV o l else !(hereV o l == o.2.2.2.2.1) || (o.2.2.2.2.1 && !((nsw l o.2.1 o.2.2.1).1.2.2.2.2.1 == o.2.2.2.2.2.1))) = b3 at *
      cases b3 with
      | true => cases h
      | false =>
        generalize decide ((nsw l o.2.1 (ByteArray.mk #[])).1.2.2.1 ≥ 1099511627776) = b4 at *
        cases b4 with
        | true => cases h
        | false => exact ⟨rfl, rfl, rfl, rfl⟩
/-- Equal cells, as the program compares them. -/
def eqC (x y : rCell.den) : Bool := x.1 == y.1 && (x.2.1 == y.2.1 && (x.2.2.1 == y.2.2.1 && (x.2.2.2.1 == y.2.2.2.1 && (x.2.2.2.2.1 == y.2.2.2.2.1 && true))))
theorem eqC_iff {x y : rCell.den} : eqC x y = true ↔ x = y := by
  obtain ⟨a1, a2, a3, a4, a5, ⟨⟩⟩ := x
  obtain ⟨b1, b2, b3, b4, b5, ⟨⟩⟩ := y
  unfold eqC
  simp only [Bool.and_true, Bool.and_eq_true, Prod.mk.injEq, and_true]
  constructor
  · intro ⟨h1, h2, h3, h4, h5⟩
    exact ⟨(Go.MapKept.bytes_beq _ _).1 h1, (Go.MapKept.bytes_beq _ _).1 h2, eq_of_beq h3, eq_of_beq h4, (Go.MapKept.bytes_beq _ _).1 h5⟩
  · intro ⟨h1, h2, h3, h4, h5⟩
    exact ⟨(Go.MapKept.bytes_beq _ _).2 h1, (Go.MapKept.bytes_beq _ _).2 h2, beq_iff_eq.2 h3, beq_iff_eq.2 h4, (Go.MapKept.bytes_beq _ _).2 h5⟩
def b1N (b : Bool) : Nat := bif b then 1 else 0
/-- How many cells of a list are one of two. -/
def cn2 (a b : rCell.den) : List rCell.den → Nat
  | [] => 0
  | x :: l => b1N (eqC x a) + b1N (eqC x b) + cn2 a b l
def cn1 (a : rCell.den) : List rCell.den → Nat
  | [] => 0
  | x :: l => b1N (eqC x a) + cn1 a l
theorem cn2_one (a b : rCell.den) : ∀ l, cn2 a b l = cn1 a l + cn1 b l
  | [] => rfl
  | x :: l => by simp only [cn2, cn1]; rw [cn2_one a b l]; omega
theorem cn1_none {a : rCell.den} : ∀ {l : List rCell.den}, a ∉ l → cn1 a l = 0
  | [], _ => rfl
  | x :: l, h => by
    simp only [cn1]
    have h1 : eqC x a = false := Bool.eq_false_iff.2 fun e => h (by rw [← eqC_iff.1 e]; exact List.mem_cons_self ..)
    rw [h1, cn1_none fun e => h (List.mem_cons_of_mem _ e)]; rfl
theorem cn1_once {a : rCell.den} : ∀ {l : List rCell.den}, l.Nodup → a ∈ l → cn1 a l = 1
  | [], _, h => by cases h
  | x :: l, hn, h => by
    have hn := List.nodup_cons.1 hn
    simp only [cn1]
    by_cases e : x = a
    · subst e
      rw [eqC_iff.2 rfl, cn1_none hn.1]; rfl
    · have h1 : eqC x a = false := Bool.eq_false_iff.2 fun h => e (eqC_iff.1 h)
      rw [h1, cn1_once hn.2 ((List.mem_cons.1 h).resolve_left fun h => e h.symm)]; rfl
theorem cn2_append (a b : rCell.den) : ∀ l m, cn2 a b (l ++ m) = cn2 a b l + cn2 a b m
  | [], m => by show _ = 0 + _; rw [Nat.zero_add]; rfl
  | x :: l, m => by simp only [List.cons_append, cn2]; rw [cn2_append a b l m]; omega
theorem cn2_succ {a b : rCell.den} {l : List rCell.den} {k : Nat} (h : k < l.length) : cn2 a b (l.take (k + 1)) = cn2 a b (l.take k) + (b1N (eqC (l.getD k rCell.dflt) a) + b1N (eqC (l.getD k rCell.dflt) b)) := by
  rw [List.take_add_one, getD_get (d := rCell.dflt) h, cn2_append]
  rfl
theorem cn2_le (a b : rCell.den) : ∀ l, cn2 a b l ≤ 2 * l.length
  | [] => Nat.le_refl _
  | x :: l => by
    have := cn2_le a b l
    simp only [cn2, List.length_cons]
    have h1 : ∀ c, b1N c ≤ 1 := fun c => by cases c <;> decide
    have := h1 (eqC x a)
    have := h1 (eqC x b)
    omega

/-- What was done is in the model once. -/
theorem done_once {o : rOp.den} {M : MapT} (I : MapInv M) (hc : o.2.2.1 ≠ ByteArray.mk #[]) (h : eN o (rowV o M) = false) {q : List rCell.den} (hq : q.Perm (valsM (doM o M))) : cn2 (e0 o (rowV o M)) (e1 o (rowV o M)) q = 2 := by
  have I' := (I.do o).1
  have hn : q.Nodup := (hq.nodup_iff).2 I'.pl.nodup
  obtain ⟨p1, p2, p3, p4⟩ := eff_places h
  have ed : doM o M = aset (kOf (e1 o (rowV o M))) (e1 o (rowV o M)) (aset (kOf (e0 o (rowV o M))) (e0 o (rowV o M)) M) := by unfold doM; rw [h]; rfl
  have m1 : e1 o (rowV o M) ∈ q := hq.mem_iff.2 (((I'.look (r := o.2.1) (c := o.2.2.1) (x := e1 o (rowV o M))).1 (by
    rw [ed, alook_aset, if_pos (by unfold kOf; rw [p3, p4])])).1)
  have m0 : e0 o (rowV o M) ∈ q := hq.mem_iff.2 (((I'.look (r := o.2.1) (c := ByteArray.mk #[]) (x := e0 o (rowV o M))).1 (by
    rw [ed, alook_aset, if_neg (fun e => hc (by unfold kOf at e; rw [p3, p4] at e; injection e with _ e; injection e with e; exact e.symm)), alook_aset, if_pos (by unfold kOf; rw [p1, p2])])).1)
  rw [cn2_one, cn1_once hn m0, cn1_once hn m1]
theorem kind_act {a : rAct.den} (hx : WF rAct a) : ((ofV a).1 == 5) = false ∧ (ofV a).2.2.1 ≠ ByteArray.mk #[] := by
  have u : ∀ n : Int, WF cB n → 0 ≤ n := fun n hn => hn.1
  have h1 := u _ hx.1
  have h3 := u _ hx.2.2.1
  have tp : ∀ (n m : Int), 0 ≤ n → 0 < m → 0 ≤ n.tmod m ∧ n.tmod m < m := fun n m h hm => by
    rw [Int.tmod_eq_emod_of_nonneg h]; exact ⟨Int.emod_nonneg _ (by omega), Int.emod_lt_of_pos _ hm⟩
  have t1 := tp _ 4 h1 (by omega)
  have t3 := tp _ 3 h3 (by omega)
  obtain ⟨k, hk⟩ := Int.eq_ofNat_of_zero_le t1.1
  obtain ⟨c, hc⟩ := Int.eq_ofNat_of_zero_le t3.1
  have ek : kV a = ((k + 1 : Nat) : Int) := by unfold kV; rw [hk, wrap64 (n := ((k : Nat) : Int)) (by omega) (by omega), wrap64 (by omega) (by omega)]; omega
  have e2 : clS a.2.2.1 = colN c := by unfold clS colN; rw [hc]
  constructor
  · show (kV a == 5) = false
    rw [ek]; exact beq_eq_false_iff_ne.2 (by omega)
  · show clS a.2.2.1 ≠ _
    rw [e2]; exact colN_ne c

def selM (args : List AV) (hp : List AB) : List Nat := (selAll args hp).reverse
noncomputable def ERa : Env Try.prog := EMi.addHK 18 (fun _ => [0, 1])
  (fun args hp os => match args, hp with
    | [.one (.ptr 1 0), .agg cs], [.mp (.pair .str (.pair .str .unit)) (.pair .str (.pair .str (.pair (.int .u64) (.pair .bool (.pair .str .unit))))) true true M, .cells [.mref 0]] => match rOp.un cs with
      | some (o, []) => retC (.agg (rRes.cells (doR o M)), [.mp rP rCell true true (doM o M), .cells [.mref 0]]) [!(o.1 == 5)] os
      | _ => none
    | _, _ => none)
  (fun args hp os r hp' cs os' h hc => by
    split at h
    · rename_i cs0 M
      split at h
      · rename_i o h1
        simp only [retC, Option.some.injEq, Prod.mk.injEq] at h
        obtain ⟨⟨rfl, rfl⟩, rfl, rfl⟩ := h
        have h5 : (o.1 == 5) = false := by simpa using (of_allTc hc).1
        rw [un_cells0 rfl h1]
        exact do2 o M h5
      · cases h
    · cases h)
structure CelOk (M : MapT) : Prop where
  len : M.length ≤ 1099511627776
  pl : PlacesIn (valsM M)
theorem cel_ice (M : MapT) (h : CelOk M) : HeapCall Try.prog 20 [.one (.ptr 1 0)] [.mp rP rCell true true M, .cells [.mref 0]] (.one (.sl rCell (srtG (valsM M)) .shared)) [.mp rP rCell true true M, .cells [.mref 0]] := by
  have hl : (srtG (valsM M)).length = M.length := by rw [(srtG_perm (valsM M)).length_eq, List.length_map]
  have h := (cl_heap M h.len (fun p hp => srtG_inv h.pl hp)).ice (args := [.one (.ptr 1 0)]) (hp := [.mp rP rCell true true M, .cells [.mref 0]]) (r1 := .one (.sl rCell (((srtG (valsM M)).drop 0).take M.length) .shared)) (hq := [.mp rP rCell true true M, .cells [.mref 0]])
    2 (by simp) rfl (by kernel_rfl) (by kernel_rfl) [0, 1] (by kernel_rfl) (by kernel_rfl) rfl
  rw [List.drop_zero, List.take_of_length_le (by omega)] at h
  exact h
noncomputable def ERb : Env Try.prog := ERa.addHF 20 selM
  (fun args hp os => match args, hp with
    | [.one (.ptr 1 0)], [.mp (.pair .str (.pair .str .unit)) (.pair .str (.pair .str (.pair (.int .u64) (.pair .bool (.pair .str .unit))))) true true M, .cells [.mref 0]] =>
      retC (.one (.sl rCell (srtG (valsM M)) .shared), [.mp rP rCell true true M, .cells [.mref 0]]) [okp (CelOk M)] os
    | _, _ => none)
  (fun args hp os r hp' cs os' h hc => by
    split at h
    · rename_i M
      simp only [retC, Option.some.injEq, Prod.mk.injEq] at h
      obtain ⟨⟨rfl, rfl⟩, rfl, rfl⟩ := h
      exact cel_ice M (of_okp (of_allTc hc).1)
    · cases h)
end Go.Proofs.Ytolhkkoakneflaa
