/- Copy's loop: what it is made of; no statement. -/
import Derived.Test.YtolhkkoakneflaaPa8
import Derived.Test.YtolhkkoakneflaaEngZ18
set_option linter.unusedVariables false
set_option linter.unusedSimpArgs false
namespace Go.Proofs.Ytolhkkoakneflaa
open Go Go.Eng

noncomputable def lCp : Code := (theLoop Try.prog 21 5).getD .skip
theorem lCp_eq : theLoop Try.prog 21 5 = some lCp := by kernel_rfl
noncomputable def msCp : MS := (mapShape lCp).getD msZ
theorem msCp_eq : mapShape lCp = some msCp := by kernel_rfl
def hpCp (t : MapT) (it mp : AB) : List AB := [mp, .cells [.mref 0], .mp rP rCell true true t, .cells [.mref 2], it]
abbrev rvCp : List AV := [.one (.ptr 4 0), .one (.ptr 3 0)]
open Go Go.Eng

theorem cp_go (t : MapT) (k : rP.den) (x : rCell.den) : MapGo E0 21 msCp 4 0 26 5 [] (zipT [13, 3] rvCp) [] (hpCp t) (.tup [(true, rP.cells k), (true, rCell.cells x)]) [] (hpCp (aset k x t)) :=
  MapGo.mk [] (v := []) (cs := []) (fun rest oi om => by kernel_rfl) (allI rfl) (fun _ _ => trivial) (fun _ _ => by simp [idsLt, idsB, idsC, hpCp])
theorem cp_end (t : MapT) : MapEnd E0 msCp 26 5 [] (zipT [13, 3] rvCp) [] (hpCp t) [] :=
  MapEnd.mk [] (v := []) (cs := []) (fun rest oi om => by kernel_rfl) (allI rfl) (fun _ _ => trivial) (fun _ _ => by simp [idsLt, idsB, idsC, hpCp])
theorem aset_new {k : rP.den} {v : rCell.den} {M : MapT} (h : k ∉ M.map (·.1)) : aset k v M = M ++ [(k, v)] := by
  induction M with
  | nil => rfl
  | cons q M ih =>
    simp only [List.map_cons, List.mem_cons, not_or] at h
    simp only [aset]
    rw [if_neg (fun e => h.1 ((same_iff rP rfl k q.1).1 e)), ih h.2]
    rfl
def CpInv (l : MapT) (t rem : MapT) : Prop := (t ++ rem).Perm l
theorem cp_loopN (l : MapT) (hn : (l.map (·.1)).Nodup) : LoopOkN Try.prog lCp 26 [] [13, 3] [] rvCp (hpCp [] (.iter 0 l.length true) (.mp rP rCell true true l)) (δ := { t // CpInv l t [] })
    (fun d => (.exit 0, [], hpCp d.1 (.iter 0 l.length false) (.mp rP rCell true true l))) := by
  refine LoopOkN.range E0 lCp_eq msCp_eq (by kernel_rfl) (i := 4) (j := 0) (m := 5) (by decide) l (.inl rfl) (.inl rfl) (fun _ => []) hpCp (fun t a b => ⟨rfl, rfl⟩) (fun t a b c => ⟨rfl, rfl⟩) (fun t a b => rfl)
    (CpInv l) [] (List.Perm.refl l) (fun t rest hp => by kernel_rfl) ?_ (fun t _ => cp_end t)
  intro t A p B h1
  have hnew : p.1 ∉ t.map (·.1) := by
    have h2 := ((h1.map (·.1)).nodup_iff).2 hn
    rw [List.map_append, List.map_append, List.map_cons] at h2
    have h3 := (List.nodup_append.1 h2).2.2
    exact fun hm => h3 _ hm _ (List.mem_append_right _ (List.mem_cons_self ..)) rfl
  refine ⟨aset p.1 p.2 t, ?_, cp_go t p.1 p.2⟩
  rw [aset_new hnew]
  refine List.Perm.trans ?_ h1
  rw [List.append_assoc]
  exact List.Perm.append_left t (show (p :: (A ++ B)).Perm _ from List.perm_middle.symm)
theorem cp_loop (l : MapT) (hn : (l.map (·.1)).Nodup) : LoopOk Try.prog lCp 26 [] [13, 3] [] rvCp (hpCp [] (.iter 0 l.length true) (.mp rP rCell true true l)) (.exit 0) [] (hpCp l (.iter 0 l.length false) (.mp rP rCell true true l)) :=
  (cp_loopN l hn).perm (j := 2) (m := l) rfl fun ⟨t, ht⟩ => ⟨t, by unfold CpInv at ht; rwa [List.append_nil] at ht, rfl⟩
noncomputable def ECp : Env Try.prog := EPd1.addL 21 5 lCp_eq 26 [] [13, 3] (by kernel_rfl)
  (fun vals rov hp os => match vals, rov, hp with
    | [], [.one (.ptr 4 0), .one (.ptr 3 0)], [.mp (.pair .str (.pair .str .unit)) (.pair .str (.pair .str (.pair (.int .u64) (.pair .bool (.pair .str .unit))))) true true M, .cells [.mref 0], .mp (.pair .str (.pair .str .unit)) (.pair .str (.pair .str (.pair (.int .u64) (.pair .bool (.pair .str .unit))))) true true M2, .cells [.mref 2], .iter 0 n true] =>
      retC (.exit 0, [], hpCp M (.iter 0 M.length false) (.mp rP rCell true true M)) [okp (M2 = [] ∧ n = M.length ∧ (M.map (·.1)).Nodup)] os
    | _, _, _ => none)
  (fun vals rov hp os e outs hp' cs os' h hc => by
    split at h
    · rename_i M M2 n
      simp only [retC, Option.some.injEq, Prod.mk.injEq] at h
      obtain ⟨⟨rfl, rfl, rfl⟩, rfl, rfl⟩ := h
      obtain ⟨rfl, rfl, hn⟩ := of_okp (of_allTc hc).1
      exact cp_loop M hn
    · cases h)
theorem cp_heap (M : MapT) (hn : (M.map (·.1)).Nodup) : HeapCall Try.prog 21 [.one (.ptr 1 0)] [.mp rP rCell true true M, .cells [.mref 0]] (.one (.ptr 3 0)) [.mp rP rCell true true M, .cells [.mref 0], .mp rP rCell true true M, .cells [.mref 2]] :=
  ECp.heap_cut 4 (os := []) (hp' := hpCp M (.iter 0 M.length false) (.mp rP rCell true true M)) (cs := [okp (([] : MapT) = [] ∧ M.length = M.length ∧ (M.map (·.1)).Nodup)]) (by kernel_rfl) (allI (by rw [okp_of ⟨rfl, rfl, hn⟩]; rfl)) (by simp) (by simp [idsV, idsC]) rfl (by simp [idsB, idsC])
open Go Go.Eng

noncomputable def EPm0 : Env Try.prog := EPd1.addT1 22 [.one (.sl rCell), .agg rOp] (fun d => rdoA d.1 d.2.1) (fun d => [okp (d.1.length ≤ 400), verOk d.1]) fun d hc => by
  obtain ⟨h1, hc⟩ := of_allTc hc
  exact rdo_pure d.1 (of_okp h1) (of_allTc hc).1 d.2.1
noncomputable def EPm1 : Env Try.prog := EPm0.addHK 18 (fun _ => [0, 1])
  (fun args hp os => match args, hp with
    | [.one (.ptr 1 0), .agg cs], [.mp (.pair .str (.pair .str .unit)) (.pair .str (.pair .str (.pair (.int .u64) (.pair .bool (.pair .str .unit))))) true true M, .cells [.mref 0]] => match rOp.un cs with
      | some (o, []) => retC (.agg (rRes.cells (doRR o M)), [.mp rP rCell true true (doM o M), .cells [.mref 0]]) [okp (MapInv M)] os
      | _ => none
    | _, _ => none)
  (fun args hp os r hp' cs os' h hc => by
    split at h
    · rename_i cs0 M
      split at h
      · rename_i o h1
        simp only [retC, Option.some.injEq, Prod.mk.injEq] at h
        obtain ⟨⟨rfl, rfl⟩, rfl, rfl⟩ := h
        rw [un_cells0 rfl h1]
        exact do_any o M (of_okp (of_allTc hc).1)
      · cases h
    · cases h)
noncomputable def EPm2 : Env Try.prog := EPm1.addHF 20 selM
  (fun args hp os => match args, hp with
    | [.one (.ptr 1 0)], [.mp (.pair .str (.pair .str .unit)) (.pair .str (.pair .str (.pair (.int .u64) (.pair .bool (.pair .str .unit))))) true true M, .cells [.mref 0]] =>
      retC (.one (.asl rCell 2 0 M.length M.length), [.mp rP rCell true true M, .cells [.mref 0], .arr rCell (srtM M)]) [okp (CelOk M)] os
    | _, _ => none)
  (fun args hp os r hp' cs os' h hc => by
    split at h
    · rename_i M
      simp only [retC, Option.some.injEq, Prod.mk.injEq] at h
      obtain ⟨⟨rfl, rfl⟩, rfl, rfl⟩ := h
      have h0 := of_okp (of_allTc hc).1
      exact cl_heap M h0.len (fun p hp => srtG_inv h0.pl hp)
    · cases h)
noncomputable def EPm3 : Env Try.prog := EPm2.addHF 21 selM
  (fun args hp os => match args, hp with
    | [.one (.ptr 1 0)], [.mp (.pair .str (.pair .str .unit)) (.pair .str (.pair .str (.pair (.int .u64) (.pair .bool (.pair .str .unit))))) true true M, .cells [.mref 0]] =>
      retC (.one (.ptr 3 0), [.mp rP rCell true true M, .cells [.mref 0], .mp rP rCell true true M, .cells [.mref 2]]) [okp (MapInv M)] os
    | _, _ => none)
  (fun args hp os r hp' cs os' h hc => by
    split at h
    · rename_i M
      simp only [retC, Option.some.injEq, Prod.mk.injEq] at h
      obtain ⟨⟨rfl, rfl⟩, rfl, rfl⟩ := h
      exact cp_heap M (of_okp (of_allTc hc).1).nd
    · cases h)
open Go Go.Eng

def eqR (x y : rRes.den) : Bool := x.1 == y.1 && (x.2.1 == y.2.1 && (x.2.2.1 == y.2.2.1 && (x.2.2.2.1 == y.2.2.2.1 && (x.2.2.2.2.1 == y.2.2.2.2.1 && true))))
theorem eqR_refl (x : rRes.den) : eqR x x = true := by
  unfold eqR
  simp only [beq_self_eq_true, baRfl, Bool.and_self]
def opsO (l : List rOp.den) (k : Nat) : MapT := (l.take k).foldl (fun M o => doM o M) []
theorem opsO_succ {l : List rOp.den} {k : Nat} (h : k < l.length) : opsO l (k + 1) = doM (l.getD k rOp.dflt) (opsO l k) := by
  unfold opsO
  rw [List.take_add_one, List.foldl_append, getD_get (d := rOp.dflt) h]
  rfl
theorem opsO_end {l : List rOp.den} {k n : Nat} (h : l.length ≤ k) (h2 : k ≤ n) : opsO l n = opsO l k := by
  unfold opsO
  rw [List.take_of_length_le (by omega), List.take_of_length_le (by omega)]
theorem opsO_inv {l : List rOp.den} : ∀ k, k ≤ l.length → MapInv (opsO l k) ∧ (opsO l k).length ≤ 2 * k ∧ VerIn (valsM (opsO l k))
  | 0, _ => ⟨MapInv.nil, Nat.le_refl _, fun x hx => by cases hx⟩
  | k + 1, h => by
    obtain ⟨h1, h2, h3⟩ := opsO_inv (l := l) k (by omega)
    rw [opsO_succ (by omega)]
    obtain ⟨h4, h5⟩ := h1.do (l.getD k rOp.dflt)
    exact ⟨h4, by omega, do_ver h1 h3⟩
theorem srt_take (M : MapT) : List.take M.length (List.drop 0 (srtM M)) = srtM M := by
  rw [List.drop_zero, List.take_of_length_le]
  rw [(srtG_perm (valsM M)).length_eq, List.length_map]
  exact Nat.le_refl _
theorem mp_facts {M : MapT} (I : MapInv M) (V : VerIn (valsM M)) (h : M.length ≤ 200) (O : rOp.den) :
    okp (MapInv M) = true ∧ okp (CelOk M) = true ∧ okp (CelOk (doM O M)) = true ∧ okp ((srtM M).length ≤ 400) = true ∧ verOk (srtM M) = true ∧ eqR (doRR O M) (rdoR (srtM M) O) = true ∧
    sameL (List.take M.length (List.drop 0 (srtM M))) (srtM M) = true ∧ sameL (List.take (doM O M).length (List.drop 0 (srtM (doM O M)))) (rdoL (srtM M) O) = true := by
  obtain ⟨I', h'⟩ := I.do O
  obtain ⟨e1, e2⟩ := rdo_eq (o := O) I
  refine ⟨okp_of I, okp_of ⟨by omega, I.pl.places⟩, okp_of ⟨by omega, I'.pl.places⟩, okp_of ?_, ?_, ?_, ?_, ?_⟩
  · rw [(srtG_perm (valsM M)).length_eq, List.length_map]; omega
  · exact VerIn.ok fun x hx => V x ((srtG_perm (valsM M)).mem_iff.1 hx)
  · rw [show rdoR (srtM M) O = doRR O M from e2]; exact eqR_refl _
  · rw [srt_take]; exact sameL_refl _
  · rw [srt_take, show rdoL (srtM M) O = srtM (doM O M) from e1]; exact sameL_refl _
noncomputable def lPl : Code := (theLoop Try.prog 7 6).getD .skip
theorem lPl_eq : theLoop Try.prog 7 6 = some lPl := by kernel_rfl
abbrev vQ (l : List rOp.den) (k : Nat) : AV := .one (.sl rCell (srtM (opsO l k)) .shared)
theorem pl_loop (l : List rOp.den) :
    LoopOk Try.prog lPl 76 [5, 4] [0, 3] [vI 0, .one (.sl rCell (srtM []) .shared)] [vL rOp l, .one (.ptr 1 0)] [.mp rP rCell true true [], .cells [.mref 0]] (.exit 0) [vX, vQ l 80] [.mp rP rCell true true (opsO l 80), .cells [.mref 0]] := by
  refine LoopOk.rounds (S := Nat) EPm3 lPl_eq (by kernel_rfl) (fun k => [vI k, vQ l k]) (fun k => [.mp rP rCell true true (opsO l k), .cells [.mref 0]]) (fun k => k ≤ min l.length 80) (fun k => min l.length 80 - k) 0 (Nat.zero_le _) ?_ (fun _ _ => rfl)
  intro k hk
  by_cases hlt : k < l.length
  · by_cases hlt2 : k < 80
    · have hin : inB (k : Int) l.length = true := inB_of (by omega) (by omega)
      have d1 : decide ((k : Int) < ((l.length : Nat) : Int)) = true := decide_eq_true (by omega)
      have d2 : decide ((k : Int) < 80) = true := decide_eq_true (by omega)
      have hw : vI (IntKind.i64.wrap ((k : Int) + 1)) = vI ((k + 1 : Nat) : Int) := by rw [wrap64 (by omega) (by omega)]; rfl
      obtain ⟨I, hlen, V⟩ := opsO_inv (l := l) k (by omega)
      obtain ⟨c1, c2, c3, c4, c5, hR, s1, s2⟩ := mp_facts I V (by omega) (l.getD k rOp.dflt)
      have hs := opsO_succ hlt
      have hq : AV.one (.sl rCell (rdoL (srtM (opsO l k)) (l.getD k rOp.dflt)) .shared) = vQ l (k + 1) := by
        rw [show rdoL (srtM (opsO l k)) (l.getD k rOp.dflt) = srtM (doM (l.getD k rOp.dflt) (opsO l k)) from (rdo_eq I).1]
        show _ = AV.one (.sl rCell (srtM (opsO l (k + 1))) .shared)
        rw [hs]
      by_cases hz : 0 < (doM (l.getD k rOp.dflt) (opsO l k)).length
      · have z1 : decide ((((doM (l.getD k rOp.dflt) (opsO l k)).length : Nat) : Int) > 0) = true := decide_eq_true (by omega)
        have z2 : inB 0 (doM (l.getD k rOp.dflt) (opsO l k)).length = true := inB_of (by omega) (by omega)
        exact OneRound.goT [true, true, true, true, false, false, false, false, false, false, false, false, false, true] (vs := [vI (IntKind.i64.wrap ((k : Int) + 1)), .one (.sl rCell (rdoL (srtM (opsO l k)) (l.getD k rOp.dflt)) .shared)]) (hp' := [.mp rP rCell true true (doM (l.getD k rOp.dflt) (opsO l k)), .cells [.mref 0]])
          (cs := [inB 0 (doM (l.getD k rOp.dflt) (opsO l k)).length, inB 0 (doM (l.getD k rOp.dflt) (opsO l k)).length, decide (((((doM (l.getD k rOp.dflt) (opsO l k)).length) : Nat) : Int) > 0) == true, (!sameL (List.take (doM (l.getD k rOp.dflt) (opsO l k)).length (List.drop 0 (srtM (doM (l.getD k rOp.dflt) (opsO l k))))) (rdoL (srtM (opsO l k)) (l.getD k rOp.dflt))) == false, okp (CelOk (doM (l.getD k rOp.dflt) (opsO l k))), (!sameL (List.take ((opsO l k)).length (List.drop 0 (srtM (opsO l k)))) (srtM (opsO l k))) == false, (!(eqR (doRR (l.getD k rOp.dflt) (opsO l k)) (rdoR (srtM (opsO l k)) (l.getD k rOp.dflt)))) == false, (!(eqR (doRR (l.getD k rOp.dflt) (opsO l k)) (rdoR (srtM (opsO l k)) (l.getD k rOp.dflt)))) == false, (!(eqR (doRR (l.getD k rOp.dflt) (opsO l k)) (rdoR (srtM (opsO l k)) (l.getD k rOp.dflt)))) == false, (!(eqR (doRR (l.getD k rOp.dflt) (opsO l k)) (rdoR (srtM (opsO l k)) (l.getD k rOp.dflt)))) == false, okp (CelOk (opsO l k)), (!(eqR (doRR (l.getD k rOp.dflt) (opsO l k)) (rdoR (srtM (opsO l k)) (l.getD k rOp.dflt)))) == false, (!(eqR (doRR (l.getD k rOp.dflt) (opsO l k)) (rdoR (srtM (opsO l k)) (l.getD k rOp.dflt)))) == false, okp ((srtM (opsO l k)).length ≤ 400), verOk (srtM (opsO l k)), inB (k : Int) l.length, okp (MapInv (opsO l k)), inB (k : Int) l.length, false == false, okp (MapInv (opsO l k)), decide ((k : Int) < 80) == true, decide ((k : Int) < ((l.length : Nat) : Int)) == true, decide ((k : Int) < ((l.length : Nat) : Int)) == true, decide ((k : Int) < ((l.length : Nat) : Int)) == true]) (fun rest => by kernel_rfl) (allI (by simp only [↓z1, ↓z2, ↓c1, ↓c2, ↓c3, ↓c4, ↓c5, ↓hR, ↓s1, ↓s2, hin, d1, d2]; rfl)) (k + 1) (by omega) (by omega) ⟨.of_eq hw, .of_eq hq, trivial⟩ (by rw [hs]) (by simp [idsLt, idsV, idsC, idsB])
      · have z1 : decide ((((doM (l.getD k rOp.dflt) (opsO l k)).length : Nat) : Int) > 0) = false := decide_eq_false (by omega)
        exact OneRound.goT [true, true, true, true, false, false, false, false, false, false, false, false, false, false] (vs := [vI (IntKind.i64.wrap ((k : Int) + 1)), .one (.sl rCell (rdoL (srtM (opsO l k)) (l.getD k rOp.dflt)) .shared)]) (hp' := [.mp rP rCell true true (doM (l.getD k rOp.dflt) (opsO l k)), .cells [.mref 0]])
          (cs := [decide (((((doM (l.getD k rOp.dflt) (opsO l k)).length) : Nat) : Int) > 0) == false, (!sameL (List.take (doM (l.getD k rOp.dflt) (opsO l k)).length (List.drop 0 (srtM (doM (l.getD k rOp.dflt) (opsO l k))))) (rdoL (srtM (opsO l k)) (l.getD k rOp.dflt))) == false, okp (CelOk (doM (l.getD k rOp.dflt) (opsO l k))), (!sameL (List.take ((opsO l k)).length (List.drop 0 (srtM (opsO l k)))) (srtM (opsO l k))) == false, (!(eqR (doRR (l.getD k rOp.dflt) (opsO l k)) (rdoR (srtM (opsO l k)) (l.getD k rOp.dflt)))) == false, (!(eqR (doRR (l.getD k rOp.dflt) (opsO l k)) (rdoR (srtM (opsO l k)) (l.getD k rOp.dflt)))) == false, (!(eqR (doRR (l.getD k rOp.dflt) (opsO l k)) (rdoR (srtM (opsO l k)) (l.getD k rOp.dflt)))) == false, (!(eqR (doRR (l.getD k rOp.dflt) (opsO l k)) (rdoR (srtM (opsO l k)) (l.getD k rOp.dflt)))) == false, okp (CelOk (opsO l k)), (!(eqR (doRR (l.getD k rOp.dflt) (opsO l k)) (rdoR (srtM (opsO l k)) (l.getD k rOp.dflt)))) == false, (!(eqR (doRR (l.getD k rOp.dflt) (opsO l k)) (rdoR (srtM (opsO l k)) (l.getD k rOp.dflt)))) == false, okp ((srtM (opsO l k)).length ≤ 400), verOk (srtM (opsO l k)), inB (k : Int) l.length, okp (MapInv (opsO l k)), inB (k : Int) l.length, false == false, okp (MapInv (opsO l k)), decide ((k : Int) < 80) == true, decide ((k : Int) < ((l.length : Nat) : Int)) == true, decide ((k : Int) < ((l.length : Nat) : Int)) == true, decide ((k : Int) < ((l.length : Nat) : Int)) == true]) (fun rest => by kernel_rfl) (allI (by simp only [↓z1, ↓c1, ↓c2, ↓c3, ↓c4, ↓c5, ↓hR, ↓s1, ↓s2, hin, d1, d2]; rfl)) (k + 1) (by omega) (by omega) ⟨.of_eq hw, .of_eq hq, trivial⟩ (by rw [hs]) (by simp [idsLt, idsV, idsC, idsB])
    · have d1 : decide ((k : Int) < ((l.length : Nat) : Int)) = true := decide_eq_true (by omega)
      have e : k = 80 := by omega
      subst e
      exact OneRound.stopT [true, true, true, false] (vs := [vI ((80 : Nat) : Int), vQ l 80]) (hp' := [.mp rP rCell true true (opsO l 80), .cells [.mref 0]]) (cs := [decide (((80 : Nat) : Int) < 80) == false, decide (((80 : Nat) : Int) < ((l.length : Nat) : Int)) == true, decide (((80 : Nat) : Int) < ((l.length : Nat) : Int)) == true, decide (((80 : Nat) : Int) < ((l.length : Nat) : Int)) == true]) (fun rest => by kernel_rfl) (allI (by simp only [d1]; rfl)) (by simp) ⟨.unk, .refl, trivial⟩ rfl (by simp [idsLt, idsV, idsC, idsB])
  · have d1 : decide ((k : Int) < ((l.length : Nat) : Int)) = false := decide_eq_false (by omega)
    have e : opsO l 80 = opsO l k := opsO_end (k := k) (n := 80) (by omega) (by omega)
    exact OneRound.stopT [false, false, false, false] (vs := [vI k, vQ l k]) (hp' := [.mp rP rCell true true (opsO l k), .cells [.mref 0]]) (cs := [false == false, decide ((k : Int) < ((l.length : Nat) : Int)) == false, decide ((k : Int) < ((l.length : Nat) : Int)) == false, decide ((k : Int) < ((l.length : Nat) : Int)) == false]) (fun rest => by kernel_rfl) (allI (by simp only [d1]; rfl)) (by simp) ⟨.unk, .of_eq (by unfold vQ; rw [e]), trivial⟩ (by rw [e]) (by simp [idsLt, idsV, idsC, idsB])
open Go Go.Eng

def asOp (r : CT) (l : List r.den) : Option (List rOp.den) := if h : r.eqb rOp = true then some (castL r rOp h l) else none
theorem asOp_eq {r : CT} {l : List r.den} {x : List rOp.den} (h : asOp r l = some x) : r = rOp ∧ HEq l x := by
  unfold asOp at h
  split at h
  · rename_i h1
    have e := CT.eq_of_eqb _ _ h1
    subst e
    injection h with h
    exact ⟨rfl, heq_of_eq h⟩
  · cases h
theorem srt_nil : srtM [] = [] := (srtG_perm (valsM [])).eq_nil
noncomputable def EPm4 : Env Try.prog := EPm3.addL 7 6 lPl_eq 76 [5, 4] [0, 3] (by kernel_rfl)
  (fun vals rov hp os => match vals, rov, hp with
    | [.one (.int .i64 z), .one .nils], [.one (.sl r1 l1 .shared), .one (.ptr 1 0)], [.mp (.pair .str (.pair .str .unit)) (.pair .str (.pair .str (.pair (.int .u64) (.pair .bool (.pair .str .unit))))) true true M, .cells [.mref 0]] =>
      match asOp r1 l1 with
      | some l => retC (.exit 0, [vX, vQ l 80], [.mp rP rCell true true (opsO l 80), .cells [.mref 0]]) [decide (z = 0), okp (M = [])] os
      | _ => none
    | _, _, _ => none)
  (fun vals rov hp os e outs hp' cs os' h hc => by
    split at h
    · rename_i z r1 l1 M
      split at h
      · rename_i l e1
        obtain ⟨rfl, e1⟩ := asOp_eq e1
        subst e1
        simp only [retC, Option.some.injEq, Prod.mk.injEq] at h
        obtain ⟨⟨rfl, rfl, rfl⟩, rfl, rfl⟩ := h
        obtain ⟨h1, hc⟩ := of_allTc hc
        obtain ⟨h2, _⟩ := of_allTc hc
        have h1 := of_decide_eq_true h1
        subst h1
        have hM := of_okp h2
        subst hM
        have key := pl_loop l1
        rw [srt_nil] at key
        exact LoopOk.weaken (vals' := [vI 0, .one (.sl rCell [] .shared)]) (rov := [vL rOp l1, .one (.ptr 1 0)]) (rov' := [vL rOp l1, .one (.ptr 1 0)]) ⟨.refl, .nils, trivial⟩ (.refl _) key (.inr trivial)
      · cases h
    · cases h)
open Go Go.Eng

theorem plays_pure (l : List rOp.den) : PureCall Try.prog 7 [vL rOp l] (vB true) := by
  have I : MapInv (opsO l 80) ∧ (opsO l 80).length ≤ 160 := by
    rcases Nat.lt_or_ge l.length 80 with h | h
    · rw [opsO_end (k := l.length) (n := 80) (Nat.le_refl _) (by omega)]
      obtain ⟨h1, h2, _⟩ := opsO_inv (l := l) l.length (Nat.le_refl _)
      exact ⟨h1, by omega⟩
    · obtain ⟨h1, h2, _⟩ := opsO_inv (l := l) 80 h
      exact ⟨h1, h2⟩
  have a0 : okp (([] : MapT) = []) = true := okp_of rfl
  have a1 : okp (CelOk (opsO l 80)) = true := okp_of ⟨by omega, I.1.pl.places⟩
  have a2 : sameL (List.take (opsO l 80).length (List.drop 0 (srtM (opsO l 80)))) (srtM (opsO l 80)) = true := by rw [srt_take]; exact sameL_refl _
  exact EPm4.pure_ok (os := [false, true, true]) (cs := [sameL (List.take (opsO l 80).length (List.drop 0 (srtM (opsO l 80)))) (srtM (opsO l 80)) == true, sameL (List.take (opsO l 80).length (List.drop 0 (srtM (opsO l 80)))) (srtM (opsO l 80)) == true, okp (CelOk (opsO l 80)), decide ((0 : Int) = 0), okp (([] : MapT) = []), false == false]) (by kernel_rfl) (allI (by
    simp only [↓a0, ↓a1, ↓a2]
    rfl))
abbrev sPl : List PT := [.one (.sl rOp)]
theorem plays_law (d : dens sPl) (h : WFs sPl d) : PureCall Try.prog 7 (encs sPl d) (vB true) := plays_pure d.1
end Go.Proofs.Ytolhkkoakneflaa
