/- Copy of a promised model: its contract; no statement. -/
import Derived.Test.YthdgoefjkfafkaaGreatDoorLc0
import Derived.Test.YthdgoefjkfafkaaGreatDoorGc3
import Derived.Test.YthdgoefjkfafkaaGreatDoorLjn
set_option linter.unusedVariables false
set_option linter.unusedSimpArgs false
set_option maxRecDepth 100000
namespace Go.Proofs.YthdgoefjkfafkaaGreatDoor
open Go Go.Eng

theorem cp_go (lm : MapT) (oc : Obj) (t : MapT) (k : rPl.den) (x : rCell.den) : MapGoR rPl rCell true true lm E0 28 msCp 4 0 26 5 [] (zipT [13, 3] rvCp) [] (hpCp oc t) (.tup [(true, rPl.cells k), (true, rCell.cells x)]) [] (hpCp oc (aset k x t)) :=
  MapGoR.mk [] (v := []) (cs := []) (fun rest oi om => by kernel_rfl) (allI rfl) (fun _ _ => trivial) (fun _ _ => by simp [idsLt, idsB, idsC, hpCp])
theorem cp_end (lm : MapT) (oc : Obj) (t : MapT) : MapEndR rPl rCell true true lm E0 msCp 26 5 [] (zipT [13, 3] rvCp) [] (hpCp oc t) [] :=
  MapEndR.mk [] (v := []) (cs := []) (fun rest oi om => by kernel_rfl) (allI rfl) (fun _ _ => trivial) (fun _ _ => by simp [idsLt, idsB, idsC, hpCp])
theorem aset_new {k : rPl.den} {v : rCell.den} {M : MapT} (h : k ∉ M.map (·.1)) : aset k v M = M ++ [(k, v)] := by
  induction M with
  | nil => rfl
  | cons q M ih =>
    simp only [List.map_cons, List.mem_cons, not_or] at h
    simp only [aset]
    rw [if_neg (fun e => h.1 (same_eq rPl rfl e)), ih h.2]
    rfl
def CpInv (l : MapT) (t rem : MapT) : Prop := (t ++ rem).Perm l
theorem cp_loopN (om oc : Obj) (l : MapT) (hn : (l.map (·.1)).Nodup) : LoopOkN Tryz.prog lCp 26 [] [13, 3] [] rvCp (hpCp oc [] (.iter 0 l.length true) (.rom rPl rCell true true l om)) (δ := { t // CpInv l t [] })
    (fun d => (.exit 0, [], hpCp oc d.1 (.iter 0 l.length false) (.rom rPl rCell true true l om))) := by
  refine LoopOkN.rangeR E0 lCp_eq msCp_eq (by kernel_rfl) (i := 4) (j := 0) (m := 5) (by decide) l om (.inl rfl) (.inl rfl) (fun _ => []) (hpCp oc) (fun t a b => ⟨rfl, rfl⟩) (fun t a b c => ⟨rfl, rfl⟩) (fun t a b => rfl)
    (CpInv l) [] (List.Perm.refl l) (fun t rest hp => by kernel_rfl) ?_ (fun t _ => cp_end l oc t)
  intro t A p B h1
  have hnew : p.1 ∉ t.map (·.1) := by
    have h2 := ((h1.map (·.1)).nodup_iff).2 hn
    rw [List.map_append, List.map_append, List.map_cons] at h2
    have h3 := (List.nodup_append.1 h2).2.2
    exact fun hm => h3 _ hm _ (List.mem_append_right _ (List.mem_cons_self ..)) rfl
  refine ⟨aset p.1 p.2 t, ?_, cp_go l oc t p.1 p.2⟩
  rw [aset_new hnew]
  refine List.Perm.trans ?_ h1
  rw [List.append_assoc]
  exact List.Perm.append_left t (show (p :: (A ++ B)).Perm _ from List.perm_middle.symm)
theorem cp_loop (om oc : Obj) (l : MapT) (hn : (l.map (·.1)).Nodup) : LoopOk Tryz.prog lCp 26 [] [13, 3] [] rvCp (hpCp oc [] (.iter 0 l.length true) (.rom rPl rCell true true l om)) (.exit 0) [] (hpCp oc l (.iter 0 l.length false) (.rom rPl rCell true true l om)) :=
  (cp_loopN om oc l hn).perm (j := 2) (m := l) rfl fun ⟨t, ht⟩ => ⟨t, by unfold CpInv at ht; rwa [List.append_nil] at ht, rfl⟩
noncomputable def ECp : Env Tryz.prog := E0.addL 28 5 lCp_eq 26 [] [13, 3] (by kernel_rfl)
  (fun vals rov hp os => match vals, rov, hp with
    | [], [.one (.ptr 4 0), .one (.ptr 3 0)], [.rom (.pair .str (.pair .str .unit)) (.pair .str (.pair .str (.pair (.int .u64) (.pair .bool (.pair .str .unit))))) true true M om, .roc [.mref 0] oc, .mp (.pair .str (.pair .str .unit)) (.pair .str (.pair .str (.pair (.int .u64) (.pair .bool (.pair .str .unit))))) true true M2, .cells [.mref 2], .iter 0 n true] =>
      retC (.exit 0, [], hpCp oc M (.iter 0 M.length false) (.rom rPl rCell true true M om)) [okp (M2 = [] ∧ n = M.length ∧ (M.map (·.1)).Nodup)] os
    | _, _, _ => none)
  (fun vals rov hp os e outs hp' cs os' h hc => by
    split at h
    · rename_i M om oc M2 n
      simp only [retC, Option.some.injEq, Prod.mk.injEq] at h
      obtain ⟨⟨rfl, rfl, rfl⟩, rfl, rfl⟩ := h
      obtain ⟨rfl, rfl, hn⟩ := of_okp (of_allTc hc).1
      exact cp_loop om oc M hn
    · cases h)
theorem cp_heap (om oc : Obj) (M : MapT) (hn : (M.map (·.1)).Nodup) : HeapCall Tryz.prog 28 [.one (.ptr 1 0)] [.rom rPl rCell true true M om, .roc [.mref 0] oc] (.one (.ptr 3 0)) [.rom rPl rCell true true M om, .roc [.mref 0] oc, .mp rPl rCell true true M, .cells [.mref 2]] :=
  ECp.heap_cut 4 (os := []) (hp' := hpCp oc M (.iter 0 M.length false) (.rom rPl rCell true true M om)) (cs := [okp (([] : MapT) = [] ∧ M.length = M.length ∧ (M.map (·.1)).Nodup)]) (by kernel_rfl) (allI (by rw [okp_of ⟨rfl, rfl, hn⟩]; rfl)) (by simp) (by simp [idsV, idsC]) rfl (by simp [idsB, idsC])
theorem cp_call (M : MapT) : HeapCall Tryz.prog 28 [.one (.mdl rPl rCell true true M)] [] (.one (.ptr 1 0)) [.mp rPl rCell true true M, .cells [.mref 0]] :=
  HeapCall.lend_copy ⟨_, Tryz.func28, by kernel_rfl, by kernel_rfl⟩ fun hn om oc => cp_heap om oc M hn
open Go Go.Eng

abbrev rPend : CT := .pair cI (.pair cU (.pair rOp (.pair .bool (.pair .bool (.pair rRes .unit)))))
theorem clone0 : PureCall Tryz.prog 20 [.one (.sl rPend [] .shared)] (.one (.sl rPend [] .full)) := by
  have p0 : PureCall Tryz.prog 20 [.one .nilz] (.one .nils) := E0.pure_ok (os := []) (cs := []) (by kernel_rfl) allT0
  have p1 : PureCall Tryz.prog 20 [.one (.sl rPend [] .nn)] (.one (.sl rPend [] .full)) := E0.pure_ok (os := []) (cs := []) (by kernel_rfl) allT0
  refine ⟨p0.1, fun X vs hX hv => ?_⟩
  obtain ⟨y, hvs, hy⟩ : ∃ y, vs = [y] ∧ VR X (.one (.sl rPend [] .shared)) y := by
    have hl := hv.1
    match vs, hl with
    | [y], _ => exact ⟨y, rfl, hv.2 0 _ _ rfl rfl⟩
  subst hvs
  obtain ⟨A, n, cap, e, hn, hc, hm, hh, _⟩ := hy
  cases A with
  | none =>
    have hz : n = 0 := hn
    subst hz
    exact (p0.2 X [y] hX (PW.cons ⟨cap, e⟩ PW.nil)).mono fun e w' ⟨val, X', h1, h2, h3, h4, h5, h6⟩ => ⟨val, X', h1, h2, h3, h4, h5, ⟨none, 0, 0, h6, rfl, Nat.le_refl _, Nat.zero_le _, .inl rfl, rfl⟩⟩
  | some a =>
    have hnn : VR X (.one (.sl rPend [] .nn)) y := ⟨some a, n, cap, e, hn, hc, hm, hh, a, rfl⟩
    exact p1.2 X [y] hX (PW.cons hnn PW.nil)
theorem clone0h : HeapCall Tryz.prog 20 [.one (.sl rPend [] .shared)] [] (.one (.sl rPend [] .full)) [] :=
  ⟨clone0.1, fun X vs hX hH hv => (clone0.2 X vs hX hv).mono fun e w' ⟨val, X', h1, h2, h3, h4, h5, h6⟩ => ⟨val, X', h1, h2, h3, h4, h5.trans hH, h6⟩⟩
theorem clone1 (x : rPend.den) (l : List rPend.den) (h : Nat.ble l.length 1000000 = true) : HeapCall Tryz.prog 20 [.one (.sl rPend (x :: l) .shared)] [] (.one (.bsl rPend 0 0 (x :: l).length (x :: l).length)) [.arr rPend (x :: l)] :=
  E0.heap_ok (os := [false]) (cs := [!false, (((x :: l).length * Tryz.t66.bytes).ble 140737488355328 && (x :: l).length.ble maxLen), (false == false)]) (by kernel_rfl) (allI (by
    have e : Tryz.t66.bytes = 160 := by kernel_rfl
    have h1 : l.length ≤ 1000000 := by simpa using h
    have h2 : ((x :: l).length * 160).ble 140737488355328 = true := by simp only [Nat.ble_eq, List.length_cons]; omega
    have h3 : (x :: l).length.ble maxLen = true := by simp only [Nat.ble_eq, List.length_cons, maxLen]; omega
    rw [e, h2, h3]; rfl))
def asP (r : CT) (l : List r.den) : Option (List rPend.den) := if h : r.eqb rPend = true then some (castL r rPend h l) else none
theorem asP_eq {r : CT} {l : List r.den} {x : List rPend.den} (h : asP r l = some x) : r = rPend ∧ HEq l x := by
  unfold asP at h
  split at h
  · rename_i h1
    have e := CT.eq_of_eqb _ _ h1
    subst e
    injection h with h
    exact ⟨rfl, heq_of_eq h⟩
  · cases h
noncomputable def EClo (E : Env Tryz.prog) : Env Tryz.prog := E.addHN 20 1
  (fun args hp os => match args, hp with
    | [.one (.sl row l .shared)], [] => match asP row l with
      | some [] => retC (.one (.sl rPend [] .full), []) [] os
      | some (x :: r) => retC (.one (.bsl rPend 0 0 (x :: r).length (x :: r).length), [.arr rPend (x :: r)]) [Nat.ble r.length 1000000] os
      | none => none
    | _, _ => none)
  (fun args hp os r hp' cs os' h hc => by
    split at h
    · rename_i row l
      split at h
      · rename_i e
        obtain ⟨rfl, e⟩ := asP_eq e
        subst e
        simp only [retC, Option.some.injEq, Prod.mk.injEq] at h
        obtain ⟨⟨rfl, rfl⟩, rfl, rfl⟩ := h
        exact clone0h
      · rename_i x r e
        obtain ⟨rfl, e⟩ := asP_eq e
        subst e
        simp only [retC, Option.some.injEq, Prod.mk.injEq] at h
        obtain ⟨⟨rfl, rfl⟩, rfl, rfl⟩ := h
        exact clone1 x r (of_allTc hc).1
      · cases h
    · cases h)
def asM (k v : CT) (l : List (k.den × v.den)) : Option MapT := if h : k.eqb rPl = true ∧ v.eqb rCell = true then some (castL (.pair k v) (.pair rPl rCell) (by simp only [CT.eqb, h.1, h.2]; rfl) l) else none
theorem asM_eq {k v : CT} {l : List (k.den × v.den)} {x : MapT} (h : asM k v l = some x) : k = rPl ∧ v = rCell ∧ HEq l x := by
  unfold asM at h
  split at h
  · rename_i h1
    have e := CT.eq_of_eqb _ _ h1.1
    have e2 := CT.eq_of_eqb _ _ h1.2
    subst e; subst e2
    injection h with h
    exact ⟨rfl, rfl, heq_of_eq h⟩
  · cases h
noncomputable def ECpy (E : Env Tryz.prog) : Env Tryz.prog := E.addHN 28 2
  (fun args hp os => match args, hp with
    | [.one (.mdl k v true true l)], [] => match asM k v l with
      | some M => retC (.one (.ptr 1 0), [.mp rPl rCell true true M, .cells [.mref 0]]) [] os
      | none => none
    | _, _ => none)
  (fun args hp os r hp' cs os' h hc => by
    split at h
    · rename_i k v l
      split at h
      · rename_i M e
        obtain ⟨rfl, rfl, e⟩ := asM_eq e
        subst e
        simp only [retC, Option.some.injEq, Prod.mk.injEq] at h
        obtain ⟨⟨rfl, rfl⟩, rfl, rfl⟩ := h
        exact cp_call _
      · cases h
    · cases h)
open Go Go.Eng

/-- At most two cells, of different places. -/
def two (l : List rCell.den) : Bool := match l with
  | [] => true
  | [_] => true
  | [a, b] => (decide (cmpC a b < 0) && !decide (cmpC b a < 0)) || (decide (cmpC b a < 0) && !decide (cmpC a b < 0))
  | _ => false
def sortI (l : List rCell.den) : List rCell.den := match l with
  | [a, b] => if cmpC b a < 0 then [b, a] else [a, b]
  | l => l
theorem pair_perm {α : Type} {p : List α} {a b : α} (h : p.Perm [a, b]) : p = [a, b] ∨ p = [b, a] := by
  have hl := h.length_eq
  match p, hl, h with
  | [x, y], _, h =>
    have hx : x ∈ [a, b] := h.mem_iff.1 (List.mem_cons_self ..)
    simp only [List.mem_cons, List.not_mem_nil, or_false] at hx
    rcases hx with rfl | rfl
    · have := h.cons_inv
      rw [List.perm_singleton] at this
      rw [this]; exact .inl rfl
    · have := (h.trans (List.Perm.swap ..)).cons_inv
      rw [List.perm_singleton] at this
      rw [this]; exact .inr rfl
theorem srt_two (a b : rCell.den) : srtG [a, b] = if cmpC b a < 0 then [b, a] else [a, b] := rfl
theorem sort_two {l : List rCell.den} (h : two l = true) : (∀ p : List rCell.den, p.Perm l → srtG p = srtG l) ∧ srtG l = sortI l := by
  match l, h with
  | [], _ => exact ⟨fun p hp => by rw [hp.eq_nil], rfl⟩
  | [a], _ => exact ⟨fun p hp => by rw [List.perm_singleton.1 hp], rfl⟩
  | [a, b], h =>
    refine ⟨fun p hp => ?_, srt_two a b⟩
    rcases pair_perm hp with rfl | rfl
    · rfl
    · rw [srt_two, srt_two]
      simp only [two, Bool.or_eq_true, Bool.and_eq_true, decide_eq_true_eq, Bool.not_eq_true', decide_eq_false_iff_not] at h
      rcases h with ⟨h1, h2⟩ | ⟨h1, h2⟩
      · rw [if_pos h1, if_neg h2]
      · rw [if_neg h2, if_pos h1]
theorem two_len {l : List rCell.den} (h : two l = true) : l.length ≤ 2 := by
  match l, h with
  | [], _ => simp
  | [a], _ => simp
  | [a, b], _ => simp
theorem cells_pure (M : MapT) (h2 : two (valsM M) = true) :
    PureCall Tryz.prog 41 [.one (.mdl rPl rCell true true M)] (.one (.sl rCell (sortI (valsM M)) .full)) := by
  obtain ⟨hp, e1⟩ := sort_two h2
  have hml : M.length ≤ 2 := by simpa [valsM] using two_len h2
  have hlen : (srtG (valsM M)).length = M.length := by rw [srtG_len]; simp [valsM]
  rw [← e1]
  refine PureCall.lend (os := []) (cs := []) (os' := []) (r := .one (.asl rCell 2 0 M.length M.length)) (hp' := fun om oc => [.rom rPl rCell true true M om, .roc [.mref 0] oc, .arr rCell (srtG (valsM M))]) ⟨_, Tryz.func41, by kernel_rfl, by kernel_rfl⟩
    (fun _ om oc => cl_heap om oc M (by omega) hp) (fun om oc => ?_) allT0
  have e2 : ((srtG (valsM M)).drop 0).take M.length = srtG (valsM M) := by
    rw [List.drop_zero, ← hlen, List.take_length]
  have e3 : aslRows (fun i => [AB.rom rPl rCell true true M om, .roc [.mref 0] oc, .arr rCell (srtG (valsM M))][i]?) rCell 2 0 M.length = some (srtG (valsM M)) := by
    unfold aslRows
    show (if h : rCell.eqb rCell = true then some (((castL rCell rCell h (srtG (valsM M))).drop 0).take M.length) else none) = _
    rw [dif_pos (by rfl)]
    exact congrArg some e2
  have e4 : Nat.beq M.length M.length = true := Nat.beq_refl _
  simp only [wkRA, wkRC, e3, br, e4, Option.map_some]
noncomputable def ECel (E : Env Tryz.prog) : Env Tryz.prog := E.addP 41
  (fun args os => match args with
    | [.one (.mdl k v true true l)] => match asM k v l with
      | some M => retC (.one (.sl rCell (sortI (valsM M)) .full)) [two (valsM M)] os
      | none => none
    | _ => none)
  (fun args os r cs os' h hc => by
    split at h
    · rename_i k v l
      split at h
      · rename_i M e
        obtain ⟨rfl, rfl, e⟩ := asM_eq e
        subst e
        simp only [retC, Option.some.injEq, Prod.mk.injEq] at h
        obtain ⟨rfl, rfl, rfl⟩ := h
        exact cells_pure _ (of_allTc hc).1
      · cases h
    · cases h)
open Go Go.Eng

noncomputable def EWs (E : Env Tryz.prog) : Env Tryz.prog := E.addH fWS
  (fun args hp os => match args with
    | [.one (.ptr i 0), .one (.str s)] => match hp[i]? with
      | some (.bld T .nils) => retC (rWS s, hp.set i (.bld tB (.ptr hp.length s.size)) ++ [.buf 5 s]) [Nat.beq T tB, Nat.blt 0 s.size, Nat.ble s.size 140737488355328] os
      | some (.bld T (.ptr j n)) => match hp[j]? with
        | some (.buf e t) => retC (rWS s, (hp.set i (.bld tB (.ptr hp.length (t ++ s).size))).set j .dead ++ [.buf 5 (t ++ s)]) [Nat.beq T tB, Nat.beq e 5, Nat.beq n t.size, Nat.blt 0 (t.size + s.size), Nat.ble (t.size + s.size) 140737488355328] os
        | _ => none
      | _ => none
    | _ => none)
  (fun args hp os r hp' cs os' h hc => by
    split at h
    · rename_i i s
      split at h
      · rename_i T hi
        simp only [retC, Option.some.injEq, Prod.mk.injEq] at h
        obtain ⟨⟨rfl, rfl⟩, rfl, rfl⟩ := h
        obtain ⟨h1, hc⟩ := of_allTc hc
        obtain ⟨h2, hc⟩ := of_allTc hc
        obtain ⟨h3, _⟩ := of_allTc hc
        rw [Nat.beq_eq] at h1
        subst h1
        exact ws_first hp i s hi h2 h3
      · rename_i T j n hi
        split at h
        · rename_i e t hj
          simp only [retC, Option.some.injEq, Prod.mk.injEq] at h
          obtain ⟨⟨rfl, rfl⟩, rfl, rfl⟩ := h
          obtain ⟨h1, hc⟩ := of_allTc hc
          obtain ⟨h2, hc⟩ := of_allTc hc
          obtain ⟨h3, hc⟩ := of_allTc hc
          obtain ⟨h4, hc⟩ := of_allTc hc
          obtain ⟨h5, _⟩ := of_allTc hc
          rw [Nat.beq_eq] at h1 h2 h3
          subst h1; subst h2; subst h3
          exact ws_more hp i j t s hi hj h4 h5
        · cases h
      · cases h
    · cases h)
noncomputable def ESt (E : Env Tryz.prog) : Env Tryz.prog := E.addH fST
  (fun args hp os => match args with
    | [.one (.ptr i 0)] => match hp[i]? with
      | some (.bld T .nils) => retC (.one (.str ByteArray.empty), hp) [Nat.beq T tB] os
      | some (.bld T (.ptr j n)) => match hp[j]? with
        | some (.buf e t) => retC (.one (.str t), hp.set j .dead) [Nat.beq T tB, Nat.beq e 5, Nat.beq n t.size, Nat.blt 0 t.size] os
        | _ => none
      | _ => none
    | _ => none)
  (fun args hp os r hp' cs os' h hc => by
    split at h
    · rename_i i
      split at h
      · rename_i T hi
        simp only [retC, Option.some.injEq, Prod.mk.injEq] at h
        obtain ⟨⟨rfl, rfl⟩, rfl, rfl⟩ := h
        obtain ⟨h1, _⟩ := of_allTc hc
        rw [Nat.beq_eq] at h1
        subst h1
        exact st_empty hp i hi
      · rename_i T j n hi
        split at h
        · rename_i e t hj
          simp only [retC, Option.some.injEq, Prod.mk.injEq] at h
          obtain ⟨⟨rfl, rfl⟩, rfl, rfl⟩ := h
          obtain ⟨h1, hc⟩ := of_allTc hc
          obtain ⟨h2, hc⟩ := of_allTc hc
          obtain ⟨h3, hc⟩ := of_allTc hc
          obtain ⟨h4, _⟩ := of_allTc hc
          rw [Nat.beq_eq] at h1 h2 h3
          subst h1; subst h2; subst h3
          exact st_full hp i j t hi hj h4
        · cases h
      · cases h
    · cases h)
/-- All of them. -/
noncomputable def EL0 : Env Tryz.prog := ESt (EWs (EJn (ECel (EClo (ECpy E0)))))
end Go.Proofs.YthdgoefjkfafkaaGreatDoor
