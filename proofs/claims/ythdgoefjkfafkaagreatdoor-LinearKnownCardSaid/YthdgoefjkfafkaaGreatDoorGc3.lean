/- slices.SortFunc of few cells; no statement. -/
import Derived.Test.YthdgoefjkfafkaaGreatDoorCsf
import Derived.Test.YthdgoefjkfafkaaGreatDoorLc0
import Derived.Test.YthdgoefjkfafkaaGreatDoorEngZ24
set_option linter.unusedVariables false
set_option linter.unusedSimpArgs false
set_option maxRecDepth 100000
namespace Go.Proofs.YthdgoefjkfafkaaGreatDoor
open Go Go.Eng

abbrev srtG (l : List rCell.den) : List rCell.den := insC l (l.length - 1)
theorem srtG_len (l : List rCell.den) : (srtG l).length = l.length := insC_len l _
theorem sf_none : HeapCall Tryz.prog 51 [.one (.asl rCell 0 0 0 0), .one (.fn 52 [])] [.arr rCell []] (.tup []) [.arr rCell []] :=
  ECmc.heap_ok (os := []) (cs := [inB (Int.ofNat 0) 256]) (by kernel_rfl) (allI (by rfl))
noncomputable def ESfG (E : Env Tryz.prog) : Env Tryz.prog := E.addHF 51 (fun args _ => match args with | [.one (.asl _ j _ _ _), _] => [j] | _ => [])
  (fun args hp os => match args, hp with
    | [.one (.asl r1 0 0 n n'), .one (.fn 52 [])], [.arr r2 l2] =>
      match asC r2 l2 with
      | some l => if r1.eqb rCell = true then retC (.tup [], [.arr rCell (srtG l)]) [decide (n = n'), decide (n = l.length), decide (l.length ≤ 12)] os else none
      | none => none
    | _, _ => none)
  (fun args hp os r hp' cs os' h hc => by
    split at h
    · rename_i r1 n n' r2 l2
      split at h
      · rename_i l e2
        split at h
        · rename_i er
          have er := CT.eq_of_eqb _ _ er
          subst er
          obtain ⟨rfl, e2⟩ := asC_eq e2
          subst e2
          simp only [retC, Option.some.injEq, Prod.mk.injEq] at h
          obtain ⟨⟨rfl, rfl⟩, rfl, rfl⟩ := h
          obtain ⟨h1, hc⟩ := of_allTc hc
          obtain ⟨h2, hc⟩ := of_allTc hc
          obtain ⟨h4, _⟩ := of_allTc hc
          simp only [decide_eq_true_eq] at h1 h2 h4
          subst h1; subst h2
          rcases Nat.eq_zero_or_pos l2.length with h0 | h0
          · have hl : l2 = [] := List.eq_nil_of_length_eq_zero h0
            subst hl
            exact sf_none
          · exact sf_heap _ h0 h4
        · cases h
      · cases h
    · cases h)
open Go Go.Eng

noncomputable def lCl : Code := (theLoop Tryz.prog 41 5).getD .skip
theorem lCl_eq : theLoop Tryz.prog 41 5 = some lCl := by kernel_rfl
noncomputable def msCl : MS := (mapShape lCl).getD msZ
theorem msCl_eq : mapShape lCl = some msCl := by kernel_rfl
abbrev accL (n : Nat) (acc : List rCell.den) : List rCell.den := acc ++ List.replicate (n - acc.length) rCell.dflt
def hpCl (oc : Obj) (n : Nat) (acc : List rCell.den) (it mp : AB) : List AB := [mp, .roc [.mref 0] oc, .arr rCell (accL n acc), it]
open Go Go.Eng

theorem accL_step {n : Nat} {acc : List rCell.den} {x : rCell.den} (h : acc.length < n) : List.take (0 + acc.length) (accL n acc) ++ ([x] ++ List.drop (0 + acc.length + 1) (accL n acc)) = accL n (acc ++ [x]) := by
  unfold accL
  have e : List.drop (acc.length + 1) (acc ++ List.replicate (n - acc.length) rCell.dflt) = List.replicate (n - (acc ++ [x]).length) rCell.dflt := by
    rw [List.drop_append, List.drop_of_length_le (by omega), List.nil_append, List.drop_replicate, List.length_append]
    congr 1
    simp only [List.length_cons, List.length_nil]
    omega
  rw [Nat.zero_add, List.take_left, e, List.append_assoc]
theorem cl_go (lm : List (rPl.den × rCell.den)) (oc : Obj) (n : Nat) (acc : List rCell.den) (k : rPl.den) (x : rCell.den) (h : acc.length < n) :
    MapGoR rPl rCell true true lm ECmc 41 msCl 3 0 30 4 [3] (zipT [18] [.one (.ptr 3 0)]) [.one (.asl rCell 2 0 acc.length n)] (hpCl oc n acc) (.tup [(true, rPl.cells k), (true, rCell.cells x)]) [.one (.asl rCell 2 0 (acc ++ [x]).length n)] (hpCl oc n (acc ++ [x])) := by
  have e : (fun it mp => ([mp, .roc [.mref 0] oc, .arr rCell (List.take (0 + acc.length) (accL n acc) ++ ([x] ++ List.drop (0 + acc.length + 1) (accL n acc))), it] : List AB)) = hpCl oc n (acc ++ [x]) := by
    funext it mp
    rw [accL_step h]; rfl
  rw [← e, List.length_append]
  exact MapGoR.mk [false, true] (v := [.one (.asl rCell 2 0 (acc.length + 1) n)]) (cs := [Nat.ble (acc.length + 1) n == true, false == false]) (fun rest oi om => by kernel_rfl) (allI (by
    have : Nat.ble (acc.length + 1) n = true := by rw [Nat.ble_eq]; omega
    rw [this]; rfl)) (fun _ _ => ⟨.refl, trivial⟩) (fun _ _ => by simp [idsLt, idsV, idsB, idsC])
theorem cl_end (lm : List (rPl.den × rCell.den)) (oc : Obj) (n : Nat) (acc : List rCell.den) : MapEndR rPl rCell true true lm ECmc msCl 30 4 [3] (zipT [18] [.one (.ptr 3 0)]) [.one (.asl rCell 2 0 acc.length n)] (hpCl oc n acc) [.one (.asl rCell 2 0 acc.length n)] :=
  MapEndR.mk [] (v := [.one (.asl rCell 2 0 acc.length n)]) (cs := []) (fun rest oi om => by kernel_rfl) (allI rfl) (fun _ _ => ⟨.refl, trivial⟩) (fun _ _ => by simp [idsLt, idsV, idsB, idsC, hpCl])

abbrev ClInv (l : List (rPl.den × rCell.den)) (acc : List rCell.den) (rem : List (rPl.den × rCell.den)) : Prop := (acc ++ rem.map (·.2)).Perm (l.map (·.2))
theorem cl_loop (om oc : Obj) (l : List (rPl.den × rCell.den)) : LoopOkN Tryz.prog lCl 30 [3] [18] [.one (.asl rCell 2 0 0 l.length)] [.one (.ptr 3 0)] (hpCl oc l.length [] (.iter 0 l.length true) (.rom rPl rCell true true l om)) (δ := { acc // ClInv l acc [] })
    (fun d => (.exit 0, [.one (.asl rCell 2 0 d.1.length l.length)], hpCl oc l.length d.1 (.iter 0 l.length false) (.rom rPl rCell true true l om))) := by
  refine LoopOkN.rangeR ECmc lCl_eq msCl_eq (by kernel_rfl) (i := 3) (j := 0) (m := 4) (by decide) l om (.inl rfl) (.inl rfl) (fun acc => [.one (.asl rCell 2 0 acc.length l.length)]) (hpCl oc l.length) (fun t a b => ⟨rfl, rfl⟩) (fun t a b c => ⟨rfl, rfl⟩) (fun t a b => rfl)
    (ClInv l) [] (by simp [ClInv]) (fun t rest hp => by kernel_rfl) ?_ (fun t _ => cl_end _ _ _ t)
  intro acc A p B hI
  have hlen : acc.length < l.length := by
    have := hI.length_eq
    simp at this
    omega
  refine ⟨acc ++ [p.2], ?_, cl_go _ _ _ acc p.1 p.2 hlen⟩
  refine List.Perm.trans ?_ hI
  rw [List.map_append, List.map_append, List.map_cons, List.append_assoc]
  exact List.Perm.append_left acc (show (p.2 :: (A.map (·.2) ++ B.map (·.2))).Perm _ from List.perm_middle.symm)
open Go Go.Eng

noncomputable def cCl : Code := (Tryz.f41.body).getD .skip
abbrev clD (om oc : Obj) (l : List (rPl.den × rCell.den)) (acc : List rCell.den) : XE × List AV × List AB := (.exit 0, [.one (.asl rCell 2 0 acc.length l.length)], hpCl oc l.length acc (.iter 0 l.length false) (.rom rPl rCell true true l om))
noncomputable def fnCl (om oc : Obj) (l : List (rPl.den × rCell.den)) (acc : List rCell.den) (v r : List AV) (h : List AB) (os : List Bool) : Option ((XE × List AV × List AB) × List Bool × List Bool) :=
  some (clD om oc l acc, [okp (v = [.one (.asl rCell 2 0 0 l.length)] ∧ r = [.one (.ptr 3 0)] ∧ h = hpCl oc l.length [] (.iter 0 l.length true) (.rom rPl rCell true true l om))], os)
noncomputable def ECx : Env Tryz.prog := ESfG ECmc
noncomputable def runCl (om oc : Obj) (l : List (rPl.den × rCell.den)) (acc : List rCell.den) (os : List Bool) : Option (AV × List AB × List Bool × List Bool) :=
  runF Tryz.prog ECx.kp ECx.kx ECx.kk (lcD (ECx.lcs 41) 5 (spT 30 (dstsC lCl) [3] [18] (fnCl om oc l acc))) rounds0 Tryz.f41 cCl [.one (.ptr 1 0)] [.rom rPl rCell true true l om, .roc [.mref 0] oc] os
open Go Go.Eng

abbrev valsM (l : List (rPl.den × rCell.den)) : List rCell.den := l.map (·.2)

theorem cl_run (om oc : Obj) (l : List (rPl.den × rCell.den)) (h12 : l.length ≤ 12) (hs : ∀ p : List rCell.den, p.Perm (valsM l) → srtG p = srtG (valsM l)) (acc : List rCell.den) (ha : ClInv l acc []) :
    ∃ cs os', runCl om oc l acc [false, false, false, false, false, false, false] = some (.one (.asl rCell 2 0 l.length l.length), [.rom rPl rCell true true l om, .roc [.mref 0] oc, .arr rCell (srtG (valsM l)), .iter 0 l.length false], cs, os') ∧ ∀ c ∈ cs, c = true := by
  have hp : acc.Perm (valsM l) := by
    have h : (acc ++ ([] : List (rPl.den × rCell.den)).map (·.2)).Perm (l.map (·.2)) := ha
    rw [List.map_nil, List.append_nil] at h
    exact h
  have hl : acc.length = l.length := by rw [hp.length_eq, List.length_map]
  have hacc : accL l.length acc = acc := by
    unfold accL
    rw [hl, Nat.sub_self, List.replicate_zero, List.append_nil]
  have key : runCl om oc l acc [false, false, false, false, false, false, false] = some (.one (.asl rCell 2 0 acc.length l.length), [.rom rPl rCell true true l om, .roc [.mref 0] oc, .arr rCell (srtG (accL l.length acc)), .iter 0 l.length false],
      [decide (acc.length = l.length), decide (acc.length = (accL l.length acc).length), decide ((accL l.length acc).length ≤ 12),
       okp ([AV.one (.asl rCell 2 0 0 l.length)] = [.one (.asl rCell 2 0 0 l.length)] ∧ [AV.one (.ptr 3 0)] = [.one (.ptr 3 0)] ∧ hpCl oc l.length [] (.iter 0 l.length true) (.rom rPl rCell true true l om) = hpCl oc l.length [] (.iter 0 l.length true) (.rom rPl rCell true true l om)),
       decide ((0 : Int) ≤ 0 ∧ (0 : Int) ≤ ((l.length : Nat) : Int) ∧ (64 : Int) * ((l.length : Nat) : Int) ≤ 281474976710656 ∧ ((l.length : Nat) : Int) ≤ 9223372036854775807), false == false, false == false, false == false, false == false, false == false, false == false, false == false], []) := by kernel_rfl
  rw [hacc, hl, hs acc hp] at key
  have n1 : decide (l.length = l.length) = true := decide_eq_true rfl
  have n3 : decide (l.length ≤ 12) = true := decide_eq_true h12
  have n4 : decide ((0 : Int) ≤ 0 ∧ (0 : Int) ≤ ((l.length : Nat) : Int) ∧ (64 : Int) * ((l.length : Nat) : Int) ≤ 281474976710656 ∧ ((l.length : Nat) : Int) ≤ 9223372036854775807) = true := decide_eq_true (by omega)
  have n5 : okp ([AV.one (.asl rCell 2 0 0 l.length)] = [.one (.asl rCell 2 0 0 l.length)] ∧ [AV.one (.ptr 3 0)] = [.one (.ptr 3 0)] ∧ hpCl oc l.length [] (.iter 0 l.length true) (.rom rPl rCell true true l om) = hpCl oc l.length [] (.iter 0 l.length true) (.rom rPl rCell true true l om)) = true := okp_of ⟨rfl, rfl, rfl⟩
  refine ⟨_, _, key, allI ?_⟩
  rw [n5]
  simp only [↓n1, ↓n3, ↓n4]
  rfl
theorem clN (om oc : Obj) (l : List (rPl.den × rCell.den)) (h12 : l.length ≤ 12) (hs : ∀ p : List rCell.den, p.Perm (valsM l) → srtG p = srtG (valsM l)) :
    HeapCall Tryz.prog 41 [.one (.ptr 1 0)] [.rom rPl rCell true true l om, .roc [.mref 0] oc] (.one (.asl rCell 2 0 l.length l.length)) [.rom rPl rCell true true l om, .roc [.mref 0] oc, .arr rCell (srtG (valsM l)), .iter 0 l.length false] :=
  ECx.heap_okN Tryz.func41 (by decide +kernel) (c := cCl) (by kernel_rfl) lCl_eq (by kernel_rfl) (slots := [3]) (ro := [18]) (nt := 30) (by kernel_rfl) (δ := { acc // ClInv l acc [] }) ⟨valsM l, by simp [ClInv]⟩ (cl_loop om oc l) (fnD := fun d => fnCl om oc l d.1)
    (fun d v r h os x hx => ⟨_, fun d' => rfl, fun hc => of_okp (hc _ (List.mem_cons_self ..))⟩)
    (os := [false, false, false, false, false, false, false]) (fun d => cl_run om oc l h12 hs d.1 d.2)
theorem cl_heap (om oc : Obj) (l : List (rPl.den × rCell.den)) (h12 : l.length ≤ 12) (hs : ∀ p : List rCell.den, p.Perm (valsM l) → srtG p = srtG (valsM l)) :
    HeapCall Tryz.prog 41 [.one (.ptr 1 0)] [.rom rPl rCell true true l om, .roc [.mref 0] oc] (.one (.asl rCell 2 0 l.length l.length)) [.rom rPl rCell true true l om, .roc [.mref 0] oc, .arr rCell (srtG (valsM l))] :=
  cut_heap 3 (clN om oc l h12 hs) (show 2 ≤ 3 by omega) (by simp [idsV, idsC]) (show ∀ b ∈ [AB.rom rPl rCell true true l om, .roc [.mref 0] oc, .arr rCell (srtG (valsM l))], ∀ i ∈ idsB b, i < 3 by simp [idsB, idsC])
end Go.Proofs.YthdgoefjkfafkaaGreatDoor
