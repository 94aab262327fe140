/- SortFunc of cells, however many: its contract, out of the shelf's; no statement. -/
import Derived.Test.YtolhkkoakneflaaGsb
import Derived.Test.YtolhkkoakneflaaSly
import Derived.Shelf.SlSortCmp.WholeK
set_option linter.unusedVariables false
set_option linter.unusedSimpArgs false
namespace Go.Proofs.Ytolhkkoakneflaa
open Go Go.Eng Go.Sort

/-- The sorted list. -/
def srtG (l : List rCell.den) : List rCell.den := (pdq (ltOf cmpC) l.toArray 0 l.toArray.size (Lib.bitLen l.toArray.size) true true).toList
theorem srtG_sorts (l : List rCell.den) : PermIn 0 l.toArray.size l.toArray (srtG l).toArray ∧ SortedIn (ltOf cmpC) 0 l.toArray.size (srtG l).toArray := by
  have h := pdq_sorts (ltOf cmpC) cmp3_cells.swo l.toArray 0 l.toArray.size (Lib.bitLen l.toArray.size) true true (Nat.zero_le _) (Nat.le_refl _) (Or.inl rfl)
  unfold srtG
  rw [Array.toArray_toList]
  exact h
theorem srtG_len (l : List rCell.den) : (srtG l).length = l.length := by
  have := (srtG_sorts l).1.1
  simpa using this
theorem srtG_perm (l : List rCell.den) : (srtG l).Perm l := by
  have h := (srtG_sorts l).1
  have h2 := h.2.2
  rw [Array.toList_extract, Array.toList_extract] at h2
  simp only [List.extract_eq_take_drop, List.drop_zero, Nat.sub_zero, List.size_toArray] at h2
  rw [List.take_of_length_le (by rw [srtG_len]; exact Nat.le_refl _), List.take_of_length_le (Nat.le_refl _)] at h2
  exact h2

/-- A row's cells, one behind the other. -/
theorem row_cells {c : Array Value} {j : Nat} {x : rCell.den} {IC : Addr → Value → Prop} (h : RelT rCell x (fun k y => c[j * 5 + k]? = some y) IC) : ∀ k, k < 5 → c[j * 5 + k]? = some ((encC x)[k]!) := by
  obtain ⟨h0, h1, h2, h3, h4, _⟩ := h
  intro k hk
  match k, hk with
  | 0, _ => exact h0
  | 1, _ => exact h1
  | 2, _ => exact h2
  | 3, _ => exact h3
  | 4, _ => exact h4
theorem flat_get (l : List rCell.den) {j : Nat} {x : rCell.den} (hj : l[j]? = some x) {k : Nat} (hk : k < 5) : (flatK encC 5 l.toArray)[j * 5 + k]! = (encC x)[k]! := by
  have hlt : j < l.length := (List.getElem?_eq_some_iff.1 hj).1
  rw [get_flatK encC 5 l.toArray (j * 5 + k) (by simp only [List.size_toArray]; omega)]
  have e1 : (j * 5 + k) / 5 = j := by omega
  have e2 : (j * 5 + k) % 5 = k := by omega
  rw [e1, e2]
  congr 2
  rw [getElem!_pos _ _ (by simpa using hlt)]
  rw [List.getElem?_eq_getElem hlt] at hj
  simpa using hj
theorem putRow_at {w : World} {blk : Nat} {c : Array Value} {t : TypeId} {fr : Nat × Nat} (h : w.heap[blk]? = some (.cells c t fr)) (F : Array Value) : (putRow id w blk 0 F).heap[blk]? = some (.cells (putCells id 0 F c) t fr) := by
  simp only [putRow, mapBlock, Array.getElem?_modify, if_true, h, Option.map_some, onCells]
theorem putCells_at (F c : Array Value) (k : Nat) (hF : k < F.size) (hc : k < c.size) : (putCells id 0 F c)[k]? = some F[k]! := by
  simp [putCells, hc, hF]

theorem sfG_heap (l : List rCell.den) (hl : l.length < 4611686018427387904) :
    HeapCall Try.prog 32 [.one (.asl rCell 0 0 l.length l.length), .one (.fn 33 [])] [.arr rCell l] (.tup []) [.arr rCell (srtG l)] :=
  ⟨⟨_, Try.func32, by kernel_rfl, by kernel_rfl⟩, fun X vs hX hH hv => by
    have hH0 : X.H 0 = some (.arr rCell l) := by rw [hH]; rfl
    obtain ⟨v0, hv0, r0⟩ := hv.at_ (j := 0) rfl
    obtain ⟨v1, hv1, r1⟩ := hv.at_ (j := 1) rfl
    obtain ⟨l0, e0, rfl, _⟩ := r0
    obtain ⟨cb, rfl, hcb, _⟩ := r1
    have hcb : cb = #[] := Array.eq_empty_of_size_eq_zero hcb
    subst hcb
    have hvs : vs = [.slice (some ⟨X.φ 0, 0, none⟩) l.length l.length, .func (.func 33) #[] #[]] := by
      apply List.ext_getElem?
      intro i
      match i with
      | 0 => rw [hv0]; simp
      | 1 => rw [hv1]; rfl
      | i + 2 =>
        have := hv.1
        rw [List.getElem?_eq_none (by simp at this; omega)]; rfl
    rw [hvs]
    obtain ⟨c, t, b1, ⟨b2, b3⟩, b4⟩ := hX.blk 0 _ hH0
    have b2 : l.length * 5 ≤ c.size := b2
    have hblk : X.φ 0 < X.w.heap.size := hX.lt 0 _ hH0 rfl
    have cellv : ∀ j x, l[j]? = some x → ∀ k, k < 5 → c[j * 5 + k]? = some ((encC x)[k]!) := fun j x hj => row_cells (b4 j x hj)
    have hHolds : HoldsK encC 5 X.w (X.φ 0) 0 l.toArray := by
      intro j hj
      rw [size_flatK, List.size_toArray] at hj
      have hx : l[j / 5]? = some (l[j / 5]'(by omega)) := List.getElem?_eq_getElem (by omega)
      have e : j = j / 5 * 5 + j % 5 := by omega
      refine ⟨?_, ?_⟩
      · rw [Nat.zero_add]
        show X.w.cell? ⟨X.φ 0, j, none⟩ = some ((flatK encC 5 l.toArray)[j]!)
        have h1 := cellv _ _ hx (j % 5) (Nat.mod_lt _ (by decide))
        have h2 := flat_get l hx (k := j % 5) (Nat.mod_lt _ (by decide))
        rw [← e] at h1 h2
        rw [h2, ← h1]
        simp only [World.cell?, b1]
        rfl
      · rw [Nat.zero_add]
        have := b3 j (by omega)
        simp only [World.frozen?, b1]
        simpa using this
    have key := AnyQ.slices_SortFunc_eq sortCell 5 Try.isAgg52 Try.sizeOf52 encC (fun _ => rfl) (fun x v hv => by
        rw [encC_eq] at hv
        simp only [List.mem_cons, List.not_mem_nil, or_false] at hv
        rcases hv with rfl | rfl | rfl | rfl | rfl <;> rfl) cmpC cmp3_cells.swo 33 #[] (X.φ 0) 0 l.length l.toArray X.w (enters_of Try.func33 (by kernel_rfl) rfl) (cmp_lays _ _ _ _) hHolds hblk (by simpa using hl)
    have key : Calls Try.prog 32 #[.slice (some ⟨X.φ 0, 0, none⟩) l.toArray.size l.length, .func (.func 33) #[] #[]] X.w _ := key
    rw [List.size_toArray] at key
    refine key.mono fun e w' ⟨he, n, os, hw⟩ => ?_
    have hpdq : pdq (ltOf cmpC) l.toArray 0 l.length (Lib.bitLen l.length) true true = (srtG l).toArray := by
      unfold srtG
      rw [Array.toArray_toList]; simp
    rw [hpdq] at hw
    have hsl := srtG_len l
    let w1 := putRow id (Go.Sort.ahead X.w n) (X.φ 0) 0 (flatK encC 5 (srtG l).toArray)
    have hat : w1.heap[X.φ 0]? = some (.cells (putCells id 0 (flatK encC 5 (srtG l).toArray) c) t.1 t.2) := putRow_at (w := Go.Sort.ahead X.w n) b1 _
    have ho : OneBlock X 0 w1 := ⟨rfl, rfl, rfl, size_putRow _ _ _ _ _, fun k hk => by
      show ((Go.Sort.ahead X.w n).heap.modify (X.φ 0) _)[k]? = _
      rw [Array.getElem?_modify, if_neg (fun h => hk h.symm)]; rfl, Nat.le_add_right _ _⟩
    have harr : ∀ row (q : List row.den), AB.arr rCell l = .arr row q → ∃ l' : List row.den, AB.arr rCell (srtG l) = .arr row l' ∧ l'.length = q.length := fun row q hq => by
      cases hq
      exact ⟨_, rfl, hsl⟩
    have hb : BRel (X.put 0 (.arr rCell (srtG l)) w1) 0 (.arr rCell (srtG l)) := by
      refine ⟨_, t, hat, ⟨?_, fun o ho => b3 o ?_⟩, fun j x hj => ?_⟩
      · show (srtG l).length * 5 ≤ _
        rw [hsl]
        simpa [putCells] using b2
      · simpa [putCells] using ho
      · have hjl : j < l.length := by rw [← hsl]; exact (List.getElem?_eq_some_iff.1 hj).1
        refine RelT.mono_lt0 rCell x (fun k y hk hy => ?_) (fun _ _ h => h) (flat_rel (IC := (X.put 0 (.arr rCell (srtG l)) w1).IC) rCell x rfl)
        have hk : k < 5 := hk
        have hy : (encC x)[k]? = some y := hy
        show (putCells id 0 (flatK encC 5 (srtG l).toArray) c)[j * 5 + k]? = some y
        rw [putCells_at _ _ _ (by rw [size_flatK, List.size_toArray, hsl]; omega) (by omega), flat_get (srtG l) hj hk]
        rw [List.getElem!_eq_getElem?_getD, hy]; rfl
    have hle1 := put_le hX hH0 rfl rfl ho harr
    have hX1 := HRel.put hX hH0 rfl rfl ho harr hb
    have hw' : w' = grow w1 os := hw
    have hbel : Go.RowKit.Below (X.put 0 (.arr rCell (srtG l)) w1).w.heap.size (X.put 0 (.arr rCell (srtG l)) w1).w w' := by
      rw [hw']
      refine ⟨rfl, rfl, rfl, ?_, fun k hk => ?_⟩
      · show w1.heap.size ≤ (w1.heap ++ os).size
        rw [Array.size_append]; omega
      · show (w1.heap ++ os)[k]? = w1.heap[k]?
        exact Array.getElem?_append_left hk
    have hd : (X.put 0 (.arr rCell (srtG l)) w1).w.drawn ≤ w'.drawn := by rw [hw']; exact Nat.le_refl _
    refine ⟨_, (X.put 0 (.arr rCell (srtG l)) w1).withW w', he, rfl, hle1.trans (withW_le hX1 hbel hd), hX1.withW hbel hd, ?_, ?_⟩
    · funext i
      show upd X.H 0 _ i = _
      cases i with
      | zero => rw [upd_same]; rfl
      | succ i => rw [upd_other _ _ (by omega), hH]; rfl
    · exact ⟨#[], rfl, PW.nil⟩⟩
open Go Go.Eng Go.Sort

theorem cmpL_zero : ∀ {a b : List UInt8}, Lib.compareBytes a b = 0 → a = b
  | [], [], _ => rfl
  | [], _ :: _, h => absurd h (by show ¬ (-1 : Int) = 0; omega)
  | _ :: _, [], h => absurd h (by show ¬ (1 : Int) = 0; omega)
  | a :: x, b :: y, h => by
    simp only [Lib.compareBytes] at h
    by_cases h1 : a < b
    · rw [if_pos h1] at h; omega
    · rw [if_neg h1] at h
      by_cases h2 : b < a
      · rw [if_pos h2] at h; omega
      · rw [if_neg h2] at h
        have e : a = b := by
          apply UInt8.toNat_inj.1
          simp only [UInt8.lt_iff_toNat_lt] at h1 h2
          omega
        rw [e, cmpL_zero h]
theorem cmpB_zero {a b : ByteArray} (h : cmpB a b = 0) : a = b := by
  have h2 : a.data.toList = b.data.toList := cmpL_zero h
  have h3 : a.data = b.data := Array.ext' h2
  cases a; cases b
  simp only at h3
  rw [h3]
theorem cmpC_zero {a b : rCell.den} (h : cmpC a b = 0) : a.1 = b.1 ∧ a.2.1 = b.2.1 := by
  unfold cmpC at h
  cases h1 : (cmpB a.1 b.1 != 0) with
  | true =>
    rw [h1] at h
    simp only [cond_true] at h
    rw [h] at h1; cases h1
  | false =>
    rw [h1] at h
    simp only [cond_false] at h
    have e1 : cmpB a.1 b.1 = 0 := by simpa using h1
    cases h2 : (cmpB a.2.1 b.2.1 != 0) with
    | true =>
      rw [h2] at h
      simp only [cond_true] at h
      rw [h] at h2; cases h2
    | false => exact ⟨cmpB_zero e1, cmpB_zero (by simpa using h2)⟩
theorem srtG_pw (l : List rCell.den) : (srtG l).Pairwise fun x y => cmpC x y ≤ 0 := by
  rw [List.pairwise_iff_getElem]
  intro i j hi hj hij
  have h := (srtG_sorts l).2 i j (Nat.zero_le _) hij (by rw [List.size_toArray, ← srtG_len]; exact hj)
  have h := of_decide_eq_false h
  rw [getElem!_pos _ _ (by simpa using hj), getElem!_pos _ _ (by simpa using hi)] at h
  simp only [List.getElem_toArray] at h
  have a := cmp3_cells.anti (srtG l)[i] (srtG l)[j]
  omega
/-- Cells of different places. -/
def PlacesIn (l : List rCell.den) : Prop := ∀ x ∈ l, ∀ y ∈ l, x.1 = y.1 → x.2.1 = y.2.1 → x = y
theorem sorted_one {l q : List rCell.den} (hl : PlacesIn l) (hp : q.Perm l) (hs : q.Pairwise fun x y => cmpC x y ≤ 0) : srtG l = q := by
  refine List.Perm.eq_of_pairwise (le := fun x y => cmpC x y ≤ 0) (fun a b ha hb h1 h2 => ?_) (srtG_pw l) hs ((srtG_perm l).trans hp.symm)
  have h3 := cmp3_cells.anti a b
  obtain ⟨e1, e2⟩ := cmpC_zero (a := a) (b := b) (by omega)
  exact hl a ((srtG_perm l).mem_iff.1 ha) b (hp.mem_iff.1 hb) e1 e2
theorem srtG_inv {l p : List rCell.den} (hl : PlacesIn l) (hp : p.Perm l) : srtG p = srtG l :=
  (sorted_one hl ((srtG_perm p).trans hp) (srtG_pw p)).symm
noncomputable def okp (p : Prop) : Bool := @decide p (Classical.propDecidable p)
theorem of_okp {p : Prop} (h : okp p = true) : p := @of_decide_eq_true p (Classical.propDecidable p) h
theorem okp_of {p : Prop} (h : p) : okp p = true := @decide_eq_true p (Classical.propDecidable p) h
def asG (r : CT) (l : List r.den) : Option (List rCell.den) := if h : r.eqb rCell = true then some (castL r rCell h l) else none
theorem asG_eq {r : CT} {l : List r.den} {x : List rCell.den} (h : asG r l = some x) : r = rCell ∧ HEq l x := by
  unfold asG at h
  split at h
  · rename_i h1
    have e := CT.eq_of_eqb _ _ h1
    subst e
    injection h with h
    exact ⟨rfl, heq_of_eq h⟩
  · cases h
noncomputable def ESfG (E : Env Try.prog) : Env Try.prog := E.addHF 32 (fun args _ => match args with | [.one (.asl _ j _ _ _), _] => [j] | _ => [])
  (fun args hp os => match args, hp with
    | [.one (.asl r1 0 0 n n'), .one (.fn 33 [])], [.arr r2 l2] =>
      match asG r2 l2 with
      | some l => if r1.eqb rCell = true then retC (.tup [], [.arr rCell (srtG l)]) [decide (n = n'), decide (n = l.length), decide (l.length ≤ 1099511627776)] os else none
      | none => none
    | _, _ => none)
  (fun args hp os r hp' cs os' h hc => by
    split at h
    · rename_i r1 n n' r2 l2
      split at h
      · rename_i l e2
        split at h
        · rename_i er
          have er := CT.eq_of_eqb _ _ er
          subst er
          obtain ⟨rfl, e2⟩ := asG_eq e2
          subst e2
          simp only [retC, Option.some.injEq, Prod.mk.injEq] at h
          obtain ⟨⟨rfl, rfl⟩, rfl, rfl⟩ := h
          obtain ⟨h1, hc⟩ := of_allTc hc
          obtain ⟨h2, hc⟩ := of_allTc hc
          obtain ⟨h3, _⟩ := of_allTc hc
          simp only [decide_eq_true_eq] at h1 h2 h3
          subst h1; subst h2
          exact sfG_heap _ (by omega)
        · cases h
      · cases h
    · cases h)
open Go Go.Eng

abbrev rPl : CT := .pair .str (.pair .str .unit)
noncomputable def lCl : Code := (theLoop Try.prog 20 5).getD .skip
theorem lCl_eq : theLoop Try.prog 20 5 = some lCl := by kernel_rfl
def msZ : MS := ⟨0, #[], default, 0, default, default, 0, 0, 0, #[], default, 0, default, .skip⟩
noncomputable def msCl : MS := (mapShape lCl).getD msZ
theorem msCl_eq : mapShape lCl = some msCl := by kernel_rfl
abbrev accL (n : Nat) (acc : List rCell.den) : List rCell.den := acc ++ List.replicate (n - acc.length) rCell.dflt
def hpCl (n : Nat) (acc : List rCell.den) (it mp : AB) : List AB := [mp, .cells [.mref 0], .arr rCell (accL n acc), it]
open Go Go.Eng

theorem accL_step {n : Nat} {acc : List rCell.den} {x : rCell.den} (h : acc.length < n) : List.take (0 + acc.length) (accL n acc) ++ ([x] ++ List.drop (0 + acc.length + 1) (accL n acc)) = accL n (acc ++ [x]) := by
  unfold accL
  have e : List.drop (acc.length + 1) (acc ++ List.replicate (n - acc.length) rCell.dflt) = List.replicate (n - (acc ++ [x]).length) rCell.dflt := by
    rw [List.drop_append, List.drop_of_length_le (by omega), List.nil_append, List.drop_replicate, List.length_append]
    congr 1
    simp only [List.length_cons, List.length_nil]
    omega
  rw [Nat.zero_add, List.take_left, e, List.append_assoc]
theorem cl_go (n : Nat) (acc : List rCell.den) (k : rPl.den) (x : rCell.den) (h : acc.length < n) :
    MapGo ECmc 20 msCl 3 0 30 4 [3] (zipT [18] [.one (.ptr 3 0)]) [.one (.asl rCell 2 0 acc.length n)] (hpCl n acc) (.tup [(true, rPl.cells k), (true, rCell.cells x)]) [.one (.asl rCell 2 0 (acc ++ [x]).length n)] (hpCl n (acc ++ [x])) := by
  have e : (fun it mp => ([mp, .cells [.mref 0], .arr rCell (List.take (0 + acc.length) (accL n acc) ++ ([x] ++ List.drop (0 + acc.length + 1) (accL n acc))), it] : List AB)) = hpCl n (acc ++ [x]) := by
    funext it mp
    rw [accL_step h]; rfl
  rw [← e, List.length_append]
  exact MapGo.mk [false, true] (v := [.one (.asl rCell 2 0 (acc.length + 1) n)]) (cs := [Nat.ble (acc.length + 1) n == true, false == false]) (fun rest oi om => by kernel_rfl) (allI (by
    have : Nat.ble (acc.length + 1) n = true := by rw [Nat.ble_eq]; omega
    rw [this]; rfl)) (fun _ _ => ⟨.refl, trivial⟩) (fun _ _ => by simp [idsLt, idsV, idsB, idsC])
theorem cl_end (n : Nat) (acc : List rCell.den) : MapEnd ECmc msCl 30 4 [3] (zipT [18] [.one (.ptr 3 0)]) [.one (.asl rCell 2 0 acc.length n)] (hpCl n acc) [.one (.asl rCell 2 0 acc.length n)] :=
  MapEnd.mk [] (v := [.one (.asl rCell 2 0 acc.length n)]) (cs := []) (fun rest oi om => by kernel_rfl) (allI rfl) (fun _ _ => ⟨.refl, trivial⟩) (fun _ _ => by simp [idsLt, idsV, idsB, idsC, hpCl])

abbrev ClInv (l : List (rPl.den × rCell.den)) (acc : List rCell.den) (rem : List (rPl.den × rCell.den)) : Prop := (acc ++ rem.map (·.2)).Perm (l.map (·.2))
theorem cl_loop (l : List (rPl.den × rCell.den)) : LoopOkN Try.prog lCl 30 [3] [18] [.one (.asl rCell 2 0 0 l.length)] [.one (.ptr 3 0)] (hpCl l.length [] (.iter 0 l.length true) (.mp rPl rCell true true l)) (δ := { acc // ClInv l acc [] })
    (fun d => (.exit 0, [.one (.asl rCell 2 0 d.1.length l.length)], hpCl l.length d.1 (.iter 0 l.length false) (.mp rPl rCell true true l))) := by
  refine LoopOkN.range ECmc lCl_eq msCl_eq (by kernel_rfl) (i := 3) (j := 0) (m := 4) (by decide) l (.inl rfl) (.inl rfl) (fun acc => [.one (.asl rCell 2 0 acc.length l.length)]) (hpCl l.length) (fun t a b => ⟨rfl, rfl⟩) (fun t a b c => ⟨rfl, rfl⟩) (fun t a b => rfl)
    (ClInv l) [] (by simp [ClInv]) (fun t rest hp => by kernel_rfl) ?_ (fun t _ => cl_end _ t)
  intro acc A p B hI
  have hlen : acc.length < l.length := by
    have := hI.length_eq
    simp at this
    omega
  refine ⟨acc ++ [p.2], ?_, cl_go _ acc p.1 p.2 hlen⟩
  refine List.Perm.trans ?_ hI
  rw [List.map_append, List.map_append, List.map_cons, List.append_assoc]
  exact List.Perm.append_left acc (show (p.2 :: (A.map (·.2) ++ B.map (·.2))).Perm _ from List.perm_middle.symm)
open Go Go.Eng

noncomputable def cCl : Code := (Try.f20.body).getD .skip
abbrev clD (l : List (rPl.den × rCell.den)) (acc : List rCell.den) : XE × List AV × List AB := (.exit 0, [.one (.asl rCell 2 0 acc.length l.length)], hpCl l.length acc (.iter 0 l.length false) (.mp rPl rCell true true l))
noncomputable def fnCl (l : List (rPl.den × rCell.den)) (acc : List rCell.den) (v r : List AV) (h : List AB) (os : List Bool) : Option ((XE × List AV × List AB) × List Bool × List Bool) :=
  some (clD l acc, [okp (v = [.one (.asl rCell 2 0 0 l.length)] ∧ r = [.one (.ptr 3 0)] ∧ h = hpCl l.length [] (.iter 0 l.length true) (.mp rPl rCell true true l))], os)
noncomputable def ECx : Env Try.prog := ESfG ECmc
noncomputable def runCl (l : List (rPl.den × rCell.den)) (acc : List rCell.den) (os : List Bool) : Option (AV × List AB × List Bool × List Bool) :=
  runF Try.prog ECx.kp ECx.kx ECx.kk (lcD (ECx.lcs 20) 5 (spT 30 (dstsC lCl) [3] [18] (fnCl l acc))) rounds0 Try.f20 cCl [.one (.ptr 1 0)] [.mp rPl rCell true true l, .cells [.mref 0]] os
open Go Go.Eng

abbrev valsM (l : List (rPl.den × rCell.den)) : List rCell.den := l.map (·.2)

theorem cl_run (l : List (rPl.den × rCell.den)) (h12 : l.length ≤ 1099511627776) (hs : ∀ p : List rCell.den, p.Perm (valsM l) → srtG p = srtG (valsM l)) (acc : List rCell.den) (ha : ClInv l acc []) :
    ∃ cs os', runCl l acc [false, false, false, false, false, false, false] = some (.one (.asl rCell 2 0 l.length l.length), [.mp rPl rCell true true l, .cells [.mref 0], .arr rCell (srtG (valsM l)), .iter 0 l.length false], cs, os') ∧ ∀ c ∈ cs, c = true := by
  have hp : acc.Perm (valsM l) := by
    have h : (acc ++ ([] : List (rPl.den × rCell.den)).map (·.2)).Perm (l.map (·.2)) := ha
    rw [List.map_nil, List.append_nil] at h
    exact h
  have hl : acc.length = l.length := by rw [hp.length_eq, List.length_map]
  have hacc : accL l.length acc = acc := by
    unfold accL
    rw [hl, Nat.sub_self, List.replicate_zero, List.append_nil]
  have key : runCl l acc [false, false, false, false, false, false, false] = some (.one (.asl rCell 2 0 acc.length l.length), [.mp rPl rCell true true l, .cells [.mref 0], .arr rCell (srtG (accL l.length acc)), .iter 0 l.length false],
      [decide (acc.length = l.length), decide (acc.length = (accL l.length acc).length), decide ((accL l.length acc).length ≤ 1099511627776),
       okp ([AV.one (.asl rCell 2 0 0 l.length)] = [.one (.asl rCell 2 0 0 l.length)] ∧ [AV.one (.ptr 3 0)] = [.one (.ptr 3 0)] ∧ hpCl l.length [] (.iter 0 l.length true) (.mp rPl rCell true true l) = hpCl l.length [] (.iter 0 l.length true) (.mp rPl rCell true true l)),
       decide ((0 : Int) ≤ 0 ∧ (0 : Int) ≤ ((l.length : Nat) : Int) ∧ (64 : Int) * ((l.length : Nat) : Int) ≤ 281474976710656 ∧ ((l.length : Nat) : Int) ≤ 9223372036854775807), false == false, false == false, false == false, false == false, false == false, false == false, false == false], []) := by kernel_rfl
  rw [hacc, hl, hs acc hp] at key
  have n1 : decide (l.length = l.length) = true := decide_eq_true rfl
  have n3 : decide (l.length ≤ 1099511627776) = true := decide_eq_true h12
  have n4 : decide ((0 : Int) ≤ 0 ∧ (0 : Int) ≤ ((l.length : Nat) : Int) ∧ (64 : Int) * ((l.length : Nat) : Int) ≤ 281474976710656 ∧ ((l.length : Nat) : Int) ≤ 9223372036854775807) = true := decide_eq_true (by omega)
  have n5 : okp ([AV.one (.asl rCell 2 0 0 l.length)] = [.one (.asl rCell 2 0 0 l.length)] ∧ [AV.one (.ptr 3 0)] = [.one (.ptr 3 0)] ∧ hpCl l.length [] (.iter 0 l.length true) (.mp rPl rCell true true l) = hpCl l.length [] (.iter 0 l.length true) (.mp rPl rCell true true l)) = true := okp_of ⟨rfl, rfl, rfl⟩
  refine ⟨_, _, key, allI ?_⟩
  rw [n5]
  simp only [↓n1, ↓n3, ↓n4]
  rfl
theorem clN (l : List (rPl.den × rCell.den)) (h12 : l.length ≤ 1099511627776) (hs : ∀ p : List rCell.den, p.Perm (valsM l) → srtG p = srtG (valsM l)) :
    HeapCall Try.prog 20 [.one (.ptr 1 0)] [.mp rPl rCell true true l, .cells [.mref 0]] (.one (.asl rCell 2 0 l.length l.length)) [.mp rPl rCell true true l, .cells [.mref 0], .arr rCell (srtG (valsM l)), .iter 0 l.length false] :=
  ECx.heap_okN Try.func20 (by decide +kernel) (c := cCl) (by kernel_rfl) lCl_eq (by kernel_rfl) (slots := [3]) (ro := [18]) (nt := 30) (by kernel_rfl) (δ := { acc // ClInv l acc [] }) ⟨valsM l, by simp [ClInv]⟩ (cl_loop l) (fnD := fun d => fnCl l d.1)
    (fun d v r h os x hx => ⟨_, fun d' => rfl, fun hc => of_okp (hc _ (List.mem_cons_self ..))⟩)
    (os := [false, false, false, false, false, false, false]) (fun d => cl_run l h12 hs d.1 d.2)
theorem cl_heap (l : List (rPl.den × rCell.den)) (h12 : l.length ≤ 1099511627776) (hs : ∀ p : List rCell.den, p.Perm (valsM l) → srtG p = srtG (valsM l)) :
    HeapCall Try.prog 20 [.one (.ptr 1 0)] [.mp rPl rCell true true l, .cells [.mref 0]] (.one (.asl rCell 2 0 l.length l.length)) [.mp rPl rCell true true l, .cells [.mref 0], .arr rCell (srtG (valsM l))] :=
  cut_heap 3 (clN l h12 hs) (show 2 ≤ 3 by omega) (by simp [idsV, idsC]) (show ∀ b ∈ [AB.mp rPl rCell true true l, .cells [.mref 0], .arr rCell (srtG (valsM l))], ∀ i ∈ idsB b, i < 3 by simp [idsB, idsC])
open Go Go.Eng

noncomputable def lSk : Code := (theLoop Try.prog 31 4).getD .skip
theorem lSk_eq : theLoop Try.prog 31 4 = some lSk := by kernel_rfl
noncomputable def msSk : MS := (mapShape lSk).getD msZ
theorem msSk_eq : mapShape lSk = some msSk := by kernel_rfl
def hpS (o : rOp.den) (z out : rRes.den) (it mp : AB) : List AB := [mp, .cells [.mref 0], .cells (rOp.cells o), .cells (rRes.cells z), .cells (rRes.cells out), it]
abbrev rvS : List AV := [.one (.ptr 5 0), .one (.fn 37 [(2, 0), (4, 0)])]
/-- What a seek has found behind an entry. -/
def skStep (o : rOp.den) (out : rRes.den) (k : rPl.den) (x : rCell.den) : rRes.den :=
  bif (ByteArray.toList k.snd.fst == ByteArray.toList o.snd.snd.fst) then
    (bif Op.bytesLess (ByteArray.toList k.fst) (ByteArray.toList o.snd.fst) then out
    else bif x.snd.snd.snd.fst then out
    else bif out.snd.fst then (bif (Op.bytesLess (ByteArray.toList out.snd.snd.fst) (ByteArray.toList k.fst) || ByteArray.toList out.snd.snd.fst == ByteArray.toList k.fst) then out else (0, true, k.fst, x.snd.snd.snd.snd.fst, x.snd.snd.fst, ()))
    else (0, true, k.fst, x.snd.snd.snd.snd.fst, x.snd.snd.fst, ()))
  else out
open Go Go.Eng

theorem sk_go (o : rOp.den) (z out : rRes.den) (k : rPl.den) (x : rCell.den) : MapGo ECmc 31 msSk 5 0 25 6 [] (zipT [14, 6] rvS) [] (hpS o z out) (.tup [(true, rPl.cells k), (true, rCell.cells x)]) [] (hpS o z (skStep o out k x)) := by
  cases h1 : (ByteArray.toList k.snd.fst == ByteArray.toList o.snd.snd.fst : Bool) with
  | true =>
    cases h2 : (Op.bytesLess (ByteArray.toList k.fst) (ByteArray.toList o.snd.fst) : Bool) with
    | true =>
      (simp only [skStep, h1, h2, cond_true, cond_false]; exact MapGo.mk [false, false, false, false, false, false, true, true, true, true] (v := []) (cs := [true == true, Op.bytesLess (ByteArray.toList k.fst) (ByteArray.toList o.snd.fst) == true, Op.bytesLess (ByteArray.toList k.fst) (ByteArray.toList o.snd.fst) == true, Op.bytesLess (ByteArray.toList k.fst) (ByteArray.toList o.snd.fst) == true, (!ByteArray.toList k.snd.fst == ByteArray.toList o.snd.snd.fst) == false, (!ByteArray.toList k.snd.fst == ByteArray.toList o.snd.snd.fst) == false, (!ByteArray.toList k.snd.fst == ByteArray.toList o.snd.snd.fst) == false, (!ByteArray.toList k.snd.fst == ByteArray.toList o.snd.snd.fst) == false, (!ByteArray.toList k.snd.fst == ByteArray.toList o.snd.snd.fst) == false, (!ByteArray.toList k.snd.fst == ByteArray.toList o.snd.snd.fst) == false]) (fun rest oi om => by kernel_rfl) (allI (by simp only [h1, h2]; rfl)) (fun _ _ => trivial) (fun _ _ => by simp [idsLt, idsB, idsC, hpS, rOp, rRes, CT.cells]))
    | false =>
      cases h3 : (x.snd.snd.snd.fst : Bool) with
      | true =>
        (simp only [skStep, h1, h2, h3, cond_true, cond_false]; exact MapGo.mk [false, false, false, false, false, false, false, false, false, true, true, true, true, true, true] (v := []) (cs := [true == true, x.snd.snd.snd.fst == true, x.snd.snd.snd.fst == true, x.snd.snd.snd.fst == true, x.snd.snd.snd.fst == true, x.snd.snd.snd.fst == true, Op.bytesLess (ByteArray.toList k.fst) (ByteArray.toList o.snd.fst) == false, Op.bytesLess (ByteArray.toList k.fst) (ByteArray.toList o.snd.fst) == false, Op.bytesLess (ByteArray.toList k.fst) (ByteArray.toList o.snd.fst) == false, (!ByteArray.toList k.snd.fst == ByteArray.toList o.snd.snd.fst) == false, (!ByteArray.toList k.snd.fst == ByteArray.toList o.snd.snd.fst) == false, (!ByteArray.toList k.snd.fst == ByteArray.toList o.snd.snd.fst) == false, (!ByteArray.toList k.snd.fst == ByteArray.toList o.snd.snd.fst) == false, (!ByteArray.toList k.snd.fst == ByteArray.toList o.snd.snd.fst) == false, (!ByteArray.toList k.snd.fst == ByteArray.toList o.snd.snd.fst) == false]) (fun rest oi om => by kernel_rfl) (allI (by simp only [h1, h2, h3]; rfl)) (fun _ _ => trivial) (fun _ _ => by simp [idsLt, idsB, idsC, hpS, rOp, rRes, CT.cells]))
      | false =>
        cases h4 : (out.snd.fst : Bool) with
        | true =>
          cases h5 : (Op.bytesLess (ByteArray.toList out.snd.snd.fst) (ByteArray.toList k.fst) || ByteArray.toList out.snd.snd.fst == ByteArray.toList k.fst : Bool) with
          | true =>
            (simp only [skStep, h1, h2, h3, h4, h5, cond_true, cond_false]; exact MapGo.mk [false, false, false, false, false, false, false, false, false, false, false, false, true, true, true, true, true, false, true, false, true] (v := []) (cs := [(Op.bytesLess (ByteArray.toList out.snd.snd.fst) (ByteArray.toList k.fst) || ByteArray.toList out.snd.snd.fst == ByteArray.toList k.fst) == true, x.snd.snd.snd.fst == false, out.snd.fst == true, x.snd.snd.snd.fst == false, out.snd.fst == true, out.snd.fst == true, out.snd.fst == true, out.snd.fst == true, out.snd.fst == true, x.snd.snd.snd.fst == false, x.snd.snd.snd.fst == false, x.snd.snd.snd.fst == false, Op.bytesLess (ByteArray.toList k.fst) (ByteArray.toList o.snd.fst) == false, Op.bytesLess (ByteArray.toList k.fst) (ByteArray.toList o.snd.fst) == false, Op.bytesLess (ByteArray.toList k.fst) (ByteArray.toList o.snd.fst) == false, (!ByteArray.toList k.snd.fst == ByteArray.toList o.snd.snd.fst) == false, (!ByteArray.toList k.snd.fst == ByteArray.toList o.snd.snd.fst) == false, (!ByteArray.toList k.snd.fst == ByteArray.toList o.snd.snd.fst) == false, (!ByteArray.toList k.snd.fst == ByteArray.toList o.snd.snd.fst) == false, (!ByteArray.toList k.snd.fst == ByteArray.toList o.snd.snd.fst) == false, (!ByteArray.toList k.snd.fst == ByteArray.toList o.snd.snd.fst) == false]) (fun rest oi om => by kernel_rfl) (allI (by simp only [h1, h2, h3, h4, h5]; rfl)) (fun _ _ => trivial) (fun _ _ => by simp [idsLt, idsB, idsC, hpS, rOp, rRes, CT.cells]))
          | false =>
            (simp only [skStep, h1, h2, h3, h4, h5, cond_true, cond_false]; exact MapGo.mk [false, false, false, false, false, false, false, false, false, false, false, false, true, true, true, true, true, false, true, false, false] (v := []) (cs := [(Op.bytesLess (ByteArray.toList out.snd.snd.fst) (ByteArray.toList k.fst) || ByteArray.toList out.snd.snd.fst == ByteArray.toList k.fst) == false, x.snd.snd.snd.fst == false, out.snd.fst == true, x.snd.snd.snd.fst == false, out.snd.fst == true, out.snd.fst == true, out.snd.fst == true, out.snd.fst == true, out.snd.fst == true, x.snd.snd.snd.fst == false, x.snd.snd.snd.fst == false, x.snd.snd.snd.fst == false, Op.bytesLess (ByteArray.toList k.fst) (ByteArray.toList o.snd.fst) == false, Op.bytesLess (ByteArray.toList k.fst) (ByteArray.toList o.snd.fst) == false, Op.bytesLess (ByteArray.toList k.fst) (ByteArray.toList o.snd.fst) == false, (!ByteArray.toList k.snd.fst == ByteArray.toList o.snd.snd.fst) == false, (!ByteArray.toList k.snd.fst == ByteArray.toList o.snd.snd.fst) == false, (!ByteArray.toList k.snd.fst == ByteArray.toList o.snd.snd.fst) == false, (!ByteArray.toList k.snd.fst == ByteArray.toList o.snd.snd.fst) == false, (!ByteArray.toList k.snd.fst == ByteArray.toList o.snd.snd.fst) == false, (!ByteArray.toList k.snd.fst == ByteArray.toList o.snd.snd.fst) == false]) (fun rest oi om => by kernel_rfl) (allI (by simp only [h1, h2, h3, h4, h5]; rfl)) (fun _ _ => trivial) (fun _ _ => by simp [idsLt, idsB, idsC, hpS, rOp, rRes, CT.cells]))
        | false =>
          (simp only [skStep, h1, h2, h3, h4, cond_true, cond_false]; exact MapGo.mk [false, false, false, false, false, false, false, false, false, false, false, false, false, false, false, false, false, false, false, false, false] (v := []) (cs := [false == false, x.snd.snd.snd.fst == false, out.snd.fst == false, x.snd.snd.snd.fst == false, out.snd.fst == false, out.snd.fst == false, out.snd.fst == false, out.snd.fst == false, out.snd.fst == false, x.snd.snd.snd.fst == false, x.snd.snd.snd.fst == false, x.snd.snd.snd.fst == false, Op.bytesLess (ByteArray.toList k.fst) (ByteArray.toList o.snd.fst) == false, Op.bytesLess (ByteArray.toList k.fst) (ByteArray.toList o.snd.fst) == false, Op.bytesLess (ByteArray.toList k.fst) (ByteArray.toList o.snd.fst) == false, (!ByteArray.toList k.snd.fst == ByteArray.toList o.snd.snd.fst) == false, (!ByteArray.toList k.snd.fst == ByteArray.toList o.snd.snd.fst) == false, (!ByteArray.toList k.snd.fst == ByteArray.toList o.snd.snd.fst) == false, (!ByteArray.toList k.snd.fst == ByteArray.toList o.snd.snd.fst) == false, (!ByteArray.toList k.snd.fst == ByteArray.toList o.snd.snd.fst) == false, (!ByteArray.toList k.snd.fst == ByteArray.toList o.snd.snd.fst) == false]) (fun rest oi om => by kernel_rfl) (allI (by simp only [h1, h2, h3, h4]; rfl)) (fun _ _ => trivial) (fun _ _ => by simp [idsLt, idsB, idsC, hpS, rOp, rRes, CT.cells]))
  | false =>
    (simp only [skStep, h1, cond_true, cond_false]; exact MapGo.mk [true, true, true, true, true, true, true] (v := []) (cs := [true == true, (!ByteArray.toList k.snd.fst == ByteArray.toList o.snd.snd.fst) == true, (!ByteArray.toList k.snd.fst == ByteArray.toList o.snd.snd.fst) == true, (!ByteArray.toList k.snd.fst == ByteArray.toList o.snd.snd.fst) == true, (!ByteArray.toList k.snd.fst == ByteArray.toList o.snd.snd.fst) == true, (!ByteArray.toList k.snd.fst == ByteArray.toList o.snd.snd.fst) == true, (!ByteArray.toList k.snd.fst == ByteArray.toList o.snd.snd.fst) == true]) (fun rest oi om => by kernel_rfl) (allI (by simp only [h1]; rfl)) (fun _ _ => trivial) (fun _ _ => by simp [idsLt, idsB, idsC, hpS, rOp, rRes, CT.cells]))
theorem sk_end (o : rOp.den) (z out : rRes.den) : MapEnd ECmc msSk 25 6 [] (zipT [14, 6] rvS) [] (hpS o z out) [] :=
  MapEnd.mk [] (v := []) (cs := []) (fun rest oi om => by kernel_rfl) (allI rfl) (fun _ _ => trivial) (fun _ _ => by simp [idsLt, idsB, idsC, hpS, rOp, rRes, CT.cells])
open Go Go.Eng

abbrev zRs : rRes.den := rRes.dflt
abbrev skF (o : rOp.den) (l : List (rPl.den × rCell.den)) : rRes.den := l.foldl (fun out q => skStep o out q.1 q.2) zRs
def SlInv (o : rOp.den) (l : List (rPl.den × rCell.den)) (out : rRes.den) (rem : List (rPl.den × rCell.den)) : Prop := ∃ dn, (dn ++ rem).Perm l ∧ out = skF o dn
theorem sl_loop (o : rOp.den) (l : List (rPl.den × rCell.den)) : LoopOkN Try.prog lSk 25 [] [14, 6] [] rvS (hpS o zRs zRs (.iter 0 l.length true) (.mp rPl rCell true true l)) (δ := { out // SlInv o l out [] })
    (fun d => (.exit 0, [], hpS o zRs d.1 (.iter 0 l.length false) (.mp rPl rCell true true l))) := by
  refine LoopOkN.range ECmc lSk_eq msSk_eq (by kernel_rfl) (i := 5) (j := 0) (m := 6) (by decide) l (.inl rfl) (.inl rfl) (fun _ => []) (hpS o zRs) (fun t a b => ⟨rfl, rfl⟩) (fun t a b c => ⟨rfl, rfl⟩) (fun t a b => rfl)
    (SlInv o l) zRs ⟨[], List.Perm.refl _, rfl⟩ (fun t rest hp => by kernel_rfl) ?_ (fun t _ => sk_end o zRs t)
  rintro out A p B ⟨dn, h1, rfl⟩
  refine ⟨skStep o (skF o dn) p.1 p.2, ⟨dn ++ [p], ?_, by simp only [skF, List.foldl_append, List.foldl_cons, List.foldl_nil]⟩, sk_go o zRs _ p.1 p.2⟩
  refine List.Perm.trans ?_ h1
  rw [List.append_assoc]
  exact List.Perm.append_left dn (show (p :: (A ++ B)).Perm _ from List.perm_middle.symm)

noncomputable def cSk : Code := (Try.f31.body).getD .skip
noncomputable def fnSk (o : rOp.den) (l : List (rPl.den × rCell.den)) (out : rRes.den) (v r : List AV) (h : List AB) (os : List Bool) : Option ((XE × List AV × List AB) × List Bool × List Bool) :=
  some ((.exit 0, [], hpS o zRs out (.iter 0 l.length false) (.mp rPl rCell true true l)), [okp (v = [] ∧ r = rvS ∧ h = hpS o zRs zRs (.iter 0 l.length true) (.mp rPl rCell true true l))], os)
noncomputable def runSk (o : rOp.den) (l : List (rPl.den × rCell.den)) (out : rRes.den) (os : List Bool) : Option (AV × List AB × List Bool × List Bool) :=
  runF Try.prog ECmc.kp ECmc.kx ECmc.kk (lcD (ECmc.lcs 31) 4 (spT 25 (dstsC lSk) [] [14, 6] (fnSk o l out))) rounds0 Try.f31 cSk [.one (.ptr 1 0), .agg (rOp.cells o)] [.mp rPl rCell true true l, .cells [.mref 0]] os
end Go.Proofs.Ytolhkkoakneflaa
