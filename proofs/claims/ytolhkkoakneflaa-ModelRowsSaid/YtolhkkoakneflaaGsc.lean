/- SortFunc of cells, however many: its contract, out of the shelf's; no statement. -/
import Derived.Test.YtolhkkoakneflaaGsb
import Derived.Test.YtolhkkoakneflaaSly
import Derived.Shelf.SlSortCmp.WholeK
set_option linter.unusedVariables false
set_option linter.unusedSimpArgs false
namespace Go.Proofs.Ytolhkkoakneflaa
open Go Go.Eng Go.Sort

/-- The sorted list. -/
def srtG (l : List rCell.den) : List rCell.den := (pdq (ltOf cmpC) l.toArray 0 l.toArray.size (Lib.bitLen l.toArray.size) true true).toList
theorem srtG_sorts (l : List rCell.den) : PermIn 0 l.toArray.size l.toArray (srtG l).toArray ∧ SortedIn (ltOf cmpC) 0 l.toArray.size (srtG l).toArray := by
  have h := pdq_sorts (ltOf cmpC) cmp3_cells.swo l.toArray 0 l.toArray.size (Lib.bitLen l.toArray.size) true true (Nat.zero_le _) (Nat.le_refl _) (Or.inl rfl)
  unfold srtG
  rw [Array.toArray_toList]
  exact h
theorem srtG_len (l : List rCell.den) : (srtG l).length = l.length := by
  have := (srtG_sorts l).1.1
  simpa using this
theorem srtG_perm (l : List rCell.den) : (srtG l).Perm l := by
  have h := (srtG_sorts l).1
  have h2 := h.2.2
  rw [Array.toList_extract, Array.toList_extract] at h2
  simp only [List.extract_eq_take_drop, List.drop_zero, Nat.sub_zero, List.size_toArray] at h2
  rw [List.take_of_length_le (by rw [srtG_len]; exact Nat.le_refl _), List.take_of_length_le (Nat.le_refl _)] at h2
  exact h2

/-- A row's cells, one behind the other. -/
theorem row_cells {c : Array Value} {j : Nat} {x : rCell.den} {IC : Addr → Value → Prop} (h : RelT rCell x (fun k y => c[j * 5 + k]? = some y) IC) : ∀ k, k < 5 → c[j * 5 + k]? = some ((encC x)[k]!) := by
  obtain ⟨h0, h1, h2, h3, h4, _⟩ := h
  intro k hk
  match k, hk with
  | 0, _ => exact h0
  | 1, _ => exact h1
  | 2, _ => exact h2
  | 3, _ => exact h3
  | 4, _ => exact h4
theorem flat_get (l : List rCell.den) {j : Nat} {x : rCell.den} (hj : l[j]? = some x) {k : Nat} (hk : k < 5) : (flatK encC 5 l.toArray)[j * 5 + k]! = (encC x)[k]! := by
  have hlt : j < l.length := (List.getElem?_eq_some_iff.1 hj).1
  rw [get_flatK encC 5 l.toArray (j * 5 + k) (by simp only [List.size_toArray]; omega)]
  have e1 : (j * 5 + k) / 5 = j := by omega
  have e2 : (j * 5 + k) % 5 = k := by omega
  rw [e1, e2]
  congr 2
  rw [getElem!_pos _ _ (by simpa using hlt)]
  rw [List.getElem?_eq_getElem hlt] at hj
  simpa using hj
theorem putRow_at {w : World} {blk : Nat} {c : Array Value} {t : TypeId} {fr : Nat × Nat} (h : w.heap[blk]? = some (.cells c t fr)) (F : Array Value) : (putRow id w blk 0 F).heap[blk]? = some (.cells (putCells id 0 F c) t fr) := by
  simp only [putRow, mapBlock, Array.getElem?_modify, if_true, h, Option.map_some, onCells]
theorem putCells_at (F c : Array Value) (k : Nat) (hF : k < F.size) (hc : k < c.size) : (putCells id 0 F c)[k]? = some F[k]! := by
  simp [putCells, hc, hF]

theorem sfG_heap (l : List rCell.den) (hl : l.length < 4611686018427387904) :
    HeapCall Try.prog 32 [.one (.asl rCell 0 0 l.length l.length), .one (.fn 33 [])] [.arr rCell l] (.tup []) [.arr rCell (srtG l)] :=
  ⟨⟨_, Try.func32, by kernel_rfl, by kernel_rfl⟩, fun X vs hX hH hv => by
    have hH0 : X.H 0 = some (.arr rCell l) := by rw [hH]; rfl
    obtain ⟨v0, hv0, r0⟩ := hv.at_ (j := 0) rfl
    obtain ⟨v1, hv1, r1⟩ := hv.at_ (j := 1) rfl
    obtain ⟨l0, e0, rfl, _⟩ := r0
    obtain ⟨cb, rfl, hcb, _⟩ := r1
    have hcb : cb = #[] := Array.eq_empty_of_size_eq_zero hcb
    subst hcb
    have hvs : vs = [.slice (some ⟨X.φ 0, 0, none⟩) l.length l.length, .func (.func 33) #[] #[]] := by
      apply List.ext_getElem?
      intro i
      match i with
      | 0 => rw [hv0]; simp
      | 1 => rw [hv1]; rfl
      | i + 2 =>
        have := hv.1
        rw [List.getElem?_eq_none (by simp at this; omega)]; rfl
    rw [hvs]
    obtain ⟨c, t, b1, ⟨b2, b3⟩, b4⟩ := hX.blk 0 _ hH0
    have b2 : l.length * 5 ≤ c.size := b2
    have hblk : X.φ 0 < X.w.heap.size := hX.lt 0 _ hH0 rfl
    have cellv : ∀ j x, l[j]? = some x → ∀ k, k < 5 → c[j * 5 + k]? = some ((encC x)[k]!) := fun j x hj => row_cells (b4 j x hj)
    have hHolds : HoldsK encC 5 X.w (X.φ 0) 0 l.toArray := by
      intro j hj
      rw [size_flatK, List.size_toArray] at hj
      have hx : l[j / 5]? = some (l[j / 5]'(by omega)) := List.getElem?_eq_getElem (by omega)
      have e : j = j / 5 * 5 + j % 5 := by omega
      refine ⟨?_, ?_⟩
      · rw [Nat.zero_add]
        show X.w.cell? ⟨X.φ 0, j, none⟩ = some ((flatK encC 5 l.toArray)[j]!)
        have h1 := cellv _ _ hx (j % 5) (Nat.mod_lt _ (by decide))
        have h2 := flat_get l hx (k := j % 5) (Nat.mod_lt _ (by decide))
        rw [← e] at h1 h2
        rw [h2, ← h1]
        simp only [World.cell?, b1]
        rfl
      · rw [Nat.zero_add]
        have := b3 j (by omega)
        simp only [World.frozen?, b1]
        simpa using this
    have key := AnyQ.slices_SortFunc_eq sortCell 5 Try.isAgg52 Try.sizeOf52 encC (fun _ => rfl) (fun x v hv => by
        rw [encC_eq] at hv
        simp only [List.mem_cons, List.not_mem_nil, or_false] at hv
        rcases hv with rfl | rfl | rfl | rfl | rfl <;> rfl) cmpC cmp3_cells.swo 33 #[] (X.φ 0) 0 l.length l.toArray X.w (enters_of Try.func33 (by kernel_rfl) rfl) (cmp_lays _ _ _ _) hHolds hblk (by simpa using hl)
    have key : Calls Try.prog 32 #[.slice (some ⟨X.φ 0, 0, none⟩) l.toArray.size l.length, .func (.func 33) #[] #[]] X.w _ := key
    rw [List.size_toArray] at key
    refine key.mono fun e w' ⟨he, n, os, hw⟩ => ?_
    have hpdq : pdq (ltOf cmpC) l.toArray 0 l.length (Lib.bitLen l.length) true true = (srtG l).toArray := by
      unfold srtG
      rw [Array.toArray_toList]; simp
    rw [hpdq] at hw
    have hsl := srtG_len l
    let w1 := putRow id (Go.Sort.ahead X.w n) (X.φ 0) 0 (flatK encC 5 (srtG l).toArray)
    have hat : w1.heap[X.φ 0]? = some (.cells (putCells id 0 (flatK encC 5 (srtG l).toArray) c) t.1 t.2) := putRow_at (w := Go.Sort.ahead X.w n) b1 _
    have ho : OneBlock X 0 w1 := ⟨rfl, rfl, rfl, size_putRow _ _ _ _ _, fun k hk => by
      show ((Go.Sort.ahead X.w n).heap.modify (X.φ 0) _)[k]? = _
      rw [Array.getElem?_modify, if_neg (fun h => hk h.symm)]; rfl, Nat.le_add_right _ _⟩
    have harr : ∀ row (q : List row.den), AB.arr rCell l = .arr row q → ∃ l' : List row.den, AB.arr rCell (srtG l) = .arr row l' ∧ l'.length = q.length := fun row q hq => by
      cases hq
      exact ⟨_, rfl, hsl⟩
    have hb : BRel (X.put 0 (.arr rCell (srtG l)) w1) 0 (.arr rCell (srtG l)) := by
      refine ⟨_, t, hat, ⟨?_, fun o ho => b3 o ?_⟩, fun j x hj => ?_⟩
      · show (srtG l).length * 5 ≤ _
        rw [hsl]
        simpa [putCells] using b2
      · simpa [putCells] using ho
      · have hjl : j < l.length := by rw [← hsl]; exact (List.getElem?_eq_some_iff.1 hj).1
        refine RelT.mono_lt0 rCell x (fun k y hk hy => ?_) (fun _ _ h => h) (flat_rel (IC := (X.put 0 (.arr rCell (srtG l)) w1).IC) rCell x rfl)
        have hk : k < 5 := hk
        have hy : (encC x)[k]? = some y := hy
        show (putCells id 0 (flatK encC 5 (srtG l).toArray) c)[j * 5 + k]? = some y
        rw [putCells_at _ _ _ (by rw [size_flatK, List.size_toArray, hsl]; omega) (by omega), flat_get (srtG l) hj hk]
        rw [List.getElem!_eq_getElem?_getD, hy]; rfl
    have hle1 := put_le hX hH0 rfl rfl ho harr
    have hX1 := HRel.put hX hH0 rfl rfl ho harr hb
    have hw' : w' = grow w1 os := hw
    have hbel : Go.RowKit.Below (X.put 0 (.arr rCell (srtG l)) w1).w.heap.size (X.put 0 (.arr rCell (srtG l)) w1).w w' := by
      rw [hw']
      refine ⟨rfl, rfl, rfl, ?_, fun k hk => ?_⟩
      · show w1.heap.size ≤ (w1.heap ++ os).size
        rw [Array.size_append]; omega
      · show (w1.heap ++ os)[k]? = w1.heap[k]?
        exact Array.getElem?_append_left hk
    have hd : (X.put 0 (.arr rCell (srtG l)) w1).w.drawn ≤ w'.drawn := by rw [hw']; exact Nat.le_refl _
    refine ⟨_, (X.put 0 (.arr rCell (srtG l)) w1).withW w', he, rfl, hle1.trans (withW_le hX1 hbel hd), hX1.withW hbel hd, ?_, ?_⟩
    · funext i
      show upd X.H 0 _ i = _
      cases i with
      | zero => rw [upd_same]; rfl
      | succ i => rw [upd_other _ _ (by omega), hH]; rfl
    · exact ⟨#[], rfl, PW.nil⟩⟩
end Go.Proofs.Ytolhkkoakneflaa
