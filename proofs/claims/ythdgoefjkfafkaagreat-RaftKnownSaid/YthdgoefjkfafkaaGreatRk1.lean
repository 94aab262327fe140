/- maps.Keys and slices.Collect of a map with number keys: contracts of the engine (the list in one of its orders); no statement. -/
import Derived.Test.YthdgoefjkfafkaaGreatBase
import Derived.Test.YthdgoefjkfafkaaGreatRk0
import Derived.Test.YthdgoefjkfafkaaGreatEngZ14
set_option linter.unusedVariables false
set_option linter.unusedSimpArgs false
set_option maxRecDepth 100000
namespace Go.Proofs.YthdgoefjkfafkaaGreat
open Go Go.Eng Go.RowKit Go.Maps Go.Proofs Go.Shelf

def insA {α : Type} (a : α) : List α → List (List α)
  | [] => [[a]]
  | b :: l => (a :: b :: l) :: (insA a l).map (b :: ·)
def perms {α : Type} : List α → List (List α)
  | [] => [[]]
  | a :: l => (perms l).flatMap (insA a)
theorem mem_insA {α : Type} (a : α) : ∀ (s t : List α), s ++ a :: t ∈ insA a (s ++ t)
  | [], [] => by simp [insA]
  | [], b :: t => by simp [insA]
  | c :: s, t => by
    show c :: (s ++ a :: t) ∈ (a :: c :: (s ++ t)) :: (insA a (s ++ t)).map (c :: ·)
    exact List.mem_cons_of_mem _ (List.mem_map_of_mem (mem_insA a s t))
theorem mem_perms {α : Type} : ∀ (l p : List α), p.Perm l → p ∈ perms l
  | [], p, h => by rw [h.eq_nil]; simp [perms]
  | a :: l, p, h => by
    have ha : a ∈ p := h.mem_iff.2 (List.mem_cons_self ..)
    obtain ⟨s, t, rfl⟩ := List.append_of_mem ha
    have h2 : (s ++ t).Perm l := (List.perm_cons a).1 (List.perm_middle.symm.trans h)
    rw [perms, List.mem_flatMap]
    exact ⟨s ++ t, mem_perms l _ h2, mem_insA a s t⟩

theorem keys_calls (X : Ctx) (hX : HRel X) (j : Nat) (x : Value) (hx : VR X (.one (.mref j)) x) :
    Calls Tryz.prog 81 #[x] X.w fun e w' => ∃ val X', e = .returned val ∧ X'.w = w' ∧ X.le X' ∧ HRel X' ∧ X'.H = X.H ∧ VR X' (.clo 88 (.mref j)) val := by
  have hx' := hx
  obtain ⟨_, rfl⟩ := hx
  refine (callsIn_wide (n := 3)).1 ((AnyZI.keys_in keysL Fence.wide 3 trivial rfl (some (X.φ j)) X.w).mono ?_)
  rintro e w' ⟨rfl, rfl⟩
  obtain ⟨q1, q2⟩ := quiet_alloc hX (.cells #[.map (some (X.φ j))] (keys_ren.t 23))
  exact ⟨_, X.withW (X.w.alloc (.cells #[.map (some (X.φ j))] (keys_ren.t 23))), rfl, rfl, q1, q2, rfl, X.w.heap.size, .map (some (X.φ j)), rfl, IC_new hX _ _ 0 _ rfl, VR.mono q1 (.one (.mref j)) _ hx'⟩
theorem col_calls (X : Ctx) (hX : HRel X) (j : Nat) (vt : CT) (va : Bool) (l : List (cI.den × vt.den)) (hj : X.H j = some (.mp cI vt false va l)) (h1000 : l.length ≤ 1000) (hr : ∀ n ∈ l.map (·.1), (-9223372036854775808 : Int) ≤ n ∧ (n : Int) ≤ 9223372036854775807) (x : Value) (hx : VR X (.clo 88 (.mref j)) x) :
    Calls Tryz.prog 80 #[x] X.w fun e w' => ∃ val X', e = .returned val ∧ X'.w = w' ∧ X.le X' ∧ HRel X' ∧ X'.H = X.H ∧ VR X' (.alt ((perms (l.map (·.1))).map fun p => .sl cI p .shared)) val := by
  obtain ⟨a, y, rfl, hic, hy⟩ := hx
  obtain ⟨_, rfl⟩ := hy
  obtain ⟨hf, es, clock, h1, h2, hnd, l', hp, hrel⟩ := hX.blk j _ hj
  have hsz : es.size = l.length := h2.1
  have hlen : l'.length = es.size := by rw [hp.length_eq, hsz]
  have hkey : ∀ (k : Nat) (e : MapEntry), es[k]? = some e → ∃ p, l'[k]? = some p ∧ e.key = .int .i64 p.1 := fun k e he => by
    have hk : k < l'.length := by rw [hlen]; exact (Array.getElem?_eq_some_iff.1 he).1
    exact ⟨l'[k], List.getElem?_eq_getElem hk, (hrel k _ e (List.getElem?_eq_getElem hk) he).1⟩
  have hkeys : es.toList.map (·.key) = (l'.map (·.1)).map (fun n => Value.int .i64 n) := by
    apply List.ext_getElem?
    intro k
    rw [List.getElem?_map, List.getElem?_map, List.getElem?_map, Array.getElem?_toList]
    cases he : es[k]? with
    | none =>
      have : l'[k]? = none := List.getElem?_eq_none (by rw [hlen]; exact Array.getElem?_eq_none_iff.1 he)
      rw [this]; rfl
    | some e =>
      obtain ⟨p, h3, h4⟩ := hkey k e he
      rw [h3]
      exact congrArg some h4
  have hnd' : (l'.map (·.1)).Nodup := (hp.map _).nodup_iff.2 hnd
  have hr' : ∀ n ∈ l'.map (·.1), (-9223372036854775808 : Int) ≤ n ∧ (n : Int) ≤ 9223372036854775807 := fun n hn => hr n ((hp.map _).mem_iff.1 hn)
  have hst : MapKept.Stamped es clock := by
    refine ⟨fun e he => h2.2.1 _ (List.mem_map_of_mem he), h2.2.2.1, ?_⟩
    rw [hkeys]
    exact List.pairwise_map.2 (hnd'.imp fun hne h => hne (by injection h))
  let R : Value → Option (DataW Unit × List MemPlace) := fun _ => some (.nil, [])
  have hrd : ∀ e ∈ es.toList, ∃ n, n ∈ l'.map (·.1) ∧ WideElems.rd Tryz.prog 3 R e = some (.int .i64 n, .nil) := fun e he => by
    obtain ⟨k, hk⟩ := List.getElem?_of_mem he
    rw [Array.getElem?_toList] at hk
    obtain ⟨p, h3, h4⟩ := hkey k e hk
    have hm : p.1 ∈ l'.map (·.1) := List.mem_map_of_mem (List.mem_of_getElem? h3)
    obtain ⟨w1, w2⟩ := hr' _ hm
    refine ⟨p.1, hm, ?_⟩
    have hw : (Lit.int .i64 p.1).wf = true := by
      simp [Lit.wf, IntKind.min, IntKind.max, IntKind.signed, IntKind.bits]
      omega
    have hk2 : keyOf Tryz.prog 3 e.key = some (.int .i64 p.1) := by
      simp only [keyOf, Tryz.underlying3, mapKey, h4]
      simp [hw]
    simp only [WideElems.rd, hk2]
    rfl
  have hrg : es.toList.map (WideElems.rg Tryz.prog 3 R) = (l'.map (·.1)).map (fun n => ((Lit.int .i64 n, .nil) : Lit × DataW Unit)) := by
    apply List.ext_getElem?
    intro k
    rw [List.getElem?_map, List.getElem?_map, List.getElem?_map, Array.getElem?_toList]
    cases he : es[k]? with
    | none =>
      have : l'[k]? = none := List.getElem?_eq_none (by rw [hlen]; exact Array.getElem?_eq_none_iff.1 he)
      rw [this]; rfl
    | some e =>
      obtain ⟨p, h3, h4⟩ := hkey k e he
      obtain ⟨n, _, hn⟩ := hrd e (by rw [← Array.getElem?_toList] at he; exact List.mem_of_getElem? he)
      have hn2 : n = p.1 := by
        have := WideElems.rd_key hn
        have hm : p.1 ∈ l'.map (·.1) := List.mem_map_of_mem (List.mem_of_getElem? h3)
        rw [h4] at this
        obtain ⟨z, hz, hz2, _⟩ := Maps.keyOf_i64 Tryz.underlying3 this
        injection hz with _ hz
        injection hz2 with _ hz2
        exact hz2.trans hz.symm
      rw [h3]
      show some ((WideElems.rd Tryz.prog 3 R e).getD _) = _
      rw [hn, hn2]; rfl
  have hown : X.w.ownsMap Tryz.prog 3 R (X.φ j) es.size (.map ((es.toList.map (WideElems.rg Tryz.prog 3 R)).foldr DataW.insert [])) :=
    ⟨es, clock, h1, ⟨by rw [hsz]; unfold maxLen; omega, hst, fun e he => by obtain ⟨n, _, hn⟩ := hrd e he; exact ⟨_, hn⟩⟩, Nat.le_refl _, rfl⟩
  have hperm : ((es.toList.map (WideElems.rg Tryz.prog 3 R)).foldr DataW.insert []).Perm ((l'.map (·.1)).map (fun n => ((Lit.int .i64 n, .nil) : Lit × DataW Unit))) := by
    rw [← hrg]; exact WideShapes.sorted_perm _
  have hints : (intKeys (.map ((es.toList.map (WideElems.rg Tryz.prog 3 R)).foldr DataW.insert []) : DataW Unit)).Perm (l.map (·.1)) := by
    refine (hperm.map fun p => intOf p.1).trans ?_
    rw [List.map_map]
    have : ((fun p => intOf p.1) ∘ fun n => ((Lit.int .i64 n, .nil) : Lit × DataW Unit)) = (id : Int → Int) := rfl
    rw [this, List.map_id]
    exact hp.map _
  have hsize : Maps.size (.map ((es.toList.map (WideElems.rg Tryz.prog 3 R)).foldr DataW.insert []) : DataW Unit) = l.length := by
    rw [Maps.size_eq, hperm.length_eq, List.length_map, List.length_map, hp.length_eq]
  have hcell : X.w.cell? ⟨a, 0, none⟩ = some (.map (some (X.φ j))) := hic.2.2.1
  have hlt : a < X.w.heap.size := by
    by_cases h : a < X.w.heap.size
    · exact h
    · rw [World.cell?, show X.w.heap[a]? = none from Array.getElem?_eq_none (by omega)] at hcell
      cases hcell
  have hseq := AnyZI.keys_gives (ρ := keys_ren) { keysL with } Fence.wide 2 trivial rfl (by omega) a (X.φ j) es.size _ X.w hlt hcell hown
  refine (callsIn_wide (n := 4)).1 ((AnyZI.collect_in colL Fence.wide 4 trivial trivial rfl (by omega) 88 #[.pointer (some ⟨a, 0, none⟩)] trivial (enters_of Tryz.func88 (by kernel_rfl) rfl) _ _ (by rw [hsize]; unfold maxLen; omega) (by rw [hsize]; omega) X.w hseq).mono ?_)
  rintro e w' ⟨v, ss, rfl, hS, hrow, _, hb⟩
  refine ⟨v, X.withW w', rfl, rfl, withW_le hX hb (.inr trivial), hX.withW hb (.inr trivial), rfl, ?_, .sl cI ss .shared, List.mem_map.2 ⟨ss, mem_perms _ _ (hS.trans hints), rfl⟩, ?_⟩
  · intro i hi
    obtain ⟨c, hc, hi⟩ := List.mem_flatMap.1 hi
    obtain ⟨p, _, rfl⟩ := List.mem_map.1 hc
    cases hi
  · rcases hrow.2 with ⟨rfl, h0⟩ | ⟨g, cap, cur, rfl, hg1, hg2, hg3, hg4, hg5, hg6⟩
    · have h0 : ss.length = 0 := by simpa using h0
      exact ⟨none, 0, 0, rfl, h0.symm, Nat.le_refl _, Nat.zero_le _, .inl rfl, trivial⟩
    · refine ⟨some ⟨g, 0, none⟩, ss.length, cap, rfl, rfl, hg3, hg4, .inr ⟨g, 0, rfl, fun k n hk => ?_⟩, trivial⟩
      have hc : cur[k]? = some (.int .i64 n) := by
        have hkl : k < ss.length * 1 := by rw [Nat.mul_one]; exact (List.getElem?_eq_some_iff.1 hk).1
        have : (ss.map encZ)[k]? = some (.int .i64 n) := by rw [List.getElem?_map, hk]; rfl
        rw [← hg6, List.getElem?_take, if_pos hkl, Array.getElem?_toList] at this
        exact this
      show (X.withW w').IC ⟨g, 0 + k * 1 + 0, none⟩ (.int .i64 n)
      rw [Nat.zero_add, Nat.mul_one, Nat.add_zero]
      refine ⟨.inl (Nat.le_trans hX.size hg1), rfl, ?_, fun i b hi hb' => Nat.ne_of_lt (Nat.lt_of_lt_of_le (hX.lt i b hi hb') hg1), fun q hq => absurd (hX.frlt _ q hq) (Nat.not_lt.2 hg1), frozen_off (w := w') hg2 (.inl rfl) (Array.getElem?_eq_some_iff.1 hc).1⟩
      show w'.cell? ⟨g, k, none⟩ = _
      rw [cell_of_row _ _ _ cur _ (0, 0) hg2]
      exact hc
end Go.Proofs.YthdgoefjkfafkaaGreat
