/- The seat's program under the engine; no statement. -/
import Derived.Test.YthdgoefjkfafkaaGreatDoorChecked
import Derived.Test.YthdgoefjkfafkaaGreatDoorEngZ11
import Derived.KernelRfl
import Derived.Test.YthdgoefjkfafkaaGreatDoorLb1
set_option linter.unusedVariables false
set_option linter.unusedSimpArgs false
set_option linter.unusedSectionVars false
namespace Go.Proofs.YthdgoefjkfafkaaGreatDoor
open Go Go.Eng

theorem mixed : Tryz.prog.follows .mixedOrders = true := by kernel_rfl
noncomputable def E0 : Env Tryz.prog := Env.base mixed
open Go Go.Eng

theorem allI {cs : List Bool} (h : (cs.all fun c => c) = true) : ∀ c ∈ cs, c = true := fun c hc => List.all_eq_true.1 h c hc
abbrev rOp : CT := .pair cI (.pair .str (.pair .str (.pair .str (.pair .bool (.pair .str .unit)))))
abbrev rCell : CT := .pair .str (.pair .str (.pair cU (.pair .bool (.pair .str .unit))))
abbrev rRes : CT := .pair cI (.pair .bool (.pair .str (.pair .str (.pair cU .unit))))
open Go Go.Eng Go.RowKit

/-- The builder's block holds a new buffer; the one before is given up. -/
def bldX (X : Ctx) (i N : Nat) (old : Option Nat) (T e : TypeId) (t : ByteArray) (g cap : Nat) (w' : World) : Ctx :=
  { X with φ := upd X.φ N g, ca := upd X.ca N cap, H := fun k => if k = N then some (.buf e t) else if k = i then some (.bld T (.ptr N t.size)) else if some k = old then some .dead else X.H k, w := w' }
section
variable {X : Ctx} {i N : Nat} {old : Option Nat} {T e : TypeId} {c : AC} {t : ByteArray} {g cap : Nat} {w' : World} {cur : Array Value}
  (hX : HRel X) (hi : X.H i = some (.bld T c)) (hN : X.H N = none) (ho : ∀ j, old = some j → j ≠ i ∧ ∃ s, X.H j = some (.buf e s))
  (h1 : w'.heap[X.φ i]? = some (.cells #[.pointer (some ⟨X.φ i, 0, none⟩), .slice (some ⟨g, 0, none⟩) t.size cap] T (0, 0)))
  (h2 : w'.heap[g]? = some (.cells cur e (0, 0))) (h3 : t.size ≤ cap) (h4 : cap ≤ maxLen) (h5 : cur.size = cap) (h6 : cur.toList.take t.size = bytesV t)
  (h7 : (∃ j, old = some j ∧ g = X.φ j) ∨ X.w.heap.size ≤ g)
  (h8 : ∀ k, k < X.w.heap.size → k ≠ X.φ i → (∀ j, old = some j → k ≠ X.φ j) → w'.heap[k]? = X.w.heap[k]?)
  (h9 : w'.os = X.w.os ∧ w'.tape = X.w.tape ∧ w'.output = X.w.output ∧ X.w.heap.size ≤ w'.heap.size)
include hX hi hN ho h7 h8 h9
theorem bldX_le : X.le (bldX X i N old T e t g cap w') := by
  have ne : ∀ k b, X.H k = some b → k ≠ N := fun k b h e => by subst e; rw [hN] at h; cases h
  have iN : i ≠ N := ne _ _ hi
  have φ' : ∀ {k}, k ≠ N → (bldX X i N old T e t g cap w').φ k = X.φ k := fun h => by simp only [bldX, upd_other _ _ h]
  refine ⟨fun a y h => ?_, fun k b hk hb => ?_, fun k row l hk => ?_, fun k hk => ?_, fun k b hk hb => ?_, fun k u v hk => ?_, rfl, rfl, rfl, Nat.le_refl _⟩
  · obtain ⟨q1, q2, q3, q4, q5⟩ := h
    have hlt := holds_lt q3
    have hblk : w'.heap[a.block]? = X.w.heap[a.block]? := h8 _ hlt (fun e => q4 i _ hi rfl e.symm) fun j hj e => by
      obtain ⟨_, s, hs⟩ := ho j hj
      exact q4 j _ hs rfl e.symm
    refine ⟨q1, q2, holds_of_block hblk q3, fun k b hk hb => ?_, q5.1, (frozen_of_block hblk).trans q5.2⟩
    by_cases e : k = N
    · subst e
      simp only [bldX, upd_same]
      rcases h7 with ⟨j, hj, rfl⟩ | h7
      · obtain ⟨_, s, hs⟩ := ho j hj
        exact q4 j _ hs rfl
      · omega
    · rw [φ' e]
      simp only [bldX, if_neg e] at hk
      by_cases e2 : k = i
      · subst e2; exact q4 k _ hi rfl
      · rw [if_neg e2] at hk
        split at hk
        · injection hk with hk; subst hk; cases hb
        · exact q4 k b hk hb
  · have e := ne k b hk
    refine ⟨?_, φ' e⟩
    simp only [bldX, if_neg e]
    by_cases e2 : k = i
    · rw [if_pos e2]; exact ⟨_, rfl, rfl⟩
    · rw [if_neg e2]
      split
      · exact ⟨_, rfl, rfl⟩
      · exact ⟨b, hk, hb⟩
  · have e := ne k _ hk
    have e2 : k ≠ i := fun e2 => by subst e2; rw [hi] at hk; cases hk
    have e3 : ¬ some k = old := fun e3 => by
      obtain ⟨_, s, hs⟩ := ho k e3.symm
      rw [hs] at hk; cases hk
    exact .inl ⟨l, by simp only [bldX, if_neg e, if_neg e2, if_neg e3]; exact hk, rfl⟩
  · have e := ne k _ hk
    have e2 : k ≠ i := fun e2 => by subst e2; rw [hi] at hk; cases hk
    simp only [bldX, if_neg e, if_neg e2]
    split
    · rfl
    · exact hk
  · simp only [bldX, upd_other _ _ (ne k b hk)]
  · have e := ne k _ hk
    have e2 : k ≠ i := fun e2 => by subst e2; rw [hi] at hk; cases hk
    have e3 : ¬ some k = old := fun e3 => by
      obtain ⟨_, s, hs⟩ := ho k e3.symm
      rw [hs] at hk; cases hk
    refine ⟨v, by simp only [bldX, if_neg e, if_neg e2, if_neg e3]; exact hk, Nat.le_refl _, fun _ => ⟨φ' e, fun f p q ⟨t1, t2, cc, m, t3, t4⟩ => ⟨t1, ?_, cc, m, ?_, t4⟩⟩⟩
    · rw [φ' e]; exact t2
    · rw [φ' e]
      refine (h8 _ (hX.ltt k t1) (fun e => hX.injm i _ k hi rfl t1 e.symm) fun j hj e => ?_).trans t3
      obtain ⟨_, s, hs⟩ := ho j hj
      exact hX.injm j _ k hs rfl t1 e.symm
include h1 h2 h3 h4 h5 h6
theorem bldX_rel : HRel (bldX X i N old T e t g cap w') := by
  have hle := bldX_le (t := t) (cap := cap) hX hi hN ho h7 h8 h9
  have ne : ∀ k b, X.H k = some b → k ≠ N := fun k b h e => by subst e; rw [hN] at h; cases h
  have iN : i ≠ N := ne _ _ hi
  have φ' : ∀ {k}, k ≠ N → (bldX X i N old T e t g cap w').φ k = X.φ k := fun h => by simp only [bldX, upd_other _ _ h]
  have φN : (bldX X i N old T e t g cap w').φ N = g := by simp only [bldX, upd_same]
  have glt : g < w'.heap.size := (Array.getElem?_eq_some_iff.1 h2).1
  -- what a block behind was ahead
  have was : ∀ k b, (bldX X i N old T e t g cap w').H k = some b → k ≠ N → b.loc = true → ∃ b0, X.H k = some b0 ∧ b0.loc = true ∧ (b.wr = true → b0.wr = true) ∧ (∀ j, old = some j → k ≠ j) := fun k b hk e hb => by
    simp only [bldX, if_neg e] at hk
    by_cases e2 : k = i
    · subst e2; exact ⟨_, hi, rfl, fun _ => rfl, fun j hj e => (ho j hj).1 e.symm⟩
    · rw [if_neg e2] at hk
      split at hk
      · injection hk with hk; subst hk; cases hb
      · rename_i e3
        exact ⟨b, hk, hb, id, fun j hj e => e3 (by rw [e]; exact hj.symm)⟩
  have gne : ∀ k b0, X.H k = some b0 → b0.loc = true → (∀ j, old = some j → k ≠ j) → g ≠ X.φ k := fun k b0 hk hb hj => by
    rcases h7 with ⟨j, hj', rfl⟩ | h7
    · obtain ⟨_, s, hs⟩ := ho j hj'
      exact hX.inj j k _ b0 hs hk rfl hb (fun e => hj j hj' e.symm)
    · have := hX.ltl k b0 hk hb
      omega
  have ht : ∀ k, X.tl k → k ≠ N := fun k hk e => by subst e; exact hX.tlH k hk hN
  refine ⟨fun k l b d hk hl hb hd hkl => ?_, fun k l hk hl hne => ?_, fun k b l hk hb hl => ?_, fun k b hk hb => ?_, fun k hk => ?_, fun k b hk hb => ?_, fun k hk => ?_, fun k hk => ?_, fun a q hq => ?_, fun k b hk => ?_, fun k hk hl => ?_,
    h9.1.trans hX.os, h9.2.1.trans hX.tape, h9.2.2.1.trans hX.output, Nat.le_trans hX.size h9.2.2.2, fun a y h => hle.ic a y (hX.old a y h)⟩
  · by_cases ek : k = N
    · have el : l ≠ N := fun e => hkl (ek.trans e.symm)
      obtain ⟨d0, d1, d2, _, d4⟩ := was l d hl el hd
      rw [ek, φN, φ' el]; exact gne l d0 d1 d2 d4
    · obtain ⟨b0, b1, b2, _, b4⟩ := was k b hk ek hb
      by_cases el : l = N
      · rw [el, φN, φ' ek]; exact fun e => gne k b0 b1 b2 b4 e.symm
      · obtain ⟨d0, d1, d2, _, _⟩ := was l d hl el hd
        rw [φ' ek, φ' el]; exact hX.inj k l b0 d0 b1 d1 b2 d2 hkl
  · rw [φ' (ht k hk), φ' (ht l hl)]; exact hX.injt k l hk hl hne
  · rw [φ' (ht l hl)]
    by_cases ek : k = N
    · rw [ek, φN]
      rcases h7 with ⟨j, hj', rfl⟩ | h7
      · obtain ⟨_, s, hs⟩ := ho j hj'
        exact hX.injm j _ l hs rfl hl
      · have := hX.ltt l hl
        omega
    · obtain ⟨b0, b1, b2, _, _⟩ := was k b hk ek hb
      rw [φ' ek]; exact hX.injm k b0 l b1 b2 hl
  · by_cases ek : k = N
    · rw [ek, φN]
      rcases h7 with ⟨j, hj', rfl⟩ | h7
      · obtain ⟨_, s, hs⟩ := ho j hj'
        exact hX.place j _ hs rfl
      · exact .inl (Nat.le_trans hX.size h7)
    · obtain ⟨b0, b1, _, b3, _⟩ := was k b hk ek (AB.loc_of hb)
      rw [φ' ek]; exact hX.place k b0 b1 (b3 hb)
  · rw [φ' (ht k hk)]; exact hX.placet k hk
  · show _ < w'.heap.size
    by_cases ek : k = N
    · rw [ek, φN]; exact glt
    · rw [φ' ek]
      refine Nat.lt_of_lt_of_le ?_ h9.2.2.2
      simp only [bldX, if_neg ek] at hk
      by_cases e2 : k = i
      · subst e2; exact hX.lt k _ hi rfl
      · rw [if_neg e2] at hk
        split at hk
        · rename_i e3
          obtain ⟨_, s, hs⟩ := ho k e3.symm
          exact hX.lt k _ hs rfl
        · exact hX.lt k b hk hb
  · show _ < w'.heap.size
    rw [φ' (ht k hk)]; exact Nat.lt_of_lt_of_le (hX.ltt k hk) h9.2.2.2
  · simp only [bldX, if_neg (ht k hk)]
    split
    · simp
    · split
      · simp
      · exact hX.tlH k hk
  · exact Nat.lt_of_lt_of_le (hX.frlt a q hq) h9.2.2.2
  · by_cases ek : k = N
    · subst ek
      simp only [bldX, if_true, Option.some.injEq] at hk
      subst hk
      refine ⟨cur, by rw [φN]; exact h2, ?_, ?_, ?_, h6⟩
      · simp only [bldX, upd_same]; exact h5
      · simp only [bldX, upd_same]; exact h3
      · simp only [bldX, upd_same]; exact h4
    · by_cases e2 : k = i
      · subst e2
        simp only [bldX, if_neg ek, if_true, Option.some.injEq] at hk
        subst hk
        refine ⟨_, _, by rw [φ' ek]; exact h1, .inr (by rw [φ' ek]), ⟨_, by simp only [bldX, if_pos rfl]; rfl, rfl⟩, ?_⟩
        rw [φN]
        simp only [bldX, upd_same]
      · cases hb : b.loc with
        | true =>
          obtain ⟨b0, b1, b2, _, b4⟩ := was k b hk ek hb
          simp only [bldX, if_neg ek, if_neg e2] at hk
          split at hk
          · injection hk with hk; subst hk; cases hb
          · refine BRel.mono hle (φ' ek) (by simp only [bldX, upd_other _ _ ek]) (h8 _ (hX.ltl k b0 b1 b2) (hX.inj k i b0 _ b1 hi b2 rfl e2) fun j hj => ?_) (hX.blk k b hk)
            obtain ⟨_, s, hs⟩ := ho j hj
            exact hX.inj k j b0 _ b1 hs b2 rfl (b4 j hj)
        | false => cases b <;> first | trivial | cases hb
  · have hkX : k < X.w.heap.size := Nat.lt_of_lt_of_le hk hX.size
    refine (h8 k hkX (fun e => ?_) fun j hj e => ?_).trans (hX.below k hk hl)
    · rcases hX.place i _ hi rfl with h | h
      · have hk' : k < X.w0.heap.size := hk
        omega
      · exact hl (by rw [e]; exact h)
    · obtain ⟨_, s, hs⟩ := ho j hj
      rcases hX.place j _ hs rfl with h | h
      · have hk' : k < X.w0.heap.size := hk
        omega
      · exact hl (by rw [e]; exact h)
end
open Go Go.Eng Go.RowKit Go.Proofs

/-- A block is given up, and the world differs in it alone. -/
def deadX (X : Ctx) (j : Nat) (w' : World) : Ctx := { X with H := upd X.H j (some .dead), w := w' }
section
variable {X : Ctx} {j : Nat} {e : TypeId} {s : ByteArray} {w' : World} (hX : HRel X) (hj : X.H j = some (.buf e s)) (ho : OneBlock X j w')
include hX hj ho
theorem deadX_le : X.le (deadX X j w') := by
  refine ⟨fun a y h => ?_, fun i c hi hc => ?_, fun i row l hi => ?_, fun i hi => ?_, fun _ _ _ _ => rfl, fun i t v hi => ?_, rfl, rfl, rfl, Nat.le_refl _⟩
  · obtain ⟨h1, h2, h3, h4, h5⟩ := h
    have hblk : w'.heap[a.block]? = X.w.heap[a.block]? := ho.other _ (fun e => h4 j _ hj rfl e.symm)
    refine ⟨h1, h2, holds_of_block hblk h3, fun i c hi hc => ?_, h5.1, (frozen_of_block hblk).trans h5.2⟩
    by_cases e : i = j
    · subst e; exact h4 i _ hj rfl
    · simp only [deadX, upd_other _ _ e] at hi; exact h4 i c hi hc
  · by_cases e : i = j
    · subst e; exact ⟨⟨.dead, by simp only [deadX, upd_same], rfl⟩, rfl⟩
    · exact ⟨⟨c, by simp only [deadX, upd_other _ _ e]; exact hi, hc⟩, rfl⟩
  · have e : i ≠ j := fun e => by subst e; rw [hj] at hi; cases hi
    exact .inl ⟨l, by simp only [deadX, upd_other _ _ e]; exact hi, rfl⟩
  · by_cases e : i = j
    · subst e; simp only [deadX, upd_same]
    · simp only [deadX, upd_other _ _ e]; exact hi
  · have e : i ≠ j := fun e => by subst e; rw [hj] at hi; cases hi
    refine ⟨v, by simp only [deadX, upd_other _ _ e]; exact hi, Nat.le_refl _, fun _ => ⟨rfl, fun f p q ⟨t1, t2, cc, m, t3, t4⟩ => ⟨t1, t2, cc, m, ?_, t4⟩⟩⟩
    exact (ho.other _ (fun e => hX.injm j _ i hj rfl t1 e.symm)).trans t3
theorem deadX_rel : HRel (deadX X j w') := by
  have hle := deadX_le hX hj ho
  have old : ∀ {i : Nat} {c : AB}, (deadX X j w').H i = some c → c.loc = true → i ≠ j ∧ X.H i = some c := fun {i c} h hc => by
    by_cases e : i = j
    · subst e; simp only [deadX, upd_same, Option.some.injEq] at h; subst h; cases hc
    · simp only [deadX, upd_other _ _ e] at h; exact ⟨e, h⟩
  refine ⟨fun i k c d hi hk hc hd hne => hX.inj i k c d (old hi hc).2 (old hk hd).2 hc hd hne, hX.injt, fun i c k hi hc hk => hX.injm i c k (old hi hc).2 hc hk,
    fun i c hi hc => hX.place i c (old hi (AB.loc_of hc)).2 hc, hX.placet, fun i c hi hc => ?_, fun i hi => ?_, fun i hi => ?_, fun a q hq => ?_, fun i c hi => ?_, fun k hk hl => ?_, ho.os.trans hX.os, ho.tape.trans hX.tape, ho.output.trans hX.output, ?_, fun a y h => hle.ic a y (hX.old a y h)⟩
  · show _ < w'.heap.size
    rw [ho.size]
    by_cases e : i = j
    · subst e; exact hX.lt i _ hj rfl
    · simp only [deadX, upd_other _ _ e] at hi; exact hX.lt i c hi hc
  · show _ < w'.heap.size
    rw [ho.size]; exact hX.ltt i hi
  · by_cases e : i = j
    · subst e; simp [deadX, upd_same]
    · simp only [deadX, upd_other _ _ e]; exact hX.tlH i hi
  · show _ < w'.heap.size
    rw [ho.size]; exact hX.frlt a q hq
  · by_cases e : i = j
    · subst e; simp only [deadX, upd_same, Option.some.injEq] at hi; subst hi; trivial
    · simp only [deadX, upd_other _ _ e] at hi
      cases hc : c.loc with
      | true => exact BRel.mono hle rfl rfl (ho.other _ (hX.inj i j c _ hi hj hc rfl e)) (hX.blk i c hi)
      | false => cases c <;> first | trivial | cases hc
  · refine (ho.other k fun e => ?_).trans (hX.below k hk hl)
    rcases hX.place j _ hj rfl with h | h
    · have hk' : k < X.w0.heap.size := hk
      omega
    · exact hl (by rw [e]; exact h)
  · show X.w0.heap.size ≤ w'.heap.size
    rw [ho.size]; exact hX.size
end

theorem two_args {X : Ctx} {i : Nat} {s : ByteArray} {vs : List Value} (hv : PW (VR X) [.one (.ptr i 0), .one (.str s)] vs) : vs = [.pointer (some ⟨X.φ i, 0, none⟩), .string s] := by
  obtain ⟨x, hx, e0⟩ := hv.at_ (j := 0) rfl
  obtain ⟨y, hy, e1⟩ := hv.at_ (j := 1) rfl
  have e0 : x = .pointer (some ⟨X.φ i, 0, none⟩) := e0.2
  have e1 : y = .string s := e1
  subst e0; subst e1
  apply List.ext_getElem?
  intro k
  match k with
  | 0 => exact hx
  | 1 => exact hy
  | k + 2 =>
    have := hv.1
    rw [List.getElem?_eq_none (by simp at this; omega)]; rfl
theorem one_arg {X : Ctx} {i : Nat} {vs : List Value} (hv : PW (VR X) [.one (.ptr i 0)] vs) : vs = [.pointer (some ⟨X.φ i, 0, none⟩)] := by
  obtain ⟨x, hx, e0⟩ := hv.at_ (j := 0) rfl
  have e0 : x = .pointer (some ⟨X.φ i, 0, none⟩) := e0.2
  subst e0
  apply List.ext_getElem?
  intro k
  match k with
  | 0 => exact hx
  | k + 1 =>
    have := hv.1
    rw [List.getElem?_eq_none (by simp at this; omega)]; rfl
abbrev tB : TypeId := 99
abbrev rWS (s : ByteArray) : AV := .val (.tuple #[.int .i64 s.size, .nilIface])
abbrev fWS : FuncId := 53
abbrev fST : FuncId := 47

theorem ws_first (hp : List AB) (i : Nat) (s : ByteArray) (hi : hp[i]? = some (.bld tB .nils)) (h0 : Nat.blt 0 s.size = true) (hs : Nat.ble s.size 140737488355328 = true) :
    HeapCall Tryz.prog fWS [.one (.ptr i 0), .one (.str s)] hp (rWS s) (hp.set i (.bld tB (.ptr hp.length s.size)) ++ [.buf 5 s]) :=
  ⟨⟨_, Tryz.func53, by kernel_rfl, by kernel_rfl⟩, fun X vs hX hH hv => by
    have h0 : 0 < s.size := by simpa using h0
    have hs : s.size ≤ 140737488355328 := by simpa using hs
    rw [two_args hv]
    have hi' : X.H i = some (.bld tB .nils) := by rw [hH]; exact hi
    have hN : X.H hp.length = none := by rw [hH]; exact List.getElem?_eq_none (Nat.le_refl _)
    obtain ⟨p, v, b1, b2, b3⟩ := hX.blk i _ hi'
    have b3 : v = .slice none 0 0 := b3
    subst b3
    refine (ws_any (P := Tryz.prog) (ρ := joinL_ren) { joinL with } joinX (X.φ i) p (.slice none 0 0) 0 [] s X.w b1 b2 ⟨rfl, .inl ⟨rfl, rfl⟩⟩ (by omega)).mono ?_
    rintro e w' ⟨rfl, v', q1, q2, q3, q4, q5, q6, q7, q8⟩
    rcases q2.2 with ⟨_, hz⟩ | ⟨g, cap, cur, rfl, _, hg, hnc, hcm, hcs, htake⟩
    · omega
    · have hloc : X.w.heap.size ≤ g := by
        rcases q3 with h | h | ⟨g', h, hl⟩
        · cases h
        · cases h
        · simp only [Value.ownBlock, Option.some.injEq] at h
          rw [h]; exact hl
      rw [Nat.zero_add] at q1 hnc htake
      have h1 : w'.heap[X.φ i]? = some (.cells #[.pointer (some ⟨X.φ i, 0, none⟩), .slice (some ⟨g, 0, none⟩) s.size cap] tB (0, 0)) := q1
      have h6 : cur.toList.take s.size = bytesV s := by rw [Nat.mul_one, List.nil_append] at htake; exact htake
      have h8 : ∀ k, k < X.w.heap.size → k ≠ X.φ i → (∀ j, (none : Option Nat) = some j → k ≠ X.φ j) → w'.heap[k]? = X.w.heap[k]? := fun k hk hne _ => q4 k hk hne (fun h => by cases h)
      have ho : ∀ j, (none : Option Nat) = some j → j ≠ i ∧ ∃ s, X.H j = some (.buf 5 s) := fun j h => by cases h
      refine ⟨_, bldX X i hp.length none tB 5 s g cap w', rfl, rfl, bldX_le hX hi' hN ho (.inr hloc) h8 ⟨q5, q6, q7, q8⟩, bldX_rel hX hi' hN ho h1 hg hnc hcm (by omega) h6 (.inr hloc) h8 ⟨q5, q6, q7, q8⟩, ?_, rfl⟩
      funext k
      have hil : i < hp.length := (List.getElem?_eq_some_iff.1 hi).1
      simp only [bldX]
      by_cases e : k = hp.length
      · subst e; rw [if_pos rfl]; simp
      · rw [if_neg e]
        by_cases e2 : k = i
        · subst e2; rw [if_pos rfl, List.getElem?_append_left (by simpa using hil), List.getElem?_set_self hil]
        · rw [if_neg e2, if_neg (by intro h; cases h), hH]
          by_cases hk : k < hp.length
          · rw [List.getElem?_append_left (by simpa using hk), List.getElem?_set_ne (fun h => e2 h.symm)]
          · show hp[k]? = _
            rw [List.getElem?_eq_none (show hp.length ≤ k by omega), List.getElem?_eq_none (by rw [List.length_append, List.length_set]; simp only [List.length_cons, List.length_nil]; omega)]⟩
theorem bytesV_append (t s : ByteArray) : bytesV (t ++ s) = bytesV t ++ bytesV s := by
  unfold bytesV
  have : (t ++ s).data.toList = t.data.toList ++ s.data.toList := by simp
  rw [this, List.map_append]
theorem ws_more (hp : List AB) (i j : Nat) (t s : ByteArray) (hi : hp[i]? = some (.bld tB (.ptr j t.size))) (hj : hp[j]? = some (.buf 5 t)) (h0 : Nat.blt 0 (t.size + s.size) = true) (hs : Nat.ble (t.size + s.size) 140737488355328 = true) :
    HeapCall Tryz.prog fWS [.one (.ptr i 0), .one (.str s)] hp (rWS s) ((hp.set i (.bld tB (.ptr hp.length (t ++ s).size))).set j .dead ++ [.buf 5 (t ++ s)]) :=
  ⟨⟨_, Tryz.func53, by kernel_rfl, by kernel_rfl⟩, fun X vs hX hH hv => by
    have h0 : 0 < t.size + s.size := by simpa using h0
    have hs : t.size + s.size ≤ 140737488355328 := by simpa using hs
    rw [two_args hv]
    have hi' : X.H i = some (.bld tB (.ptr j t.size)) := by rw [hH]; exact hi
    have hj' : X.H j = some (.buf 5 t) := by rw [hH]; exact hj
    have hji : j ≠ i := fun e => by subst e; rw [hi'] at hj'; cases hj'
    have hN : X.H hp.length = none := by rw [hH]; exact List.getElem?_eq_none (Nat.le_refl _)
    obtain ⟨p, v, b1, b2, _, b3⟩ := hX.blk i _ hi'
    subst b3
    obtain ⟨cur0, c1, c2, c3, c4, c5⟩ := hX.blk j _ hj'
    have hlenb : (bytesV t).length = t.size := by
      unfold bytesV
      rw [List.length_map, Array.length_toList]; rfl
    refine (ws_any (P := Tryz.prog) (ρ := joinL_ren) { joinL with } joinX (X.φ i) p (.slice (some ⟨X.φ j, 0, none⟩) t.size (X.ca j)) t.size (bytesV t) s X.w b1 b2
      ⟨by rw [hlenb, Nat.mul_one], .inr ⟨X.φ j, X.ca j, cur0, rfl, Nat.zero_le _, c1, c3, c4, by omega, by rw [Nat.mul_one]; exact c5⟩⟩ hs).mono ?_
    rintro e w' ⟨rfl, v', q1, q2, q3, q4, q5, q6, q7, q8⟩
    have hsz : (t ++ s).size = t.size + s.size := ByteArray.size_append' t s
    rcases q2.2 with ⟨_, hz⟩ | ⟨g, cap, cur, rfl, _, hg, hnc, hcm, hcs, htake⟩
    · omega
    · have hloc : (∃ j', some j = some j' ∧ g = X.φ j') ∨ X.w.heap.size ≤ g := by
        rcases q3 with h | h | ⟨g', h, hl⟩
        · simp only [Value.ownBlock, Option.some.injEq] at h
          exact .inl ⟨j, rfl, h⟩
        · cases h
        · simp only [Value.ownBlock, Option.some.injEq] at h
          right; rw [h]; exact hl
      rw [← hsz] at q1 hnc htake
      have h1 : w'.heap[X.φ i]? = some (.cells #[.pointer (some ⟨X.φ i, 0, none⟩), .slice (some ⟨g, 0, none⟩) (t ++ s).size cap] tB (0, 0)) := q1
      have h6 : cur.toList.take (t ++ s).size = bytesV (t ++ s) := by rw [Nat.mul_one] at htake; rw [bytesV_append]; exact htake
      have h8 : ∀ k, k < X.w.heap.size → k ≠ X.φ i → (∀ j', some j = some j' → k ≠ X.φ j') → w'.heap[k]? = X.w.heap[k]? := fun k hk hne hne2 => q4 k hk hne (fun h => by
        simp only [Value.ownBlock, Option.some.injEq] at h
        exact hne2 j rfl h)
      have ho : ∀ j', some j = some j' → j' ≠ i ∧ ∃ s, X.H j' = some (.buf 5 s) := fun j' h => by
        injection h with h; subst h
        exact ⟨hji, t, hj'⟩
      refine ⟨_, bldX X i hp.length (some j) tB 5 (t ++ s) g cap w', rfl, rfl, bldX_le hX hi' hN ho hloc h8 ⟨q5, q6, q7, q8⟩, bldX_rel hX hi' hN ho h1 hg hnc hcm (by omega) h6 hloc h8 ⟨q5, q6, q7, q8⟩, ?_, rfl⟩
      funext k
      have hil : i < hp.length := (List.getElem?_eq_some_iff.1 hi).1
      have hjl : j < hp.length := (List.getElem?_eq_some_iff.1 hj).1
      simp only [bldX]
      by_cases e : k = hp.length
      · subst e; rw [if_pos rfl]; simp
      · rw [if_neg e]
        by_cases hk : k < hp.length
        · rw [List.getElem?_append_left (by simpa using hk)]
          by_cases e2 : k = i
          · subst e2; rw [if_pos rfl, List.getElem?_set_ne hji, List.getElem?_set_self hil]
          · rw [if_neg e2]
            by_cases e3 : k = j
            · subst e3; rw [if_pos rfl, List.getElem?_set_self (by simpa using hjl)]
            · rw [if_neg (by intro h; injection h with h; exact e3 h), List.getElem?_set_ne (fun h => e3 h.symm), List.getElem?_set_ne (fun h => e2 h.symm), hH]
        · have e2 : k ≠ i := by omega
          have e3 : k ≠ j := by omega
          rw [if_neg e2, if_neg (by intro h; injection h with h; exact e3 h), hH]
          show hp[k]? = _
          rw [List.getElem?_eq_none (show hp.length ≤ k by omega), List.getElem?_eq_none (by rw [List.length_append, List.length_set, List.length_set]; simp only [List.length_cons, List.length_nil]; omega)]⟩
theorem st_empty (hp : List AB) (i : Nat) (hi : hp[i]? = some (.bld tB .nils)) : HeapCall Tryz.prog fST [.one (.ptr i 0)] hp (.one (.str ByteArray.empty)) hp :=
  ⟨⟨_, Tryz.func47, by kernel_rfl, by kernel_rfl⟩, fun X vs hX hH hv => by
    rw [one_arg hv]
    have hi' : X.H i = some (.bld tB .nils) := by rw [hH]; exact hi
    obtain ⟨p, v, b1, b2, b3⟩ := hX.blk i _ hi'
    have b3 : v = .slice none 0 0 := b3
    subst b3
    refine (st_nil (P := Tryz.prog) (ρ := joinL_ren) { joinL with } joinX (X.φ i) p X.w b1).mono ?_
    rintro e w' ⟨rfl, rfl⟩
    have hb : Below X.w.heap.size X.w X.w.drew := Below.drew (Below.refl _ _)
    exact ⟨_, X.withW X.w.drew, rfl, rfl, withW_le hX hb (Nat.le_refl _), hX.withW hb (Nat.le_refl _), hH, rfl⟩⟩
theorem st_full (hp : List AB) (i j : Nat) (t : ByteArray) (hi : hp[i]? = some (.bld tB (.ptr j t.size))) (hj : hp[j]? = some (.buf 5 t)) (h0 : Nat.blt 0 t.size = true) :
    HeapCall Tryz.prog fST [.one (.ptr i 0)] hp (.one (.str t)) (hp.set j .dead) :=
  ⟨⟨_, Tryz.func47, by kernel_rfl, by kernel_rfl⟩, fun X vs hX hH hv => by
    have h0 : 0 < t.size := by simpa using h0
    rw [one_arg hv]
    have hi' : X.H i = some (.bld tB (.ptr j t.size)) := by rw [hH]; exact hi
    have hj' : X.H j = some (.buf 5 t) := by rw [hH]; exact hj
    obtain ⟨p, v, b1, b2, _, b3⟩ := hX.blk i _ hi'
    subst b3
    obtain ⟨cur, c1, c2, c3, c4, c5⟩ := hX.blk j _ hj'
    have hl : t.data.toList.length = t.size := by rw [Array.length_toList]; rfl
    have hl0 : t.data.toList ≠ [] := fun e => by rw [e] at hl; simp at hl; omega
    refine (st_some (P := Tryz.prog) (ρ := joinL_ren) { joinL with } joinX (X.φ i) (X.φ j) (X.ca j) p cur t.data.toList X.w hl0 (by rw [hl]; exact b1) c1 (by rw [hl]; exact c3) c4 c2 (by rw [hl]; exact c5)).mono ?_
    rintro e w' ⟨rfl, rfl⟩
    have ho : OneBlock X j (X.w.drew.freeze ⟨X.φ j, 0, none⟩ t.data.toList.length) := by
      rw [hl]
      unfold World.freeze
      rw [if_neg (by omega)]
      exact ⟨rfl, rfl, rfl, by rw [Array.size_modify]; rfl, fun k hk => by
        simp only [Array.getElem?_modify]
        rw [if_neg (fun h => hk h.symm)]; rfl, Nat.le_refl _⟩
    refine ⟨_, deadX X j _, rfl, rfl, deadX_le hX hj' ho, deadX_rel hX hj' ho, ?_, ?_⟩
    · funext k
      have hjl : j < hp.length := (List.getElem?_eq_some_iff.1 hj).1
      simp only [deadX]
      by_cases e : k = j
      · subst e; rw [upd_same, List.getElem?_set_self hjl]
      · rw [upd_other _ _ e, List.getElem?_set_ne (fun h => e h.symm), hH]
    · show Value.string ⟨t.data.toList.toArray⟩ = Value.string t
      simp⟩
open Go Go.Eng Go.Proofs Go.RowKit

def strJ (xs : List ByteArray) (sep : ByteArray) : ByteArray := ⟨(Lib.join (xs.map (·.data.toList)) sep.data.toList).toArray⟩
theorem join_pure (xs : List ByteArray) (m : SM) (sep : ByteArray) (hn : Nat.ble xs.length 140737488355328 = true) (hlen : Nat.ble (Lib.join (xs.map (·.data.toList)) sep.data.toList).length 140737488355328 = true) :
    PureCall Tryz.prog 54 [.one (.sl .str xs m), .one (.str sep)] (.one (.str (strJ xs sep))) :=
  ⟨⟨_, Tryz.func54, by kernel_rfl, by kernel_rfl⟩, fun X vs hX hv => by
    obtain ⟨x, hx, A, n, cap, e0, h1, h2, h3, h4, _⟩ := hv.at_ (j := 0) rfl
    obtain ⟨y, hy, e1⟩ := hv.at_ (j := 1) rfl
    have e1 : y = .string sep := e1
    subst e0; subst e1
    have hvs : vs = [.slice A n cap, .string sep] := by
      apply List.ext_getElem?
      intro i
      match i with
      | 0 => exact hx
      | 1 => exact hy
      | i + 2 =>
        have := hv.1
        rw [List.getElem?_eq_none (by simp at this; omega)]; rfl
    rw [hvs]
    have fin : ∀ (e : Ending) (w' : World), e = .returned (.string (strJ xs sep)) ∧ Below X.w.heap.size X.w w' → ∃ val X', e = .returned val ∧ X'.w = w' ∧ X.le X' ∧ HRel X' ∧ X'.H = X.H ∧ VR X' (.one (.str (strJ xs sep))) val := fun e w' ⟨he, hb⟩ =>
      ⟨_, X.withW w', he, rfl, withW_le hX hb (Nat.le_refl _), hX.withW hb (Nat.le_refl _), rfl, rfl⟩
    subst h1
    rcases Nat.eq_zero_or_pos xs.length with h0 | h0
    · have hxs : xs = [] := List.eq_nil_of_length_eq_zero h0
      subst hxs
      exact (Any.strings_Join_none joinL joinX A cap sep X.w).mono fun e w' ⟨he, hw⟩ => fin e w' ⟨he, hw ▸ Below.refl _ _⟩
    · rcases h4 with h4 | ⟨b, o, rfl, h4⟩
      · omega
      · have hc : ∀ (j : Nat) x, xs[j]? = some x → X.IC ⟨b, o + j, none⟩ (.string x) := fun j x hj => by
          have h : X.IC ⟨b, o + j * 1 + 0, none⟩ (.string x) := h4 j x hj
          rwa [Nat.mul_one, Nat.add_zero] at h
        have hb : b < X.w.heap.size := Ctx.IC_lt (hc 0 _ (List.getElem?_eq_getElem h0))
        exact (Any.strings_Join joinL joinX b o cap xs sep X.w (fun j x hj => (hc j x hj).2.2.1) hb (by simpa using hn) h2 (by simpa using hlen)).mono fun e w' h => fin e w' h⟩
noncomputable def EJn (E : Env Tryz.prog) : Env Tryz.prog := E.addP 54
  (fun args os => match args with
    | [.one (.sl .str xs m), .one (.str sep)] => retC (.one (.str (strJ xs sep))) [Nat.ble xs.length 140737488355328, Nat.ble (Lib.join (xs.map (·.data.toList)) sep.data.toList).length 140737488355328] os
    | _ => none)
  (fun args os r cs os' h hc => by
    split at h
    · simp only [retC, Option.some.injEq, Prod.mk.injEq] at h
      obtain ⟨rfl, rfl, rfl⟩ := h
      exact join_pure _ _ _ (of_allTc hc).1 (of_allTc (of_allTc hc).2).1
    · cases h)
end Go.Proofs.YthdgoefjkfafkaaGreatDoor
