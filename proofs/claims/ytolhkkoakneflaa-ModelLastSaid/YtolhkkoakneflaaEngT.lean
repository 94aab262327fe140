import Derived.Test.YtolhkkoakneflaaEngS
set_option linter.unusedVariables false
namespace Go.Eng
open Go Go.RowKit
variable {P : Program}

def backOk : List Oper → Nat → Bool
  | [], _ => true
  | o :: r, j => o.after.toList.all (fun e => !Region.binds .any e || Nat.blt e.on j) && backOk r (j + 1)

theorem backOk_spec (l : List Oper) : ∀ (j : Nat), backOk l j = true → ∀ (k : Nat) o, l[k]? = some o → ∀ e ∈ o.after, Region.binds .any e = true → e.on < j + k := by
  induction l with
  | nil => intro j _ k o hk; simp at hk
  | cons o0 r ih =>
    intro j h k o hk e he hb
    simp only [backOk, Bool.and_eq_true] at h
    cases k with
    | zero =>
      simp only [List.getElem?_cons_zero, Option.some.injEq] at hk
      subst hk
      have := List.all_eq_true.1 h.1 e (by simpa using he)
      rw [hb] at this
      simpa using this
    | succ k =>
      have := ih (j + 1) h.2 k o (by simpa using hk) e he hb
      omega

def undone (n : Nat) (S : Nat → Bool) : Nat := (List.range n).countP fun i => !S i

theorem countP_less {l : List Nat} {p q : Nat → Bool} (h : ∀ x ∈ l, q x = true → p x = true) {y : Nat} (hy : y ∈ l) (hp : p y = true) (hq : q y = false) : l.countP q < l.countP p := by
  induction l with
  | nil => cases hy
  | cons x l ih =>
    have hle : ∀ (m : List Nat), (∀ x ∈ m, q x = true → p x = true) → m.countP q ≤ m.countP p := fun m hm => List.countP_mono_left hm
    simp only [List.countP_cons]
    rcases List.mem_cons.1 hy with rfl | hy
    · have := hle l fun z hz => h z (List.mem_cons_of_mem _ hz)
      simp only [hp, hq, if_true]
      have : (if (false : Bool) = true then 1 else 0) = 0 := rfl
      omega
    · have h1 := ih (fun z hz => h z (List.mem_cons_of_mem _ hz)) hy
      have h2 := h x (List.mem_cons_self ..)
      cases hqx : q x <;> cases hpx : p x <;> simp_all <;> omega

section
variable {kp : KX} {ops : Array Oper} {nt : Nat} {T0 : Nat → Option AV} {H0 : Nat → Option AB} {cs : List Bool} {L : List DRec} {ms : List Nat}

theorem all_ready (hback : ∀ (j : Nat) o, ops[j]? = some o → ∀ e ∈ o.after, Region.binds .any e = true → e.on < j) : ∀ (listed : Array Bool), listed.size = ops.size → Region.ready .any ops listed = [] → ∀ i, i < ops.size → listed.getD i false = true := by
  intro listed hsz hr i
  induction i using Nat.strongRecOn with
  | _ i ih =>
    intro hi
    cases hl : listed.getD i false with
    | true => rfl
    | false =>
      have hm : i ∈ Region.ready .any ops listed := mem_ready.2 ⟨by
        simp only [Array.getD_eq_getD_getElem?] at hl ⊢
        rw [Array.getElem?_eq_getElem (by omega)] at hl ⊢
        exact hl, ops[i], Array.getElem?_eq_getElem hi, fun e he hb => ih e.on (hback i _ (Array.getElem?_eq_getElem hi) e he hb) (by have := hback i _ (Array.getElem?_eq_getElem hi) e he hb; omega)⟩
      rw [hr] at hm; cases hm

theorem undone_set {listed : Array Bool} (hsz : listed.size = ops.size) {i : Nat} (hi : i < ops.size) (hif : listed.getD i false = false) : undone ops.size (fun j => (listed.setIfInBounds i true).getD j false) < undone ops.size (fun j => listed.getD j false) := by
  have hil : i < listed.size := by omega
  have hs1 : (listed.setIfInBounds i true).getD i false = true := by simp [hil]
  have hs2 : ∀ j, j ≠ i → (listed.setIfInBounds i true).getD j false = listed.getD j false := fun j hj => getD_set_ne false (Ne.symm hj)
  refine countP_less (fun x _ hx => ?_) (List.mem_range.2 hi) (by simp only [hif]; rfl) (by simp only [hs1]; rfl)
  by_cases hxi : x = i
  · subst hxi
    simp only [hs1] at hx; cases hx
  · simp only [hs2 x hxi] at hx; exact hx

theorem undone_pos {listed : Array Bool} {i : Nat} (hi : i < ops.size) (hif : listed.getD i false = false) : 0 < undone ops.size (fun i => listed.getD i false) :=
  List.countP_pos_iff.2 ⟨i, List.mem_range.2 hi, by simp only [hif]; rfl⟩

theorem ready_off {listed : Array Bool} (hsz : listed.size = ops.size) {i : Nat} (hm : i ∈ Region.ready .any ops listed) : i < ops.size ∧ listed.getD i false = false ∧ ∃ o, ops[i]? = some o ∧ ∀ e ∈ o.after, Region.binds .any e = true → listed.getD e.on false = true := by
  obtain ⟨h0, o, ho, hall⟩ := mem_ready.1 hm
  have hi := (Array.getElem?_eq_some_iff.1 ho).1
  refine ⟨hi, ?_, o, ho, hall⟩
  simp only [Array.getD_eq_getD_getElem?] at h0 ⊢
  rw [Array.getElem?_eq_getElem (by omega)] at h0 ⊢
  exact h0

/-- An operation that waits for all ahead of it. -/
theorem sync_must (hmok : MOk ops ms) {i : Nat} (hms : ms[i]? = some (2 ^ i - 1)) {listed : Array Bool} (hS : Closed ops (fun i => listed.getD i false)) (hsz : listed.size = ops.size) (hm : i ∈ Region.ready .any ops listed) : ∀ j, j < i → listed.getD j false = true := by
  obtain ⟨_, _, o, ho, hall⟩ := ready_off hsz hm
  intro j hj
  refine hmok i _ hms _ hS (fun o' ho' => ?_) j (by rw [Nat.testBit_two_pow_sub_one]; simpa using hj)
  rw [ho] at ho'
  injection ho' with ho'
  subst ho'; exact hall

theorem Listing.any (hkp : KXok P kp) (hL : Listing P kp ops nt T0 H0 cs L ms) (hcs : ∀ c ∈ cs, c = true) (hback : ∀ (j : Nat) o, ops[j]? = some o → ∀ e ∈ o.after, Region.binds .any e = true → e.on < j)
    (hsync : ∀ j, L.length ≤ j → j < ops.size → ms[j]? = some (2 ^ j - 1))
    {Q : Exit → Act → World → Prop} : ∀ (fuel : Nat) (listed : Array Bool) (X : Ctx) (a : Act), listed.size = ops.size → (∀ j, L.length ≤ j → listed.getD j false = false) → Closed ops (fun i => listed.getD i false) → undone ops.size (fun i => listed.getD i false) ≤ fuel →
      DInv nt T0 H0 L (fun i => listed.getD i false) X a →
      (∀ X' a' (listed' : Array Bool) fuel', X.le X' → DInv nt T0 H0 L all X' a' → listed'.size = ops.size → (∀ j, listed'.getD j false = decide (j < L.length)) → Closed ops (fun i => listed'.getD i false) → undone ops.size (fun i => listed'.getD i false) ≤ fuel' → wpAny P .any ops Q fuel' listed' a' X'.w) →
      wpAny P .any ops Q fuel listed a X.w := by
  have hend : ∀ (fuel : Nat) (listed : Array Bool) (X : Ctx) (a : Act), listed.size = ops.size → (∀ j, L.length ≤ j → listed.getD j false = false) → Closed ops (fun i => listed.getD i false) → undone ops.size (fun i => listed.getD i false) ≤ fuel → DInv nt T0 H0 L (fun i => listed.getD i false) X a →
      (∀ X' a' (listed' : Array Bool) fuel', X.le X' → DInv nt T0 H0 L all X' a' → listed'.size = ops.size → (∀ j, listed'.getD j false = decide (j < L.length)) → Closed ops (fun i => listed'.getD i false) → undone ops.size (fun i => listed'.getD i false) ≤ fuel' → wpAny P .any ops Q fuel' listed' a' X'.w) →
      (∀ i, i < L.length → listed.getD i false = true) → wpAny P .any ops Q fuel listed a X.w := by
    intro fuel listed X a hsz hoff hS hu h hq hall
    have e1 : slotAt T0 (fun i => listed.getD i false) L = slotAt T0 all L := funext fun s => slotAt_congr fun k r he _ => hall k he.lt
    have e2 : heapAt H0 (fun i => listed.getD i false) L = heapAt H0 all L := funext fun s => heapAt_congr fun k r he _ => hall k he.lt
    refine hq X a listed fuel (.refl X) ⟨h.hrel, by rw [h.heap, e2], h.size, h.defers, by rw [← e1]; exact h.slots⟩ hsz (fun j => ?_) hS hu
    by_cases hj : j < L.length
    · rw [hall j hj]; simp [hj]
    · rw [hoff j (by omega)]; simp [hj]
  intro fuel
  induction fuel with
  | zero =>
    intro listed X a hsz hoff hS hu h hq
    refine hend 0 listed X a hsz hoff hS hu h hq fun i hi => ?_
    cases hl : listed.getD i false with
    | true => rfl
    | false =>
      have := undone_pos (ops := ops) (listed := listed) (by have := hL.len; omega) hl
      omega
  | succ fuel ih =>
    intro listed X a hsz hoff hS hu h hq
    by_cases hall : ∀ i, i < L.length → listed.getD i false = true
    · exact hend (fuel + 1) listed X a hsz hoff hS hu h hq hall
    · have hex : ∃ i, i < L.length ∧ listed.getD i false = false := by
        simp only [Classical.not_forall] at hall
        obtain ⟨i, hi, hh⟩ := hall
        exact ⟨i, hi, by simpa using hh⟩
      obtain ⟨i0, hi0, hf0⟩ := hex
      refine ⟨fun hr => ?_, fun i hm => ?_⟩
      · have := all_ready hback listed hsz hr i0 (by have := hL.len; omega)
        rw [hf0] at this; cases this
      · obtain ⟨hi, hif, o, ho, hedge⟩ := ready_off hsz hm
        have hlt : i < L.length := by
          rcases Nat.lt_or_ge i L.length with hh | hh
          · exact hh
          · have := sync_must hL.mok (hsync i hh hi) hS hsz hm i0 (by omega)
            rw [hf0] at this; cases this
        have hil : i < listed.size := by omega
        have hs1 : (listed.setIfInBounds i true).getD i false = true := by simp [hil]
        have hs2 : ∀ j, j ≠ i → (listed.setIfInBounds i true).getD j false = listed.getD j false := fun j hj => getD_set_ne false (Ne.symm hj)
        refine hL.step hkp hcs hS hlt ho hif hedge (S' := fun j => (listed.setIfInBounds i true).getD j false) hs1 hs2 h fun X' a' hle h' => ?_
        refine ih _ X' a' (by simp [hsz]) (fun j hj => by rw [hs2 j (by omega)]; exact hoff j hj) ?_ ?_ h' fun X'' a'' l' f' hle' h'' => hq X'' a'' l' f' (hle.trans hle') h''
        · intro j o' ho' hj e he hb
          by_cases hji : j = i
          · subst hji
            rw [ho] at ho'
            injection ho' with ho'
            subst ho'
            exact getD_set_true (hedge e he hb)
          · simp only [hs2 j hji] at hj
            exact getD_set_true (hS j o' ho' hj e he hb)
        · have := undone_set hsz hi hif
          omega

/-- Operations each of which waits for all ahead of it. -/
theorem suffix_run {kp : KP} {kh : KH} (hkp : KPok P kp) (hkh : KHok P kh) (hmok : MOk ops ms) (hback : ∀ (j : Nat) o, ops[j]? = some o → ∀ e ∈ o.after, Region.binds .any e = true → e.on < j) {q : Nat}
    (hsync : ∀ j, q ≤ j → j < ops.size → ms[j]? = some (2 ^ j - 1)) {Q : Exit → Act → World → Prop} : ∀ (fuel m : Nat) (listed : Array Bool) {σ σ' : St} (X : Ctx) (a : Act), q ≤ m → m ≤ ops.size → listed.size = ops.size → (∀ j, listed.getD j false = decide (j < m)) →
      Closed ops (fun i => listed.getD i false) → undone ops.size (fun i => listed.getD i false) ≤ fuel → Rel X σ a → opsRun P kp kh ops (List.range' m (ops.size - m)) σ = some σ' → (∀ c ∈ σ'.cs, c = true) → (∀ X' a', X.le X' → Rel X' σ' a' → Q .normal a' X'.w) →
      wpAny P .any ops Q fuel listed a X.w := by
  intro fuel
  induction fuel with
  | zero =>
    intro m listed σ σ' X a hqm hm hsz hl hS hu h hr hc hq
    have hme : m = ops.size := by
      rcases Nat.lt_or_ge m ops.size with hh | hh
      · have := undone_pos (ops := ops) (listed := listed) hh (by rw [hl]; simp)
        omega
      · omega
    subst hme
    simp only [Nat.sub_self, List.range'_zero, opsRun, Option.some.injEq] at hr
    subst hr
    refine ⟨?_, hq X a (.refl X) h⟩
    cases hrr : Region.ready .any ops listed with
    | nil => rfl
    | cons i rest =>
      obtain ⟨hi, hif, _⟩ := ready_off hsz (i := i) (by rw [hrr]; exact List.mem_cons_self ..)
      rw [hl] at hif
      simp [hi] at hif
  | succ fuel ih =>
    intro m listed σ σ' X a hqm hm hsz hl hS hu h hr hc hq
    rcases Nat.lt_or_ge m ops.size with hlt | hge
    · refine ⟨fun hrr => ?_, fun i hmem => ?_⟩
      · have := all_ready hback listed hsz hrr m hlt
        rw [hl] at this
        simp at this
      · obtain ⟨hi, hif, o, ho, hedge⟩ := ready_off hsz hmem
        have him : i = m := by
          rw [hl] at hif
          simp only [decide_eq_false_iff_not] at hif
          rcases Nat.lt_or_ge m i with hh | hh
          · have := sync_must hmok (hsync i (by omega) hi) hS hsz hmem m hh
            rw [hl] at this
            simp at this
          · omega
        subst him
        rw [show ops.size - i = (ops.size - (i + 1)) + 1 by omega, List.range'_succ] at hr
        simp only [opsRun, ho] at hr
        split at hr
        · rename_i σ1 hs
          obtain ⟨c2, e2⟩ := opsRun_suf _ hr
          unfold wpOp
          simp only [ho]
          have hil : i < listed.size := by omega
          have hs1 : (listed.setIfInBounds i true).getD i false = true := by simp [hil]
          have hs2 : ∀ j, j ≠ i → (listed.setIfInBounds i true).getD j false = listed.getD j false := fun j hj => getD_set_ne false (Ne.symm hj)
          refine (stepOp_sim hkp hkh h hs).2 (fun c hcm => hc c (by rw [e2]; exact List.mem_append_right _ hcm)) _ Q fun X' a' hle h' => ?_
          refine ih (i + 1) _ X' a' (by omega) hlt (by simp [hsz]) (fun j => ?_) ?_ ?_ h' hr hc fun X'' a'' hle' h'' => hq X'' a'' (hle.trans hle') h''
          · by_cases hji : j = i
            · subst hji; rw [hs1]; simp
            · rw [hs2 j hji, hl]
              by_cases h1 : j < i
              · simp [h1]; omega
              · have : ¬ j < i + 1 := by omega
                simp [h1, this]
          · intro j o' ho' hj e he hb
            by_cases hji : j = i
            · subst hji
              rw [ho] at ho'
              injection ho' with ho'
              subst ho'
              exact getD_set_true (hedge e he hb)
            · simp only [hs2 j hji] at hj
              exact getD_set_true (hS j o' ho' hj e he hb)
          · have := undone_set hsz hi hif
            omega
        · cases hr
    · have hme : m = ops.size := by omega
      subst hme
      simp only [Nat.sub_self, List.range'_zero, opsRun, Option.some.injEq] at hr
      subst hr
      refine ⟨fun _ => hq X a (.refl X) h, fun i hmem => ?_⟩
      obtain ⟨hi, hif, _⟩ := ready_off hsz hmem
      rw [hl] at hif
      simp [hi] at hif
end

/-- Holes among the blocks' numbers are given to nothing. -/
def Ctx.fill (X : Ctx) (n : Nat) : Ctx := { X with H := fun k => match X.H k with | some b => some b | none => if k < n then some (.tok 0 0) else none }

theorem fill_some {X : Ctx} {n i : Nat} {b : AB} (h : (X.fill n).H i = some b) (hl : b.loc = true) : X.H i = some b := by
  simp only [Ctx.fill] at h
  split at h
  · rename_i hb; rw [hb]; exact h
  · split at h
    · injection h with h; subst h; cases hl
    · cases h

theorem some_fill {X : Ctx} {n i : Nat} {b : AB} (h : X.H i = some b) : (X.fill n).H i = some b := by simp only [Ctx.fill, h]

theorem fill_le {X : Ctx} (n : Nat) : X.le (X.fill n) where
  ic a y := fun ⟨h1, h2, h3, h4, h5⟩ => ⟨h1, h2, h3, fun i b hb hl => h4 i b (fill_some hb hl) hl, h5⟩
  loc i b h hm := ⟨⟨b, some_fill h, hm⟩, rfl⟩
  arr i row l h := ⟨l, some_fill h, rfl⟩
  tok i t v h := ⟨v, some_fill h, Nat.le_refl _, fun _ => ⟨rfl, fun _ _ _ h => h⟩⟩
  w0 := rfl
  lent := rfl
  oldeq := rfl

theorem HRel.fill {X : Ctx} (hX : HRel X) (n : Nat) : HRel (X.fill n) where
  inj i j b c hi hj hb hc hne := hX.inj i j b c (fill_some hi hb) (fill_some hj hc) hb hc hne
  injt := hX.injt
  injm i b j hi hb hj := hX.injm i b j (fill_some hi hb) hb hj
  place i b hi hb := hX.place i b (fill_some hi hb) hb
  placet := hX.placet
  lt i b hi hb := hX.lt i b (fill_some hi hb) hb
  ltt := hX.ltt
  tlH i hi := by
    cases h : X.H i with
    | none => exact absurd h (hX.tlH i hi)
    | some b => rw [some_fill h]; exact fun e => by cases e
  frlt := hX.frlt
  blk i b h := by
    cases hm : b.loc with
    | true => exact BRel.mono (fill_le n) rfl rfl (hX.blk i b (fill_some h hm))
    | false => cases b <;> first | trivial | cases hm
  below := hX.below
  os := hX.os
  tape := hX.tape
  output := hX.output
  size := hX.size
  old a y h := (fill_le n).ic a y (hX.old a y h)

def tmOf (tm : List (Nat × AV)) : List DRec → List (Nat × AV)
  | [] => tm
  | r :: L => match r.dst with
    | some d => (d, r.v) :: tmOf tm L
    | none => tmOf tm L

theorem tmOf_look {tm : List (Nat × AV)} {s : Nat} : ∀ {L : List DRec}, lookT (tmOf tm L) s = slotAt (lookT tm) all L s
  | [] => rfl
  | r :: L => by
    have ih := tmOf_look (tm := tm) (s := s) (L := L)
    simp only [tmOf, slotAt, DRec.writes, all, Bool.and_true]
    cases hd : r.dst with
    | none => simpa using ih
    | some d =>
      simp only [lookT]
      rw [ih]

def hpOf (H : Nat → Option AB) : Nat → Nat → List AB
  | 0, _ => []
  | n + 1, k => (match H k with | some b => b | none => .tok 0 0) :: hpOf H n (k + 1)

theorem hpOf_get {H : Nat → Option AB} : ∀ (n k i : Nat), (hpOf H n k)[i]? = if i < n then some ((H (k + i)).getD (.tok 0 0)) else none
  | 0, k, i => by simp [hpOf]
  | n + 1, k, i => by
    cases i with
    | zero =>
      simp only [hpOf, List.getElem?_cons_zero, Nat.add_zero, Nat.zero_lt_succ, if_true, Option.some.injEq]
      cases H k <;> rfl
    | succ i =>
      simp only [hpOf, List.getElem?_cons_succ, hpOf_get n (k + 1) i, Nat.add_lt_add_iff_right]
      rw [show k + 1 + i = k + (i + 1) by omega]

/-- From where on each operation waits for all ahead of it. -/
def syncFrom : Nat → List Nat → Nat
  | j, [] => j
  | j, m :: r => if Nat.beq (syncFrom (j + 1) r) (j + 1) && Nat.beq m (2 ^ j - 1) then j else syncFrom (j + 1) r
theorem syncFrom_spec : ∀ (ms : List Nat) (j : Nat), j ≤ syncFrom j ms ∧ syncFrom j ms ≤ j + ms.length ∧ ∀ k, syncFrom j ms ≤ j + k → k < ms.length → ms[k]? = some (2 ^ (j + k) - 1)
  | [], j => ⟨Nat.le_refl _, Nat.le_refl _, fun k _ hk => by simp at hk⟩
  | m :: r, j => by
    obtain ⟨h1, h2, h3⟩ := syncFrom_spec r (j + 1)
    simp only [syncFrom]
    split
    · rename_i hc
      simp only [Bool.and_eq_true, Nat.beq_eq] at hc
      refine ⟨Nat.le_refl _, by omega, fun k hk hl => ?_⟩
      cases k with
      | zero => simp [hc.2]
      | succ k =>
        have := h3 k (by omega) (by simpa using hl)
        rw [List.getElem?_cons_succ, this]; congr 2; congr 1; omega
    · refine ⟨by omega, by simp only [List.length_cons]; omega, fun k hk hl => ?_⟩
      cases k with
      | zero => omega
      | succ k =>
        have := h3 k (by omega) (by simpa using hl)
        rw [List.getElem?_cons_succ, this]; congr 2; congr 1; omega

/-- A region that draws its order: a part that is drawn, and behind it operations that wait for all ahead of them. -/
def drawRun (P : Program) (kp : KP) (kq : KX) (kh : KH) (ops : Array Oper) (σ : St) : Option St :=
  match σ.tg with
  | [] => if backOk ops.toList 0 then
      match dpass P kq ops σ.nt (lookT σ.tm) σ.H σ.hp.length (ops.toList.take (syncFrom 0 (masks ops.toList []))) [] 0 σ.os σ.cs with
      | some (L, m, os, cs) => if okAll (masks ops.toList []) L && L.all (fun r => r.u.all fun p => Nat.blt p.1 (σ.hp.length + m)) then
          opsRun P kp kh ops (List.range' (syncFrom 0 (masks ops.toList [])) (ops.size - syncFrom 0 (masks ops.toList []))) { σ with tm := tmOf σ.tm L, hp := hpOf (heapAt σ.H all L) (σ.hp.length + m) 0, os, cs }
        else none
      | none => none
    else none
  | _ => none

theorem heapAt_out {H0 : Nat → Option AB} {k : Nat} (hk : H0 k = none) : ∀ {L : List DRec}, (∀ r ∈ L, ∀ p ∈ r.u, p.1 ≠ k) → heapAt H0 all L k = none
  | [], _ => hk
  | r :: L, h => by
    show r.at k (heapAt H0 all L k) = none
    rw [heapAt_out hk fun r' hr => h r' (List.mem_cons_of_mem _ hr)]
    unfold DRec.at
    rw [findU_none.2 fun hm => by
      obtain ⟨p, hp, e⟩ := List.mem_map.1 hm
      exact h r (List.mem_cons_self ..) p hp e]
    simp only
    split
    · split <;> rfl
    · rfl

theorem slotAt_none {T0 : Nat → Option AV} {S : Nat → Bool} (L : List DRec) (h : ∀ i, S i = false) {s : Nat} : slotAt T0 S L s = T0 s := by
  induction L with
  | nil => rfl
  | cons r L ih => simp only [slotAt, h, Bool.and_false]; exact ih
theorem heapAt_none {H0 : Nat → Option AB} {S : Nat → Bool} (L : List DRec) (h : ∀ i, S i = false) : heapAt H0 S L = H0 := by
  funext x
  induction L with
  | nil => rfl
  | cons r L ih => simp only [heapAt, h]; exact ih

theorem masks_len : ∀ (l : List Oper) (acc : List Nat), (masks l acc).length = acc.length + l.length
  | [], acc => rfl
  | o :: r, acc => by simp only [masks, masks_len r, List.length_append, List.length_cons, List.length_nil]; omega

theorem drawRun_suf {kp : KP} {kq : KX} {kh : KH} {ops : Array Oper} {σ σ' : St} (hr : drawRun P kp kq kh ops σ = some σ') : ∃ cs, σ'.cs = cs ++ σ.cs := by
  unfold drawRun at hr
  split at hr
  · split at hr
    · split at hr
      · rename_i L m os cs hd
        split at hr
        · obtain ⟨_, _, c2, e⟩ := dpass_good (P := P) _ _ _ _ _ hd (fun j o h => by
            rw [List.getElem?_take] at h
            split at h
            · simpa using h
            · cases h) trivial
          obtain ⟨c3, e3⟩ := opsRun_suf _ hr
          exact ⟨c3 ++ c2, by rw [e3]; simp only [e, List.append_assoc]⟩
        · cases hr
      · cases hr
    · cases hr
  · cases hr

theorem drawRun_sim (hm : P.follows .mixedOrders = true) {kp : KP} {kq : KX} {kh : KH} (hkp : KPok P kp) (hkq : KXok P kq) (hkh : KHok P kh) {id : Nat} {ops : Array Oper} {σ σ' : St} {X : Ctx} {a : Act} (h : Rel X σ a) (hr : drawRun P kp kq kh ops σ = some σ') (hc : ∀ c ∈ σ'.cs, c = true)
    {Q : Exit → Act → World → Prop} (hq : ∀ X' a', X.le X' → Rel X' σ' a' → Q .normal a' X'.w) : (Code.region id ops true).wp P Q a X.w := by
  unfold drawRun at hr
  split at hr
  · rename_i htg
    split at hr
    · rename_i hback
      split at hr
      · rename_i L m os cs hd
        split at hr
        · rename_i hok
          simp only [Bool.and_eq_true] at hok
          obtain ⟨hok, hub⟩ := hok
          obtain ⟨hgood, hlen, _⟩ := dpass_good (P := P) _ _ _ _ _ hd (fun j o h => by
            rw [List.getElem?_take] at h
            split at h
            · simpa using h
            · cases h) trivial
          have hml : (masks ops.toList []).length = ops.size := by rw [masks_len]; simp
          obtain ⟨_, hs2, hs3⟩ := syncFrom_spec (masks ops.toList []) 0
          have hqs : syncFrom 0 (masks ops.toList []) ≤ ops.size := by omega
          have hLq : L.length = syncFrom 0 (masks ops.toList []) := by
            rw [hlen, List.length_nil, Nat.zero_add, List.length_take]; simp only [Array.length_toList]; omega
          have hL : Listing P kq ops σ.nt (lookT σ.tm) σ.H cs L (masks ops.toList []) := by
            refine ⟨hgood, by omega, hok, masks_ok _ _ (fun j o h => by simpa using h) (fun k m hk => by simp at hk), hml⟩
          have hsync : ∀ j, L.length ≤ j → j < ops.size → (masks ops.toList [])[j]? = some (2 ^ j - 1) := fun j h1 h2 => by
            have := hs3 j (by omega) (by omega)
            rwa [Nat.zero_add] at this
          obtain ⟨c3, e3⟩ := opsRun_suf _ hr
          have hcs : ∀ c ∈ cs, c = true := fun c hcm => hc c (by rw [e3]; exact List.mem_append_right _ hcm)
          have hbk : ∀ (j : Nat) o, ops[j]? = some o → ∀ e ∈ o.after, Region.binds .any e = true → e.on < j := fun j o ho => by have := backOk_spec _ 0 hback j o (by simpa using ho); simpa using this
          have hbelow : Below X.w.heap.size X.w { X.w with drawn := X.w.drawn + 1 } := by
            refine ⟨?_, ?_, ?_, ?_, ?_⟩ <;> first | rfl | exact Nat.le_refl _ | (intros; rfl)
          refine wp_region_any hm ?_
          have hX1 := h.hrel.withW hbelow
          have hle1 := withW_le h.hrel hbelow
          have hrep : ∀ i, (Array.replicate ops.size false).getD i false = false := fun i => by
            simp only [Array.getD_eq_getD_getElem?, Array.getElem?_replicate]
            split <;> rfl
          refine hL.any hkq hcs hbk hsync ops.size _ (X.withW _) a (by simp) (fun j _ => hrep j) ?_ ?_ ⟨hX1, ?_, h.size, h.defers, ?_⟩ ?_
          · intro j o ho hj
            simp only [hrep] at hj; cases hj
          · unfold undone
            exact Nat.le_trans List.countP_le_length (by simp)
          · rw [heapAt_none _ hrep]; exact h.heap
          · intro s v hv
            rw [slotAt_none _ hrep] at hv
            exact VR.mono hle1 _ _ (h.tm s v hv)
          · intro X' a' listed' fuel' hle h' hsz' hl' hS' hu'
            have hrel1 : Rel (X'.fill (σ.hp.length + m)) { σ with tm := tmOf σ.tm L, hp := hpOf (heapAt σ.H all L) (σ.hp.length + m) 0, os, cs } a' := by
              refine ⟨h'.hrel.fill _, ?_, h'.size, h'.defers, ?_, ?_⟩
              · funext k
                simp only [Ctx.fill, St.H, hpOf_get, Nat.zero_add, h'.heap]
                split
                · rename_i b hb
                  have hk : k < σ.hp.length + m := by
                    by_cases hk : k < σ.hp.length + m
                    · exact hk
                    · have hnone : σ.H k = none := by simp only [St.H]; exact List.getElem?_eq_none (by omega)
                      have : heapAt σ.H all L k = none := heapAt_out hnone fun r hr p hp => by
                        have h1 := List.all_eq_true.1 (List.all_eq_true.1 hub r hr) p hp
                        simp only [Nat.blt_eq] at h1
                        omega
                      rw [this] at hb; cases hb
                  rw [if_pos hk, hb]; rfl
                · rename_i hb
                  rw [hb]; rfl
              · intro t v hv
                rw [tmOf_look] at hv
                exact VR.mono (fill_le _) _ _ (h'.slots t v hv)
              · intro t s w v hv
                simp only [htg] at hv
                cases hv
            exact suffix_run hkp hkh hL.mok hbk (q := L.length) hsync fuel' (syncFrom 0 (masks ops.toList [])) listed' (X'.fill (σ.hp.length + m)) a' (by omega) hqs hsz' (fun j => by rw [hl' j, hLq]) hS' hu' hrel1 hr hc
              fun X'' a'' hle' h'' => hq X'' a'' (hle1.trans (hle.trans ((fill_le _).trans hle'))) h''
        · cases hr
      · cases hr
    · cases hr
  · cases hr
end Go.Eng
