import Derived.Test.YtmbekpoelkcceaaEngS
set_option linter.unusedVariables false
namespace Go.Eng
open Go Go.RowKit
variable {P : Program}

def backOk : List Oper → Nat → Bool
  | [], _ => true
  | o :: r, j => o.after.toList.all (fun e => !Region.binds .any e || Nat.blt e.on j) && backOk r (j + 1)

theorem backOk_spec (l : List Oper) : ∀ (j : Nat), backOk l j = true → ∀ (k : Nat) o, l[k]? = some o → ∀ e ∈ o.after, Region.binds .any e = true → e.on < j + k := by
  induction l with
  | nil => intro j _ k o hk; simp at hk
  | cons o0 r ih =>
    intro j h k o hk e he hb
    simp only [backOk, Bool.and_eq_true] at h
    cases k with
    | zero =>
      simp only [List.getElem?_cons_zero, Option.some.injEq] at hk
      subst hk
      have := List.all_eq_true.1 h.1 e (by simpa using he)
      rw [hb] at this
      simpa using this
    | succ k =>
      have := ih (j + 1) h.2 k o (by simpa using hk) e he hb
      omega

def undone (n : Nat) (S : Nat → Bool) : Nat := (List.range n).countP fun i => !S i

theorem countP_less {l : List Nat} {p q : Nat → Bool} (h : ∀ x ∈ l, q x = true → p x = true) {y : Nat} (hy : y ∈ l) (hp : p y = true) (hq : q y = false) : l.countP q < l.countP p := by
  induction l with
  | nil => cases hy
  | cons x l ih =>
    have hle : ∀ (m : List Nat), (∀ x ∈ m, q x = true → p x = true) → m.countP q ≤ m.countP p := fun m hm => List.countP_mono_left hm
    simp only [List.countP_cons]
    rcases List.mem_cons.1 hy with rfl | hy
    · have := hle l fun z hz => h z (List.mem_cons_of_mem _ hz)
      simp only [hp, hq, if_true]
      have : (if (false : Bool) = true then 1 else 0) = 0 := rfl
      omega
    · have h1 := ih (fun z hz => h z (List.mem_cons_of_mem _ hz)) hy
      have h2 := h x (List.mem_cons_self ..)
      cases hqx : q x <;> cases hpx : p x <;> simp_all <;> omega

section
variable {kp : KP} {ops : Array Oper} {nt : Nat} {T0 : Nat → Option AV} {H0 : Nat → Option AB} {cs : List Bool} {L : List DRec} {ms : List Nat}

theorem Listing.any (hkp : KPok P kp) (hL : Listing P kp ops nt T0 H0 cs L ms) (hcs : ∀ c ∈ cs, c = true) (hback : ∀ (j : Nat) o, ops[j]? = some o → ∀ e ∈ o.after, Region.binds .any e = true → e.on < j)
    {Q : Exit → Act → World → Prop} : ∀ (fuel : Nat) (listed : Array Bool) (X : Ctx) (a : Act), listed.size = ops.size → Closed ops (fun i => listed.getD i false) → undone ops.size (fun i => listed.getD i false) ≤ fuel →
      DInv nt T0 H0 L (fun i => listed.getD i false) X a → (∀ X' a', X.le X' → DInv nt T0 H0 L all X' a' → Q .normal a' X'.w) → wpAny P .any ops Q fuel listed a X.w := by
  have hend : ∀ (listed : Array Bool) (X : Ctx) (a : Act), listed.size = ops.size → DInv nt T0 H0 L (fun i => listed.getD i false) X a → (∀ X' a', X.le X' → DInv nt T0 H0 L all X' a' → Q .normal a' X'.w) →
      (∀ i, i < ops.size → listed.getD i false = true) → Q .normal a X.w := by
    intro listed X a hsz h hq hall
    have e1 : slotAt T0 (fun i => listed.getD i false) L = slotAt T0 all L := funext fun s => slotAt_congr fun k r he _ => hall k (by rw [← hL.len]; exact he.lt)
    have e2 : heapAt H0 (fun i => listed.getD i false) L = heapAt H0 all L := funext fun s => heapAt_congr fun k r he _ => hall k (by rw [← hL.len]; exact he.lt)
    exact hq X a (.refl X) ⟨h.hrel, by rw [h.heap, e2], h.size, h.defers, by rw [← e1]; exact h.slots⟩
  have hready : ∀ (listed : Array Bool), listed.size = ops.size → Region.ready .any ops listed = [] → ∀ i, i < ops.size → listed.getD i false = true := by
    intro listed hsz hr i
    induction i using Nat.strongRecOn with
    | _ i ih =>
      intro hi
      cases hl : listed.getD i false with
      | true => rfl
      | false =>
        have hm : i ∈ Region.ready .any ops listed := mem_ready.2 ⟨by
          simp only [Array.getD_eq_getD_getElem?] at hl ⊢
          rw [Array.getElem?_eq_getElem (by omega)] at hl ⊢
          exact hl, ops[i], Array.getElem?_eq_getElem hi, fun e he hb => ih e.on (hback i _ (Array.getElem?_eq_getElem hi) e he hb) (by have := hback i _ (Array.getElem?_eq_getElem hi) e he hb; omega)⟩
        rw [hr] at hm; cases hm
  intro fuel
  induction fuel with
  | zero =>
    intro listed X a hsz hS hu h hq
    have hr : Region.ready .any ops listed = [] := by
      cases hrr : Region.ready .any ops listed with
      | nil => rfl
      | cons i rest =>
        have hm : i ∈ Region.ready .any ops listed := by rw [hrr]; exact List.mem_cons_self ..
        obtain ⟨h0, o, ho, _⟩ := mem_ready.1 hm
        have hi := (Array.getElem?_eq_some_iff.1 ho).1
        have : 0 < undone ops.size (fun i => listed.getD i false) := by
          refine List.countP_pos_iff.2 ⟨i, List.mem_range.2 hi, ?_⟩
          simp only [Array.getD_eq_getD_getElem?] at h0 ⊢
          rw [Array.getElem?_eq_getElem (by omega)] at h0 ⊢
          simpa using h0
        omega
    exact ⟨hr, hend listed X a hsz h hq (hready listed hsz hr)⟩
  | succ fuel ih =>
    intro listed X a hsz hS hu h hq
    refine ⟨fun hr => hend listed X a hsz h hq (hready listed hsz hr), fun i hm => ?_⟩
    obtain ⟨h0, o, ho, hall⟩ := mem_ready.1 hm
    have hi := (Array.getElem?_eq_some_iff.1 ho).1
    have hil : i < listed.size := by omega
    have hif : listed.getD i false = false := by
      simp only [Array.getD_eq_getD_getElem?] at h0 ⊢
      rw [Array.getElem?_eq_getElem hil] at h0 ⊢
      exact h0
    have hs1 : (listed.setIfInBounds i true).getD i false = true := by simp [hil]
    have hs2 : ∀ j, j ≠ i → (listed.setIfInBounds i true).getD j false = listed.getD j false := fun j hj => getD_set_ne false (Ne.symm hj)
    refine hL.step hkp hcs hS ho hif hall (S' := fun j => (listed.setIfInBounds i true).getD j false) hs1 hs2 h fun X' a' hle h' => ?_
    refine ih _ X' a' (by simp [hsz]) ?_ ?_ h' fun X'' a'' hle' h'' => hq X'' a'' (hle.trans hle') h''
    · intro j o' ho' hj e he hb
      by_cases hji : j = i
      · subst hji
        rw [ho] at ho'
        injection ho' with ho'
        subst ho'
        exact getD_set_true (hall e he hb)
      · simp only [hs2 j hji] at hj
        exact getD_set_true (hS j o' ho' hj e he hb)
    · have : undone ops.size (fun j => (listed.setIfInBounds i true).getD j false) < undone ops.size (fun j => listed.getD j false) := by
        refine countP_less (fun x _ hx => ?_) (List.mem_range.2 hi) (by simp only [hif]; rfl) (by simp only [hs1]; rfl)
        by_cases hxi : x = i
        · subst hxi
          simp only [hs1] at hx; cases hx
        · simp only [hs2 x hxi] at hx; exact hx
      omega
end

/-- Holes among the blocks' numbers are given to nothing. -/
def Ctx.fill (X : Ctx) (n : Nat) : Ctx := { X with H := fun k => match X.H k with | some b => some b | none => if k < n then some (.tok 0 0) else none }

theorem fill_some {X : Ctx} {n i : Nat} {b : AB} (h : (X.fill n).H i = some b) (hl : b.loc = true) : X.H i = some b := by
  simp only [Ctx.fill] at h
  split at h
  · rename_i hb; rw [hb]; exact h
  · split at h
    · injection h with h; subst h; cases hl
    · cases h

theorem some_fill {X : Ctx} {n i : Nat} {b : AB} (h : X.H i = some b) : (X.fill n).H i = some b := by simp only [Ctx.fill, h]

theorem fill_le {X : Ctx} (n : Nat) : X.le (X.fill n) where
  ic a y := fun ⟨h1, h2, h3, h4, h5⟩ => ⟨h1, h2, h3, fun i b hb hl => h4 i b (fill_some hb hl) hl, h5⟩
  loc i b h hm := ⟨⟨b, some_fill h, hm⟩, rfl⟩
  arr i row l h := ⟨l, some_fill h, rfl⟩
  tok i t v h := ⟨v, some_fill h, Nat.le_refl _, fun _ => ⟨rfl, fun _ _ _ h => h⟩⟩
  w0 := rfl
  lent := rfl
  oldeq := rfl

theorem HRel.fill {X : Ctx} (hX : HRel X) (n : Nat) : HRel (X.fill n) where
  inj i j b c hi hj hb hc hne := hX.inj i j b c (fill_some hi hb) (fill_some hj hc) hb hc hne
  injt := hX.injt
  injm i b j hi hb hj := hX.injm i b j (fill_some hi hb) hb hj
  place i b hi hb := hX.place i b (fill_some hi hb) hb
  placet := hX.placet
  lt i b hi hb := hX.lt i b (fill_some hi hb) hb
  ltt := hX.ltt
  tlH i hi := by
    cases h : X.H i with
    | none => exact absurd h (hX.tlH i hi)
    | some b => rw [some_fill h]; exact fun e => by cases e
  frlt := hX.frlt
  blk i b h := by
    cases hm : b.loc with
    | true => exact BRel.mono (fill_le n) rfl rfl (hX.blk i b (fill_some h hm))
    | false => cases b <;> first | trivial | cases hm
  below := hX.below
  os := hX.os
  tape := hX.tape
  output := hX.output
  size := hX.size
  old a y h := (fill_le n).ic a y (hX.old a y h)

def tmOf (tm : List (Nat × AV)) : List DRec → List (Nat × AV)
  | [] => tm
  | r :: L => match r.dst with
    | some d => (d, r.v) :: tmOf tm L
    | none => tmOf tm L

theorem tmOf_look {tm : List (Nat × AV)} {s : Nat} : ∀ {L : List DRec}, lookT (tmOf tm L) s = slotAt (lookT tm) all L s
  | [] => rfl
  | r :: L => by
    have ih := tmOf_look (tm := tm) (s := s) (L := L)
    simp only [tmOf, slotAt, DRec.writes, all, Bool.and_true]
    cases hd : r.dst with
    | none => simpa using ih
    | some d =>
      simp only [lookT]
      rw [ih]

def hpOf (H : Nat → Option AB) : Nat → Nat → List AB
  | 0, _ => []
  | n + 1, k => (match H k with | some b => b | none => .tok 0 0) :: hpOf H n (k + 1)

theorem hpOf_get {H : Nat → Option AB} : ∀ (n k i : Nat), (hpOf H n k)[i]? = if i < n then some ((H (k + i)).getD (.tok 0 0)) else none
  | 0, k, i => by simp [hpOf]
  | n + 1, k, i => by
    cases i with
    | zero =>
      simp only [hpOf, List.getElem?_cons_zero, Nat.add_zero, Nat.zero_lt_succ, if_true, Option.some.injEq]
      cases H k <;> rfl
    | succ i =>
      simp only [hpOf, List.getElem?_cons_succ, hpOf_get n (k + 1) i, Nat.add_lt_add_iff_right]
      rw [show k + 1 + i = k + (i + 1) by omega]

/-- A region that draws its order. -/
def drawRun (P : Program) (kp : KP) (ops : Array Oper) (σ : St) : Option St :=
  match σ.tg with
  | [] => if backOk ops.toList 0 then
      match dpass P kp ops σ.nt (lookT σ.tm) σ.H σ.hp.length ops.toList [] 0 σ.os σ.cs with
      | some (L, m, os, cs) => if okAll (masks ops.toList []) L && L.all (fun r => r.u.all fun p => Nat.blt p.1 (σ.hp.length + m)) then
          some { σ with tm := tmOf σ.tm L, hp := hpOf (heapAt σ.H all L) (σ.hp.length + m) 0, os, cs }
        else none
      | none => none
    else none
  | _ => none

theorem heapAt_out {H0 : Nat → Option AB} {k : Nat} (hk : H0 k = none) : ∀ {L : List DRec}, (∀ r ∈ L, ∀ p ∈ r.u, p.1 ≠ k) → heapAt H0 all L k = none
  | [], _ => hk
  | r :: L, h => by
    show r.at k (heapAt H0 all L k) = none
    rw [heapAt_out hk fun r' hr => h r' (List.mem_cons_of_mem _ hr)]
    unfold DRec.at
    rw [findU_none.2 fun hm => by
      obtain ⟨p, hp, e⟩ := List.mem_map.1 hm
      exact h r (List.mem_cons_self ..) p hp e]
    simp only
    split
    · split <;> rfl
    · rfl

theorem slotAt_none {T0 : Nat → Option AV} {S : Nat → Bool} (L : List DRec) (h : ∀ i, S i = false) {s : Nat} : slotAt T0 S L s = T0 s := by
  induction L with
  | nil => rfl
  | cons r L ih => simp only [slotAt, h, Bool.and_false]; exact ih
theorem heapAt_none {H0 : Nat → Option AB} {S : Nat → Bool} (L : List DRec) (h : ∀ i, S i = false) : heapAt H0 S L = H0 := by
  funext x
  induction L with
  | nil => rfl
  | cons r L ih => simp only [heapAt, h]; exact ih

theorem masks_len : ∀ (l : List Oper) (acc : List Nat), (masks l acc).length = acc.length + l.length
  | [], acc => rfl
  | o :: r, acc => by simp only [masks, masks_len r, List.length_append, List.length_cons, List.length_nil]; omega

theorem drawRun_suf {kp : KP} {ops : Array Oper} {σ σ' : St} (hr : drawRun P kp ops σ = some σ') : ∃ cs, σ'.cs = cs ++ σ.cs := by
  unfold drawRun at hr
  split at hr
  · split at hr
    · split at hr
      · rename_i L m os cs hd
        split at hr
        · injection hr with hr; subst hr
          obtain ⟨_, _, c2, e⟩ := dpass_good (P := P) _ _ _ _ _ hd (fun j o h => by simpa using h) trivial
          exact ⟨c2, e⟩
        · cases hr
      · cases hr
    · cases hr
  · cases hr

theorem drawRun_sim (hm : P.follows .mixedOrders = true) {kp : KP} (hkp : KPok P kp) {id : Nat} {ops : Array Oper} {σ σ' : St} {X : Ctx} {a : Act} (h : Rel X σ a) (hr : drawRun P kp ops σ = some σ') (hc : ∀ c ∈ σ'.cs, c = true)
    {Q : Exit → Act → World → Prop} (hq : ∀ X' a', X.le X' → Rel X' σ' a' → Q .normal a' X'.w) : (Code.region id ops true).wp P Q a X.w := by
  unfold drawRun at hr
  split at hr
  · rename_i htg
    split at hr
    · rename_i hback
      split at hr
      · rename_i L m os cs hd
        split at hr
        · rename_i hok
          injection hr with hr; subst hr
          simp only [Bool.and_eq_true] at hok
          obtain ⟨hok, hub⟩ := hok
          obtain ⟨hgood, hlen, _⟩ := dpass_good (P := P) _ _ _ _ _ hd (fun j o h => by simpa using h) trivial
          have hL : Listing P kp ops σ.nt (lookT σ.tm) σ.H cs L (masks ops.toList []) := by
            refine ⟨hgood, by simpa using hlen, hok, masks_ok _ _ (fun j o h => by simpa using h) (fun k m hk => by simp at hk), by rw [masks_len]; simp⟩
          have hbelow : Below X.w.heap.size X.w { X.w with drawn := X.w.drawn + 1 } := by
            refine ⟨?_, ?_, ?_, ?_, ?_⟩ <;> first | rfl | exact Nat.le_refl _ | (intros; rfl)
          refine wp_region_any hm ?_
          have hX1 := h.hrel.withW hbelow
          have hle1 := withW_le h.hrel hbelow
          have hrep : ∀ i, (Array.replicate ops.size false).getD i false = false := fun i => by
            simp only [Array.getD_eq_getD_getElem?, Array.getElem?_replicate]
            split <;> rfl
          refine hL.any hkp hc (fun j o ho => by have := backOk_spec _ 0 hback j o (by simpa using ho); simpa using this) ops.size _ (X.withW _) a (by simp) ?_ ?_ ⟨hX1, ?_, h.size, h.defers, ?_⟩ ?_
          · intro j o ho hj
            simp only [hrep] at hj; cases hj
          · unfold undone
            exact Nat.le_trans List.countP_le_length (by simp)
          · rw [heapAt_none _ hrep]; exact h.heap
          · intro s v hv
            rw [slotAt_none _ hrep] at hv
            exact VR.mono hle1 _ _ (h.tm s v hv)
          · intro X' a' hle h'
            refine hq (X'.fill (σ.hp.length + m)) a' (hle1.trans (hle.trans (fill_le _))) ⟨h'.hrel.fill _, ?_, h'.size, h'.defers, ?_, ?_⟩
            · funext k
              simp only [Ctx.fill, St.H, hpOf_get, Nat.zero_add, h'.heap]
              split
              · rename_i b hb
                have hk : k < σ.hp.length + m := by
                  by_cases hk : k < σ.hp.length + m
                  · exact hk
                  · have hnone : σ.H k = none := by simp only [St.H]; exact List.getElem?_eq_none (by omega)
                    have : heapAt σ.H all L k = none := heapAt_out hnone fun r hr p hp => by
                      have h1 := List.all_eq_true.1 (List.all_eq_true.1 hub r hr) p hp
                      simp only [Nat.blt_eq] at h1
                      omega
                    rw [this] at hb; cases hb
                rw [if_pos hk, hb]; rfl
              · rename_i hb
                rw [hb]; rfl
            · intro t v hv
              rw [tmOf_look] at hv
              exact VR.mono (fill_le _) _ _ (h'.slots t v hv)
            · intro t s w v hv
              simp only [htg] at hv
              cases hv
        · cases hr
      · cases hr
    · cases hr
  · cases hr
end Go.Eng
