import Derived.Test.YtolhkkoakneflaaEngR
set_option linter.unusedVariables false
namespace Go.Eng
open Go Go.RowKit
variable {P : Program}

theorem Ent.unique {L : List DRec} {k : Nat} {r r' : DRec} (h : Ent L k r) (h' : Ent L k r') : r = r' := by
  induction h with
  | here r L =>
    rcases h'.inv with ⟨_, e⟩ | h'
    · exact e.symm
    · exact absurd h'.lt (Nat.lt_irrefl _)
  | next h ih =>
    rcases h'.inv with ⟨e, _⟩ | h'
    · exact absurd h.lt (by omega)
    · exact ih h'

theorem Ent.ex : ∀ {L : List DRec} {k : Nat}, k < L.length → ∃ r, Ent L k r
  | r :: L, k, h => by
    by_cases e : k = L.length
    · rw [e]; exact ⟨r, .here r L⟩
    · obtain ⟨r', h'⟩ := Ent.ex (L := L) (k := k) (by simp at h; omega)
      exact ⟨r', .next h'⟩

structure DInv (nt : Nat) (T0 : Nat → Option AV) (H0 : Nat → Option AB) (L : List DRec) (S : Nat → Bool) (X : Ctx) (a : Act) : Prop where
  hrel : HRel X
  heap : X.H = heapAt H0 S L
  size : a.tmps.size = nt
  defers : a.defers = []
  slots : ∀ s v, slotAt T0 S L s = some v → VR X v (a.tmps.getD s undef)

structure Listing (P : Program) (kp : KX) (ops : Array Oper) (nt : Nat) (T0 : Nat → Option AV) (H0 : Nat → Option AB) (cs : List Bool) (L : List DRec) (ms : List Nat) : Prop where
  good : Good P kp ops nt T0 H0 cs L
  len : L.length ≤ ops.size
  ok : okAll ms L = true
  mok : MOk ops ms
  mlen : ms.length = ops.size

section
variable {kp : KX} {ops : Array Oper} {nt : Nat} {T0 : Nat → Option AV} {H0 : Nat → Option AB} {cs : List Bool} {L : List DRec} {ms : List Nat}

theorem Listing.must (hL : Listing P kp ops nt T0 H0 cs L ms) {S : Nat → Bool} (hS : Closed ops S) {k k' : Nat} {r r' : DRec} (he : Ent L k r) (he' : Ent L k' r') (hlt : k < k') (hm : r.meets r' = true)
    (hk : ∀ (o : Oper), ops[k']? = some o → ∀ e ∈ o.after, Region.binds .any e = true → S e.on = true) : S k = true := by
  have hb := okAll_spec L hL.ok he he' hlt hm
  have hl : k' < ms.length := by rw [hL.mlen]; exact Nat.lt_of_lt_of_le he'.lt hL.len
  have hg : ms[k']? = some (ms.getD k' 0) := by
    rw [List.getD_eq_getElem?_getD, List.getElem?_eq_getElem hl]; rfl
  exact hL.mok k' _ hg S hS hk k hb

theorem meets_of {r r' : DRec} (h : Apart r r' → False) : r.meets r' = true := by
  cases hm : r.meets r' with
  | true => rfl
  | false => exact (h (meets_spec hm)).elim

/-- An operation that meets one whose turn it is has been done just where it stands ahead in the text. -/
theorem Listing.same (hL : Listing P kp ops nt T0 H0 cs L ms) {S : Nat → Bool} (hS : Closed ops S) {A B : List DRec} {r : DRec} (e : L = A ++ r :: B) (hi : S B.length = false)
    (hr : ∀ (o : Oper), ops[B.length]? = some o → ∀ e ∈ o.after, Region.binds .any e = true → S e.on = true) {j : Nat} {r' : DRec} (he : Ent L j r') (h1 : Apart r' r → False) (h2 : Apart r r' → False) : S j = Nat.blt j B.length := by
  have hent : Ent L B.length r := by rw [e]; exact Ent.of_split
  rcases Nat.lt_trichotomy j B.length with hj | hj | hj
  · rw [hL.must hS he hent hj (meets_of h1) hr]
    have : Nat.blt j B.length = true := by simpa using hj
    exact this.symm
  · rw [hj, hi]
    cases hb : Nat.blt B.length B.length with
    | false => rfl
    | true => simp only [Nat.blt_eq] at hb; omega
  · have hb : Nat.blt j B.length = false := by
      cases hb : Nat.blt j B.length with
      | false => rfl
      | true => simp only [Nat.blt_eq] at hb; omega
    rw [hb]
    cases hSk : S j with
    | false => rfl
    | true =>
      have := hL.must hS hent he hj (meets_of h2) (fun o ho => hS j o ho hSk)
      rw [this] at hi; cases hi

/-- Before its turn, an operation finds what the text's order would show it. -/
theorem Listing.slot (hL : Listing P kp ops nt T0 H0 cs L ms) {S : Nat → Bool} (hS : Closed ops S) {A B : List DRec} {r : DRec} (e : L = A ++ r :: B) (hi : S B.length = false)
    (hr : ∀ (o : Oper), ops[B.length]? = some o → ∀ e ∈ o.after, Region.binds .any e = true → S e.on = true) {s : Nat} (hs : s ∈ r.rs) : slotAt T0 S L s = slotAt T0 all B s := by
  rw [slotAt_congr (S' := fun j => Nat.blt j B.length) fun j r' he hd => hL.same hS e hi hr he (fun ap => (ap.dst s hd).2 hs) (fun ap => (ap.dst' s hd) hs)]
  rw [e, show A ++ r :: B = (A ++ [r]) ++ B by simp]
  exact slotAt_first

theorem Listing.block (hL : Listing P kp ops nt T0 H0 cs L ms) {S : Nat → Bool} (hS : Closed ops S) {A B : List DRec} {r : DRec} (e : L = A ++ r :: B) (hi : S B.length = false)
    (hr : ∀ (o : Oper), ops[B.length]? = some o → ∀ e ∈ o.after, Region.binds .any e = true → S e.on = true) {k : Nat} (hk : k ∈ r.rh ∨ k ∈ r.keys) : heapAt H0 S L k = heapAt H0 all B k := by
  have hids : k ∈ r.ids := hk.elim mem_ids_rh mem_ids_key
  rw [heapAt_congr (S' := fun j => Nat.blt j B.length) fun j r' he hd => hL.same hS e hi hr he (fun ap => ?_) (fun ap => ?_)]
  · rw [e, show A ++ r :: B = (A ++ [r]) ++ B by simp]
    exact heapAt_first
  · rcases hd with hd | ⟨lo, vs, hp⟩
    · exact ap.key k (List.mem_cons_of_mem _ hd) hids
    · rcases hk with hk | hk
      · exact touches_rh (ap.p k lo vs hp) hk
      · exact ap.key' k hk (mem_ids_p hp)
  · rcases hd with hd | ⟨lo, vs, hp⟩
    · exact ap.key' k (List.mem_cons_of_mem _ hd) hids
    · rcases hk with hk | hk
      · exact touches_rh (ap.p' k lo vs hp) hk
      · exact ap.key k hk (mem_ids_p hp)

theorem Listing.piece (hL : Listing P kp ops nt T0 H0 cs L ms) {S : Nat → Bool} (hS : Closed ops S) {A B : List DRec} {r : DRec} (e : L = A ++ r :: B) (hi : S B.length = false)
    (hr : ∀ (o : Oper), ops[B.length]? = some o → ∀ e ∈ o.after, Region.binds .any e = true → S e.on = true) {k lo n : Nat} (hk : (k, lo, n) ∈ r.rp) : Agree lo n (heapAt H0 S L k) (heapAt H0 all B k) := by
  have h1 : Agree lo n (heapAt H0 S L k) (heapAt H0 (fun j => Nat.blt j B.length) L k) := heapAt_agree fun j r' he hd => hL.same hS e hi hr he (fun ap => by
    rcases hd with hd | ⟨l, vs, hp, ho⟩
    · exact ap.key k (List.mem_cons_of_mem _ hd) (mem_ids_rp hk)
    · exact touches_rp (ap.p k l vs hp) hk ⟨by omega, by omega⟩) (fun ap => by
    rcases hd with hd | ⟨l, vs, hp, ho⟩
    · exact ap.key' k (List.mem_cons_of_mem _ hd) (mem_ids_rp hk)
    · exact touches_rp (ap.p' k l vs hp) hk ⟨by omega, by omega⟩)
  rw [show heapAt H0 (fun j => Nat.blt j B.length) L k = heapAt H0 all B k by
    rw [e, show A ++ r :: B = (A ++ [r]) ++ B by simp]
    exact heapAt_first] at h1
  exact h1

/-- One operation more is done. -/
theorem DInv.next (hL : Listing P kp ops nt T0 H0 cs L ms) {S S' : Nat → Bool} (hS : Closed ops S) {A B : List DRec} {r : DRec} (e : L = A ++ r :: B) (hi : S B.length = false)
    (hS1 : S' B.length = true) (hS2 : ∀ j, j ≠ B.length → S' j = S j) {X X' : Ctx} {a : Act} (h : DInv nt T0 H0 L S X a) (hle : X.le X') (hX : HRel X') (hH : X'.H = fun x => r.at x (X.H x)) (hfit : fits r.dst nt = true)
    {val : Value} (hv : VR X' r.v val) : DInv nt T0 H0 L S' X' (a.put r.dst val) := by
  have hent : Ent L B.length r := by rw [e]; exact Ent.of_split
  have hap : ∀ j a, Ent L j a → B.length < j → S j = true → Apart r a := fun j a he hj hs => by
    cases hm : r.meets a with
    | false => exact meets_spec hm
    | true =>
      have := hL.must hS hent he hj hm (fun o ho => hS j o ho hs)
      rw [this] at hi; cases hi
  refine ⟨hX, ?_, ?_, ?_, ?_⟩
  · rw [hH]
    funext x
    rw [h.heap, e]
    exact (heapAt_next hS1 hi hS2 fun j a he hj hs => hap j a (by rw [e]; exact he) hj hs).symm
  · cases hd : r.dst <;> simp [Act.put, h.size]
  · cases hd : r.dst <;> simp [Act.put, h.defers]
  · intro s v hs
    by_cases hw : r.dst = some s
    · have hlate : ∀ {A' : List DRec}, (∀ j a, Ent (A' ++ r :: B) j a → B.length < j → a.dst = some s → S' j = false) → slotAt T0 S' (A' ++ r :: B) s = some r.v := by
        intro A'
        induction A' with
        | nil => intro _; simp only [List.nil_append, slotAt, writes_iff.2 hw, hS1, Bool.and_self, if_true]
        | cons a' A' ih =>
          intro hh
          have ih' := ih fun j a he hj hd => hh j a (.next he) hj hd
          simp only [List.cons_append, slotAt]
          cases hwa : a'.writes s with
          | false => simpa using ih'
          | true =>
            rw [hh _ a' (.here a' (A' ++ r :: B)) (by simp only [List.length_append, List.length_cons]; omega) (writes_iff.1 hwa)]
            simpa using ih'
      rw [e, hlate fun j a he hj hd => by
        rw [hS2 j (by omega)]
        cases hSk : S j with
        | false => rfl
        | true => exact absurd hd ((hap j a (by rw [e]; exact he) hj hSk).dst s hw).1] at hs
      injection hs with hs
      subst hs
      rw [hw] at hfit ⊢
      have hlt : s < a.tmps.size := by rw [h.size]; simpa [fits] using hfit
      rw [getD_put a s val s hlt, if_pos rfl]
      exact hv
    · have : slotAt T0 S' L s = slotAt T0 S L s := slotAt_congr fun j r' he hd => hS2 j fun ej => by
        rw [ej] at he
        rw [he.unique hent] at hd
        exact hw hd
      rw [this] at hs
      have hvs := VR.mono hle _ _ (h.slots s v hs)
      cases hd : r.dst with
      | none => exact hvs
      | some d =>
        rw [hd] at hfit hw
        have hlt : d < a.tmps.size := by rw [h.size]; simpa [fits] using hfit
        rw [getD_put a d val s hlt, if_neg (fun e => hw (by rw [e]))]
        exact hvs

theorem aload_agree {H H' : Nat → Option AB} {t : TypeId} {i off n : Nat} {ag : Bool} {v : AV} (ht : ty P t = some (ag, n)) (ha : Agree off n (H i) (H' i)) (h : aload P t H' (.one (.ptr i off)) = some v) :
    aload P t H (.one (.ptr i off)) = some v := by
  rcases ha with he | ⟨cs, cs', h1, h2, hl, hg⟩
  · unfold aload at h ⊢
    rw [ht] at h ⊢
    simp only at h ⊢
    rw [he]; exact h
  · unfold aload at h ⊢
    rw [ht] at h ⊢
    simp only [h1, h2] at h ⊢
    have : (cs.drop off).take n = (cs'.drop off).take n := by
      apply List.ext_getElem?
      intro q
      by_cases hq : q < n
      · rw [List.getElem?_take_of_lt hq, List.getElem?_take_of_lt hq, List.getElem?_drop, List.getElem?_drop]
        exact hg _ (by omega) (by omega)
      · rw [List.getElem?_take_eq_none (by omega), List.getElem?_take_eq_none (by omega)]
    rw [this]; exact h

theorem slotsOf_mem {l : List Operand} {t : Nat} (h : Operand.tmp t ∈ l) : t ∈ slotsOf l := List.mem_filterMap.2 ⟨_, h, rfl⟩

theorem only_some {α : Type} {l : List Nat} {T : Nat → Option α} {k : Nat} {x : α} (h : only l T k = some x) : k ∈ l ∧ T k = some x := by
  unfold only at h
  split at h
  · rename_i hk
    exact ⟨isIn_iff.1 hk, h⟩
  · cases h

/-- The three makes of a row. -/
theorem recOf_some {o : Oper} {ss : List Nat} {T : Nat → Option AV} {H : Nat → Option AB} {nid : Nat} {os : List Bool} {r : DRec} {cs' os' : List Bool} (hd : recOf P kp o ss T H nid os = some (r, cs', os')) :
    (∃ v u rh, dval P kp o (evT (only ss T)) (only rh H) nid os = some (v, u, cs', os') ∧ r = { dst := o.dst, v, rs := ss, rh, rp := [], nid, u, p := none }) ∨
    (∃ t a i off ag n v, o.op = .load t a ∧ evT (only ss T) a = some (.one (.ptr i off)) ∧ ty P t = some (ag, n) ∧ aload P t H (.one (.ptr i off)) = some v ∧ r = { dst := o.dst, v, rs := ss, rh := [], rp := [(i, off, n)], nid, u := [], p := none }) ∨
    (∃ t a x i off ag n xv vs cs, o.op = .store t a x ∧ evT (only ss T) a = some (.one (.ptr i off)) ∧ evT (only ss T) x = some xv ∧ ty P t = some (ag, n) ∧ xv.cs = some vs ∧ H i = some (.cells cs) ∧ vs.length = n ∧ off + n ≤ cs.length ∧
      r = { dst := o.dst, v := .one .unk, rs := ss, rh := [], rp := [(i, 0, 0)], nid, u := [], p := some (i, off, vs) }) := by
  have gen : recGen P kp o ss T H nid os = some (r, cs', os') → ∃ v u rh, dval P kp o (evT (only ss T)) (only rh H) nid os = some (v, u, cs', os') ∧ r = { dst := o.dst, v, rs := ss, rh, rp := [], nid, u, p := none } := by
    intro hd
    unfold recGen at hd
    split at hd
    · rename_i v u cs r1 hdv
      simp only [Option.some.injEq, Prod.mk.injEq] at hd
      obtain ⟨rfl, rfl, rfl⟩ := hd
      exact ⟨v, u, _, hdv, rfl⟩
    · cases hd
  unfold recOf at hd
  split at hd
  · rename_i t a ho
    split at hd
    · rename_i i off hev
      split at hd
      · rename_i ag n v ht hv
        simp only [Option.some.injEq, Prod.mk.injEq] at hd
        exact .inr (.inl ⟨t, a, i, off, ag, n, v, ho, hev, ht, hv, hd.1.symm⟩)
      · cases hd
    · exact .inl (gen hd)
  · rename_i t a x ho
    split at hd
    · rename_i i off xv hev hx
      split at hd
      · rename_i ag n vs cs ht hvs hH
        split at hd
        · rename_i hc
          simp only [Bool.and_eq_true, beq_iff_eq, Nat.ble_eq] at hc
          simp only [Option.some.injEq, Prod.mk.injEq] at hd
          exact .inr (.inr ⟨t, a, x, i, off, ag, n, xv, vs, cs, ho, hev, hx, ht, hvs, hH, hc.1, hc.2, hd.1.symm⟩)
        · cases hd
      · cases hd
    · exact .inl (gen hd)
  · exact .inl (gen hd)

theorem recOf_nid {o : Oper} {ss : List Nat} {T : Nat → Option AV} {H : Nat → Option AB} {nid : Nat} {os : List Bool} {r : DRec} {cs' os' : List Bool} (hd : recOf P kp o ss T H nid os = some (r, cs', os')) : r.nid = nid ∧ r.dst = o.dst ∧ r.rs = ss := by
  rcases recOf_some hd with ⟨v, u, rh, _, e⟩ | ⟨t, a, i, off, ag, n, v, _, _, _, _, e⟩ | ⟨t, a, x, i, off, ag, n, xv, vs, cs, _, _, _, _, _, _, _, _, e⟩ <;> rw [e] <;> exact ⟨rfl, rfl, rfl⟩

theorem drec_nid {o : Oper} {T : Nat → Option AV} {H : Nat → Option AB} {nid : Nat} {os : List Bool} {r : DRec} {cs' os' : List Bool} (hd : drec P kp ops o nt T H nid os = some (r, cs', os')) : r.nid = nid := by
  unfold drec at hd
  split at hd
  · split at hd
    · exact (recOf_nid hd).1
    · split at hd
      · cases hd
      · split at hd
        · split at hd
          split at hd
          · split at hd
            · rename_i hrec
              simp only [Option.some.injEq, Prod.mk.injEq] at hd
              rw [← hd.1]
              exact (recOf_nid hrec).1
            · cases hd
          · simp only [Option.some.injEq, Prod.mk.injEq] at hd
            rw [← hd.1]
        · simp only [Option.some.injEq, Prod.mk.injEq] at hd
          rw [← hd.1]
        · cases hd
  · cases hd

/-- An operation at its turn. -/
theorem Listing.step (hkp : KXok P kp) (hL : Listing P kp ops nt T0 H0 cs L ms) (hcs : ∀ c ∈ cs, c = true) {S S' : Nat → Bool} (hS : Closed ops S) {i : Nat} {o : Oper} (hlt : i < L.length) (ho : ops[i]? = some o) (hi : S i = false)
    (hr : ∀ e ∈ o.after, Region.binds .any e = true → S e.on = true) (hS1 : S' i = true) (hS2 : ∀ j, j ≠ i → S' j = S j) {X : Ctx} {a : Act} (h : DInv nt T0 H0 L S X a)
    {Q : Exit → Act → World → Prop} {K : Act → World → Prop} (hK : ∀ X' a', X.le X' → DInv nt T0 H0 L S' X' a' → K a' X'.w) : wpOp P ops Q i K a X.w := by
  obtain ⟨r, hent⟩ := Ent.ex hlt
  obtain ⟨A, B, e, eb⟩ := hent.split
  subst eb
  have hr' : ∀ (o : Oper), ops[B.length]? = some o → ∀ e ∈ o.after, Region.binds .any e = true → S e.on = true := fun o' ho' => by
    rw [ho] at ho'
    injection ho' with ho'
    rw [← ho']; exact hr
  have hg := hL.good
  rw [e] at hg
  obtain ⟨_, o', nid, os, cs', os', ho', hd, hnid, hcc⟩ := hg.ent
  rw [ho] at ho'
  injection ho' with ho'
  subst ho'
  have hcs' : ∀ c ∈ cs', c = true := fun c hc => hcs c (hcc c hc)
  have hnn : r.nid = nid := drec_nid hd
  have hslot : ∀ s ∈ r.rs, ∀ v, slotAt T0 all B s = some v → VR X v (a.tmps.getD s undef) := fun s hs v hv => h.slots s v (by rw [hL.slot hS e hi hr' hs]; exact hv)
  have hblock : ∀ k, k ∈ r.rh ∨ k ∈ r.keys → X.H k = heapAt H0 all B k := fun k hk => by rw [h.heap]; exact hL.block hS e hi hr' hk
  have hn : X.H r.nid = none := by rw [hblock r.nid (.inr (List.mem_cons_self ..)), hnn]; exact hnid
  have hpiece : ∀ k lo n, (k, lo, n) ∈ r.rp → Agree lo n (X.H k) (heapAt H0 all B k) := fun k lo n hk => by rw [h.heap]; exact hL.piece hS e hi hr' hk
  have hrun : ∀ {ss : List Nat} {os cs1 os1}, (∀ t, Operand.tmp t ∈ o.op.operands.toList → t ∈ ss) → fits o.dst nt = true → (∀ c ∈ cs1, c = true) →
      recOf P kp o ss (slotAt T0 all B) (heapAt H0 all B) nid os = some (r, cs1, os1) → o.wp P a X.w K Q := by
    intro ss os cs1 os1 h1 hfit hc1 hrec
    obtain ⟨_, hdst, hrs⟩ := recOf_nid hrec
    have hρ : RhoOk X (evT (only ss (slotAt T0 all B))) a o := by
      intro x hx v' hv'
      cases x with
      | tmp t =>
        obtain ⟨q1, q2⟩ := only_some hv'
        exact hslot t (by rw [hrs]; exact q1) v' q2
      | const c => exact cvv_rel X hv'
      | global g => cases hv'
      | func f =>
        simp only [evT, Option.some.injEq] at hv'
        subst hv'
        exact ⟨#[], rfl, rfl, fun j p hj => by simp at hj⟩
    have fin : ∀ {v : AV} {H' : Nat → Option AB}, OpSim P o a X v H' → r.v = v → (H' = fun x => r.at x (X.H x)) → o.wp P a X.w K Q := by
      intro v H' hsim hv hH
      refine hsim K Q fun val X' g1 g2 g3 g4 => ?_
      rw [← hdst]
      exact hK X' _ g1 (h.next hL hS e hi hS1 hS2 g1 g2 (g3.trans hH) (by rw [hdst]; exact hfit) (by rw [hv]; exact g4))
    have hn' : X.H nid = none := by rw [← hnn]; exact hn
    rcases recOf_some hrec with ⟨v, u, rh, hdv, er⟩ | ⟨t, p, i, off, ag, n, v, ho', hev, ht, hv, er⟩ | ⟨t, p, x, i, off, ag, n, xv, vs, cells, ho', hev, hx, ht, hvs, hH, hlen, hle, er⟩
    · have hle : HLe (only rh (heapAt H0 all B)) X.H := fun k b hk => by
        obtain ⟨q1, q2⟩ := only_some hk
        rw [hblock k (.inl (by rw [er]; exact q1))]; exact q2
      refine fin (dval_sim hkp h.hrel hn' hρ (dval_mono hle hkp hdv) hc1) (by rw [er]) ?_
      funext x
      rw [ups_find, er]
      rfl
    · have hv' : aload P t X.H (.one (.ptr i off)) = some v := aload_agree ht (hpiece i off n (by rw [er]; exact List.mem_cons_self ..)) hv
      have haop : aop P o (evT (only ss (slotAt T0 all B))) X.H nid [] = some (v, [], [], []) := by
        unfold aop
        rw [ho']
        simp only [hev, Option.bind_some, hv', plain, Option.map_some]
      refine fin (aop_sim h.hrel hn' hρ haop (fun c hc => by cases hc)) (by rw [er]) ?_
      funext x
      rw [er]
      rfl
    · have hcells : ∃ cs', X.H i = some (.cells cs') ∧ cs'.length = cells.length := by
        rcases hpiece i 0 0 (by rw [er]; exact List.mem_cons_self ..) with hh | ⟨c1, c2, g1, g2, g3, _⟩
        · exact ⟨cells, by rw [hh, hH], rfl⟩
        · rw [hH] at g2
          simp only [Option.some.injEq, AB.cells.injEq] at g2
          exact ⟨c1, g1, by rw [g3, ← g2]⟩
      obtain ⟨cs', hX', hl'⟩ := hcells
      have haop : aop P o (evT (only ss (slotAt T0 all B))) X.H nid [] = some (.one .unk, [(i, .cells (cs'.take off ++ (vs ++ cs'.drop (off + n))))], [], []) := by
        unfold aop
        rw [ho']
        simp only [hev, hx, astore, ht, hvs, hX']
        rw [if_pos (by simp only [Bool.and_eq_true, beq_iff_eq, Nat.ble_eq]; omega)]
        rfl
      refine fin (aop_sim h.hrel hn' hρ haop (fun c hc => by cases hc)) (by rw [er]) ?_
      funext x
      rw [ups_find, er]
      simp only [DRec.at, findU]
      by_cases ex : i = x
      · subst ex
        simp only [Nat.beq_refl, if_true, hX', patchC]
        rw [if_pos (by omega), hlen]
      · simp only [Nat.beq_eq, if_neg ex]
  have hskip : r.v = .tup [] → r.u = [] → r.p = none → r.dst = o.dst → fits o.dst nt = true → K (a.put o.dst undef) X.w := fun hv hu hp0 hdst hfit => by
    rw [← hdst]
    exact hK X _ (.refl X) (h.next hL hS e hi hS1 hS2 (.refl X) h.hrel (by funext x; simp only [DRec.at, hu, hp0, findU]) (by rw [hdst]; exact hfit) (by rw [hv]; exact VR_undef X))
  unfold wpOp
  simp only [ho]
  unfold drec at hd
  split at hd
  · rename_i hfit
    split at hd
    · rename_i hgd
      rw [if_pos (wanted_none hgd _)]
      exact .inl (hrun (fun t ht => slotsOf_mem ht) hfit hcs' hd)
    · rename_i j want hgd
      split at hd
      · cases hd
      · rename_i s hs
        split at hd
        · rename_i b hb
          split at hd
          rename_i t cs0 r0 hbr
          split at hd
          · rename_i ht
            split at hd
            · rename_i d cs1 r1 hrec
              simp only [Option.some.injEq, Prod.mk.injEq] at hd
              obtain ⟨rfl, rfl, rfl⟩ := hd
              have hbv : a.tmps.getD s undef = .bool b := hslot s (by rw [(recOf_nid hrec).2.2]; exact List.mem_cons_self ..) _ hb
              have htb := br_eq (b := b) (os := os) (by rw [hbr]; exact fun c hc => hcs' c (List.mem_append_right _ hc))
              rw [hbr] at htb
              simp only at htb
              rw [if_pos ((wanted_iff hgd hs).2 (by rw [hbv, ← htb]; simp only [beq_iff_eq] at ht; rw [ht]))]
              exact .inl (hrun (fun t ht => List.mem_cons_of_mem _ (slotsOf_mem ht)) hfit (fun c hc => hcs' c (List.mem_append_left _ hc)) hrec)
            · cases hd
          · rename_i ht
            simp only [Option.some.injEq, Prod.mk.injEq] at hd
            obtain ⟨rfl, rfl, rfl⟩ := hd
            have hbv : a.tmps.getD s undef = .bool b := hslot s (List.mem_cons_self ..) _ hb
            have htb := br_eq (b := b) (os := os) (by rw [hbr]; exact hcs')
            rw [hbr] at htb
            simp only at htb
            have hnw : ¬ Region.wanted o (yielded ops a.tmps) = true := fun hw => by
              have := (wanted_iff hgd hs).1 hw
              rw [hbv, ← htb] at this
              simp only [Value.bool.injEq] at this
              exact ht (by simp [this])
            rw [if_neg hnw]
            exact hskip rfl rfl rfl rfl hfit
        · rename_i hb
          simp only [Option.some.injEq, Prod.mk.injEq] at hd
          obtain ⟨rfl, rfl, rfl⟩ := hd
          have hbv : a.tmps.getD s undef = undef := undef_of_VR (hslot s (List.mem_cons_self ..) _ hb)
          have hnw : ¬ Region.wanted o (yielded ops a.tmps) = true := fun hw => by
            have := (wanted_iff hgd hs).1 hw
            rw [hbv] at this
            exact undef_ne _ this
          rw [if_neg hnw]
          exact hskip rfl rfl rfl rfl hfit
        · cases hd
  · cases hd
end
end Go.Eng
