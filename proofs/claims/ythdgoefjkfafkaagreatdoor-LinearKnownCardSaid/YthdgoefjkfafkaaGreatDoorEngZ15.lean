import Derived.Test.YthdgoefjkfafkaaGreatDoorEngZ11
set_option linter.unusedVariables false
namespace Go.Eng
open Go Go.RowKit
variable {P : Program}

/-! ### An own array that a call made, and that it hands out, is promised from then on

At a call's end own arrays behind place `m` are let go: what named them names a promised slice. -/

def iceC (H : Nat → Option AB) (m : Nat) : AC → Option AC
  | .bsl row i off len mn => if i < m then some (.bsl row i off len mn) else (aslRows H row i off len).map fun l => .sl row l .shared
  | .asl row i off len cap => if i < m then some (.asl row i off len cap) else (aslRows H row i off len).map fun l => .sl row l .shared
  | c => if (idsC c).all (fun i => Nat.blt i m) then some c else none
def iceCs (H : Nat → Option AB) (m : Nat) : List AC → Option (List AC)
  | [] => some []
  | c :: cs => match iceC H m c, iceCs H m cs with
    | some d, some ds => some (d :: ds)
    | _, _ => none
def iceB (H : Nat → Option AB) (m : Nat) : AB → Option AB
  | .cells cs => (iceCs H m cs).map .cells
  | .tok _ _ => none
  | .dead => none
  | .bld _ _ => none
  | .buf _ _ => none
  | .roc _ _ => none
  | .rom _ _ _ _ _ _ => none
  | b => if (idsB b).all (fun i => Nat.blt i m) then some b else none
def iceBs (H : Nat → Option AB) (m : Nat) : List AB → Option (List AB)
  | [] => some []
  | c :: cs => match iceB H m c, iceBs H m cs with
    | some d, some ds => some (d :: ds)
    | _, _ => none
def iceV (H : Nat → Option AB) (m : Nat) : AV → Option AV
  | .one c => (iceC H m c).map .one
  | .agg cs => (iceCs H m cs).map .agg
  | v => if (idsV v).all (fun i => Nat.blt i m) then some v else none

theorem iceB_loc {H : Nat → Option AB} {m : Nat} {b b' : AB} (h : iceB H m b = some b') : b'.wr = true ∧ ∀ row l, b = .arr row l → b' = .arr row l := by
  cases b with
  | cells cs =>
    simp only [iceB, Option.map_eq_some_iff] at h
    obtain ⟨_, _, rfl⟩ := h
    exact ⟨rfl, fun _ _ e => by cases e⟩
  | tok _ _ => cases h
  | dead => cases h
  | bld _ _ => cases h
  | buf _ _ => cases h
  | roc _ _ => cases h
  | rom _ _ _ _ _ _ => cases h
  | arr row l =>
    simp only [iceB] at h
    split at h
    · injection h with h; subst h; exact ⟨rfl, fun _ _ e => e⟩
    · cases h
  | obj o =>
    simp only [iceB] at h
    split at h
    · injection h with h; subst h; exact ⟨rfl, fun _ _ e => e⟩
    · cases h
  | iter _ _ _ =>
    simp only [iceB] at h
    split at h
    · injection h with h; subst h; exact ⟨rfl, fun _ _ e => e⟩
    · cases h
  | mp _ _ _ _ _ =>
    simp only [iceB] at h
    split at h
    · injection h with h; subst h; exact ⟨rfl, fun _ _ e => e⟩
    · cases h

theorem iceBs_get {H : Nat → Option AB} {m : Nat} : ∀ {hp hq : List AB}, iceBs H m hp = some hq → hq.length = hp.length ∧ ∀ (i : Nat) b, hp[i]? = some b → ∃ b', hq[i]? = some b' ∧ iceB H m b = some b'
  | [], hq, h => by simp only [iceBs, Option.some.injEq] at h; subst h; exact ⟨rfl, fun i b hb => by simp at hb⟩
  | b :: hp, hq, h => by
    simp only [iceBs] at h
    split at h
    · rename_i d ds h1 h2
      injection h with h; subst h
      obtain ⟨g1, g2⟩ := iceBs_get h2
      refine ⟨by simp [g1], fun i c hc => ?_⟩
      cases i with
      | zero => simp only [List.getElem?_cons_zero, Option.some.injEq] at hc; subst hc; exact ⟨d, rfl, h1⟩
      | succ i => simpa using g2 i c (by simpa using hc)
    · cases h

def iceX (Y : Ctx) (hq : List AB) : Ctx := { Y with H := fun i => hq[i]?, fr := fun _ => none, tl := fun _ => False }

section
variable {X Y : Ctx} {m : Nat} {hp' hq : List AB}

/-- What is known at the call's end. -/
structure Iced (X Y : Ctx) (m : Nat) (hp' hq : List AB) : Prop where
  hX0 : X.w0 = X.w
  hm : ∀ i, m ≤ i → X.H i = none
  ntok : ∀ i t v, X.H i ≠ some (.tok t v)
  lent : ∀ b, X.lent b → ∃ i c, X.H i = some c ∧ c.loc = true ∧ X.φ i = b
  le : X.le Y
  hY : HRel Y
  hYH : Y.H = fun i => hp'[i]?
  loc : (hp'.take m).all AB.wr = true
  ice : iceBs (fun i => hp'[i]?) m (hp'.take m) = some hq

theorem Iced.locY (h : Iced X Y m hp' hq) {i : Nat} {b : AB} (hi : i < m) (hb : Y.H i = some b) : b.wr = true := by
  rw [h.hYH] at hb
  exact List.all_eq_true.1 h.loc b (List.mem_of_getElem? (by rw [List.getElem?_take, if_pos hi]; exact hb))
theorem Iced.to (h : Iced X Y m hp' hq) {i : Nat} {b : AB} (hi : i < m) (hb : Y.H i = some b) : ∃ b', (iceX Y hq).H i = some b' ∧ iceB Y.H m b = some b' := by
  rw [h.hYH] at hb ⊢
  exact (iceBs_get h.ice).2 i b (by rw [List.getElem?_take, if_pos hi]; exact hb)
theorem Iced.of (h : Iced X Y m hp' hq) {i : Nat} {b : AB} (hb : (iceX Y hq).H i = some b) : i < m ∧ ∃ b0, Y.H i = some b0 ∧ iceB Y.H m b0 = some b ∧ b0.wr = true ∧ b.wr = true := by
  have hb' : hq[i]? = some b := hb
  obtain ⟨g1, g2⟩ := iceBs_get h.ice
  have hi : i < hq.length := (List.getElem?_eq_some_iff.1 hb').1
  rw [g1, List.length_take] at hi
  have hp : (hp'.take m)[i]? = some hp'[i] := by rw [List.getElem?_take, if_pos (by omega)]; exact List.getElem?_eq_getElem (by omega)
  obtain ⟨b', k1, k2⟩ := g2 i _ hp
  rw [hb'] at k1
  injection k1 with k1; subst k1
  have hYi : Y.H i = some hp'[i] := by rw [h.hYH]; exact List.getElem?_eq_getElem (by omega)
  exact ⟨by omega, _, hYi, by rw [h.hYH]; exact k2, h.locY (by omega) hYi, (iceB_loc k2).1⟩
theorem Iced.IC (h : Iced X Y m hp' hq) {a : Addr} {y : Value} (ha : Y.IC a y) : (iceX Y hq).IC a y :=
  ⟨ha.1, ha.2.1, ha.2.2.1, fun i b hb hl => by
    obtain ⟨_, b0, h1, _, h3, _⟩ := h.of hb
    exact ha.2.2.2.1 i b0 h1 h3, (fun e he => by cases he), ha.2.2.2.2.2⟩
theorem Iced.cutle (h : Iced X Y m hp' hq) : (Y.cut m).le (iceX Y hq) := by
  refine ⟨fun a y ha => ?_, fun i b hb hl => ?_, fun i row l hb => ?_, fun i hb => ?_, fun _ _ _ _ => rfl, fun i t v hb => ?_, rfl, rfl, rfl, Nat.le_refl _⟩
  · exact ⟨ha.1, ha.2.1, ha.2.2.1, fun i b hb hl => by
      obtain ⟨hi, b0, h1, _, h3, _⟩ := h.of hb
      exact ha.2.2.2.1 i b0 (some_cut hi h1) h3, (fun e he => by cases he), ha.2.2.2.2.2⟩
  · obtain ⟨hi, hb⟩ := cut_some hb
    obtain ⟨b', g1, g2⟩ := h.to hi hb
    exact ⟨⟨b', g1, AB.pt_of (AB.loc_of (iceB_loc g2).1)⟩, rfl⟩
  · obtain ⟨hi, hb⟩ := cut_some hb
    obtain ⟨b', g1, g2⟩ := h.to hi hb
    rw [(iceB_loc g2).2 row l rfl] at g1
    exact .inl ⟨l, g1, rfl⟩
  · have := h.locY (cut_some hb).1 (cut_some hb).2
    cases this
  · have := h.locY (cut_some hb).1 (cut_some hb).2
    cases this
theorem Iced.le' (h : Iced X Y m hp' hq) : X.le (iceX Y hq) := by
  have lt : ∀ i b, X.H i = some b → i < m := fun i b hb => by
    by_cases hi : i < m
    · exact hi
    · rw [h.hm i (by omega)] at hb; cases hb
  refine ⟨fun a y ha => h.IC (h.le.ic a y ha), fun i b hb hl => ?_, fun i row l hb => ?_, fun i hb => ?_, fun i b hb hl => h.le.ca i b hb hl, fun i t v hb => absurd hb (h.ntok i t v), h.le.w0, h.le.lent, h.le.oldeq, h.le.drawn⟩
  · obtain ⟨⟨b1, g1, _⟩, g3⟩ := h.le.loc i b hb hl
    obtain ⟨b', k1, k2⟩ := h.to (lt i b hb) g1
    exact ⟨⟨b', k1, AB.pt_of (AB.loc_of (iceB_loc k2).1)⟩, g3⟩
  · rcases h.le.arr i row l hb with ⟨l', g1, g2⟩ | g1
    · obtain ⟨b', k1, k2⟩ := h.to (lt i _ hb) g1
      rw [(iceB_loc k2).2 row l' rfl] at k1
      exact .inl ⟨l', k1, g2⟩
    · have := h.locY (lt i _ hb) g1
      cases this
  · have := h.locY (lt i _ hb) (h.le.dead i hb)
    cases this

theorem Iced.new (h : Iced X Y m hp' hq) {n : Nat} {b : AB} (hn : m ≤ n) (hb : Y.H n = some b) (hbl : b.wr = true) : Y.w0.heap.size ≤ Y.φ n := by
  rcases h.hY.place n b hb hbl with g | g
  · exact g
  · rw [h.le.lent] at g
    obtain ⟨i, c, g1, g2, g3⟩ := h.lent _ g
    obtain ⟨⟨b', k1, _⟩, k3⟩ := h.le.loc i c g1 (AB.pt_of g2)
    have hi : i < m := by
      by_cases hi : i < m
      · exact hi
      · rw [h.hm i (by omega)] at g1; cases g1
    have k2 := h.locY hi k1
    refine absurd (k3.trans g3) (h.hY.inj i n b' b k1 hb (AB.loc_of k2) (AB.loc_of hbl) fun e => ?_)
    subst e
    rw [h.hm i hn] at g1; cases g1
theorem Iced.own (h : Iced X Y m hp' hq) {n o : Nat} {row : CT} {l : List row.den} (hn : m ≤ n) (hb : Y.H n = some (.arr row l)) {y : Value} (hc : Y.w.cell? ⟨Y.φ n, o, none⟩ = some y) : (iceX Y hq).IC ⟨Y.φ n, o, none⟩ y := by
  refine ⟨.inl (h.new hn hb rfl), rfl, hc, fun i b' hb' hl' => ?_, (fun e he => by cases he), arr_fz h.hY hb hc⟩
  obtain ⟨hi, b0, h1, _, h3, _⟩ := h.of hb'
  exact h.hY.inj i n b0 _ h1 hb (AB.loc_of h3) rfl (by omega)

theorem Iced.C (h : Iced X Y m hp' hq) {c c' : AC} (hc : iceC Y.H m c = some c') {v : Value} (hv : VRc Y c v) : VRc (iceX Y hq) c' v := by
  have keep : ∀ {c : AC}, (∀ i ∈ idsC c, i < m) → VRc Y c v → VRc (iceX Y hq) c v := fun {c} hi hv => VRc.mono h.cutle c v (VRc.cut c v hi hv)
  have dflt : ∀ {c : AC}, (if (idsC c).all (fun i => Nat.blt i m) then some c else none) = some c' → VRc Y c v → VRc (iceX Y hq) c' v := fun {c} he hv => by
    split at he
    · rename_i hall
      injection he with he; subst he
      exact keep (fun i hi => by simpa [Nat.blt_eq] using List.all_eq_true.1 hall i hi) hv
    · cases he
  cases c with
  | bsl row i off len mn =>
    simp only [iceC] at hc
    split at hc
    · rename_i hi
      injection hc with hc; subst hc
      exact keep (fun j hj => by simp only [idsC, List.mem_singleton] at hj; subst hj; exact hi) hv
    · rename_i hi
      simp only [Option.map_eq_some_iff] at hc
      obtain ⟨l1, hl, rfl⟩ := hc
      obtain ⟨l0, hH, rfl⟩ := aslRows_some hl
      obtain ⟨l', o, cap, hH', rfl, hlc, hcm, hfit, ho, _⟩ := hv
      replace hH' := hH'.of hH; rw [hH] at hH'
      simp only [Option.some.injEq, AB.arr.injEq, heq_eq_eq, true_and] at hH'
      subst hH'
      obtain ⟨vs, g2, g3, g4⟩ := arr_vals h.hY hH off len (by omega)
      have hlen : ((l0.drop off).take len).length = len := by rw [List.length_take, List.length_drop]; omega
      rcases Nat.eq_zero_or_pos len with h0 | h0
      · exact ⟨_, len, cap, rfl, hlen.symm, hlc, hcm, .inl h0, trivial⟩
      have ho' := ho h0
      subst ho'
      refine ⟨_, len, cap, rfl, hlen.symm, hlc, hcm, .inr ⟨_, _, rfl, fun j x hj => ?_⟩, trivial⟩
      refine RelT.mono row x (fun k y hk => ?_) (fun a y => h.IC) (g2.2 j x hj)
      have := g4 _ _ hk
      rw [← Nat.add_assoc] at this
      exact h.own (by omega) hH this
  | asl row i off len cap =>
    simp only [iceC] at hc
    split at hc
    · rename_i hi
      injection hc with hc; subst hc
      exact keep (fun j hj => by simp only [idsC, List.mem_singleton] at hj; subst hj; exact hi) hv
    · rename_i hi
      simp only [Option.map_eq_some_iff] at hc
      obtain ⟨l1, hl, rfl⟩ := hc
      obtain ⟨l0, hH, rfl⟩ := aslRows_some hl
      obtain ⟨l', hH', rfl, hlc, hcm, hfit⟩ := hv
      replace hH' := hH'.of hH; rw [hH] at hH'
      simp only [Option.some.injEq, AB.arr.injEq, heq_eq_eq, true_and] at hH'
      subst hH'
      obtain ⟨vs, g2, g3, g4⟩ := arr_vals h.hY hH off len (by omega)
      have hlen : ((l0.drop off).take len).length = len := by rw [List.length_take, List.length_drop]; omega
      refine ⟨_, len, cap, rfl, hlen.symm, hlc, hcm, .inr ⟨_, _, rfl, fun j x hj => ?_⟩, trivial⟩
      refine RelT.mono row x (fun k y hk => ?_) (fun a y => h.IC) (g2.2 j x hj)
      have := g4 _ _ hk
      rw [← Nat.add_assoc] at this
      exact h.own (by omega) hH this
  | sl row l md => (unfold iceC at hc; exact dflt hc hv)
  | unk => (unfold iceC at hc; exact dflt hc hv)
  | int _ _ => (unfold iceC at hc; exact dflt hc hv)
  | bool _ => (unfold iceC at hc; exact dflt hc hv)
  | str _ => (unfold iceC at hc; exact dflt hc hv)
  | nils => (unfold iceC at hc; exact dflt hc hv)
  | nilz => (unfold iceC at hc; exact dflt hc hv)
  | nilp => (unfold iceC at hc; exact dflt hc hv)
  | nilf => (unfold iceC at hc; exact dflt hc hv)
  | nilm => (unfold iceC at hc; exact dflt hc hv)
  | elp _ _ _ _ => (unfold iceC at hc; exact dflt hc hv)
  | mdl _ _ _ _ _ => (unfold iceC at hc; exact dflt hc hv)
  | ptr _ _ => (unfold iceC at hc; exact dflt hc hv)
  | pti _ _ _ _ => (unfold iceC at hc; exact dflt hc hv)
  | csl _ _ _ _ => (unfold iceC at hc; exact dflt hc hv)
  | ael _ _ _ _ => (unfold iceC at hc; exact dflt hc hv)
  | fn _ _ => (unfold iceC at hc; exact dflt hc hv)
  | mth _ _ _ => (unfold iceC at hc; exact dflt hc hv)
  | mref _ => (unfold iceC at hc; exact dflt hc hv)

theorem Iced.Cs (h : Iced X Y m hp' hq) : ∀ {cs cs' : List AC}, iceCs Y.H m cs = some cs' → ∀ {vs : List Value}, PW (VRc Y) cs vs → PW (VRc (iceX Y hq)) cs' vs
  | [], cs', hc, vs, hv => by
    simp only [iceCs, Option.some.injEq] at hc; subst hc
    exact ⟨hv.1, fun j c y hj => by simp at hj⟩
  | c :: cs, cs', hc, vs, hv => by
    simp only [iceCs] at hc
    split at hc
    · rename_i d ds h1 h2
      injection hc with hc; subst hc
      obtain ⟨hl, hr⟩ := hv
      cases vs with
      | nil => simp at hl
      | cons u us =>
        have ih := h.Cs h2 (vs := us) ⟨by simpa using hl, fun j c y hj hy => hr (j + 1) c y (by simpa using hj) (by simpa using hy)⟩
        refine ⟨by simp [ih.1], fun j e y hj hy => ?_⟩
        cases j with
        | zero =>
          simp only [List.getElem?_cons_zero, Option.some.injEq] at hj hy
          subst hj; subst hy
          exact h.C h1 (hr 0 c u rfl rfl)
        | succ j => exact ih.2 j e y (by simpa using hj) (by simpa using hy)
    · cases hc

theorem Iced.rel (h : Iced X Y m hp' hq) : HRel (iceX Y hq) := by
  have hY := h.hY
  refine ⟨fun i j b c hi hj hb hc hne => ?_, fun i j hi => hi.elim, fun i b j hi hb hj => hj.elim, fun i b hi hb => ?_, fun i hi => hi.elim, fun i b hi hb => ?_, fun i hi => hi.elim, fun i hi => hi.elim, (fun b e he => by cases he),
    fun i b hi => ?_, hY.below, hY.os, hY.tape, hY.output, hY.size, fun a y ha => h.IC (hY.old a y ha)⟩
  · obtain ⟨_, b0, g1, _, g3, _⟩ := h.of hi
    obtain ⟨_, c0, k1, _, k3, _⟩ := h.of hj
    exact hY.inj i j b0 c0 g1 k1 (AB.loc_of g3) (AB.loc_of k3) hne
  · obtain ⟨_, b0, g1, _, g3, _⟩ := h.of hi
    exact hY.place i b0 g1 g3
  · obtain ⟨_, b0, g1, _, g3, _⟩ := h.of hi
    exact hY.ltl i b0 g1 (AB.loc_of g3)
  · obtain ⟨him, b0, g1, g2, g3, g4⟩ := h.of hi
    have hb := hY.blk i b0 g1
    have dflt : (if (idsB b0).all (fun i => Nat.blt i m) then some b0 else none) = some b → BRel (iceX Y hq) i b := fun he => by
      split at he
      · rename_i hall
        injection he with he; subst he
        exact BRel.mono h.cutle rfl rfl rfl (BRel.cut (fun j hj => by simpa [Nat.blt_eq] using List.all_eq_true.1 hall j hj) hb)
      · cases he
    cases b0 with
    | cells cs =>
      simp only [iceB, Option.map_eq_some_iff] at g2
      obtain ⟨cs', k1, rfl⟩ := g2
      obtain ⟨c, t, q1, q2⟩ := hb
      exact ⟨c, t, q1, h.Cs k1 q2⟩
    | tok _ _ => cases g2
    | dead => cases g2
    | bld _ _ => cases g2
    | buf _ _ => cases g2
    | roc _ _ => cases g2
    | rom _ _ _ _ _ _ => cases g2
    | arr _ _ => exact dflt g2
    | obj _ => exact dflt g2
    | iter _ _ _ => exact dflt g2
    | mp _ _ _ _ _ => exact dflt g2

theorem Iced.V (h : Iced X Y m hp' hq) {r r' : AV} (hr : iceV Y.H m r = some r') {v : Value} (hv : VR Y r v) : VR (iceX Y hq) r' v := by
  have dflt : (if (idsV r).all (fun i => Nat.blt i m) then some r else none) = some r' → VR (iceX Y hq) r' v := fun he => by
    split at he
    · rename_i hall
      injection he with he; subst he
      exact VR.mono h.cutle _ _ (VR.cut _ _ (fun j hj => by simpa [Nat.blt_eq] using List.all_eq_true.1 hall j hj) hv)
    · cases he
  cases r with
  | one c =>
    simp only [iceV, Option.map_eq_some_iff] at hr
    obtain ⟨c', h1, rfl⟩ := hr
    exact h.C h1 hv
  | agg cs =>
    simp only [iceV, Option.map_eq_some_iff] at hr
    obtain ⟨cs', h1, rfl⟩ := hr
    obtain ⟨arr, e, hp⟩ := hv
    exact ⟨arr, e, h.Cs h1 hp⟩
  | tup ps => exact dflt hr
  | val y => exact dflt hr
  | gd b g c => exact dflt hr
  | alt cs => exact dflt hr
  | clo f c => exact dflt hr
end

/-- A call's own arrays, handed out: promised slices. The call's memory is cut to the caller's blocks (and `m`'s). -/
theorem HeapCall.ice {f : Nat} {args args0 : List AV} {hp hp0 hp0' hq : List AB} {r0 r1 : AV} (h : HeapCall P f args0 hp0 r0 hp0') (m : Nat) (hm : hp0.length ≤ m) (hl : (hp0'.take m).all AB.wr = true)
    (hi : iceBs (fun i => hp0'[i]?) m (hp0'.take m) = some hq) (hr : iceV (fun i => hp0'[i]?) m r0 = some r1)
    (is : List Nat) (ha : unAs is args = some args0) (hb : unBs is hp is = some hp0) (hnd : nodupB is = true) :
    HeapCall P f args hp (reA (siteI is is.length hp.length) r1) (backHp is hp hq) :=
  ⟨h.1, fun X vs hX hH hv => by
    obtain ⟨g1, g2⟩ := unBs_full hH hb
    have hF : Full X is := fun k i hk => by
      obtain ⟨b, b', e1, e2, _⟩ := g2 k i hk
      exact ⟨b, b', e1, e2⟩
    have hsH : (small X is).H = fun k => hp0[k]? := by
      funext k
      show (is[k]?.bind fun i => (X.H i).bind (unB is)) = hp0[k]?
      cases hk : is[k]? with
      | none =>
        have := List.getElem?_eq_none_iff.1 hk
        rw [List.getElem?_eq_none (by omega)]; rfl
      | some i =>
        obtain ⟨b, b', e1, e2, e3⟩ := g2 k i hk
        rw [Option.bind_some, e1, Option.bind_some, e2, e3]
    refine (h.2 (small X is) vs (small_rel hX hF hnd) hsH (unAs_rel hF ha hv)).mono fun e w' ⟨val, Y, k1, k2, k3, k4, k5, k6⟩ => ?_
    have hI : Iced (small X is) Y m hp0' hq := ⟨rfl, fun i hi => by rw [hsH]; exact List.getElem?_eq_none (by omega), (fun i t v hh => by
        obtain ⟨_, b, _, _, q3, _⟩ := small_H hh
        have := (unB_loc q3).2
        cases this), (fun b ⟨i, hi, e⟩ => by
        obtain ⟨n, hn⟩ := List.getElem?_of_mem hi
        obtain ⟨c, c', e1, e2, e3⟩ := g2 n i hn
        refine ⟨n, c', by rw [hsH]; exact e3, (AB.loc_of (unB_loc e2).2), ?_⟩
        rw [e]
        simp only [small, List.getD_eq_getElem?_getD, hn, Option.getD_some]), k3, k4, k5, hl, hi⟩
    have hc : Came X (iceX Y hq) is hp.length hq := ⟨hX, hF, hnd, hI.le', hI.rel, rfl, fun k b hk => (hI.of hk).2.elim fun _ q => q.2.2.2, .inr fun i hi _ => by rw [hH]; exact List.getElem?_eq_none hi⟩
    refine ⟨val, backX X (iceX Y hq) is hp.length hq, k1, k2, hc.le', hc.rel, hc.list hH rfl, hc.reA r1 (hI.V ?_ k6)⟩
    rw [k5]; exact hr⟩
end Go.Eng
