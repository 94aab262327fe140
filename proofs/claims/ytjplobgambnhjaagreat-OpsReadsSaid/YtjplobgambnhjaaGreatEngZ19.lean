import Derived.Test.YtjplobgambnhjaaGreatEngZ15
set_option linter.unusedVariables false
namespace Go.Eng
open Go Go.RowKit
variable {P : Program}

/-! ### Less is known of blocks of cells: ahead of a call, behind it -/

def CW (cs cs2 : List AC) : Prop := ∀ X vs, PW (VRc X) cs vs → PW (VRc X) cs2 vs
def BW (b b2 : AB) : Prop := b = b2 ∨ ∃ cs cs2, b = .cells cs ∧ b2 = .cells cs2 ∧ CW cs cs2
def BWs (hp hp2 : List AB) : Prop := hp.length = hp2.length ∧ ∀ (i : Nat) b b2, hp[i]? = some b → hp2[i]? = some b2 → BW b b2

theorem BWs.nil : BWs [] [] := ⟨rfl, fun i b b2 h => by simp at h⟩
theorem BWs.cons {b b2 : AB} {hp hp2 : List AB} (h : BW b b2) (hh : BWs hp hp2) : BWs (b :: hp) (b2 :: hp2) :=
  ⟨by simp [hh.1], fun i c c2 h1 h2 => by
    cases i with
    | zero => simp only [List.getElem?_cons_zero, Option.some.injEq] at h1 h2; subst h1; subst h2; exact h
    | succ i => exact hh.2 i c c2 (by simpa using h1) (by simpa using h2)⟩
theorem BW.refl (b : AB) : BW b b := .inl rfl
theorem BWs.refl : ∀ (hp : List AB), BWs hp hp
  | [] => .nil
  | b :: hp => .cons (.refl b) (BWs.refl hp)
theorem BW.cells {cs cs2 : List AC} (h : CW cs cs2) : BW (.cells cs) (.cells cs2) := .inr ⟨cs, cs2, rfl, rfl, h⟩
theorem CW.un {t : CT} {cs : List AC} {d : t.den} (h : t.un cs = some (d, [])) : CW cs (t.cells d) := fun X vs hp => by
  obtain ⟨h1, _, h2⟩ := CT.un_rel (X := X) t cs d [] vs h hp
  refine cells_pw t d vs ?_ h2
  have := hp.1
  simp only [List.length_nil, Nat.add_zero] at h1
  rw [← this, h1]
theorem CW.refl (cs : List AC) : CW cs cs := fun _ _ h => h
theorem CW.cons {c c2 : AC} {cs cs2 : List AC} (h : ∀ X y, VRc X c y → VRc X c2 y) (hh : CW cs cs2) : CW (c :: cs) (c2 :: cs2) := fun X vs hp => by
  cases vs with
  | nil => have := hp.1; simp at this
  | cons y ys => exact PW.cons (h X y (hp.2 0 c y rfl rfl)) (hh X ys ⟨by simpa using hp.1, fun j d z hd hz => hp.2 (j + 1) d z (by simpa using hd) (by simpa using hz)⟩)
theorem CW.app (p : List AC) {cs cs2 : List AC} (h : CW cs cs2) : CW (p ++ cs) (p ++ cs2) := by
  induction p with
  | nil => exact h
  | cons c p ih => exact CW.cons (fun _ _ h => h) ih
theorem BW.loc {b b2 : AB} (h : BW b b2) : b2.loc = b.loc ∧ (∀ row l, b = .arr row l → b2 = b) ∧ ∀ t v, b = .tok t v → b2 = b := by
  rcases h with rfl | ⟨cs, cs2, rfl, rfl, _⟩
  · exact ⟨rfl, fun _ _ _ => rfl, fun _ _ _ => rfl⟩
  · exact ⟨rfl, fun _ _ e => (by cases e), fun _ _ e => (by cases e)⟩

def toH (X : Ctx) (hp : List AB) : Ctx := { X with H := fun i => hp[i]? }

section
variable {X : Ctx} {hp hp2 : List AB}
theorem BWs.to (hw : BWs hp hp2) {i : Nat} {b : AB} (h : hp[i]? = some b) : ∃ b2, hp2[i]? = some b2 ∧ BW b b2 := by
  have hi := (List.getElem?_eq_some_iff.1 h).1
  rw [hw.1] at hi
  exact ⟨hp2[i], List.getElem?_eq_getElem hi, hw.2 i b _ h (List.getElem?_eq_getElem hi)⟩
theorem BWs.of (hw : BWs hp hp2) {i : Nat} {b2 : AB} (h : hp2[i]? = some b2) : ∃ b, hp[i]? = some b ∧ BW b b2 := by
  have hi := (List.getElem?_eq_some_iff.1 h).1
  rw [← hw.1] at hi
  exact ⟨hp[i], List.getElem?_eq_getElem hi, hw.2 i _ b2 (List.getElem?_eq_getElem hi) h⟩
theorem toH_le (hH : X.H = fun i => hp[i]?) (hw : BWs hp hp2) : X.le (toH X hp2) := by
  refine ⟨fun a y ha => ⟨ha.1, ha.2.1, ha.2.2.1, fun i b hb hl => ?_, ha.2.2.2.2.1, ha.2.2.2.2.2⟩, fun i b hb hl => ?_, fun i row l hb => ?_, fun i t v hb => ?_, rfl, rfl, rfl, Nat.le_refl _⟩
  · obtain ⟨b0, h1, h2⟩ := hw.of (show hp2[i]? = some b from hb)
    exact ha.2.2.2.1 i b0 (by rw [hH]; exact h1) (by rw [← h2.loc.1]; exact hl)
  · rw [hH] at hb
    obtain ⟨b2, h1, h2⟩ := hw.to hb
    exact ⟨⟨b2, h1, by rw [h2.loc.1]; exact hl⟩, rfl⟩
  · rw [hH] at hb
    obtain ⟨b2, h1, h2⟩ := hw.to hb
    exact ⟨l, by show hp2[i]? = _; rw [h1, h2.loc.2.1 row l rfl], rfl⟩
  · rw [hH] at hb
    obtain ⟨b2, h1, h2⟩ := hw.to hb
    exact ⟨v, by show hp2[i]? = _; rw [h1, h2.loc.2.2 t v rfl], Nat.le_refl _, fun _ => ⟨rfl, fun e p q ht => ht⟩⟩
theorem toH_rel (hX : HRel X) (hH : X.H = fun i => hp[i]?) (hw : BWs hp hp2) : HRel (toH X hp2) := by
  have hle := toH_le hH hw
  have of : ∀ {i b2}, (toH X hp2).H i = some b2 → ∃ b, X.H i = some b ∧ BW b b2 := fun {i b2} h => by
    obtain ⟨b, h1, h2⟩ := hw.of (show hp2[i]? = some b2 from h)
    exact ⟨b, by rw [hH]; exact h1, h2⟩
  refine ⟨fun i j b c hb hc hbl hcl hne => ?_, hX.injt, fun i b j hb hbl hj => ?_, fun i b hb hl => ?_, hX.placet, fun i b hb hl => ?_, hX.ltt, fun i hi => ?_, hX.frlt, fun i b hb => ?_, hX.below, hX.os, hX.tape, hX.output, hX.size, fun a y ha => hle.ic a y (hX.old a y ha)⟩
  · obtain ⟨b0, h1, h2⟩ := of hb
    obtain ⟨c0, k1, k2⟩ := of hc
    exact hX.inj i j b0 c0 h1 k1 (by rw [← h2.loc.1]; exact hbl) (by rw [← k2.loc.1]; exact hcl) hne
  · obtain ⟨b0, h1, h2⟩ := of hb
    exact hX.injm i b0 j h1 (by rw [← h2.loc.1]; exact hbl) hj
  · obtain ⟨b0, h1, h2⟩ := of hb
    exact hX.place i b0 h1 (by rw [← h2.loc.1]; exact hl)
  · obtain ⟨b0, h1, h2⟩ := of hb
    exact hX.lt i b0 h1 (by rw [← h2.loc.1]; exact hl)
  · have := hX.tlH i hi
    rw [hH] at this
    show hp2[i]? ≠ none
    simp only [ne_eq, List.getElem?_eq_none_iff] at this ⊢
    rw [← hw.1]; exact this
  · obtain ⟨b0, h1, h2⟩ := of hb
    have hb0 := hX.blk i b0 h1
    rcases h2 with rfl | ⟨cs, cs2, rfl, rfl, hcw⟩
    · exact BRel.mono hle rfl rfl hb0
    · obtain ⟨c, t, g1, g2⟩ := hb0
      exact ⟨c, t, g1, (hcw _ _ g2).imp fun x y => VRc.mono hle x y⟩
end

theorem HeapCall.pre {f : Nat} {args : List AV} {hp hp2 hp' : List AB} {r : AV} (h : HeapCall P f args hp2 r hp') (hw : BWs hp hp2) : HeapCall P f args hp r hp' :=
  ⟨h.1, fun X vs hX hH hv => by
    have hle := toH_le hH hw
    refine (h.2 (toH X hp2) vs (toH_rel hX hH hw) rfl (hv.imp fun a v => VR.mono hle a v)).mono fun e w' ⟨val, Y, k1, k2, k3, k4, k5, k6⟩ => ?_
    exact ⟨val, Y, k1, k2, hle.trans k3, k4, k5, k6⟩⟩
theorem HeapCall.post {f : Nat} {args : List AV} {hp hp' hp2 : List AB} {r : AV} (h : HeapCall P f args hp r hp') (hw : BWs hp' hp2) : HeapCall P f args hp r hp2 :=
  ⟨h.1, fun X vs hX hH hv => (h.2 X vs hX hH hv).mono fun e w' ⟨val, Y, k1, k2, k3, k4, k5, k6⟩ => by
    have hle := toH_le k5 hw
    exact ⟨val, toH Y hp2, k1, k2, k3.trans hle, toH_rel k4 k5 hw, rfl, VR.mono hle _ _ k6⟩⟩
end Go.Eng
