import Derived.Test.YtjplobgambnhjaaGreatEngZ19
set_option linter.unusedVariables false
namespace Go.Eng
open Go Go.RowKit
variable {P : Program}

/-! ### Ahead of a loop: less is known of blocks of cells, by the memory as it is (a nil slice in a block is an own one, over a token that was coined) -/

def CWh (hp : List AB) (cs cs2 : List AC) : Prop := ∀ X vs, (X.H = fun i => hp[i]?) → PW (VRc X) cs vs → PW (VRc X) cs2 vs
def BWh (hp : List AB) (b b2 : AB) : Prop := b = b2 ∨ ∃ cs cs2, b = .cells cs ∧ b2 = .cells cs2 ∧ CWh hp cs cs2
def BWhs (hp hp2 : List AB) : Prop := hp.length = hp2.length ∧ ∀ (i : Nat) b b2, hp[i]? = some b → hp2[i]? = some b2 → BWh hp b b2
theorem CWh.cons {hp : List AB} {c c2 : AC} {cs cs2 : List AC} (h : ∀ X y, (X.H = fun i => hp[i]?) → VRc X c y → VRc X c2 y) (hh : CWh hp cs cs2) : CWh hp (c :: cs) (c2 :: cs2) := fun X vs hH hp => by
  cases vs with
  | nil => have := hp.1; simp at this
  | cons y ys => exact PW.cons (h X y hH (hp.2 0 c y rfl rfl)) (hh X ys hH ⟨by simpa using hp.1, fun j d z hd hz => hp.2 (j + 1) d z (by simpa using hd) (by simpa using hz)⟩)
theorem CWh.refl (hp : List AB) (cs : List AC) : CWh hp cs cs := fun _ _ _ h => h
theorem CWh.app {hp : List AB} (p : List AC) {cs cs2 : List AC} (h : CWh hp cs cs2) : CWh hp (p ++ cs) (p ++ cs2) := by
  induction p with
  | nil => exact h
  | cons c p ih => exact CWh.cons (fun _ _ _ h => h) ih
theorem nils_own_h {hp : List AB} (row : CT) {n : Nat} {ty : TypeId} (hn : hp[n]? = some (.tok ty 0)) {X : Ctx} {y : Value} (hH : X.H = fun i => hp[i]?) (h : VRc X .nils y) : VRc X (.sl row [] (.own n 0)) y :=
  ⟨none, 0, 0, h, rfl, Nat.le_refl _, Nat.zero_le _, .inl rfl, ty, 0, by rw [hH]; exact hn, Nat.le_refl _, fun _ => .inl ⟨rfl, rfl⟩⟩
theorem BWh.loc {hp : List AB} {b b2 : AB} (h : BWh hp b b2) : b2.loc = b.loc ∧ (∀ row l, b = .arr row l → b2 = b) ∧ ∀ t v, b = .tok t v → b2 = b := by
  rcases h with rfl | ⟨cs, cs2, rfl, rfl, _⟩
  · exact ⟨rfl, fun _ _ _ => rfl, fun _ _ _ => rfl⟩
  · exact ⟨rfl, fun _ _ e => (by cases e), fun _ _ e => (by cases e)⟩
section
variable {X : Ctx} {hp hp2 : List AB}
theorem BWhs.to (hw : BWhs hp hp2) {i : Nat} {b : AB} (h : hp[i]? = some b) : ∃ b2, hp2[i]? = some b2 ∧ BWh hp b b2 := by
  have hi := (List.getElem?_eq_some_iff.1 h).1
  rw [hw.1] at hi
  exact ⟨hp2[i], List.getElem?_eq_getElem hi, hw.2 i b _ h (List.getElem?_eq_getElem hi)⟩
theorem BWhs.of (hw : BWhs hp hp2) {i : Nat} {b2 : AB} (h : hp2[i]? = some b2) : ∃ b, hp[i]? = some b ∧ BWh hp b b2 := by
  have hi := (List.getElem?_eq_some_iff.1 h).1
  rw [← hw.1] at hi
  exact ⟨hp[i], List.getElem?_eq_getElem hi, hw.2 i _ b2 (List.getElem?_eq_getElem hi) h⟩
theorem toH_leH (hH : X.H = fun i => hp[i]?) (hw : BWhs hp hp2) : X.le (toH X hp2) := by
  refine ⟨fun a y ha => ⟨ha.1, ha.2.1, ha.2.2.1, fun i b hb hl => ?_, ha.2.2.2.2.1, ha.2.2.2.2.2⟩, fun i b hb hl => ?_, fun i row l hb => ?_, fun i t v hb => ?_, rfl, rfl, rfl, Nat.le_refl _⟩
  · obtain ⟨b0, h1, h2⟩ := hw.of (show hp2[i]? = some b from hb)
    exact ha.2.2.2.1 i b0 (by rw [hH]; exact h1) (by rw [← h2.loc.1]; exact hl)
  · rw [hH] at hb
    obtain ⟨b2, h1, h2⟩ := hw.to hb
    exact ⟨⟨b2, h1, by rw [h2.loc.1]; exact hl⟩, rfl⟩
  · rw [hH] at hb
    obtain ⟨b2, h1, h2⟩ := hw.to hb
    exact ⟨l, by show hp2[i]? = _; rw [h1, h2.loc.2.1 row l rfl], rfl⟩
  · rw [hH] at hb
    obtain ⟨b2, h1, h2⟩ := hw.to hb
    exact ⟨v, by show hp2[i]? = _; rw [h1, h2.loc.2.2 t v rfl], Nat.le_refl _, fun _ => ⟨rfl, fun e p q ht => ht⟩⟩
theorem toH_relH (hX : HRel X) (hH : X.H = fun i => hp[i]?) (hw : BWhs hp hp2) : HRel (toH X hp2) := by
  have hle := toH_leH hH hw
  have of : ∀ {i b2}, (toH X hp2).H i = some b2 → ∃ b, X.H i = some b ∧ BWh hp b b2 := fun {i b2} h => by
    obtain ⟨b, h1, h2⟩ := hw.of (show hp2[i]? = some b2 from h)
    exact ⟨b, by rw [hH]; exact h1, h2⟩
  refine ⟨fun i j b c hb hc hbl hcl hne => ?_, hX.injt, fun i b j hb hbl hj => ?_, fun i b hb hl => ?_, hX.placet, fun i b hb hl => ?_, hX.ltt, fun i hi => ?_, hX.frlt, fun i b hb => ?_, hX.below, hX.os, hX.tape, hX.output, hX.size, fun a y ha => hle.ic a y (hX.old a y ha)⟩
  · obtain ⟨b0, h1, h2⟩ := of hb
    obtain ⟨c0, k1, k2⟩ := of hc
    exact hX.inj i j b0 c0 h1 k1 (by rw [← h2.loc.1]; exact hbl) (by rw [← k2.loc.1]; exact hcl) hne
  · obtain ⟨b0, h1, h2⟩ := of hb
    exact hX.injm i b0 j h1 (by rw [← h2.loc.1]; exact hbl) hj
  · obtain ⟨b0, h1, h2⟩ := of hb
    exact hX.place i b0 h1 (by rw [← h2.loc.1]; exact hl)
  · obtain ⟨b0, h1, h2⟩ := of hb
    exact hX.lt i b0 h1 (by rw [← h2.loc.1]; exact hl)
  · have := hX.tlH i hi
    rw [hH] at this
    show hp2[i]? ≠ none
    simp only [ne_eq, List.getElem?_eq_none_iff] at this ⊢
    rw [← hw.1]; exact this
  · obtain ⟨b0, h1, h2⟩ := of hb
    have hb0 := hX.blk i b0 h1
    rcases h2 with rfl | ⟨cs, cs2, rfl, rfl, hcw⟩
    · exact BRel.mono hle rfl rfl hb0
    · obtain ⟨c, t, g1, g2⟩ := hb0
      exact ⟨c, t, g1, (hcw _ _ hH g2).imp fun x y => VRc.mono hle x y⟩
end
theorem LoopOk.preH {body : Code} {nt : Nat} {slots ro : List Nat} {vals rov : List AV} {hp hp2 : List AB} {e : XE} {outs : List AV} {hp' : List AB} (hw : BWhs hp hp2)
    (h : LoopOk P body nt slots ro vals rov hp2 e outs hp') : LoopOk P body nt slots ro vals rov hp e outs hp' := by
  intro X a rest hrest hr Q hq
  have hH : X.H = fun i => hp[i]? := hr.heap
  have hle := toH_leH hH hw
  refine h (toH X hp2) a rest hrest ?_ Q fun X' a' hle' hr' => hq X' a' (hle.trans hle') hr'
  exact ⟨toH_relH hr.hrel hH hw, rfl, hr.size, hr.defers, fun t v hv => VR.mono hle _ _ (hr.tm t v hv), fun t s w v hv => by cases hv⟩
end Go.Eng
