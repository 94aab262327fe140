import Derived.Test.YtolhkkoakneflaaEngZ6
set_option linter.unusedVariables false
namespace Go.Eng
open Go Go.RowKit
variable {P : Program}

/-! ### A call that sees a map and the cell that holds it, and nothing else of the caller's blocks -/

/-- Only the first two blocks are lent. -/
def two (X : Ctx) : Ctx := { φ := X.φ, fr := fun _ => none, tl := fun _ => False, H := fun k => if k < 2 then X.H k else none, w := X.w, w0 := X.w, lent := fun k => k = X.φ 0 ∨ k = X.φ 1, old := X.IC }

theorem two_IC {X : Ctx} {a : Addr} {y : Value} (h : X.IC a y) : (two X).IC a y :=
  ⟨.inr (.inr h), h.2.1, h.2.2.1, (fun i b hb hl => by
    have hb : (if i < 2 then X.H i else none) = some b := hb
    split at hb
    · exact h.2.2.2.1 i b hb hl
    · cases hb), (fun e he => by cases he)⟩

section
variable {kt vt : CT} {ka va : Bool} {l l' : List (kt.den × vt.den)}

theorem two_rel {X : Ctx} (hX : HRel X) (h0 : X.H 0 = some (.mp kt vt ka va l)) (h1 : X.H 1 = some (.cells [.mref 0])) : HRel (two X) := by
  have sub : ∀ i b, (two X).H i = some b → X.H i = some b ∧ i < 2 := fun i b hb => by
    simp only [two] at hb
    split at hb
    · exact ⟨hb, by assumption⟩
    · cases hb
  refine ⟨fun i j b c hi hj hb hc hne => hX.inj i j b c (sub i b hi).1 (sub j c hj).1 hb hc hne, fun i j h => h.elim, fun i b j _ _ h => h.elim, fun i b hi hb => ?_, fun i h => h.elim, fun i b hi hb => hX.lt i b (sub i b hi).1 hb, fun i h => h.elim, fun i h => h.elim, (fun b e h => by cases h), fun i b hi => ?_, fun k _ _ => rfl, rfl, rfl, rfl, Nat.le_refl _, fun a y h => two_IC h⟩
  · obtain ⟨_, hlt⟩ := sub i b hi
    right
    have : i = 0 ∨ i = 1 := by omega
    rcases this with rfl | rfl
    · exact .inl rfl
    · exact .inr rfl
  · obtain ⟨hb, hlt⟩ := sub i b hi
    have : i = 0 ∨ i = 1 := by omega
    rcases this with rfl | rfl
    · rw [h0] at hb; injection hb with hb; subst hb
      obtain ⟨hf, es, clock, g1, g2, g3⟩ := hX.blk 0 _ h0
      refine ⟨hf, es, clock, g1, g2, fun j p e hp he => ?_⟩
      obtain ⟨q1, us, q2, q3, q4⟩ := g3 j p e hp he
      exact ⟨q1, us, q2, q3, RelT.mono vt p.2 (fun _ _ hh => hh) (fun _ _ => two_IC) q4⟩
    · rw [h1] at hb; injection hb with hb; subst hb
      obtain ⟨c, t, g1, g2⟩ := hX.blk 1 _ h1
      refine ⟨c, t, g1, g2.1, fun j d y hd hy => ?_⟩
      have hr := g2.2 j d y hd hy
      cases j with
      | zero =>
        simp only [List.getElem?_cons_zero, Option.some.injEq] at hd
        subst hd
        exact ⟨⟨_, by simp only [two]; exact h0, rfl⟩, hr.2⟩
      | succ j => simp at hd

/-- The caller's blocks behind the call. -/
def twoBack (X : Ctx) (b : AB) (w' : World) : Ctx := { X with H := upd X.H 0 (some b), w := w' }

theorem two_back {X Y' : Ctx} (hX : HRel X) (h0 : X.H 0 = some (.mp kt vt ka va l)) (h1 : X.H 1 = some (.cells [.mref 0])) (hle : (two X).le Y') (hY : HRel Y') (hH : Y'.H = fun i => [AB.mp kt vt ka va l', .cells [.mref 0]][i]?) :
    X.le (twoBack X (.mp kt vt ka va l') Y'.w) ∧ HRel (twoBack X (.mp kt vt ka va l') Y'.w) := by
  have hw0 : Y'.w0 = X.w := hle.w0
  have hlent : Y'.lent = fun k => k = X.φ 0 ∨ k = X.φ 1 := hle.lent
  have hφ0 : Y'.φ 0 = X.φ 0 := (hle.loc 0 _ (show (two X).H 0 = _ from h0) rfl).2
  have hφ1 : Y'.φ 1 = X.φ 1 := (hle.loc 1 _ (show (two X).H 1 = _ from h1) rfl).2
  have hsz : X.w.heap.size ≤ Y'.w.heap.size := by have := hY.size; rw [hw0] at this; exact this
  have hfr : ∀ k, k < X.w.heap.size → k ≠ X.φ 0 → k ≠ X.φ 1 → Y'.w.heap[k]? = X.w.heap[k]? := fun k hk n0 n1 => by
    have := hY.below k (by rw [hw0]; exact hk) (by rw [hlent]; rintro (h | h) <;> contradiction)
    rw [hw0] at this; exact this
  have hIC : ∀ a y, X.IC a y → (twoBack X (.mp kt vt ka va l') Y'.w).IC a y := fun a y ⟨q1, q2, q3, q4, q5⟩ => by
    have hl := World.block_lt_of_cell? _ _ q3
    refine ⟨q1, q2, ?_, fun i b hi hb => ?_, q5⟩
    · exact (World.cell?_of_block (hfr _ hl (fun e => q4 0 _ h0 rfl e.symm) (fun e => q4 1 _ h1 rfl e.symm))).trans q3
    · by_cases e : i = 0
      · subst e; exact q4 0 _ h0 rfl
      · simp only [twoBack, upd_other _ _ e] at hi; exact q4 i b hi hb
  have hle' : X.le (twoBack X (.mp kt vt ka va l') Y'.w) := by
    refine ⟨hIC, fun i b hi hb => ?_, fun i row r hi => ?_, fun i t v hi => ?_, rfl, rfl, rfl⟩
    · by_cases e : i = 0
      · subst e; exact ⟨⟨.mp kt vt ka va l', by simp only [twoBack, upd_same], rfl⟩, rfl⟩
      · exact ⟨⟨b, by simp only [twoBack, upd_other _ _ e]; exact hi, hb⟩, rfl⟩
    · have e : i ≠ 0 := fun e => by subst e; rw [h0] at hi; cases hi
      exact ⟨r, by simp only [twoBack, upd_other _ _ e]; exact hi, rfl⟩
    · have e : i ≠ 0 := fun e => by subst e; rw [h0] at hi; cases hi
      refine ⟨v, by simp only [twoBack, upd_other _ _ e]; exact hi, Nat.le_refl _, fun _ => ⟨rfl, fun t p q ⟨t1, t2, c, mk, t3, t4⟩ => ⟨t1, t2, c, mk, ?_, t4⟩⟩⟩
      exact (hfr _ (hX.ltt i t1) (fun e => hX.injm 0 _ i h0 rfl t1 e.symm) (fun e => hX.injm 1 _ i h1 rfl t1 e.symm)).trans t3
  have bIC : ∀ a y, Y'.IC a y → (twoBack X (.mp kt vt ka va l') Y'.w).IC a y := fun a y ⟨q1, q2, q3, q4, q5⟩ => by
    rw [hw0, hlent, hle.oldeq] at q1
    rcases q1 with q1 | q1 | q1
    · have q1' : X.w.heap.size ≤ a.block := q1
      refine ⟨.inl (Nat.le_trans hX.size q1'), q2, q3, fun i b hi hb => ?_, fun e he => ?_⟩
      · have : X.φ i < X.w.heap.size := by
          by_cases e : i = 0
          · subst e; exact hX.lt 0 _ h0 rfl
          · simp only [twoBack, upd_other _ _ e] at hi; exact hX.lt i b hi hb
        show X.φ i ≠ _
        omega
      · have := hX.frlt _ _ he
        omega
    · rcases q1 with q1 | q1
      · exact absurd q1.symm (by rw [← hφ0]; exact q4 0 (.mp kt vt ka va l') (by rw [hH]; rfl) rfl)
      · exact absurd q1.symm (by rw [← hφ1]; exact q4 1 (.cells [.mref 0]) (by rw [hH]; rfl) rfl)
    · have q1' : X.IC a y := q1
      exact hIC a y q1'
  have any : ∀ j c, (twoBack X (.mp kt vt ka va l') Y'.w).H j = some c → c.loc = true → ∃ d, X.H j = some d ∧ d.loc = true := fun j c hj hc => by
    by_cases e : j = 0
    · subst e; exact ⟨_, h0, rfl⟩
    · simp only [twoBack, upd_other _ _ e] at hj; exact ⟨c, hj, hc⟩
  refine ⟨hle', fun i j b c hi hj hb hc hne => ?_, hX.injt, fun i b j hi hb hj => ?_, fun i b hi hb => ?_, hX.placet, fun i b hi hb => ?_, fun i hi => Nat.lt_of_lt_of_le (hX.ltt i hi) hsz, fun i hi => ?_, fun b e h => Nat.lt_of_lt_of_le (hX.frlt b e h) hsz, fun i b hi => ?_, fun k hk hl => ?_, ?_, ?_, ?_, Nat.le_trans hX.size hsz, fun a y h => hle'.ic a y (hX.old a y h)⟩
  · obtain ⟨b', g1, g2⟩ := any i b hi hb
    obtain ⟨c', g3, g4⟩ := any j c hj hc
    exact hX.inj i j b' c' g1 g3 g2 g4 hne
  · obtain ⟨b', g1, g2⟩ := any i b hi hb
    exact hX.injm i b' j g1 g2 hj
  · obtain ⟨b', g1, g2⟩ := any i b hi hb
    exact hX.place i b' g1 g2
  · obtain ⟨b', g1, g2⟩ := any i b hi hb
    exact Nat.lt_of_lt_of_le (hX.lt i b' g1 g2) hsz
  · by_cases e : i = 0
    · subst e; simp [twoBack, upd_same]
    · simp only [twoBack, upd_other _ _ e]; exact hX.tlH i hi
  · by_cases e : i = 0
    · subst e
      simp only [twoBack, upd_same, Option.some.injEq] at hi
      subst hi
      obtain ⟨hf, es, clock, g1, g2, g3⟩ := hY.blk 0 (.mp kt vt ka va l') (by rw [hH]; rfl)
      refine ⟨hf, es, clock, by rw [hφ0] at g1; exact g1, g2, fun j p e hp he => ?_⟩
      obtain ⟨q1, us, q2, q3, q4⟩ := g3 j p e hp he
      exact ⟨q1, us, q2, q3, RelT.mono vt p.2 (fun _ _ hh => hh) bIC q4⟩
    · have hi' : X.H i = some b := by simpa only [twoBack, upd_other _ _ e] using hi
      by_cases e1 : i = 1
      · subst e1
        rw [h1] at hi'; injection hi' with hi'; subst hi'
        obtain ⟨c, t, g1, g2⟩ := hY.blk 1 (.cells [.mref 0]) (by rw [hH]; rfl)
        refine ⟨c, t, by rw [hφ1] at g1; exact g1, g2.1, fun j d y hd hy => ?_⟩
        have hr := g2.2 j d y hd hy
        cases j with
        | zero =>
          simp only [List.getElem?_cons_zero, Option.some.injEq] at hd
          subst hd
          exact ⟨⟨.mp kt vt ka va l', by simp only [twoBack, upd_same], rfl⟩, by have := hr.2; rw [hφ0] at this; exact this⟩
        | succ j => simp at hd
      · cases hm : b.loc with
        | true => exact BRel.mono hle' rfl (hfr _ (hX.lt i b hi' hm) (hX.inj i 0 _ _ hi' h0 hm rfl e) (hX.inj i 1 _ _ hi' h1 hm rfl e1)) (hX.blk i b hi')
        | false => cases b <;> first | trivial | cases hm
  · have hk' : k < X.w0.heap.size := hk
    have n0 : k ≠ X.φ 0 := fun e => by
      rcases hX.place 0 _ h0 rfl with h | h
      · omega
      · exact hl (by rw [e]; exact h)
    have n1 : k ≠ X.φ 1 := fun e => by
      rcases hX.place 1 _ h1 rfl with h | h
      · omega
      · exact hl (by rw [e]; exact h)
    exact (hfr k (Nat.lt_of_lt_of_le hk' hX.size) n0 n1).trans (hX.below k hk hl)
  · have := hY.os; rw [hw0] at this; exact this.trans hX.os
  · have := hY.tape; rw [hw0] at this; exact this.trans hX.tape
  · have := hY.output; rw [hw0] at this; exact this.trans hX.output

/-- A call that changes the map alone. -/
theorem local_map {f : Nat} {cs : List AC} {r : AV} (ha : bareA (.agg cs) = true) (hr : bareA r = true)
    (h : HeapCall P f [.one (.ptr 1 0), .agg cs] [.mp kt vt ka va l, .cells [.mref 0]] r [.mp kt vt ka va l', .cells [.mref 0]])
    {X : Ctx} (hX : HRel X) (h0 : X.H 0 = some (.mp kt vt ka va l)) (h1 : X.H 1 = some (.cells [.mref 0])) {vs : List Value} (hv : PW (VR X) [.one (.ptr 1 0), .agg cs] vs) :
    (∃ fn, P.funcs[f]? = some fn ∧ (fn.name == "runtime.NumGoroutine") = false ∧ fn.body.isNone = false) ∧
    Calls P f vs.toArray X.w fun e w' => ∃ val X', e = .returned val ∧ X'.w = w' ∧ X.le X' ∧ HRel X' ∧ X'.H = upd X.H 0 (some (.mp kt vt ka va l')) ∧ VR X' r val := by
  refine ⟨h.1, (h.2 (two X) vs (two_rel hX h0 h1) ?_ ⟨hv.1, fun j c y hc hy => ?_⟩).mono fun e w' ⟨val, Y', g1, g2, g3, g4, g5, g6⟩ => ?_⟩
  · funext i
    simp only [two]
    match i with
    | 0 => exact h0
    | 1 => exact h1
    | i + 2 => rfl
  · have hr := hv.2 j c y hc hy
    match j, hc with
    | 0, hc =>
      have hc : some (AV.one (.ptr 1 0)) = some c := hc
      injection hc with hc; subst hc
      exact ⟨⟨_, h1, rfl⟩, hr.2⟩
    | 1, hc =>
      have hc : some (AV.agg cs) = some c := hc
      injection hc with hc; subst hc
      exact bareA_rel ha hr
  · obtain ⟨b1, b2⟩ := two_back hX h0 h1 g3 g4 g5
    subst g2
    exact ⟨val, twoBack X (.mp kt vt ka va l') Y'.w, g1, rfl, b1, b2, rfl, bareA_rel hr g6⟩
end

/-- A function's contract in regions whose order is drawn. -/
def Env.addK (E : Env P) (f : Nat) (kl : KL) (hkl : KLok P kl) : Env P := { E with kl := kl, kd := fun g => Nat.beq g f, hkl := hkl }
end Go.Eng
