import Derived.Test.YtolhkkoakneflaaEngA
set_option linter.unusedVariables false
namespace Go.Eng
open Go Go.RowKit

/-- What an own block holds lies there. -/
def BRel (X : Ctx) (i : Nat) : AB → Prop
  | .cells cs => ∃ c t, X.w.heap[X.φ i]? = some (.cells c t (0, 0)) ∧ PW (VRc X) cs c.toList
  | .arr row l => ∃ c t, X.w.heap[X.φ i]? = some (.cells c t (0, 0)) ∧ c.size = l.length * row.width ∧
      ∀ (j : Nat) x, l[j]? = some x → RelT row x (fun k y => c[j * row.width + k]? = some y) X.IC
  | .tok _ _ => True
  | .mp kt vt ka va l => kt.flat = true ∧ ∃ es clock, X.w.heap[X.φ i]? = some (.map es clock) ∧ es.size = l.length ∧
      ∀ (j : Nat) p e, l[j]? = some p → es[j]? = some e → e.key = asV ka (kt.vals p.1) ∧ ∃ us : List Value, e.val = asV va us ∧ us.length = vt.width ∧ RelT vt p.2 (fun k y => us[k]? = some y) X.IC

structure HRel (X : Ctx) : Prop where
  inj : ∀ i j b c, X.H i = some b → X.H j = some c → b.loc = true → c.loc = true → i ≠ j → X.φ i ≠ X.φ j
  injt : ∀ i j, X.tl i → X.tl j → i ≠ j → X.φ i ≠ X.φ j
  injm : ∀ i b j, X.H i = some b → b.loc = true → X.tl j → X.φ i ≠ X.φ j
  place : ∀ i b, X.H i = some b → b.loc = true → X.w0.heap.size ≤ X.φ i ∨ X.lent (X.φ i)
  placet : ∀ i, X.tl i → X.w0.heap.size ≤ X.φ i ∨ X.lent (X.φ i)
  lt : ∀ i b, X.H i = some b → b.loc = true → X.φ i < X.w.heap.size
  ltt : ∀ i, X.tl i → X.φ i < X.w.heap.size
  tlH : ∀ i, X.tl i → X.H i ≠ none
  frlt : ∀ b e, X.fr b = some e → b < X.w.heap.size
  blk : ∀ i b, X.H i = some b → BRel X i b
  below : ∀ k, k < X.w0.heap.size → ¬ X.lent k → X.w.heap[k]? = X.w0.heap[k]?
  os : X.w.os = X.w0.os
  tape : X.w.tape = X.w0.tape
  output : X.w.output = X.w0.output
  size : X.w0.heap.size ≤ X.w.heap.size
  old : ∀ a y, X.old a y → X.IC a y

theorem BRel.mono {X X' : Ctx} (h : X.le X') {i : Nat} {b : AB} (hφ : X'.φ i = X.φ i) (hw : X'.w.heap[X.φ i]? = X.w.heap[X.φ i]?) (hb : BRel X i b) : BRel X' i b := by
  cases b with
  | tok _ _ => trivial
  | cells cs =>
    obtain ⟨c, t, h1, h2⟩ := hb
    exact ⟨c, t, by rw [hφ, hw]; exact h1, h2.imp fun x y => VRc.mono h x y⟩
  | arr row l =>
    obtain ⟨c, t, h1, h2, h3⟩ := hb
    exact ⟨c, t, by rw [hφ, hw]; exact h1, h2, fun j x hj => RelT.mono row x (fun _ _ hk => hk) h.ic (h3 j x hj)⟩
  | mp kt vt ka va l =>
    obtain ⟨hf, es, clock, h1, h2, h3⟩ := hb
    refine ⟨hf, es, clock, by rw [hφ, hw]; exact h1, h2, fun j p e hp he => ?_⟩
    obtain ⟨g1, us, g2, g3, g4⟩ := h3 j p e hp he
    exact ⟨g1, us, g2, g3, RelT.mono vt p.2 (fun _ _ hk => hk) h.ic g4⟩

/-- The same known memory in a world whose old blocks are as they were. -/
def Ctx.withW (X : Ctx) (w' : World) : Ctx := { X with w := w' }

theorem Ctx.IC_lt {X : Ctx} {a : Addr} {y : Value} (h : X.IC a y) : a.block < X.w.heap.size := World.block_lt_of_cell? _ _ h.2.2.1

theorem withW_le {X : Ctx} (hX : HRel X) {w' : World} (hb : Below X.w.heap.size X.w w') : X.le (X.withW w') where
  ic a y h := by
    obtain ⟨h1, h2, h3, h4, h5⟩ := h
    have hl := World.block_lt_of_cell? _ _ h3
    exact ⟨h1, h2, (hb.cell hl).trans h3, h4, h5⟩
  loc i b h hm := ⟨⟨b, h, hm⟩, rfl⟩
  arr i row l h := ⟨l, h, rfl⟩
  tok i t v h := ⟨v, h, Nat.le_refl _, fun _ => ⟨rfl, fun e p q ⟨t1, t2, c, mk, t3, t4⟩ => ⟨t1, t2, c, mk, (hb.block _ (hX.ltt i t1)).trans t3, t4⟩⟩⟩
  w0 := rfl
  lent := rfl
  oldeq := rfl

theorem HRel.withW {X : Ctx} (hX : HRel X) {w' : World} (hb : Below X.w.heap.size X.w w') : HRel (X.withW w') where
  inj := hX.inj
  injt := hX.injt
  injm := hX.injm
  place := hX.place
  placet := hX.placet
  lt i b h hm := Nat.lt_of_lt_of_le (hX.lt i b h hm) hb.size
  ltt i h := Nat.lt_of_lt_of_le (hX.ltt i h) hb.size
  tlH := hX.tlH
  frlt b e h := Nat.lt_of_lt_of_le (hX.frlt b e h) hb.size
  blk i b h := by
    cases hm : b.loc with
    | true => exact BRel.mono (withW_le hX hb) rfl (hb.block _ (hX.lt i b h hm)) (hX.blk i b h)
    | false => cases b <;> first | trivial | cases hm
  below k hk hl := (hb.block k (Nat.lt_of_lt_of_le hk hX.size)).trans (hX.below k hk hl)
  os := hb.os.trans hX.os
  tape := hb.tape.trans hX.tape
  output := hb.output.trans hX.output
  size := Nat.le_trans hX.size hb.size
  old a y h := (withW_le hX hb).ic a y (hX.old a y h)

/-- A function at one more place. -/
def upd {α : Type} (f : Nat → α) (i : Nat) (x : α) : Nat → α := fun j => if j = i then x else f j
theorem upd_same {α : Type} (f : Nat → α) (i : Nat) (x : α) : upd f i x i = x := by simp [upd]
theorem upd_other {α : Type} (f : Nat → α) {i j : Nat} (x : α) (h : j ≠ i) : upd f i x j = f j := by simp [upd, h]

/-- A new block of cells. -/
def Ctx.push (X : Ctx) (i : Nat) (b : AB) (o : Obj) : Ctx :=
  { X with φ := upd X.φ i X.w.heap.size, H := upd X.H i (some b), w := X.w.alloc o }

theorem push_le {X : Ctx} (hX : HRel X) {i : Nat} (hi : X.H i = none) (b : AB) (hbl : b.loc = true) (o : Obj) : X.le (X.push i b o) where
  ic a y h := by
    obtain ⟨h1, h2, h3, h4, h5⟩ := h
    have hl := World.block_lt_of_cell? _ _ h3
    refine ⟨h1, h2, ?_, ?_, h5⟩
    · exact (World.cell?_alloc_lt X.w o a hl).trans h3
    · intro j c hj hc
      by_cases e : j = i
      · subst e; simp only [Ctx.push, upd_same]; omega
      · simp only [Ctx.push, upd_other _ _ e] at hj ⊢; exact h4 j c hj hc
  loc j c hj hm := by
    have e : j ≠ i := fun e => by subst e; rw [hi] at hj; cases hj
    exact ⟨⟨c, by simp only [Ctx.push, upd_other _ _ e]; exact hj, hm⟩, by simp only [Ctx.push, upd_other _ _ e]⟩
  arr j row l hj := by
    have e : j ≠ i := fun e => by subst e; rw [hi] at hj; cases hj
    exact ⟨l, by simp only [Ctx.push, upd_other _ _ e]; exact hj, rfl⟩
  tok j u v hj := by
    have e : j ≠ i := fun e => by subst e; rw [hi] at hj; cases hj
    refine ⟨v, by simp only [Ctx.push, upd_other _ _ e]; exact hj, Nat.le_refl _, fun _ => ⟨by simp only [Ctx.push, upd_other _ _ e], fun t p q ⟨t1, t2, c, mk, t3, t4⟩ => ⟨t1, ?_, c, mk, ?_, t4⟩⟩⟩
    · simp only [Ctx.push, upd_other _ _ e]; exact t2
    · simp only [Ctx.push, upd_other _ _ e]; exact (Below.heap_alloc _ _ _ (hX.ltt j t1)).trans t3
  w0 := rfl
  lent := rfl
  oldeq := rfl

theorem HRel.push {X : Ctx} (hX : HRel X) {i : Nat} (hi : X.H i = none) (b : AB) (hbl : b.loc = true) (o : Obj)
    (hb : BRel (X.push i b o) i b) : HRel (X.push i b o) := by
  have hle := push_le hX hi b hbl o
  have hti : ¬ X.tl i := fun h => hX.tlH i h hi
  have old_of : ∀ j c, (X.push i b o).H j = some c → j ≠ i → X.H j = some c := fun j c hj e => by simpa only [Ctx.push, upd_other _ _ e] using hj
  have φ_of : ∀ j, j ≠ i → (X.push i b o).φ j = X.φ j := fun j e => by simp only [Ctx.push, upd_other _ _ e]
  have φ_i : (X.push i b o).φ i = X.w.heap.size := by simp only [Ctx.push, upd_same]
  refine ⟨?_, ?_, ?_, ?_, ?_, ?_, ?_, ?_, ?_, ?_, ?_, hX.os, hX.tape, hX.output, ?_, ?_⟩
  · intro j k c d hj hk hc hd hne
    by_cases ej : j = i
    · have ek : k ≠ i := fun e => hne (ej.trans e.symm)
      rw [ej, φ_i, φ_of k ek]
      have := hX.lt k d (old_of k d hk ek) hd
      omega
    · by_cases ek : k = i
      · rw [ek, φ_i, φ_of j ej]
        have := hX.lt j c (old_of j c hj ej) hc
        omega
      · rw [φ_of j ej, φ_of k ek]
        exact hX.inj j k c d (old_of j c hj ej) (old_of k d hk ek) hc hd hne
  · intro j k hj hk hne
    have ej : j ≠ i := fun e => hti (e ▸ hj)
    have ek : k ≠ i := fun e => hti (e ▸ hk)
    rw [φ_of j ej, φ_of k ek]
    exact hX.injt j k hj hk hne
  · intro j c k hj hc hk
    have ek : k ≠ i := fun e => hti (e ▸ hk)
    rw [φ_of k ek]
    by_cases ej : j = i
    · rw [ej, φ_i]
      have := hX.ltt k hk
      omega
    · rw [φ_of j ej]
      exact hX.injm j c k (old_of j c hj ej) hc hk
  · intro j c hj hc
    by_cases ej : j = i
    · rw [ej, φ_i]; exact .inl hX.size
    · rw [φ_of j ej]; exact hX.place j c (old_of j c hj ej) hc
  · intro j hj
    have ej : j ≠ i := fun e => hti (e ▸ hj)
    rw [φ_of j ej]; exact hX.placet j hj
  · intro j c hj hc
    show _ < (X.w.alloc o).heap.size
    rw [World.size_alloc]
    by_cases ej : j = i
    · rw [ej, φ_i]; omega
    · rw [φ_of j ej]
      have := hX.lt j c (old_of j c hj ej) hc
      omega
  · intro j hj
    show _ < (X.w.alloc o).heap.size
    rw [World.size_alloc]
    have ej : j ≠ i := fun e => hti (e ▸ hj)
    rw [φ_of j ej]
    have := hX.ltt j hj
    omega
  · intro j hj
    have ej : j ≠ i := fun e => hti (e ▸ hj)
    simp only [Ctx.push, upd_other _ _ ej]; exact hX.tlH j hj
  · intro k e h
    show _ < (X.w.alloc o).heap.size
    rw [World.size_alloc]
    have := hX.frlt k e h
    omega
  · intro j c hj
    by_cases ej : j = i
    · subst ej
      have : c = b := by simpa only [Ctx.push, upd_same, Option.some.injEq] using hj.symm
      subst this; exact hb
    · have hj' := old_of j c hj ej
      cases hm : c.loc with
      | true => exact BRel.mono hle (φ_of j ej) (Below.heap_alloc _ _ _ (hX.lt j c hj' hm)) (hX.blk j c hj')
      | false => cases c <;> first | trivial | cases hm
  · intro k hk hl
    exact (Below.heap_alloc _ _ _ (Nat.lt_of_lt_of_le hk hX.size)).trans (hX.below k hk hl)
  · show _ ≤ (X.w.alloc o).heap.size
    rw [World.size_alloc]
    have := hX.size
    show X.w0.heap.size ≤ _
    omega
  · intro a y h
    exact hle.ic a y (hX.old a y h)
end Go.Eng
