import Derived.Test.YtolhkkoakneflaaEngY
set_option linter.unusedVariables false
namespace Go.Eng
open Go Go.RowKit
variable {P : Program}

/-! ### What a run leaves alone -/

def dstsO (ops : Array Oper) : List Nat := ops.toList.filterMap (·.dst)
def dstsC : Code → List Nat
  | .region _ ops _ => dstsO ops
  | .seq a b => dstsC a ++ dstsC b
  | .cond _ x y => dstsC x ++ dstsC y
  | .block _ c => dstsC c
  | .loop c => dstsC c
  | .scope c => dstsC c
  | _ => []

/-- What one state keeps of another, but for some slots. -/
structure Keeps (ds : List Nat) (σ σ' : St) : Prop where
  nt : σ'.nt = σ.nt
  spec : σ'.spec = σ.spec
  tg : σ.tg = [] → σ'.tg = []
  tm : ∀ t, t ∉ ds → lookT σ'.tm t = lookT σ.tm t

theorem Keeps.refl (ds : List Nat) (σ : St) : Keeps ds σ σ := ⟨rfl, rfl, id, fun _ _ => rfl⟩
theorem Keeps.trans {ds : List Nat} {σ σ' σ'' : St} (h : Keeps ds σ σ') (k : Keeps ds σ' σ'') : Keeps ds σ σ'' :=
  ⟨k.nt.trans h.nt, k.spec.trans h.spec, fun e => k.tg (h.tg e), fun t ht => (k.tm t ht).trans (h.tm t ht)⟩
theorem Keeps.mono {ds ds' : List Nat} {σ σ' : St} (h : Keeps ds σ σ') (hs : ∀ t ∈ ds, t ∈ ds') : Keeps ds' σ σ' :=
  ⟨h.nt, h.spec, h.tg, fun t ht => h.tm t fun hh => ht (hs t hh)⟩
theorem Keeps.of {ds : List Nat} {σ σ' : St} {hp : List AB} {os cs : List Bool} (h : Keeps ds { σ with hp := hp, os := os, cs := cs } σ') : Keeps ds σ σ' := ⟨h.nt, h.spec, h.tg, h.tm⟩
theorem Keeps.of2 {ds : List Nat} {σ σ' : St} {os cs : List Bool} (h : Keeps ds { σ with os := os, cs := cs } σ') : Keeps ds σ σ' := ⟨h.nt, h.spec, h.tg, h.tm⟩

theorem put_keeps {σ σ' : St} {d : Option Nat} {v : AV} (h : σ.put d v = some σ') : Keeps d.toList σ σ' := by
  cases d with
  | none => simp only [St.put, Option.some.injEq] at h; subst h; exact .refl _ _
  | some d =>
    simp only [St.put] at h
    split at h
    · injection h with h; subst h
      refine ⟨rfl, rfl, fun e => by simp [e, dropTag], fun t ht => ?_⟩
      have : Nat.beq d t = false := by
        rw [Bool.eq_false_iff]
        intro e; simp only [Nat.beq_eq] at e; subst e; exact ht (by simp)
      simp only [lookT, this]
      rfl
    · cases h

theorem runO_keeps {kp : KP} {kh : KH} {o : Oper} {chain : List (Nat × Bool)} {σ σ' : St} (hr : runO P kp kh o chain σ = some σ') : Keeps o.dst.toList σ σ' := by
  unfold runO at hr
  split at hr
  · split at hr
    · exact put_keeps hr
    · split at hr
      · split at hr
        split at hr
        · exact (put_keeps hr).of2
        · cases hr
      · cases hr
  · split at hr
    · split at hr
      · exact (put_keeps hr).of2
      · split at hr
        · exact (put_keeps hr).of
        · cases hr
    · cases hr
  · split at hr
    · split at hr
      · exact (put_keeps hr).of
      · cases hr
    · cases hr

theorem stepOp_keeps {kp : KP} {kh : KH} {ops : Array Oper} {o : Oper} {σ σ' : St} (hr : stepOp P kp kh ops o σ = some σ') : Keeps o.dst.toList σ σ' := by
  unfold stepOp at hr
  split at hr
  · exact runO_keeps hr
  · split at hr
    · cases hr
    · split at hr
      · split at hr
        split at hr
        · exact (runO_keeps hr).of2
        · exact (put_keeps hr).of2
      · exact put_keeps hr
      · cases hr

theorem opsRun_keeps {kp : KP} {kh : KH} {ops : Array Oper} : ∀ (l : List Nat) {σ σ' : St}, opsRun P kp kh ops l σ = some σ' → Keeps (dstsO ops) σ σ'
  | [], σ, σ', hr => by
    simp only [opsRun, Option.some.injEq] at hr
    subst hr
    exact .refl _ _
  | i :: r, σ, σ', hr => by
    simp only [opsRun] at hr
    split at hr
    · exact opsRun_keeps r hr
    · rename_i o ho
      split at hr
      · rename_i σ1 hs
        refine ((stepOp_keeps hs).mono fun t ht => ?_).trans (opsRun_keeps r hr)
        unfold dstsO
        rw [List.mem_filterMap]
        exact ⟨o, Array.mem_toList_iff.2 (Array.mem_of_getElem? ho), by simpa using ht⟩
      · cases hr

theorem drec_dst {kp : KX} {ops : Array Oper} {o : Oper} {nt : Nat} {T : Nat → Option AV} {H : Nat → Option AB} {nid : Nat} {os : List Bool} {r : DRec} {cs' os' : List Bool} (hd : drec P kp ops o nt T H nid os = some (r, cs', os')) : r.dst = o.dst := by
  unfold drec at hd
  split at hd
  · split at hd
    · exact (recOf_nid hd).2.1
    · split at hd
      · cases hd
      · split at hd
        · split at hd
          split at hd
          · split at hd
            · rename_i h1
              simp only [Option.some.injEq, Prod.mk.injEq] at hd
              rw [← hd.1]; exact (recOf_nid h1).2.1
            · cases hd
          · simp only [Option.some.injEq, Prod.mk.injEq] at hd
            rw [← hd.1]
        · injection hd with hd
          injection hd with hd _
          rw [← hd]
        · cases hd
  · cases hd

theorem Good.dst {kp : KX} {ops : Array Oper} {nt : Nat} {T0 : Nat → Option AV} {H0 : Nat → Option AB} {cs : List Bool} : ∀ {L : List DRec}, Good P kp ops nt T0 H0 cs L → ∀ r ∈ L, ∀ d, r.dst = some d → d ∈ dstsO ops
  | [], _, r, hr, _, _ => by cases hr
  | r0 :: L, hg, r, hr, d, hd => by
    obtain ⟨h1, o, nid, os, cs', os', ho, hdr, _, _⟩ := hg
    rcases List.mem_cons.1 hr with rfl | hr
    · unfold dstsO
      rw [List.mem_filterMap]
      exact ⟨o, Array.mem_toList_iff.2 (Array.mem_of_getElem? ho), by rw [← drec_dst hdr]; exact hd⟩
    · exact Good.dst h1 r hr d hd

theorem tmOf_keeps {tm : List (Nat × AV)} {t : Nat} : ∀ {L : List DRec}, (∀ r ∈ L, ∀ d, r.dst = some d → d ≠ t) → lookT (tmOf tm L) t = lookT tm t
  | [], _ => rfl
  | r :: L, h => by
    have ih := tmOf_keeps (tm := tm) (L := L) fun r hr => h r (List.mem_cons_of_mem _ hr)
    simp only [tmOf]
    split
    · rename_i d hd
      have : Nat.beq d t = false := by
        rw [Bool.eq_false_iff]
        intro e; simp only [Nat.beq_eq] at e; exact h r (List.mem_cons_self ..) d hd e
      simp only [lookT, this]
      exact ih
    · exact ih

theorem drawRun_keeps {kp : KP} {kq : KX} {kh : KH} {ops : Array Oper} {σ σ' : St} (hr : drawRun P kp kq kh ops σ = some σ') : Keeps (dstsO ops) σ σ' := by
  unfold drawRun at hr
  split at hr
  · split at hr
    · split at hr
      · rename_i L m os cs hd
        split at hr
        · obtain ⟨hg, _, c2, e⟩ := dpass_good (P := P) _ _ _ _ _ hd (fun j o h => by
            rw [List.getElem?_take] at h
            split at h
            · simpa using h
            · cases h) trivial
          have h2 := opsRun_keeps _ hr
          refine Keeps.trans (σ' := { σ with tm := tmOf σ.tm L, hp := hpOf (heapAt σ.H all L) (σ.hp.length + m) 0, os, cs }) ?_ h2
          exact ⟨rfl, rfl, fun e => e, fun t ht => tmOf_keeps fun r hr d hd e => ht (e ▸ hg.dst r hr d hd)⟩
        · cases hr
      · cases hr
    · cases hr
  · cases hr

/-- The loops of a piece of code leave alone what they don't write. -/
def LCkeep (lc : LC) (c : Code) : Prop := ∀ body ∈ loopsOf c, ∀ i, firstId body = some i → ∀ σ e σ', lc i σ = some (e, σ') → Keeps (dstsC body) σ σ'

theorem loopGo_keeps {ds : List Nat} {f : St → Option (XE × St)} (hf : ∀ σ e σ', f σ = some (e, σ') → Keeps ds σ σ') : ∀ (n : Nat) {σ e σ'}, loopGo f n σ = some (e, σ') → Keeps ds σ σ'
  | 0, _, _, _, h => by cases h
  | n + 1, σ, e, σ', h => by
    simp only [loopGo] at h
    split at h
    · rename_i σ1 h1
      exact (hf _ _ _ h1).trans (loopGo_keeps hf n h)
    · rename_i h1
      simp only [Option.some.injEq, Prod.mk.injEq] at h
      obtain ⟨rfl, rfl⟩ := h
      exact hf _ _ _ h1
    · rename_i h1
      simp only [Option.some.injEq, Prod.mk.injEq] at h
      obtain ⟨rfl, rfl⟩ := h
      exact hf _ _ _ h1
    · cases h

theorem exec_keeps {kp : KP} {kq : KX} {kh : KH} {lc : LC} {n : Nat} (c : Code) : LCkeep lc c → ∀ {σ e σ'}, exec P kp kq kh lc n c σ = some (e, σ') → Keeps (dstsC c) σ σ' := by
  induction c with
  | skip | label | ret | exit =>
    intro _ σ e σ' h
    simp only [exec, Option.some.injEq, Prod.mk.injEq] at h
    rw [← h.2]; exact .refl _ _
  | region id ops draw =>
    intro _ σ e σ' h
    cases draw
    · simp only [exec] at h
      split at h
      · rename_i h1
        simp only [Option.some.injEq, Prod.mk.injEq] at h
        rw [← h.2]; exact opsRun_keeps _ h1
      · cases h
    · simp only [exec] at h
      split at h
      · rename_i h1
        simp only [Option.some.injEq, Prod.mk.injEq] at h
        rw [← h.2]; exact drawRun_keeps h1
      · cases h
  | seq a b iha ihb =>
    intro hl σ e σ' h
    have hla : LCkeep lc a := fun body hb => hl body (List.mem_append_left _ hb)
    have hlb : LCkeep lc b := fun body hb => hl body (List.mem_append_right _ hb)
    have L : ∀ t ∈ dstsC a, t ∈ dstsC (.seq a b) := fun t ht => List.mem_append_left _ ht
    have R : ∀ t ∈ dstsC b, t ∈ dstsC (.seq a b) := fun t ht => List.mem_append_right _ ht
    simp only [exec] at h
    split at h
    · rename_i h1
      exact ((iha hla h1).mono L).trans ((ihb hlb h).mono R)
    · rename_i h1
      simp only [Option.some.injEq, Prod.mk.injEq] at h
      rw [← h.2]; exact (iha hla h1).mono L
    · rename_i h1
      simp only [Option.some.injEq, Prod.mk.injEq] at h
      rw [← h.2]; exact (iha hla h1).mono L
    · cases h
  | cond c x y ihx ihy =>
    intro hl σ e σ' h
    have hlx : LCkeep lc x := fun body hb => hl body (List.mem_append_left _ hb)
    have hly : LCkeep lc y := fun body hb => hl body (List.mem_append_right _ hb)
    have L : ∀ t ∈ dstsC x, t ∈ dstsC (.cond c x y) := fun t ht => List.mem_append_left _ ht
    have R : ∀ t ∈ dstsC y, t ∈ dstsC (.cond c x y) := fun t ht => List.mem_append_right _ ht
    simp only [exec] at h
    split at h
    · split at h
      · exact ((ihx hlx h).mono L).of2
      · exact ((ihy hly h).mono R).of2
    · cases h
  | block id c ih =>
    intro hl σ e σ' h
    simp only [exec] at h
    split at h
    · rename_i h1
      split at h <;>
      · simp only [Option.some.injEq, Prod.mk.injEq] at h
        rw [← h.2]; exact ih hl h1
    · rename_i h1
      simp only [Option.some.injEq, Prod.mk.injEq] at h
      rw [← h.2]; exact ih hl h1
    · rename_i h1
      simp only [Option.some.injEq, Prod.mk.injEq] at h
      rw [← h.2]; exact ih hl h1
    · cases h
  | loop c ih =>
    intro hl σ e σ' h
    simp only [exec] at h
    have hlc : LCkeep lc c := fun body hb => hl body (List.mem_cons_of_mem _ hb)
    split at h
    · rename_i r h1
      injection h with h; subst h
      unfold lcAt at h1
      split at h1
      · rename_i i hi
        exact hl c (List.mem_cons_self ..) i hi _ _ _ h1
      · cases h1
    · exact loopGo_keeps (fun σ e σ' h => ih hlc h) n h
  | scope c ih =>
    intro hl σ e σ' h
    exact ih hl h
  | rangeFunc f ps x y => intro _ σ e σ' h; cases h
  | goto l => intro _ σ e σ' h; cases h
  | refuse w => intro _ σ e σ' h; cases h
end Go.Eng
