import Derived.Test.YtolhkkoakneflaaEngT
import Derived.Scope
set_option linter.unusedVariables false
namespace Go.Eng
open Go Go.RowKit
variable {P : Program}

inductive XE where
  | normal | exit (id : Nat) | ret

def XE.out : XE → Exit
  | .normal => .normal
  | .exit id => .exit id
  | .ret => .ret

/-- A loop's name: its body's first region. -/
def firstId : Code → Option Nat
  | .region id _ _ => some id
  | .seq a b => match firstId a with
    | some i => some i
    | none => firstId b
  | .cond _ x y => match firstId x with
    | some i => some i
    | none => firstId y
  | .block _ c => firstId c
  | .loop c => firstId c
  | .scope c => firstId c
  | _ => none

def loopsOf : Code → List Code
  | .seq a b => loopsOf a ++ loopsOf b
  | .cond _ x y => loopsOf x ++ loopsOf y
  | .block _ c => loopsOf c
  | .loop c => c :: loopsOf c
  | .scope c => loopsOf c
  | _ => []

/-- What is known of a function's loops. -/
abbrev LC := Nat → St → Option (XE × St)

def loopGo (f : St → Option (XE × St)) : Nat → St → Option (XE × St)
  | 0, _ => none
  | n + 1, σ => match f σ with
    | some (.normal, σ') => loopGo f n σ'
    | some (.exit i, σ') => some (.exit i, σ')
    | some (.ret, σ') => some (.ret, σ')
    | none => none

def lcAt (lc : LC) (i : Option Nat) (σ : St) : Option (XE × St) :=
  match i with
  | some i => lc i σ
  | none => none

def exec (P : Program) (kp : KP) (kq : KX) (kh : KH) (lc : LC) (n : Nat) : Code → St → Option (XE × St)
  | .skip, σ => some (.normal, σ)
  | .label _, σ => some (.normal, σ)
  | .ret, σ => some (.ret, σ)
  | .exit id, σ => some (.exit id, σ)
  | .region _ ops true, σ => match drawRun P kp kq kh ops σ with
    | some σ' => some (.normal, σ')
    | none => none
  | .region _ ops false, σ => match opsRun P kp kh ops (List.range ops.size) σ with
    | some σ' => some (.normal, σ')
    | none => none
  | .seq a b, σ => match exec P kp kq kh lc n a σ with
    | some (.normal, σ') => exec P kp kq kh lc n b σ'
    | some (.exit i, σ') => some (.exit i, σ')
    | some (.ret, σ') => some (.ret, σ')
    | none => none
  | .cond c x y, σ => match σ.ev [] c with
    | some (.one (.bool b)) => match br b σ.os with
      | (true, cs, r) => exec P kp kq kh lc n x { σ with os := r, cs := cs ++ σ.cs }
      | (false, cs, r) => exec P kp kq kh lc n y { σ with os := r, cs := cs ++ σ.cs }
    | _ => none
  | .block id c, σ => match exec P kp kq kh lc n c σ with
    | some (.exit i, σ') => if Nat.beq i id then some (.normal, σ') else some (.exit i, σ')
    | some (.normal, σ') => some (.normal, σ')
    | some (.ret, σ') => some (.ret, σ')
    | none => none
  | .scope c, σ => exec P kp kq kh lc n c σ
  | .loop c, σ => match lcAt lc (firstId c) σ with
    | some r => some r
    | none => loopGo (fun σ => exec P kp kq kh lc n c σ) n σ
  | .rangeFunc .., _ => none
  | .goto _, _ => none
  | .refuse _, _ => none

def LoopAt (P : Program) (c : Code) (Q : Exit → Act → World → Prop) (a : Act) (w : World) : Prop :=
  ∀ (b : Frame) (k : List Item) (cs : List Frame), ∃ e a' w', Q e a' w' ∧ Arrives P (lone (b.at a (.code c :: .inLoop c :: k)) cs w) b k cs e a' w'

theorem LoopAt.wp {c : Code} {Q : Exit → Act → World → Prop} {a : Act} {w : World} (h : LoopAt P c Q a w) : (Code.loop c).wp P Q a w := fun b k cs =>
  let ⟨e, a', w', hq, harr⟩ := h b k cs
  ⟨e, a', w', hq, .of_steps (.one step_loop) harr⟩

theorem LoopAt.round {c : Code} {Q : Exit → Act → World → Prop} {a : Act} {w : World} (h : c.wp P (Exit.then (LoopAt P c Q) Q) a w) : LoopAt P c Q a w := by
  intro b k cs
  obtain ⟨e, a₁, w₁, hq, harr⟩ := h b (.inLoop c :: k) cs
  cases e with
  | normal =>
    obtain ⟨e₂, a₂, w₂, hq₂, harr₂⟩ := hq b k cs
    exact ⟨e₂, a₂, w₂, hq₂, .of_steps (Steps.trans harr (.one step_inLoop)) harr₂⟩
  | exit id => exact ⟨_, a₁, w₁, hq, .pass (x := .inLoop c) rfl (fun _ _ => .inl (by simp)) harr⟩
  | goto l => exact ⟨_, a₁, w₁, hq, .pass (x := .inLoop c) rfl (fun _ _ => .inl (by simp)) harr⟩
  | ret => exact ⟨_, a₁, w₁, hq, .pass (x := .inLoop c) rfl (fun _ _ => .inl (by simp)) harr⟩
  | panic ch => exact ⟨_, a₁, w₁, hq, .pass (x := .inLoop c) rfl (fun _ _ => .inl (by simp)) harr⟩
  | outgrown => exact ⟨_, a₁, w₁, hq, .pass (x := .inLoop c) rfl (fun _ _ => .inl (by simp)) harr⟩

/-- From what is known at a loop's head, the loop comes to this. -/
def LoopSim (P : Program) (c : Code) (σ : St) (e : XE) (σ' : St) : Prop :=
  ∀ (X : Ctx) (a : Act) (Q : Exit → Act → World → Prop), Rel X σ a → (∀ X' a', X.le X' → Rel X' σ' a' → Q e.out a' X'.w) → LoopAt P c Q a X.w

/-- The loops of a piece of code do what is said of them. -/
def LCok (P : Program) (lc : LC) (c : Code) : Prop :=
  ∀ body ∈ loopsOf c, ∀ i, firstId body = some i → ∀ σ e σ', lc i σ = some (e, σ') → (∃ cs, σ'.cs = cs ++ σ.cs) ∧ ((∀ c ∈ σ'.cs, c = true) → LoopSim P body σ e σ')

theorem loopGo_suf {f : St → Option (XE × St)} (hf : ∀ σ e σ', f σ = some (e, σ') → ∃ cs, σ'.cs = cs ++ σ.cs) : ∀ (n : Nat) {σ e σ'}, loopGo f n σ = some (e, σ') → ∃ cs, σ'.cs = cs ++ σ.cs
  | 0, _, _, _, h => by cases h
  | n + 1, σ, e, σ', h => by
    simp only [loopGo] at h
    split at h
    · rename_i σ1 h1
      obtain ⟨c1, e1⟩ := hf _ _ _ h1
      obtain ⟨c2, e2⟩ := loopGo_suf hf n h
      exact ⟨c2 ++ c1, by rw [e2, e1]; simp⟩
    · rename_i h1
      simp only [Option.some.injEq, Prod.mk.injEq] at h
      obtain ⟨rfl, rfl⟩ := h
      exact hf _ _ _ h1
    · rename_i h1
      simp only [Option.some.injEq, Prod.mk.injEq] at h
      obtain ⟨rfl, rfl⟩ := h
      exact hf _ _ _ h1
    · cases h

theorem exec_suf {kp : KP} {kq : KX} {kh : KH} {lc : LC} {n : Nat} (c : Code) : LCok P lc c → ∀ {σ e σ'}, exec P kp kq kh lc n c σ = some (e, σ') → ∃ cs, σ'.cs = cs ++ σ.cs := by
  induction c with
  | skip | label | ret | exit =>
    intro _ σ e σ' h
    simp only [exec, Option.some.injEq, Prod.mk.injEq] at h
    rw [← h.2]; exact ⟨[], rfl⟩
  | region id ops draw =>
    intro _ σ e σ' h
    cases draw
    · simp only [exec] at h
      split at h
      · rename_i h1
        simp only [Option.some.injEq, Prod.mk.injEq] at h
        rw [← h.2]; exact opsRun_suf _ h1
      · cases h
    · simp only [exec] at h
      split at h
      · rename_i h1
        simp only [Option.some.injEq, Prod.mk.injEq] at h
        rw [← h.2]; exact drawRun_suf h1
      · cases h
  | seq a b iha ihb =>
    intro hl σ e σ' h
    have hla : LCok P lc a := fun body hb => hl body (List.mem_append_left _ hb)
    have hlb : LCok P lc b := fun body hb => hl body (List.mem_append_right _ hb)
    simp only [exec] at h
    split at h
    · rename_i h1
      obtain ⟨c1, e1⟩ := iha hla h1
      obtain ⟨c2, e2⟩ := ihb hlb h
      exact ⟨c2 ++ c1, by rw [e2, e1]; simp⟩
    · rename_i h1
      simp only [Option.some.injEq, Prod.mk.injEq] at h
      rw [← h.2]; exact iha hla h1
    · rename_i h1
      simp only [Option.some.injEq, Prod.mk.injEq] at h
      rw [← h.2]; exact iha hla h1
    · cases h
  | cond c x y ihx ihy =>
    intro hl σ e σ' h
    have hlx : LCok P lc x := fun body hb => hl body (List.mem_append_left _ hb)
    have hly : LCok P lc y := fun body hb => hl body (List.mem_append_right _ hb)
    simp only [exec] at h
    split at h
    · split at h
      · obtain ⟨c1, e1⟩ := ihx hlx h
        exact ⟨_, e1.trans (by simp only [← List.append_assoc]; rfl)⟩
      · obtain ⟨c1, e1⟩ := ihy hly h
        exact ⟨_, e1.trans (by simp only [← List.append_assoc]; rfl)⟩
    · cases h
  | block id c ih =>
    intro hl σ e σ' h
    simp only [exec] at h
    split at h
    · rename_i h1
      split at h <;>
      · simp only [Option.some.injEq, Prod.mk.injEq] at h
        rw [← h.2]; exact ih hl h1
    · rename_i h1
      simp only [Option.some.injEq, Prod.mk.injEq] at h
      rw [← h.2]; exact ih hl h1
    · rename_i h1
      simp only [Option.some.injEq, Prod.mk.injEq] at h
      rw [← h.2]; exact ih hl h1
    · cases h
  | loop c ih =>
    intro hl σ e σ' h
    simp only [exec] at h
    have hlc : LCok P lc c := fun body hb => hl body (List.mem_cons_of_mem _ hb)
    split at h
    · rename_i r h1
      injection h with h; subst h
      unfold lcAt at h1
      split at h1
      · rename_i i hi
        exact (hl c (List.mem_cons_self ..) i hi _ _ _ h1).1
      · cases h1
    · exact loopGo_suf (fun σ e σ' h => ih hlc h) n h
  | scope c ih =>
    intro hl σ e σ' h
    exact ih hl h
  | rangeFunc f ps x y => intro _ σ e σ' h; cases h
  | goto l => intro _ σ e σ' h; cases h
  | refuse w => intro _ σ e σ' h; cases h

theorem exec_sim (hm : P.follows .mixedOrders = true) {kp : KP} {kq : KX} {kh : KH} (hkp : KPok P kp) (hkq : KXok P kq) (hkh : KHok P kh) {lc : LC} {n : Nat} (c : Code) : LCok P lc c → ∀ {σ : St} {e : XE} {σ' : St}, exec P kp kq kh lc n c σ = some (e, σ') →
    (∀ c ∈ σ'.cs, c = true) → ∀ {X : Ctx} {a : Act}, Rel X σ a → ∀ {Q : Exit → Act → World → Prop}, (∀ X' a', X.le X' → Rel X' σ' a' → Q e.out a' X'.w) → c.wp P Q a X.w := by
  induction c with
  | skip =>
    intro _ σ e σ' h hc X a hr Q hq
    simp only [exec, Option.some.injEq, Prod.mk.injEq] at h
    obtain ⟨rfl, rfl⟩ := h
    exact wp_skip (hq X a (.refl X) hr)
  | label l =>
    intro _ σ e σ' h hc X a hr Q hq
    simp only [exec, Option.some.injEq, Prod.mk.injEq] at h
    obtain ⟨rfl, rfl⟩ := h
    exact wp_label (hq X a (.refl X) hr)
  | ret =>
    intro _ σ e σ' h hc X a hr Q hq
    simp only [exec, Option.some.injEq, Prod.mk.injEq] at h
    obtain ⟨rfl, rfl⟩ := h
    exact wp_ret (hq X a (.refl X) hr)
  | exit id =>
    intro _ σ e σ' h hc X a hr Q hq
    simp only [exec, Option.some.injEq, Prod.mk.injEq] at h
    obtain ⟨rfl, rfl⟩ := h
    exact wp_exit (hq X a (.refl X) hr)
  | region id ops draw =>
    intro _ σ e σ' h hc X a hr Q hq
    cases draw
    · simp only [exec] at h
      split at h
      · rename_i h1
        simp only [Option.some.injEq, Prod.mk.injEq] at h
        obtain ⟨rfl, rfl⟩ := h
        exact wp_region (opsRun_sim hkp hkh _ hr h1 hc hq)
      · cases h
    · simp only [exec] at h
      split at h
      · rename_i h1
        simp only [Option.some.injEq, Prod.mk.injEq] at h
        obtain ⟨rfl, rfl⟩ := h
        exact drawRun_sim hm hkp hkq hkh hr h1 hc hq
      · cases h
  | seq x y iha ihb =>
    intro hl σ e σ' h hc X a hr Q hq
    have hla : LCok P lc x := fun body hb => hl body (List.mem_append_left _ hb)
    have hlb : LCok P lc y := fun body hb => hl body (List.mem_append_right _ hb)
    simp only [exec] at h
    split at h
    · rename_i σ1 h1
      obtain ⟨c2, e2⟩ := exec_suf y hlb h
      refine wp_seq (iha hla h1 (fun q hq => hc q (by rw [e2]; exact List.mem_append_right _ hq)) hr fun X' a' hle hr' => ?_)
      exact ihb hlb h hc hr' fun X'' a'' hle' hr'' => hq X'' a'' (hle.trans hle') hr''
    · rename_i h1
      simp only [Option.some.injEq, Prod.mk.injEq] at h
      obtain ⟨rfl, rfl⟩ := h
      exact wp_seq (iha hla h1 hc hr fun X' a' hle hr' => hq X' a' hle hr')
    · rename_i h1
      simp only [Option.some.injEq, Prod.mk.injEq] at h
      obtain ⟨rfl, rfl⟩ := h
      exact wp_seq (iha hla h1 hc hr fun X' a' hle hr' => hq X' a' hle hr')
    · cases h
  | cond c x y ihx ihy =>
    intro hl σ e σ' h hc X a hr Q hq
    have hlx : LCok P lc x := fun body hb => hl body (List.mem_append_left _ hb)
    have hly : LCok P lc y := fun body hb => hl body (List.mem_append_right _ hb)
    simp only [exec] at h
    split at h
    · rename_i b hb
      have hbv : a.eval c = .bool b := hr.ev (chain := []) (fun g hg => by cases hg) hb
      split at h
      · rename_i cs r hbr
        obtain ⟨c1, e1⟩ := exec_suf x hlx h
        have := br_eq (b := b) (os := σ.os) (by rw [hbr]; intro q hq; exact hc q (by rw [e1]; exact List.mem_append_right _ (List.mem_append_left _ hq)))
        rw [hbr] at this
        simp only at this
        rw [← this] at hbv
        exact wp_cond_true hbv (ihx hlx h hc (hr.cs r (cs ++ σ.cs)) hq)
      · rename_i cs r hbr
        obtain ⟨c1, e1⟩ := exec_suf y hly h
        have := br_eq (b := b) (os := σ.os) (by rw [hbr]; intro q hq; exact hc q (by rw [e1]; exact List.mem_append_right _ (List.mem_append_left _ hq)))
        rw [hbr] at this
        simp only at this
        rw [← this] at hbv
        exact wp_cond_false hbv (ihy hly h hc (hr.cs r (cs ++ σ.cs)) hq)
    · cases h
  | block id c ih =>
    intro hl σ e σ' h hc X a hr Q hq
    simp only [exec] at h
    refine wp_block ?_
    split at h
    · rename_i i σ1 h1
      split at h
      · rename_i hi
        simp only [Nat.beq_eq] at hi
        simp only [Option.some.injEq, Prod.mk.injEq] at h
        obtain ⟨rfl, rfl⟩ := h
        refine ih hl h1 hc hr fun X' a' hle hr' => ?_
        simp only [XE.out, Exit.inBlock, hi, if_true]
        exact hq X' a' hle hr'
      · rename_i hi
        simp only [Nat.beq_eq] at hi
        simp only [Option.some.injEq, Prod.mk.injEq] at h
        obtain ⟨rfl, rfl⟩ := h
        refine ih hl h1 hc hr fun X' a' hle hr' => ?_
        simp only [XE.out, Exit.inBlock, hi, if_false]
        exact hq X' a' hle hr'
    · rename_i h1
      simp only [Option.some.injEq, Prod.mk.injEq] at h
      obtain ⟨rfl, rfl⟩ := h
      exact ih hl h1 hc hr fun X' a' hle hr' => hq X' a' hle hr'
    · rename_i h1
      simp only [Option.some.injEq, Prod.mk.injEq] at h
      obtain ⟨rfl, rfl⟩ := h
      exact ih hl h1 hc hr fun X' a' hle hr' => hq X' a' hle hr'
    · cases h
  | loop c ih =>
    intro hl σ e σ' h hc X a hr Q hq
    simp only [exec] at h
    have hlc : LCok P lc c := fun body hb => hl body (List.mem_cons_of_mem _ hb)
    refine LoopAt.wp ?_
    split at h
    · rename_i r h1
      injection h with h; subst h
      unfold lcAt at h1
      split at h1
      · rename_i i hi
        exact (hl c (List.mem_cons_self ..) i hi _ _ _ h1).2 hc X a Q hr hq
      · cases h1
    · have key : ∀ (k : Nat) {σ : St} {X : Ctx} {a : Act}, loopGo (fun σ => exec P kp kq kh lc n c σ) k σ = some (e, σ') → Rel X σ a → (∀ X' a', X.le X' → Rel X' σ' a' → Q e.out a' X'.w) → LoopAt P c Q a X.w := by
        intro k
        induction k with
        | zero => intro σ X a h; cases h
        | succ k ihk =>
          intro σ X a h hr hq
          simp only [loopGo] at h
          refine LoopAt.round ?_
          split at h
          · rename_i σ1 h1
            obtain ⟨c2, e2⟩ := loopGo_suf (fun σ e σ' h => exec_suf c hlc h) k h
            refine ih hlc h1 (fun q hq => hc q (by rw [e2]; exact List.mem_append_right _ hq)) hr fun X' a' hle hr' => ?_
            exact ihk h hr' fun X'' a'' hle' hr'' => hq X'' a'' (hle.trans hle') hr''
          · rename_i h1
            simp only [Option.some.injEq, Prod.mk.injEq] at h
            obtain ⟨rfl, rfl⟩ := h
            exact ih hlc h1 hc hr fun X' a' hle hr' => hq X' a' hle hr'
          · rename_i h1
            simp only [Option.some.injEq, Prod.mk.injEq] at h
            obtain ⟨rfl, rfl⟩ := h
            exact ih hlc h1 hc hr fun X' a' hle hr' => hq X' a' hle hr'
          · cases h
      exact key n h hr hq
  | scope c ih =>
    intro hl σ e σ' h hc X a hr Q hq
    refine wp_scope_straight (ih hl h hc hr fun X' a' hle hr' => ?_)
    have := hq X' a' hle hr'
    cases e <;> exact this
  | rangeFunc f ps x y => intro _ σ e σ' h; cases h
  | goto l => intro _ σ e σ' h; cases h
  | refuse w => intro _ σ e σ' h; cases h
end Go.Eng
