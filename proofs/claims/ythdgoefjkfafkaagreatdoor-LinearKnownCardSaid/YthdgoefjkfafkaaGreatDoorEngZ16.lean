import Derived.Test.YthdgoefjkfafkaaGreatDoorEngZ10
set_option linter.unusedVariables false
namespace Go.Eng
open Go Go.RowKit Go.ChangeMaps
variable {P : Program}

/-! ### A loop that comes to one of several ends: which, is not told -/

def lcD (lc : LC) (i0 : Nat) (sp : St → Option (XE × St)) : LC := fun i σ => if Nat.beq i i0 then sp σ else lc i σ

/-- Does this loop stand in the code? -/
def specIn (i0 : Nat) : Code → Bool
  | .seq a b => specIn i0 a || specIn i0 b
  | .cond _ x y => specIn i0 x || specIn i0 y
  | .block _ c => specIn i0 c
  | .loop c => (match firstId c with | some i => Nat.beq i i0 | none => false) || specIn i0 c
  | .scope c => specIn i0 c
  | _ => false
/-- It stands at one place of a way at most, and in no other loop. -/
def onceIn (i0 : Nat) : Code → Bool
  | .seq a b => !(specIn i0 a && specIn i0 b) && (onceIn i0 a && onceIn i0 b)
  | .cond _ x y => onceIn i0 x && onceIn i0 y
  | .block _ c => onceIn i0 c
  | .loop c => !specIn i0 c
  | .scope c => onceIn i0 c
  | _ => true

theorem exec_lcD {kp : KP} {kq : KX} {kh : KH} {lc : LC} {n i0 : Nat} {sp : St → Option (XE × St)} (c : Code) : specIn i0 c = false → ∀ σ, exec P kp kq kh (lcD lc i0 sp) n c σ = exec P kp kq kh lc n c σ := by
  induction c with
  | seq a b iha ihb =>
    intro h σ
    simp only [specIn, Bool.or_eq_false_iff] at h
    simp only [exec, iha h.1]
    split <;> simp only [ihb h.2]
  | cond c x y ihx ihy =>
    intro h σ
    simp only [specIn, Bool.or_eq_false_iff] at h
    simp only [exec, ihx h.1, ihy h.2]
  | block id c ih =>
    intro h σ
    simp only [exec, ih h]
  | loop c ih =>
    intro h σ
    simp only [specIn, Bool.or_eq_false_iff] at h
    have h1 : lcAt (lcD lc i0 sp) (firstId c) σ = lcAt lc (firstId c) σ := by
      have := h.1
      unfold lcAt
      cases hf : firstId c with
      | none => rfl
      | some i =>
        rw [hf] at this
        simp only at this
        simp only [lcD]
        rw [this]; rfl
    have h2 : (fun σ => exec P kp kq kh (lcD lc i0 sp) n c σ) = fun σ => exec P kp kq kh lc n c σ := funext fun σ => ih h.2 σ
    simp only [exec, h1, h2]
  | scope c ih =>
    intro h σ
    simp only [exec, ih h]
  | skip | label _ | ret | exit _ | rangeFunc _ _ _ _ | goto _ | refuse _ => intro _ σ; rfl
  | region id ops draw => intro _ σ; cases draw <;> rfl

/-- From what is known at a loop's head, the loop comes to one of these. -/
def LoopSimN (P : Program) (c : Code) {δ : Type} (σ : St) (out : δ → XE × St) : Prop :=
  ∀ (X : Ctx) (a : Act) (Q : Exit → Act → World → Prop), Rel X σ a → (∀ d X' a', X.le X' → Rel X' (out d).2 a' → Q (out d).1.out a' X'.w) → LoopAt P c Q a X.w

def LCsuf (lc : LC) (c : Code) : Prop := ∀ body ∈ loopsOf c, ∀ i, firstId body = some i → ∀ σ e σ', lc i σ = some (e, σ') → ∃ cs, σ'.cs = cs ++ σ.cs
theorem exec_suf2 {kp : KP} {kq : KX} {kh : KH} {lc : LC} {n : Nat} (c : Code) : LCsuf lc c → ∀ {σ e σ'}, exec P kp kq kh lc n c σ = some (e, σ') → ∃ cs, σ'.cs = cs ++ σ.cs := by
  induction c with
  | skip | label | ret | exit =>
    intro _ σ e σ' h
    simp only [exec, Option.some.injEq, Prod.mk.injEq] at h
    rw [← h.2]; exact ⟨[], rfl⟩
  | region id ops draw =>
    intro _ σ e σ' h
    cases draw
    · simp only [exec] at h
      split at h
      · rename_i h1
        simp only [Option.some.injEq, Prod.mk.injEq] at h
        rw [← h.2]; exact opsRun_suf _ h1
      · cases h
    · simp only [exec] at h
      split at h
      · rename_i h1
        simp only [Option.some.injEq, Prod.mk.injEq] at h
        rw [← h.2]; exact drawRun_suf h1
      · cases h
  | seq a b iha ihb =>
    intro hl σ e σ' h
    have hla : LCsuf lc a := fun body hb => hl body (List.mem_append_left _ hb)
    have hlb : LCsuf lc b := fun body hb => hl body (List.mem_append_right _ hb)
    simp only [exec] at h
    split at h
    · rename_i h1
      obtain ⟨c1, e1⟩ := iha hla h1
      obtain ⟨c2, e2⟩ := ihb hlb h
      exact ⟨c2 ++ c1, by rw [e2, e1]; simp⟩
    · rename_i h1
      simp only [Option.some.injEq, Prod.mk.injEq] at h
      rw [← h.2]; exact iha hla h1
    · rename_i h1
      simp only [Option.some.injEq, Prod.mk.injEq] at h
      rw [← h.2]; exact iha hla h1
    · cases h
  | cond c x y ihx ihy =>
    intro hl σ e σ' h
    have hlx : LCsuf lc x := fun body hb => hl body (List.mem_append_left _ hb)
    have hly : LCsuf lc y := fun body hb => hl body (List.mem_append_right _ hb)
    simp only [exec] at h
    split at h
    · split at h
      · obtain ⟨c1, e1⟩ := ihx hlx h
        exact ⟨_, e1.trans (by simp only [← List.append_assoc]; rfl)⟩
      · obtain ⟨c1, e1⟩ := ihy hly h
        exact ⟨_, e1.trans (by simp only [← List.append_assoc]; rfl)⟩
    · cases h
  | block id c ih =>
    intro hl σ e σ' h
    simp only [exec] at h
    split at h
    · rename_i h1
      split at h <;>
      · simp only [Option.some.injEq, Prod.mk.injEq] at h
        rw [← h.2]; exact ih hl h1
    · rename_i h1
      simp only [Option.some.injEq, Prod.mk.injEq] at h
      rw [← h.2]; exact ih hl h1
    · rename_i h1
      simp only [Option.some.injEq, Prod.mk.injEq] at h
      rw [← h.2]; exact ih hl h1
    · cases h
  | loop c ih =>
    intro hl σ e σ' h
    simp only [exec] at h
    have hlc : LCsuf lc c := fun body hb => hl body (List.mem_cons_of_mem _ hb)
    split at h
    · rename_i r h1
      injection h with h; subst h
      unfold lcAt at h1
      split at h1
      · rename_i i hi
        exact hl c (List.mem_cons_self ..) i hi _ _ _ h1
      · cases h1
    · exact loopGo_suf (fun σ e σ' h => ih hlc h) n h
  | scope c ih =>
    intro hl σ e σ' h
    exact ih hl h
  | rangeFunc f ps x y => intro _ σ e σ' h; cases h
  | goto l => intro _ σ e σ' h; cases h
  | refuse w => intro _ σ e σ' h; cases h

theorem execN_sim (hm : P.follows .mixedOrders = true) {kp : KP} {kq : KX} {kh : KH} (hkp : KPok P kp) (hkq : KXok P kq) (hkh : KHok P kh) {lc : LC} {n i0 : Nat} {δ : Type} (d0 : δ) {sp : δ → St → Option (XE × St)} {body : Code}
    (hsf : ∀ d σ e σ', sp d σ = some (e, σ') → ∃ cs, σ'.cs = cs ++ σ.cs) (htot : ∀ d σ, ∃ r, sp d σ = some r)
    (hsp : ∀ σ (out : δ → XE × St), (∀ d, sp d σ = some (out d)) → (∀ d, ∀ c ∈ (out d).2.cs, c = true) → LoopSimN P body σ out) (c : Code) :
    LCok P lc c → onceIn i0 c = true → (∀ b ∈ loopsOf c, firstId b = some i0 → b = body) → ∀ {σ : St} {out : δ → XE × St}, (∀ d, exec P kp kq kh (lcD lc i0 (sp d)) n c σ = some (out d)) →
    (∀ d, ∀ c ∈ (out d).2.cs, c = true) → ∀ {X : Ctx} {a : Act}, Rel X σ a → ∀ {Q : Exit → Act → World → Prop}, (∀ d X' a', X.le X' → Rel X' (out d).2 a' → Q (out d).1.out a' X'.w) → c.wp P Q a X.w := by
  have base : ∀ c, specIn i0 c = false → LCok P lc c → ∀ {σ : St} {out : δ → XE × St}, (∀ d, exec P kp kq kh (lcD lc i0 (sp d)) n c σ = some (out d)) →
      (∀ d, ∀ c ∈ (out d).2.cs, c = true) → ∀ {X : Ctx} {a : Act}, Rel X σ a → ∀ {Q : Exit → Act → World → Prop}, (∀ d X' a', X.le X' → Rel X' (out d).2 a' → Q (out d).1.out a' X'.w) → c.wp P Q a X.w := by
    intro c hs hl σ out h hc X a hr Q hq
    have h0 := h d0
    rw [exec_lcD c hs] at h0
    exact exec_sim hm hkp hkq hkh c hl (e := (out d0).1) (σ' := (out d0).2) h0 (hc d0) hr (hq d0)
  have suf : ∀ c, LCok P lc c → ∀ d {σ e σ'}, exec P kp kq kh (lcD lc i0 (sp d)) n c σ = some (e, σ') → ∃ cs, σ'.cs = cs ++ σ.cs := by
    intro c hl d σ e σ' h
    refine exec_suf2 c (fun b hb i hi σ e σ' h => ?_) h
    unfold lcD at h
    split at h
    · exact hsf d _ _ _ h
    · exact (hl b hb i hi _ _ _ h).1
  induction c with
  | seq x y iha ihb =>
    intro hl hon hbd σ out h hc X a hr Q hq
    have hla : LCok P lc x := fun body hb => hl body (List.mem_append_left _ hb)
    have hlb : LCok P lc y := fun body hb => hl body (List.mem_append_right _ hb)
    have hba : ∀ b ∈ loopsOf x, firstId b = some i0 → b = body := fun b hb => hbd b (List.mem_append_left _ hb)
    have hbb : ∀ b ∈ loopsOf y, firstId b = some i0 → b = body := fun b hb => hbd b (List.mem_append_right _ hb)
    simp only [onceIn, Bool.and_eq_true, Bool.not_eq_true', Bool.and_eq_false_iff] at hon
    obtain ⟨hne, hox, hoy⟩ := hon
    have hA : ∀ d, ∃ r, exec P kp kq kh (lcD lc i0 (sp d)) n x σ = some r := fun d => by
      have := h d
      simp only [exec] at this
      split at this
      · rename_i h1; exact ⟨_, h1⟩
      · rename_i h1; exact ⟨_, h1⟩
      · rename_i h1; exact ⟨_, h1⟩
      · cases this
    let oa : δ → XE × St := fun d => Classical.choose (hA d)
    have hoa : ∀ d, exec P kp kq kh (lcD lc i0 (sp d)) n x σ = some (oa d) := fun d => Classical.choose_spec (hA d)
    have hB : ∀ d, ((oa d).1 = .normal ∧ exec P kp kq kh (lcD lc i0 (sp d)) n y (oa d).2 = some (out d)) ∨ ((oa d).1 ≠ .normal ∧ out d = oa d) := fun d => by
      have := h d
      simp only [exec] at this
      rw [hoa d] at this
      split at this
      · rename_i σ1 h1
        injection h1 with h1
        rw [h1]
        exact .inl ⟨rfl, this⟩
      · rename_i i σ1 h1
        injection h1 with h1
        injection this with this
        exact .inr ⟨(by rw [h1]; intro h; cases h), by rw [h1]; exact this.symm⟩
      · rename_i σ1 h1
        injection h1 with h1
        injection this with this
        exact .inr ⟨(by rw [h1]; intro h; cases h), by rw [h1]; exact this.symm⟩
      · rename_i h1; cases h1
    have hca : ∀ d, ∀ c ∈ (oa d).2.cs, c = true := fun d q hq => by
      rcases hB d with ⟨_, h2⟩ | ⟨_, h2⟩
      · obtain ⟨c2, e2⟩ := suf y hlb d (e := (out d).1) (σ' := (out d).2) h2
        exact hc d q (by rw [e2]; exact List.mem_append_right _ hq)
      · exact hc d q (by rw [h2]; exact hq)
    have stop : ∀ d X' a', X.le X' → Rel X' (oa d).2 a' → (oa d).1 ≠ .normal → out d = oa d → Exit.then (fun a' w' => y.wp P Q a' w') Q (oa d).1.out a' X'.w := fun d X' a' hle hr' h1 h2 => by
      have := hq d X' a' hle (by rw [h2]; exact hr')
      rw [h2] at this
      cases he : (oa d).1 with
      | normal => exact absurd he h1
      | exit i => rw [he] at this; exact this
      | ret => rw [he] at this; exact this
    rcases Bool.eq_false_or_eq_true (specIn i0 x) with hx | hx
    · have hy : specIn i0 y = false := by
        rcases hne with h' | h'
        · rw [hx] at h'; cases h'
        · exact h'
      refine wp_seq (iha hla hox hba hoa hca hr fun d X' a' hle hr' => ?_)
      rcases hB d with ⟨h1, h2⟩ | ⟨h1, h2⟩
      · rw [h1]
        rw [exec_lcD y hy] at h2
        exact exec_sim hm hkp hkq hkh y hlb (e := (out d).1) (σ' := (out d).2) h2 (hc d) hr' fun X'' a'' hle' hr'' => hq d X'' a'' (hle.trans hle') hr''
      · exact stop d X' a' hle hr' h1 h2
    · have hsame : ∀ d, oa d = oa d0 := fun d => by
        have h1 := hoa d
        have h2 := hoa d0
        rw [exec_lcD x hx] at h1 h2
        exact Option.some.inj (h1.symm.trans h2)
      have h0 := hoa d0
      rw [exec_lcD x hx] at h0
      refine wp_seq (exec_sim hm hkp hkq hkh x hla (e := (oa d0).1) (σ' := (oa d0).2) h0 (hca d0) hr fun X' a' hle hr' => ?_)
      rcases hB d0 with ⟨h1, h2⟩ | ⟨h1, h2⟩
      · rw [h1]
        refine ihb hlb hoy hbb (out := out) (σ := (oa d0).2) (fun d => ?_) hc hr' fun d X'' a'' hle' hr'' => hq d X'' a'' (hle.trans hle') hr''
        rcases hB d with ⟨_, h4⟩ | ⟨h3, _⟩
        · rw [hsame d] at h4; exact h4
        · rw [hsame d] at h3; exact absurd h1 h3
      · exact stop d0 X' a' hle hr' h1 h2
  | cond c x y ihx ihy =>
    intro hl hon hbd σ out h hc X a hr Q hq
    have hlx : LCok P lc x := fun body hb => hl body (List.mem_append_left _ hb)
    have hly : LCok P lc y := fun body hb => hl body (List.mem_append_right _ hb)
    have hbx : ∀ b ∈ loopsOf x, firstId b = some i0 → b = body := fun b hb => hbd b (List.mem_append_left _ hb)
    have hby : ∀ b ∈ loopsOf y, firstId b = some i0 → b = body := fun b hb => hbd b (List.mem_append_right _ hb)
    simp only [onceIn, Bool.and_eq_true] at hon
    simp only [exec] at h
    split at h
    · rename_i b hb
      have hbv : a.eval c = .bool b := hr.ev (chain := []) (fun g hg => by cases hg) hb
      split at h
      · rename_i cs r hbr
        obtain ⟨c1, e1⟩ := suf x hlx d0 (e := (out d0).1) (σ' := (out d0).2) (h d0)
        have := br_eq (b := b) (os := σ.os) (by rw [hbr]; intro q hq; exact hc d0 q (by rw [e1]; exact List.mem_append_right _ (List.mem_append_left _ hq)))
        rw [hbr] at this
        simp only at this
        rw [← this] at hbv
        exact wp_cond_true hbv (ihx hlx hon.1 hbx h hc (hr.cs r (cs ++ σ.cs)) hq)
      · rename_i cs r hbr
        obtain ⟨c1, e1⟩ := suf y hly d0 (e := (out d0).1) (σ' := (out d0).2) (h d0)
        have := br_eq (b := b) (os := σ.os) (by rw [hbr]; intro q hq; exact hc d0 q (by rw [e1]; exact List.mem_append_right _ (List.mem_append_left _ hq)))
        rw [hbr] at this
        simp only at this
        rw [← this] at hbv
        exact wp_cond_false hbv (ihy hly hon.2 hby h hc (hr.cs r (cs ++ σ.cs)) hq)
    · cases h d0
  | block id c ih =>
    intro hl hon hbd σ out h hc X a hr Q hq
    have hA : ∀ d, ∃ r, exec P kp kq kh (lcD lc i0 (sp d)) n c σ = some r := fun d => by
      have := h d
      simp only [exec] at this
      split at this
      · rename_i h1; exact ⟨_, h1⟩
      · rename_i h1; exact ⟨_, h1⟩
      · rename_i h1; exact ⟨_, h1⟩
      · cases this
    let oa : δ → XE × St := fun d => Classical.choose (hA d)
    have hoa : ∀ d, exec P kp kq kh (lcD lc i0 (sp d)) n c σ = some (oa d) := fun d => Classical.choose_spec (hA d)
    have hB : ∀ d, (out d).2 = (oa d).2 ∧ ∀ a' w', Q (out d).1.out a' w' → Exit.inBlock id Q (oa d).1.out a' w' := fun d => by
      have := h d
      simp only [exec] at this
      rw [hoa d] at this
      split at this
      · rename_i i σ1 h1
        injection h1 with h1
        split at this
        · rename_i hi
          simp only [Nat.beq_eq] at hi
          injection this with this
          rw [← this, h1]
          refine ⟨rfl, fun a' w' hh => ?_⟩
          simp only [XE.out, Exit.inBlock, hi, if_true]
          exact hh
        · rename_i hi
          simp only [Nat.beq_eq] at hi
          injection this with this
          rw [← this, h1]
          refine ⟨rfl, fun a' w' hh => ?_⟩
          simp only [XE.out, Exit.inBlock, hi, if_false]
          exact hh
      · rename_i σ1 h1
        injection h1 with h1
        injection this with this
        rw [← this, h1]; exact ⟨rfl, fun a' w' hh => hh⟩
      · rename_i σ1 h1
        injection h1 with h1
        injection this with this
        rw [← this, h1]; exact ⟨rfl, fun a' w' hh => hh⟩
      · rename_i h1; cases h1
    refine wp_block (ih hl hon hbd hoa (fun d q hq => hc d q (by rw [(hB d).1]; exact hq)) hr fun d X' a' hle hr' => ?_)
    exact (hB d).2 _ _ (hq d X' a' hle (by rw [(hB d).1]; exact hr'))
  | loop c ih =>
    intro hl hon hbd σ out h hc X a hr Q hq
    simp only [onceIn, Bool.not_eq_true'] at hon
    by_cases hf : firstId c = some i0
    · have e := hbd c (List.mem_cons_self ..) hf
      have h1 : ∀ d, sp d σ = some (out d) := fun d => by
        have := h d
        simp only [exec, lcAt, hf, lcD, Nat.beq_refl, if_true] at this
        obtain ⟨r, hr⟩ := htot d σ
        rw [hr] at this
        rw [hr]
        exact this
      have := hsp σ out h1 hc X a Q hr hq
      rw [← e] at this
      exact LoopAt.wp this
    · refine base (.loop c) ?_ hl h hc hr hq
      simp only [specIn, Bool.or_eq_false_iff]
      refine ⟨?_, hon⟩
      cases hh : firstId c with
      | none => rfl
      | some i =>
        simp only [Bool.eq_false_iff, ne_eq, Nat.beq_eq]
        intro hi; rw [hh, hi] at hf; exact hf rfl
  | scope c ih =>
    intro hl hon hbd σ out h hc X a hr Q hq
    refine wp_scope_straight (ih hl hon hbd h hc hr fun d X' a' hle hr' => ?_)
    have := hq d X' a' hle hr'
    cases he : (out d).1 <;> (rw [he] at this; exact this)
  | skip | label _ | ret | exit _ | rangeFunc _ _ _ _ | goto _ | refuse _ =>
    intro hl hon hbd σ out h hc X a hr Q hq
    exact base _ rfl hl h hc hr hq
  | region id ops draw =>
    intro hl hon hbd σ out h hc X a hr Q hq
    exact base _ rfl hl h hc hr hq

theorem head_in {nt : Nat} {body : Code} {slots ro : List Nat} (hss : ∀ t ∈ slots, t ∈ dstsC body) (hro : ∀ t ∈ ro, t ∉ dstsC body) {σ : St} (hnt : σ.nt = nt) {vals rov : List AV} (hv : looks σ.tm slots = some vals) (hrv : looks σ.tm ro = some rov) {X : Ctx} {a : Act} (hrel : Rel X σ a) :
    Rel X (headS nt (zipT slots vals ++ (zipT ro rov ++ stripT (dstsC body) σ.tm)) σ.hp []) a := by
  refine ⟨hrel.hrel, hrel.heap, by rw [hrel.size, hnt]; rfl, hrel.defers, fun t v hv' => ?_, fun t s w v hv' => by cases hv'⟩
  simp only [headS] at hv'
  rw [lookT_app] at hv'
  split at hv'
  · rename_i v' hz
    injection hv' with hv'; subst hv'
    exact hrel.tm t v' (looks_look slots vals hv hz)
  · rw [lookT_app] at hv'
    split at hv'
    · rename_i v' hz
      injection hv' with hv'; subst hv'
      exact hrel.tm t v' (looks_look ro rov hrv hz)
    · rw [lookT_strip] at hv'
      split at hv'
      · cases hv'
      · exact hrel.tm t v hv'
theorem head_out {nt : Nat} {body : Code} {slots ro : List Nat} (hss : ∀ t ∈ slots, t ∈ dstsC body) (hro : ∀ t ∈ ro, t ∉ dstsC body) {σ : St} (hnt : σ.nt = nt) {rov : List AV} (hrv : looks σ.tm ro = some rov) {outs : List AV} {hp' : List AB} {os' cs : List Bool} {X : Ctx} {a' : Act}
    (hr' : Rel X (headS nt (zipT slots outs ++ (zipT ro rov ++ stripT (dstsC body) σ.tm)) hp' []) a') : Rel X { σ with tm := zipT slots outs ++ stripT (dstsC body) σ.tm, tg := [], hp := hp', os := os', cs := cs } a' := by
  refine ⟨hr'.hrel, hr'.heap, by rw [hr'.size, hnt]; rfl, hr'.defers, fun t v hv' => ?_, fun t s w v hv' => by cases hv'⟩
  simp only at hv'
  refine hr'.tm t v ?_
  simp only [headS]
  rw [lookT_app] at hv' ⊢
  split at hv'
  · exact hv'
  · rename_i hz
    rw [lookT_app]
    by_cases ht : t ∈ ro
    · rw [lookT_strip, if_neg (hro t ht)] at hv'
      have : lookT (zipT ro rov) t = some v := by
        clear hr'
        induction ro generalizing rov with
        | nil => cases ht
        | cons s ss ih =>
          simp only [looks] at hrv
          split at hrv
          · rename_i u us h1 h2
            injection hrv with hrv; subst hrv
            simp only [zipT, lookT]
            by_cases hs : s = t
            · subst hs
              rw [h1] at hv'
              injection hv' with hv'; subst hv'
              simp
            · have : Nat.beq s t = false := by
                rw [Bool.eq_false_iff]; intro e; simp only [Nat.beq_eq] at e; exact hs e
              simp only [this]
              rcases List.mem_cons.1 ht with h' | h'
              · exact absurd h'.symm hs
              · exact ih (fun t ht => hro t (List.mem_cons_of_mem _ ht)) h2 h'
          · cases hrv
      rw [this]
    · rw [lookT_zip_none _ _ ht]; exact hv'

/-- From these slots and blocks at its head, at any rest, a loop comes to one of these. -/
def LoopOkN (P : Program) (body : Code) (nt : Nat) (slots ro : List Nat) (vals rov : List AV) (hp : List AB) {δ : Type} (D : δ → XE × List AV × List AB) : Prop :=
  ∀ X a rest, (∀ t ∈ dstsC body, lookT (zipT ro rov ++ rest) t = none) → Rel X (headS nt (zipT slots vals ++ (zipT ro rov ++ rest)) hp []) a →
    ∀ Q : Exit → Act → World → Prop, (∀ d X' a', X.le X' → Rel X' (headS nt (zipT slots (D d).2.1 ++ (zipT ro rov ++ rest)) (D d).2.2 []) a' → Q (D d).1.out a' X'.w) → LoopAt P body Q a X.w

/-- The loop's contract, one for each of its ends; where it does not fit, a condition is not met. -/
def spT (nt : Nat) (ds slots ro : List Nat) (fn : List AV → List AV → List AB → List Bool → Option ((XE × List AV × List AB) × List Bool × List Bool)) (σ : St) : Option (XE × St) :=
  match mkLC nt ds slots ro fn σ with
  | some r => some r
  | none => some (.ret, { σ with cs := false :: σ.cs })

theorem Env.heap_okN (E : Env P) {f i0 : Nat} {fn : Func} {c body : Code} (hf : P.funcs[f]? = some fn) (hne : fn.name ≠ "runtime.NumGoroutine") (hb : fn.body = some c) (hbd : theLoop P f i0 = some body) (hon : onceIn i0 c = true) {nt : Nat} {slots ro : List Nat}
    (chk : (slots.all (fun t => isIn t (dstsC body)) && ro.all fun t => !isIn t (dstsC body)) = true) {vals rov : List AV} {lhp : List AB} {δ : Type} (d0 : δ) {D : δ → XE × List AV × List AB} (hN : LoopOkN P body nt slots ro vals rov lhp D)
    {fnD : δ → List AV → List AV → List AB → List Bool → Option ((XE × List AV × List AB) × List Bool × List Bool)}
    (hfn : ∀ d v r h os x, fnD d v r h os = some x → ∃ cs, (∀ d, fnD d v r h os = some (D d, cs, os)) ∧ ((∀ c ∈ cs, c = true) → v = vals ∧ r = rov ∧ h = lhp))
    {args : List AV} {hp : List AB} {os : List Bool} {r : AV} {hp' : List AB} (hrun : ∀ d, ∃ cs os', runF P E.kp E.kx E.kk (lcD (E.lcs f) i0 (spT nt (dstsC body) slots ro (fnD d))) rounds0 fn c args hp os = some (r, hp', cs, os') ∧ ∀ c ∈ cs, c = true) :
    HeapCall P f args hp r hp' := by
  refine ⟨⟨fn, hf, by simpa using hne, by rw [hb]; rfl⟩, fun X vs hX hH hv => ?_⟩
  refine calls_of_wp hf hb ?_
  have hss : ∀ t ∈ slots, t ∈ dstsC body := fun t ht => by
    simp only [Bool.and_eq_true, List.all_eq_true] at chk
    exact isIn_iff.1 (chk.1 t ht)
  have hro : ∀ t ∈ ro, t ∉ dstsC body := fun t ht hh => by
    simp only [Bool.and_eq_true, List.all_eq_true] at chk
    have := chk.2 t ht
    rw [isIn_iff.2 hh] at this; cases this
  have hex : ∀ d, ∃ o : XE × St, exec P E.kp E.kx E.kk (lcD (E.lcs f) i0 (spT nt (dstsC body) slots ro (fnD d))) rounds0 c (st0 E.kx.sp fn args hp os) = some o ∧ (o.1 = .normal ∨ o.1 = .ret) ∧ resA P o.2 fn.results.toList = some r ∧ o.2.hp = hp' ∧ ∀ c ∈ o.2.cs, c = true := fun d => by
    obtain ⟨cs, os', h, hcs⟩ := hrun d
    unfold runF at h
    split at h
    · cases h
    · rename_i σ he
      split at h
      · rename_i r' hr
        simp only [Option.some.injEq, Prod.mk.injEq] at h
        obtain ⟨rfl, rfl, rfl, rfl⟩ := h
        exact ⟨_, he, .inl rfl, hr, rfl, hcs⟩
      · cases h
    · rename_i σ he
      split at h
      · rename_i r' hr
        simp only [Option.some.injEq, Prod.mk.injEq] at h
        obtain ⟨rfl, rfl, rfl, rfl⟩ := h
        exact ⟨_, he, .inr rfl, hr, rfl, hcs⟩
      · cases h
    · cases h
  let out : δ → XE × St := fun d => Classical.choose (hex d)
  have hout := fun d => Classical.choose_spec (hex d)
  have htot : ∀ d σ, ∃ r, spT nt (dstsC body) slots ro (fnD d) σ = some r := fun d σ => by
    unfold spT; split <;> exact ⟨_, rfl⟩
  have hsf : ∀ d σ e σ', spT nt (dstsC body) slots ro (fnD d) σ = some (e, σ') → ∃ cs, σ'.cs = cs ++ σ.cs := fun d σ e σ' h => by
    unfold spT at h
    split at h
    · rename_i r0 hr0
      injection h with h; subst h
      unfold mkLC at hr0
      split at hr0
      · split at hr0
        · split at hr0
          · simp only [Option.some.injEq, Prod.mk.injEq] at hr0
            obtain ⟨_, rfl⟩ := hr0
            exact ⟨_, rfl⟩
          · cases hr0
        · cases hr0
      · cases hr0
    · simp only [Option.some.injEq, Prod.mk.injEq] at h
      obtain ⟨_, rfl⟩ := h
      exact ⟨[false], rfl⟩
  refine execN_sim E.hm E.hkp E.kx_ok E.kk_ok (lc := E.lcs f) (i0 := i0) d0 (body := body) hsf htot ?_ c (E.hlc f fn c hf hb) hon (fun b hbm hbi => theLoop_eq hbd hf hb b hbm hbi) (out := out) (fun d => (hout d).1) (fun d => (hout d).2.2.2.2) (Rel.st0 hX hH hv os E.kx.sp) fun d X' a' hle hr' => ?_
  · intro σ o ho hoc X1 a1 Q hrel hq
    -- every end fits, or none does
    have hfit : ∀ d, ∃ e σ', mkLC nt (dstsC body) slots ro (fnD d) σ = some (e, σ') ∧ o d = (e, σ') := fun d => by
      have h := ho d
      unfold spT at h
      split at h
      · rename_i r0 hr0
        injection h with h
        exact ⟨r0.1, r0.2, hr0, h.symm⟩
      · injection h with h
        have := hoc d false (by rw [← h]; exact List.mem_cons_self ..)
        cases this
    obtain ⟨e0, σ0, h0, _⟩ := hfit d0
    unfold mkLC at h0
    split at h0
    · rename_i hnt
      have hnt' := hnt
      simp only [Nat.beq_eq] at hnt'
      split at h0
      · rename_i vals' rov' hv' hrv'
        split at h0
        · rename_i x0 x1 x2 x3 x4 hfx
          obtain ⟨cs, hall, hcs⟩ := hfn d0 vals' rov' σ.hp σ.os _ hfx
          have hod : ∀ d, o d = ((D d).1, { σ with tm := zipT slots (D d).2.1 ++ stripT (dstsC body) σ.tm, tg := [], hp := (D d).2.2, os := σ.os, cs := cs ++ σ.cs }) := fun d => by
            obtain ⟨e, σ', h1, h2⟩ := hfit d
            unfold mkLC at h1
            rw [if_pos hnt, hv', hrv'] at h1
            simp only [hall d] at h1
            rw [h2]
            exact (Option.some.inj h1).symm
          have hcc : ∀ c ∈ cs, c = true := fun q hq' => hoc d0 q (by rw [hod d0]; exact List.mem_append_left _ hq')
          obtain ⟨rfl, rfl, rfl⟩ := hcs hcc
          refine hN X1 a1 (stripT (dstsC body) σ.tm) (fun t ht => ?_) ?_ Q fun d X' a' hle hr' => ?_
          · rw [lookT_app, lookT_zip_none _ _ fun hh => hro t hh ht, lookT_strip, if_pos ht]
          · exact head_in hss hro hnt' hv' hrv' hrel
          · have := hq d X' a' hle (by rw [hod d]; exact head_out hss hro hnt' hrv' hr')
            rw [hod d] at this
            exact this
        · cases h0
      · cases h0
    · cases h0
  · obtain ⟨h1, h2, h3, h4, h5⟩ := hout d
    obtain ⟨val, g1, g2⟩ := resA_ok hr' h3
    have hpost : a'.defers = [] ∧ ∃ v, (results fn a'.tmps).run P X'.w = .ok v X'.w ∧ (∃ val X'', Ending.returned v = .returned val ∧ X''.w = X'.w ∧ X.le X'' ∧ HRel X'' ∧ (X''.H = fun i => hp'[i]?) ∧ VR X'' r val) :=
      ⟨hr'.defers, val, g1, val, X', rfl, rfl, hle, hr'.hrel, by rw [hr'.heap, ← h4]; rfl, g2⟩
    rcases h2 with e | e <;> (show bodyPost P fn _ (Classical.choose (hex d)).1.out a' X'.w; rw [e]; exact hpost)
/-- A LOOP OVER A MAP, by its rounds; where it ends may hang on the entries' order. -/
theorem LoopOkN.range (E : Env P) {f i0 nt : Nat} {body : Code} (hb : theLoop P f i0 = some body) {s : MS} (hs : mapShape body = some s) {slots ro : List Nat} (hss : (slots.all fun t => isIn t (dstsC body)) = true) {rov : List AV}
    {i j m : Nat} (hij : i ≠ j) {kt vt : CT} {ka va : Bool} (l : List (kt.den × vt.den)) (hka : ka = true ∨ kt.width = 1) (hva : va = true ∨ vt.width = 1) {S : Type} (vals : S → List AV) (hpf : S → AB → AB → List AB)
    (hget : ∀ t a b, (hpf t a b)[i]? = some a ∧ (hpf t a b)[j]? = some b) (hset : ∀ t a b c, (hpf t a b).set i c = hpf t c b ∧ (hpf t a b).set j c = hpf t a c) (hlen : ∀ t a b, (hpf t a b).length = m)
    (Inv : S → List (kt.den × vt.den) → Prop) (s0 : S) (hI : Inv s0 l) (hx1 : ∀ t rest hp, (headS nt (zipT slots (vals t) ++ (zipT ro rov ++ rest)) hp []).ev [] s.x1 = some (.one (.ptr i 0)))
    (go : ∀ t A p B, Inv t (A ++ p :: B) → ∃ t', Inv t' (A ++ B) ∧ MapGo E f s i j nt m slots (zipT ro rov) (vals t) (hpf t) (.tup [(ka, kt.cells p.1), (va, vt.cells p.2)]) (vals t') (hpf t'))
    {outs : S → List AV} (end_ : ∀ t, Inv t [] → MapEnd E s nt m slots (zipT ro rov) (vals t) (hpf t) (outs t)) :
    LoopOkN P body nt slots ro (vals s0) rov (hpf s0 (.iter j l.length true) (.mp kt vt ka va l)) (δ := { t : S // Inv t [] }) (fun d => (.exit s.ie, outs d.1, hpf d.1 (.iter j l.length false) (.mp kt vt ka va l))) := by
  intro X a rest hrest hr Q hq
  obtain ⟨fn, c, hf, hbd, hmem, hfi⟩ := theLoop_mem hb
  obtain ⟨hcode, hok⟩ := mapShape_ok hs
  have hlcb : LCok P (E.lcs f) body := fun b hb' => E.hlc f fn c hf hbd b (loopsOf_trans c hmem hb')
  have hkpb : LCkeep (E.lcs f) body := fun b hb' => E.hkeep f fn c hf hbd b (loopsOf_trans c hmem hb')
  have hRl : ∀ b ∈ loopsOf s.R, b ∈ loopsOf body := fun b hb' => by rw [hcode]; simp [MS.code, loopsOf, hb']
  have hlc : LCok P (E.lcs f) s.R := fun b hb' => hlcb b (hRl b hb')
  have hkp : LCkeep (E.lcs f) s.R := fun b hb' => hkpb b (hRl b hb')
  have hss' : ∀ t ∈ slots, t ∈ dstsC body := fun t ht => isIn_iff.1 (List.all_eq_true.1 hss t ht)
  have d1 : ∀ t ∈ dstsO s.ops1, t ∈ dstsC body := fun t ht => by rw [hcode]; simp [MS.code, dstsC, ht]
  have d2 : ∀ t ∈ dstsO s.ops2, t ∈ dstsC body := fun t ht => by rw [hcode]; simp [MS.code, dstsC, ht]
  have d3 : ∀ t ∈ dstsC s.R, t ∈ dstsC body := fun t ht => by rw [hcode]; simp [MS.code, dstsC, ht]
  have p1 : ∀ t ∈ s.o1.dst.toList, t ∈ dstsC body := fun t ht => d1 t (by
    have h0 : s.o1 ∈ s.ops1.toList := List.mem_of_getElem? (i := 0) (by simpa using hok.h1)
    exact List.mem_filterMap.2 ⟨s.o1, h0, by simpa using ht⟩)
  have p2 : ∀ t ∈ s.o2.dst.toList, t ∈ dstsC body := fun t ht => d2 t (by
    have h0 : s.o2 ∈ s.ops2.toList := List.mem_of_getElem? (i := 0) (by simpa using hok.h2)
    exact List.mem_filterMap.2 ⟨s.o2, h0, by simpa using ht⟩)
  have hH : X.H = fun k => (hpf s0 (.iter j l.length true) (.mp kt vt ka va l))[k]? := hr.heap
  have hXi : X.H i = some (.iter j l.length true) := by rw [hH]; exact (hget s0 _ _).1
  have hXj : X.H j = some (.mp kt vt ka va l) := by rw [hH]; exact (hget s0 _ _).2
  have hbj := hr.hrel.blk j _ hXj
  obtain ⟨hflat, es, clock, e1, e2, hnd, l', hpm, e3⟩ := id hbj
  have hcl : clock = l.length := e2.2.2.2
  subst hcl
  have e2s : es.size = l'.length := e2.1.trans hpm.length_eq.symm
  have old : ∀ t, (∃ r0 : List (kt.den × vt.den), r0.Perm [] ∧ Inv t r0) → Inv t [] := fun t ⟨r0, p0, h0⟩ => by rw [p0.eq_nil] at h0; exact h0
  have goP : ∀ t A p B, (∃ r0 : List (kt.den × vt.den), r0.Perm (A ++ p :: B) ∧ Inv t r0) → ∃ t', (∃ r0 : List (kt.den × vt.den), r0.Perm (A ++ B) ∧ Inv t' r0) ∧ MapGo E f s i j nt m slots (zipT ro rov) (vals t) (hpf t) (.tup [(ka, kt.cells p.1), (va, vt.cells p.2)]) (vals t') (hpf t') := fun t A p B ⟨r0, p0, h0⟩ => by
    obtain ⟨A0, B0, rfl⟩ := List.append_of_mem (p0.mem_iff.2 (List.mem_append_right A (List.mem_cons_self ..)))
    obtain ⟨t', h1, h2⟩ := go t A0 p B0 h0
    refine ⟨t', ⟨A0 ++ B0, ?_, h1⟩, h2⟩
    exact (List.perm_middle.symm.trans (p0.trans List.perm_middle)).cons_inv
  obtain ⟨InvP, hInvP⟩ : ∃ I : S → List (kt.den × vt.den) → Prop, I = fun t r => ∃ r0 : List (kt.den × vt.den), r0.Perm r ∧ Inv t r0 := ⟨_, rfl⟩
  have hI' : InvP s0 l' := by rw [hInvP]; exact ⟨l, hpm.symm, hI⟩
  have oldP : ∀ t, InvP t [] → Inv t [] := fun t h => by rw [hInvP] at h; exact old t h
  have goP : ∀ t A p B, InvP t (A ++ p :: B) → ∃ t', InvP t' (A ++ B) ∧ MapGo E f s i j nt m slots (zipT ro rov) (vals t) (hpf t) (.tup [(ka, kt.cells p.1), (va, vt.cells p.2)]) (vals t') (hpf t') := by rw [hInvP]; exact goP
  have endP := fun t (h : InvP t []) => end_ t (oldP t h)
  have hbi : X.w.heap[X.φ i]? = some (.mapIter (some (X.φ j)) l.length #[] l.length) := (hr.hrel.blk i _ hXi).2 rfl
  -- the map and its iterator as they are
  obtain ⟨le1, r1⟩ := hr.setH (j := j) (b := .obj (.map es l.length)) hXj rfl rfl (fun _ _ h => by cases h) e1
  rw [(hset _ _ _ _).2] at r1
  obtain ⟨le2, r2⟩ := r1.setH (j := i) (b := .obj (.mapIter (some (X.φ j)) l.length #[] l.length)) (b0 := .iter j l.length true) (by simp only [Ctx.setH, upd_other _ _ hij]; exact hXi) rfl rfl (fun _ _ h => by cases h) hbi
  rw [(hset _ _ _ _).1] at r2
  have le12 := le1.trans le2
  -- the head's slots name no block behind
  have hids : ∀ t v, lookT (zipT ro rov ++ rest) t = some v → ∀ k ∈ idsV v, k < m := fun t v hv k hk => by
    have ht : t ∉ dstsC body := fun ht => by rw [hrest t ht] at hv; cases hv
    have h1 := hr.tm t v (by simp only [headS]; rw [lookT_app, lookT_zip_none _ _ (fun hh => ht (hss' t hh))]; exact hv)
    have h2 := VR.has _ _ h1 k hk
    rw [hH] at h2
    by_cases hlt : k < m
    · exact hlt
    · exact absurd (List.getElem?_eq_none (by rw [hlen]; omega)) h2
  have hm0 : ∀ k, m ≤ k → X.H k = none := fun k hk => by rw [hH]; exact List.getElem?_eq_none (by rw [hlen]; exact hk)
  have cutle : ∀ {X' : Ctx}, X.le X' → X.le (X'.cut m) := fun h => cut_le h hm0
  rw [hcode]
  refine loop_by (S := S × Array Nat) (Inv := fun q a' w' => ∃ X', X.le X' ∧ X'.w = w' ∧ Rel X' (headS nt (zipT slots (vals q.1) ++ (zipT ro rov ++ rest)) (hpf q.1 (.obj (.mapIter (some (X.φ j)) l.length q.2 l.length)) (.obj (.map es l.length))) []) a' ∧ InvP q.1 (remOf es l' q.2))
    (mu := fun q => (remOf es l' q.2).length) (fun q a' w' hinv => ?_) ((remOf es l' #[]).length + 1) (s0, #[]) a X.w (Nat.lt_succ_self _) ⟨_, le12, rfl, r2, by rw [rem_all e2s]; exact hI'⟩
  obtain ⟨t, seen⟩ := q
  obtain ⟨X', hle, rfl, hr', hinv⟩ := hinv
  simp only at hr' hinv
  have hH' : X'.H = fun k => (hpf t (.obj (.mapIter (some (X.φ j)) l.length seen l.length)) (.obj (.map es l.length)))[k]? := hr'.heap
  have hi' : X'.H i = some (.obj (.mapIter (some (X.φ j)) l.length seen l.length)) := by rw [hH']; exact (hget t _ _).1
  have hj' : X'.H j = some (.obj (.map es l.length)) := by rw [hH']; exact (hget t _ _).2
  have hφ : X'.φ j = X.φ j := (hle.loc j _ hXj rfl).2
  have hx := ev_rel hr' (hx1 t rest _)
  -- both ways' first slot can be written
  have hput : ∃ σe σg, (headS nt (zipT slots (vals t) ++ (zipT ro rov ++ rest)) (hpf t (.obj (.mapIter (some (X.φ j)) l.length seen l.length)) (.obj (.map es l.length))) []).put s.o1.dst (.tup [(false, [.bool false])]) = some σe ∧
      (headS nt (zipT slots (vals t) ++ (zipT ro rov ++ rest)) (hpf t (.obj (.mapIter (some (X.φ j)) l.length seen l.length)) (.obj (.map es l.length))) []).put s.o1.dst (.tup [(false, [.bool true]), (false, [.unk]), (false, [.unk])]) = some σg := by
    cases hrem : remOf es l' seen with
    | nil =>
      rw [hrem] at hinv
      obtain ⟨os, v, hv⟩ := endP t hinv
      obtain ⟨σ1, g1, _⟩ := hv rest (.mapIter (some (X.φ j)) l.length seen l.length) (.map es l.length)
      obtain ⟨_, σe, g2, _⟩ := mEnd_some g1
      have := (put_any g2).2 (hpf t (.obj (.mapIter (some (X.φ j)) l.length seen l.length)) (.obj (.map es l.length))) [] []
      obtain ⟨σg, g3⟩ := put_val this (.tup [(false, [.bool true]), (false, [.unk]), (false, [.unk])])
      exact ⟨_, σg, this, g3⟩
    | cons p r =>
      rw [hrem] at hinv
      obtain ⟨t', _, os, v, hv⟩ := goP t [] p r hinv
      obtain ⟨h1, σ3, g1, _⟩ := hv rest (.mapIter (some (X.φ j)) l.length seen l.length) (.map es l.length)
      obtain ⟨σg, _, _, _, _, g2, _⟩ := mGo_some g1
      have := (put_any g2).2 (hpf t (.obj (.mapIter (some (X.φ j)) l.length seen l.length)) (.obj (.map es l.length))) [] []
      obtain ⟨σe, g3⟩ := put_val this (.tup [(false, [.bool false])])
      exact ⟨σe, _, g3, this⟩
  obtain ⟨σe, σg, he, hg⟩ := hput
  have hg' : ∀ hp', ({ headS nt (zipT slots (vals t) ++ (zipT ro rov ++ rest)) (hpf t (.obj (.mapIter (some (X.φ j)) l.length seen l.length)) (.obj (.map es l.length))) [] with hp := hp' } : St).put s.o1.dst (.tup [(false, [.bool true]), (false, [.unk]), (false, [.unk])]) = some { σg with hp := hp' } := fun hp' => by
    have h1 := (put_any hg).2 hp' [] []
    have h2 := (put_any hg).1
    rw [st_os (hp := hp') (os := []) (cs := []) h2.2.2 h2.1] at h1
    exact h1
  unfold MS.code
  refine wp_seq (next_rel (m := l.length) hok.n1 hok.h1 hok.p1 hok.g1 hr' hx (by rw [hφ]; exact hi') hj' e2 he hg' rfl (fun hz a1 hr1 => ?_) fun e hel X1 a1 hle1 hH1 hr1 => ?_)
  · -- nothing is left
    rw [rem_nil e2s hz] at hinv
    obtain ⟨os, v, hv⟩ := endP t hinv
    obtain ⟨σ1, g1, g2, g3, g4, g5, g6⟩ := hv rest (.mapIter (some (X.φ j)) l.length seen l.length) (.map es l.length)
    obtain ⟨_, σe', q1, q2, q3⟩ := mEnd_some g1
    have hσ : σe' = { σe with os := os } := by
      have := (put_any he).2 (hpf t (.obj (.mapIter (some (X.φ j)) l.length seen l.length)) (.obj (.map es l.length))) os []
      have h3 : (some σe' : Option St) = some { σe with hp := _, os := os, cs := [] } := q1.symm.trans this
      injection h3 with h3
      rw [h3]
      exact st_hp (put_any he).1.2.1 (put_any he).1.1
    have hrr : Rel X' σe' a1 := by
      have := hr1.cs os σe.cs
      rw [hσ]; exact this
    refine opsRun_sim E.hkp E.kk_ok _ hrr q2 g3 fun X2 a2 hle2 hr2 => ?_
    refine wp_seq (wp_cond_false (ev_rel hr2 q3) (wp_exit ?_))
    have hk : Keeps (dstsC body) (headS nt (zipT slots (vals t) ++ (zipT ro rov ++ rest)) (hpf t (.obj (.mapIter (some (X.φ j)) l.length seen l.length)) (.obj (.map es l.length))) os) σ1 :=
      ((put_keeps q1).mono p1).trans ((opsRun_keeps _ q2).mono d1)
    have hh := hr2.head (m := m) (vs' := outs t) hss' hk g2 (by rw [g5]; exact g4) hrest hids (by rw [g5]; exact g6) []
    rw [g5] at hh
    -- the map and its iterator as blocks again
    have hle3 : X.le (X2.cut m) := cutle (hle.trans hle2)
    have hHc : (X2.cut m).H = fun k => (hpf t (.obj (.mapIter (some (X.φ j)) l.length seen l.length)) (.obj (.map es l.length)))[k]? := hh.heap
    have hci : (X2.cut m).H i = some (.obj (.mapIter (some (X.φ j)) l.length seen l.length)) := by rw [hHc]; exact (hget t _ _).1
    have hcj : (X2.cut m).H j = some (.obj (.map es l.length)) := by rw [hHc]; exact (hget t _ _).2
    obtain ⟨k1, k2⟩ := obj_mp (X := X2.cut m) hr.hrel hXj e1 hle3 hh.hrel hcj
    obtain ⟨k3, k4⟩ := hh.setH (j := j) (b := .mp kt vt ka va l) hcj rfl rfl (fun _ _ h => by cases h) (k2.blk j _ (by simp only [Ctx.setH, upd_same]))
    rw [(hset _ _ _ _).2] at k4
    have hji : j ≠ i := fun h => hij h.symm
    obtain ⟨k5, k6⟩ := k4.setH (j := i) (b := .iter j l.length false) (b0 := .obj (.mapIter (some (X.φ j)) l.length seen l.length)) (by simp only [Ctx.setH, upd_other _ _ hij]; exact hci) rfl rfl (fun _ _ h => by cases h) ⟨⟨.mp kt vt ka va l, by simp only [Ctx.setH, upd_other _ _ hji, upd_same], rfl⟩, fun h => by cases h⟩
    rw [(hset _ _ _ _).1] at k6
    exact hq ⟨t, oldP t hinv⟩ (((X2.cut m).setH j (.mp kt vt ka va l)).setH i (.iter j l.length false)) a2 ((hle3.trans k3).trans k5) k6
  · -- an entry comes
    have hle01 := hle.trans hle1
    obtain ⟨kk, p0, hk1, hk2, hk3⟩ := left_at e2s hel
    have hmem : (e, p0) ∈ pairsOf es l' := by
      refine List.mem_iff_getElem?.2 ⟨kk, ?_⟩
      unfold pairsOf
      rw [List.getElem?_zip_eq_some]
      exact ⟨by simpa using hk1, hk2⟩
    obtain ⟨A, p, B, hpz, hrem, hrem'⟩ := filter_one (zip_nodup e2.2.2.1 e2s) ⟨p0, hmem⟩ hk3
    have hrem : remOf es l' seen = A ++ p :: B := hrem
    have hrem' : remOf es l' (seen.push e.born) = A ++ B := hrem'
    have hpl : ∃ k : Nat, es[k]? = some e ∧ l'[k]? = some p := by
      obtain ⟨k, hk⟩ := List.mem_iff_getElem?.1 hpz
      unfold pairsOf at hk
      rw [List.getElem?_zip_eq_some] at hk
      exact ⟨k, by simpa using hk.1, hk.2⟩
    obtain ⟨kp, hkp1, hkp2⟩ := hpl
    rw [hrem] at hinv
    obtain ⟨t', hI2, os, v, hv⟩ := goP t A p B hinv
    obtain ⟨h1, σ3, g1, g2, g3, g4, g5, g6, g7, g8⟩ := hv rest (.mapIter (some (X.φ j)) l.length (seen.push e.born) l.length) (.map es l.length)
    obtain ⟨σg', σ1, σp, σ2, e3', q1, q2, q3, q4, q5, q6, q7, q8, q9⟩ := mGo_some g1
    subst q9
    have hσ : σg' = { σg with hp := hpf t (.obj (.mapIter (some (X.φ j)) l.length (seen.push e.born) l.length)) (.obj (.map es l.length)), os := os } := by
      have := (put_any hg).2 (hpf t (.obj (.mapIter (some (X.φ j)) l.length (seen.push e.born) l.length)) (.obj (.map es l.length))) os []
      have h3 : (some σg' : Option St) = some { σg with hp := _, os := os, cs := [] } := q1.symm.trans this
      injection h3 with h3
      rw [h3]
      exact st_cs (put_any hg).1.1
    have hrr : Rel X1 σg' a1 := by
      have h0 : Rel X1 { σg with hp := hpf t (.obj (.mapIter (some (X.φ j)) l.length (seen.push e.born) l.length)) (.obj (.map es l.length)) } a1 := by
        rw [← (hset t (.obj (.mapIter (some (X.φ j)) l.length seen l.length)) (.obj (.map es l.length)) (.obj (.mapIter (some (X.φ j)) l.length (seen.push e.born) l.length))).1]
        rw [hφ] at hr1
        exact hr1
      have := h0.cs os σg.cs
      rw [hσ]; exact this
    have c2 : ∀ c ∈ σ2.cs, c = true := fun c hc => by
      obtain ⟨cs, hcs⟩ := exec_suf s.R hlc q7
      exact g5 c (by rw [hcs]; exact List.mem_append_right _ hc)
    have c1 : ∀ c ∈ σ1.cs, c = true := fun c hc => by
      obtain ⟨cs, hcs⟩ := opsRun_suf _ q6
      have := (put_any q5).1.1
      exact c2 c (by rw [hcs, this]; exact List.mem_append_right _ hc)
    have hkeep : Keeps (dstsC body) (headS nt (zipT slots (vals t) ++ (zipT ro rov ++ rest)) (hpf t (.obj (.mapIter (some (X.φ j)) l.length (seen.push e.born) l.length)) (.obj (.map es l.length))) os) σ3 :=
      ((((put_keeps q1).mono p1).trans ((opsRun_keeps _ q2).mono d1)).trans ((put_keeps q5).mono p2)).trans (((opsRun_keeps _ q6).mono d2).trans ((exec_keeps s.R hkp q7).mono d3))
    refine opsRun_sim E.hkp E.kk_ok _ hrr q2 c1 fun X2 a2 hle2 hr2 => ?_
    have hle02 := hle01.trans hle2
    have hφ2 : X2.φ j = X.φ j := (hle02.loc j _ hXj rfl).2
    have hH2 : X2.H = fun k => σ1.hp[k]? := hr2.heap
    refine wp_seq (wp_cond_true (ev_rel hr2 q3) (wp_skip (wp_block (wp_seq ?_))))
    refine entry_rel' (m := l.length) hok.n2 hok.h2 hok.p2 hok.g2 hr2 (ev_rel hr2 q4) (by rw [hH2, hφ2]; exact g2) (by rw [hH2]; exact g3) e2 (mem_left hel).1 (VR.mono hle02 _ _ (entry_rel hflat e3 hkp2 hkp1 hka hva)) q5 fun a3 hr3 => ?_
    refine opsRun_sim E.hkp E.kk_ok _ hr3 q6 c2 fun X4 a4 hle4 hr4 => ?_
    refine exec_sim E.hm E.hkp E.kx_ok E.kk_ok s.R hlc q7 g5 hr4 fun X5 a5 hle5 hr5 => ?_
    have hh := hr5.head (m := m) (vs' := vals t') hss' hkeep g4 (by rw [g7]; exact g6) hrest hids (by rw [g7]; exact g8) []
    rw [g7] at hh
    have done : ∃ q : S × Array Nat, (∃ X', X.le X' ∧ X'.w = X5.w ∧ Rel X' (headS nt (zipT slots (vals q.1) ++ (zipT ro rov ++ rest)) (hpf q.1 (.obj (.mapIter (some (X.φ j)) l.length q.2 l.length)) (.obj (.map es l.length))) []) a5 ∧ InvP q.1 (remOf es l' q.2)) ∧ (remOf es l' q.2).length < (remOf es l' seen).length :=
      ⟨(t', seen.push e.born), ⟨X5.cut m, cutle (hle02.trans (hle4.trans hle5)), rfl, hh, by rw [hrem']; exact hI2⟩, by
        show (remOf es l' (seen.push e.born)).length < _
        rw [hrem, hrem']; simp⟩
    rcases q8 with rfl | rfl
    · exact done
    · simp only [XE.out, Exit.inBlock, if_true]; exact done
end Go.Eng
