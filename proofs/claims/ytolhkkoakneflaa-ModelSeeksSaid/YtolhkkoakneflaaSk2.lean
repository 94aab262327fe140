/- A seek: what it finds, whatever order the entries come in; no statement. -/
import Derived.Test.YtolhkkoakneflaaSk1
set_option linter.unusedVariables false
set_option linter.unusedSimpArgs false
namespace Go.Proofs.Ytolhkkoakneflaa
open Go Go.Eng

/-- A model's keys: of the small rows and columns, none twice. -/
structure MK (M : MapT) : Prop where
  nd : (M.map (·.1)).Nodup
  form : ∀ q ∈ M, ∃ r, r < 4 ∧ (q.1 = (rowN r, e0B, ()) ∨ ∃ c, c < 3 ∧ q.1 = (rowN r, colN c, ()))

def zR : rRes.den := (0, false, e0B, e0B, 0, ())
def sAt (M : MapT) (f c r : Nat) : Option rRes.den := match alook (vt := rCell) (rowN r, colN c, ()) M with
  | some x => if x.2.2.2.1 = false ∧ f ≤ r then some (0, true, rowN r, x.2.2.2.2.1, x.2.2.1, ()) else none
  | none => none
/-- The least row from one on, of four, that has the column. -/
def seekV (M : MapT) (f c : Nat) : rRes.den := match sAt M f c 0 with
  | some v => v
  | none => match sAt M f c 1 with
    | some v => v
    | none => match sAt M f c 2 with
      | some v => v
      | none => match sAt M f c 3 with
        | some v => v
        | none => zR

theorem alook_mem {k : rP.den} {x : rCell.den} : ∀ {M : MapT}, alook (vt := rCell) k M = some x → (k, x) ∈ M
  | [], h => by cases h
  | q :: M, h => by
    unfold alook at h
    split at h
    · rename_i e
      injection h with h
      have := (same_iff rP rfl k q.1).1 e
      subst h
      rw [this]
      exact List.mem_cons_self ..
    · exact List.mem_cons_of_mem _ (alook_mem h)
theorem mem_alook {k : rP.den} {x : rCell.den} : ∀ {M : MapT}, (M.map (·.1)).Nodup → (k, x) ∈ M → alook (vt := rCell) k M = some x
  | [], _, h => by cases h
  | q :: M, hn, h => by
    rw [List.map_cons, List.nodup_cons] at hn
    unfold alook
    rcases List.mem_cons.1 h with h | h
    · subst h
      rw [if_pos (same_refl rP k)]
    · rw [if_neg (fun e => hn.1 ?_)]
      · exact mem_alook hn.2 h
      · have := (same_iff rP rfl k q.1).1 e
        rw [← this]
        exact List.mem_map.2 ⟨(k, x), h, rfl⟩

/-- An entry that a seek may find. -/
def GoodAt (f c : Nat) (q : rP.den × rCell.den) (r : Nat) : Prop := r < 4 ∧ f ≤ r ∧ q.1 = (rowN r, colN c, ()) ∧ q.2.2.2.2.1 = false
def resQ (q : rP.den × rCell.den) : rRes.den := (0, true, q.1.1, q.2.2.2.2.2.1, q.2.2.2.1, ())
def SkInv (M : MapT) (f c : Nat) (out : rRes.den) (rem : MapT) : Prop :=
  rem.Sublist M ∧ ((∃ q r, q ∈ M ∧ GoodAt f c q r ∧ q ∉ rem ∧ out = resQ q ∧ ∀ q' r', q' ∈ M → GoodAt f c q' r' → q' ∉ rem → r ≤ r') ∨ (out = zR ∧ ∀ q' r', q' ∈ M → GoodAt f c q' r' → q' ∈ rem))

theorem row_less : ∀ a, a < 6 → ∀ b, b < 6 → Op.bytesLess (ByteArray.toList (rowN a)) (ByteArray.toList (rowN b)) = decide (a < b) := by decide +kernel
theorem row_same {a b : Nat} (ha : a < 256) (hb : b < 256) : (ByteArray.toList (rowN a) == ByteArray.toList (rowN b)) = decide (a = b) := by
  rw [bl]
  by_cases h : a = b
  · subst h; rw [decide_eq_true rfl]; exact baRfl _
  · rw [decide_eq_false h]; exact beqF (fun e => h (rowN_inj ha hb e))
theorem col_same {a b : Nat} (ha : a < 256) (hb : b < 256) : (ByteArray.toList (colN a) == ByteArray.toList (colN b)) = decide (a = b) := by
  rw [bl]
  by_cases h : a = b
  · subst h; rw [decide_eq_true rfl]; exact baRfl _
  · rw [decide_eq_false h]; exact beqF (fun e => h (colN_inj ha hb e))
theorem emp_col (c : Nat) : (ByteArray.toList e0B == ByteArray.toList (colN c)) = false := by
  rw [bl]; exact beqF (fun e => colN_ne c e.symm)

theorem good_row {f c r r' : Nat} {q : rP.den × rCell.den} (h : GoodAt f c q r) (h' : GoodAt f c q r') : r = r' := by
  have := h.2.2.1.symm.trans h'.2.2.1
  injection this with e
  exact rowN_inj (by have := h.1; omega) (by have := h'.1; omega) e

theorem sk_inv {M : MapT} (K : MK M) {f c : Nat} (hf : f < 6) (hc : c < 3) {out : rRes.den} {A B : MapT} {p : rP.den × rCell.den} (h : SkInv M f c out (A ++ p :: B)) : SkInv M f c (skStep (opP 5 f c e0B false e0B) out p.1 p.2) (A ++ B) := by
  obtain ⟨hsub, hcase⟩ := h
  have hsub' : (A ++ B).Sublist M := (List.Sublist.append_left (List.sublist_cons_self p B) A).trans hsub
  have hpM : p ∈ M := hsub.subset (by simp)
  have hnd : (A ++ p :: B).Nodup := by
    have h1 : ((A ++ p :: B).map (·.1)).Nodup := (hsub.map _).nodup K.nd
    exact List.Pairwise.of_map (·.1) (fun a b h e => h (by rw [e])) h1
  have hpn : p ∉ A ++ B := fun hm => by
    obtain ⟨_, h2, h3⟩ := List.nodup_append.1 hnd
    rcases List.mem_append.1 hm with h | h
    · exact h3 p h p (List.mem_cons_self ..) rfl
    · exact (List.nodup_cons.1 h2).1 h
  have hmem : ∀ q, q ∈ A ++ p :: B ↔ q = p ∨ q ∈ A ++ B := fun q => by
    simp only [List.mem_append, List.mem_cons]
    constructor
    · rintro (h | h | h)
      · exact .inr (.inl h)
      · exact .inl h
      · exact .inr (.inr h)
    · rintro (h | h | h)
      · exact .inr (.inl h)
      · exact .inl h
      · exact .inr (.inr h)
  -- what the step does with an entry that may not be found, or that may
  obtain ⟨ρ, hρ, hform⟩ := K.form p hpM
  have bad : (∀ r, ¬ GoodAt f c p r) → skStep (opP 5 f c e0B false e0B) out p.1 p.2 = out := fun hb => by
    unfold skStep
    show (bif (ByteArray.toList p.1.2.1 == ByteArray.toList (colN c)) then _ else out) = out
    rcases hform with e | ⟨γ, hγ, e⟩
    · rw [show p.1.2.1 = e0B by rw [e], emp_col]; rfl
    · rw [show p.1.2.1 = colN γ by rw [e], col_same (by omega) (by omega)]
      by_cases hg : γ = c
      · subst hg
        rw [decide_eq_true rfl]
        show (bif Op.bytesLess (ByteArray.toList p.1.1) (ByteArray.toList (rowN f)) then _ else _) = out
        rw [show p.1.1 = rowN ρ by rw [e], row_less ρ (by omega) f hf]
        by_cases hl : ρ < f
        · rw [decide_eq_true hl]; rfl
        · rw [decide_eq_false hl]
          show (bif p.2.2.2.2.1 then out else _) = out
          cases hgn : p.2.2.2.2.1 with
          | true => rfl
          | false => exact absurd ⟨hρ, by omega, e, hgn⟩ (hb ρ)
      · rw [decide_eq_false hg]; rfl
  have good : GoodAt f c p ρ → skStep (opP 5 f c e0B false e0B) out p.1 p.2 = bif out.2.1 then (bif (Op.bytesLess (ByteArray.toList out.2.2.1) (ByteArray.toList (rowN ρ)) || ByteArray.toList out.2.2.1 == ByteArray.toList (rowN ρ)) then out else resQ p) else resQ p := fun hg => by
    have e := hg.2.2.1
    unfold skStep
    show (bif (ByteArray.toList p.1.2.1 == ByteArray.toList (colN c)) then _ else out) = _
    rw [show p.1.2.1 = colN c by rw [e], col_same (by omega) (by omega), decide_eq_true rfl]
    show (bif Op.bytesLess (ByteArray.toList p.1.1) (ByteArray.toList (rowN f)) then _ else _) = _
    rw [show p.1.1 = rowN ρ by rw [e], row_less ρ (by omega) f hf, decide_eq_false (by have := hg.2.1; omega)]
    show (bif p.2.2.2.2.1 then out else _) = _
    rw [hg.2.2.2]
    show (bif out.2.1 then (bif (Op.bytesLess (ByteArray.toList out.2.2.1) (ByteArray.toList (rowN ρ)) || ByteArray.toList out.2.2.1 == ByteArray.toList (rowN ρ)) then out else (0, true, rowN ρ, p.2.2.2.2.2.1, p.2.2.2.1, ())) else (0, true, rowN ρ, p.2.2.2.2.2.1, p.2.2.2.1, ())) = _
    have : resQ p = (0, true, rowN ρ, p.2.2.2.2.2.1, p.2.2.2.1, ()) := by unfold resQ; rw [e]
    rw [this]
  refine ⟨hsub', ?_⟩
  by_cases hg : ∃ r, GoodAt f c p r
  · obtain ⟨r0, hg⟩ := hg
    have hr0 : GoodAt f c p ρ := by
      have e := hg.2.2.1
      rcases hform with e' | ⟨γ, hγ, e'⟩
      · rw [e] at e'; injection e' with _ e'; injection e' with e' _; exact absurd e' (colN_ne c)
      · rw [e] at e'; injection e' with e1 e2
        rwa [← rowN_inj (by have := hg.1; omega) (by omega) e1]
    rw [good hr0]
    rcases hcase with ⟨q, r, hq, hqg, hqn, ho, hmin⟩ | ⟨ho, hall⟩
    · have hqp : q ≠ p := fun e => hqn (by rw [e]; simp)
      have hrρ : r ≠ ρ := fun e => by
        subst e
        have hk : q.1 = p.1 := hqg.2.2.1.trans hr0.2.2.1.symm
        have h1 := mem_alook K.nd (show (q.1, q.2) ∈ M from hq)
        have h2 := mem_alook K.nd (show (p.1, p.2) ∈ M from hpM)
        rw [hk, h2] at h1
        injection h1 with h1
        exact hqp (Prod.ext hk h1.symm)
      have ho1 : out.2.1 = true := by rw [ho]; rfl
      have ho2 : out.2.2.1 = rowN r := by rw [ho]; show q.1.1 = _; rw [hqg.2.2.1]
      rw [ho1, ho2, row_less r (by have := hqg.1; omega) ρ (by omega), row_same (by have := hqg.1; omega) (by omega), decide_eq_false (p := r = ρ) hrρ, Bool.or_false, cond_true]
      by_cases hlt : r < ρ
      · rw [decide_eq_true hlt, cond_true]
        left
        refine ⟨q, r, hq, hqg, fun hm => hqn ((hmem q).2 (.inr hm)), ho, fun q' r' h1 h2 h3 => ?_⟩
        by_cases e : q' = p
        · subst e; rw [good_row h2 hr0]; omega
        · exact hmin q' r' h1 h2 (fun hm => ((hmem q').1 hm).elim e h3)
      · rw [decide_eq_false hlt, cond_false]
        left
        refine ⟨p, ρ, hpM, hr0, hpn, rfl, fun q' r' h1 h2 h3 => ?_⟩
        by_cases e : q' = p
        · subst e; rw [good_row h2 hr0]; exact Nat.le_refl _
        · have := hmin q' r' h1 h2 (fun hm => ((hmem q').1 hm).elim e h3)
          omega
    · have ho1 : out.2.1 = false := by rw [ho]; rfl
      rw [ho1, cond_false]
      left
      refine ⟨p, ρ, hpM, hr0, hpn, rfl, fun q' r' h1 h2 h3 => ?_⟩
      by_cases e : q' = p
      · subst e; rw [good_row h2 hr0]; exact Nat.le_refl _
      · have := hall q' r' h1 h2
        rcases (hmem q').1 this with h | h
        · exact absurd h e
        · exact absurd h h3
  · have hb : ∀ r, ¬ GoodAt f c p r := fun r h => hg ⟨r, h⟩
    rw [bad hb]
    rcases hcase with ⟨q, r, hq, hqg, hqn, ho, hmin⟩ | ⟨ho, hall⟩
    · left
      refine ⟨q, r, hq, hqg, fun hm => hqn ((hmem q).2 (.inr hm)), ho, fun q' r' h1 h2 h3 => ?_⟩
      exact hmin q' r' h1 h2 (fun hm => by
        rcases (hmem q').1 hm with h | h
        · subst h; exact hb r' h2
        · exact h3 h)
    · right
      refine ⟨ho, fun q' r' h1 h2 => ?_⟩
      rcases (hmem q').1 (hall q' r' h1 h2) with h | h
      · subst h; exact absurd h2 (hb r')
      · exact h

theorem sAt_some {M : MapT} {f c r : Nat} (K : MK M) {q : rP.den × rCell.den} (hq : q ∈ M) (hg : GoodAt f c q r) : sAt M f c r = some (resQ q) := by
  have h1 := mem_alook K.nd (show (q.1, q.2) ∈ M from hq)
  unfold sAt
  rw [← hg.2.2.1, h1]
  simp only
  rw [if_pos ⟨hg.2.2.2, hg.2.1⟩]
  unfold resQ
  rw [hg.2.2.1]
theorem sAt_none {M : MapT} {f c r : Nat} (hr : r < 4) (h : ∀ q, q ∈ M → ¬ GoodAt f c q r) : sAt M f c r = none := by
  unfold sAt
  split
  · rename_i x hx
    rw [if_neg (fun hh => h _ (alook_mem hx) ⟨hr, hh.2, rfl, hh.1⟩)]
  · rfl
theorem sk_done {M : MapT} (K : MK M) {f c : Nat} {out : rRes.den} (h : SkInv M f c out []) : out = seekV M f c := by
  obtain ⟨_, ⟨q, r, hq, hqg, _, ho, hmin⟩ | ⟨ho, hall⟩⟩ := h
  · have h1 := sAt_some K hq hqg
    have h0 : ∀ r', r' < r → sAt M f c r' = none := fun r' hr' => sAt_none (by have := hqg.1; omega) fun q' h1 h2 => by
      have := hmin q' r' h1 h2 (by simp)
      omega
    have hr := hqg.1
    rw [ho]
    unfold seekV
    match r, hr with
    | 0, _ => rw [h1]
    | 1, _ => rw [h0 0 (by omega), h1]
    | 2, _ => rw [h0 0 (by omega), h0 1 (by omega), h1]
    | 3, _ => rw [h0 0 (by omega), h0 1 (by omega), h0 2 (by omega), h1]
  · have h0 : ∀ r', r' < 4 → sAt M f c r' = none := fun r' hr' => sAt_none hr' fun q' h1 h2 => by
      have := hall q' r' h1 h2
      simp at this
    rw [ho]
    unfold seekV
    rw [h0 0 (by omega), h0 1 (by omega), h0 2 (by omega), h0 3 (by omega)]

theorem sk_loop (M : MapT) (K : MK M) (f c : Nat) (hf : f < 6) (hc : c < 3) (z : rRes.den) :
    LoopOk Try.prog lSk 25 [] [14, 6] [] rvS (hpS (opP 5 f c e0B false e0B) z zR (.iter 0 M.length true) (.mp rP rCell true true M)) (.exit msSk.ie) [] (hpS (opP 5 f c e0B false e0B) z (seekV M f c) (.iter 0 M.length false) (.mp rP rCell true true M)) :=
  LoopOk.range (S := rRes.den) EMi lSk_eq msSk_eq (by kernel_rfl) (i := 5) (j := 0) (m := 6) (by decide) M (.inl rfl) (.inl rfl) (fun _ => []) (fun out => hpS (opP 5 f c e0B false e0B) z out)
    (fun _ _ _ => ⟨rfl, rfl⟩) (fun _ _ _ _ => ⟨rfl, rfl⟩) (fun _ _ _ => rfl) (SkInv M f c) zR ⟨List.Sublist.refl _, .inr ⟨rfl, fun q' _ h _ => h⟩⟩ (fun t rest hp => by kernel_rfl)
    (fun out A p B h => ⟨_, sk_inv K hf hc h, sk_go _ _ _ _ _⟩) (fun out h => ⟨sk_end _ _ _, by rw [sk_done K h]⟩)
end Go.Proofs.Ytolhkkoakneflaa
