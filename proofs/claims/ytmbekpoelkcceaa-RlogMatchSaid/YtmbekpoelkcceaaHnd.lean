/- hand: its contract in use; no statement. -/
import Derived.Test.YtmbekpoelkcceaaHand
set_option linter.unusedVariables false
set_option linter.unusedSimpArgs false
namespace Go.Proofs.Ytmbekpoelkcceaa
open Go Go.Eng

def handY (l : List rEntry.den) (a b : Int) (x : List rEntry.den) : List rEntry.den :=
  putX (hF l.length a) (if hF l.length a = 0 then 0 else (l.getD (hF l.length a - 1) rEntry.dflt).2.1) ((l.take (hT l.length a b)).drop (hF l.length a)) x
theorem handY_ld {n : Nat} {g : List Int} {ev' : Bool} {L : Nat} (a b : Int) (ha : 0 ≤ a) (hb : 0 ≤ b) (hL : L ≤ 40) (x : List rEntry.den) : handY (ldTo n g ev' L) a b x = handX n g ev' L a b x := by
  unfold handY handX
  rw [ldTo_len]
  obtain ⟨f1, f2⟩ := hF_ok L a ha hL
  obtain ⟨t1, t2, t3⟩ := hT_ok L a b ha hb hL
  rw [ldTo_take t3]
  congr 1
  unfold tmAt
  split
  · rfl
  · rw [ldTo_getD (by omega)]
    show ldTm n g ev' (hF L a - 1 + 1) = _
    rw [Nat.sub_add_cancel (by omega)]
structure HandOk (l x : List rEntry.den) (a b : Int) : Prop where
  ha : 0 ≤ a ∧ a ≤ 255
  hb : 0 ≤ b ∧ b ≤ 255
  ex : ∃ (n : Nat) (g : List Int) (ev ev' : Bool) (L m : Nat), (∀ x ∈ g, (0 : Int) ≤ x) ∧ L ≤ 40 ∧ m ≤ 40 ∧ l = ldTo n g ev' L ∧ x = ldTo n g ev m
theorem hand_ok {l x : List rEntry.den} {a b : Int} (h : HandOk l x a b) (o : Bool) : HeapCall Try.prog 11 [.one (.ptr 1 0), vL rEntry l, .agg [.bool o, .int .u8 a, .int .u8 b]] [baB, logB x .shared] (vB true) [baB, logB (handY l a b x) .shared] := by
  obtain ⟨n, g, ev, ev', L, m, hg, hL, hm, rfl, rfl⟩ := h.ex
  rw [handY_ld a b h.ha.1 h.hb.1 hL]
  exact hand_heap hg hL hm o a b h.ha h.hb
noncomputable def EHnd : Env Try.prog := ESlc.addHF 11 sel2
  (fun args hp os => match args, hp with
    | [.one (.ptr 1 0), .one (.sl r1 l1 .shared), .agg [.bool o, .int .u8 a, .int .u8 b]], [.cells [.int .u64 b0, .int .u64 b1, .nils], .cells [.int .u64 b2, .int .u64 b3, .sl (.int .i64) [] .shared, .sl r3 x3 .shared, .bool mk]] =>
      match asE r1 l1, asE r3 x3 with
      | some l, some x => retC (vB true, [baB, logB (handY l a b x) .shared]) [decide (b0 = 0 ∧ b1 = 0 ∧ b2 = 0 ∧ b3 = 0 ∧ mk = true), ok (HandOk l x a b)] os
      | _, _ => none
    | _, _ => none)
  (fun args hp os r hp' cs os' h hc => by
    split at h
    · rename_i r1 l1 o a b b0 b1 b2 b3 r3 x3 mk
      split at h
      · rename_i l x e1 e3
        obtain ⟨rfl, e1⟩ := asE_eq e1
        obtain ⟨rfl, e3⟩ := asE_eq e3
        subst e1; subst e3
        simp only [retC, Option.some.injEq, Prod.mk.injEq] at h
        obtain ⟨⟨rfl, rfl⟩, rfl, rfl⟩ := h
        obtain ⟨h1, hc⟩ := of_allTc hc
        obtain ⟨h2, _⟩ := of_allTc hc
        obtain ⟨rfl, rfl, rfl, rfl, rfl⟩ := of_decide_eq_true h1
        exact hand_ok (of_ok h2) o
      · cases h
    · cases h)
abbrev rPiece : CT := .pair .bool (.pair cB (.pair cB .unit))
def matS (a b : List rEntry.den) (x : List rEntry.den) (p : rPiece.den) : List rEntry.den := handY (if p.1 then b else a) p.2.1 p.2.2.1 x
def matX (a b : List rEntry.den) (l : List rPiece.den) (k : Nat) : List rEntry.den := (l.take k).foldl (matS a b) []
theorem matX_succ {a b : List rEntry.den} {l : List rPiece.den} {k : Nat} (h : k < l.length) : matX a b l (k + 1) = matS a b (matX a b l k) (l.getD k rPiece.dflt) := by
  unfold matX
  rw [List.take_add_one, List.foldl_append, getD_get (d := rPiece.dflt) h]
  rfl
end Go.Proofs.Ytmbekpoelkcceaa
