/- Which messages may be: of each kind the others fields are none; a message read is laid as it was; no statement. -/
import Derived.Test.YtjplobgambnhjaaAgb
set_option linter.unusedVariables false
set_option linter.unusedSimpArgs false
set_option maxRecDepth 100000
namespace Go.Proofs.Ytjplobgambnhjaa
open Go Go.Eng

theorem chV_true : ∀ (l : List (Nat × Bool)) {b : Bool}, chV b l = true → b = true ∧ ∀ p ∈ l, p.2 = true
  | [], b, h => ⟨h, fun p hp => by cases hp⟩
  | (n, x) :: l, b, h => by
    obtain ⟨h1, h2⟩ := chV_true l (show chV (bif b then x else false) l = true from h)
    obtain ⟨k1, k2⟩ := bif_split h1
    refine ⟨k1, fun p hp => ?_⟩
    rcases List.mem_cons.1 hp with rfl | hp
    · exact k2
    · exact h2 p hp
theorem toList_inj {a b : ByteArray} (h : (ByteArray.toList a == ByteArray.toList b) = true) : a = b := by
  have h := eq_of_beq h
  rw [ByteArray.toList_eq, ByteArray.toList_eq] at h
  exact ByteArray.ext (Array.ext' h)
structure SameE (a b : rMsg.den) : Prop where
  t : a.2.2.1 = b.2.2.1
  i : a.2.2.2.1 = b.2.2.2.1
  lt : a.2.2.2.2.1 = b.2.2.2.2.1
  c : a.2.2.2.2.2.1 = b.2.2.2.2.2.1
  o : a.2.2.2.2.2.2.1 = b.2.2.2.2.2.2.1
  d : a.2.2.2.2.2.2.2.2.2.1 = b.2.2.2.2.2.2.2.2.2.1
  b1 : a.2.2.2.2.2.2.2.2.1.1 = b.2.2.2.2.2.2.2.2.1.1
  b2 : a.2.2.2.2.2.2.2.2.1.2.1 = b.2.2.2.2.2.2.2.2.1.2.1
  b3 : a.2.2.2.2.2.2.2.2.1.2.2.1 = b.2.2.2.2.2.2.2.2.1.2.2.1
  rq : aR a = aR b
  rp : aP a = aP b
  ak : aA a = aA b
  to : aT a = aT b
theorem sameM_eq {a b : rMsg.den} (h : sameM a b = true) : SameE a b := by
  obtain ⟨h, e1⟩ := bif_split (show (bif sm_4 a b then _ else false) = true from h)
  obtain ⟨h, e2⟩ := bif_split (show (bif sm_3 a b then _ else false) = true from h)
  obtain ⟨h, e3⟩ := bif_split (show (bif sm_2 a b then _ else false) = true from h)
  obtain ⟨h, e4⟩ := bif_split (show (bif sm_1 a b then _ else false) = true from h)
  obtain ⟨h, hb⟩ := bif_split (show (bif sp_6 a b then sb_3 a b else false) = true from h)
  obtain ⟨hb, e5⟩ := bif_split (show (bif sb_2 a b then _ else false) = true from hb)
  obtain ⟨e7, e6⟩ := bif_split (show (bif sb_1 a b then _ else false) = true from hb)
  obtain ⟨h, e8⟩ := bif_split (show (bif sp_5 a b then _ else false) = true from h)
  obtain ⟨h, e9⟩ := bif_split (show (bif sp_4 a b then _ else false) = true from h)
  obtain ⟨h, e10⟩ := bif_split (show (bif sp_3 a b then _ else false) = true from h)
  obtain ⟨h, e11⟩ := bif_split (show (bif sp_2 a b then _ else false) = true from h)
  obtain ⟨e13, e12⟩ := bif_split (show (bif sp_1 a b then _ else false) = true from h)
  exact ⟨eq_of_beq e13, eq_of_beq e12, eq_of_beq e11, eq_of_beq e10, eq_of_beq e9, toList_inj e8, eq_of_beq e7, eq_of_beq e6, of_decide_eq_true e5, same_eq rReq rfl e4, same_eq rRep rfl e3, same_eq rAsk rfl e2, same_eq rTold rfl e1⟩
theorem tlM_mem {x m : rMsg.den} {n : Nat} {l : List (Nat × Bool)} (h : ∀ p ∈ l ++ tlM x m n, p.2 = true) : SameE x m ∧ n = (enL m).length ∧ leT x.2.2.1 = true ∧ leT x.2.2.2.1 = true ∧ leT x.2.2.2.2.1 = true ∧ leT x.2.2.2.2.2.1 = true := by
  have hm : ∀ p ∈ tlM x m n, p.2 = true := fun p hp => h p (List.mem_append_right _ hp)
  have h1 := hm (2, leT x.2.2.1) (by simp [tlM])
  have h2 := hm (2, leT x.2.2.2.1) (by simp [tlM])
  have h3 := hm (2, leT x.2.2.2.2.1) (by simp [tlM])
  have h4 := hm (2, leT x.2.2.2.2.2.1) (by simp [tlM])
  have h5 := hm (2, sameM x m) (by simp [tlM])
  have h6 := hm (5, ((n : Nat) : Int) == (((enL m).length : Nat) : Int)) (by simp [tlM])
  exact ⟨sameM_eq h5, Int.ofNat.inj (eq_of_beq h6), h1, h2, h3, h4⟩
/-- A message of kind 3, another one. -/
theorem msg_kinds {d : rMsg.den} (h : msgB d = true) : (d.1 = 3 ∧ ms3 d = true) ∨ (∃ k : Nat, d.1 = ((k : Nat) : Int) ∧ 1 ≤ k ∧ k ≤ 9 ∧ k ≠ 3 ∧ msK d k = true) := by
  unfold msgB at h
  split at h
  · rename_i h3; exact .inl ⟨h3, h⟩
  · rename_i h3
    split at h
    · rename_i h19
      obtain ⟨n, hn⟩ : ∃ n : Int, d.1 = n := ⟨_, rfl⟩
      rw [hn] at h3 h19 h
      have h3 : ¬ (n = (3 : Int)) := h3
      have h19 : (1 : Int) ≤ n ∧ n ≤ (9 : Int) := h19
      have h3' : n.toNat ≠ 3 := by omega
      have hk : n = ((n.toNat : Nat) : Int) := by omega
      exact .inr ⟨n.toNat, hn.trans hk, by omega, by omega, h3', h⟩
    · cases h
theorem msgV_B {d : rMsg.den} (h : msgV d = 0) : msgB d = true := by
  unfold msgV at h
  cases e : msgB d with
  | true => rfl
  | false => rw [e] at h; cases h
theorem ms3_form {d : rMsg.den} (h3 : d.1 = 3) (h : ms3 d = true) : d = msgA d.2.1 d.2.2.1 d.2.2.2.1 d.2.2.2.2.1 d.2.2.2.2.2.1 (enL d) := by
  obtain ⟨_, h2⟩ := chV_true _ (show chV (g3 d) (tlM (mXk d 3) d d.2.2.2.2.2.2.2.1.length) = true from h)
  obtain ⟨e, _⟩ := tlM_mem (l := []) h2
  have h3 : d.1 = (3 : Int) := h3
  have o : d.2.2.2.2.2.2.1 = false := e.o.symm
  have dd : d.2.2.2.2.2.2.2.2.2.1 = bE := e.d.symm
  have q1 : d.2.2.2.2.2.2.2.2.1.1 = (0 : Int) := e.b1.symm
  have q2 : d.2.2.2.2.2.2.2.2.1.2.1 = (0 : Int) := e.b2.symm
  have q3 : d.2.2.2.2.2.2.2.2.1.2.2.1 = ([] : List Int) := e.b3.symm
  have q4 : d.2.2.2.2.2.2.2.2.2.2.1 = zR := e.rq.symm
  have q5 : d.2.2.2.2.2.2.2.2.2.2.2.1 = zP := e.rp.symm
  have q6 : d.2.2.2.2.2.2.2.2.2.2.2.2.1 = zA := e.ak.symm
  have q7 : d.2.2.2.2.2.2.2.2.2.2.2.2.2.1 = zT := e.to.symm
  show (d.1, d.2.1, d.2.2.1, d.2.2.2.1, d.2.2.2.2.1, d.2.2.2.2.2.1, d.2.2.2.2.2.2.1, d.2.2.2.2.2.2.2.1, (d.2.2.2.2.2.2.2.2.1.1, d.2.2.2.2.2.2.2.2.1.2.1, d.2.2.2.2.2.2.2.2.1.2.2.1, ()), d.2.2.2.2.2.2.2.2.2.1, d.2.2.2.2.2.2.2.2.2.2.1, d.2.2.2.2.2.2.2.2.2.2.2.1, d.2.2.2.2.2.2.2.2.2.2.2.2.1, d.2.2.2.2.2.2.2.2.2.2.2.2.2.1, ()) = ((3 : Int), d.2.1, d.2.2.1, d.2.2.2.1, d.2.2.2.2.1, d.2.2.2.2.2.1, false, d.2.2.2.2.2.2.2.1, zB, bE, zR, zP, zA, zT, ())
  rw [h3, o, dd, q1, q2, q3, q4, q5, q6, q7]
theorem msK_nil {d : rMsg.den} {k : Nat} (h : msK d k = true) : enL d = [] := by
  obtain ⟨_, h2⟩ := chV_true _ (show chV (g0 d) (kdM d k ++ tlM (mXk d k) d 0) = true from h)
  obtain ⟨_, e, _⟩ := tlM_mem h2
  exact List.eq_nil_of_length_eq_zero e.symm
/-- EncodeMsg of a message that may be. -/
theorem em_good {d : rMsg.den} (h0 : msgV d = 0) (h : MOk d) : PureCall Try.prog 28 [.agg (rMsg.cells d)] (tupY (encM d) 0) := by
  rcases msg_kinds (msgV_B h0) with ⟨h3, h⟩ | ⟨k, _, _, _, _, hk⟩
  · have hf := ms3_form h3 h
    cases hl : enL d with
    | nil => exact emb_h d hl h0 ‹MOk d›
    | cons e0 l =>
      rw [hl] at hf
      rename_i hM
      rw [hf] at h0 hM ⊢
      exact ema_h _ _ _ _ _ e0 l h0 hM
  · exact emb_h d (msK_nil hk) h0 h
end Go.Proofs.Ytjplobgambnhjaa
