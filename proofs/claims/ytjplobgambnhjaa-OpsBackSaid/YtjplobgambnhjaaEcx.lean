/- What a command that may be is bounded by; no statement. -/
import Derived.Test.YtjplobgambnhjaaOen
set_option linter.unusedVariables false
set_option linter.unusedSimpArgs false
set_option maxRecDepth 100000
set_option maxHeartbeats 4000000
namespace Go.Proofs.Ytjplobgambnhjaa
open Go Go.Eng

theorem baBeq (a b : ByteArray) : (a == b) = true ↔ a = b := by
  cases a with | mk d => cases b with | mk e =>
  constructor
  · intro h
    have : d = e := eq_of_beq (show (d == e) = true from h)
    rw [this]
  · intro h; rw [h]; exact baRefl' _
theorem bifO {b : Bool} {x y : Int} (h : (bif b then x else y) = 0) : (b = true ∧ x = 0) ∨ (b = false ∧ y = 0) := by
  cases b
  · exact .inr ⟨rfl, h⟩
  · exact .inl ⟨rfl, h⟩
structure OB (o : rOp.den) : Prop where
  ok : 0 ≤ (o.1 : Int) ∧ (o.1 : Int) ≤ 5
  r : ByteArray.size o.2.1 ≤ 32
  c : ByteArray.size o.2.2.1 ≤ 16
  v : ByteArray.size o.2.2.2.1 ≤ 256
  x : ByteArray.size o.2.2.2.2.2.1 ≤ 256
structure CB (q : rCmd.den) : Prop where
  kd : 0 ≤ (q.1 : Int) ∧ (q.1 : Int) ≤ 7
  cl : 0 ≤ (q.2.1 : Int) ∧ (q.2.1 : Int) ≤ 4
  sq : (q.2.2.1 : Int) ≤ 1099511627776
  ep : (q.2.2.2.1 : Int) ≤ 1099511627776
  ob : OB q.2.2.2.2.1
  pr : (q.2.2.2.2.2.1 : Int) ≤ 1099511627776
  st : 0 ≤ (q.2.2.2.2.2.2.1 : Int) ∧ (q.2.2.2.2.2.2.1 : Int) ≤ 100
  key : ByteArray.size q.2.2.2.2.2.2.2.1 ≤ 32
  val : ByteArray.size q.2.2.2.2.2.2.2.2.1 ≤ 256
  gr : 0 ≤ (q.2.2.2.2.2.2.2.2.2.1 : Int) ∧ (q.2.2.2.2.2.2.2.2.2.1 : Int) ≤ 12
  wg : 0 ≤ (q.2.2.2.2.2.2.2.2.2.2.1.2.1 : Int) ∧ (q.2.2.2.2.2.2.2.2.2.2.1.2.1 : Int) ≤ 12
  wk : ByteArray.size q.2.2.2.2.2.2.2.2.2.2.1.2.2.1 ≤ 24
  wi : 0 ≤ (q.2.2.2.2.2.2.2.2.2.2.1.2.2.2.1 : Int) ∧ (q.2.2.2.2.2.2.2.2.2.2.1.2.2.2.1 : Int) ≤ 5
  wo : 0 ≤ (q.2.2.2.2.2.2.2.2.2.2.1.2.2.2.2.1 : Int) ∧ (q.2.2.2.2.2.2.2.2.2.2.1.2.2.2.2.1 : Int) ≤ 5
theorem bdLx {n b c : Int} (h1 : n ≥ 0) (h2 : n < b) (h : b ≤ c + 1) : 0 ≤ n ∧ n ≤ c := by omega
theorem bdMx {n b c : Int} (h1 : n > 3) (h2 : n < b) (h : b ≤ c + 1) : 0 ≤ n ∧ n ≤ c := by omega
theorem tl0 {x : ByteArray} (h : ByteArray.toList x = (ByteArray.mk #[]).toList) : x.size ≤ 24 := by
  rw [← toList_len, h, toList_len]; decide
theorem wq0 {A B C E : Prop} {n : Int} (h : A ∧ B ∧ C ∧ n = 0 ∧ E) : 0 ≤ n ∧ n ≤ 5 := by omega
theorem wq1 {A B C D E : Prop} {n : Int} (h : A ∧ B ∧ C ∧ D ∧ n = 0 ∧ E) : 0 ≤ n ∧ n ≤ 5 := by omega
theorem chk_ob (o : rOp.den) (h : chkV o = 0) : OB o := by
  rw [chk_same] at h
  obtain ⟨ok, r, c, v, has, x, _⟩ := o
  unfold chkW at h
  repeat' (first | (exact absurd h (by decide)) | (rcases bifO h with ⟨_, h'⟩ | ⟨_, h'⟩ <;> (clear h; have h := h'; clear h')))
  all_goals
    simp only [decide_eq_true_eq, beq_iff_eq] at *
    subst_vars
    (constructor <;> simp only <;> first | omega | decide)
theorem cmd_cb (q : rCmd.den) (h : cmdV q = 0) : CB q := by
  obtain ⟨ck, cl, sq, ep, ⟨ok, r, c, v, has, x, _⟩, pr, st, key, val, gr, ⟨mv, wg, wk, wi, wo, _⟩, _⟩ := q
  unfold cmdV at h
  repeat' (first | (exact absurd h (by decide)) | (rcases bifO h with ⟨_, h'⟩ | ⟨_, h'⟩ <;> (clear h; have h := h'; clear h')))
  all_goals
    simp only [decide_eq_true_eq, beq_iff_eq, e1, e2, e3, e4, e5, e6, e7, wq, Bool.and_eq_true, baBeq] at *
    rename_i hE
    obtain ⟨_, _, _, _, ⟨_, _, _, _, _, _, _⟩, _, _, _, _, _, ⟨_, _, _, _, _, _⟩, _⟩ := hE
    subst_vars
    refine ⟨?_, ?_, ?_, ?_, ?_, ?_, ?_, ?_, ?_, ?_, ?_, ?_, ?_, ?_⟩ <;> simp only
    all_goals first | omega | decide | (exact chk_ob _ (by assumption)) | (constructor <;> simp only <;> first | omega | decide) | (exact bdLx (by assumption) (by assumption) (by decide)) | (exact bdMx (by assumption) (by assumption) (by decide)) | assumption | (exact tl0 (by assumption)) | (exact wq0 (by assumption)) | (exact wq1 (by assumption)) | (exact Int.le_of_lt (by assumption)) | trace_state
theorem z_cb (a : rEntry.den) (h : zC a = true) : CB a.2.2.2.1 := by
  obtain ⟨ix, tm, kd, ⟨ck, cl, sq, ep, ⟨ok, r, c, v, has, x, _⟩, pr, st, key, val, gr, ⟨mv, wg, wk, wi, wo, _⟩, _⟩, l, _⟩ := a
  simp only [zC, Bool.and_eq_true, baBeq, beq_iff_eq] at h
  obtain ⟨_, _, _, _, ⟨_, _, _, _, _, _, _⟩, _, _, _, _, _, ⟨_, _, _, _, _, _⟩, _⟩ := h
  subst_vars
  refine ⟨?_, ?_, ?_, ?_, ⟨?_, ?_, ?_, ?_, ?_⟩, ?_, ?_, ?_, ?_, ?_, ?_, ?_, ?_, ?_⟩ <;> simp only
  all_goals first | omega | decide
theorem okC_eq (a : rEntry.den) : okC a = (cmdV a.2.2.2.1 == 0) := rfl
/-- What an entry that may be is bounded by. -/
structure EB (a : rEntry.den) : Prop where
  kd : 1 ≤ (a.2.2.1 : Int) ∧ (a.2.2.1 : Int) ≤ 2
  cb : CB a.2.2.2.1
  len : a.2.2.2.2.1.length ≤ 5
  mem : ∀ n ∈ a.2.2.2.2.1, (0 : Int) ≤ n ∧ n < 5
theorem gK_in (l : List Int) : ∀ n, gK l n = true → ∀ k, k < n → 0 ≤ l.getD k 0 ∧ l.getD k 0 < 5
  | 0, _, k, hk => by omega
  | n + 1, h, k, hk => by
    rw [gK_succ] at h
    simp only [Bool.and_eq_true, decide_eq_true_eq] at h
    by_cases e : k = n
    · subst e; exact ⟨h.2.1, h.2.2.1⟩
    · exact gK_in l n h.1 k (by omega)
theorem gK_up (l : List Int) (hl : l.length ≤ 9223372036854775807) : ∀ n, n ≤ l.length → gK l n = true → ∀ k, k < n → (k : Int) ≤ l.getD k 0
  | 0, _, _, k, hk => by omega
  | n + 1, hn, h, k, hk => by
    rw [gK_succ] at h
    simp only [Bool.and_eq_true, decide_eq_true_eq, Bool.or_eq_true, beq_iff_eq] at h
    by_cases e : k = n
    · subst e
      obtain ⟨h1, h2, h3, h4⟩ := h
      cases k with
      | zero => simpa using h2
      | succ k =>
        rcases h4 with h4 | h4
        · omega
        · have ih := gK_up l hl (k + 1) (by omega) h1 k (by omega)
          have e : (pv (k + 1)).toNat = k := by
            unfold pv; rw [wrap64 (by omega) (by omega)]; omega
          rw [e] at h4
          omega
    · exact gK_up l hl n (by omega) h.1 k (by omega)
theorem memV_ok {l : List Int} (hl : l.length ≤ 9223372036854775807) (h : memV l = 0) : l.length ≤ 5 ∧ ∀ n ∈ l, (0 : Int) ≤ n ∧ n < 5 := by
  unfold memV at h
  rcases bifO h with ⟨h1, _⟩ | ⟨_, h'⟩
  · refine ⟨?_, fun n hn => ?_⟩
    · rcases Nat.eq_zero_or_pos l.length with h0 | h0
      · omega
      · have a := gK_up l hl l.length (Nat.le_refl _) h1 (l.length - 1) (by omega)
        have b := gK_in l l.length h1 (l.length - 1) (by omega)
        omega
    · obtain ⟨k, hk, rfl⟩ := List.getElem_of_mem hn
      have := gK_in l l.length h1 k hk
      rwa [List.getD_eq_getElem?_getD, List.getElem?_eq_getElem hk] at this
  · exact absurd h' (by decide)
theorem one12 {n : Int} (h : n = 1) : 1 ≤ n ∧ n ≤ 2 := by omega
theorem two12 {n : Int} (h : n = 2) : 1 ≤ n ∧ n ≤ 2 := by omega
theorem ent_eb (a : rEntry.den) (hl : a.2.2.2.2.1.length ≤ 9223372036854775807) (h : entV a = 0) : EB a := by
  unfold entV at h
  rcases bifO h with ⟨h, _⟩ | ⟨_, h'⟩
  · simp only [entB, cond_eq_ite] at h
    split at h
    · cases h
    · split at h
      · cases h
      · split at h
        · rename_i h1
          split at h
          · rename_i h2
            rw [okC_eq] at h
            have hk : (a.2.2.1 : Int) = 1 := eq_of_beq h1
            have hz : a.2.2.2.2.1.length = 0 := by
              have := eq_of_beq h2; omega
            refine ⟨one12 hk, cmd_cb _ (eq_of_beq h), by omega, fun n hn => ?_⟩
            rw [List.eq_nil_of_length_eq_zero hz] at hn; cases hn
          · cases h
        · split at h
          · rename_i h1
            split at h
            · rename_i h2
              have hk : (a.2.2.1 : Int) = 2 := eq_of_beq h1
              obtain ⟨g1, g2⟩ := memV_ok hl (eq_of_beq h)
              exact ⟨two12 hk, z_cb a h2, g1, g2⟩
            · cases h
          · cases h
  · exact absurd h' (by decide)
end Go.Proofs.Ytjplobgambnhjaa
