/- A model through many operations: plain; and Do in use; no statement. -/
import Derived.Test.YtolhkkoakneflaaSk4
set_option linter.unusedVariables false
set_option linter.unusedSimpArgs false
namespace Go.Proofs.Ytolhkkoakneflaa
open Go Go.Eng

/-! ### Keys -/
theorem aset_keys {k : rP.den} {v : rCell.den} : ∀ {M : MapT} (q : rP.den × rCell.den), q ∈ aset k v M → q.1 = k ∨ q ∈ M
  | [], q, h => by
    simp only [aset, List.mem_singleton] at h
    subst h; exact .inl rfl
  | p :: M, q, h => by
    simp only [aset] at h
    split at h
    · rename_i e
      have e := (same_iff rP rfl k p.1).1 e
      rcases List.mem_cons.1 h with h | h
      · subst h; exact .inl e.symm
      · exact .inr (List.mem_cons_of_mem _ h)
    · rcases List.mem_cons.1 h with h | h
      · subst h; exact .inr (List.mem_cons_self ..)
      · rcases aset_keys q h with h | h
        · exact .inl h
        · exact .inr (List.mem_cons_of_mem _ h)
theorem aset_nd {k : rP.den} {v : rCell.den} : ∀ {M : MapT}, (M.map (·.1)).Nodup → ((aset k v M).map (·.1)).Nodup
  | [], _ => by simp [aset]
  | p :: M, h => by
    rw [List.map_cons, List.nodup_cons] at h
    simp only [aset]
    split
    · rw [List.map_cons, List.nodup_cons]; exact h
    · rename_i hne
      rw [List.map_cons, List.nodup_cons]
      refine ⟨fun hm => ?_, aset_nd h.2⟩
      obtain ⟨q, hq, e⟩ := List.mem_map.1 hm
      rcases aset_keys q hq with h1 | h1
      · exact hne (by rw [← h1, e]; exact same_refl rP _)
      · exact h.1 (List.mem_map.2 ⟨q, h1, e⟩)
theorem mk_aset {M : MapT} (K : MK M) {k : rP.den} {v : rCell.den} (hk : ∃ r, r < 4 ∧ (k = (rowN r, e0B, ()) ∨ ∃ c, c < 3 ∧ k = (rowN r, colN c, ()))) : MK (aset k v M) :=
  ⟨aset_nd K.nd, fun q hq => by
    rcases aset_keys q hq with h | h
    · rw [h]; exact hk
    · exact K.form q h⟩

/-- A model that small operations made. -/
structure Reach (M : MapT) (n : Int) : Prop where
  inv : ∃ C W V, MInv M C W V n
  key : MK M
theorem reach0 : Reach [] 0 := ⟨⟨fun _ => 0, fun _ => 0, fun _ => e0B, fun r hr => rfl, fun r hr c hc => ⟨false, 0, false, e0B, rfl, rfl, fun h => by cases h⟩, fun r hr => ⟨Int.le_refl _, Int.le_refl _⟩, fun j hj => ⟨Int.le_refl _, Int.le_refl _⟩⟩, ⟨by simp, fun q hq => by cases hq⟩⟩

theorem do_key {p : rOp.den} {M : MapT} (K : MK M) {r c : Nat} (hr : r < 4) (hc : c < 3) (h : (effV p (rowV p M)).2 = [] ∨ ∃ a b, (effV p (rowV p M)).2 = [a, b] ∧ kOf a = (rowN r, e0B, ()) ∧ kOf b = (rowN r, colN c, ())) : MK (doM p M) := by
  rcases h with h | ⟨a, b, h, ha, hb⟩
  · rw [do_nil h]; exact K
  · rw [do_two h, ha, hb]
    exact mk_aset (mk_aset K ⟨r, hr, .inl rfl⟩) ⟨r, hr, .inr ⟨c, hc, rfl⟩⟩
theorem reach_op {M : MapT} {n : Int} (R : Reach M n) (hn : n < 900) {k r c : Nat} (hk : k < 4) (hr : r < 4) (hc : c < 3) (x y : ByteArray) (h : Bool) (hx : x.size ≤ 1) (hy : y.size ≤ 1) (h0 : k ≠ 3 → h = false ∧ y = e0B) (h1 : k = 1 ∨ k = 2 → x = e0B) (hh : h = false → y = e0B) :
    Reach (doM (opP ((k + 1 : Nat) : Int) r c x h y) M) (n + 1) := by
  obtain ⟨⟨C, W, V, I⟩, K⟩ := R
  match k, hk with
  | 0, _ =>
    obtain ⟨rfl, rfl⟩ := h0 (by decide)
    obtain ⟨b, w, g, v, e1, e2, e3⟩ := row_two I hr hc 1 x false e0B
    have he := eff_put r c (C r) w g v x (!(C r == 0)) b hx nz (I.pos r hr).1 (by have := (I.pos r hr).2; omega)
    rw [← e1] at he
    exact ⟨⟨_, _, _, (do_put I hr hc hn x hx).2⟩, do_key K hr hc (.inr ⟨_, _, congrArg Prod.snd he, rfl, rfl⟩)⟩
  | 1, _ =>
    obtain ⟨rfl, rfl⟩ := h0 (by decide)
    have := h1 (.inl rfl)
    subst this
    have e : doM (opP 2 r c e0B false e0B) M = M := (do_get I hr hc).2
    show Reach (doM (opP 2 r c e0B false e0B) M) _
    rw [e]
    exact ⟨⟨C, W, V, I.more⟩, K⟩
  | 2, _ =>
    obtain ⟨rfl, rfl⟩ := h0 (by decide)
    have := h1 (.inr rfl)
    subst this
    show Reach (doM (opP 3 r c e0B false e0B) M) _
    by_cases hw : 0 < W (3 * r + c)
    · obtain ⟨b, w, g, v, e1, e2, e3⟩ := row_two I hr hc 3 e0B false e0B
      have he := eff_del r c (C r) w g v (!(C r == 0)) b nz (I.pos r hr).1 (by have := (I.pos r hr).2; omega)
      rw [← e1, e2, decide_eq_true hw] at he
      exact ⟨⟨_, _, _, ((do_del I hr hc hn).1 hw).2⟩, do_key K hr hc (.inr ⟨_, _, congrArg Prod.snd he, rfl, rfl⟩)⟩
    · rw [((do_del I hr hc hn).2 hw).2]
      exact ⟨⟨C, W, V, I.more⟩, K⟩
  | 3, _ =>
    show Reach (doM (opP 4 r c x h y) M) _
    cases hcd : (decide (0 < W (3 * r + c)) == h && (!decide (0 < W (3 * r + c)) || (V (3 * r + c) == y))) with
    | true =>
      obtain ⟨b, w, g, v, e1, e2, e3⟩ := row_two I hr hc 4 x h y
      have he := eff_chk r c (C r) w g v x y (!(C r == 0)) b h hx hy hh nz (I.pos r hr).1 (by have := (I.pos r hr).2; omega)
      have hcond : (decide (0 < W (3 * r + c)) == h && (!decide (0 < W (3 * r + c)) || (v == y))) = true := by
        rw [← hcd]
        cases hd : decide (0 < W (3 * r + c)) with
        | true => obtain ⟨_, e4⟩ := e3 (e2.trans hd); rw [e4]
        | false => rfl
      rw [← e1, e2, hcond] at he
      exact ⟨⟨_, _, _, ((do_chk I hr hc hn x hx h y hy hh).1 hcd).2⟩, do_key K hr hc (.inr ⟨_, _, congrArg Prod.snd he, rfl, rfl⟩)⟩
    | false =>
      rw [((do_chk I hr hc hn x hx h y hy hh).2 hcd).2]
      exact ⟨⟨C, W, V, I.more⟩, K⟩

theorem ofV_op {a : rAct.den} (hx : WF rAct a) : ∃ (k r c : Nat) (x y : ByteArray) (h : Bool), k < 4 ∧ r < 4 ∧ c < 3 ∧ x.size ≤ 1 ∧ y.size ≤ 1 ∧ (k ≠ 3 → h = false ∧ y = e0B) ∧ (k = 1 ∨ k = 2 → x = e0B) ∧ (h = false → y = e0B) ∧ ofV a = opP ((k + 1 : Nat) : Int) r c x h y := by
  have u : ∀ n : Int, WF cB n → 0 ≤ n := fun n hn => hn.1
  have h1 := u _ hx.1
  have h2 := u _ hx.2.1
  have h3 := u _ hx.2.2.1
  have tp : ∀ (n m : Int), 0 ≤ n → 0 < m → 0 ≤ n.tmod m ∧ n.tmod m < m := fun n m h hm => by
    rw [Int.tmod_eq_emod_of_nonneg h]; exact ⟨Int.emod_nonneg _ (by omega), Int.emod_lt_of_pos _ hm⟩
  have t1 := tp _ 4 h1 (by omega)
  have t2 := tp _ 4 h2 (by omega)
  have t3 := tp _ 3 h3 (by omega)
  obtain ⟨k, hk⟩ := Int.eq_ofNat_of_zero_le t1.1
  obtain ⟨r, hr⟩ := Int.eq_ofNat_of_zero_le t2.1
  obtain ⟨c, hc⟩ := Int.eq_ofNat_of_zero_le t3.1
  have ek : kV a = ((k + 1 : Nat) : Int) := by unfold kV; rw [hk, wrap64 (n := ((k : Nat) : Int)) (by omega) (by omega), wrap64 (by omega) (by omega)]; omega
  have e1 : rwS a.2.1 = rowN r := by unfold rwS rowN; rw [hr]
  have e2 : clS a.2.2.1 = colN c := by unfold clS colN; rw [hc]
  have one : ∀ n, (strOfNums [n]).size ≤ 1 := fun n => by rw [one_size]; exact Nat.le_refl _
  unfold ofV
  rw [ek, e1, e2]
  have hk4 : k < 4 := by omega
  match k, hk4 with
  | 0, _ => exact ⟨0, r, c, _, e0B, false, by omega, by omega, by omega, one _, by decide, fun _ => ⟨rfl, rfl⟩, fun h => by omega, fun _ => rfl, rfl⟩
  | 1, _ => exact ⟨1, r, c, e0B, e0B, false, by omega, by omega, by omega, by decide, by decide, fun _ => ⟨rfl, rfl⟩, fun _ => rfl, fun _ => rfl, rfl⟩
  | 2, _ => exact ⟨2, r, c, e0B, e0B, false, by omega, by omega, by omega, by decide, by decide, fun _ => ⟨rfl, rfl⟩, fun _ => rfl, fun _ => rfl, rfl⟩
  | 3, _ =>
    cases hb : a.2.2.2.2.2.1 with
    | false => exact ⟨3, r, c, _, e0B, false, by omega, by omega, by omega, one _, by decide, fun h => absurd rfl h, fun h => by omega, fun _ => rfl, rfl⟩
    | true => exact ⟨3, r, c, _, _, true, by omega, by omega, by omega, one _, one _, fun h => absurd rfl h, fun h => by omega, fun h => (by cases h), rfl⟩
theorem reach_act {M : MapT} {n : Int} (R : Reach M n) (hn : n < 900) {a : rAct.den} (hx : WF rAct a) : Reach (doM (ofV a) M) (n + 1) := by
  obtain ⟨k, r, c, x, y, h, q1, q2, q3, q4, q5, q6, q7, q8, e⟩ := ofV_op hx
  rw [e]
  exact reach_op R hn q1 q2 q3 x y h q4 q5 q6 q7 q8
theorem kind_act {a : rAct.den} (hx : WF rAct a) : ((ofV a).1 == 5) = false := by
  obtain ⟨k, r, c, x, y, h, q1, q2, q3, q4, q5, q6, q7, q8, e⟩ := ofV_op hx
  rw [e]
  exact beq_eq_false_iff_ne.2 (by show ((k + 1 : Nat) : Int) ≠ 5; omega)

/-- What a get answers. -/
def gotV (M : MapT) (r c : Nat) : rRes.den := match alook (vt := rCell) (rowN r, colN c, ()) M with
  | some x => if x.2.2.2.1 = false then (0, true, e0B, x.2.2.2.2.1, x.2.2.1, ()) else zR
  | none => zR
theorem got_eq {M : MapT} {n : Int} (R : Reach M n) {r c : Nat} (hr : r < 4) (hc : c < 3) : doR (opP 2 r c e0B false e0B) M = gotV M r c ∧ doM (opP 2 r c e0B false e0B) M = M := by
  obtain ⟨⟨C, W, V, I⟩, K⟩ := R
  refine ⟨?_, (do_get I hr hc).2⟩
  obtain ⟨b, w, g, v, h1, h2, h3⟩ := I.cell r hr c hc
  rw [(do_get I hr hc).1, ← h2]
  unfold gotV
  rw [h1]
  cases b with
  | false => rfl
  | true =>
    cases g with
    | true => rfl
    | false =>
      obtain ⟨e1, e2⟩ := h3 rfl
      rw [e1, e2]
      rfl
/-- Of a model's rows from the last on, so many. -/
def wS (M : MapT) (f c : Nat) : Nat → rRes.den
  | 0 => zR
  | j + 1 => match sAt M f c (3 - j) with
    | some v => v
    | none => wS M f c j
theorem wS_all (M : MapT) (f c : Nat) : wS M f c 4 = seekV M f c := by
  unfold seekV
  show (match sAt M f c 0 with | some v => v | none => match sAt M f c 1 with | some v => v | none => match sAt M f c 2 with | some v => v | none => match sAt M f c 3 with | some v => v | none => zR) = _
  generalize sAt M f c 0 = a0
  generalize sAt M f c 1 = a1
  generalize sAt M f c 2 = a2
  generalize sAt M f c 3 = a3
  cases a0 <;> cases a1 <;> cases a2 <;> cases a3 <;> rfl
theorem wS_step (M : MapT) (f c j : Nat) (hj : j < 4) : wS M f c (j + 1) = bif (decide (f ≤ 3 - j) && (gotV M (3 - j) c).2.1) then (0, true, rowN (3 - j), (gotV M (3 - j) c).2.2.2.1, (gotV M (3 - j) c).2.2.2.2.1, ()) else wS M f c j := by
  show (match sAt M f c (3 - j) with | some v => v | none => wS M f c j) = _
  unfold sAt gotV
  cases hA : alook (vt := rCell) (rowN (3 - j), colN c, ()) M with
  | none => simp only [zR, Bool.and_false, cond_false]
  | some x =>
    simp only
    by_cases h1 : x.2.2.2.1 = false
    · rw [if_pos h1]
      by_cases h2 : f ≤ 3 - j
      · rw [if_pos ⟨h1, h2⟩, decide_eq_true h2]; rfl
      · rw [if_neg (fun h => h2 h.2), decide_eq_false h2]; rfl
    · rw [if_neg h1, if_neg (fun h => h1 h.1)]
      simp only [zR, Bool.and_false, cond_false]

/-! ### Do -/
theorem do_seek (M : MapT) (K : MK M) (f c : Nat) (hf : f < 6) (hc : c < 3) : HeapCall Try.prog 18 [.one (.ptr 1 0), .agg (rOp.cells (opP 5 f c e0B false e0B))] [.mp rP rCell true true M, .cells [.mref 0]] (.agg (rRes.cells (seekV M f c))) [.mp rP rCell true true M, .cells [.mref 0]] := by
  have h := ESe.heap_cut 2 (f := 18) (args := [.one (.ptr 1 0), .agg (rOp.cells (opP 5 f c e0B false e0B))]) (hp := [.mp rP rCell true true M, .cells [.mref 0]]) (hp2 := [.mp rP rCell true true M, .cells [.mref 0]]) (os := [false, false, false, false, false, false, false, true, true, true, true, true]) (r := .agg (rRes.cells (seekV M (fIx (rowN f)) (cIx (colN c))))) (hp' := [(.mp (.pair .str (.pair .str .unit)) (.pair .str (.pair .str (.pair (.int .u64) (.pair .bool (.pair .str .unit))))) true true M), (.cells [(.mref 0)]), (.cells [(.int .i64 (5)), (.str ((opP 5 f c (ByteArray.mk #[]) false (ByteArray.mk #[])).snd.fst)), (.str ((opP 5 f c (ByteArray.mk #[]) false (ByteArray.mk #[])).snd.snd.fst)), (.str ((opP 5 f c (ByteArray.mk #[]) false (ByteArray.mk #[])).snd.snd.snd.fst)), (.bool false), (.str ((opP 5 f c (ByteArray.mk #[]) false (ByteArray.mk #[])).snd.snd.snd.snd.snd.fst))]), (.cells [(.int .i64 ((seekV M (fIx (opP 5 f c (ByteArray.mk #[]) false (ByteArray.mk #[])).snd.fst) (cIx (opP 5 f c (ByteArray.mk #[]) false (ByteArray.mk #[])).snd.snd.fst)).fst)), (.bool ((seekV M (fIx (opP 5 f c (ByteArray.mk #[]) false (ByteArray.mk #[])).snd.fst) (cIx (opP 5 f c (ByteArray.mk #[]) false (ByteArray.mk #[])).snd.snd.fst)).snd.fst)), (.str ((seekV M (fIx (opP 5 f c (ByteArray.mk #[]) false (ByteArray.mk #[])).snd.fst) (cIx (opP 5 f c (ByteArray.mk #[]) false (ByteArray.mk #[])).snd.snd.fst)).snd.snd.fst)), (.str ((seekV M (fIx (opP 5 f c (ByteArray.mk #[]) false (ByteArray.mk #[])).snd.fst) (cIx (opP 5 f c (ByteArray.mk #[]) false (ByteArray.mk #[])).snd.snd.fst)).snd.snd.snd.fst)), (.int .u64 ((seekV M (fIx (opP 5 f c (ByteArray.mk #[]) false (ByteArray.mk #[])).snd.fst) (cIx (opP 5 f c (ByteArray.mk #[]) false (ByteArray.mk #[])).snd.snd.fst)).snd.snd.snd.snd.fst))])]) (cs := [ok (SkDo M (opP 5 f c e0B false e0B)), (chkV (opP 5 f c e0B false e0B) == 0) == true, ((5 : Int) == 5) == true, ((5 : Int) == 5) == true, ((5 : Int) == 5) == true, ((5 : Int) == 5) == true, false == false, false == false, false == false, false == false, false == false, false == false, false == false]) (by kernel_rfl)
    (allI (by rw [ok_of ⟨K, f, c, hf, hc, rfl⟩, chk_seek f c]; rfl)) (Nat.le_refl _) (by simp [idsV, idsC, rRes, CT.cells]) rfl (by simp [idsB, idsC])
  rw [fIx_row f hf, cIx_col c hc] at h
  exact h
noncomputable def EDo : Env Try.prog := ESe.addHK 18 (fun _ => [0, 1])
  (fun args hp os => match args, hp with
    | [.one (.ptr 1 0), .agg cs], [.mp (.pair .str (.pair .str .unit)) (.pair .str (.pair .str (.pair (.int .u64) (.pair .bool (.pair .str .unit))))) true true M, .cells [.mref 0]] => match rOp.un cs with
      | some (o, []) => brL (o.1 == 5) os
        (fun os => retC (.agg (rRes.cells (seekV M (fIx o.2.1) (cIx o.2.2.1))), [.mp rP rCell true true M, .cells [.mref 0]]) [ok (SkDo M o)] os)
        (fun os => retC (.agg (rRes.cells (doR o M)), [.mp rP rCell true true (doM o M), .cells [.mref 0]]) [] os)
      | _ => none
    | _, _ => none)
  (fun args hp os r hp' cs os' h hc => by
    split at h
    · rename_i cs0 M
      split at h
      · rename_i o h1
        rcases brL_some h hc with ⟨hb, os1, c1, h, hc⟩ | ⟨hb, os1, c1, h, hc⟩
        · simp only [retC, Option.some.injEq, Prod.mk.injEq] at h
          obtain ⟨⟨rfl, rfl⟩, rfl, rfl⟩ := h
          rw [un_rOp h1]
          obtain ⟨K, f, c, hf, hcc, rfl⟩ := of_ok (of_allTc hc).1
          have := do_seek M K f c hf hcc
          show HeapCall _ _ _ _ (.agg (rRes.cells (seekV M (fIx (rowN f)) (cIx (colN c))))) _
          rw [fIx_row f hf, cIx_col c hcc]
          exact this
        · simp only [retC, Option.some.injEq, Prod.mk.injEq] at h
          obtain ⟨⟨rfl, rfl⟩, rfl, rfl⟩ := h
          rw [un_rOp h1]
          exact do2 o M hb
      · cases h
    · cases h)
end Go.Proofs.Ytolhkkoakneflaa
