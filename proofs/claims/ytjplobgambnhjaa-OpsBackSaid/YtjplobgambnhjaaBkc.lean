/- What is laid is read again (plain): step by step; no statement. -/
import Derived.Test.YtjplobgambnhjaaAgd
set_option linter.unusedVariables false
set_option linter.unusedSimpArgs false
set_option maxRecDepth 100000
namespace Go.Proofs.Ytjplobgambnhjaa
open Go Go.Eng

theorem uOk_i {v : Int} (h : uOk v = true) : 0 ≤ v ∧ v < 18446744073709551616 := by
  simp only [uOk, Bool.and_eq_true, decide_eq_true_eq] at h; exact h
theorem nS_V {v : Int} (h : uOk v = true) (t : ByteArray) : numV (nS v ++ t) = v := by
  obtain ⟨h0, h1⟩ := uOk_i h
  unfold numV nS
  rw [num_back (by omega) t]; simp only; omega
theorem nS_N {v : Int} (h : uOk v = true) (t : ByteArray) : numN (nS v ++ t) = (((nS v).size : Nat) : Int) := by
  obtain ⟨h0, h1⟩ := uOk_i h
  unfold numN nS
  rw [num_back (by omega) t, strOfNums_size]
theorem nS_pos (v : Int) : 1 ≤ (nS v).size := by unfold nS numB; rw [strOfNums_size, List.length_append]; simp
theorem nb_nS {v : Int} (h : uOk v = true) (t : ByteArray) : nb (nS v ++ t) = true := by
  unfold nb
  rw [nS_N h]
  have := nS_pos v
  simp only [Bool.not_eq_true', beq_eq_false_iff_ne, ne_eq]; omega
theorem nr_nS {v : Int} (h : uOk v = true) (t : ByteArray) : nr (nS v ++ t) = t := by
  unfold nr
  rw [nS_N h, Int.toNat_natCast]
  exact ByteArray.extract_append_eq_right rfl (by rw [ByteArray.size_append])
theorem tS_back {b : ByteArray} {m : Int} (h : (((b.size : Nat) : Int)) ≤ m) (hm : 0 ≤ m ∧ m ≤ 1073741824) (t : ByteArray) (hs : szk (tS b ++ t) = true) : tb (tS b ++ t) m = true ∧ tv (tS b ++ t) m = b ∧ tr (tS b ++ t) m = t := by
  have hs := of_decide_eq_true hs
  have hw : wU ((b.size : Nat) : Int) = ((b.size : Nat) : Int) := wrapU64 (by omega) (by omega)
  have hu : uOk ((b.size : Nat) : Int) = true := uOk_in (by omega) (by omega)
  have e : tS b ++ t = nS ((b.size : Nat) : Int) ++ (b ++ t) := by unfold tS; rw [hw, ByteArray.append_assoc]
  have hV : numV (tS b ++ t) = ((b.size : Nat) : Int) := by rw [e]; exact nS_V hu _
  have hN : numN (tS b ++ t) = (((nS ((b.size : Nat) : Int)).size : Nat) : Int) := by rw [e]; exact nS_N hu _
  have hz := nS_size ((b.size : Nat) : Int)
  have hsz : (tS b ++ t).size = (nS ((b.size : Nat) : Int)).size + (b.size + t.size) := by rw [e, ByteArray.size_append, ByteArray.size_append]
  have hb : tb (tS b ++ t) m = true := by
    unfold tb
    rw [hV, hN, show nb (tS b ++ t) = true from by rw [e]; exact nb_nS hu _]
    rw [wrapU64 (n := m) (by omega) (by omega), wrap64 (by omega) (by omega), wrapU64 (by omega) (by omega)]
    rw [decide_eq_false (by omega), decide_eq_false (by omega)]; rfl
  refine ⟨hb, ?_, ?_⟩
  · unfold tv
    rw [hb, cond_true, hV, hN, Int.toNat_natCast, Int.toNat_natCast, e]
    rw [show (nS ((b.size : Nat) : Int)).size = (nS ((b.size : Nat) : Int)).size + 0 from rfl, Nat.add_assoc, Nat.zero_add, ByteArray.extract_append_size_add]
    exact ByteArray.extract_append_eq_left rfl
  · unfold tr
    rw [hb, cond_true, hV, hN, Int.toNat_natCast, Int.toNat_natCast, hsz, e]
    rw [ByteArray.extract_append_size_add]
    exact ByteArray.extract_append_eq_right rfl rfl
theorem fS_back (f : Bool) (t : ByteArray) : yb (fS f ++ t) = true ∧ yv (fS f ++ t) = (bif f then 1 else 0) ∧ yr (fS f ++ t) = t := by
  have h1 := fS_size f
  have hb : yb (fS f ++ t) = true := by
    unfold yb
    rw [ByteArray.size_append, decide_eq_false (by omega)]; rfl
  refine ⟨hb, ?_, ?_⟩
  · unfold yv
    rw [hb, cond_true]
    rw [show (fS f ++ t).extract (Int.toNat 0) (Int.toNat 1) = fS f from ByteArray.extract_append_eq_left h1.symm]
    cases f <;> rfl
  · unfold yr
    rw [hb, cond_true]
    exact ByteArray.extract_append_eq_right h1.symm (by rw [ByteArray.size_append])
theorem szk_app {a b : ByteArray} (h : szk (a ++ b) = true) : szk b = true := by
  have := of_decide_eq_true h
  rw [ByteArray.size_append] at this
  exact decide_eq_true (by omega)
/-- A step back. -/
theorem rd_back (r : Rd) (v : RV) (t : ByteArray) (hf : fitR r v = true) (hr : rdOkA r = true) (hb : rdBig r = true) (hs : szk (layB v ++ t) = true) :
    rdR r (layB v ++ t) = v ∧ rdS r (layB v ++ t) = t ∧ ∀ g, rdG r g (layB v ++ t) = g := by
  cases r with
  | n m =>
    cases v with
    | n v =>
      have hf := of_decide_eq_true hf
      have hb := of_decide_eq_true hb
      have hu : uOk v = true := uOk_in hf.1 (by omega)
      have eV : numV (layB (.n v) ++ t) = v := nS_V hu t
      refine ⟨congrArg RV.n eV, nr_nS hu t, fun g => ?_⟩
      show (bif bif g then nb (layB (.n v) ++ t) else false then decide (numV (layB (.n v) ++ t) ≤ m) else false) = g
      rw [eV, show nb (layB (.n v) ++ t) = true from nb_nS hu t, decide_eq_true hf.2]
      cases g <;> rfl
    | t _ => cases hf
    | f _ => cases hf
  | t m =>
    cases v with
    | n _ => cases hf
    | t b =>
      have hf := of_decide_eq_true hf
      obtain ⟨h1, h2, h3⟩ := tS_back hf (of_decide_eq_true hr) t hs
      refine ⟨congrArg RV.t h2, h3, fun g => ?_⟩
      show (bif g then tb (tS b ++ t) m else false) = g
      rw [h1]; cases g <;> rfl
    | f _ => cases hf
  | y =>
    cases v with
    | n _ => cases hf
    | t _ => cases hf
    | f f =>
      obtain ⟨h1, h2, h3⟩ := fS_back f t
      refine ⟨?_, h3, fun g => ?_⟩
      · show RV.f (yv (fS f ++ t) == 1) = .f f
        rw [h2]; cases f <;> rfl
      · show (bif bif g then yb (fS f ++ t) else false then decide (yv (fS f ++ t) ≤ 1) else false) = g
        rw [h1, h2]; cases f <;> cases g <;> rfl
  | g =>
    cases v with
    | n v =>
      have hf := of_decide_eq_true hf
      have hu : uOk v = true := uOk_in hf.1 (by omega)
      have eV : numV (layB (.n v) ++ t) = v := nS_V hu t
      refine ⟨congrArg RV.n eV, nr_nS hu t, fun g => ?_⟩
      show (bif bif g then nb (layB (.n v) ++ t) else false then decide (numV (layB (.n v) ++ t) ≤ 1073741824) else false) = g
      rw [eV, show nb (layB (.n v) ++ t) = true from nb_nS hu t, decide_eq_true hf.2]
      cases g <;> rfl
    | t _ => cases hf
    | f _ => cases hf
theorem rds_back : ∀ (l : List Rd) (vs : List RV) (t : ByteArray), fitsR l vs = true → l.all rdOkA = true → l.all rdBig = true → szk (encsB vs ++ t) = true →
    rdsR l (encsB vs ++ t) = vs ∧ rdsS l (encsB vs ++ t) = t ∧ ∀ g, rdsG l g (encsB vs ++ t) = g
  | [], [], t, _, _, _, _ => ⟨rfl, emptyApp t, fun _ => rfl⟩
  | [], _ :: _, _, h, _, _, _ => by cases h
  | _ :: _, [], _, h, _, _, _ => by cases h
  | r :: l, v :: vs, t, h, hr, hb, hs => by
    have h : (fitR r v && fitsR l vs) = true := h
    rw [Bool.and_eq_true] at h
    rw [List.all_cons, Bool.and_eq_true] at hr hb
    have e : encsB (v :: vs) ++ t = layB v ++ (encsB vs ++ t) := ByteArray.append_assoc
    rw [e] at hs ⊢
    obtain ⟨a1, a2, a3⟩ := rd_back r v _ h.1 hr.1 hb.1 hs
    obtain ⟨b1, b2, b3⟩ := rds_back l vs t h.2 hr.2 hb.2 (szk_app hs)
    refine ⟨?_, ?_, fun g => ?_⟩
    · show rdR r _ :: rdsR l (rdS r _) = v :: vs
      rw [a1, a2, b1]
    · show rdsS l (rdS r _) = t
      rw [a2, b2]
    · show rdsG l (rdG r g _) (rdS r _) = g
      rw [a2, a3, b3]
/-- What is read of what was read raw. -/
def vw : Rd → RV → RV
  | .g, .n v => .n (sgV v)
  | _, v => v
theorem rdV_vw (r : Rd) (s : ByteArray) : rdV r s = vw r (rdR r s) := by cases r <;> rfl
theorem rdsV_vw : ∀ (l : List Rd) (s : ByteArray), rdsV l s = List.zipWith vw l (rdsR l s)
  | [], _ => rfl
  | r :: l, s => by
    show rdV r s :: rdsV l (rdS r s) = vw r (rdR r s) :: List.zipWith vw l (rdsR l (rdS r s))
    rw [rdV_vw, rdsV_vw]
/-! Members. -/
theorem smI_i {v : Int} (h : smI v = true) : 0 ≤ v ∧ v ≤ 1000 := of_decide_eq_true h
theorem mb_back : ∀ (l : List Int) (t : ByteArray), l.all smI = true →
    mbL l.length (encsB (l.map fun v => RV.n (wU v)) ++ t) = l ∧ mbS l.length (encsB (l.map fun v => RV.n (wU v)) ++ t) = t ∧ ∀ g, mbG l.length g (encsB (l.map fun v => RV.n (wU v)) ++ t) = g
  | [], t, _ => ⟨rfl, emptyApp t, fun _ => rfl⟩
  | v :: l, t, h => by
    rw [List.all_cons, Bool.and_eq_true] at h
    have hv := smI_i h.1
    have ew : wU v = v := wrapU64 (by omega) (by omega)
    have hu : uOk v = true := uOk_in (by omega) (by omega)
    have e : encsB ((v :: l).map fun v => RV.n (wU v)) ++ t = nS v ++ (encsB (l.map fun v => RV.n (wU v)) ++ t) := by
      show nS (wU v) ++ encsB (l.map fun v => RV.n (wU v)) ++ t = _
      rw [ew]; exact ByteArray.append_assoc
    obtain ⟨b1, b2, b3⟩ := mb_back l t h.2
    rw [e]
    generalize encsB (l.map fun v => RV.n (wU v)) ++ t = u at b1 b2 b3
    have eV : numV (nS v ++ u) = v := nS_V hu u
    have eR : nr (nS v ++ u) = u := nr_nS hu u
    refine ⟨?_, ?_, fun g => ?_⟩
    · show IntKind.i64.wrap (numV (nS v ++ u)) :: mbL l.length (nr (nS v ++ u)) = v :: l
      rw [eV, eR, b1, wrap64 (by omega) (by omega)]
    · show mbS l.length (nr (nS v ++ u)) = t
      rw [eR, b2]
    · show mbG l.length (cgB g (nS v ++ u)) (nr (nS v ++ u)) = g
      rw [eR, b3]
      unfold cgB
      rw [nb_nS hu, eV, decide_eq_true (show v ≤ 1073741824 by omega)]
      cases g <;> rfl
theorem mem_back (l : List Int) (t : ByteArray) (hl : l.length ≤ 5) (h : l.all smI = true) :
    mbL (lmN (encsB (memR l) ++ t)) (nr (encsB (memR l) ++ t)) = l ∧ mbS (lmN (encsB (memR l) ++ t)) (nr (encsB (memR l) ++ t)) = t ∧ ∀ g, mbG (lmN (encsB (memR l) ++ t)) (lmB g (encsB (memR l) ++ t)) (nr (encsB (memR l) ++ t)) = g := by
  have ew : wU ((l.length : Nat) : Int) = ((l.length : Nat) : Int) := wrapU64 (by omega) (by omega)
  have hu : uOk ((l.length : Nat) : Int) = true := uOk_in (by omega) (by omega)
  have e : encsB (memR l) ++ t = nS ((l.length : Nat) : Int) ++ (encsB (l.map fun v => RV.n (wU v)) ++ t) := by
    show nS (wU ((l.length : Nat) : Int)) ++ encsB (l.map fun v => RV.n (wU v)) ++ t = _
    rw [ew]; exact ByteArray.append_assoc
  obtain ⟨b1, b2, b3⟩ := mb_back l t h
  rw [e]
  generalize encsB (l.map fun v => RV.n (wU v)) ++ t = u at b1 b2 b3
  have eV : numV (nS ((l.length : Nat) : Int) ++ u) = ((l.length : Nat) : Int) := nS_V hu u
  have eR : nr (nS ((l.length : Nat) : Int) ++ u) = u := nr_nS hu u
  have eN : lmN (nS ((l.length : Nat) : Int) ++ u) = l.length := by unfold lmN; rw [eV, if_pos (by omega)]; omega
  refine ⟨?_, ?_, fun g => ?_⟩
  · rw [eN, eR, b1]
  · rw [eN, eR, b2]
  · rw [eN, eR, b3]
    unfold lmB lmK
    rw [eV, nb_nS hu, decide_eq_true (show ((l.length : Nat) : Int) ≤ 5 by omega)]
    cases g <;> rfl
/-! Frames. -/
def smallE (e : rEntry.den) : Bool := decide ((encE e).size ≤ 1048576)
theorem fr_back : ∀ (l : List rEntry.den) (t : ByteArray), l.all goodE = true → l.all smallE = true → szk (encsB (l.map fun e => RV.t (encE e)) ++ t) = true →
    frL l.length (encsB (l.map fun e => RV.t (encE e)) ++ t) = l ∧ frS l.length (encsB (l.map fun e => RV.t (encE e)) ++ t) = t ∧ (∀ g, frG l.length g (encsB (l.map fun e => RV.t (encE e)) ++ t) = g) ∧ ∀ b, frB l.length b (encsB (l.map fun e => RV.t (encE e)) ++ t) = b
  | [], t, _, _, _ => ⟨rfl, emptyApp t, fun _ => rfl, fun _ => rfl⟩
  | a :: l, t, hg, hz, hs => by
    rw [List.all_cons, Bool.and_eq_true] at hg hz
    have e : encsB ((a :: l).map fun e => RV.t (encE e)) ++ t = tS (encE a) ++ (encsB (l.map fun e => RV.t (encE e)) ++ t) := by
      show tS (encE a) ++ encsB (l.map fun e => RV.t (encE e)) ++ t = _
      exact ByteArray.append_assoc
    rw [e] at hs ⊢
    obtain ⟨b1, b2, b3, b4⟩ := fr_back l t hg.2 hz.2 (szk_app hs)
    generalize encsB (l.map fun e => RV.t (encE e)) ++ t = u at hs b1 b2 b3 b4
    have hz1 := of_decide_eq_true hz.1
    obtain ⟨t1, t2, t3⟩ := tS_back (m := 1048576) (b := encE a) (by omega) (by omega) u hs
    have e1 : fv (tS (encE a) ++ u) = encE a := t2
    have e2 : fr (tS (encE a) ++ u) = u := t3
    have gd := (goodE_of hg.1).2.2.2.1
    refine ⟨?_, ?_, fun g => ?_, fun b => ?_⟩
    · show (deA (fv (tS (encE a) ++ u))).1 :: frL l.length (fr (tS (encE a) ++ u)) = a :: l
      rw [e1, e2, b1, gd]
    · show frS l.length (fr (tS (encE a) ++ u)) = t
      rw [e2, b2]
    · show frG l.length (bif g then tb (tS (encE a) ++ u) 1048576 else false) (fr (tS (encE a) ++ u)) = g
      rw [e2, t1, b3]; cases g <;> rfl
    · show frB l.length (bif b then true else (deA (fv (tS (encE a) ++ u))).2 != 0) (fr (tS (encE a) ++ u)) = b
      rw [e1, e2, b4, gd]; cases b <;> rfl
theorem ls_back (l : List rEntry.den) (t : ByteArray) (hl : l.length ≤ 8) (hg : l.all goodE = true) (hz : l.all smallE = true) (hs : szk (encsB (entsR l) ++ t) = true) :
    frL (lsK (encsB (entsR l) ++ t)) (nr (encsB (entsR l) ++ t)) = l ∧ frS (lsK (encsB (entsR l) ++ t)) (nr (encsB (entsR l) ++ t)) = t ∧ (∀ g, frG (lsK (encsB (entsR l) ++ t)) (lgB g (encsB (entsR l) ++ t)) (nr (encsB (entsR l) ++ t)) = g) ∧ ∀ b, frB (lsK (encsB (entsR l) ++ t)) b (nr (encsB (entsR l) ++ t)) = b := by
  have ew : wU ((l.length : Nat) : Int) = ((l.length : Nat) : Int) := wrapU64 (by omega) (by omega)
  have hu : uOk ((l.length : Nat) : Int) = true := uOk_in (by omega) (by omega)
  have e : encsB (entsR l) ++ t = nS ((l.length : Nat) : Int) ++ (encsB (l.map fun e => RV.t (encE e)) ++ t) := by
    show nS (wU ((l.length : Nat) : Int)) ++ encsB (l.map fun e => RV.t (encE e)) ++ t = _
    rw [ew]; exact ByteArray.append_assoc
  rw [e] at hs ⊢
  obtain ⟨b1, b2, b3, b4⟩ := fr_back l t hg hz (szk_app hs)
  generalize encsB (l.map fun e => RV.t (encE e)) ++ t = u at b1 b2 b3 b4 hs
  have eV : numV (nS ((l.length : Nat) : Int) ++ u) = ((l.length : Nat) : Int) := nS_V hu u
  have eR : nr (nS ((l.length : Nat) : Int) ++ u) = u := nr_nS hu u
  have eN : lsK (nS ((l.length : Nat) : Int) ++ u) = l.length := by unfold lsK; rw [eV, if_pos (by omega)]; omega
  refine ⟨?_, ?_, fun g => ?_, fun b => ?_⟩
  · rw [eN, eR, b1]
  · rw [eN, eR, b2]
  · rw [eN, eR, b3]
    unfold lgB lgK
    rw [eV, nb_nS hu, decide_eq_true (show ((l.length : Nat) : Int) ≤ 8 by omega)]
    cases g <;> rfl
  · rw [eN, eR, b4]
open Go Go.Eng

theorem wU_b {v : Int} (h : 0 ≤ v ∧ v ≤ 1073741824) : wU v = v := wrapU64 h.1 (by omega)
theorem i64_b {v : Int} (h : 0 ≤ v ∧ v ≤ 1073741824) : IntKind.i64.wrap (wU v) = v := by
  rw [wU_b h]; exact wrap64 (by omega) (by omega)
theorem fitN {v c m : Int} (h : 0 ≤ v ∧ v ≤ c) (hc : c ≤ m) (hm : c ≤ 1073741824) : fitR (.n m) (.n (wU v)) = true := by
  rw [wU_b (v := v) (by omega)]
  exact decide_eq_true (by omega)
theorem fitM {v m : Int} (h0 : 0 ≤ v) (h : v ≤ m) : fitR (.n m) (.n v) = true := decide_eq_true ⟨h0, h⟩
theorem fitT {b : ByteArray} {c : Nat} {m : Int} (h : b.size ≤ c) (hc : ((c : Nat) : Int) ≤ m) : fitR (.t m) (.t b) = true := decide_eq_true (by omega)
theorem fits_cons {r : Rd} {v : RV} {l : List Rd} {vs : List RV} (h1 : fitR r v = true) (h2 : fitsR l vs = true) : fitsR (r :: l) (v :: vs) = true := by
  show (fitR r v && fitsR l vs) = true
  rw [h1, h2]; rfl
theorem fits_app : ∀ {l : List Rd} {vs : List RV} {l' : List Rd} {vs' : List RV}, fitsR l vs = true → fitsR l' vs' = true → fitsR (l ++ l') (vs ++ vs') = true
  | [], [], _, _, _, h => h
  | [], _ :: _, _, _, h, _ => by cases h
  | _ :: _, [], _, _, h, _ => by cases h
  | r :: l, v :: vs, _, _, h, h' => by
    have h : (fitR r v && fitsR l vs) = true := h
    rw [Bool.and_eq_true] at h
    exact fits_cons h.1 (fits_app h.2 h')
theorem op_fits (o : rOp.den) (h : OB o) : fitsR rOpL (opR o) = true :=
  fits_cons (fitN h.ok (by decide) (by decide)) (fits_cons (fitT h.r (by decide)) (fits_cons (fitT h.c (by decide)) (fits_cons (fitT h.v (by decide)) (fits_cons rfl (fits_cons (fitT h.x (by decide)) rfl)))))
def rCmdA : List Rd := [wN, wN, tN, tN]
def rCmdZ : List Rd := [tN, wN, cT, cT, wN, .y, wN, cT, wN, wN]
theorem rCmdL_def : rCmdL = rCmdA ++ rOpL ++ rCmdZ := rfl
theorem cmd_fits (q : rCmd.den) (h : CB q) (h0 : 0 ≤ (q.2.2.1 : Int)) (h1 : 0 ≤ (q.2.2.2.1 : Int)) (h2 : 0 ≤ (q.2.2.2.2.2.1 : Int)) : fitsR rCmdL (cmdR q) = true := by
  rw [rCmdL_def]
  exact fits_app (fits_app (fits_cons (fitN h.kd (by decide) (by decide)) (fits_cons (fitN h.cl (by decide) (by decide)) (fits_cons (fitM h0 h.sq) (fits_cons (fitM h1 h.ep) rfl)))) (op_fits _ h.ob))
    (fits_cons (fitM h2 h.pr) (fits_cons (fitN h.st (by decide) (by decide)) (fits_cons (fitT h.key (by decide)) (fits_cons (fitT h.val (by decide)) (fits_cons (fitN h.gr (by decide) (by decide)) (fits_cons rfl (fits_cons (fitN h.wg (by decide) (by decide)) (fits_cons (fitT h.wk (by decide)) (fits_cons (fitN h.wi (by decide) (by decide)) (fits_cons (fitN h.wo (by decide) (by decide)) rfl))))))))))
/-- What comes back: every small number by way of its wrapping. -/
def iW (v : Int) : Int := IntKind.i64.wrap (wU v)
def opW (o : rOp.den) : rOp.den := (iW o.1, o.2.1, o.2.2.1, o.2.2.2.1, o.2.2.2.2.1, o.2.2.2.2.2.1, ())
def cmdI (q : rCmd.den) : rCmd.den := (iW q.1, iW q.2.1, q.2.2.1, q.2.2.2.1, opW q.2.2.2.2.1, q.2.2.2.2.2.1, iW q.2.2.2.2.2.2.1, q.2.2.2.2.2.2.2.1, q.2.2.2.2.2.2.2.2.1, iW q.2.2.2.2.2.2.2.2.2.1, (q.2.2.2.2.2.2.2.2.2.2.1.1, iW q.2.2.2.2.2.2.2.2.2.2.1.2.1, q.2.2.2.2.2.2.2.2.2.2.1.2.2.1, iW q.2.2.2.2.2.2.2.2.2.2.1.2.2.2.1, iW q.2.2.2.2.2.2.2.2.2.2.1.2.2.2.2.1, ()), ())
theorem iW_b {v c : Int} (h : 0 ≤ v ∧ v ≤ c) (hc : c ≤ 1073741824) : iW v = v := i64_b (by omega)
theorem opW_id (o : rOp.den) (h : OB o) : opW o = o := by
  unfold opW
  rw [iW_b h.ok (by decide)]
theorem cmdI_id (q : rCmd.den) (h : CB q) : cmdI q = q := by
  unfold cmdI
  rw [iW_b h.kd (by decide), iW_b h.cl (by decide), opW_id _ h.ob, iW_b h.st (by decide), iW_b h.gr (by decide), iW_b h.wg (by decide), iW_b h.wi (by decide), iW_b h.wo (by decide)]
theorem entD_W (a : rEntry.den) (M : List Int) : entD (List.zipWith vw rEntL (entR a)) M = (a.1, a.2.1, iW a.2.2.1, cmdI a.2.2.2.1, M, ()) := by kernel_rfl
theorem one_two {v : Int} (h : 1 ≤ v ∧ v ≤ 2) : 0 ≤ v ∧ v ≤ 2 := by omega
theorem u64_0 {n : Int} (h : IntKind.u64.min ≤ n ∧ n ≤ IntKind.u64.max) : 0 ≤ n ∧ n ≤ 18446744073709551615 := h
theorem encsB_size (l : List RV) : (encsB l).size ≤ laysSz l := by
  have h := laysB_size l mt
  have e : laysB mt l = encsB l := (laysB_encs l mt).trans (emptyApp _)
  rw [e] at h
  have := size_mt
  omega
theorem wf_cmd {q : rCmd.den} (h : WF rCmd q) : 0 ≤ (q.2.2.1 : Int) ∧ 0 ≤ (q.2.2.2.1 : Int) ∧ 0 ≤ (q.2.2.2.2.2.1 : Int) := ⟨h.2.2.1.1, h.2.2.2.1.1, h.2.2.2.2.2.1.1⟩
theorem rEntL_def : rEntL = [mN, mN, wN] ++ rCmdL := rfl
theorem ent_fits (a : rEntry.den) (hw : WF rEntry a) (h : EB a) : fitsR rEntL (entR a) = true := by
  obtain ⟨c1, c2, c3⟩ := wf_cmd hw.2.2.2.1
  have i := u64_0 hw.1
  have t := u64_0 hw.2.1
  rw [rEntL_def]
  exact fits_app (fits_cons (fitM i.1 i.2) (fits_cons (fitM t.1 t.2) (fits_cons (fitN (c := 2) (one_two h.kd) (by decide) (by decide)) rfl))) (cmd_fits _ h.cb c1 c2 c3)
theorem ent_back (a : rEntry.den) (hw : WF rEntry a) (h : EB a) (h0 : entV a = 0) : deA (encE a) = (a, 0) ∧ enOk a = true ∧ (encE a).size ≤ 1048576 := by
  have hf := ent_fits a hw h
  obtain ⟨l1, l2⟩ := fits_lay _ _ hf rEnt_big
  rw [rEnt_sz] at l2
  have hm : List.all a.2.2.2.2.1 smI = true := List.all_eq_true.2 fun n hn => smI_of (h.mem n hn)
  have hsz : (encE a).size ≤ 1048576 := by
    rw [encE_def, ByteArray.size_append]
    have z1 := encsB_size (entR a)
    have z2 := encsB_size (memR a.2.2.2.2.1)
    have z3 := memR_sz a.2.2.2.2.1 h.len
    omega
  have hs : szk (encsB (entR a) ++ encsB (memR a.2.2.2.2.1)) = true := by
    rw [← encE_def]; exact decide_eq_true (by omega)
  refine ⟨?_, ?_, hsz⟩
  · rw [encE_def]
    obtain ⟨b1, b2, b3⟩ := rds_back rEntL (entR a) (encsB (memR a.2.2.2.2.1)) hf rEnt_okA rEnt_big hs
    obtain ⟨m1, m2, m3⟩ := mem_back a.2.2.2.2.1 (ByteArray.mk #[]) h.len hm
    rw [appMt] at m1 m2 m3
    generalize hS : encsB (entR a) ++ encsB (memR a.2.2.2.2.1) = S at b1 b2 b3
    have eS' : eS S = encsB (memR a.2.2.2.2.1) := (eS_def S).trans b2
    have eG' : eG S = true := by rw [eG_def, eS', b3, m3]
    have eT' : eT S = ByteArray.mk #[] := by rw [eT_def, eS', m2]
    have eD' : eD S = a := by
      have e1 : eD S = entD (rdsV rEntL S) (mbL (lmN (eS S)) (nr (eS S))) := rfl
      have k : iW a.2.2.1 = a.2.2.1 := iW_b (c := 2) (one_two h.kd) (by decide)
      rw [e1, rdsV_vw, b1, eS', m1, entD_W, k, cmdI_id _ h.cb]
    have e2 : eB2 S = false := by rw [eB2_def, eG', eT']; rfl
    have e3 : eB3 S = false := by rw [eB3_def, e2, eD', h0]; rfl
    unfold deA
    rw [e3, eD']; rfl
  · unfold enOk
    rw [l1, hm, decide_eq_true h.len, decide_eq_true (Nat.le_trans l2 (by decide))]; rfl
theorem ent_pos {a : rEntry.den} (hw : WF rEntry a) (h3 : entV a = 0) : 0 < (a.1 : Int) := by
  have hB : entB a = true := by
    unfold entV at h3
    rcases bifO h3 with ⟨h, _⟩ | ⟨_, h'⟩
    · exact h
    · exact absurd h' (by decide)
  unfold entB at hB
  cases hz : (a.1 == (0 : Int)) with
  | true => rw [hz] at hB; cases hB
  | false =>
    have h0 : (0 : Int) ≤ a.1 := (u64_0 hw.1).1
    have hn : ¬ (a.1 = (0 : Int)) := fun e => by rw [e] at hz; cases hz
    rcases Int.lt_or_eq_of_le h0 with h | h
    · exact h
    · exact absurd h.symm hn
theorem wf_mem {a : rEntry.den} (hw : WF rEntry a) : a.2.2.2.2.1.length ≤ 9223372036854775807 := by
  have h : a.2.2.2.2.1.length * 8 ≤ reachBytes := hw.2.2.2.2.1.1
  have e : reachBytes ≤ 9223372036854775807 := by decide +kernel
  omega
/-- An entry that may be. -/
theorem ent_is_good (a : rEntry.den) (hw : WF rEntry a) (h : entV a = 0) : goodE a = true ∧ smallE a = true := by
  have hb := ent_eb a (wf_mem hw) h
  obtain ⟨h1, h2, h3⟩ := ent_back a hw hb h
  refine ⟨okP_is ⟨ent_pos hw h, h, h2, h1, decide_eq_true (by omega)⟩, decide_eq_true h3⟩
open Go Go.Eng

theorem nuB_of {n : Int} (h : nuB n = true) : 1 ≤ n ∧ n ≤ 1099511627776 := by
  obtain ⟨h1, h2⟩ := bif_split (show (bif decide (n ≥ 1) then decide (n ≤ 1099511627776) else false) = true from h)
  exact ⟨of_decide_eq_true h1, of_decide_eq_true h2⟩
theorem leT_of {n : Int} (h : leT n = true) : n ≤ 1099511627776 := of_decide_eq_true h
theorem resOk_of {er : Int} {row val : ByteArray} {ver : Int} (h : resOk er row val ver = true) : (0 ≤ er ∧ er < 16) ∧ row.size ≤ 32 ∧ val.size ≤ 65536 ∧ ver ≤ 1099511627776 := by
  simp only [resOk, Bool.and_eq_true, decide_eq_true_eq] at h
  omega
structure RQ (r : rReq.den) : Prop where
  cl : 0 ≤ (r.1 : Int) ∧ (r.1 : Int) ≤ 20
  sq : (r.2.1 : Int) ≤ 1099511627776
  gr : 0 ≤ (r.2.2.1 : Int) ∧ (r.2.2.1 : Int) ≤ 20
  ep : (r.2.2.2.1 : Int) ≤ 1099511627776
  ob : OB r.2.2.2.2.1
structure RP (r : rRep.den) : Prop where
  cl : 0 ≤ (r.1 : Int) ∧ (r.1 : Int) ≤ 20
  sq : (r.2.1 : Int) ≤ 1099511627776
  er : 0 ≤ (r.2.2.1.1 : Int) ∧ (r.2.2.1.1 : Int) ≤ 20
  ro : ByteArray.size r.2.2.1.2.2.1 ≤ 32
  va : ByteArray.size r.2.2.1.2.2.2.1 ≤ 65536
  ve : (r.2.2.1.2.2.2.2.1 : Int) ≤ 1099511627776
  hi : sgK r.2.2.2.1 = true
structure AK (a : rAsk.den) : Prop where
  gr : 0 ≤ (a.1 : Int) ∧ (a.1 : Int) ≤ 20
  cb : CB a.2.1
  i : sgK a.2.2.1 = true
  o : sgK a.2.2.2.1 = true
structure TL (t : rTold.den) : Prop where
  gr : 0 ≤ (t.1 : Int) ∧ (t.1 : Int) ≤ 20
  pr : (t.2.1 : Int) ≤ 1099511627776
  st : 0 ≤ (t.2.2.1 : Int) ∧ (t.2.2.1 : Int) ≤ 101
  er : 0 ≤ (t.2.2.2.1 : Int) ∧ (t.2.2.2.1 : Int) ≤ 20
  hi : sgK t.2.2.2.2.1 = true
theorem zOB : OB (rOp.dflt) := ⟨by decide, by decide, by decide, by decide, by decide⟩
theorem zRQ : RQ zR := ⟨by decide, by decide, by decide, by decide, zOB⟩
theorem zRP : RP zP := ⟨by decide, by decide, by decide, by decide, by decide, by decide, by decide⟩
theorem zCB : CB rCmd.dflt := ⟨by decide, by decide, by decide, by decide, zOB, by decide, by decide, by decide, by decide, by decide, by decide, by decide, by decide, by decide⟩
theorem zAK : AK zA := ⟨by decide, zCB, by decide, by decide⟩
theorem zTL : TL zT := ⟨by decide, by decide, by decide, by decide, by decide⟩
theorem blL {n m c : Int} (h : blB n m = true) (hm : m ≤ c + 1) : 0 ≤ n ∧ n ≤ c := by
  have := blB_of h; omega
/-- What a message that may be is bounded by. -/
structure MB (d : rMsg.den) : Prop where
  kd : 0 ≤ (d.1 : Int) ∧ (d.1 : Int) ≤ 20
  gr : 0 ≤ (d.2.1 : Int) ∧ (d.2.1 : Int) ≤ 20
  t : (d.2.2.1 : Int) ≤ 1099511627776
  i : (d.2.2.2.1 : Int) ≤ 1099511627776
  lt : (d.2.2.2.2.1 : Int) ≤ 1099511627776
  c : (d.2.2.2.2.2.1 : Int) ≤ 1099511627776
  el : List.length (enL d) ≤ 8
  ee : ∀ e ∈ enL d, entV e = 0
  ml : List.length (mbL' d) ≤ 5
  ms : List.all (mbL' d) smI = true
  da : ByteArray.size d.2.2.2.2.2.2.2.2.2.1 ≤ 1048576
  rq : RQ (aR d)
  rp : RP (aP d)
  ak : AK (aA d)
  to : TL (aT d)
theorem ask_cb {a : rAsk.den} (hw : 0 ≤ (a.2.1.2.2.2.2.2.1 : Int)) (h : askB a = true) : CB a.2.1 := by
  have key : aq3 a = true ∨ ax4 a = true := by
    unfold askB at h
    simp only [cond_eq_ite] at h
    split at h
    · exact .inl h
    · split at h
      · exact .inl h
      · split at h
        · exact .inl h
        · split at h
          · exact .inl h
          · exact .inr h
  rcases key with h | h
  · obtain ⟨h, _⟩ := bif_split (show (bif aq2 a then _ else false) = true from h)
    obtain ⟨h, _⟩ := bif_split (show (bif aq1 a then _ else false) = true from h)
    exact cmd_cb _ (eq_of_beq h)
  · obtain ⟨h, e⟩ := bif_split (show (bif ax3 a then _ else false) = true from h)
    obtain ⟨_, h⟩ := bif_split (show (bif ax2 a then stB a.2.1.2.2.2.2.2.1 a.2.1.2.2.2.2.2.2.1 else false) = true from h)
    obtain ⟨h1, h2⟩ := bif_split (show (bif nuB a.2.1.2.2.2.2.2.1 then blB a.2.1.2.2.2.2.2.2.1 101 else false) = true from h)
    have e := same_eq rCmd rfl e
    have b := blL (c := 100) h2 (by decide)
    have n := nuB_of h1
    rw [e]
    generalize a.2.1.2.2.2.2.2.1 = p at n
    generalize a.2.1.2.2.2.2.2.2.1 = st at b
    exact ⟨zCB.kd, zCB.cl, zCB.sq, zCB.ep, zOB, n.2, b, zCB.key, zCB.val, zCB.gr, zCB.wg, zCB.wk, zCB.wi, zCB.wo⟩
theorem any_none {l : List rEntry.den} (h : (!(l.any badE)) = true) : ∀ e ∈ l, entV e = 0 := fun e he => by
  have h : l.any badE = false := by cases q : l.any badE with | false => rfl | true => rw [q] at h; cases h
  have hb : badE e = false := by
    cases q : badE e with
    | false => rfl
    | true => exact absurd (List.any_eq_true.2 ⟨e, he, q⟩) (by rw [h]; decide)
  have hb : (entV e != 0) = false := hb
  have : ¬ (entV e ≠ 0) := fun q => by rw [bne_iff_ne.2 q] at hb; cases hb
  exact Classical.not_not.1 this
theorem dz_size {x : ByteArray} {n : Nat} (h : bE = x) : x.size ≤ n := by rw [← h]; exact Nat.zero_le _
theorem eq_gr {a b c : Int} (h : (a == b) = true) (hb : 0 ≤ b ∧ b ≤ c) : 0 ≤ a ∧ a ≤ c := by rw [eq_of_beq h]; exact hb
theorem memK_ok {l : List Int} (hl : l.length ≤ 9223372036854775807) (h : memV l = 0) : l.length ≤ 5 ∧ l.all smI = true :=
  ⟨(memV_ok hl h).1, List.all_eq_true.2 fun n hn => smI_of ((memV_ok hl h).2 n hn)⟩
theorem wf_base {d : rMsg.den} (hw : WF rMsg d) : (mbL' d).length ≤ 9223372036854775807 := by
  have h : (mbL' d).length * 8 ≤ reachBytes := hw.2.2.2.2.2.2.2.2.1.2.2.1.1
  have e : reachBytes ≤ 9223372036854775807 := by decide +kernel
  omega
theorem wf_hi {d : rMsg.den} (hw : WF rMsg d) : iOkk (aP d).2.2.2.1 ∧ iOkk (aT d).2.2.2.2.1 :=
  ⟨hw.2.2.2.2.2.2.2.2.2.2.2.1.2.2.2.1, hw.2.2.2.2.2.2.2.2.2.2.2.2.2.1.2.2.2.2.1⟩
theorem wf_ask {d : rMsg.den} (hw : WF rMsg d) : WF rCmd (aA d).2.1 := hw.2.2.2.2.2.2.2.2.2.2.2.2.1.2.1
theorem kd_le {n : Int} {k : Nat} (e : n = ((k : Nat) : Int)) (h : k ≤ 9) : 0 ≤ n ∧ n ≤ 20 := by omega
theorem msg_mb {d : rMsg.den} (hw : WF rMsg d) (h0 : msgV d = 0) : MB d := by
  have hB := msgV_B h0
  obtain ⟨w1, w2⟩ := wf_hi hw
  obtain ⟨s1, s2, s3, s4⟩ := mX_hints hB w1 w2
  have wb := wf_base hw
  have wa := wf_cmd (wf_ask hw)
  rcases msg_kinds hB with ⟨h3, h⟩ | ⟨k, hk, h1, h9, h3, hK⟩
  · obtain ⟨hg, h2⟩ := chV_true _ (show chV (g3 d) (tlM (mXk d 3) d d.2.2.2.2.2.2.2.1.length) = true from h)
    obtain ⟨hg1, hg2⟩ := bif_split (show (bif g1 d then !(d.2.2.2.2.2.2.2.1.any badE) else false) = true from hg)
    obtain ⟨hg0, hg3⟩ := bif_split (show (bif g0 d then decide (((d.2.2.2.2.2.2.2.1.length : Nat) : Int) ≤ 8) else false) = true from hg1)
    obtain ⟨e, _, l1, l2, l3, l4⟩ := tlM_mem (l := []) h2
    have hl := of_decide_eq_true hg3
    exact ⟨kd_le (k := 3) h3 (by decide), blL (c := 20) hg0 (by decide), leT_of l1, leT_of l2, leT_of l3, leT_of l4, Int.ofNat_le.1 hl, any_none hg2,
      by rw [show mbL' d = ([] : List Int) from e.b3.symm]; exact Nat.zero_le _, by rw [show mbL' d = ([] : List Int) from e.b3.symm]; rfl, dz_size e.d,
      by rw [show aR d = zR from e.rq.symm]; exact zRQ, by rw [show aP d = zP from e.rp.symm]; exact zRP, by rw [show aA d = zA from e.ak.symm]; exact zAK, by rw [show aT d = zT from e.to.symm]; exact zTL⟩
  · obtain ⟨hg0, h2⟩ := chV_true _ (show chV (g0 d) (kdM d k ++ tlM (mXk d k) d 0) = true from hK)
    have hn := msK_nil hK
    obtain ⟨e, _, l1, l2, l3, l4⟩ := tlM_mem h2
    have m0 : ∀ p, p ∈ kdM d k → p.2 = true := fun p hp => h2 p (List.mem_append_left _ hp)
    have hgr := blL (c := 20) hg0 (by decide)
    have hel : List.length (enL d) ≤ 8 := by rw [hn]; exact Nat.zero_le _
    have hee : ∀ e ∈ enL d, entV e = 0 := fun e he => by rw [hn] at he; cases he
    have L1 : leT d.2.2.1 = true := by have := e.t; rw [← this]; exact l1
    have L2 : leT d.2.2.2.1 = true := by have := e.i; rw [← this]; exact l2
    have L3 : leT d.2.2.2.2.1 = true := by have := e.lt; rw [← this]; exact l3
    have L4 : leT d.2.2.2.2.2.1 = true := by have := e.c; rw [← this]; exact l4
    have mk : List.length (mbL' d) ≤ 5 → List.all (mbL' d) smI = true → ByteArray.size d.2.2.2.2.2.2.2.2.2.1 ≤ 1048576 → RQ (aR d) → RP (aP d) → AK (aA d) → TL (aT d) → MB d := fun a b c r p q t =>
      ⟨kd_le hk h9, hgr, leT_of L1, leT_of L2, leT_of L3, leT_of L4, hel, hee, a, b, c, r, p, q, t⟩
    have c : k = 1 ∨ k = 2 ∨ k = 4 ∨ k = 5 ∨ k = 6 ∨ k = 7 ∨ k = 8 ∨ k = 9 := by omega
    have zm1 : ([] : List Int) = mbL' d → List.length (mbL' d) ≤ 5 := fun e => by rw [← e]; exact Nat.zero_le _
    have zm2 : ([] : List Int) = mbL' d → List.all (mbL' d) smI = true := fun e => by rw [← e]; rfl
    have zr : zR = aR d → RQ (aR d) := fun e => by rw [← e]; exact zRQ
    have zp : zP = aP d → RP (aP d) := fun e => by rw [← e]; exact zRP
    have za : zA = aA d → AK (aA d) := fun e => by rw [← e]; exact zAK
    have zt : zT = aT d → TL (aT d) := fun e => by rw [← e]; exact zTL
    rcases c with rfl | rfl | rfl | rfl | rfl | rfl | rfl | rfl
    · exact mk (zm1 e.b3) (zm2 e.b3) (dz_size e.d) (zr e.rq) (zp e.rp) (za e.ak) (zt e.to)
    · exact mk (zm1 e.b3) (zm2 e.b3) (dz_size e.d) (zr e.rq) (zp e.rp) (za e.ak) (zt e.to)
    · exact mk (zm1 e.b3) (zm2 e.b3) (dz_size e.d) (zr e.rq) (zp e.rp) (za e.ak) (zt e.to)
    · have q1 := m0 (4, memV d.2.2.2.2.2.2.2.2.1.2.2.1 == 0) (by simp [kdM])
      have q2 := m0 (3, decide ((((ByteArray.size d.2.2.2.2.2.2.2.2.2.1) : Nat) : Int) ≤ 1048576)) (by simp [kdM])
      obtain ⟨a1, a2⟩ := memK_ok wb (eq_of_beq q1)
      have q2 := of_decide_eq_true q2
      exact mk a1 a2 (Int.ofNat_le.1 q2) (zr e.rq) (zp e.rp) (za e.ak) (zt e.to)
    · have q1 := m0 (2, blB (aR d).1 4) (by simp [kdM])
      have q2 := m0 (2, nuB (aR d).2.1) (by simp [kdM])
      have q3 := m0 (2, leT (aR d).2.2.2.1) (by simp [kdM])
      have q4 := m0 (4, (aR d).2.2.1 == d.2.1) (by simp [kdM])
      have q5 := m0 (3, chkV (aR d).2.2.2.2.1 == 0) (by simp [kdM])
      exact mk (zm1 e.b3) (zm2 e.b3) (dz_size e.d) ⟨blL q1 (by decide), (nuB_of q2).2, eq_gr q4 hgr, leT_of q3, chk_ob _ (eq_of_beq q5)⟩ (zp e.rp) (za e.ak) (zt e.to)
    · have q1 := m0 (2, blB (aP d).1 4) (by simp [kdM])
      have q2 := m0 (2, nuB (aP d).2.1) (by simp [kdM])
      have q3 := resOk_of (m0 (2, resOk (aP d).2.2.1.1 (aP d).2.2.1.2.2.1 (aP d).2.2.1.2.2.2.1 (aP d).2.2.1.2.2.2.2.1) (by simp [kdM]))
      exact mk (zm1 e.b3) (zm2 e.b3) (dz_size e.d) (zr e.rq) ⟨blL q1 (by decide), (nuB_of q2).2, ⟨q3.1.1, Int.le_trans (Int.le_of_lt q3.1.2) (by decide)⟩, q3.2.1, q3.2.2.1, q3.2.2.2, s1⟩ (za e.ak) (zt e.to)
    · have q1 := m0 (5, (aA d).1 == d.2.1) (by simp [kdM])
      have q2 := m0 (2, askB (aA d)) (by simp [kdM])
      exact mk (zm1 e.b3) (zm2 e.b3) (dz_size e.d) (zr e.rq) (zp e.rp) ⟨eq_gr q1 hgr, ask_cb wa.2.2 q2, s2, s3⟩ (zt e.to)
    · have q1 := m0 (4, (aT d).1 == d.2.1) (by simp [kdM])
      have q2 := m0 (4, stB (aT d).2.1 (aT d).2.2.1) (by simp [kdM])
      have q3 := m0 (2, blB (aT d).2.2.2.1 16) (by simp [kdM])
      obtain ⟨q4, q5⟩ := bif_split (show (bif nuB (aT d).2.1 then blB (aT d).2.2.1 101 else false) = true from q2)
      exact mk (zm1 e.b3) (zm2 e.b3) (dz_size e.d) (zr e.rq) (zp e.rp) (za e.ak) ⟨eq_gr q1 hgr, (nuB_of q4).2, blL q5 (by decide), blL q3 (by decide), s4⟩
end Go.Proofs.Ytjplobgambnhjaa
