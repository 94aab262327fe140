/- A seek among cells in order; an operation on cells in order: plain; no statement. -/
import Derived.Test.YtolhkkoakneflaaSg2
import Derived.Test.YtolhkkoakneflaaPa0
set_option linter.unusedVariables false
set_option linter.unusedSimpArgs false
namespace Go.Proofs.Ytolhkkoakneflaa
open Go Go.Eng

/-! ### Seek -/
def cand (o : rOp.den) (x : rCell.den) : Bool := !(Op.bytesLess (ByteArray.toList x.1) (ByteArray.toList o.2.1)) && ((ByteArray.toList x.2.1 == ByteArray.toList o.2.2.1) && !x.2.2.2.1)
def resC (x : rCell.den) : rRes.den := (0, true, x.1, x.2.2.2.2.1, x.2.2.1, ())
def firstL (o : rOp.den) (l : List rCell.den) : rRes.den := match l.find? (cand o) with | some x => resC x | none => zRs
theorem sk_no {o : rOp.den} {out : rRes.den} {x : rCell.den} (h : cand o x = false) : skStep o out (kOf x) x = out := by
  unfold cand at h
  unfold skStep kOf
  simp only
  cases h1 : (ByteArray.toList x.2.1 == ByteArray.toList o.2.2.1) with
  | false => rfl
  | true =>
    cases h2 : Op.bytesLess (ByteArray.toList x.1) (ByteArray.toList o.2.1) with
    | true => rfl
    | false =>
      cases h3 : x.2.2.2.1 with
      | true => rfl
      | false => rw [h1, h2, h3] at h; cases h
theorem sk_yes {o : rOp.den} {out : rRes.den} {x : rCell.den} (h : cand o x = true) : skStep o out (kOf x) x = bif out.2.1 then (bif decide (cmpB out.2.2.1 x.1 ≤ 0) then out else resC x) else resC x := by
  unfold cand at h
  unfold skStep kOf resC
  simp only [Bool.and_eq_true, Bool.not_eq_true'] at h ⊢
  obtain ⟨h2, h1, h3⟩ := h
  rw [h1, h2, h3]
  simp only [cond_true, cond_false]
  have e : (Op.bytesLess (ByteArray.toList out.2.2.1) (ByteArray.toList x.1) || ByteArray.toList out.2.2.1 == ByteArray.toList x.1) = decide (cmpB out.2.2.1 x.1 ≤ 0) := by
    rw [less_cmp, eq_cmp, Bool.eq_iff_iff]
    simp only [Bool.or_eq_true, decide_eq_true_eq]
    omega
  rw [e]
theorem sk_fold {o : rOp.den} : ∀ (l : List (rPl.den × rCell.den)) (done : List rCell.den) (out : rRes.den), (∀ q ∈ l, q.1 = kOf q.2) →
    ((out = zRs ∧ ∀ x ∈ done, cand o x = false) ∨ ∃ x ∈ done, cand o x = true ∧ out = resC x ∧ ∀ y ∈ done, cand o y = true → cmpB x.1 y.1 ≤ 0) →
    ((l.foldl (fun out q => skStep o out q.1 q.2) out = zRs ∧ ∀ x ∈ done ++ l.map (·.2), cand o x = false) ∨
      ∃ x ∈ done ++ l.map (·.2), cand o x = true ∧ l.foldl (fun out q => skStep o out q.1 q.2) out = resC x ∧ ∀ y ∈ done ++ l.map (·.2), cand o y = true → cmpB x.1 y.1 ≤ 0)
  | [], done, out, _, h => by simpa using h
  | q :: l, done, out, hk, h => by
    have e : done ++ (q :: l).map (·.2) = (done ++ [q.2]) ++ l.map (·.2) := by simp
    rw [e, List.foldl_cons, hk q (List.mem_cons_self ..)]
    refine sk_fold l (done ++ [q.2]) _ (fun p hp => hk p (List.mem_cons_of_mem _ hp)) ?_
    cases hc : cand o q.2 with
    | false =>
      rw [sk_no hc]
      rcases h with ⟨h1, h2⟩ | ⟨x, hx, h1, h2, h3⟩
      · refine .inl ⟨h1, fun y hy => ?_⟩
        rcases List.mem_append.1 hy with hy | hy
        · exact h2 y hy
        · rw [List.mem_singleton.1 hy]; exact hc
      · refine .inr ⟨x, List.mem_append_left _ hx, h1, h2, fun y hy hy2 => ?_⟩
        rcases List.mem_append.1 hy with hy | hy
        · exact h3 y hy hy2
        · rw [List.mem_singleton.1 hy, hc] at hy2; cases hy2
    | true =>
      rw [sk_yes hc]
      rcases h with ⟨rfl, h2⟩ | ⟨x, hx, h1, rfl, h3⟩
      · refine .inr ⟨q.2, List.mem_append_right _ (List.mem_singleton.2 rfl), hc, rfl, fun y hy hy2 => ?_⟩
        rcases List.mem_append.1 hy with hy | hy
        · rw [h2 y hy] at hy2; cases hy2
        · rw [List.mem_singleton.1 hy, cmpB_refl]; exact Int.le_refl _
      · show _ ∨ _
        by_cases hle : cmpB x.1 q.2.1 ≤ 0
        · have e2 : (bif (resC x).2.1 then (bif decide (cmpB (resC x).2.2.1 q.2.1 ≤ 0) then resC x else resC q.2) else resC q.2) = resC x := by
            show (bif decide (cmpB x.1 q.2.1 ≤ 0) then resC x else resC q.2) = resC x
            rw [decide_eq_true hle]; rfl
          rw [e2]
          refine .inr ⟨x, List.mem_append_left _ hx, h1, rfl, fun y hy hy2 => ?_⟩
          rcases List.mem_append.1 hy with hy | hy
          · exact h3 y hy hy2
          · rw [List.mem_singleton.1 hy]; exact hle
        · have e2 : (bif (resC x).2.1 then (bif decide (cmpB (resC x).2.2.1 q.2.1 ≤ 0) then resC x else resC q.2) else resC q.2) = resC q.2 := by
            show (bif decide (cmpB x.1 q.2.1 ≤ 0) then resC x else resC q.2) = resC q.2
            rw [decide_eq_false hle]; rfl
          rw [e2]
          refine .inr ⟨q.2, List.mem_append_right _ (List.mem_singleton.2 rfl), hc, rfl, fun y hy hy2 => ?_⟩
          rcases List.mem_append.1 hy with hy | hy
          · have h5 := h3 y hy hy2
            have := cmp3_B.le q.2.1 x.1 y.1
            have := cmp3_B.anti x.1 q.2.1
            omega
          · rw [List.mem_singleton.1 hy, cmpB_refl]; exact Int.le_refl _
theorem seek_first {o : rOp.den} {M : MapT} (I : MapInv M) {l : MapT} (hl : l.Perm M) : skF o l = firstL o (srtG (valsM M)) := by
  have hS2 : ∀ x, x ∈ srtG (valsM M) ↔ x ∈ l.map (·.2) := fun x => by
    rw [(srtG_perm (valsM M)).mem_iff]
    exact ((hl.map (·.2)).mem_iff).symm
  have hpw := srt_pw I
  have h := sk_fold (o := o) l [] zRs (fun q hq => I.key q (hl.mem_iff.1 hq)) (.inl ⟨rfl, fun x hx => by cases hx⟩)
  rw [List.nil_append] at h
  unfold firstL
  cases hf : (srtG (valsM M)).find? (cand o) with
  | none =>
    have hn := List.find?_eq_none.1 hf
    rcases h with ⟨h1, h2⟩ | ⟨x, hx, h1, h2, h3⟩
    · exact h1
    · exact absurd h1 (hn x ((hS2 x).2 hx))
  | some y =>
    obtain ⟨hy, l1, l2, hS, hno⟩ := List.find?_eq_some_iff_append.1 hf
    have hyl : y ∈ l.map (·.2) := (hS2 y).1 (by rw [hS]; exact List.mem_append_right _ (List.mem_cons_self ..))
    rcases h with ⟨h1, h2⟩ | ⟨x, hx, h1, h2, h3⟩
    · rw [h2 y hyl] at hy; cases hy
    · have hyx : cmpB y.1 x.1 ≤ 0 := by
        have hxS := (hS2 x).2 hx
        rw [hS] at hxS hpw
        rcases List.mem_append.1 hxS with hm | hm
        · have := hno x hm; rw [h1] at this; cases this
        · rcases List.mem_cons.1 hm with rfl | hm
          · rw [cmpB_refl]; exact Int.le_refl _
          · have := (List.pairwise_cons.1 (List.pairwise_append.1 hpw).2.1).1 x hm
            exact cmpP_le (by omega)
      have hxy := h3 y hyl hy
      have a := cmp3_B.anti x.1 y.1
      have e1 : x.1 = y.1 := cmpB_iff.1 (by omega)
      have hcol : ∀ z, cand o z = true → z.2.1 = o.2.2.1 := fun z hz => by
        unfold cand at hz
        simp only [Bool.and_eq_true] at hz
        have := hz.2.1
        rw [bl] at this
        exact (Go.MapKept.bytes_beq _ _).1 this
      have hm : ∀ z, z ∈ l.map (·.2) → z ∈ valsM M := fun z hz => (hl.map (·.2)).mem_iff.1 hz
      have e := I.pl.places x (hm x hx) y (hm y hyl) e1 ((hcol x h1).trans (hcol y hy).symm)
      show skF o l = resC y
      rw [← e]; exact h2
/-! ### An operation -/
theorem chk_col {o : rOp.den} (h : chkV o = 0) : o.2.2.1 ≠ ByteArray.mk #[] := fun e => by
  rw [chk_same] at h
  have h0 : decide ((((ByteArray.size o.snd.snd.fst) : Nat) : Int) ≥ 1) = false := by rw [e]; rfl
  unfold chkW at h
  rw [h0] at h
  simp [Bool.cond_self] at h
theorem eff_all {o : rOp.den} {M : MapT} (I : MapInv M) {l : List rCell.den} (hl : l.Perm (valsM M)) : effV o l = effV o (rowV o M) := by
  by_cases hb : chkV o = 0
  · have hc := chk_col hb
    have p1 : Pl l := I.pl.perm hl
    have p2 := rowV_pl (o := o) I hc
    have key : ∀ c, (c = o.2.2.1 ∨ c = ByteArray.mk #[]) → ∀ x : rCell.den, (x.1 = o.2.1 ∧ x.2.1 = c) → (x ∈ l ↔ x ∈ rowV o M) := fun c hcc x hx => by
      rw [rowV_mem, hl.mem_iff]
      constructor
      · intro h1
        rcases hcc with rfl | rfl
        · exact .inr (I.look.2 ⟨h1, hx.1, hx.2⟩)
        · exact .inl (I.look.2 ⟨h1, hx.1, hx.2⟩)
      · intro h1
        rcases h1 with h1 | h1
        · exact (I.look.1 h1).1
        · exact (I.look.1 h1).1
    exact effV_same (nsw_same p1 p2 (key _ (.inl rfl))) (nsw_same p1 p2 (key _ (.inr rfl)))
  · have hb' : (chkV o != 0) = true := by simpa using hb
    unfold effV
    rw [hb']; rfl
/-- Versions as the program has them. -/
def VerIn (l : List rCell.den) : Prop := ∀ x ∈ l, (0 : Int) ≤ x.2.2.1 ∧ (x.2.2.1 : Int) ≤ (1099511627776 : Int)
theorem VerIn.ok {l : List rCell.den} (h : VerIn l) : verOk l = true := by
  refine List.all_eq_true.2 fun x hx => decide_eq_true ?_
  have := h x hx
  exact ⟨this.1, Int.lt_of_le_of_lt this.2 (by decide)⟩
theorem nst_vr {l : List rCell.den} (h : VerIn l) (r c : ByteArray) : ∀ k, k ≤ l.length → (0 : Int) ≤ (nst l r c k).1.2.2.1 ∧ ((nst l r c k).1.2.2.1 : Int) ≤ (1099511627776 : Int)
  | 0, _ => by
    show (0 : Int) ≤ 0 ∧ (0 : Int) ≤ 1099511627776
    omega
  | k + 1, hk => by
    have ih := nst_vr h r c k (by omega)
    rw [nst_succ]
    cases ((l.getD k rCell.dflt).1 == r && ((l.getD k rCell.dflt).2.1 == c && true)) && ((!(nst l r c k).2) || decide ((l.getD k rCell.dflt).2.2.1 > (nst l r c k).1.2.2.1)) with
    | false => exact ih
    | true => exact h _ (List.mem_of_getElem? (getD_get (d := rCell.dflt) (l := l) (k := k) (by omega)))
theorem wrap_ver (n : Int) (h1 : 0 ≤ n) (h2 : ¬ n ≥ 1099511627776) : (0 : Int) ≤ IntKind.u64.wrap (n + 1) ∧ (IntKind.u64.wrap (n + 1) : Int) ≤ 1099511627776 := by
  rw [wrapU64 (n := n + 1) (by omega) (by omega)]; omega
theorem eff_ver {o : rOp.den} {l : List rCell.den} (h : VerIn l) (hN : eN o l = false) : VerIn [e0 o l, e1 o l] := by
  have hc := nst_vr h o.2.1 (ByteArray.mk #[]) l.length (Nat.le_refl _)
  change (0 : Int) ≤ (nsw l o.2.1 (ByteArray.mk #[])).1.2.2.1 ∧ ((nsw l o.2.1 (ByteArray.mk #[])).1.2.2.1 : Int) ≤ (1099511627776 : Int) at hc
  unfold eN e0 e1 effV at *
  generalize (chkV o != 0 || o.1 == 5) = b1 at *
  cases b1 with
  | true => cases hN
  | false =>
    generalize (o.1 == 2) = b2 at *
    cases b2 with
    | true => cases hN
    | false =>
      generalize (bif o.1 == 1 then false else bif o.1 == 3 then !hereV o l else !(hereV o l == o.2.2.2.2.1) || (o.2.2.2.2.1 && !((nsw l o.2.1 o.2.2.1).1.2.2.2.2.1 == o.2.2.2.2.2.1))) = b3 at *
      cases b3 with
      | true => cases hN
      | false =>
        generalize hcc : (nsw l o.2.1 (ByteArray.mk #[])).1.2.2.1 = n at *
        change (0 : Int) ≤ n ∧ (n : Int) ≤ 1099511627776 at hc
        by_cases h4 : (n : Int) ≥ (1099511627776 : Int)
        · have h4' : decide (n ≥ 1099511627776) = true := decide_eq_true h4
          rw [h4'] at hN
          cases hN
        · have h4' : decide (n ≥ 1099511627776) = false := decide_eq_false h4
          rw [h4']
          have hn : (0 : Int) ≤ IntKind.u64.wrap (n + 1) ∧ (IntKind.u64.wrap (n + 1) : Int) ≤ 1099511627776 := wrap_ver n hc.1 h4
          intro x hx
          rcases List.mem_cons.1 hx with rfl | hx
          · exact hn
          · rw [List.mem_singleton.1 hx]; exact hn
theorem valsM_aset {M : MapT} {c x : rCell.den} {k : rP.den} (h : x ∈ valsM (aset k c M)) : x ∈ valsM M ∨ x = c := by
  obtain ⟨q, hq, rfl⟩ := List.mem_map.1 h
  rcases aset_mem _ _ hq with hq | rfl
  · exact .inl (List.mem_map.2 ⟨q, hq, rfl⟩)
  · exact .inr rfl
theorem rowV_sub {o : rOp.den} {M : MapT} (I : MapInv M) {x : rCell.den} (h : x ∈ rowV o M) : x ∈ valsM M := by
  rcases rowV_mem.1 h with h | h
  · exact (I.look (r := o.2.1) (c := ByteArray.mk #[])).1 h |>.1
  · exact (I.look (r := o.2.1) (c := o.2.2.1)).1 h |>.1
theorem do_ver {o : rOp.den} {M : MapT} (I : MapInv M) (h : VerIn (valsM M)) : VerIn (valsM (doM o M)) := by
  unfold doM
  cases hN : eN o (rowV o M) with
  | true => exact h
  | false =>
    have hv := eff_ver (o := o) (l := rowV o M) (fun x hx => h x (rowV_sub I hx)) hN
    intro x hx
    rcases valsM_aset hx with hx | rfl
    · rcases valsM_aset hx with hx | rfl
      · exact h x hx
      · exact hv _ (List.mem_cons_self ..)
    · exact hv _ (List.mem_cons_of_mem _ (List.mem_cons_self ..))
/-- What the document leaves of cells in order, and answers. -/
def seekB (o : rOp.den) : Bool := (chkV o == 0) && (o.1 == 5)
def rdoL (q : List rCell.den) (o : rOp.den) : List rCell.den := bif seekB o then q else bif eN o q then q else putL (putL q (e0 o q)) (e1 o q)
def rdoR (q : List rCell.den) (o : rOp.den) : rRes.den := bif seekB o then firstL o q else (effV o q).1
def doRR (o : rOp.den) (M : MapT) : rRes.den := bif seekB o then firstL o (srtG (valsM M)) else doR o M
theorem do_seek {o : rOp.den} {M : MapT} (h : (o.1 == 5) = true) : doM o M = M := by
  unfold doM
  have : eN o (rowV o M) = true := by
    unfold eN effV
    rw [h, Bool.or_true]; rfl
  rw [this]; rfl
theorem rdo_eq {o : rOp.den} {M : MapT} (I : MapInv M) : rdoL (srtG (valsM M)) o = srtG (valsM (doM o M)) ∧ rdoR (srtG (valsM M)) o = doRR o M := by
  have he := eff_all (o := o) I (srtG_perm (valsM M))
  unfold rdoL rdoR doRR
  cases hs : seekB o with
  | true =>
    have h5 : (o.1 == 5) = true := by unfold seekB at hs; rw [Bool.and_eq_true] at hs; exact hs.2
    rw [do_seek h5]
    exact ⟨rfl, rfl⟩
  | false =>
    constructor
    · show (bif eN o (srtG (valsM M)) then _ else _) = _
      have e0' : e0 o (srtG (valsM M)) = e0 o (rowV o M) := by unfold e0; rw [he]
      have e1' : e1 o (srtG (valsM M)) = e1 o (rowV o M) := by unfold e1; rw [he]
      have eN' : eN o (srtG (valsM M)) = eN o (rowV o M) := by unfold eN; rw [he]
      rw [e0', e1', eN']
      unfold doM
      cases hN : eN o (rowV o M) with
      | true => rfl
      | false =>
        show putL (putL _ _) _ = srtG (valsM (aset _ _ (aset _ _ M)))
        rw [put_srt I, put_srt (I.set _)]
    · show (effV o (srtG (valsM M))).1 = doR o M
      rw [he]; rfl
end Go.Proofs.Ytolhkkoakneflaa
