/- The document's SameEntries of one list twice; no statement. -/
import Derived.Test.YtjplobgambnhjaaGreatRng
import Derived.Test.YtjplobgambnhjaaGreatOsame
import Derived.Test.YtjplobgambnhjaaGreatOworks
set_option linter.unusedVariables false
set_option linter.unusedSimpArgs false
set_option maxRecDepth 100000
namespace Go.Proofs.YtjplobgambnhjaaGreat
open Go Go.Eng

noncomputable def lSe : Code := (theLoop Tryz.prog 38 4).getD .skip
theorem lSe_eq : theLoop Tryz.prog 38 4 = some lSe := by kernel_rfl
theorem se_loop (l : List rEntry.den) (hlen : l.length ≤ maxLen) :
    LoopOk Tryz.prog lSe 27 [5, 4] [0, 1] [vI 0, vB false] [vL rEntry l, vL rEntry l] [] (.exit 0) [vX, vX] [] := by
  unfold maxLen at hlen
  refine LoopOk.rounds (S := Nat) EOs lSe_eq (by kernel_rfl) (fun k => [vI k, vB false]) (fun _ => []) (fun k => k ≤ l.length) (fun k => l.length - k) 0 (Nat.zero_le _) ?_ (fun _ _ => rfl)
  intro k hk
  by_cases hlt : k < l.length
  · have q1 : decide (((k : Nat) : Int) < ((l.length : Nat) : Int)) = true := decide_eq_true (by omega)
    have q2 : inB ((k : Nat) : Int) l.length = true := inB_of (by omega) (by omega)
    have hw : IntKind.i64.wrap (((k : Nat) : Int) + 1) = ((k + 1 : Nat) : Int) := by rw [wrap64 (by omega) (by omega)]; rfl
    exact OneRound.go [true, false] (vs := [vI (IntKind.i64.wrap (k + 1)), vB false]) (hp' := []) (cs := [(!sameE (l.getD k rEntry.dflt) (l.getD k rEntry.dflt)) == false, inB ((k : Nat) : Int) l.length, inB ((k : Nat) : Int) l.length, decide (((k : Nat) : Int) < ((l.length : Nat) : Int)) == true]) (fun rest => by kernel_rfl) (allI (by rw [q1, q2, sameE_refl]; rfl)) (k + 1) (by omega) (by omega) ⟨.of_eq (by rw [hw]), .refl, trivial⟩ rfl (.inl (Nat.le_refl _))
  · have q1 : decide (((k : Nat) : Int) < ((l.length : Nat) : Int)) = false := decide_eq_false (by omega)
    exact OneRound.stop [false] (vs := [vI k, vB false]) (hp' := []) (cs := [decide (((k : Nat) : Int) < ((l.length : Nat) : Int)) == false]) (fun rest => by kernel_rfl) (allI (by rw [q1]; rfl)) (by simp) ⟨.unk, .unk, trivial⟩ rfl (.inl (Nat.le_refl _))
noncomputable def okD (p : Prop) : Bool := @decide p (Classical.propDecidable p)
theorem of_okD {p : Prop} (h : okD p = true) : p := @of_decide_eq_true p (Classical.propDecidable p) h
theorem okD_of {p : Prop} (h : p) : okD p = true := @decide_eq_true p (Classical.propDecidable p) h
noncomputable def ESe : Env Tryz.prog := EOs.addL 38 4 lSe_eq 27 [5, 4] [0, 1] (by kernel_rfl)
  (fun vals rov hp os => match vals, rov, hp with
    | [.one (.int .i64 z), .one (.bool false)], [.one (.sl row l .shared), .one (.sl row' l' .shared)], [] =>
      if hr : row.eqb rEntry = true then if hr' : row'.eqb rEntry = true then
        retC (.exit 0, [vX, vX], []) [decide (z = 0), okD (castL row rEntry hr l = castL row' rEntry hr' l'), decide ((castL row rEntry hr l).length ≤ maxLen)] os
      else none else none
    | _, _, _ => none)
  (fun vals rov hp os e outs hp' cs os' h hc => by
    split at h
    · split at h
      · rename_i hr
        split at h
        · rename_i hr'
          have q1 := CT.eq_of_eqb _ _ hr
          subst q1
          have q2 := CT.eq_of_eqb _ _ hr'
          subst q2
          simp only [retC, Option.some.injEq, Prod.mk.injEq] at h
          obtain ⟨⟨rfl, rfl, rfl⟩, rfl, rfl⟩ := h
          obtain ⟨h1, hc⟩ := of_allTc hc
          obtain ⟨h2, hc⟩ := of_allTc hc
          obtain ⟨h3, _⟩ := of_allTc hc
          have h1 := of_decide_eq_true h1
          have h2 := of_okD h2
          have h3 := of_decide_eq_true h3
          subst h1
          have h2 : _ = _ := h2
          simp only [castL] at h2 h3
          subst h2
          exact se_loop _ h3
        · cases h
      · cases h
    · cases h)
theorem se_pure (l : List rEntry.den) : PureCall Tryz.prog 38 [vL rEntry l, vL rEntry l] (vB true) := by
  refine PureCall.facts' (by kernel_rfl) fun ⟨X, vs, hX, hv⟩ => ?_
  have hl : l.length ≤ maxLen := by
    obtain ⟨h1, h2⟩ := hv
    cases vs with
    | nil => simp at h1
    | cons y ys => exact sl_len (h2 0 _ y rfl rfl)
  exact ESe.pure_ok (os := [false]) (cs := [decide ((0 : Int) = 0), okD (l = l), decide (l.length ≤ maxLen), (((l.length : Nat) : Int) != ((l.length : Nat) : Int)) == false]) (by kernel_rfl) (allI (by rw [okD_of rfl, decide_eq_true hl]; simp))
noncomputable def ESm : Env Tryz.prog := EOs.addT1 38 [.one (.sl rEntry), .one (.sl rEntry)] (fun _ => vB true) (fun d => [okD (d.1 = d.2.1)]) fun d hc => by
  have h := of_okD (of_allTc hc).1
  obtain ⟨a, b, ⟨⟩⟩ := d
  have h : a = b := h
  subst h
  exact se_pure a
open Go Go.Eng

noncomputable def csS (d : rMsg.den) : List Bool := List.replicate 6 (CT.same rAsk (aA d) (aA d) == true) ++ List.replicate 6 (CT.same rRep (aP d) (aP d) == true) ++ List.replicate 6 (CT.same rReq (aR d) (aR d) == true) ++ List.replicate 6 ((ByteArray.toList (eT' d) == ByteArray.toList (eT' d)) == true) ++ List.replicate 6 (decide ((eB d).2.2.1 = (eB d).2.2.1) == true) ++ [true] ++
  List.replicate 6 (((eB d).2.1 == (eB d).2.1) == true) ++ List.replicate 6 (((eB d).1 == (eB d).1) == true) ++ List.replicate 5 true ++ [(d.2.2.2.2.2.2.1 == d.2.2.2.2.2.2.1) == true, okD (eE d = eE d)] ++ List.replicate 5 ((d.2.2.2.2.2.2.1 == d.2.2.2.2.2.2.1) == true) ++
  List.replicate 6 ((d.2.2.2.2.2.1 == d.2.2.2.2.2.1) == true) ++ List.replicate 6 ((d.2.2.2.2.1 == d.2.2.2.2.1) == true) ++ List.replicate 6 ((d.2.2.2.1 == d.2.2.2.1) == true) ++ List.replicate 6 ((d.2.2.1 == d.2.2.1) == true) ++ List.replicate 6 ((d.2.1 == d.2.1) == true) ++ List.replicate 6 ((d.1 == d.1) == true)
theorem sm_run (d : rMsg.den) : ESm.pureRun 11 [.agg (rMsg.cells d), .agg (rMsg.cells d)] (List.replicate 100 true) = some (vB (CT.same rTold (aT d) (aT d)), csS d) := by kernel_rfl
theorem rep_all {n : Nat} {b : Bool} (h : b = true) : (List.replicate n b).all (fun c => c) = true := by
  subst h
  induction n with
  | zero => rfl
  | succ n ih => rw [List.replicate_succ, List.all_cons, ih]; rfl
theorem sm_pure (d : rMsg.den) : PureCall Tryz.prog 11 [.agg (rMsg.cells d), .agg (rMsg.cells d)] (vB true) := by
  refine PureCall.res (ESm.pure_ok (sm_run d) (allI ?_)) (by rw [same_refl'])
  unfold csS
  simp only [List.all_append, Bool.and_eq_true]
  and_intros <;> first | (apply rep_all; simp [same_refl']; done) | (simp [okD_of]; done)
noncomputable def ELw : Env Tryz.prog := (((((((ESm.addT1 11 [.agg rMsg, .agg rMsg] (fun _ => vB true) (fun d => [okD (d.1 = d.2.1)]) fun d hc => by
  have h := of_okD (of_allTc hc).1
  obtain ⟨a, b, ⟨⟩⟩ := d
  have h : a = b := h
  subst h
  exact sm_pure a).addT1
  12 [] (fun _ => vB true) (fun _ => []) fun _ _ => works16_pure).addT1
  4 [.one .str] (fun d => tupE (deA d.1).1 (deA d.1).2) (fun d => [szk d.1]) fun d hc => dent_any d.1 (of_allTc hc).1).addT1
  5 [.one .str] (fun d => tupE (deA d.1).1 (deA d.1).2) (fun d => [szk d.1]) fun d hc => rdent_any d.1 (of_allTc hc).1).addT1
  6 [.one .str] (fun d => tupR (drA d.1).1 (drA d.1).2) (fun d => [szk d.1]) fun d hc => dr_any d.1 (of_allTc hc).1).addT1
  7 [.one .str] (fun d => tupR (drA d.1).1 (drA d.1).2) (fun d => [szk d.1]) fun d hc => rdr_any d.1 (of_allTc hc).1).addT1
  8 [.one .str] (fun d => tupM (dmA d.1).1 (dmA d.1).2) (fun d => [szk d.1]) fun d hc => dm_any d.1 (of_allTc hc).1).addT1
  9 [.one .str] (fun d => tupM (dmA d.1).1 (dmA d.1).2) (fun d => [szk d.1]) fun d hc => rdm_any d.1 (of_allTc hc).1
open Go Go.Eng

noncomputable def csRd (s : ByteArray) : List Bool := [((dmA s).2 == (dmA s).2) == true, ((dmA s).2 == (dmA s).2) == true, true, true, true, true, ((drA s).2 == (drA s).2) == true, okD ((dmA s).1 = (dmA s).1), ((drA s).2 == (drA s).2) == true, ((drA s).2 == (drA s).2) == true, ((drA s).2 == (drA s).2) == true] ++
  List.replicate 4 (CT.same rRes (drA s).1 (drA s).1 == true) ++ List.replicate 4 (((deA s).2 == (deA s).2) == true) ++ List.replicate 4 (sameE (deA s).1 (deA s).1 == true) ++ List.replicate 6 (szk s)
theorem reads_run (s : ByteArray) : ELw.pureRun 3 [vS s] (List.replicate 100 true) = some (vB true, csRd s) := by kernel_rfl
theorem reads_law (s : ByteArray) (hs : szk s = true) : PureCall Tryz.prog 3 [vS s] (vB true) := by
  refine ELw.pure_ok (reads_run s) (allI ?_)
  unfold csRd
  rw [List.all_append, List.all_append, List.all_append, List.all_append, rep_all hs, rep_all (show (sameE (deA s).1 (deA s).1 == true) = true by rw [sameE_refl]; rfl), rep_all (show (((deA s).2 == (deA s).2) == true) = true by simp), rep_all (show (CT.same rRes (drA s).1 (drA s).1 == true) = true by rw [same_refl']; rfl)]
  simp only [List.all_cons, List.all_nil, beq_self_eq_true, okD_of]
  rfl
theorem reads_lawS (d : dens [.one .str]) (h : WFs [.one .str] d) : PureCall Tryz.prog 3 (encs [.one .str] d) (vB true) :=
  by
  have h1 := h.1
  simp only [WFp, WF] at h1
  exact reads_law d.1 (decide_eq_true (Nat.le_trans h1 (by decide +kernel)))
end Go.Proofs.YtjplobgambnhjaaGreat
