/- Is one of the entries none: slices.ContainsFunc as Msg calls it; no statement. -/
import Derived.Test.YtjplobgambnhjaaGreatOen
set_option linter.unusedVariables false
set_option linter.unusedSimpArgs false
namespace Go.Proofs.YtjplobgambnhjaaGreat
open Go Go.Eng

noncomputable def EEt1 : Env Tryz.prog := EOmay0.addT1 17 [.agg rEntry] (fun d => vI (entV d.1)) (fun _ => []) fun d _ => ent_pure d.1
def badE (e : rEntry.den) : Bool := entV e != 0
/-- Where the first one stands that may not be. -/
def fbI : List rEntry.den → Nat → Int
  | [], _ => -1
  | x :: r, k => bif badE x then ((k : Nat) : Int) else fbI r (k + 1)
theorem fbI_at : ∀ (l : List rEntry.den) (k j : Nat) (v : rEntry.den), l[j]? = some v → badE v = true → (∀ i x, i < j → l[i]? = some x → badE x = false) → fbI l k = ((k + j : Nat) : Int)
  | [], k, j, v, h, _, _ => by simp at h
  | x :: r, k, 0, v, h, hv, _ => by
    simp only [List.getElem?_cons_zero, Option.some.injEq] at h
    subst h; simp [fbI, hv]
  | x :: r, k, j + 1, v, h, hv, hh => by
    simp only [fbI]
    rw [hh 0 x (by omega) rfl, cond_false, fbI_at r (k + 1) j v (by simpa using h) hv fun i y hi hy => hh (i + 1) y (by omega) (by simpa using hy)]
    congr 1; omega
noncomputable def lCnt : Code := (theLoop Tryz.prog 100 2).getD .skip
theorem lCnt_eq : theLoop Tryz.prog 100 2 = some lCnt := by kernel_rfl
theorem getD_getE {l : List rEntry.den} {k : Nat} (h : k < l.length) : l[k]? = some (l.getD k rEntry.dflt) := by
  rw [List.getElem?_eq_getElem h, List.getD_eq_getElem?_getD, List.getElem?_eq_getElem h]; rfl
theorem cnt_loop (l : List rEntry.den) (r : Int) (hlen : l.length ≤ maxLen) :
    (l.any badE = true → LoopOk Tryz.prog lCnt 19 [8, 4] [0, 7, 1] [vI 0, vI r] [.one (.sl rEntry l .shared), vI l.length, .one (.fn 69 [])] [] .ret [vX, vI (fbI l 0)] []) ∧
    (l.any badE = false → LoopOk Tryz.prog lCnt 19 [8, 4] [0, 7, 1] [vI 0, vI r] [.one (.sl rEntry l .shared), vI l.length, .one (.fn 69 [])] [] (.exit 0) [vX, vX] []) := by
  refine ⟨fun hf => ?_, fun hf => ?_⟩
  all_goals
    unfold maxLen at hlen
    refine LoopOk.rounds (S := Nat) EEt1 lCnt_eq (by kernel_rfl) (fun k => [vI k, vI r]) (fun _ => []) (fun k => k ≤ l.length ∧ ∀ j x, j < k → l[j]? = some x → badE x = false) (fun k => l.length - k) 0 ⟨by omega, fun j x hj => by omega⟩ ?_ (fun _ _ => rfl)
    intro k ⟨hk, hbefore⟩
    by_cases hlt : k < l.length
    · have hget : l[k]? = some (l.getD k rEntry.dflt) := getD_getE hlt
      have q1 : decide (((k : Nat) : Int) < ((l.length : Nat) : Int)) = true := decide_eq_true (by omega)
      have q2 : inB ((k : Nat) : Int) l.length = true := inB_of (by omega) (by omega)
      cases he : badE (l.getD k rEntry.dflt) with
      | true =>
        first
          | refine OneRound.stop [true, true] (vs := [vI k, vI k]) (hp' := []) (cs := [(entV (l.getD k rEntry.dflt) != 0) == true, inB ((k : Nat) : Int) l.length, decide (((k : Nat) : Int) < ((l.length : Nat) : Int)) == true]) (fun rest => by kernel_rfl) (allI (by have he : (entV (l.getD k rEntry.dflt) != 0) = true := he; rw [q1, q2, he]; rfl)) (by simp) ⟨.unk, .of_eq ?_, trivial⟩ rfl (.inl (Nat.le_refl _))
            rw [fbI_at l 0 k _ hget he hbefore]; simp
          | exact absurd hf (by
              have : l.any badE = true := List.any_eq_true.2 ⟨_, List.mem_of_getElem? hget, he⟩
              rw [this]; simp)
      | false =>
        refine OneRound.go [true, false] (vs := [vI (IntKind.i64.wrap (k + 1)), vI r]) (hp' := []) (cs := [(entV (l.getD k rEntry.dflt) != 0) == false, inB ((k : Nat) : Int) l.length, decide (((k : Nat) : Int) < ((l.length : Nat) : Int)) == true]) (fun rest => by kernel_rfl) (allI (by have he : (entV (l.getD k rEntry.dflt) != 0) = false := he; rw [q1, q2, he]; rfl)) (k + 1) ⟨by omega, fun j x hj hx => ?_⟩ (by omega) ⟨.of_eq ?_, .refl, trivial⟩ rfl (.inl (Nat.le_refl _))
        · by_cases hjk : j < k
          · exact hbefore j x hjk hx
          · have : j = k := by omega
            subst this
            rw [hget] at hx
            injection hx with hx; subst hx; exact he
        · rw [wrap64 (by omega) (by omega)]; rfl
    · have q1 : decide (((k : Nat) : Int) < ((l.length : Nat) : Int)) = false := decide_eq_false (by omega)
      first
        | exact OneRound.stop [false] (vs := [vI k, vI r]) (hp' := []) (cs := [decide (((k : Nat) : Int) < ((l.length : Nat) : Int)) == false]) (fun rest => by kernel_rfl) (allI (by rw [q1]; rfl)) (by simp) ⟨.unk, .unk, trivial⟩ rfl (.inl (Nat.le_refl _))
        | exact absurd hf (by
            have : l.any badE = false := by
              rw [List.any_eq_false]
              intro x hx
              obtain ⟨j, hj⟩ := List.getElem?_of_mem hx
              have hjl := (List.getElem?_eq_some_iff.1 hj).1
              simpa using hbefore j x (by omega) hj
            rw [this]; simp)
noncomputable def ECnt1 : Env Tryz.prog := EEt1.addL 100 2 lCnt_eq 19 [8, 4] [0, 7, 1] (by kernel_rfl)
  (fun vals rov hp os => match vals, rov, hp with
    | [.one (.int .i64 z), .one (.int .i64 r)], [.one (.sl row l .shared), .one (.int .i64 n), .one (.fn f [])], [] =>
      if hr : row.eqb rEntry = true then
        brL ((castL row rEntry hr l).any badE) os (fun os => retC (.ret, [vX, vI (fbI (castL row rEntry hr l) 0)], []) [decide (z = 0), decide (n = l.length), decide (l.length ≤ maxLen), decide (f = 69)] os)
          (fun os => retC (.exit 0, [vX, vX], []) [decide (z = 0), decide (n = l.length), decide (l.length ≤ maxLen), decide (f = 69)] os)
      else none
    | _, _, _ => none)
  (fun vals rov hp os e outs hp' cs os' h hc => by
    split at h
    · split at h
      · rename_i hr
        have q1 := CT.eq_of_eqb _ _ hr
        subst q1
        rcases brL_some h hc with ⟨hb, o, c, h, hc⟩ | ⟨hb, o, c, h, hc⟩
        all_goals
          simp only [retC, Option.some.injEq, Prod.mk.injEq] at h
          obtain ⟨⟨rfl, rfl, rfl⟩, rfl, rfl⟩ := h
          obtain ⟨h1, hc⟩ := of_allTc hc
          obtain ⟨h2, hc⟩ := of_allTc hc
          obtain ⟨h3, hc⟩ := of_allTc hc
          obtain ⟨h4, _⟩ := of_allTc hc
          simp only [decide_eq_true_eq] at h1 h2 h3 h4
          subst h1; subst h2; subst h4
          first | exact (cnt_loop _ _ h3).1 hb | exact (cnt_loop _ _ h3).2 hb
      · cases h
    · cases h)
theorem cont_pure (l : List rEntry.den) : PureCall Tryz.prog 68 [.one (.sl rEntry l .shared), .one (.fn 69 [])] (vB (l.any badE)) := by
  refine PureCall.facts' (by kernel_rfl) fun ⟨X, vs, hX, hv⟩ => ?_
  have hl : l.length ≤ maxLen := by
    obtain ⟨h1, h2⟩ := hv
    cases vs with
    | nil => simp at h1
    | cons y ys => exact sl_len (h2 0 _ y rfl rfl)
  have e1 : decide (l.length ≤ maxLen) = true := decide_eq_true hl
  have e2 : decide (((l.length : Nat) : Int) = l.length) = true := decide_eq_true rfl
  cases hf : l.any badE with
  | true =>
    obtain ⟨x, hx, hb⟩ := List.any_eq_true.1 hf
    have hge : decide (fbI l 0 ≥ 0) = true := decide_eq_true (by
      clear hf e1 e2 hl
      have : ∀ (l : List rEntry.den) (k : Nat), x ∈ l → fbI l k ≥ 0 := fun l => by
        induction l with
        | nil => intro k h; cases h
        | cons y r ih =>
          intro k h
          simp only [fbI]
          cases hy : badE y with
          | true => simp only [cond_true]; omega
          | false =>
            rcases List.mem_cons.1 h with rfl | h
            · rw [hb] at hy; cases hy
            · simp only [cond_false]; exact ih (k + 1) h
      exact this l 0 hx)
    refine PureCall.res (ECnt1.pure_ok (os := [true]) (r := vB (decide (fbI l 0 ≥ 0))) (cs := [decide ((0 : Int) = 0), decide (((l.length : Nat) : Int) = l.length), decide (l.length ≤ maxLen), true, l.any badE == true]) (by kernel_rfl) (allI (by rw [e1, e2, hf]; rfl))) (by rw [hge])
  | false =>
    refine ECnt1.pure_ok (os := [false]) (cs := [decide ((0 : Int) = 0), decide (((l.length : Nat) : Int) = l.length), decide (l.length ≤ maxLen), true, l.any badE == false]) (by kernel_rfl) (allI (by rw [e1, e2, hf]; rfl))
noncomputable def ECnt : Env Tryz.prog := EEt1.addP 68
  (fun args os => match args with
    | [.one c, .one (.fn f [])] => match unOne (.sl rEntry) c with
      | some l => retC (vB (List.any l badE)) [decide (f = 69)] os
      | none => none
    | _ => none)
  (fun args os r cs os' h hc => by
    split at h
    · split at h
      · rename_i hu
        simp only [retC, Option.some.injEq, Prod.mk.injEq] at h
        obtain ⟨rfl, rfl, rfl⟩ := h
        have h1 := of_decide_eq_true (of_allTc hc).1
        subst h1
        refine (cont_pure _).weaken fun X vs _ hv => ?_
        obtain ⟨h1, h2⟩ := hv
        refine ⟨h1, fun j a y hj hy => ?_⟩
        cases j with
        | zero =>
          simp only [List.getElem?_cons_zero, Option.some.injEq] at hj
          subst hj
          exact unOne_rel (.sl rEntry) hu (h2 0 _ y rfl hy)
        | succ j => exact h2 (j + 1) a y (by simpa using hj) hy
      · cases h
    · cases h)
end Go.Proofs.YtjplobgambnhjaaGreat
