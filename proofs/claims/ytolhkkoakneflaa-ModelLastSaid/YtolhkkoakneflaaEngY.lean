import Derived.Test.YtolhkkoakneflaaEngW
import Derived.Below
import Derived.ChangeSame
set_option linter.unusedVariables false
namespace Go.Eng
open Go Go.RowKit Go.WideShapes Go.ChangeShapes
variable {P : Program}

/-- Nothing but the world, of which all cells are promised. -/
def topC (W : World) : Ctx := freshAll { φ := fun _ => 0, fr := fun _ => none, tl := fun _ => False, H := fun _ => none, w := W, w0 := W, lent := fun _ => False, old := fun _ _ => False }

theorem HRel.topC (W : World) : HRel (topC W) := HRel.freshAll _

theorem below_top {W : World} {Y : Ctx} (hle : (topC W).le Y) (hY : HRel Y) : Below W.heap.size W Y.w := by
  have h0 : Y.w0 = W := hle.w0
  have hl : Y.lent = fun _ => False := hle.lent
  refine ⟨?_, ?_, ?_, ?_, ?_⟩
  · have := hY.os; rw [h0] at this; exact this
  · have := hY.tape; rw [h0] at this; exact this
  · have := hY.output; rw [h0] at this; exact this
  · have := hY.size; rw [h0] at this; exact this
  · intro k hk; have := hY.below k (by rw [h0]; exact hk) (by rw [hl]; exact id); rw [h0] at this; exact this

/-- It came to true, and all that was taken for granted is so. -/
def cameTrue (o : Option (AV × List AB × List Bool × List Bool)) : Bool :=
  match o with
  | some (.one (.bool b), _, cs, _) => b && cs.all (fun c => c)
  | _ => false

theorem cameTrue_spec {o : Option (AV × List AB × List Bool × List Bool)} (h : cameTrue o = true) : ∃ hp cs os, o = some (.one (.bool true), hp, cs, os) ∧ ∀ c ∈ cs, c = true := by
  unfold cameTrue at h
  split at h
  · rename_i b hp cs os
    simp only [Bool.and_eq_true] at h
    obtain ⟨rfl, h⟩ := h
    exact ⟨hp, cs, os, rfl, fun c hc => by simpa using List.all_eq_true.1 h c hc⟩
  · cases h

def kp0 : KP := fun _ _ _ => none
def lcs0 : Nat → LC := fun _ _ _ => none
theorem kp0_ok : KPok P kp0 := fun f args os r cs os' h => by cases h
theorem lcs0_ok : LCsOk P lcs0 := fun f fn c _ _ body _ i _ σ e σ' h => by cases h

/-- A closed function, its whole run laid out by the kernel. -/
theorem closed_calls (hm : P.follows .mixedOrders = true) {f : Nat} {fn : Func} {c : Code} (hf : P.funcs[f]? = some fn) (hb : fn.body = some c) {n d : Nat}
    (h : cameTrue (runF P kp0 (kxN (kpN P kp0 lcs0 (fun _ => true) n d)) (khA P kp0 lcs0 (fun _ => true) n d) (lcs0 f) n fn c [] [] []) = true) (W : World) :
    Calls P f #[] W fun e w' => e = .returned (.bool true) ∧ Below W.heap.size W w' := by
  obtain ⟨hp, cs, os, hr, hcs⟩ := cameTrue_spec h
  refine (runF_sim hm kp0_ok (kxN_ok (kpN_ok hm kp0_ok lcs0_ok d)) (khA_ok hm kp0_ok lcs0_ok) hf hb (lcs0_ok f fn c hf hb) hr hcs (HRel.topC W) (by funext i; simp [topC, freshAll]) (vs := []) PW.nil).mono fun e w' hh => ?_
  obtain ⟨val, X', rfl, rfl, hle, hX, _, hv⟩ := hh
  cases hv
  exact ⟨rfl, below_top hle hX⟩

section
variable {H : Type} {enc : TypeId × Value → H}
/-- What a row asks behind the call, where the world is known by what lay there before alone. -/
theorem post_of_below {f : Func} {s : ChangeSpec} {apart fresh handsOn again : Bool} {W W' : World} {args : Array Value} {v : Value} {ds gs : List (DataW H)} {before pa pv : List MemPlace}
    (hW : DataW.Whole enc P f.params.toList s.vars apart W args.toList ds gs before)
    (hres : ∀ (b : Nat) (sp : Nat → Bool) (hd : Bool), DataW.TrodAll enc P W' b sp hd f.resultTypes.toList (v.resultList f.resultTypes.size) (s.fn H (ds ++ gs)).results [])
    (hargs : ∀ sp : Nat → Bool, (∀ p ∈ before, sp p.block = true) → DataW.TrodAll enc P W' 0 sp true f.params.toList args.toList (s.fn H (ds ++ gs)).args pa)
    (hvars : ∀ sp : Nat → Bool, (∀ p ∈ before, sp p.block = true) → DataW.TrodVars enc P W' sp s.vars (s.fn H (ds ++ gs)).vars pv)
    (hps : before = pa ++ pv) (hb : Below W.heap.size W W')
    (hok : ∀ (j : Nat) (t : TypeId) (r : Value), f.resultTypes[j]? = some t → (v.resultList f.resultTypes.size)[j]? = some r → Value.okWide P W' .any 0 t r) :
    s.post enc P f apart fresh handsOn again W args v W' := by
  have hlt : ∀ p ∈ before, p.block < W.heap.size := fun p hp => hW.lt p hp
  have hold : ∀ p ∈ before, (fun b => decide (b < W.heap.size)) p.block = true := fun p hp => by simpa using hlt p hp
  refine ⟨ds, gs, before, [], pa, pv, hW, hres _ _ _, hargs _ hold, hvars _ hold, World.keptBut_mono (fun p hp => ⟨hp, ?_⟩) (hb.frame (· ∈ before)), fun _ => ?_⟩
  · rw [hps, List.mem_append] at hp
    exact Or.inr hp
  · obtain ⟨_, _, _, _, _, hz, hn⟩ := hW
    refine ⟨hok, _, _, ([] ++ pa) ++ pv, ⟨[] ++ pa, pv, trodAll_append (hargs _ (fun _ _ => rfl)) (hres _ _ _), hvars _ (fun _ _ => rfl), rfl, ?_, ?_⟩, ?_⟩
    · intro b off hp
      have hin : MemPlace.cell b off ∈ before := by rw [hps]; simpa using hp
      rw [hb.frozen (hlt _ hin)]
      exact hz b off hin
    · intro ha
      have := hn ha
      rw [hps] at this
      simpa using this
    · intro p hp _
      rw [hps]
      simpa using hp
end
end Go.Eng
