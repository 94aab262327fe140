/- Could: what it is made of; no statement. -/
import Derived.Test.YthdgoefjkfafkaaGreatDoorLdz
import Derived.Test.YthdgoefjkfafkaaGreatDoorEngZ26
set_option linter.unusedVariables false
set_option linter.unusedSimpArgs false
namespace Go.Proofs.YthdgoefjkfafkaaGreatDoor
open Go Go.Eng

def seqL : Code → Code
  | .seq a _ => a
  | c => c
def seqR : Code → Code
  | .seq _ b => b
  | c => c
def blkC : Code → Code
  | .block _ c => c
  | c => c
def rfA : Code → Code
  | .rangeFunc _ _ a _ => a
  | c => c
def rfB : Code → Code
  | .rangeFunc _ _ _ b => b
  | c => c
noncomputable def cCo : Code := (Tryz.f8.body).getD .skip
noncomputable def cR0 : Code := seqL cCo
noncomputable def cS1 : Code := seqL (seqR cCo)
noncomputable def cR3 : Code := seqL (seqR (seqR cCo))
noncomputable def cR4 : Code := seqL (seqL (seqR (seqR (seqR cCo))))
noncomputable def cRf : Code := blkC (seqR (seqL (seqR (seqR (seqR cCo)))))
noncomputable def cR10 : Code := seqL (seqR (seqR (seqR (seqR cCo))))
noncomputable def cAsg : Code := rfA cRf
noncomputable def cBod : Code := rfB cRf
theorem cCo_eq : cCo = .seq cR0 (.seq cS1 (.seq cR3 (.seq (.seq cR4 (.block 0 (.rangeFunc (.tmp 19) #[20] cAsg cBod))) (.seq cR10 .ret)))) := by kernel_rfl
noncomputable def cIt : Code := (Tryz.f16.body).getD .skip
noncomputable def iR0 : Code := seqL cIt
noncomputable def iR1 : Code := seqL (seqR cIt)
noncomputable def iLb : Code := match blkC (seqR (seqR cIt)) with
  | .loop c => c
  | c => c
theorem cIt_eq : cIt = .seq iR0 (.seq iR1 (.block 0 (.loop iLb))) := by kernel_rfl
/-- A piece of a function's code, run. -/
noncomputable def runC (f : Nat) (c : Code) (σ : St) : Option (XE × St) := exec Tryz.prog ELn.kp ELn.kx ELn.kk (ELn.lcs f) rounds0 c σ
open Go Go.Eng Go.RowKit Go.ChangeMaps

theorem rel_push {X : Ctx} {σ : St} {a : Act} (h : Rel X σ a) (htg : σ.tg = []) (o : Obj) :
    ∃ X1, X1.w = X.w.alloc o ∧ X.le X1 ∧ Rel X1 { σ with hp := σ.hp ++ [.obj o] } a ∧ X1.φ σ.hp.length = X.w.heap.size := by
  have hN : X.H σ.hp.length = none := by rw [h.heap]; exact List.getElem?_eq_none (Nat.le_refl _)
  have hle := push_le h.hrel hN (.obj o) rfl o
  have hrel := HRel.push h.hrel hN (.obj o) rfl o (show (X.w.alloc o).heap[(X.push σ.hp.length (.obj o) o).φ σ.hp.length]? = some o by
    simp only [Ctx.push, upd_same]
    exact heap_alloc_new X.w o)
  refine ⟨X.push σ.hp.length (.obj o) o, rfl, hle, ⟨hrel, ?_, h.size, h.defers, fun t v hv => VR.mono hle v _ (h.tm t v hv), fun t s w v hv => by rw [htg] at hv; cases hv⟩, by simp only [Ctx.push, upd_same]⟩
  funext k
  show upd X.H σ.hp.length (some (.obj o)) k = (σ.hp ++ [.obj o])[k]?
  by_cases e : k = σ.hp.length
  · subst e; rw [upd_same]; simp
  · rw [upd_other _ _ e, h.heap]
    by_cases hk : k < σ.hp.length
    · rw [List.getElem?_append_left hk]; rfl
    · show σ.hp[k]? = _
      rw [List.getElem?_eq_none (by omega), List.getElem?_eq_none (by simp; omega)]
theorem rel_turn {X : Ctx} {σ : St} {a : Act} (h : Rel X σ a) (htg : σ.tg = []) {i : Nat} {o o' : Obj} (hi : σ.hp[i]? = some (.obj o)) :
    ∃ X1, X1.w = X.w.putObj (X.φ i) o' ∧ X.le X1 ∧ Rel X1 { σ with hp := σ.hp.set i (.obj o') } a ∧ X1.φ = X.φ := by
  have hi' : X.H i = some (.obj o) := by rw [h.heap]; exact hi
  obtain ⟨h1, h2⟩ := obj_step (o' := o') h.hrel hi' (w1 := X.w) (.inl rfl)
  have hil : i < σ.hp.length := (List.getElem?_eq_some_iff.1 hi).1
  refine ⟨X.put i (.obj o') (setBlock X.w (X.φ i) o'), ?_, h1, ⟨h2, ?_, h.size, h.defers, fun t v hv => VR.mono h1 v _ (h.tm t v hv), fun t s w v hv => by rw [htg] at hv; cases hv⟩, rfl⟩
  · rfl
  · funext k
    show upd X.H i (some (.obj o')) k = (σ.hp.set i (.obj o'))[k]?
    by_cases e : k = i
    · subst e; rw [upd_same, List.getElem?_set_self hil]
    · rw [upd_other _ _ e, List.getElem?_set_ne (fun h => e h.symm), h.heap]; rfl
open Go Go.Eng Go.RowKit

section
variable {P : Program}
theorem loopGo_sim (hm : P.follows .mixedOrders = true) {kp : KP} {kq : KX} {kh : KH} (hkp : KPok P kp) (hkq : KXok P kq) (hkh : KHok P kh) {lc : LC} {n : Nat} {c : Code} (hlc : LCok P lc c) {e : XE} {σ' : St} {Q : Exit → Act → World → Prop} : ∀ (k : Nat) {σ : St} {X : Ctx} {a : Act},
    loopGo (fun σ => exec P kp kq kh lc n c σ) k σ = some (e, σ') → (∀ c ∈ σ'.cs, c = true) → Rel X σ a → (∀ X' a', X.le X' → Rel X' σ' a' → Q e.out a' X'.w) → LoopAt P c Q a X.w := by
  intro k
  induction k with
  | zero => intro σ X a h; cases h
  | succ k ihk =>
    intro σ X a h hc hr hq
    simp only [loopGo] at h
    refine LoopAt.round ?_
    split at h
    · rename_i σ1 h1
      obtain ⟨c2, e2⟩ := loopGo_suf (fun σ e σ' h => exec_suf c hlc h) k h
      refine exec_sim hm hkp hkq hkh c hlc h1 (fun q hq => hc q (by rw [e2]; exact List.mem_append_right _ hq)) hr fun X' a' hle hr' => ?_
      exact ihk h hc hr' fun X'' a'' hle' hr'' => hq X'' a'' (hle.trans hle') hr''
    · rename_i h1
      simp only [Option.some.injEq, Prod.mk.injEq] at h
      obtain ⟨rfl, rfl⟩ := h
      exact exec_sim hm hkp hkq hkh c hlc h1 hc hr fun X' a' hle hr' => hq X' a' hle hr'
    · rename_i h1
      simp only [Option.some.injEq, Prod.mk.injEq] at h
      obtain ⟨rfl, rfl⟩ := h
      exact exec_sim hm hkp hkq hkh c hlc h1 hc hr fun X' a' hle hr' => hq X' a' hle hr'
    · cases h
end
open Go Go.Eng Go.RowKit

section
variable {P : Program}
theorem yield_op {oy : Oper} {f x : Operand} {tys : Array TypeId} (ho : oy.op = .call { callee := .value f, args := #[x], argTypes := tys }) {a : Act} {l n : Nat} {W : World} {r : Loop} {K : Act → World → Prop} {Q : Exit → Act → World → Prop} {R : Ending → World → Prop}
    (hf : a.eval f = .func (.yield l) #[] #[]) (hrec : W.heap[l]? = some (.loop r)) (hps : r.params.size = 1)
    (hR : RoundIn Fence.wide (n - 1) P l r.fn ((r.params.zip #[a.eval x]).foldl (fun tmps (t, a) => tmps.setIfInBounds t a) r.tmps) r.assign r.body W R) (hK : ∀ e w', R e w' → ∃ v, e = .returned v ∧ K (a.put oy.dst v) w') :
    oy.wpIn Fence.wide n P a W K Q := by
  refine ⟨fun _ _ => trivial, ?_⟩
  have hrun : (execOp a.eval oy).run P W = .ok (.round l r.fn ((r.params.zip #[a.eval x]).foldl (fun tmps (t, a) => tmps.setIfInBounds t a) r.tmps) r.assign r.body) W := by
    unfold execOp
    simp only [ho]
    have hy := run_yield (P := P) (args := #[a.eval x]) hrec (by rw [hps]; rfl)
    simp only [resolve, Deferred.ofValue, hf, Sem.run_bind, Sem.run_pure, Result.andThen_ok, invoke]
    simpa using hy
  have e0 : Oper.semAt Fence.wide.round a.eval oy = execOp a.eval oy := Oper.semAt_none _ _
  rw [e0, hrun]
  refine ⟨fun e => Bool.noConfusion (show false = true from e), hR.mono fun e w' h => ?_⟩
  obtain ⟨v, rfl, hk⟩ := hK e w' h
  exact hk
end
open Go Go.Eng Go.RowKit

section
variable {P : Program}
/-- How a round leaves its loop's record. -/
def leftBy (e : XE) (r : Loop) : Loop := match e with
  | .normal => { r with state := .ready, pending := none }
  | _ => { r with state := .done, pending := some .ret }
def goesOn : XE → Bool
  | .normal => true
  | _ => false
theorem round_eng (hm : P.follows .mixedOrders = true) {kp : KP} {kq : KX} {kh : KH} (hkp : KPok P kp) (hkq : KXok P kq) (hkh : KHok P kh) {lc : LC} {n : Nat} {asg bod : Code} (hla : LCok P lc asg) (hlb : LCok P lc bod)
    (hda : noDefer asg = true) (hna : noLoop asg = true) (hdb : noDefer bod = true) (hnb : noLoop bod = true) {m fn : Nat} {X1 : Ctx} {σb σ1 σ3 : St} {ab : Act} {i : Nat} {r : Loop} {ex : XE} (hrel : Rel X1 σb ab)
    (h1 : exec P kp kq kh lc n asg σb = some (.normal, σ1)) (c1 : ∀ c ∈ σ1.cs, c = true) (t1 : σ1.tg = []) (i0 : (σb.hp[i]?).isSome = true) (i1 : σ1.hp[i]? = some (.obj (.loop r))) (hr : r.state = .ready)
    (hb0 : ∃ b, X1.H i = some b ∧ b.pt = true) (h2 : exec P kp kq kh lc n bod { σ1 with hp := σ1.hp.set i (.obj (.loop { r with state := .busy })) } = some (ex, σ3)) (c3 : ∀ c ∈ σ3.cs, c = true) (t3 : σ3.tg = []) (hex : ex = .normal ∨ ex = .ret) (i3 : σ3.hp[i]? = some (.obj (.loop { r with state := .busy }))) :
    RoundIn Fence.wide m P (X1.φ i) fn ab.tmps asg bod X1.w fun e W' => ∃ X', e = .returned (.bool (goesOn ex)) ∧ X'.w = W' ∧ X1.le X' ∧ HRel X' ∧ X'.H = fun k => (σ3.hp.set i (.obj (.loop (leftBy ex { r with state := .busy }))))[k]? := by
  have hab : ab = { tmps := ab.tmps, defers := [] } := by rw [← hrel.defers]
  refine roundIn_of_wpIn trivial ?_
  rw [← hab]
  obtain ⟨b0, hb1, hb2⟩ := hb0
  refine exec_simIn hm hkp hkq hkh asg hla hda hna h1 c1 hrel (fun X2 a2 hle2 hr2 => ?_) (fun ⟨_, _, h⟩ => h)
  have φ2 : X2.φ i = X1.φ i := (hle2.loc i b0 hb1 hb2).2
  have hw2 : X2.w.heap[X1.φ i]? = some (.loop r) := by
    rw [← φ2]
    exact hr2.hrel.blk i (.obj (.loop r)) (by rw [hr2.heap]; exact i1)
  obtain ⟨X3, w3, hle3, hr3, φ3⟩ := rel_turn (o' := .loop { r with state := .busy }) hr2 t1 i1
  refine ⟨_, run_beginRound hw2 hr, ?_⟩
  rw [← φ2, ← w3]
  refine exec_simIn hm hkp hkq hkh bod hlb hdb hnb h2 c3 hr3 (fun X4 a4 hle4 hr4 => ?_) (fun ⟨_, _, h⟩ => h)
  have hle14 := hle2.trans (hle3.trans hle4)
  have φ4 : X4.φ i = X1.φ i := (hle14.loc i b0 hb1 hb2).2
  have hw4 : X4.w.heap[X2.φ i]? = some (.loop { r with state := .busy }) := by
    rw [φ2, ← φ4]
    exact hr4.hrel.blk i (.obj (.loop { r with state := .busy })) (by rw [hr4.heap]; exact i3)
  obtain ⟨X5, w5, hle5, hr5, φ5⟩ := rel_turn (o' := .loop (leftBy ex { r with state := .busy })) hr4 t3 i3
  have hend : ∃ X', X'.w = X4.w.putObj (X2.φ i) (.loop (leftBy ex { r with state := .busy })) ∧ X1.le X' ∧ HRel X' ∧ X'.H = fun k => (σ3.hp.set i (.obj (.loop (leftBy ex { r with state := .busy }))))[k]? :=
    ⟨X5, by rw [w5, φ4, φ2], hle14.trans hle5, hr5.hrel, hr5.heap⟩
  obtain ⟨X', e1, e2, e3, e4⟩ := hend
  rcases hex with rfl | rfl
  · exact ⟨_, _, run_endRound none hw4, X', rfl, e1, e2, e3, e4⟩
  · exact ⟨_, _, run_endRound (some .ret) hw4, X', rfl, e1, e2, e3, e4⟩
end
end Go.Proofs.YthdgoefjkfafkaaGreatDoor
