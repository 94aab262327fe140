/- Could: what is run of it; no statement. -/
import Derived.Test.YthdgoefjkfafkaaGreatDoorLe8
set_option linter.unusedVariables false
set_option linter.unusedSimpArgs false
namespace Go.Proofs.YthdgoefjkfafkaaGreatDoor
open Go Go.Eng Go.RowKit

abbrev fCo : Nat := 8
noncomputable abbrev gCo : Func := Tryz.f8
noncomputable abbrev gIt : Func := Tryz.f16
theorem hCo : Tryz.prog.funcs[fCo]? = some gCo := Tryz.func8
theorem bCo : gCo.body = some cCo := by kernel_rfl
theorem lCo0 : loopsOf cR0 = [] := by kernel_rfl
theorem lCo1 : loopsOf cS1 = [] := by kernel_rfl
theorem lCo3 : loopsOf cR3 = [] := by kernel_rfl
theorem lCo4 : loopsOf cR4 = [] := by kernel_rfl
theorem lCoA : loopsOf cAsg = [] := by kernel_rfl
theorem lCoB : loopsOf cBod = [] := by kernel_rfl
theorem cR10_eq : cR10 = .region (regId cR10) (regOps cR10) false := by kernel_rfl
theorem cR10_ls : (regOps cR10).toList.all (fun o => isLS o.op) = true := by kernel_rfl
theorem dAsg : noDefer cAsg = true := by kernel_rfl
theorem nAsg : noLoop cAsg = true := by kernel_rfl
theorem dBod : noDefer cBod = true := by kernel_rfl
theorem nBod : noLoop cBod = true := by kernel_rfl

/-- Some pieces of code one behind the other, each ending normally, all its conditions true. -/
noncomputable def runs (f : Nat) : List Code → St → Option St
  | [], σ => some σ
  | c :: r, σ => match runC f c σ with
    | some (.normal, σ1) => if σ1.cs.all id then runs f r σ1 else none
    | _ => none
noncomputable def okS (σ : St) : Option St := if σ.cs.all id then some σ else none
theorem okS_ok {σ σ1 : St} (h : okS σ = some σ1) : σ = σ1 ∧ ∀ c ∈ σ1.cs, c = true := by
  unfold okS at h
  split at h
  · rename_i hc
    injection h with h; subst h
    exact ⟨rfl, by simpa using hc⟩
  · cases h
theorem runs_cons {f : Nat} {c : Code} {r : List Code} {σ σ' : St} (h : runs f (c :: r) σ = some σ') : ∃ σ1, runC f c σ = some (.normal, σ1) ∧ (∀ c ∈ σ1.cs, c = true) ∧ runs f r σ1 = some σ' := by
  simp only [runs] at h
  split at h
  · rename_i σ1 h1
    split at h
    · rename_i hc
      exact ⟨σ1, h1, by simpa using hc, h⟩
    · cases h
  · cases h
theorem runs_nil {f : Nat} {σ σ' : St} (h : runs f [] σ = some σ') : σ = σ' := by
  simpa [runs] using h
/-- A mark of deferred calls, and a loop's record, behind the memory. -/
def hpIn (hp : List AB) (r : Loop) : List AB := hp ++ [.obj (.deferred (some []))] ++ [.obj (.loop r)]
noncomputable def recOf (fn : Nat) (tmps : Array Value) (D : Nat) : Loop := { state := .ready, pending := none, fn, tmps, params := #[20], assign := cAsg, body := cBod, defers := D }
/-- Could up to its range. -/
noncomputable def cPre (args : List AV) : Option St := runs fCo [cR0, cS1, cR3, cR4] (st0 false gCo args [] [])
noncomputable def itIn (l bx : Nat) (hp2 : List AB) : St := st0 false gIt [.val (.func (.yield l) #[] #[]), .one (.ptr bx 0)] hp2 []
/-- The iterator up to its call of yield. -/
noncomputable def itA (σ : St) : Option St := (runs fIt [iR0, iR1, iR2, iC2, iR3, iR45, iR6] σ).bind fun s6 => (opsRun Tryz.prog ELn.kp ELn.kk (regOps iR7) [0, 1, 2, 3] s6).bind okS
/-- The round: its assignment, its body. -/
noncomputable def bdA (σ4 σ1 : St) (x : ByteArray) : Option St := runs fCo [cAsg] { σ4 with hp := σ1.hp, tm := (20, .one (.str x)) :: σ4.tm, cs := [], os := [] }
noncomputable def busy (r : Loop) : Loop := { r with state := .busy }
noncomputable def bdB (i : Nat) (r : Loop) (σa : St) : Option (XE × St) := (runC fCo cBod { σa with hp := σa.hp.set i (.obj (.loop (busy r))) }).bind fun p => (okS p.2).map fun s => (p.1, s)
/-- The iterator behind the round. -/
noncomputable def itB (i : Nat) (r : Loop) (σ1 σ3 : St) (ex : XE) : Option St := (opsRun Tryz.prog ELn.kp ELn.kk (regOps iR7) [5] { σ1 with hp := σ3.hp.set i (.obj (.loop (leftBy ex (busy r)))), tm := (33, .one (.bool (goesOn ex))) :: σ1.tm }).bind okS
noncomputable def itC (ex : XE) (σ2 : St) : Option St := match ex with
  | .normal => (runs fIt [iC7, iR8] σ2).bind fun s9 => match loopGo (fun σ => runC fIt iLb σ) 300 s9 with
    | some (.exit 0, s) => okS s
    | _ => none
  | .ret => match runC fIt iC7 σ2 with
    | some (.ret, s) => okS s
    | _ => none
  | .exit _ => none
theorem itC_ok {ex : XE} {σ2 sE : St} (h : itC ex σ2 = some sE) : After σ2 ex sE ∧ (ex = .normal ∨ ex = .ret) ∧ ∀ c ∈ sE.cs, c = true := by
  cases ex with
  | normal =>
    simp only [itC, Option.bind_eq_some_iff] at h
    obtain ⟨s9, h1, h2⟩ := h
    obtain ⟨s8, g1, g2, g3⟩ := runs_cons h1
    obtain ⟨s9', g4, g5, g6⟩ := runs_cons g3
    have := runs_nil g6
    subst this
    split at h2
    · rename_i s hl
      obtain ⟨rfl, hc⟩ := okS_ok h2
      exact ⟨.on g1 g4 hl g2 g5 hc, .inl rfl, hc⟩
    · cases h2
  | ret =>
    simp only [itC] at h
    split at h
    · rename_i s hl
      obtain ⟨rfl, hc⟩ := okS_ok h
      exact ⟨.out hl hc, .inr rfl, hc⟩
    · cases h
  | exit i => cases h
/-- Could behind its range. -/
noncomputable def gone (ex : XE) (r : Loop) : Loop := { leftBy ex (busy r) with state := .exhausted }
noncomputable def cEnd (i : Nat) (r : Loop) (ex : XE) (σ4 sE : St) : Option St := match ex with
  | .normal => (opsRun Tryz.prog ELn.kp ELn.kk (regOps cR10) (List.range (regOps cR10).size) { σ4 with hp := sE.hp.set i (.obj (.loop (gone ex r))), cs := [], os := [] }).bind okS
  | .ret => some { σ4 with hp := sE.hp.set i (.obj (.loop (gone ex r))), cs := [], os := [] }
  | .exit _ => none
open Go Go.Eng Go.RowKit

def chk {α : Type} (b : Bool) (o : Option α) : Option α := if b then o else none
theorem chk_ok {α : Type} {b : Bool} {o : Option α} {x : α} (h : chk b o = some x) : b = true ∧ o = some x := by
  unfold chk at h
  cases b
  · cases h
  · exact ⟨rfl, h⟩
def fnAt (f : Nat) : Option AV → Option Nat
  | some (.one (.fn g [(bx, 0)])) => if Nat.beq g f then some bx else none
  | _ => none
theorem fnAt_ok {f : Nat} {v : Option AV} {bx : Nat} (h : fnAt f v = some bx) : v = some (.one (.fn f [(bx, 0)])) := by
  unfold fnAt at h
  split at h
  · split at h
    · rename_i e
      rw [Nat.beq_eq] at e
      subst e
      injection h with h; subst h; rfl
    · cases h
  · cases h
def strAt : Option AV → Option ByteArray
  | some (.one (.str s)) => some s
  | _ => none
theorem strAt_ok {v : Option AV} {s : ByteArray} (h : strAt v = some s) : v = some (.one (.str s)) := by
  unfold strAt at h
  split at h
  · injection h with h; subst h; rfl
  · cases h
def nilB {α : Type} : List α → Bool
  | [] => true
  | _ => false
theorem nilB_ok {α : Type} {l : List α} (h : nilB l = true) : l = [] := by cases l <;> first | rfl | cases h
/-- What is to be seen of a run that cannot be told by a Bool. -/
structure Seen where
  y : Option AV
  b1 : Option AB
  b2 : Option AB
  b3 : Option AB
  b4 : Option AB
  b5 : Option AB
  ex : XE
  r : AV
noncomputable def couldGo (args : List AV) (l fn : Nat) (tmps : Array Value) (D : Nat) : Option Seen :=
  (cPre args).bind fun σ4 => (fnAt fIt (lookT σ4.tm 19)).bind fun bx => chk (nilB σ4.tg && Nat.blt 20 σ4.nt)
  ((itA (itIn l bx (hpIn σ4.hp (recOf fn tmps D)))).bind fun σ1 => (strAt (lookT σ1.tm 32)).bind fun x => chk (nilB σ1.tg && Nat.blt 33 σ1.nt)
  ((bdA σ4 σ1 x).bind fun σa => chk (nilB σa.tg)
  ((bdB (σ4.hp.length + 1) (recOf fn tmps D) σa).bind fun p => chk (nilB p.2.tg)
  ((itB (σ4.hp.length + 1) (recOf fn tmps D) σ1 p.2 p.1).bind fun σ2 => (itC p.1 σ2).bind fun sE => (resA Tryz.prog sE gIt.results.toList).bind fun _ =>
  (cEnd (σ4.hp.length + 1) (recOf fn tmps D) p.1 σ4 sE).bind fun σd => chk (nilB σd.tg)
  ((resA Tryz.prog { σd with hp := σd.hp.set σ4.hp.length (.obj (.deferred none)) } gCo.results.toList).bind fun rv => (wkA rv).map fun r =>
  ⟨lookT σ1.tm 29, σ1.hp[σ4.hp.length + 1]?, σa.hp[σ4.hp.length + 1]?, p.2.hp[σ4.hp.length + 1]?, sE.hp[σ4.hp.length + 1]?, σd.hp[σ4.hp.length]?, p.1, r⟩)))))
theorem rel_mem {X X1 : Ctx} {σ : St} {a : Act} (h : Rel X σ a) (htg : σ.tg = []) (hle : X.le X1) (hX1 : HRel X1) {hp1 : List AB} (hH : X1.H = fun k => hp1[k]?) :
    Rel X1 { σ with hp := hp1, cs := [], os := [] } a :=
  ⟨hX1, hH, h.size, h.defers, fun s w hw => VR.mono hle w _ (h.tm s w hw), fun s p q w hw => by simp only [htg] at hw; cases hw⟩
abbrev cR : Ctx → AV → Ending → World → Prop := fun X r e w' => ∃ val X' rv, e = .returned val ∧ X'.w = w' ∧ X.le X' ∧ HRel X' ∧ VR X' rv val ∧ wkA rv = some r
/-- The end: the mark is come to. -/
theorem could_end {n : Nat} {X X8 : Ctx} {σd : St} {a : Act} {b0 : Nat} {rv r : AV} {D : Nat} (h08 : X.le X8) (hr : Rel X8 σd a) (htg : σd.tg = []) (hD : X8.φ b0 = D) (hb : σd.hp[b0]? = some (.obj (.deferred (some []))))
    (hres : resA Tryz.prog { σd with hp := σd.hp.set b0 (.obj (.deferred none)) } gCo.results.toList = some rv) (hw : wkA rv = some r) :
    bodyPostM Fence.wide n Tryz.prog gCo (cR X r) .ret { a with defers := [{ target := .collected D, args := #[] }] } X8.w := by
  obtain ⟨X9, w9, l9, r9, _⟩ := rel_turn (o' := .deferred none) hr htg hb
  have hh : X8.w.heap[D]? = some (.deferred (some [])) := by
    rw [← hD]
    exact hr.hrel.blk b0 (.obj (.deferred (some []))) (by rw [hr.heap]; exact hb)
  obtain ⟨val, v1, v2⟩ := resA_ok r9 hres
  show LeavesInM Fence.wide n Tryz.prog gCo a.tmps (cR X r) [{ target := .collected D, args := #[] }] .returning X8.w
  refine ⟨by simp, .inl ⟨D, X9.w, rfl, ?_, val, v1, val, X9, rv, rfl, rfl, h08.trans l9, r9.hrel, v2, hw⟩⟩
  rw [w9, hD]
  exact run_takeDeferred hh
theorem could_heap {args : List AV} {ex : XE} {r : AV} (h : ∀ l fn tmps D, couldGo args l fn tmps D = some ⟨some (.val (.func (.yield l) #[] #[])), some (.obj (.loop (recOf fn tmps D))), some (.obj (.loop (recOf fn tmps D))), some (.obj (.loop (busy (recOf fn tmps D)))), some (.obj (.loop (leftBy ex (busy (recOf fn tmps D))))), some (.obj (.deferred (some []))), ex, r⟩)
    {X : Ctx} {vs : List Value} (hX : HRel X) (hH : X.H = fun i => ([] : List AB)[i]?) (hv : PW (VR X) args vs) : Calls Tryz.prog fCo vs.toArray X.w (cR X r) := by
  have sub : ∀ {c : Code}, loopsOf c = [] → ∀ b ∈ loopsOf c, b ∈ loopsOf cCo := fun h b hb => by rw [h] at hb; cases hb
  have lc : ∀ {c : Code}, loopsOf c = [] → LCok Tryz.prog (ELn.lcs fCo) c := fun h b hb => by rw [h] at hb; cases hb
  have h0 := h 0 0 #[] 0
  simp only [couldGo, Option.bind_eq_some_iff] at h0
  obtain ⟨σ4, p4, bx, pbx, q4⟩ := h0
  obtain ⟨q4, _⟩ := chk_ok q4
  simp only [Bool.and_eq_true, Nat.blt_eq] at q4
  have tg4 := nilB_ok q4.1
  have nt4 := q4.2
  have t19 := fnAt_ok pbx
  refine callsIn_wide.1 (callsIn_of_wp_marks (n := 0) hCo bCo trivial ((wpIn_wide (n := 0)).2 ?_))
  have r0 := Rel.st0 (fn := gCo) hX hH hv [] false
  have hcp := p4
  unfold cPre at p4
  obtain ⟨s0, e0, k0, p4⟩ := runs_cons p4
  obtain ⟨s1, e1, k1, p4⟩ := runs_cons p4
  obtain ⟨s3, e3, k3, p4⟩ := runs_cons p4
  obtain ⟨s4, e4, k4, p4⟩ := runs_cons p4
  have := runs_nil p4
  subst this
  rw [cCo_eq]
  refine wp_seq (piece hCo bCo (sub lCo0) e0 k0 r0 fun X0 a0 l0 r0 => ?_)
  refine wp_seq (piece hCo bCo (sub lCo1) e1 k1 r0 fun X1 a1 l1 r1 => ?_)
  refine wp_seq (piece hCo bCo (sub lCo3) e3 k3 r1 fun X3 a3 l3 r3 => ?_)
  refine wp_seq (wp_seq (piece hCo bCo (sub lCo4) e4 k4 r3 fun X4 a4 l4 r4 => wp_block ?_))
  have l04 := l0.trans (l1.trans (l3.trans l4))
  clear l0 l1 l3 l4 r0 r1 r3 e0 e1 e3 e4
  have hno : ∀ {K : Act → World → Prop}, ¬ LetsOut (Exit.inBlock 0 (Exit.then K (bodyPostM Fence.wide 0 Tryz.prog gCo (cR X r)))) := fun ⟨_, _, _, _, _, h, _⟩ => by cases h
  -- the captured box
  obtain ⟨c19, c1_, c2, c3⟩ : VRc X4 (.fn fIt [(bx, 0)]) (a4.eval (.tmp 19)) := r4.tm 19 _ t19
  obtain ⟨cb, cv⟩ := c3 0 (bx, 0) rfl
  have c19e : c19 = #[.pointer (some ⟨X4.φ bx, 0, none⟩)] := by
    apply Array.ext
    · simpa using c2
    · intro i h1 h2
      have : i = 0 := by simp at h2; omega
      subst this
      have := Array.getElem?_eq_some_iff.1 cv
      obtain ⟨_, hh⟩ := this
      simpa using hh
  subst c19e
  refine (wpIn_wide (n := 0)).1 (wpIn_rangeFunc fun fn _ => ?_)
  -- the two blocks
  obtain ⟨X5, w5, l5, r5, φ5⟩ := rel_push r4 tg4 (.deferred (some []))
  obtain ⟨X6, w6, l6, r6, φ6⟩ := rel_push r5 tg4 (.loop (recOf fn a4.tmps X4.w.heap.size))
  have hlen : (s4.hp ++ [AB.obj (.deferred (some []))]).length = s4.hp.length + 1 := by simp
  simp only [hlen] at φ6
  have sz5 : X5.w.heap.size = X4.w.heap.size + 1 := by rw [w5]; exact World.size_alloc ..
  rw [sz5] at φ6
  have hq := h (X4.w.heap.size + 1) fn a4.tmps X4.w.heap.size
  generalize hrr : recOf fn a4.tmps X4.w.heap.size = rr at hq w6 r6
  unfold couldGo at hq
  simp only [hrr] at hq
  simp only [Option.bind_eq_some_iff, Option.map_eq_some_iff] at hq
  obtain ⟨σ4', p4', bx', pbx', hq⟩ := hq
  rw [hcp] at p4'
  injection p4' with e4
  subst e4
  obtain ⟨_, hq⟩ := chk_ok hq
  simp only [Option.bind_eq_some_iff] at hq
  obtain ⟨σ1, pA, x, px, hq⟩ := hq
  obtain ⟨g1, hq⟩ := chk_ok hq
  simp only [Bool.and_eq_true, Nat.blt_eq] at g1
  have tg1 := nilB_ok g1.1
  have t32 := strAt_ok px
  simp only [Option.bind_eq_some_iff] at hq
  obtain ⟨σa, pBa, hq⟩ := hq
  obtain ⟨ga, hq⟩ := chk_ok hq
  have tga := nilB_ok ga
  simp only [Option.bind_eq_some_iff] at hq
  obtain ⟨⟨ex', σ3⟩, pBb, hq⟩ := hq
  obtain ⟨g3, hq⟩ := chk_ok hq
  have tg3 := nilB_ok g3
  simp only [Option.bind_eq_some_iff] at hq
  obtain ⟨σ2, pIb, sE, pIc, rI, pI, σd, pD, hq⟩ := hq
  obtain ⟨gd, hq⟩ := chk_ok hq
  have tgd := nilB_ok gd
  simp only [Option.bind_eq_some_iff, Option.map_eq_some_iff] at hq
  obtain ⟨rv, pR, r', pW, hq⟩ := hq
  simp only [Seen.mk.injEq] at hq
  obtain ⟨t29, b1, b2, b3, b4, b5, rfl, rfl⟩ := hq
  have : bx = bx' := by
    have h1 := fnAt_ok pbx'
    rw [t19] at h1
    simpa using h1
  subst this
  -- the iterator's pieces
  unfold itA at pA
  simp only [Option.bind_eq_some_iff] at pA
  obtain ⟨s6, pA, σ1', o1, o2⟩ := pA
  obtain ⟨rfl, c1⟩ := okS_ok o2
  obtain ⟨z0, e0, d0, pA⟩ := runs_cons pA
  obtain ⟨z1, e1, d1, pA⟩ := runs_cons pA
  obtain ⟨z2, e2, d2, pA⟩ := runs_cons pA
  obtain ⟨z3, e3, d3, pA⟩ := runs_cons pA
  obtain ⟨z4, e4, d4, pA⟩ := runs_cons pA
  obtain ⟨z5, e5, d5, pA⟩ := runs_cons pA
  obtain ⟨z6, e6, d6, pA⟩ := runs_cons pA
  have := runs_nil pA
  subst this
  unfold bdA at pBa
  obtain ⟨z7, e7, d7, pBa⟩ := runs_cons pBa
  have := runs_nil pBa
  subst this
  unfold bdB at pBb
  simp only [Option.bind_eq_some_iff, Option.map_eq_some_iff] at pBb
  obtain ⟨⟨ex2, σ3'⟩, e8, σ3'', o3, o4⟩ := pBb
  simp only [Prod.mk.injEq] at o4
  obtain ⟨rfl, rfl⟩ := o4
  obtain ⟨o3, d8⟩ := okS_ok o3
  simp only at o3
  subst o3
  unfold itB at pIb
  simp only [Option.bind_eq_some_iff] at pIb
  obtain ⟨σ2', e9, o5⟩ := pIb
  obtain ⟨rfl, d9⟩ := okS_ok o5
  obtain ⟨hA, hex, dE⟩ := itC_ok pIc
  have rst : rr.state = .ready := by rw [← hrr]; rfl
  have rps : rr.params = #[20] := by rw [← hrr]; rfl
  have rtm : rr.tmps = a4.tmps := by rw [← hrr]; rfl
  have ras : rr.assign = cAsg := by rw [← hrr]; rfl
  have rbd : rr.body = cBod := by rw [← hrr]; rfl
  have rfn : rr.fn = fn := by rw [← hrr]; rfl
  have hH6 : X6.H = fun k => (hpIn s4.hp rr)[k]? := r6.heap
  have lenIn : (hpIn s4.hp rr).length = s4.hp.length + 2 := by simp [hpIn]
  have H6b : X6.H (s4.hp.length + 1) = some (.obj (.loop rr)) := by
    rw [hH6]
    simp [hpIn]
  have H6d : X6.H s4.hp.length = some (.obj (.deferred (some []))) := by
    rw [hH6]
    simp [hpIn]
  have H5d : X5.H s4.hp.length = some (.obj (.deferred (some []))) := by
    rw [r5.heap]
    show (s4.hp ++ [AB.obj (.deferred (some []))])[s4.hp.length]? = _
    simp
  have φ6d : X6.φ s4.hp.length = X4.w.heap.size := by rw [(l6.loc _ _ H5d rfl).2, φ5]
  have φ6x : X6.φ bx = X4.φ bx := by
    obtain ⟨b, hb1, hb2⟩ : ∃ b, X4.H bx = some b ∧ b.pt = true := cb
    exact ((l5.trans l6).loc bx b hb1 hb2).2
  have φ6b : ∃ b, X6.H bx = some b ∧ b.pt = true := by
    obtain ⟨b, hb1, hb2⟩ : ∃ b, X4.H bx = some b ∧ b.pt = true := cb
    exact ((l5.trans l6).loc bx b hb1 hb2).1
  obtain ⟨yv, hyv⟩ : ∃ yv : Value, yv = .func (.yield (X4.w.heap.size + 1)) #[] #[] := ⟨_, rfl⟩
  have e19 : a4.eval (.tmp 19) = .func (.func fIt) #[] #[.pointer (some ⟨X6.φ bx, 0, none⟩)] := by rw [φ6x]; exact c1_
  have hvIt : PW (VR X6) [.val (.func (.yield (X4.w.heap.size + 1)) #[] #[]), .one (.ptr bx 0)] [.func (.yield (X4.w.heap.size + 1)) #[] #[], .pointer (some ⟨X6.φ bx, 0, none⟩)] :=
    PW.cons rfl (PW.cons ⟨φ6b, rfl⟩ PW.nil)
  obtain ⟨aI, haI⟩ : ∃ aI : Act, aI = { tmps := #[.func (.yield (X4.w.heap.size + 1)) #[] #[], .pointer (some ⟨X6.φ bx, 0, none⟩)] ++ Array.replicate (gIt.ntmps - (#[.func (.yield (X4.w.heap.size + 1)) #[] #[], .pointer (some ⟨X6.φ bx, 0, none⟩)] : Array Value).size) undef, defers := [] } := ⟨_, rfl⟩
  have rIt : Rel X6 (itIn (X4.w.heap.size + 1) bx (hpIn s4.hp rr)) aI := by
    rw [haI]
    exact Rel.st0 (fn := gIt) r6.hrel hH6 hvIt [] false
  have hent : (Instr.enterLoop fn a4.tmps #[20] cAsg cBod none).run Tryz.prog X4.w = .ok (X4.w.heap.size + 1, [{ target := .collected X4.w.heap.size, args := #[] }]) X6.w := by
    rw [run_enterLoop_outer, w6, w5, ← hrr]
    rfl
  refine ⟨X4.w.heap.size + 1, [{ target := .collected X4.w.heap.size, args := #[] }], X6.w, { target := .fn (.func fIt) #[.pointer (some ⟨X6.φ bx, 0, none⟩)], args := #[.func (.yield (X4.w.heap.size + 1)) #[] #[]] }, X6.w, fIt,
    #[.func (.yield (X4.w.heap.size + 1)) #[] #[], .pointer (some ⟨X6.φ bx, 0, none⟩)], X6.w, hent, ?_, fun _ _ => trivial, ?_, fun e => Bool.noConfusion (show false = true from e), ?_⟩
  · simp only [resolve, Deferred.ofValue, e19, Sem.run_bind, Sem.run_pure, Result.andThen_ok]
    rw [show (#[] ++ Array.map a4.eval #[Operand.const (Value.func (Fn.yield (X4.w.heap.size + 1)) #[] #[])] : Array Value) = #[Value.func (Fn.yield (X4.w.heap.size + 1)) #[] #[]] from by simp; rfl]
  · have g1 : Tryz.prog.funcs[fIt]? = some gIt := hIt
    have g2 : (gIt.name == "runtime.NumGoroutine") = false := by kernel_rfl
    have g3 : gIt.body.isNone = false := by rw [bIt]; rfl
    simp only [invoke, callFunc, Sem.run_bind, Sem.run_pure, Result.andThen_ok, run_program, g1, g2, g3, Bool.false_eq_true, if_false]
    rfl
  refine callsIn_wide.2 (calls_of_wp hIt bIt ?_)
  rw [← haI]
  have hbl : ∀ {Z : Ctx}, X6.le Z → Z.φ (s4.hp.length + 1) = X4.w.heap.size + 1 := fun hle => by rw [(hle.loc _ _ H6b rfl).2, φ6]
  have hwl : ∀ {Z : Ctx} {hp : List AB} {o : Obj}, X6.le Z → HRel Z → (Z.H = fun k => hp[k]?) → hp[s4.hp.length + 1]? = some (.obj o) → Z.w.heap[X4.w.heap.size + 1]? = some o := fun hle hZ hHZ hi => by
    rw [← hbl hle]
    exact hZ.blk _ (.obj _) (by rw [hHZ]; exact hi)
  have l46 := l5.trans l6
  refine it_eng (n := 0) rIt e0 e1 e2 e3 e4 e5 e6 d0 d1 d2 d3 d4 d5 d6 o1 c1 t29 t32 tg1 (by rw [rps]; rfl) g1.2 (fun Z hle hZ hHZ => ⟨hwl hle hZ hHZ b1, ?_⟩) e9 d9 hA ?_ fun Z aZ hle hrZ => ?_
  · have hr1 := rel_round (t := 20) (v := .one (.str x)) (x := .string x) r4 tg4 (l46.trans hle) hZ hHZ nt4 rfl
    have hR := round_eng ELn.hm ELn.hkp ELn.kx_ok ELn.kk_ok (m := 0 - 1) (fn := fn) (lc lCoA) (lc lCoB) dAsg nAsg dBod nBod hr1 e7 d7 tga (by rw [b1]; rfl) b2 rst ⟨_, by rw [hHZ]; exact b1, rfl⟩ e8 d8 tg3 hex b3
    rw [rps, rtm, ras, rbd, rfn]
    rw [hbl hle] at hR
    rw [show (Array.foldl (fun tmps x => match x with | (t, a) => tmps.setIfInBounds t a) a4.tmps (#[20].zip #[Value.string x]) : Array Value) = a4.tmps.setIfInBounds 20 (.string x) from by simp]
    exact hR
  · rintro ⟨_, _, _, _, _, _, _, h, _⟩
    cases h
  · have hHZ : Z.H = fun k => sE.hp[k]? := hrZ.heap
    have hD := hrZ.defers
    obtain ⟨vI, vI1, _⟩ := resA_ok hrZ pI
    have hwZ := hwl hle hrZ.hrel hHZ b4
    have hst : (leftBy ex2 (busy rr)).state ≠ .busy := by rcases hex with rfl | rfl <;> (intro e; cases e)
    have hend := run_endLoop (P := Tryz.prog) hwZ hst
    have hm4 := rel_mem r4 tg4 (l46.trans hle) hrZ.hrel hHZ
    obtain ⟨X7, w7, l7, r7, _⟩ := rel_turn (o' := .loop (gone ex2 rr)) hm4 tg4 b4
    rw [hbl hle] at w7
    have hdf : a4.defers = [] := r4.defers
    have hφ : ∀ {Y : Ctx}, X7.le Y → Y.φ s4.hp.length = X4.w.heap.size := fun hl => by rw [((hle.trans (l7.trans hl)).loc _ _ H6d rfl).2, φ6d]
    have hX : ∀ {Y : Ctx}, X7.le Y → X.le Y := fun hl => l04.trans (l46.trans (hle.trans (l7.trans hl)))
    rcases hex with rfl | rfl
    · unfold cEnd at pD
      simp only [Option.bind_eq_some_iff] at pD
      obtain ⟨σd', pD, o6⟩ := pD
      obtain ⟨rfl, dd⟩ := okS_ok o6
      refine ⟨hD, vI, vI1, _, _, hend, ?_⟩
      show (Code.seq cR10 .ret).wp Tryz.prog (bodyPostM Fence.wide 0 Tryz.prog gCo (cR X r')) { tmps := a4.tmps, defers := [{ target := .collected X4.w.heap.size, args := #[] }] ++ a4.defers } _
      rw [hdf, List.append_nil]
      refine wp_seq ?_
      rw [cR10_eq]
      refine wp_region ?_
      have hls : ∀ (i : Nat) o, (regOps cR10)[i]? = some o → isLS o.op = true := fun i o ho => List.all_eq_true.1 cR10_ls o (List.mem_of_getElem? (i := i) (by simpa using ho))
      have key : ∀ (e : Exit) (a : Act) (w : World), (∃ X8, e = .normal ∧ X7.le X8 ∧ Rel X8 σd' a ∧ w = X8.w) → Exit.then (fun a w => Code.ret.wp Tryz.prog (bodyPostM Fence.wide 0 Tryz.prog gCo (cR X r')) a w) (bodyPostM Fence.wide 0 Tryz.prog gCo (cR X r')) e { a with defers := [{ target := .collected X4.w.heap.size, args := #[] }] } w := by
        rintro e a w ⟨X8, rfl, hl, hr, rfl⟩
        exact wp_ret (could_end (hX hl) hr tgd (hφ hl) b5 pR pW)
      have := ops_marks (P := Tryz.prog) (ops := regOps cR10) (ds := [{ target := .collected X4.w.heap.size, args := #[] }]) (Q := fun e a w => ∃ X8, e = .normal ∧ X7.le X8 ∧ Rel X8 σd' a ∧ w = X8.w)
        (Q' := Exit.then (fun a w => Code.ret.wp Tryz.prog (bodyPostM Fence.wide 0 Tryz.prog gCo (cR X r')) a w) (bodyPostM Fence.wide 0 Tryz.prog gCo (cR X r'))) hls key _ _ _ (opsRun_sim ELn.hkp ELn.kk_ok _ r7 pD dd fun X8 a8 hl hr => ⟨X8, rfl, hl, hr, rfl⟩)
      rw [w7] at this
      exact this
    · unfold cEnd at pD
      injection pD with pD
      subst pD
      refine ⟨hD, vI, vI1, _, _, hend, ?_⟩
      refine wpIn_ret ?_
      show bodyPostM Fence.wide 0 Tryz.prog gCo (cR X r') .ret { tmps := a4.tmps, defers := [{ target := .collected X4.w.heap.size, args := #[] }] ++ a4.defers } _
      rw [hdf, List.append_nil]
      have := could_end (n := 0) (hX (.refl X7)) r7 tgd (hφ (.refl X7)) b5 pR pW
      rw [w7] at this
      exact this
/-- Could's contract. -/
theorem could_pure {args args' : List AV} {ex : XE} {r : AV} (ha : wkAs args = some args') (h : ∀ l fn tmps D, couldGo args' l fn tmps D = some ⟨some (.val (.func (.yield l) #[] #[])), some (.obj (.loop (recOf fn tmps D))), some (.obj (.loop (recOf fn tmps D))), some (.obj (.loop (busy (recOf fn tmps D)))), some (.obj (.loop (leftBy ex (busy (recOf fn tmps D))))), some (.obj (.deferred (some []))), ex, r⟩) : PureCall Tryz.prog fCo args r := by
  refine ⟨⟨gCo, hCo, by kernel_rfl, by rw [bCo]; rfl⟩, fun X vs hX hv => ?_⟩
  have hv' : PW (VR (fresh X)) args' vs := wkAs_rel (fun a y h => fresh_IC h) ha hv
  refine (could_heap h (HRel.fresh X) (by funext i; simp [fresh]) hv').mono fun e w' hh => ?_
  obtain ⟨val, Y', rv, rfl, rfl, hle, hY, hval, hw⟩ := hh
  have hbel := below_of hle hY
  exact ⟨val, X.withW Y'.w, rfl, rfl, withW_le hX hbel hle.drawn, hX.withW hbel hle.drawn, rfl, wkA_rel (fun a y h => back_IC hX hle h) hw hval⟩
end Go.Proofs.YthdgoefjkfafkaaGreatDoor
