/- Could where there is no row; no statement. -/
import Derived.Test.YthdgoefjkfafkaaGreatDoorLe10
set_option linter.unusedVariables false
set_option linter.unusedSimpArgs false
namespace Go.Proofs.YthdgoefjkfafkaaGreatDoor
open Go Go.Eng Go.RowKit

noncomputable def over (r : Loop) : Loop := { r with state := .exhausted }
def endsB : XE → Bool
  | .exit _ => false
  | _ => true
noncomputable def nilGo (args : List AV) (l fn : Nat) (tmps : Array Value) (D : Nat) : Option (Option AB × Option AB × AV) :=
  (cPre args).bind fun σ4 => (fnAt fIt (lookT σ4.tm 19)).bind fun bx => chk (nilB σ4.tg)
  ((runC fIt cIt (itIn l bx (hpIn σ4.hp (recOf fn tmps D)))).bind fun p => (okS p.2).bind fun sE => chk (endsB p.1)
  ((resA Tryz.prog sE gIt.results.toList).bind fun _ =>
  (opsRun Tryz.prog ELn.kp ELn.kk (regOps cR10) (List.range (regOps cR10).size) { σ4 with hp := sE.hp.set (σ4.hp.length + 1) (.obj (.loop (over (recOf fn tmps D)))), cs := [], os := [] }).bind fun σd0 => (okS σd0).bind fun σd => chk (nilB σd.tg)
  ((resA Tryz.prog { σd with hp := σd.hp.set σ4.hp.length (.obj (.deferred none)) } gCo.results.toList).bind fun rv => (wkA rv).map fun r =>
  (sE.hp[σ4.hp.length + 1]?, σd.hp[σ4.hp.length]?, r))))
theorem nil_heap {args : List AV} {r : AV} (h : ∀ l fn tmps D, nilGo args l fn tmps D = some (some (.obj (.loop (recOf fn tmps D))), some (.obj (.deferred (some []))), r))
    {X : Ctx} {vs : List Value} (hX : HRel X) (hH : X.H = fun i => ([] : List AB)[i]?) (hv : PW (VR X) args vs) : Calls Tryz.prog fCo vs.toArray X.w (cR X r) := by
  have sub : ∀ {c : Code}, loopsOf c = [] → ∀ b ∈ loopsOf c, b ∈ loopsOf cCo := fun h b hb => by rw [h] at hb; cases hb
  have lc : ∀ {c : Code}, loopsOf c = [] → LCok Tryz.prog (ELn.lcs fCo) c := fun h b hb => by rw [h] at hb; cases hb
  have h0 := h 0 0 #[] 0
  simp only [nilGo, Option.bind_eq_some_iff] at h0
  obtain ⟨σ4, p4, bx, pbx, q4⟩ := h0
  obtain ⟨q4, _⟩ := chk_ok q4
  have tg4 := nilB_ok q4
  have t19 := fnAt_ok pbx
  refine callsIn_wide.1 (callsIn_of_wp_marks (n := 0) hCo bCo trivial ((wpIn_wide (n := 0)).2 ?_))
  have r0 := Rel.st0 (fn := gCo) hX hH hv [] false
  have hcp := p4
  unfold cPre at p4
  obtain ⟨s0, e0, k0, p4⟩ := runs_cons p4
  obtain ⟨s1, e1, k1, p4⟩ := runs_cons p4
  obtain ⟨s3, e3, k3, p4⟩ := runs_cons p4
  obtain ⟨s4, e4, k4, p4⟩ := runs_cons p4
  have := runs_nil p4
  subst this
  rw [cCo_eq]
  refine wp_seq (piece hCo bCo (sub lCo0) e0 k0 r0 fun X0 a0 l0 r0 => ?_)
  refine wp_seq (piece hCo bCo (sub lCo1) e1 k1 r0 fun X1 a1 l1 r1 => ?_)
  refine wp_seq (piece hCo bCo (sub lCo3) e3 k3 r1 fun X3 a3 l3 r3 => ?_)
  refine wp_seq (wp_seq (piece hCo bCo (sub lCo4) e4 k4 r3 fun X4 a4 l4 r4 => wp_block ?_))
  have l04 := l0.trans (l1.trans (l3.trans l4))
  clear l0 l1 l3 l4 r0 r1 r3 e0 e1 e3 e4
  have hno : ∀ {K : Act → World → Prop}, ¬ LetsOut (Exit.inBlock 0 (Exit.then K (bodyPostM Fence.wide 0 Tryz.prog gCo (cR X r)))) := fun ⟨_, _, _, _, _, h, _⟩ => by cases h
  -- the captured box
  obtain ⟨c19, c1_, c2, c3⟩ : VRc X4 (.fn fIt [(bx, 0)]) (a4.eval (.tmp 19)) := r4.tm 19 _ t19
  obtain ⟨cb, cv⟩ := c3 0 (bx, 0) rfl
  have c19e : c19 = #[.pointer (some ⟨X4.φ bx, 0, none⟩)] := by
    apply Array.ext
    · simpa using c2
    · intro i h1 h2
      have : i = 0 := by simp at h2; omega
      subst this
      have := Array.getElem?_eq_some_iff.1 cv
      obtain ⟨_, hh⟩ := this
      simpa using hh
  subst c19e
  refine (wpIn_wide (n := 0)).1 (wpIn_rangeFunc fun fn _ => ?_)
  -- the two blocks
  obtain ⟨X5, w5, l5, r5, φ5⟩ := rel_push r4 tg4 (.deferred (some []))
  obtain ⟨X6, w6, l6, r6, φ6⟩ := rel_push r5 tg4 (.loop (recOf fn a4.tmps X4.w.heap.size))
  have hlen : (s4.hp ++ [AB.obj (.deferred (some []))]).length = s4.hp.length + 1 := by simp
  simp only [hlen] at φ6
  have sz5 : X5.w.heap.size = X4.w.heap.size + 1 := by rw [w5]; exact World.size_alloc ..
  rw [sz5] at φ6
  have hq := h (X4.w.heap.size + 1) fn a4.tmps X4.w.heap.size
  generalize hrr : recOf fn a4.tmps X4.w.heap.size = rr at hq w6 r6
  unfold nilGo at hq
  simp only [hrr] at hq
  simp only [Option.bind_eq_some_iff, Option.map_eq_some_iff] at hq
  obtain ⟨σ4', p4', bx', pbx', hq⟩ := hq
  rw [hcp] at p4'
  injection p4' with e4
  subst e4
  obtain ⟨_, hq⟩ := chk_ok hq
  simp only [Option.bind_eq_some_iff] at hq
  obtain ⟨⟨ex2, sF⟩, pA, sG, oE, hq⟩ := hq
  obtain ⟨oE, dE⟩ := okS_ok oE
  simp only at oE
  subst oE
  obtain ⟨hex, hq⟩ := chk_ok hq
  simp only [Option.bind_eq_some_iff] at hq
  obtain ⟨rI, pI, σd', pD, σd, o6, hq⟩ := hq
  obtain ⟨rfl, dd⟩ := okS_ok o6
  obtain ⟨gd, hq⟩ := chk_ok hq
  have tgd := nilB_ok gd
  simp only [Option.bind_eq_some_iff, Option.map_eq_some_iff] at hq
  obtain ⟨rv, pR, r', pW, hq⟩ := hq
  simp only [Prod.mk.injEq] at hq
  obtain ⟨b4, b5, rfl⟩ := hq
  have : bx = bx' := by
    have h1 := fnAt_ok pbx'
    rw [t19] at h1
    simpa using h1
  subst this
  have rst : rr.state = .ready := by rw [← hrr]; rfl
  have rps : rr.params = #[20] := by rw [← hrr]; rfl
  have rtm : rr.tmps = a4.tmps := by rw [← hrr]; rfl
  have ras : rr.assign = cAsg := by rw [← hrr]; rfl
  have rbd : rr.body = cBod := by rw [← hrr]; rfl
  have rfn : rr.fn = fn := by rw [← hrr]; rfl
  have hH6 : X6.H = fun k => (hpIn s4.hp rr)[k]? := r6.heap
  have lenIn : (hpIn s4.hp rr).length = s4.hp.length + 2 := by simp [hpIn]
  have H6b : X6.H (s4.hp.length + 1) = some (.obj (.loop rr)) := by
    rw [hH6]
    simp [hpIn]
  have H6d : X6.H s4.hp.length = some (.obj (.deferred (some []))) := by
    rw [hH6]
    simp [hpIn]
  have H5d : X5.H s4.hp.length = some (.obj (.deferred (some []))) := by
    rw [r5.heap]
    show (s4.hp ++ [AB.obj (.deferred (some []))])[s4.hp.length]? = _
    simp
  have φ6d : X6.φ s4.hp.length = X4.w.heap.size := by rw [(l6.loc _ _ H5d rfl).2, φ5]
  have φ6x : X6.φ bx = X4.φ bx := by
    obtain ⟨b, hb1, hb2⟩ : ∃ b, X4.H bx = some b ∧ b.pt = true := cb
    exact ((l5.trans l6).loc bx b hb1 hb2).2
  have φ6b : ∃ b, X6.H bx = some b ∧ b.pt = true := by
    obtain ⟨b, hb1, hb2⟩ : ∃ b, X4.H bx = some b ∧ b.pt = true := cb
    exact ((l5.trans l6).loc bx b hb1 hb2).1
  obtain ⟨yv, hyv⟩ : ∃ yv : Value, yv = .func (.yield (X4.w.heap.size + 1)) #[] #[] := ⟨_, rfl⟩
  have e19 : a4.eval (.tmp 19) = .func (.func fIt) #[] #[.pointer (some ⟨X6.φ bx, 0, none⟩)] := by rw [φ6x]; exact c1_
  have hvIt : PW (VR X6) [.val (.func (.yield (X4.w.heap.size + 1)) #[] #[]), .one (.ptr bx 0)] [.func (.yield (X4.w.heap.size + 1)) #[] #[], .pointer (some ⟨X6.φ bx, 0, none⟩)] :=
    PW.cons rfl (PW.cons ⟨φ6b, rfl⟩ PW.nil)
  obtain ⟨aI, haI⟩ : ∃ aI : Act, aI = { tmps := #[.func (.yield (X4.w.heap.size + 1)) #[] #[], .pointer (some ⟨X6.φ bx, 0, none⟩)] ++ Array.replicate (gIt.ntmps - (#[.func (.yield (X4.w.heap.size + 1)) #[] #[], .pointer (some ⟨X6.φ bx, 0, none⟩)] : Array Value).size) undef, defers := [] } := ⟨_, rfl⟩
  have rIt : Rel X6 (itIn (X4.w.heap.size + 1) bx (hpIn s4.hp rr)) aI := by
    rw [haI]
    exact Rel.st0 (fn := gIt) r6.hrel hH6 hvIt [] false
  have hent : (Instr.enterLoop fn a4.tmps #[20] cAsg cBod none).run Tryz.prog X4.w = .ok (X4.w.heap.size + 1, [{ target := .collected X4.w.heap.size, args := #[] }]) X6.w := by
    rw [run_enterLoop_outer, w6, w5, ← hrr]
    rfl
  refine ⟨X4.w.heap.size + 1, [{ target := .collected X4.w.heap.size, args := #[] }], X6.w, { target := .fn (.func fIt) #[.pointer (some ⟨X6.φ bx, 0, none⟩)], args := #[.func (.yield (X4.w.heap.size + 1)) #[] #[]] }, X6.w, fIt,
    #[.func (.yield (X4.w.heap.size + 1)) #[] #[], .pointer (some ⟨X6.φ bx, 0, none⟩)], X6.w, hent, ?_, fun _ _ => trivial, ?_, fun e => Bool.noConfusion (show false = true from e), ?_⟩
  · simp only [resolve, Deferred.ofValue, e19, Sem.run_bind, Sem.run_pure, Result.andThen_ok]
    rw [show (#[] ++ Array.map a4.eval #[Operand.const (Value.func (Fn.yield (X4.w.heap.size + 1)) #[] #[])] : Array Value) = #[Value.func (Fn.yield (X4.w.heap.size + 1)) #[] #[]] from by simp; rfl]
  · have g1 : Tryz.prog.funcs[fIt]? = some gIt := hIt
    have g2 : (gIt.name == "runtime.NumGoroutine") = false := by kernel_rfl
    have g3 : gIt.body.isNone = false := by rw [bIt]; rfl
    simp only [invoke, callFunc, Sem.run_bind, Sem.run_pure, Result.andThen_ok, run_program, g1, g2, g3, Bool.false_eq_true, if_false]
    rfl
  refine callsIn_wide.2 (calls_of_wp hIt bIt ?_)
  rw [← haI]
  have hbl : ∀ {Z : Ctx}, X6.le Z → Z.φ (s4.hp.length + 1) = X4.w.heap.size + 1 := fun hle => by rw [(hle.loc _ _ H6b rfl).2, φ6]
  have hwl : ∀ {Z : Ctx} {hp : List AB} {o : Obj}, X6.le Z → HRel Z → (Z.H = fun k => hp[k]?) → hp[s4.hp.length + 1]? = some (.obj o) → Z.w.heap[X4.w.heap.size + 1]? = some o := fun hle hZ hHZ hi => by
    rw [← hbl hle]
    exact hZ.blk _ (.obj _) (by rw [hHZ]; exact hi)
  have l46 := l5.trans l6
  refine exec_sim ELn.hm ELn.hkp ELn.kx_ok ELn.kk_ok cIt (ELn.hlc fIt gIt cIt hIt bIt) pA dE rIt fun Z aZ hle hrZ => ?_
  · have hHZ : Z.H = fun k => sF.hp[k]? := hrZ.heap
    have hD := hrZ.defers
    obtain ⟨vI, vI1, _⟩ := resA_ok hrZ pI
    have hwZ := hwl hle hrZ.hrel hHZ b4
    have hst : rr.state ≠ .busy := by rw [rst]; intro e; cases e
    have hend : (Instr.endLoop (X4.w.heap.size + 1)).run Tryz.prog Z.w = .ok rr.pending (Z.w.putObj (X4.w.heap.size + 1) (.loop (over rr))) := run_endLoop (P := Tryz.prog) hwZ hst
    have hp : rr.pending = none := by rw [← hrr]; rfl
    rw [hp] at hend
    have hm4 := rel_mem r4 tg4 (l46.trans hle) hrZ.hrel hHZ
    obtain ⟨X7, w7, l7, r7, _⟩ := rel_turn (o' := .loop (over rr)) hm4 tg4 b4
    rw [hbl hle] at w7
    have hdf : a4.defers = [] := r4.defers
    have hφ : ∀ {Y : Ctx}, X7.le Y → Y.φ s4.hp.length = X4.w.heap.size := fun hl => by rw [((hle.trans (l7.trans hl)).loc _ _ H6d rfl).2, φ6d]
    have hX : ∀ {Y : Ctx}, X7.le Y → X.le Y := fun hl => l04.trans (l46.trans (hle.trans (l7.trans hl)))
    · have hp : rr.pending = none := by rw [← hrr]; rfl
      have hfin : rangePost Fence.wide 0 Tryz.prog (X4.w.heap.size + 1) (Exit.inBlock 0 (Exit.then (fun a w => (Code.seq cR10 .ret).wp Tryz.prog (bodyPostM Fence.wide 0 Tryz.prog gCo (cR X r')) a w) (bodyPostM Fence.wide 0 Tryz.prog gCo (cR X r')))) { a4 with defers := [{ target := .collected X4.w.heap.size, args := #[] }] ++ a4.defers } (.returned vI) Z.w := by
        refine ⟨_, _, hend, ?_⟩
        show (Code.seq cR10 .ret).wp Tryz.prog (bodyPostM Fence.wide 0 Tryz.prog gCo (cR X r')) { tmps := a4.tmps, defers := [{ target := .collected X4.w.heap.size, args := #[] }] ++ a4.defers } _
        rw [hdf, List.append_nil]
        refine wp_seq ?_
        rw [cR10_eq]
        refine wp_region ?_
        have hls : ∀ (i : Nat) o, (regOps cR10)[i]? = some o → isLS o.op = true := fun i o ho => List.all_eq_true.1 cR10_ls o (List.mem_of_getElem? (i := i) (by simpa using ho))
        have key : ∀ (e : Exit) (a : Act) (w : World), (∃ X8, e = .normal ∧ X7.le X8 ∧ Rel X8 σd' a ∧ w = X8.w) → Exit.then (fun a w => Code.ret.wp Tryz.prog (bodyPostM Fence.wide 0 Tryz.prog gCo (cR X r')) a w) (bodyPostM Fence.wide 0 Tryz.prog gCo (cR X r')) e { a with defers := [{ target := .collected X4.w.heap.size, args := #[] }] } w := by
          rintro e a w ⟨X8, rfl, hl, hr, rfl⟩
          exact wp_ret (could_end (hX hl) hr tgd (hφ hl) b5 pR pW)
        have := ops_marks (P := Tryz.prog) (ops := regOps cR10) (ds := [{ target := .collected X4.w.heap.size, args := #[] }]) (Q := fun e a w => ∃ X8, e = .normal ∧ X7.le X8 ∧ Rel X8 σd' a ∧ w = X8.w)
          (Q' := Exit.then (fun a w => Code.ret.wp Tryz.prog (bodyPostM Fence.wide 0 Tryz.prog gCo (cR X r')) a w) (bodyPostM Fence.wide 0 Tryz.prog gCo (cR X r'))) hls key _ _ _ (opsRun_sim ELn.hkp ELn.kk_ok _ r7 pD dd fun X8 a8 hl hr => ⟨X8, rfl, hl, hr, rfl⟩)
        rw [w7] at this
        exact this
      cases ex2 with
      | normal => exact ⟨hD, vI, vI1, hfin⟩
      | ret => exact ⟨hD, vI, vI1, hfin⟩
      | exit i => cases hex
/-- Could's contract. -/
theorem nil_pure {args args' : List AV} {r : AV} (ha : wkAs args = some args') (h : ∀ l fn tmps D, nilGo args' l fn tmps D = some (some (.obj (.loop (recOf fn tmps D))), some (.obj (.deferred (some []))), r)) : PureCall Tryz.prog fCo args r := by
  refine ⟨⟨gCo, hCo, by kernel_rfl, by rw [bCo]; rfl⟩, fun X vs hX hv => ?_⟩
  have hv' : PW (VR (fresh X)) args' vs := wkAs_rel (fun a y h => fresh_IC h) ha hv
  refine (nil_heap h (HRel.fresh X) (by funext i; simp [fresh]) hv').mono fun e w' hh => ?_
  obtain ⟨val, Y', rv, rfl, rfl, hle, hY, hval, hw⟩ := hh
  have hbel := below_of hle hY
  exact ⟨val, X.withW Y'.w, rfl, rfl, withW_le hX hbel hle.drawn, hX.withW hbel hle.drawn, rfl, wkA_rel (fun a y h => back_IC hX hle h) hw hval⟩
abbrev nilE : AV := .one (.sl rEv ([] : List rEv.den) .shared)
theorem ld_nil : PureCall Tryz.prog fCo [nilE, iA 100] (.tup [bA true, bA true, eA 0]) := nil_pure (args' := [nilE, iA 100]) (by kernel_rfl) (fun l fn tmps D => by kernel_rfl)
end Go.Proofs.YthdgoefjkfafkaaGreatDoor
