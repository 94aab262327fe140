/- The iterator of rows, by the engine; no statement. -/
import Derived.Test.YthdgoefjkfafkaaGreatDoorLe4
set_option linter.unusedVariables false
set_option linter.unusedSimpArgs false
namespace Go.Proofs.YthdgoefjkfafkaaGreatDoor
open Go Go.Eng Go.RowKit

/-- A piece of code that ends normally, by the engine. -/
theorem piece {f : Nat} {fn : Func} {cb : Code} (hf : Tryz.prog.funcs[f]? = some fn) (hb : fn.body = some cb) {c : Code} (hsub : ∀ b ∈ loopsOf c, b ∈ loopsOf cb) {σ σ1 : St} (h : runC f c σ = some (.normal, σ1)) (hc : ∀ c ∈ σ1.cs, c = true) {X : Ctx} {a : Act} (hr : Rel X σ a)
    {K : Act → World → Prop} {Q : Exit → Act → World → Prop} (hK : ∀ X1 a1, X.le X1 → Rel X1 σ1 a1 → K a1 X1.w) : c.wp Tryz.prog (Exit.then K Q) a X.w :=
  exec_sim ELn.hm ELn.hkp ELn.kx_ok ELn.kk_ok c (fun b hb' => ELn.hlc f fn cb hf hb b (hsub b hb')) h hc hr fun X1 a1 hle hr1 => hK X1 a1 hle hr1
noncomputable def iB : Code := blkC (seqL (seqR (seqR iLb)))
noncomputable def iR2 : Code := seqL iLb
noncomputable def iC2 : Code := seqL (seqR iLb)
noncomputable def iR8 : Code := seqR (seqR (seqR iLb))
noncomputable def iR3 : Code := seqL iB
noncomputable def iR45 : Code := seqL (seqR iB)
noncomputable def iR6 : Code := seqL (seqR (seqR iB))
noncomputable def iR7 : Code := seqL (seqR (seqR (seqR iB)))
noncomputable def iC7 : Code := seqR (seqR (seqR (seqR iB)))
theorem iLb_eq : iLb = .seq iR2 (.seq iC2 (.seq (.block 1 (.seq iR3 (.seq iR45 (.seq iR6 (.seq iR7 iC7))))) iR8)) := by kernel_rfl
def regOps : Code → Array Oper
  | .region _ ops _ => ops
  | _ => #[]
def regId : Code → Nat
  | .region id _ _ => id
  | _ => 0
theorem iR7_eq : iR7 = .region (regId iR7) (regOps iR7) false := by kernel_rfl
open Go Go.Eng Go.RowKit

abbrev fIt : Nat := 16
theorem iR7_size : (regOps iR7).size = 6 := by kernel_rfl
def opAt (ops : Array Oper) (i : Nat) : Oper := ops.getD i default
theorem iR7_4 : (regOps iR7)[4]? = some (opAt (regOps iR7) 4) := by kernel_rfl
theorem iR7_4op : (opAt (regOps iR7) 4).op = .call { callee := .value (.tmp 29), args := #[.tmp 32], argTypes := #[9] } := by kernel_rfl
theorem iR7_4dst : (opAt (regOps iR7) 4).dst = some 33 := by kernel_rfl
theorem iR7_4gd : (opAt (regOps iR7) 4).guard = none := by kernel_rfl
theorem iR7_noDefer : noDefer (.region (regId iR7) (regOps iR7) false) = true := by kernel_rfl
/-- The region with the call of yield. -/
theorem r7_eng {n : Nat} {X : Ctx} {σ σ1 σ2 : St} {a : Act} (hr : Rel X σ a) (h1 : opsRun Tryz.prog ELn.kp ELn.kk (regOps iR7) [0, 1, 2, 3] σ = some σ1) (c1 : ∀ c ∈ σ1.cs, c = true) {l : Nat} {rw_ : ByteArray} {r : Loop} {b : Bool} {hp8 : List AB}
    (t29 : lookT σ1.tm 29 = some (.val (.func (.yield l) #[] #[]))) (t32 : lookT σ1.tm 32 = some (.one (.str rw_))) (tg1 : σ1.tg = []) (hps : r.params.size = 1) (nt : 33 < σ1.nt)
    (hrec : ∀ X1, X.le X1 → HRel X1 → (X1.H = fun k => σ1.hp[k]?) → X1.w.heap[l]? = some (.loop r) ∧
      RoundIn Fence.wide (n - 1) Tryz.prog l r.fn ((r.params.zip #[.string rw_]).foldl (fun tmps (t, a) => tmps.setIfInBounds t a) r.tmps) r.assign r.body X1.w fun e W' => ∃ X', e = .returned (.bool b) ∧ X'.w = W' ∧ X1.le X' ∧ HRel X' ∧ X'.H = fun k => hp8[k]?)
    (h2 : opsRun Tryz.prog ELn.kp ELn.kk (regOps iR7) [5] { σ1 with hp := hp8, tm := (33, .one (.bool b)) :: σ1.tm } = some σ2) (c2 : ∀ c ∈ σ2.cs, c = true)
    {Q : Exit → Act → World → Prop} (hQ : ¬ LetsOut Q) (hq : ∀ X1 a1, X.le X1 → Rel X1 σ2 a1 → Q .normal a1 X1.w) : (iR7).wp Tryz.prog Q a X.w := by
  have hd := noDefer_ops iR7_noDefer
  rw [iR7_eq]
  refine (wpIn_wide (n := n)).1 (wpIn_region ?_)
  rw [iR7_size, show List.range 6 = [0, 1, 2, 3] ++ [4, 5] from rfl]
  refine ops_pre wideF hd _ _ _ (opsRun_sim ELn.hkp ELn.kk_ok _ hr h1 c1 fun X1 a1 hle1 hr1 => ?_)
  show wpOpsIn Fence.wide n Tryz.prog (regOps iR7) Q [4, 5] a1 X1.w
  have hH1 : X1.H = fun k => σ1.hp[k]? := hr1.heap
  obtain ⟨w1, hround⟩ := hrec X1 hle1 hr1.hrel hH1
  have e29 : a1.eval (.tmp 29) = .func (.yield l) #[] #[] := hr1.tm 29 _ t29
  have e32 : a1.eval (.tmp 32) = .string rw_ := hr1.tm 32 _ t32
  simp only [wpOpsIn, iR7_4]
  rw [if_pos (wanted_none iR7_4gd _)]
  rw [← e32] at hround
  refine yield_op iR7_4op e29 w1 hps hround ?_
  rintro e w' ⟨X2, he, hw, hle2, hX2, hH2⟩
  subst hw
  refine ⟨_, he, ?_⟩
  rw [iR7_4dst]
  have hlt : 33 < a1.tmps.size := by rw [hr1.size]; exact nt
  have hr2 : Rel X2 { σ1 with hp := hp8, tm := (33, .one (.bool b)) :: σ1.tm } (a1.put (some 33) (.bool b)) := by
    refine ⟨hX2, hH2, ?_, ?_, fun t v hv => ?_, fun t s w v hv => by simp only [tg1] at hv; cases hv⟩
    · simp [Act.put, hr1.size]
    · simp [Act.put, hr1.defers]
    · rw [getD_put a1 33 _ t hlt]
      simp only [lookT] at hv
      by_cases e : 33 = t
      · subst e
        simp at hv
        subst hv
        simp
        rfl
      · rw [if_neg (by simpa using e)] at hv
        rw [if_neg (fun h => e h.symm)]
        exact VR.mono hle2 v _ (hr1.tm t v hv)
  have h5 := opsRun_sim ELn.hkp ELn.kk_ok (Q := Q) _ hr2 h2 c2 fun X3 a3 hle3 hr3 => hq X3 a3 ((hle1.trans hle2).trans hle3) hr3
  have := ops_pre (F := Fence.wide) (n := n) wideF hd (Q := Q) (is2 := []) [5] _ _ (opsRun_sim ELn.hkp ELn.kk_ok _ hr2 h2 c2 fun X3 a3 hle3 hr3 => (show wpOpsIn Fence.wide n Tryz.prog (regOps iR7) Q [] a3 X3.w from hq X3 a3 ((hle1.trans hle2).trans hle3) hr3))
  exact this
open Go Go.Eng Go.RowKit

theorem hIt : Tryz.prog.funcs[fIt]? = some Tryz.f16 := Tryz.func16
theorem bIt : Tryz.f16.body = some cIt := by kernel_rfl
theorem lcIt : LCok Tryz.prog (ELn.lcs fIt) iLb := fun b hb => by
  have : loopsOf iLb = [] := by kernel_rfl
  rw [this] at hb; cases hb
/-- What comes behind the round. -/
inductive After : St → XE → St → Prop
  | on {σ s8 s9 s10 : St} {k : Nat} (h7 : runC fIt iC7 σ = some (.normal, s8)) (h8 : runC fIt iR8 s8 = some (.normal, s9)) (hl : loopGo (fun σ => runC fIt iLb σ) k s9 = some (.exit 0, s10)) (c8 : ∀ c ∈ s8.cs, c = true) (c9 : ∀ c ∈ s9.cs, c = true) (c10 : ∀ c ∈ s10.cs, c = true) : After σ .normal s10
  | out {σ s8 : St} (h7 : runC fIt iC7 σ = some (.ret, s8)) (c8 : ∀ c ∈ s8.cs, c = true) : After σ .ret s8
theorem it_eng {n : Nat} {X : Ctx} {σ0 s0 s1 s2 s3 s4 s5 s6 σ1 σ2 sE : St} {a : Act} {ex : XE} (hr : Rel X σ0 a)
    (h0 : runC fIt iR0 σ0 = some (.normal, s0)) (h1 : runC fIt iR1 s0 = some (.normal, s1)) (h2 : runC fIt iR2 s1 = some (.normal, s2)) (h3 : runC fIt iC2 s2 = some (.normal, s3)) (h4 : runC fIt iR3 s3 = some (.normal, s4)) (h5 : runC fIt iR45 s4 = some (.normal, s5)) (h6 : runC fIt iR6 s5 = some (.normal, s6))
    (k0 : ∀ c ∈ s0.cs, c = true) (k1 : ∀ c ∈ s1.cs, c = true) (k2 : ∀ c ∈ s2.cs, c = true) (k3 : ∀ c ∈ s3.cs, c = true) (k4 : ∀ c ∈ s4.cs, c = true) (k5 : ∀ c ∈ s5.cs, c = true) (k6 : ∀ c ∈ s6.cs, c = true)
    (h7 : opsRun Tryz.prog ELn.kp ELn.kk (regOps iR7) [0, 1, 2, 3] s6 = some σ1) (c1 : ∀ c ∈ σ1.cs, c = true) {l : Nat} {rw_ : ByteArray} {r : Loop} {b : Bool} {hp8 : List AB}
    (t29 : lookT σ1.tm 29 = some (.val (.func (.yield l) #[] #[]))) (t32 : lookT σ1.tm 32 = some (.one (.str rw_))) (tg1 : σ1.tg = []) (hps : r.params.size = 1) (nt : 33 < σ1.nt)
    (hrec : ∀ X1, X.le X1 → HRel X1 → (X1.H = fun k => σ1.hp[k]?) → X1.w.heap[l]? = some (.loop r) ∧
      RoundIn Fence.wide (n - 1) Tryz.prog l r.fn ((r.params.zip #[.string rw_]).foldl (fun tmps (t, a) => tmps.setIfInBounds t a) r.tmps) r.assign r.body X1.w fun e W' => ∃ X', e = .returned (.bool b) ∧ X'.w = W' ∧ X1.le X' ∧ HRel X' ∧ X'.H = fun k => hp8[k]?)
    (h8 : opsRun Tryz.prog ELn.kp ELn.kk (regOps iR7) [5] { σ1 with hp := hp8, tm := (33, .one (.bool b)) :: σ1.tm } = some σ2) (c2 : ∀ c ∈ σ2.cs, c = true) (hA : After σ2 ex sE)
    {Q : Exit → Act → World → Prop} (hQ : ¬ LetsOut Q) (hq : ∀ X1 a1, X.le X1 → Rel X1 sE a1 → Q ex.out a1 X1.w) : cIt.wp Tryz.prog Q a X.w := by
  have sub : ∀ {c : Code}, loopsOf c = [] → ∀ b ∈ loopsOf c, b ∈ loopsOf cIt := fun h b hb => by rw [h] at hb; cases hb
  rw [cIt_eq]
  refine wp_seq (piece hIt bIt (sub (by kernel_rfl)) h0 k0 hr fun X0 a0 l0 r0 => ?_)
  refine wp_seq (piece hIt bIt (sub (by kernel_rfl)) h1 k1 r0 fun X1 a1 l1 r1 => ?_)
  refine wp_block (LoopAt.wp (LoopAt.round ?_))
  rw [iLb_eq]
  refine wp_seq (piece hIt bIt (sub (by kernel_rfl)) h2 k2 r1 fun X2 a2 l2 r2 => ?_)
  refine wp_seq (piece hIt bIt (sub (by kernel_rfl)) h3 k3 r2 fun X3 a3 l3 r3 => ?_)
  refine wp_seq (wp_block ?_)
  refine wp_seq (piece hIt bIt (sub (by kernel_rfl)) h4 k4 r3 fun X4 a4 l4 r4 => ?_)
  refine wp_seq (piece hIt bIt (sub (by kernel_rfl)) h5 k5 r4 fun X5 a5 l5 r5 => ?_)
  refine wp_seq (piece hIt bIt (sub (by kernel_rfl)) h6 k6 r5 fun X6 a6 l6 r6 => ?_)
  have l06 := l0.trans (l1.trans (l2.trans (l3.trans (l4.trans (l5.trans l6)))))
  refine wp_seq (r7_eng (n := n) r6 h7 c1 t29 t32 tg1 hps nt (fun X1 hle => hrec X1 (l06.trans hle)) h8 c2 (fun ⟨_, _, h⟩ => hQ ⟨_, _, h⟩) fun X7 a7 l7 r7 => ?_)
  cases hA with
  | on g7 g8 gl d8 d9 d10 =>
    refine exec_sim ELn.hm ELn.hkp ELn.kx_ok ELn.kk_ok iC7 (fun b hb => by have : loopsOf iC7 = [] := by kernel_rfl
                                                                           rw [this] at hb; cases hb) g7 d8 r7 fun X8 a8 l8 r8 => ?_
    refine piece hIt bIt (sub (by kernel_rfl)) g8 d9 r8 fun X9 a9 l9 r9 => ?_
    rw [← iLb_eq]
    exact loopGo_sim ELn.hm ELn.hkp ELn.kx_ok ELn.kk_ok lcIt _ gl d10 r9 fun X10 a10 l10 r10 => hq X10 a10 (l06.trans (l7.trans (l8.trans (l9.trans l10)))) r10
  | out g7 d8 =>
    refine exec_sim ELn.hm ELn.hkp ELn.kx_ok ELn.kk_ok iC7 (fun b hb => by have : loopsOf iC7 = [] := by kernel_rfl
                                                                           rw [this] at hb; cases hb) g7 d8 r7 fun X8 a8 l8 r8 => ?_
    exact hq X8 a8 (l06.trans (l7.trans l8)) r8
open Go Go.Eng Go.RowKit

/-- The temporaries of a round, with what yield was given in their slot; the memory has gone on. -/
theorem rel_round {X X1 : Ctx} {σ : St} {a : Act} (h : Rel X σ a) (htg : σ.tg = []) (hle : X.le X1) (hX1 : HRel X1) {hp1 : List AB} (hH : X1.H = fun k => hp1[k]?) {t : Nat} (ht : t < σ.nt) {v : AV} {x : Value} (hv : VR X1 v x) :
    Rel X1 { σ with hp := hp1, tm := (t, v) :: σ.tm, cs := [], os := [] } { tmps := a.tmps.setIfInBounds t x, defers := [] } := by
  have hlt : t < a.tmps.size := by rw [h.size]; exact ht
  refine ⟨hX1, hH, by simp [h.size], rfl, fun s w hw => ?_, fun s p q w hw => by simp only [htg] at hw; cases hw⟩
  show VR X1 w ((a.tmps.setIfInBounds t x).getD s undef)
  simp only [lookT] at hw
  by_cases e : t = s
  · subst e
    simp at hw
    subst hw
    simp only [Array.getD_eq_getD_getElem?, Array.getElem?_setIfInBounds_self_of_lt hlt, Option.getD_some]
    exact hv
  · rw [if_neg (by simpa using e)] at hw
    have : (a.tmps.setIfInBounds t x).getD s undef = a.tmps.getD s undef := by
      simp only [Array.getD_eq_getD_getElem?, Array.getElem?_setIfInBounds_ne e]
    rw [this]
    exact VR.mono hle w _ (h.tm s w hw)
end Go.Proofs.YthdgoefjkfafkaaGreatDoor
