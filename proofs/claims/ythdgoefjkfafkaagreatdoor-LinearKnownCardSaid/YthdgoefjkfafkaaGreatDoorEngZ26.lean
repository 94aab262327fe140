import Derived.Test.YthdgoefjkfafkaaGreatDoorEngZ24
import Derived.RangeFuncCalls
import Derived.OrdersIn
import Derived.TacticsIn
import Derived.RangeFuncRecord
set_option linter.unusedVariables false
namespace Go.Eng
open Go Go.RowKit
variable {P : Program}

/-! ### Under a round of a range over a function -/
def isDefer : Op → Bool
  | .defer _ => true
  | _ => false
def noDefer : Code → Bool
  | .region _ ops _ => ops.toList.all fun o => !isDefer o.op
  | .seq a b => noDefer a && noDefer b
  | .cond _ a b => noDefer a && noDefer b
  | .block _ c => noDefer c
  | .loop c => noDefer c
  | .scope c => noDefer c
  | _ => true
def noLoop : Code → Bool
  | .seq a b => noLoop a && noLoop b
  | .cond _ a b => noLoop a && noLoop b
  | .block _ c => noLoop c
  | .loop _ => false
  | .scope _ => false
  | _ => true
theorem then_out {K : Act → World → Prop} {Q : Exit → Act → World → Prop} (h : ¬ LetsOut Q) : ¬ LetsOut (Exit.then K Q) := fun ⟨a, w, e⟩ => h ⟨a, w, e⟩
theorem block_out {id : Nat} {Q : Exit → Act → World → Prop} (h : ¬ LetsOut Q) : ¬ LetsOut (Exit.inBlock id Q) := fun ⟨a, w, e⟩ => h ⟨a, w, e⟩
theorem noDefer_ops {id : Nat} {ops : Array Oper} {d : Bool} (h : noDefer (.region id ops d) = true) : ∀ (i : Nat) o, ops[i]? = some o → ∀ c, o.op ≠ .defer c := fun i o ho c e => by
  have hm : o ∈ ops.toList := List.mem_of_getElem? (i := i) (by simpa using ho)
  have := List.all_eq_true.1 h o hm
  rw [e] at this
  cases this
section
variable {l0 n0 : Nat}
theorem oper_in {o : Oper} {a : Act} {w : World} {K : Act → World → Prop} {Q : Exit → Act → World → Prop} (hd : ∀ c, o.op ≠ .defer c) (h : o.wp P a w K Q) : o.wpIn (Fence.wide.inRound l0) n0 P a w K Q := by
  refine ⟨fun _ _ => trivial, ?_⟩
  rw [show (Fence.wide.inRound l0).round = some l0 from rfl, Oper.semAt_some l0 _ _ hd]
  unfold Oper.wp at h
  generalize (execOp a.eval o).run P w = r at *
  cases r with
  | ok x w' =>
    cases x <;> simp only [Oper.upon, Oper.uponIn] at h ⊢ <;> first
      | exact h
      | exact ⟨fun e => Bool.noConfusion (show false = true from e), CallsIn.inRound l0 (callsIn_wide.2 h)⟩
      | exact ⟨fun e => Bool.noConfusion (show false = true from e), fun c cs _ => let ⟨v, w'', r, s⟩ := h c cs; ⟨v, w'', r, stepsIn_wide.2 s⟩⟩
      | exact h.elim
  | halt x w' => cases x <;> simp only [Oper.upon, Oper.uponIn] at h ⊢ <;> exact h
theorem ops_in {ops : Array Oper} {Q : Exit → Act → World → Prop} (hQ : ¬ LetsOut Q) (hd : ∀ (i : Nat) o, ops[i]? = some o → ∀ c, o.op ≠ .defer c) : ∀ (is : List Nat) (a : Act) (w : World), wpOps P ops Q is a w → wpOpsIn (Fence.wide.inRound l0) n0 P ops Q is a w
  | [], a, w, h => h
  | i :: rest, a, w, h => by
    simp only [wpOps] at h
    simp only [wpOpsIn]
    cases ho : ops[i]? with
    | none =>
      simp only [ho] at h ⊢
      exact ops_in hQ hd rest a w h
    | some o =>
      simp only [ho] at h ⊢
      split
      · rename_i hw
        rw [if_pos hw] at h
        rcases h with h | h
        · exact oper_in (hd i o ho) (Oper.wp_mono (fun a w h => ops_in hQ hd rest a w h) h)
        · exact absurd h.2 hQ
      · rename_i hw
        rw [if_neg hw] at h
        exact ⟨fun _ _ => trivial, ops_in hQ hd rest _ w h⟩
theorem any_in {ops : Array Oper} {Q : Exit → Act → World → Prop} (hQ : ¬ LetsOut Q) (hd : ∀ (i : Nat) o, ops[i]? = some o → ∀ c, o.op ≠ .defer c) : ∀ (fuel : Nat) (listed : Array Bool) (a : Act) (w : World), wpAny P .any ops Q fuel listed a w → wpAnyIn (Fence.wide.inRound l0) n0 P .any ops Q fuel listed a w
  | 0, listed, a, w, h => h
  | fuel + 1, listed, a, w, h => by
    refine ⟨h.1, fun i hi => ?_⟩
    have h2 := h.2 i hi
    unfold wpOp at h2
    unfold wpOpIn
    cases ho : ops[i]? with
    | none =>
      simp only [ho] at h2 ⊢
      exact any_in hQ hd fuel _ a w h2
    | some o =>
      simp only [ho] at h2 ⊢
      split
      · rename_i hw
        rw [if_pos hw] at h2
        rcases h2 with h2 | h2
        · exact oper_in (hd i o ho) (Oper.wp_mono (fun a w h => any_in hQ hd fuel _ a w h) h2)
        · exact absurd h2.2 hQ
      · rename_i hw
        rw [if_neg hw] at h2
        exact ⟨fun _ _ => trivial, any_in hQ hd fuel _ _ w h2⟩
end
theorem drawRun_any {kp : KP} {kq : KX} {kh : KH} (hkp : KPok P kp) (hkq : KXok P kq) (hkh : KHok P kh) {ops : Array Oper} {σ σ' : St} {X : Ctx} {a : Act} (h : Rel X σ a) (hr : drawRun P kp kq kh ops σ = some σ') (hc : ∀ c ∈ σ'.cs, c = true)
    {Q : Exit → Act → World → Prop} (hq : ∀ X' a', X.le X' → Rel X' σ' a' → Q .normal a' X'.w) : wpAny P .any ops Q ops.size (Array.replicate ops.size false) a { X.w with drawn := X.w.drawn + 1 } := by
  unfold drawRun at hr
  split at hr
  · rename_i htg
    split at hr
    · rename_i hback
      split at hr
      · rename_i L m os cs hd
        split at hr
        · rename_i hok
          simp only [Bool.and_eq_true] at hok
          obtain ⟨hok, hub⟩ := hok
          obtain ⟨hgood, hlen, _⟩ := dpass_good (P := P) _ _ _ _ _ hd (fun j o h => by
            rw [List.getElem?_take] at h
            split at h
            · simpa using h
            · cases h) trivial
          have hml : (masks ops.toList []).length = ops.size := by rw [masks_len]; simp
          obtain ⟨_, hs2, hs3⟩ := syncFrom_spec (masks ops.toList []) 0
          have hqs : syncFrom 0 (masks ops.toList []) ≤ ops.size := by omega
          have hLq : L.length = syncFrom 0 (masks ops.toList []) := by
            rw [hlen, List.length_nil, Nat.zero_add, List.length_take]; simp only [Array.length_toList]; omega
          have hL : Listing P kq ops σ.nt (lookT σ.tm) σ.H cs L (masks ops.toList []) := by
            refine ⟨hgood, by omega, hok, masks_ok _ _ (fun j o h => by simpa using h) (fun k m hk => by simp at hk), hml⟩
          have hsync : ∀ j, L.length ≤ j → j < ops.size → (masks ops.toList [])[j]? = some (2 ^ j - 1) := fun j h1 h2 => by
            have := hs3 j (by omega) (by omega)
            rwa [Nat.zero_add] at this
          obtain ⟨c3, e3⟩ := opsRun_suf _ hr
          have hcs : ∀ c ∈ cs, c = true := fun c hcm => hc c (by rw [e3]; exact List.mem_append_right _ hcm)
          have hbk : ∀ (j : Nat) o, ops[j]? = some o → ∀ e ∈ o.after, Region.binds .any e = true → e.on < j := fun j o ho => by have := backOk_spec _ 0 hback j o (by simpa using ho); simpa using this
          have hbelow : Below X.w.heap.size X.w { X.w with drawn := X.w.drawn + 1 } := by
            refine ⟨?_, ?_, ?_, ?_, ?_⟩ <;> first | rfl | exact Nat.le_refl _ | (intros; rfl)
          have hX1 := h.hrel.withW hbelow (Nat.le_refl _)
          have hle1 := withW_le h.hrel hbelow (Nat.le_refl _)
          have hrep : ∀ i, (Array.replicate ops.size false).getD i false = false := fun i => by
            simp only [Array.getD_eq_getD_getElem?, Array.getElem?_replicate]
            split <;> rfl
          refine hL.any hkq hcs hbk hsync ops.size _ (X.withW _) a (by simp) (fun j _ => hrep j) ?_ ?_ ⟨hX1, ?_, h.size, h.defers, ?_⟩ ?_
          · intro j o ho hj
            simp only [hrep] at hj; cases hj
          · unfold undone
            exact Nat.le_trans List.countP_le_length (by simp)
          · rw [heapAt_none _ hrep]; exact h.heap
          · intro s v hv
            rw [slotAt_none _ hrep] at hv
            exact VR.mono hle1 _ _ (h.tm s v hv)
          · intro X' a' listed' fuel' hle h' hsz' hl' hS' hu'
            have hrel1 : Rel (X'.fill (σ.hp.length + m)) { σ with tm := tmOf σ.tm L, hp := hpOf (heapAt σ.H all L) (σ.hp.length + m) 0, os, cs } a' := by
              refine ⟨h'.hrel.fill _, ?_, h'.size, h'.defers, ?_, ?_⟩
              · funext k
                simp only [Ctx.fill, St.H, hpOf_get, Nat.zero_add, h'.heap]
                split
                · rename_i b hb
                  have hk : k < σ.hp.length + m := by
                    by_cases hk : k < σ.hp.length + m
                    · exact hk
                    · have hnone : σ.H k = none := by simp only [St.H]; exact List.getElem?_eq_none (by omega)
                      have : heapAt σ.H all L k = none := heapAt_out hnone fun r hr p hp => by
                        have h1 := List.all_eq_true.1 (List.all_eq_true.1 hub r hr) p hp
                        simp only [Nat.blt_eq] at h1
                        omega
                      rw [this] at hb; cases hb
                  rw [if_pos hk, hb]; rfl
                · rename_i hb
                  rw [hb]; rfl
              · intro t v hv
                rw [tmOf_look] at hv
                exact VR.mono (fill_le _) _ _ (h'.slots t v hv)
              · intro t s w v hv
                simp only [htg] at hv
                cases hv
            exact suffix_run hkp hkh hL.mok hbk (q := L.length) hsync fuel' (syncFrom 0 (masks ops.toList [])) listed' (X'.fill (σ.hp.length + m)) a' (by omega) hqs hsz' (fun j => by rw [hl' j, hLq]) hS' hu' hrel1 hr hc
              fun X'' a'' hle' h'' => hq X'' a'' (hle1.trans (hle.trans ((fill_le _).trans hle'))) h''
        · cases hr
      · cases hr
    · cases hr
  · cases hr
theorem exec_simIn {l0 n0 : Nat} (hm : P.follows .mixedOrders = true) {kp : KP} {kq : KX} {kh : KH} (hkp : KPok P kp) (hkq : KXok P kq) (hkh : KHok P kh) {lc : LC} {n : Nat} (c : Code) : LCok P lc c → noDefer c = true → noLoop c = true → ∀ {σ : St} {e : XE} {σ' : St}, exec P kp kq kh lc n c σ = some (e, σ') →
    (∀ c ∈ σ'.cs, c = true) → ∀ {X : Ctx} {a : Act}, Rel X σ a → ∀ {Q : Exit → Act → World → Prop}, (∀ X' a', X.le X' → Rel X' σ' a' → Q e.out a' X'.w) → ¬ LetsOut Q → c.wpIn (Fence.wide.inRound l0) n0 P Q a X.w := by
  induction c with
  | skip =>
    intro _ hd hn σ e σ' h hc X a hr Q hq hQ
    simp only [exec, Option.some.injEq, Prod.mk.injEq] at h
    obtain ⟨rfl, rfl⟩ := h
    exact wpIn_skip (hq X a (.refl X) hr)
  | label l =>
    intro _ hd hn σ e σ' h hc X a hr Q hq hQ
    simp only [exec, Option.some.injEq, Prod.mk.injEq] at h
    obtain ⟨rfl, rfl⟩ := h
    exact wpIn_label (hq X a (.refl X) hr)
  | ret =>
    intro _ hd hn σ e σ' h hc X a hr Q hq hQ
    simp only [exec, Option.some.injEq, Prod.mk.injEq] at h
    obtain ⟨rfl, rfl⟩ := h
    exact wpIn_ret (hq X a (.refl X) hr)
  | exit id =>
    intro _ hd hn σ e σ' h hc X a hr Q hq hQ
    simp only [exec, Option.some.injEq, Prod.mk.injEq] at h
    obtain ⟨rfl, rfl⟩ := h
    exact wpIn_exit (hq X a (.refl X) hr)
  | region id ops draw =>
    intro _ hd hn σ e σ' h hc X a hr Q hq hQ
    cases draw
    · simp only [exec] at h
      split at h
      · rename_i h1
        simp only [Option.some.injEq, Prod.mk.injEq] at h
        obtain ⟨rfl, rfl⟩ := h
        exact wpIn_region (ops_in hQ (noDefer_ops hd) _ _ _ (opsRun_sim hkp hkh _ hr h1 hc hq))
      · cases h
    · simp only [exec] at h
      split at h
      · rename_i h1
        simp only [Option.some.injEq, Prod.mk.injEq] at h
        obtain ⟨rfl, rfl⟩ := h
        exact wpIn_region_any hm (any_in hQ (noDefer_ops hd) _ _ _ _ (drawRun_any hkp hkq hkh hr h1 hc hq))
      · cases h
  | seq x y iha ihb =>
    intro hl hd hn σ e σ' h hc X a hr Q hq hQ
    simp only [noDefer, Bool.and_eq_true] at hd
    simp only [noLoop, Bool.and_eq_true] at hn
    have hla : LCok P lc x := fun body hb => hl body (List.mem_append_left _ hb)
    have hlb : LCok P lc y := fun body hb => hl body (List.mem_append_right _ hb)
    simp only [exec] at h
    split at h
    · rename_i σ1 h1
      obtain ⟨c2, e2⟩ := exec_suf y hlb h
      refine wpIn_seq (iha hla hd.1 hn.1 h1 (fun q hq => hc q (by rw [e2]; exact List.mem_append_right _ hq)) hr (fun X' a' hle hr' => ?_) (then_out hQ))
      exact ihb hlb hd.2 hn.2 h hc hr' (fun X'' a'' hle' hr'' => hq X'' a'' (hle.trans hle') hr'') hQ
    · rename_i h1
      simp only [Option.some.injEq, Prod.mk.injEq] at h
      obtain ⟨rfl, rfl⟩ := h
      exact wpIn_seq (iha hla hd.1 hn.1 h1 hc hr (fun X' a' hle hr' => hq X' a' hle hr') (then_out hQ))
    · rename_i h1
      simp only [Option.some.injEq, Prod.mk.injEq] at h
      obtain ⟨rfl, rfl⟩ := h
      exact wpIn_seq (iha hla hd.1 hn.1 h1 hc hr (fun X' a' hle hr' => hq X' a' hle hr') (then_out hQ))
    · cases h
  | cond c x y ihx ihy =>
    intro hl hd hn σ e σ' h hc X a hr Q hq hQ
    simp only [noDefer, Bool.and_eq_true] at hd
    simp only [noLoop, Bool.and_eq_true] at hn
    have hlx : LCok P lc x := fun body hb => hl body (List.mem_append_left _ hb)
    have hly : LCok P lc y := fun body hb => hl body (List.mem_append_right _ hb)
    simp only [exec] at h
    split at h
    · rename_i b hb
      have hbv : a.eval c = .bool b := hr.ev (chain := []) (fun g hg => by cases hg) hb
      split at h
      · rename_i cs r hbr
        obtain ⟨c1, e1⟩ := exec_suf x hlx h
        have := br_eq (b := b) (os := σ.os) (by rw [hbr]; intro q hq; exact hc q (by rw [e1]; exact List.mem_append_right _ (List.mem_append_left _ hq)))
        rw [hbr] at this
        simp only at this
        rw [← this] at hbv
        exact wpIn_cond_true hbv (ihx hlx hd.1 hn.1 h hc (hr.cs r (cs ++ σ.cs)) hq hQ)
      · rename_i cs r hbr
        obtain ⟨c1, e1⟩ := exec_suf y hly h
        have := br_eq (b := b) (os := σ.os) (by rw [hbr]; intro q hq; exact hc q (by rw [e1]; exact List.mem_append_right _ (List.mem_append_left _ hq)))
        rw [hbr] at this
        simp only at this
        rw [← this] at hbv
        exact wpIn_cond_false hbv (ihy hly hd.2 hn.2 h hc (hr.cs r (cs ++ σ.cs)) hq hQ)
    · cases h
  | block id c ih =>
    intro hl hd hn σ e σ' h hc X a hr Q hq hQ
    simp only [exec] at h
    refine wpIn_block ?_
    split at h
    · rename_i i σ1 h1
      split at h
      · rename_i hi
        simp only [Nat.beq_eq] at hi
        simp only [Option.some.injEq, Prod.mk.injEq] at h
        obtain ⟨rfl, rfl⟩ := h
        refine ih hl hd hn h1 hc hr (fun X' a' hle hr' => ?_) (block_out hQ)
        simp only [XE.out, Exit.inBlock, hi, if_true]
        exact hq X' a' hle hr'
      · rename_i hi
        simp only [Nat.beq_eq] at hi
        simp only [Option.some.injEq, Prod.mk.injEq] at h
        obtain ⟨rfl, rfl⟩ := h
        refine ih hl hd hn h1 hc hr (fun X' a' hle hr' => ?_) (block_out hQ)
        simp only [XE.out, Exit.inBlock, hi, if_false]
        exact hq X' a' hle hr'
    · rename_i h1
      simp only [Option.some.injEq, Prod.mk.injEq] at h
      obtain ⟨rfl, rfl⟩ := h
      exact ih hl hd hn h1 hc hr (fun X' a' hle hr' => hq X' a' hle hr') (block_out hQ)
    · rename_i h1
      simp only [Option.some.injEq, Prod.mk.injEq] at h
      obtain ⟨rfl, rfl⟩ := h
      exact ih hl hd hn h1 hc hr (fun X' a' hle hr' => hq X' a' hle hr') (block_out hQ)
    · cases h
  | loop c ih =>
    intro hl hd hn
    cases hn
  | scope c ih => intro hl hd hn; cases hn
  | rangeFunc f ps x y => intro _ _ _ σ e σ' h; cases h
  | goto l => intro _ _ _ σ e σ' h; cases h
  | refuse w => intro _ _ _ σ e σ' h; cases h
open Go Go.RowKit
variable {P : Program}

/-! ### Operations one by one, under the wide fence, in a round and out of it; deferred marks -/
/-- The wide fence, maybe in a round. -/
structure WideF (F : Fence) : Prop where
  fn : ∀ f, F.fn f
  dep : F.depth.isSome = false
  sem : ∀ (ρ : Operand → Value) (o : Oper), (∀ c, o.op ≠ .defer c) → Oper.semAt F.round ρ o = execOp ρ o
  calls : ∀ {n : Nat} {f : FuncId} {args : Array Value} {w : World} {R : Ending → World → Prop}, Calls P f args w R → CallsIn F n P f args w R
  rows : ∀ {n : Nat} {row : String} {args : Array Value} {w : World} {R : Value → World → Prop}, Rows P row args w R → RowsIn F n P row args w R
theorem wideF : WideF (P := P) Fence.wide where
  fn _ := trivial
  dep := rfl
  sem ρ o _ := Oper.semAt_none ρ o
  calls h := callsIn_wide.2 h
  rows h := fun c cs _ => let ⟨v, w'', r, s⟩ := h c cs; ⟨v, w'', r, stepsIn_wide.2 s⟩
section
variable {F : Fence} (hF : WideF (P := P) F) {n : Nat}
include hF
theorem oper_to {o : Oper} {a : Act} {w : World} {K K' : Act → World → Prop} {Q Q' : Exit → Act → World → Prop} (hd : ∀ c, o.op ≠ .defer c) (h : o.wp P a w K Q) (hK : ∀ a w, K a w → K' a w) (hQ : ∀ e a w, Q e a w → e ≠ .normal → Q' e a w) : o.wpIn F n P a w K' Q' := by
  refine ⟨fun f _ => hF.fn f, ?_⟩
  rw [hF.sem _ _ hd]
  unfold Oper.wp at h
  generalize (execOp a.eval o).run P w = r at *
  have hdep : ∀ {p : Prop}, F.depth.isSome = true → p := fun e => by rw [hF.dep] at e; cases e
  cases r with
  | ok x w' =>
    cases x <;> simp only [Oper.upon, Oper.uponIn] at h ⊢ <;> first
      | exact hK _ _ h
      | exact ⟨fun e => hdep e, hF.calls (h.mono fun e w'' he => by
          cases e with
          | returned v => exact hK _ _ he
          | panicked c => exact hQ _ _ _ he (by intro e; cases e)
          | outgrown => exact he.elim fun a ⟨w, hh⟩ => ⟨a, w, hQ _ _ _ hh (by intro e; cases e)⟩)⟩
      | exact ⟨fun e => hdep e, hF.rows (h.mono fun _ _ he => hK _ _ he)⟩
      | exact h.elim
  | halt x w' => cases x <;> simp only [Oper.upon, Oper.uponIn] at h ⊢ <;> first
      | exact hQ _ _ _ h (by intro e; cases e)
      | exact h
/-- Some operations by the engine, what comes behind them by hand. -/
theorem ops_pre {ops : Array Oper} {Q : Exit → Act → World → Prop} (hd : ∀ (i : Nat) o, ops[i]? = some o → ∀ c, o.op ≠ .defer c) {is2 : List Nat} : ∀ (is : List Nat) (a : Act) (w : World),
    wpOps P ops (fun e a w => match e with | .normal => wpOpsIn F n P ops Q is2 a w | _ => False) is a w → wpOpsIn F n P ops Q (is ++ is2) a w
  | [], a, w, h => h
  | i :: rest, a, w, h => by
    have hnl : ¬ LetsOut (fun e a w => match e with | .normal => wpOpsIn F n P ops Q is2 a w | _ => False) := fun ⟨_, _, h⟩ => h
    simp only [wpOps] at h
    simp only [List.cons_append, wpOpsIn]
    cases ho : ops[i]? with
    | none =>
      simp only [ho] at h ⊢
      exact ops_pre hd rest a w h
    | some o =>
      simp only [ho] at h ⊢
      split
      · rename_i hw
        rw [if_pos hw] at h
        rcases h with h | h
        · exact oper_to hF (hd i o ho) h (fun a w h => ops_pre hd rest a w h) fun e a w hh hn => by
            cases e with
            | normal => exact absurd rfl hn
            | _ => exact hh.elim
        · exact absurd h.2 hnl
      · rename_i hw
        rw [if_neg hw] at h
        exact ⟨fun f _ => hF.fn f, ops_pre hd rest _ w h⟩
end
def isLS : Op → Bool
  | .load _ _ => true
  | .store _ _ _ => true
  | _ => false
theorem ls_value {ρ : Operand → Value} {o : Oper} (h : isLS o.op = true) {w w' : World} {x : Next} (hr : (execOp ρ o).run P w = .ok x w') : (∃ v, x = .value v) ∨ x = .skip := by
  unfold execOp at hr
  cases ho : o.op with
  | load t a =>
    simp only [ho, Sem.run_bind] at hr
    cases hs : (Instr.loadAt t (ρ a)).run P w with
    | ok v w1 => rw [hs] at hr; simp only [Result.andThen, Sem.run_pure, Result.ok.injEq] at hr; exact .inl ⟨v, hr.1.symm⟩
    | halt h w1 => rw [hs] at hr; cases hr
  | store t a y =>
    simp only [ho, Sem.run_bind] at hr
    cases hs : (Instr.storeAt t (ρ a) (ρ y)).run P w with
    | ok v w1 => rw [hs] at hr; simp only [Result.andThen, Sem.run_pure, Result.ok.injEq] at hr; exact .inr hr.1.symm
    | halt h w1 => rw [hs] at hr; cases hr
  | _ => rw [ho] at h; cases h
/-- Marks of deferred calls that lie beneath are of no account (loads and stores). -/
theorem ops_marks {ops : Array Oper} {ds : List Deferred} {Q Q' : Exit → Act → World → Prop} (hd : ∀ (i : Nat) o, ops[i]? = some o → isLS o.op = true) (hQ : ∀ e a w, Q e a w → Q' e { a with defers := ds } w) : ∀ (is : List Nat) (a : Act) (w : World),
    wpOps P ops Q is a w → wpOps P ops Q' is { a with defers := ds } w
  | [], a, w, h => hQ _ _ _ h
  | i :: rest, a, w, h => by
    have hlo : LetsOut Q → LetsOut Q' := fun ⟨a, w, h⟩ => ⟨_, w, hQ _ _ _ h⟩
    simp only [wpOps] at h ⊢
    cases ho : ops[i]? with
    | none =>
      simp only [ho] at h ⊢
      exact ops_marks hd hQ rest a w h
    | some o =>
      simp only [ho] at h ⊢
      have hput : ∀ v, ({ a with defers := ds } : Act).put o.dst v = { a.put o.dst v with defers := ds } := fun v => by cases o.dst <;> rfl
      have hev : ({ a with defers := ds } : Act).eval = a.eval := by funext x; cases x <;> rfl
      split
      · rename_i hw
        rw [if_pos hw] at h
        rcases h with h | h
        · left
          unfold Oper.wp at h ⊢
          rw [hev]
          cases hr : (execOp a.eval o).run P w with
          | ok x w' =>
            rw [hr] at h
            rcases ls_value (hd i o ho) hr with ⟨v, rfl⟩ | rfl
            · simp only [Oper.upon] at h ⊢
              rw [hput]; exact ops_marks hd hQ rest _ _ h
            · simp only [Oper.upon] at h ⊢
              rw [hput]; exact ops_marks hd hQ rest _ _ h
          | halt x w' =>
            rw [hr] at h
            cases x <;> simp only [Oper.upon] at h ⊢ <;> first | exact hQ _ _ _ h | exact h
        · right
          refine ⟨?_, hlo h.2⟩
          have h1 := h.1
          unfold Oper.asks at h1 ⊢
          rw [hev]; exact h1
      · rename_i hw
        rw [if_neg hw] at h
        rw [hput]; exact ops_marks hd hQ rest _ w h
end Go.Eng
