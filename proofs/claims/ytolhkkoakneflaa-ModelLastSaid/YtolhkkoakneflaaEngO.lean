import Derived.Test.YtolhkkoakneflaaEngN
set_option linter.unusedVariables false
namespace Go.Eng
open Go Go.RowKit
variable {P : Program}

/-- One operation of a region, its test looked at first. -/
def stepOp (P : Program) (kp : KP) (kh : KH) (ops : Array Oper) (o : Oper) (σ : St) : Option St :=
  match o.guard with
  | none => runO P kp kh o [] σ
  | some (j, want) => match (ops[j]?).bind (·.dst) with
    | none => none
    | some s => match σ.look [] s with
      | some (.one (.bool b)) => match br b σ.os with
        | (t, cs, r) => if t == want then runO P kp kh o [] { σ with os := r, cs := cs ++ σ.cs } else ({ σ with os := r, cs := cs ++ σ.cs } : St).put o.dst (.tup [])
      | some (.tup []) => σ.put o.dst (.tup [])
      | _ => none

def opsRun (P : Program) (kp : KP) (kh : KH) (ops : Array Oper) : List Nat → St → Option St
  | [], σ => some σ
  | i :: r, σ => match ops[i]? with
    | none => opsRun P kp kh ops r σ
    | some o => match stepOp P kp kh ops o σ with
      | some σ' => opsRun P kp kh ops r σ'
      | none => none

theorem VR_undef (X : Ctx) : VR X (.tup []) undef := ⟨#[], rfl, PW.nil⟩
theorem undef_of_VR {X : Ctx} {v : Value} (h : VR X (.tup []) v) : v = undef := by
  obtain ⟨arr, e, h1, _⟩ := h
  have : arr = #[] := by
    cases arr with | mk l => simp at h1; rw [List.eq_nil_of_length_eq_zero h1.symm]
  rw [e, this]; rfl

theorem wanted_none {o : Oper} (h : o.guard = none) (f) : Region.wanted o f = true := by simp [Region.wanted, h]

theorem runO_suf {kp : KP} {kh : KH} {o : Oper} {chain : List (Nat × Bool)} {σ σ' : St} (hr : runO P kp kh o chain σ = some σ') : ∃ cs, σ'.cs = cs ++ σ.cs := by
  unfold runO at hr
  split at hr
  · split at hr
    · exact ⟨[], (put_cs hr).1⟩
    · split at hr
      · split at hr
        split at hr
        · exact ⟨_, (put_cs hr).1⟩
        · cases hr
      · cases hr
  · split at hr
    · split at hr
      · exact ⟨_, (put_cs hr).1⟩
      · split at hr
        · exact ⟨_, (put_cs hr).1⟩
        · cases hr
    · cases hr
  · split at hr
    · split at hr
      · exact ⟨_, (put_cs hr).1⟩
      · cases hr
    · cases hr

theorem stepOp_suf {kp : KP} {kh : KH} {ops : Array Oper} {o : Oper} {σ σ' : St} (hr : stepOp P kp kh ops o σ = some σ') : ∃ cs, σ'.cs = cs ++ σ.cs := by
  unfold stepOp at hr
  split at hr
  · exact runO_suf hr
  · split at hr
    · cases hr
    · split at hr
      · split at hr
        rename_i t cs r hbr
        split at hr
        · obtain ⟨cs', h1⟩ := runO_suf hr
          exact ⟨cs' ++ cs, by rw [h1]; simp only [List.append_assoc]⟩
        · exact ⟨_, (put_cs hr).1⟩
      · exact ⟨[], (put_cs hr).1⟩
      · cases hr

theorem opsRun_suf {kp : KP} {kh : KH} {ops : Array Oper} : ∀ (l : List Nat) {σ σ' : St}, opsRun P kp kh ops l σ = some σ' → ∃ cs, σ'.cs = cs ++ σ.cs
  | [], σ, σ', hr => by
    simp only [opsRun, Option.some.injEq] at hr
    subst hr
    exact ⟨[], rfl⟩
  | i :: r, σ, σ', hr => by
    simp only [opsRun] at hr
    split at hr
    · exact opsRun_suf r hr
    · split at hr
      · rename_i σ1 hs
        obtain ⟨c1, e1⟩ := stepOp_suf hs
        obtain ⟨c2, e2⟩ := opsRun_suf r hr
        exact ⟨c2 ++ c1, by rw [e2, e1]; simp⟩
      · cases hr

theorem stepOp_sim {kp : KP} {kh : KH} (hkp : KPok P kp) (hkh : KHok P kh) {ops : Array Oper} {o : Oper} {σ σ' : St} {X : Ctx} {a : Act} (h : Rel X σ a)
    (hr : stepOp P kp kh ops o σ = some σ') : (∃ cs, σ'.cs = cs ++ σ.cs) ∧ ((∀ c ∈ σ'.cs, c = true) → ∀ (next : Act → World → Prop) (Q : Exit → Act → World → Prop),
      (∀ X' a', X.le X' → Rel X' σ' a' → next a' X'.w) →
      (if Region.wanted o (yielded ops a.tmps) then o.wp P a X.w next Q ∨ (o.asks P a X.w ∧ LetsOut Q) else next (a.put o.dst undef) X.w)) := by
  have nil : Holds a [] := fun g hg => by cases hg
  unfold stepOp at hr
  split at hr
  · rename_i hg
    obtain ⟨h1, h2⟩ := runO_sim hkp hkh h nil hr
    refine ⟨h1, fun hc next Q hn => ?_⟩
    rw [if_pos (wanted_none hg _)]
    exact .inl (h2 hc next Q hn)
  · rename_i j want hg
    split at hr
    · cases hr
    · rename_i s hs
      split at hr
      · rename_i b hb
        have hbv : a.tmps.getD s undef = .bool b := h.look nil hb
        split at hr
        rename_i t cs r hbr
        have hput : ∀ {cs' : List Bool}, cs' = cs ++ σ.cs → (∀ c ∈ cs', c = true) → t = b := by
          intro cs' e hall
          have := br_eq (b := b) (os := σ.os) (by
            rw [hbr]; intro q hq
            exact hall q (by rw [e]; exact List.mem_append_left _ hq))
          rw [hbr] at this
          exact this
        split at hr
        · rename_i ht
          obtain ⟨⟨cs', h1⟩, h2⟩ := runO_sim hkp hkh (h.cs r (cs ++ σ.cs)) nil hr
          refine ⟨⟨cs' ++ cs, by rw [h1]; simp⟩, fun hc next Q hn => ?_⟩
          have htb : t = b := hput rfl fun c hcm => hc c (by rw [h1]; exact List.mem_append_right _ hcm)
          rw [if_pos ((wanted_iff hg hs).2 (by rw [hbv, ← htb]; simp only [beq_iff_eq] at ht; rw [ht]))]
          exact .inl (h2 hc next Q hn)
        · rename_i ht
          have h1 := (put_cs hr).1
          refine ⟨⟨cs, h1⟩, fun hc next Q hn => ?_⟩
          have htb : t = b := hput h1 hc
          have hnw : ¬ Region.wanted o (yielded ops a.tmps) = true := fun hw => by
            have := (wanted_iff hg hs).1 hw
            rw [hbv, ← htb] at this
            simp only [Value.bool.injEq] at this
            exact ht (by simp [this])
          rw [if_neg hnw]
          exact hn X _ (.refl X) ((h.cs r (cs ++ σ.cs)).put hr (VR_undef X))
      · rename_i hb
        have hbv : a.tmps.getD s undef = undef := undef_of_VR (h.look nil hb)
        refine ⟨⟨[], (put_cs hr).1⟩, fun hc next Q hn => ?_⟩
        have hnw : ¬ Region.wanted o (yielded ops a.tmps) = true := fun hw => by
          have := (wanted_iff hg hs).1 hw
          rw [hbv] at this
          exact undef_ne _ this
        rw [if_neg hnw]
        exact hn X _ (.refl X) (h.put hr (VR_undef X))
      · cases hr

theorem opsRun_sim {kp : KP} {kh : KH} (hkp : KPok P kp) (hkh : KHok P kh) {ops : Array Oper} {Q : Exit → Act → World → Prop} : ∀ (l : List Nat) {σ σ' : St} {X : Ctx} {a : Act}, Rel X σ a →
    opsRun P kp kh ops l σ = some σ' → (∀ c ∈ σ'.cs, c = true) → (∀ X' a', X.le X' → Rel X' σ' a' → Q .normal a' X'.w) → wpOps P ops Q l a X.w
  | [], σ, σ', X, a, h, hr, hc, hq => by
    simp only [opsRun, Option.some.injEq] at hr
    subst hr
    exact hq X a (.refl X) h
  | i :: r, σ, σ', X, a, h, hr, hc, hq => by
    simp only [opsRun] at hr
    split at hr
    · rename_i hi
      simp only [wpOps, hi]
      exact opsRun_sim hkp hkh r h hr hc hq
    · rename_i o hi
      split at hr
      · rename_i σ1 hs
        obtain ⟨c2, e2⟩ := opsRun_suf r hr
        simp only [wpOps, hi]
        refine (stepOp_sim hkp hkh h hs).2 (fun c hcm => hc c (by rw [e2]; exact List.mem_append_right _ hcm)) (wpOps P ops Q r) Q fun X' a' hle h' => ?_
        exact opsRun_sim hkp hkh r h' hr hc fun X'' a'' hle' h'' => hq X'' a'' (hle.trans hle') h''
      · cases hr
end Go.Eng
