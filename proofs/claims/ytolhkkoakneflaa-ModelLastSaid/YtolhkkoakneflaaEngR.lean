import Derived.Test.YtolhkkoakneflaaEngQ
set_option linter.unusedVariables false
namespace Go.Eng
open Go Go.RowKit
variable {P : Program}

/-- Which operations must have come ahead of each, as bits. -/
def maskOf (acc : List Nat) (o : Oper) : Nat :=
  o.after.toList.foldl (fun s e => if Region.binds .any e then s ||| (2 ^ e.on ||| acc.getD e.on 0) else s) 0

def masks : List Oper → List Nat → List Nat
  | [], acc => acc
  | o :: r, acc => masks r (acc ++ [maskOf acc o])

/-- What has been done holds all that it waits for. -/
def Closed (ops : Array Oper) (S : Nat → Bool) : Prop := ∀ (j : Nat) (o : Oper), ops[j]? = some o → S j = true → ∀ e ∈ o.after, Region.binds .any e = true → S e.on = true

def MOk (ops : Array Oper) (acc : List Nat) : Prop :=
  ∀ (k m : Nat), acc[k]? = some m → ∀ S, Closed ops S → (∀ (o : Oper), ops[k]? = some o → ∀ e ∈ o.after, Region.binds .any e = true → S e.on = true) → ∀ i, m.testBit i = true → S i = true

theorem maskOf_spec {acc : List Nat} {i : Nat} : ∀ (l : List Edge) (s : Nat), (l.foldl (fun s e => if Region.binds .any e then s ||| (2 ^ e.on ||| acc.getD e.on 0) else s) s).testBit i = true →
    s.testBit i = true ∨ ∃ e ∈ l, Region.binds .any e = true ∧ (i = e.on ∨ (acc.getD e.on 0).testBit i = true)
  | [], s, h => .inl h
  | e :: l, s, h => by
    simp only [List.foldl_cons] at h
    rcases maskOf_spec l _ h with h | ⟨e', h1, h2⟩
    · split at h
      · rename_i hb
        simp only [Nat.testBit_or, Bool.or_eq_true] at h
        rcases h with h | h | h
        · exact .inl h
        · refine .inr ⟨e, List.mem_cons_self .., hb, .inl ?_⟩
          rw [Nat.testBit_two_pow] at h
          simpa using (of_decide_eq_true h).symm
        · exact .inr ⟨e, List.mem_cons_self .., hb, .inr h⟩
      · exact .inl h
    · exact .inr ⟨e', List.mem_cons_of_mem _ h1, h2⟩

theorem masks_ok {ops : Array Oper} : ∀ (l : List Oper) (acc : List Nat), (∀ (j : Nat) o, l[j]? = some o → ops[acc.length + j]? = some o) → MOk ops acc → MOk ops (masks l acc)
  | [], acc, _, h => h
  | o :: r, acc, hl, h => by
    simp only [masks]
    refine masks_ok r _ (fun j o' hj => ?_) ?_
    · have := hl (j + 1) o' (by simpa using hj)
      simp only [List.length_append, List.length_singleton]
      rw [show acc.length + 1 + j = acc.length + (j + 1) by omega]
      exact this
    · intro k m hk S hS ho i hi
      by_cases hlt : k < acc.length
      · rw [List.getElem?_append_left hlt] at hk
        exact h k m hk S hS ho i hi
      · rw [List.getElem?_append_right (by omega)] at hk
        have hk0 : k = acc.length := by
          cases hkk : k - acc.length with
          | zero => omega
          | succ n => rw [hkk] at hk; simp at hk
        subst hk0
        simp only [Nat.sub_self, List.getElem?_cons_zero, Option.some.injEq] at hk
        subst hk
        have hoo : ops[acc.length]? = some o := by simpa using hl 0 o rfl
        rcases maskOf_spec _ _ hi with h0 | ⟨e, he, hb, h1⟩
        · simp at h0
        · have heS := ho o hoo e (by simpa using he) hb
          rcases h1 with rfl | h1
          · exact heS
          · cases hm : acc[e.on]? with
            | none =>
              rw [List.getD_eq_getElem?_getD, hm] at h1
              simp at h1
            | some m' =>
              rw [List.getD_eq_getElem?_getD, hm] at h1
              simp only [Option.getD_some] at h1
              exact h e.on m' hm S hS (fun o' ho' e' he' hb' => hS e.on o' ho' heS e' he' hb') i h1

/-- Each operation's row goes with every other's. -/
def okWith (m : Nat) (r : DRec) : List DRec → Bool
  | [] => true
  | r' :: L => (!(r'.meets r) || m.testBit L.length) && okWith m r L

def okAll (ms : List Nat) : List DRec → Bool
  | [] => true
  | r :: L => okWith (ms.getD L.length 0) r L && okAll ms L

theorem okWith_spec {m : Nat} {r : DRec} {k : Nat} {r' : DRec} (L : List DRec) (h : okWith m r L = true) (he : Ent L k r') (hm : r'.meets r = true) : m.testBit k = true := by
  induction L with
  | nil => cases he
  | cons r0 L ih =>
    simp only [okWith, Bool.and_eq_true, Bool.or_eq_true, Bool.not_eq_true'] at h
    rcases he.inv with ⟨e1, e2⟩ | he
    · rw [e1]
      rw [e2] at hm
      exact h.1.resolve_left (by rw [hm]; simp)
    · exact ih h.2 he

theorem okAll_spec {ms : List Nat} (L : List DRec) (h : okAll ms L = true) {k k' : Nat} {r r' : DRec} (he : Ent L k r) (he' : Ent L k' r') (hlt : k < k') (hm : r.meets r' = true) : (ms.getD k' 0).testBit k = true := by
  induction L with
  | nil => cases he
  | cons r0 L ih =>
    simp only [okAll, Bool.and_eq_true] at h
    rcases he'.inv with ⟨e1, e2⟩ | he'
    · rcases he.inv with ⟨e3, e4⟩ | he
      · omega
      · rw [e1]
        rw [e2] at hm
        exact okWith_spec L h.1 he hm
    · have := he'.lt
      rcases he.inv with ⟨e3, e4⟩ | he
      · omega
      · exact ih h.2 he he'

def allocs : Op → Bool
  | .alloc _ | .box .. | .makeSlice .. | .convert .. => true
  | .call { callee := .builtin .append, .. } => true
  | _ => false

def nidOf (ops : Array Oper) (o : Oper) (base m n : Nat) : Nat := if allocs o.op then base + m else base + ops.size + n
def mOf (o : Oper) (m : Nat) : Nat := if allocs o.op then m + 1 else m

/-- The operations' rows, in the order of the text: the last first; how many blocks were made; the choices left; what was taken for granted. -/
def dpass (P : Program) (kp : KX) (ops : Array Oper) (nt : Nat) (T0 : Nat → Option AV) (H0 : Nat → Option AB) (base : Nat) : List Oper → List DRec → Nat → List Bool → List Bool → Option (List DRec × Nat × List Bool × List Bool)
  | [], L, m, os, cs => some (L, m, os, cs)
  | o :: r, L, m, os, cs =>
    match heapAt H0 all L (nidOf ops o base m L.length) with
    | some _ => none
    | none => match drec P kp ops o nt (slotAt T0 all L) (heapAt H0 all L) (nidOf ops o base m L.length) os with
      | some (d, cs', os') => dpass P kp ops nt T0 H0 base r (d :: L) (mOf o m) os' (cs' ++ cs)
      | none => none

def Good (P : Program) (kp : KX) (ops : Array Oper) (nt : Nat) (T0 : Nat → Option AV) (H0 : Nat → Option AB) (cs : List Bool) : List DRec → Prop
  | [] => True
  | r :: L => Good P kp ops nt T0 H0 cs L ∧ ∃ o nid os cs' os', ops[L.length]? = some o ∧ drec P kp ops o nt (slotAt T0 all L) (heapAt H0 all L) nid os = some (r, cs', os') ∧ heapAt H0 all L nid = none ∧ ∀ c ∈ cs', c ∈ cs

theorem Good.mono {kp : KX} {ops : Array Oper} {nt : Nat} {T0 : Nat → Option AV} {H0 : Nat → Option AB} {cs cs' : List Bool} (hh : ∀ c ∈ cs, c ∈ cs') : ∀ {L : List DRec}, Good P kp ops nt T0 H0 cs L → Good P kp ops nt T0 H0 cs' L
  | [], _ => trivial
  | r :: L, ⟨h1, o, nid, os, cs1, os', h2, h3, h4, h5⟩ => ⟨h1.mono hh, o, nid, os, cs1, os', h2, h3, h4, fun c hc => hh c (h5 c hc)⟩

theorem dpass_good {kp : KX} {ops : Array Oper} {nt : Nat} {T0 : Nat → Option AV} {H0 : Nat → Option AB} {base : Nat} : ∀ (l : List Oper) (L : List DRec) (m : Nat) (os cs : List Bool) {L' m' os' cs'},
    dpass P kp ops nt T0 H0 base l L m os cs = some (L', m', os', cs') → (∀ (j : Nat) o, l[j]? = some o → ops[L.length + j]? = some o) → Good P kp ops nt T0 H0 cs L →
    Good P kp ops nt T0 H0 cs' L' ∧ L'.length = L.length + l.length ∧ ∃ c2, cs' = c2 ++ cs
  | [], L, m, os, cs, L', m', os', cs', h, _, hg => by
    simp only [dpass, Option.some.injEq, Prod.mk.injEq] at h
    obtain ⟨rfl, rfl, rfl, rfl⟩ := h
    exact ⟨hg, rfl, [], rfl⟩
  | o :: r, L, m, os, cs, L', m', os', cs', h, hl, hg => by
    simp only [dpass] at h
    split at h
    · cases h
    · rename_i hn
      split at h
      · rename_i d c1 os1 hd
        have hg' : Good P kp ops nt T0 H0 (c1 ++ cs) (d :: L) :=
          ⟨hg.mono fun c hc => List.mem_append_right _ hc, o, _, os, c1, os1, by simpa using hl 0 o rfl, hd, hn, fun c hc => List.mem_append_left _ hc⟩
        obtain ⟨h1, h2, c2, h3⟩ := dpass_good r (d :: L) _ os1 (c1 ++ cs) h (fun j o' hj => by
          have := hl (j + 1) o' (by simpa using hj)
          simp only [List.length_cons]
          rw [show L.length + 1 + j = L.length + (j + 1) by omega]
          exact this) hg'
        exact ⟨h1, by rw [h2]; simp only [List.length_cons]; omega, c2 ++ c1, by rw [h3]; simp⟩
      · cases h

theorem Good.ent {kp : KX} {ops : Array Oper} {nt : Nat} {T0 : Nat → Option AV} {H0 : Nat → Option AB} {cs : List Bool} : ∀ {A B : List DRec} {r : DRec}, Good P kp ops nt T0 H0 cs (A ++ r :: B) → Good P kp ops nt T0 H0 cs (r :: B)
  | [], _, _, h => h
  | _ :: A, _, _, h => Good.ent h.1

end Go.Eng
