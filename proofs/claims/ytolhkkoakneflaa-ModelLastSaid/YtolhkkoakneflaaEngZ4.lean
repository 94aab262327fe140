import Derived.Test.YtolhkkoakneflaaEngZ3
set_option linter.unusedVariables false
namespace Go.Eng
open Go Go.RowKit
variable {P : Program}

/-! ### Loops by rounds -/

def zipT : List Nat → List AV → List (Nat × AV)
  | s :: ss, v :: vs => (s, v) :: zipT ss vs
  | _, _ => []
def stripT (ds : List Nat) : List (Nat × AV) → List (Nat × AV)
  | [] => []
  | (s, v) :: r => if isIn s ds then stripT ds r else (s, v) :: stripT ds r
def looks (tm : List (Nat × AV)) : List Nat → Option (List AV)
  | [] => some []
  | s :: ss => match lookT tm s, looks tm ss with
    | some v, some vs => some (v :: vs)
    | _, _ => none
/-- What is seen of a round: how it ends, some slots, blocks, what was taken for granted. -/
def view (slots : List Nat) : Option (XE × St) → Option (XE × List AV × List AB × List Bool)
  | some (e, σ) => match looks σ.tm slots with
    | some vs => some (e, vs, σ.hp, σ.cs)
    | none => none
  | none => none

theorem lookT_strip {ds : List Nat} {t : Nat} : ∀ (tm : List (Nat × AV)), lookT (stripT ds tm) t = if t ∈ ds then none else lookT tm t
  | [] => by simp [stripT, lookT]
  | (s, v) :: r => by
    have ih := lookT_strip (ds := ds) (t := t) r
    simp only [stripT]
    by_cases hs : isIn s ds = true
    · rw [if_pos hs, ih]
      by_cases ht : t ∈ ds
      · simp [ht]
      · have : Nat.beq s t = false := by
          rw [Bool.eq_false_iff]; intro e; simp only [Nat.beq_eq] at e; subst e; exact ht (isIn_iff.1 hs)
        simp [ht, lookT, this]
    · rw [if_neg hs]
      simp only [lookT]
      split
      · rename_i e
        simp only [Nat.beq_eq] at e; subst e
        rw [if_neg fun h => hs (isIn_iff.2 h)]
      · exact ih
theorem lookT_app {t : Nat} {b : List (Nat × AV)} : ∀ (a : List (Nat × AV)), lookT (a ++ b) t = match lookT a t with | some v => some v | none => lookT b t
  | [] => rfl
  | (s, v) :: r => by
    simp only [List.cons_append, lookT]
    split
    · rfl
    · exact lookT_app r
theorem lookT_zip_none {t : Nat} : ∀ (ss : List Nat) (vs : List AV), t ∉ ss → lookT (zipT ss vs) t = none
  | [], vs, _ => by cases vs <;> rfl
  | s :: ss, [], _ => rfl
  | s :: ss, v :: vs, h => by
    have : Nat.beq s t = false := by
      rw [Bool.eq_false_iff]; intro e; simp only [Nat.beq_eq] at e; subst e; exact h (List.mem_cons_self ..)
    simp only [zipT, lookT, this]
    exact lookT_zip_none ss vs fun hh => h (List.mem_cons_of_mem _ hh)

def Wk (hp : List AB) (v v' : AV) : Prop := ∀ X y, HRel X → (∀ i b, hp[i]? = some b → X.H i = some b) → VR X v y → VR X v' y
def Wks (hp : List AB) : List AV → List AV → Prop
  | [], [] => True
  | a :: as, b :: bs => Wk hp a b ∧ Wks hp as bs
  | _, _ => False
theorem Wk.refl {hp : List AB} {v : AV} : Wk hp v v := fun _ _ _ _ h => h
theorem Wk.of_eq {hp : List AB} {v v' : AV} (h : v = v') : Wk hp v v' := h ▸ .refl
theorem Wk.unk {hp : List AB} {v : AV} : Wk hp v (.one .unk) := fun _ _ _ _ _ => trivial
theorem Wks.refl {hp : List AB} : ∀ (l : List AV), Wks hp l l
  | [] => trivial
  | _ :: r => ⟨.refl, Wks.refl r⟩
theorem Wks.of_eq {hp : List AB} {l l' : List AV} (h : l = l') : Wks hp l l' := h ▸ .refl l
theorem Wk.shared {hp : List AB} {row : CT} {l : List row.den} {m : SM} : Wk hp (.one (.sl row l m)) (.one (.sl row l .shared)) :=
  fun X y _ _ ⟨A, n, cap, h1, h2, h3, h4, h5, _⟩ => ⟨A, n, cap, h1, h2, h3, h4, h5, trivial⟩
theorem Wk.nils {hp : List AB} {row : CT} : Wk hp (.one .nils) (.one (.sl row [] .shared)) :=
  fun X y _ _ h => ⟨none, 0, 0, h, rfl, Nat.le_refl _, Nat.zero_le _, .inl rfl, trivial⟩
theorem Wk.nils_own {hp : List AB} {row : CT} {k v : Nat} {e : TypeId} (hk : hp[k]? = some (.tok e v)) : Wk hp (.one .nils) (.one (.sl row [] (.own k v))) :=
  fun X y _ hH h => ⟨none, 0, 0, h, rfl, Nat.le_refl _, Nat.zero_le _, .inl rfl, e, v, hH _ _ hk, Nat.le_refl _, fun _ => .inl rfl⟩
theorem Wk.full_own {hp : List AB} {row : CT} {l : List row.den} {k v : Nat} {e : TypeId} (hk : hp[k]? = some (.tok e v)) : Wk hp (.one (.sl row l .full)) (.one (.sl row l (.own k v))) :=
  fun X y _ hH ⟨A, n, cap, h1, h2, h3, h4, h5, h6⟩ => ⟨A, n, cap, h1, h2, h3, h4, h5, e, v, hH _ _ hk, Nat.le_refl _, fun _ => .inl h6⟩

theorem zip_mem {t : Nat} {v : AV} : ∀ (ss : List Nat) (vs : List AV), lookT (zipT ss vs) t = some v → v ∈ vs
  | [], vs, h => by cases vs <;> cases h
  | s :: ss, [], h => by cases h
  | s :: ss, b :: bs, h => by
    simp only [zipT, lookT] at h
    split at h
    · injection h with h; subst h; exact List.mem_cons_self ..
    · exact List.mem_cons_of_mem _ (zip_mem ss bs h)
theorem zip_look {hp : List AB} {tm : List (Nat × AV)} {t : Nat} {v : AV} : ∀ (ss : List Nat) (vs vs' : List AV), looks tm ss = some vs → Wks hp vs vs' → lookT (zipT ss vs') t = some v → ∃ u, lookT tm t = some u ∧ Wk hp u v
  | [], vs, vs', _, _, h => by cases vs' <;> cases h
  | s :: ss, vs, vs', hl, hw, h => by
    simp only [looks] at hl
    split at hl
    · rename_i u us h1 h2
      injection hl with hl; subst hl
      cases vs' with
      | nil => cases hw
      | cons b bs =>
        simp only [zipT, lookT] at h
        split at h
        · rename_i e
          simp only [Nat.beq_eq] at e; subst e
          injection h with h; subst h
          exact ⟨u, h1, hw.1⟩
        · exact zip_look ss us bs h2 hw.2 h
    · cases hl

def theLoop (P : Program) (f i : Nat) : Option Code :=
  match P.funcs[f]? with
  | some fn => match fn.body with
    | some c => match (loopsOf c).filter (fun b => firstId b == some i) with
      | [b] => some b
      | _ => none
    | none => none
  | none => none

theorem theLoop_eq {f i : Nat} {body : Code} (h : theLoop P f i = some body) {fn : Func} {c : Code} (hf : P.funcs[f]? = some fn) (hb : fn.body = some c) : ∀ b ∈ loopsOf c, firstId b = some i → b = body := by
  intro b hm hi
  unfold theLoop at h
  rw [hf] at h
  simp only [hb] at h
  split at h
  · rename_i b' hfil
    injection h with h; subst h
    have : b ∈ (loopsOf c).filter (fun b => firstId b == some i) := List.mem_filter.2 ⟨hm, by rw [hi]; simp⟩
    rw [hfil] at this
    simpa using this
  · cases h
theorem theLoop_mem {f i : Nat} {body : Code} (h : theLoop P f i = some body) : ∃ fn c, P.funcs[f]? = some fn ∧ fn.body = some c ∧ body ∈ loopsOf c ∧ firstId body = some i := by
  unfold theLoop at h
  split at h
  · rename_i fn hf
    split at h
    · rename_i c hb
      split at h
      · rename_i b' hfil
        injection h with h; subst h
        have : b' ∈ (loopsOf c).filter (fun b => firstId b == some i) := by rw [hfil]; simp
        obtain ⟨h1, h2⟩ := List.mem_filter.1 this
        exact ⟨fn, c, hf, hb, h1, by simpa using h2⟩
      · cases h
    · cases h
  · cases h

theorem loopsOf_trans : ∀ (c : Code) {body b : Code}, body ∈ loopsOf c → b ∈ loopsOf body → b ∈ loopsOf c := by
  intro c
  induction c with
  | seq x y ihx ihy =>
    intro body b h1 h2
    rcases List.mem_append.1 h1 with h | h
    · exact List.mem_append_left _ (ihx h h2)
    · exact List.mem_append_right _ (ihy h h2)
  | cond c x y ihx ihy =>
    intro body b h1 h2
    rcases List.mem_append.1 h1 with h | h
    · exact List.mem_append_left _ (ihx h h2)
    · exact List.mem_append_right _ (ihy h h2)
  | block id c ih => intro body b h1 h2; exact ih h1 h2
  | scope c ih => intro body b h1 h2; exact ih h1 h2
  | loop c ih =>
    intro body b h1 h2
    rcases List.mem_cons.1 h1 with rfl | h
    · exact List.mem_cons_of_mem _ h2
    · exact List.mem_cons_of_mem _ (ih h h2)
  | skip | label | ret | exit | region | rangeFunc | goto | refuse => intro body b h1 h2; cases h1

def Env.round (E : Env P) (f : Nat) (body : Code) (σ : St) : Option (XE × St) := exec P E.kp E.kx E.kk (E.lcs f) rounds0 body σ

/-- What is known at a loop's head. -/
def headS (nt : Nat) (tm : List (Nat × AV)) (hp : List AB) (os : List Bool) : St := { tm, tg := [], hp, os, cs := [], nt, spec := false }

def idsLt (m : Nat) (vs : List AV) (hp : List AB) : Prop := (∀ v ∈ vs, ∀ i ∈ idsV v, i < m) ∧ ∀ b ∈ hp, ∀ i ∈ idsB b, i < m

def viewT (m : Nat) (slots : List Nat) : Option (XE × St) → Option (XE × List AV × List AB × List Bool)
  | some (e, σ) => match looks σ.tm slots with
    | some vs => some (e, vs, σ.hp.take m, σ.cs)
    | none => none
  | none => none
/-- A round: what is seen of it, at any rest; it goes on to another state of the same make, or ends the loop. -/
def OneRound (E : Env P) (f : Nat) (body : Code) (nt m : Nat) (slots : List Nat) (known : List (Nat × AV)) {S : Type} (vals : S → List AV) (hp : S → List AB) (Inv : S → Prop) (mu : S → Nat) (e : XE) (outs : List AV) (hpo : List AB) (s : S) : Prop :=
  ∃ os e' vs, ∀ rest, ∃ σ', E.round f body (headS nt (zipT slots (vals s) ++ (known ++ rest)) (hp s) os) = some (e', σ') ∧ looks σ'.tm slots = some vs ∧ (∀ c ∈ σ'.cs, c = true) ∧
    ((e' = .normal ∧ ∃ s', Inv s' ∧ mu s' < mu s ∧ Wks (σ'.hp.take m) vs (vals s') ∧ σ'.hp.take m = hp s' ∧ (σ'.hp.length ≤ m ∨ idsLt m (vals s') (hp s'))) ∨
     (e' = e ∧ e ≠ .normal ∧ Wks (σ'.hp.take m) vs outs ∧ σ'.hp.take m = hpo ∧ (σ'.hp.length ≤ m ∨ idsLt m outs hpo)))

theorem looks_of_view {slots : List Nat} {r : Option (XE × St)} {e : XE} {vs : List AV} {hp : List AB} {cs : List Bool} (h : view slots r = some (e, vs, hp, cs)) : ∃ σ, r = some (e, σ) ∧ looks σ.tm slots = some vs ∧ σ.hp = hp ∧ σ.cs = cs := by
  unfold view at h
  split at h
  · rename_i e' σ
    split at h
    · rename_i vs' hl
      simp only [Option.some.injEq, Prod.mk.injEq] at h
      obtain ⟨rfl, rfl, rfl, rfl⟩ := h
      exact ⟨σ, rfl, hl, rfl, rfl⟩
    · cases h
  · cases h
theorem looks_of_viewT {m : Nat} {slots : List Nat} {r : Option (XE × St)} {e : XE} {vs : List AV} {hp : List AB} {cs : List Bool} (h : viewT m slots r = some (e, vs, hp, cs)) : ∃ σ, r = some (e, σ) ∧ looks σ.tm slots = some vs ∧ σ.hp.take m = hp ∧ σ.cs = cs := by
  unfold viewT at h
  split at h
  · rename_i e' σ
    split at h
    · rename_i vs' hl
      simp only [Option.some.injEq, Prod.mk.injEq] at h
      obtain ⟨rfl, rfl, rfl, rfl⟩ := h
      exact ⟨σ, rfl, hl, rfl, rfl⟩
    · cases h
  · cases h

theorem OneRound.go {E : Env P} {f : Nat} {body : Code} {nt m : Nat} {slots : List Nat} {known : List (Nat × AV)} {S : Type} {vals : S → List AV} {hp : S → List AB} {Inv : S → Prop} {mu : S → Nat} {e : XE} {outs : List AV} {hpo : List AB} {s : S}
    (os : List Bool) {vs : List AV} {hp' : List AB} {cs : List Bool} (hv : ∀ rest, view slots (E.round f body (headS nt (zipT slots (vals s) ++ (known ++ rest)) (hp s) os)) = some (.normal, vs, hp', cs)) (hcs : ∀ c ∈ cs, c = true)
    (s' : S) (hI : Inv s') (hmu : mu s' < mu s) (hw : Wks (hp'.take m) vs (vals s')) (htk : hp'.take m = hp s') (hi : hp'.length ≤ m ∨ idsLt m (vals s') (hp s')) : OneRound E f body nt m slots known vals hp Inv mu e outs hpo s :=
  ⟨os, .normal, vs, fun rest => by
    obtain ⟨σ, h1, h2, h3, h4⟩ := looks_of_view (hv rest)
    subst h3; subst h4
    exact ⟨σ, h1, h2, hcs, .inl ⟨rfl, s', hI, hmu, hw, htk, hi⟩⟩⟩
theorem OneRound.stop {E : Env P} {f : Nat} {body : Code} {nt m : Nat} {slots : List Nat} {known : List (Nat × AV)} {S : Type} {vals : S → List AV} {hp : S → List AB} {Inv : S → Prop} {mu : S → Nat} {e : XE} {outs : List AV} {hpo : List AB} {s : S}
    (os : List Bool) {vs : List AV} {hp' : List AB} {cs : List Bool} (hv : ∀ rest, view slots (E.round f body (headS nt (zipT slots (vals s) ++ (known ++ rest)) (hp s) os)) = some (e, vs, hp', cs)) (hcs : ∀ c ∈ cs, c = true)
    (hne : e ≠ .normal) (hw : Wks (hp'.take m) vs outs) (htk : hp'.take m = hpo) (hi : hp'.length ≤ m ∨ idsLt m outs hpo) : OneRound E f body nt m slots known vals hp Inv mu e outs hpo s :=
  ⟨os, e, vs, fun rest => by
    obtain ⟨σ, h1, h2, h3, h4⟩ := looks_of_view (hv rest)
    subst h3; subst h4
    exact ⟨σ, h1, h2, hcs, .inr ⟨rfl, hne, hw, htk, hi⟩⟩⟩
/-- The same, blocks seen up to a number. -/
theorem OneRound.goT {E : Env P} {f : Nat} {body : Code} {nt m : Nat} {slots : List Nat} {known : List (Nat × AV)} {S : Type} {vals : S → List AV} {hp : S → List AB} {Inv : S → Prop} {mu : S → Nat} {e : XE} {outs : List AV} {hpo : List AB} {s : S}
    (os : List Bool) {vs : List AV} {hp' : List AB} {cs : List Bool} (hv : ∀ rest, viewT m slots (E.round f body (headS nt (zipT slots (vals s) ++ (known ++ rest)) (hp s) os)) = some (.normal, vs, hp', cs)) (hcs : ∀ c ∈ cs, c = true)
    (s' : S) (hI : Inv s') (hmu : mu s' < mu s) (hw : Wks hp' vs (vals s')) (htk : hp' = hp s') (hi : idsLt m (vals s') (hp s')) : OneRound E f body nt m slots known vals hp Inv mu e outs hpo s :=
  ⟨os, .normal, vs, fun rest => by
    obtain ⟨σ, h1, h2, h3, h4⟩ := looks_of_viewT (hv rest)
    subst h3; subst h4
    exact ⟨σ, h1, h2, hcs, .inl ⟨rfl, s', hI, hmu, hw, htk, .inr hi⟩⟩⟩
theorem OneRound.stopT {E : Env P} {f : Nat} {body : Code} {nt m : Nat} {slots : List Nat} {known : List (Nat × AV)} {S : Type} {vals : S → List AV} {hp : S → List AB} {Inv : S → Prop} {mu : S → Nat} {e : XE} {outs : List AV} {hpo : List AB} {s : S}
    (os : List Bool) {vs : List AV} {hp' : List AB} {cs : List Bool} (hv : ∀ rest, viewT m slots (E.round f body (headS nt (zipT slots (vals s) ++ (known ++ rest)) (hp s) os)) = some (e, vs, hp', cs)) (hcs : ∀ c ∈ cs, c = true)
    (hne : e ≠ .normal) (hw : Wks hp' vs outs) (htk : hp' = hpo) (hi : idsLt m outs hpo) : OneRound E f body nt m slots known vals hp Inv mu e outs hpo s :=
  ⟨os, e, vs, fun rest => by
    obtain ⟨σ, h1, h2, h3, h4⟩ := looks_of_viewT (hv rest)
    subst h3; subst h4
    exact ⟨σ, h1, h2, hcs, .inr ⟨rfl, hne, hw, htk, .inr hi⟩⟩⟩

/-- A list's length fits. -/
theorem sl_len {X : Ctx} {row : CT} {l : List row.den} {m : SM} {y : Value} (h : VR X (.one (.sl row l m)) y) : l.length ≤ maxLen := by
  obtain ⟨A, n, cap, _, h2, h3, h4, _⟩ := h
  omega

theorem Rel.head {X' : Ctx} {σ' : St} {a' : Act} (h : Rel X' σ' a') {nt m : Nat} {ds slots : List Nat} (hss : ∀ t ∈ slots, t ∈ ds) {vals vs vs' : List AV} {rest : List (Nat × AV)} {hp : List AB} {os : List Bool}
    (hk : Keeps ds (headS nt (zipT slots vals ++ rest) hp os) σ') (hl : looks σ'.tm slots = some vs) (hw : Wks (σ'.hp.take m) vs vs') (hrest : ∀ t ∈ ds, lookT rest t = none) (hids : ∀ t v, lookT rest t = some v → ∀ i ∈ idsV v, i < m)
    (hi : σ'.hp.length ≤ m ∨ idsLt m vs' (σ'.hp.take m)) (os' : List Bool) : Rel (X'.cut m) (headS nt (zipT slots vs' ++ rest) (σ'.hp.take m) os') a' := by
  have hH : X'.H = fun i => σ'.hp[i]? := h.heap
  have hlt : ∀ i, X'.H i ≠ none → i < σ'.hp.length := fun i hi => by
    rw [hH] at hi
    by_cases hlt : i < σ'.hp.length
    · exact hlt
    · exact absurd (List.getElem?_eq_none (by omega)) hi
  refine ⟨h.hrel.cut fun i b him hb j hj => ?_, ?_, h.size.trans hk.nt, h.defers, fun t v hv => ?_, fun t s w v hv => by cases hv⟩
  · rcases hi with hi | hi
    · exact Nat.lt_of_lt_of_le (hlt j (BRel.has (h.hrel.blk i b hb) j hj)) hi
    · refine hi.2 b ?_ j hj
      rw [hH] at hb
      exact List.mem_of_getElem? (i := i) (by rw [List.getElem?_take, if_pos him]; exact hb)
  · funext i
    simp only [Ctx.cut, hH, headS, St.H, List.getElem?_take]
  · simp only [headS] at hv
    rw [lookT_app] at hv
    split at hv
    · rename_i v' hz
      injection hv with hv; subst hv
      obtain ⟨u, hu1, hu2⟩ := zip_look slots vs vs' hl hw hz
      have h1 := hu2 X' _ h.hrel (fun i b hb => by
        rw [List.getElem?_take] at hb
        split at hb
        · rw [hH]; exact hb
        · cases hb) (h.tm t u hu1)
      refine VR.cut _ _ (fun i hi' => ?_) h1
      rcases hi with hi | hi
      · exact Nat.lt_of_lt_of_le (hlt i (VR.has _ _ h1 i hi')) hi
      · refine hi.1 v' ?_ i hi'
        exact zip_mem slots vs' hz
    · have htd : t ∉ ds := fun ht => by rw [hrest t ht] at hv; cases hv
      have h0 := hk.tm t htd
      simp only [headS] at h0
      rw [lookT_app, lookT_zip_none _ _ (fun hh => htd (hss t hh))] at h0
      simp only at h0
      exact VR.cut _ _ (hids t v hv) (h.tm t v (h0.trans hv))

theorem rounds_ok (E : Env P) {f nt m : Nat} {body : Code} (hlc : LCok P (E.lcs f) body) (hkp : LCkeep (E.lcs f) body) {slots : List Nat} (hss : ∀ t ∈ slots, t ∈ dstsC body) {known : List (Nat × AV)} {S : Type} {vals : S → List AV} {hp : S → List AB} {Inv : S → Prop} {mu : S → Nat} {e : XE} {outs : List AV} {hpo : List AB}
    (step : ∀ s, Inv s → OneRound E f body nt m slots known vals hp Inv mu e outs hpo s) {rest : List (Nat × AV)} (hrest : ∀ t ∈ dstsC body, lookT (known ++ rest) t = none) (hids : ∀ t v, lookT (known ++ rest) t = some v → ∀ i ∈ idsV v, i < m)
    {X0 : Ctx} (hm : ∀ i, m ≤ i → X0.H i = none) : ∀ (n : Nat) (s : S), mu s < n → Inv s → ∀ {X : Ctx} {a : Act} {Q : Exit → Act → World → Prop}, X0.le X → Rel X (headS nt (zipT slots (vals s) ++ (known ++ rest)) (hp s) []) a →
      (∀ X' a', X0.le X' → Rel X' (headS nt (zipT slots outs ++ (known ++ rest)) hpo []) a' → Q e.out a' X'.w) → LoopAt P body Q a X.w
  | 0, s, h, _ => by omega
  | n + 1, s, hn, hI => by
    rename_i X a Q
    intro h0 hr hq
    obtain ⟨os, e', vs, hview⟩ := step s hI
    obtain ⟨σ', hex, hl, hcs, hend⟩ := hview rest
    refine LoopAt.round ?_
    have hr' : Rel X (headS nt (zipT slots (vals s) ++ (known ++ rest)) (hp s) os) a := hr.cs os []
    have hk := exec_keeps body hkp hex
    refine exec_sim E.hm E.hkp E.kx_ok E.kk_ok body hlc hex hcs hr' fun X' a' hle hrel => ?_
    rcases hend with ⟨rfl, s', hI', hmu, hw, htk, hi⟩ | ⟨rfl, hne, hw, htk, hi⟩
    · have := hrel.head (m := m) (vs' := vals s') hss hk hl hw hrest hids (by rw [htk]; exact hi) []
      rw [htk] at this
      exact rounds_ok E hlc hkp hss step hrest hids hm n s' (by omega) hI' (X := X'.cut m) (cut_le (h0.trans hle) hm) this hq
    · have := hrel.head (m := m) (vs' := outs) hss hk hl hw hrest hids (by rw [htk]; exact hi) []
      rw [htk] at this
      have := hq (X'.cut m) a' (cut_le (h0.trans hle) hm) this
      cases e' with
      | normal => exact absurd rfl hne
      | exit i => exact this
      | ret => exact this

/-- From these slots and blocks at its head, at any rest, a loop comes to this. -/
def LoopOk (P : Program) (body : Code) (nt : Nat) (slots ro : List Nat) (vals rov : List AV) (hp : List AB) (e : XE) (outs : List AV) (hp' : List AB) : Prop :=
  ∀ X a rest, (∀ t ∈ dstsC body, lookT (zipT ro rov ++ rest) t = none) → Rel X (headS nt (zipT slots vals ++ (zipT ro rov ++ rest)) hp []) a →
    ∀ Q : Exit → Act → World → Prop, (∀ X' a', X.le X' → Rel X' (headS nt (zipT slots outs ++ (zipT ro rov ++ rest)) hp' []) a' → Q e.out a' X'.w) → LoopAt P body Q a X.w

theorem LoopOk.rounds (E : Env P) {f i nt : Nat} {body : Code} (hb : theLoop P f i = some body) {slots ro : List Nat} (hss : (slots.all fun t => isIn t (dstsC body)) = true) {rov : List AV} {S : Type} (vals : S → List AV) (hp : S → List AB) (Inv : S → Prop) (mu : S → Nat) {e : XE} {outs : List AV} {hpo : List AB} (s : S) (hI : Inv s)
    (step : ∀ s, Inv s → OneRound E f body nt (hp s).length slots (zipT ro rov) vals hp Inv mu e outs hpo s) (hlen : ∀ s', Inv s' → (hp s').length = (hp s).length) : LoopOk P body nt slots ro (vals s) rov (hp s) e outs hpo := by
  intro X a rest hrest hr Q hq
  obtain ⟨fn, c, hf, hbd, hmem, hfi⟩ := theLoop_mem hb
  have hlc : LCok P (E.lcs f) body := fun b hb' => E.hlc f fn c hf hbd b (loopsOf_trans c hmem hb')
  have hkp : LCkeep (E.lcs f) body := fun b hb' => E.hkeep f fn c hf hbd b (loopsOf_trans c hmem hb')
  have hss' : ∀ t ∈ slots, t ∈ dstsC body := fun t ht => isIn_iff.1 (List.all_eq_true.1 hss t ht)
  have hH : X.H = fun i => (hp s)[i]? := hr.heap
  refine rounds_ok E (m := (hp s).length) hlc hkp hss' (fun s' hs' => by have := step s' hs'; rw [hlen s' hs'] at this; exact this) hrest (fun t v hv i hi => ?_) (fun i hi => by rw [hH]; exact List.getElem?_eq_none hi) (mu s + 1) s (by omega) hI (.refl X) hr hq
  have ht : t ∉ dstsC body := fun ht => by rw [hrest t ht] at hv; cases hv
  have h1 := hr.tm t v (by simp only [headS]; rw [lookT_app, lookT_zip_none _ _ (fun hh => ht (hss' t hh))]; exact hv)
  have h2 := VR.has _ _ h1 i hi
  rw [hH] at h2
  by_cases hlt : i < (hp s).length
  · exact hlt
  · exact absurd (List.getElem?_eq_none (by omega)) h2

/-- What is known at the head may be used. -/
theorem LoopOk.facts {body : Code} {nt : Nat} {slots ro : List Nat} {vals rov : List AV} {hp : List AB} {e : XE} {outs : List AV} {hp' : List AB}
    (hns : slots.Nodup) (hnr : ro.Nodup) (hd : ∀ t ∈ ro, t ∉ slots) (hls : vals.length = slots.length) (hlr : rov.length = ro.length)
    (h : (∃ X, HRel X ∧ (X.H = fun i => hp[i]?) ∧ (∀ v ∈ vals, ∃ y, VR X v y) ∧ ∀ v ∈ rov, ∃ y, VR X v y) → LoopOk P body nt slots ro vals rov hp e outs hp') : LoopOk P body nt slots ro vals rov hp e outs hp' := by
  intro X a rest hrest hr Q hq
  have key : ∀ (ss : List Nat) (vs : List AV), ss.Nodup → vs.length = ss.length → ∀ v ∈ vs, ∃ t ∈ ss, lookT (zipT ss vs) t = some v := by
    intro ss
    induction ss with
    | nil => intro vs _ hl v hv; cases vs with | nil => cases hv | cons _ _ => simp at hl
    | cons s ss ih =>
      intro vs hnd hl v hv
      cases vs with
      | nil => cases hv
      | cons b bs =>
        rcases List.mem_cons.1 hv with rfl | hv
        · exact ⟨s, List.mem_cons_self .., by simp [zipT, lookT]⟩
        · obtain ⟨t, ht, hl'⟩ := ih bs (List.nodup_cons.1 hnd).2 (by simpa using hl) v hv
          refine ⟨t, List.mem_cons_of_mem _ ht, ?_⟩
          have : Nat.beq s t = false := by
            rw [Bool.eq_false_iff]; intro e; simp only [Nat.beq_eq] at e; subst e; exact (List.nodup_cons.1 hnd).1 ht
          simp only [zipT, lookT, this]; exact hl'
  refine h ⟨X, hr.hrel, hr.heap, fun v hv => ?_, fun v hv => ?_⟩ X a rest hrest hr Q hq
  · obtain ⟨t, _, hl⟩ := key slots vals hns hls v hv
    exact ⟨_, hr.tm t v (by simp only [headS]; rw [lookT_app, hl])⟩
  · obtain ⟨t, ht, hl⟩ := key ro rov hnr hlr v hv
    exact ⟨_, hr.tm t v (by simp only [headS]; rw [lookT_app, lookT_zip_none _ _ (hd t ht), lookT_app, hl])⟩

/-- Less may be known at the head, more behind the loop. -/
theorem LoopOk.weaken {body : Code} {nt : Nat} {slots ro : List Nat} {vals vals' rov rov' : List AV} {hp : List AB} {e : XE} {outs : List AV} {hp' : List AB} (hw : Wks hp vals vals') (hr : Wks hp rov rov')
    (h : LoopOk P body nt slots ro vals' rov' hp e outs hp') (hro : rov = rov' ∨ True := .inr trivial) : ∀ X a rest, (∀ t ∈ dstsC body, lookT (zipT ro rov' ++ rest) t = none) → Rel X (headS nt (zipT slots vals ++ (zipT ro rov ++ rest)) hp []) a →
    ∀ Q : Exit → Act → World → Prop, (∀ X' a', X.le X' → Rel X' (headS nt (zipT slots outs ++ (zipT ro rov' ++ rest)) hp' []) a' → Q e.out a' X'.w) → LoopAt P body Q a X.w := by
  intro X a rest hrest hrel Q hq
  have key : ∀ (ss : List Nat) (us us' : List AV) (r r' : List (Nat × AV)), Wks hp us us' → (∀ t v, lookT r' t = some v → ∃ u, lookT r t = some u ∧ Wk hp u v) → ∀ t v, lookT (zipT ss us' ++ r') t = some v → ∃ u, lookT (zipT ss us ++ r) t = some u ∧ Wk hp u v := by
    intro ss
    induction ss with
    | nil => intro us us' r r' _ hh t v hv; cases us <;> cases us' <;> exact hh t v hv
    | cons s ss ih =>
      intro us us' r r' hw hh t v hv
      cases us with
      | nil => cases us' with
        | nil => exact hh t v hv
        | cons _ _ => cases hw
      | cons b bs => cases us' with
        | nil => cases hw
        | cons b' bs' =>
          simp only [zipT, List.cons_append, lookT] at hv ⊢
          by_cases e : s.beq t = true
          · rw [if_pos e] at hv ⊢
            injection hv with hv; subst hv
            exact ⟨b, rfl, hw.1⟩
          · rw [if_neg e] at hv ⊢
            exact ih bs bs' r r' hw.2 hh t v hv
  refine h X a rest hrest ⟨hrel.hrel, hrel.heap, hrel.size, hrel.defers, fun t v hv => ?_, fun t s w v hv => by cases hv⟩ Q hq
  obtain ⟨u, h1, h2⟩ := key slots vals vals' _ _ hw (key ro rov rov' rest rest hr fun t v hv => ⟨v, hv, .refl⟩) t v hv
  exact h2 X _ hrel.hrel (fun i b hb => by rw [hrel.heap]; exact hb) (hrel.tm t u h1)

/-- A token for a list that grows in the loop. -/
theorem LoopOk.coin {body : Code} {nt : Nat} {slots ro : List Nat} {vals vals' rov : List AV} {hp : List AB} (ty : TypeId) {e : XE} {outs : List AV} {hp' : List AB} (hw : Wks (hp ++ [.tok ty 0]) vals vals')
    (h : LoopOk P body nt slots ro vals' rov (hp ++ [.tok ty 0]) e outs hp') : LoopOk P body nt slots ro vals rov hp e outs hp' := by
  intro X a rest hrest hr Q hq
  have hH : X.H = fun i => hp[i]? := hr.heap
  have hn : X.H hp.length = none := by rw [hH]; exact List.getElem?_eq_none (Nat.le_refl _)
  have hle := coin_le (e := ty) hn
  have hH' : (X.coin hp.length ty).H = fun i => (hp ++ [AB.tok ty 0])[i]? := by
    funext i
    simp only [Ctx.coin, upd, hH]
    by_cases hi : i = hp.length
    · subst hi; simp
    · rw [if_neg hi]
      by_cases hlt : i < hp.length
      · rw [List.getElem?_append_left hlt]
      · rw [List.getElem?_eq_none (by omega), List.getElem?_eq_none (by simp; omega)]
  refine LoopOk.weaken (rov := rov) (rov' := rov) hw (.refl _) h (.inr trivial) (X.coin hp.length ty) a rest hrest ?_ Q fun X' a' hle' hr' => hq X' a' (hle.trans hle') hr'
  exact ⟨hr.hrel.coin hn, hH', hr.size, hr.defers, fun t v hv => VR.mono hle _ _ (hr.tm t v hv), fun t s w v hv => by cases hv⟩

def mkLC (nt : Nat) (ds slots ro : List Nat) (fn : List AV → List AV → List AB → List Bool → Option ((XE × List AV × List AB) × List Bool × List Bool)) (σ : St) : Option (XE × St) :=
  if Nat.beq σ.nt nt && !σ.spec then
    match looks σ.tm slots, looks σ.tm ro with
    | some vals, some rov => match fn vals rov σ.hp σ.os with
      | some ((e, outs, hp'), cs, os') => some (e, { σ with tm := zipT slots outs ++ stripT ds σ.tm, tg := [], hp := hp', os := os', cs := cs ++ σ.cs })
      | none => none
    | _, _ => none
  else none

theorem mkLC_keeps {nt : Nat} {ds slots ro : List Nat} {fn} {σ σ' : St} {e : XE} (hss : ∀ t ∈ slots, t ∈ ds) (h : mkLC nt ds slots ro fn σ = some (e, σ')) : Keeps ds σ σ' := by
  unfold mkLC at h
  split at h
  · split at h
    · split at h
      · simp only [Option.some.injEq, Prod.mk.injEq] at h
        obtain ⟨rfl, rfl⟩ := h
        refine ⟨rfl, rfl, fun _ => rfl, fun t ht => ?_⟩
        simp only
        rw [lookT_app, lookT_zip_none _ _ fun hh => ht (hss t hh)]
        simp only
        rw [lookT_strip, if_neg ht]
      · cases h
    · cases h
  · cases h

theorem looks_look {tm : List (Nat × AV)} {t : Nat} {v : AV} : ∀ (ss : List Nat) (vs : List AV), looks tm ss = some vs → lookT (zipT ss vs) t = some v → lookT tm t = some v
  | [], vs, _, h => by cases vs <;> cases h
  | s :: ss, vs, hl, h => by
    simp only [looks] at hl
    split at hl
    · rename_i u us h1 h2
      injection hl with hl; subst hl
      simp only [zipT, lookT] at h
      split at h
      · rename_i e
        simp only [Nat.beq_eq] at e; subst e
        injection h with h; subst h
        exact h1
      · exact looks_look ss us h2 h
    · cases hl

/-- A loop's contract more. -/
theorem mkLC_sim {nt : Nat} {body : Code} {slots ro : List Nat} {fn} (hss : ∀ t ∈ slots, t ∈ dstsC body) (hro : ∀ t ∈ ro, t ∉ dstsC body)
    (ok : ∀ vals rov hp os e outs hp' cs os', fn vals rov hp os = some ((e, outs, hp'), cs, os') → (∀ c ∈ cs, c = true) → LoopOk P body nt slots ro vals rov hp e outs hp') {σ σ' : St} {e : XE} (h : mkLC nt (dstsC body) slots ro fn σ = some (e, σ')) :
    (∃ cs, σ'.cs = cs ++ σ.cs) ∧ ((∀ c ∈ σ'.cs, c = true) → LoopSim P body σ e σ') := by
  unfold mkLC at h
  split at h
  · rename_i hnt
    simp only [Bool.and_eq_true, Nat.beq_eq, Bool.not_eq_true'] at hnt
    split at h
    · rename_i vals rov hv hrv
      split at h
      · rename_i e0 outs hp' cs os' hfn
        simp only [Option.some.injEq, Prod.mk.injEq] at h
        obtain ⟨rfl, rfl⟩ := h
        refine ⟨⟨cs, rfl⟩, fun hc X a Q hrel hq => ?_⟩
        have hc' : ∀ c ∈ cs, c = true := fun c hcc => hc c (List.mem_append_left _ hcc)
        refine ok vals rov σ.hp σ.os e0 outs hp' cs os' hfn hc' X a (stripT (dstsC body) σ.tm) ?_ ?_ Q fun X' a' hle hr' => hq X' a' hle ?_
        · intro t ht
          rw [lookT_app, lookT_zip_none _ _ fun hh => hro t hh ht, lookT_strip, if_pos ht]
        · refine ⟨hrel.hrel, hrel.heap, by rw [hrel.size, hnt.1]; rfl, hrel.defers, fun t v hv' => ?_, fun t s w v hv' => by cases hv'⟩
          simp only [headS] at hv'
          rw [lookT_app] at hv'
          split at hv'
          · rename_i v' hz
            injection hv' with hv'; subst hv'
            exact hrel.tm t v' (looks_look slots vals hv hz)
          · rw [lookT_app] at hv'
            split at hv'
            · rename_i v' hz
              injection hv' with hv'; subst hv'
              exact hrel.tm t v' (looks_look ro rov hrv hz)
            · rw [lookT_strip] at hv'
              split at hv'
              · cases hv'
              · exact hrel.tm t v hv'
        · refine ⟨hr'.hrel, hr'.heap, by rw [hr'.size, hnt.1]; rfl, hr'.defers, fun t v hv' => ?_, fun t s w v hv' => by cases hv'⟩
          simp only at hv'
          refine hr'.tm t v ?_
          simp only [headS]
          rw [lookT_app] at hv' ⊢
          split at hv'
          · exact hv'
          · rename_i hz
            rw [lookT_app]
            by_cases ht : t ∈ ro
            · rw [lookT_strip, if_neg (hro t ht)] at hv'
              have : lookT (zipT ro rov) t = some v := by
                clear hfn ok hr'
                induction ro generalizing rov with
                | nil => cases ht
                | cons s ss ih =>
                  simp only [looks] at hrv
                  split at hrv
                  · rename_i u us h1 h2
                    injection hrv with hrv; subst hrv
                    simp only [zipT, lookT]
                    by_cases hs : s = t
                    · subst hs
                      rw [h1] at hv'
                      injection hv' with hv'; subst hv'
                      simp
                    · have : Nat.beq s t = false := by
                        rw [Bool.eq_false_iff]; intro e; simp only [Nat.beq_eq] at e; exact hs e
                      simp only [this]
                      rcases List.mem_cons.1 ht with h' | h'
                      · exact absurd h'.symm hs
                      · exact ih (fun t ht => hro t (List.mem_cons_of_mem _ ht)) us h2 h'
                  · cases hrv
              rw [this]
            · rw [lookT_zip_none _ _ ht]; exact hv'
      · cases h
    · cases h
  · cases h

def addLC (lcs : Nat → LC) (f i : Nat) (lc : St → Option (XE × St)) : Nat → LC := fun g j σ =>
  if Nat.beq g f && Nat.beq j i then match lc σ with
    | some r => some r
    | none => lcs g j σ
  else lcs g j σ

def Env.addL (E : Env P) (f i : Nat) {body : Code} (hb : theLoop P f i = some body) (nt : Nat) (slots ro : List Nat) (chk : (slots.all (fun t => isIn t (dstsC body)) && ro.all fun t => !isIn t (dstsC body)) = true)
    (fn : List AV → List AV → List AB → List Bool → Option ((XE × List AV × List AB) × List Bool × List Bool))
    (ok : ∀ vals rov hp os e outs hp' cs os', fn vals rov hp os = some ((e, outs, hp'), cs, os') → (∀ c ∈ cs, c = true) → LoopOk P body nt slots ro vals rov hp e outs hp') : Env P :=
  have hss : ∀ t ∈ slots, t ∈ dstsC body := fun t ht => by
    simp only [Bool.and_eq_true, List.all_eq_true] at chk
    exact isIn_iff.1 (chk.1 t ht)
  have hro : ∀ t ∈ ro, t ∉ dstsC body := fun t ht hh => by
    simp only [Bool.and_eq_true, List.all_eq_true] at chk
    have := chk.2 t ht
    rw [isIn_iff.2 hh] at this; cases this
  { E with
    lcs := addLC E.lcs f i (mkLC nt (dstsC body) slots ro fn)
    hlc := fun g gn c hg hc b hbm j hj σ e σ' h => by
      unfold addLC at h
      split at h
      · rename_i hgj
        simp only [Bool.and_eq_true, Nat.beq_eq] at hgj
        obtain ⟨rfl, rfl⟩ := hgj
        split at h
        · rename_i r hr
          injection h with h; subst h
          have : b = body := theLoop_eq hb hg hc b hbm hj
          subst this
          exact mkLC_sim hss hro ok hr
        · exact E.hlc g gn c hg hc b hbm j hj σ e σ' h
      · exact E.hlc g gn c hg hc b hbm j hj σ e σ' h
    hkeep := fun g gn c hg hc b hbm j hj σ e σ' h => by
      unfold addLC at h
      split at h
      · rename_i hgj
        simp only [Bool.and_eq_true, Nat.beq_eq] at hgj
        obtain ⟨rfl, rfl⟩ := hgj
        split at h
        · rename_i r hr
          injection h with h; subst h
          have : b = body := theLoop_eq hb hg hc b hbm hj
          subst this
          exact mkLC_keeps hss hr
        · exact E.hkeep g gn c hg hc b hbm j hj σ e σ' h
      · exact E.hkeep g gn c hg hc b hbm j hj σ e σ' h }

/-! Slots that a loop only reads are taken as they are. -/
inductive RT where
  | one (t : CT) | sl (row : CT) | any
abbrev RT.den : RT → Type
  | .one t => t.den
  | .sl row => List row.den × SM
  | .any => AV
def RT.enc : (t : RT) → t.den → AV
  | .one t, v => .one (oneAC t v)
  | .sl row, v => .one (.sl row v.1 v.2)
  | .any, v => v
def RT.dec : (t : RT) → AV → Option t.den
  | .one (.int k), .one (.int k' n) => if (CT.int k).eqb (.int k') then some n else none
  | .one .bool, .one (.bool b) => some b
  | .one .str, .one (.str s) => some s
  | .sl row, .one (.sl row' l m) => if h : row'.eqb row = true then some (castL row' row h l, m) else none
  | .any, v => some v
  | _, _ => none
theorem RT.dec_eq (t : RT) {a : AV} {d : t.den} (h : t.dec a = some d) : a = t.enc d := by
  unfold RT.dec at h
  split at h
  · split at h
    · rename_i k k' n he
      injection h with h; subst h
      have e := CT.eq_of_eqb _ _ he
      injection e with e; subst e; rfl
    · cases h
  · injection h with h; subst h; rfl
  · injection h with h; subst h; rfl
  · split at h
    · rename_i row row' l m he
      injection h with h; subst h
      have e := CT.eq_of_eqb _ _ he
      subst e; rfl
    · cases h
  · injection h with h
  · cases h
abbrev rdens : List RT → Type
  | [] => Unit
  | t :: r => t.den × rdens r
def rencs : (l : List RT) → rdens l → List AV
  | [], _ => []
  | t :: r, d => t.enc d.1 :: rencs r d.2
def rdecs : (l : List RT) → List AV → Option (rdens l)
  | [], [] => some ()
  | t :: r, a :: as => match t.dec a, rdecs r as with
    | some x, some y => some (x, y)
    | _, _ => none
  | _, _ => none
theorem rdecs_eq : ∀ (l : List RT) {args : List AV} {d : rdens l}, rdecs l args = some d → args = rencs l d
  | [], [], _, _ => rfl
  | [], _ :: _, _, h => by cases h
  | _ :: _, [], _, h => by cases h
  | t :: r, a :: as, d, h => by
    simp only [rdecs] at h
    split at h
    · rename_i x y h1 h2
      injection h with h; subst h
      simp only [rencs]
      rw [← RT.dec_eq t h1, ← rdecs_eq r h2]
    · cases h

theorem decs_wks {hp : List AB} : ∀ (sg : List PT) (us : List AV) (d : dens sg), decs sg us = some d → Wks hp us (encs sg d)
  | [], [], _, _ => trivial
  | [], _ :: _, _, h => by cases h
  | _ :: _, [], _, h => by cases h
  | p :: sg, u :: us, d, h => by
    simp only [decs] at h
    split at h
    · rename_i x y h1 h2
      injection h with h; subst h
      exact ⟨fun X y _ _ hy => PT.dec_rel p h1 hy, decs_wks sg us _ h2⟩
    · cases h

/-- A loop's contract more, typed. -/
def Env.addLT (E : Env P) (f i : Nat) {body : Code} (hb : theLoop P f i = some body) (nt : Nat) (slots ro : List Nat) (chk : (slots.all (fun t => isIn t (dstsC body)) && ro.all fun t => !isIn t (dstsC body)) = true)
    (sig : List PT) (rsig : List RT) (res : dens sig → rdens rsig → List AB → List Bool → Option ((XE × List AV × List AB) × List Bool × List Bool))
    (ok : ∀ d r hp os e outs hp' cs os', res d r hp os = some ((e, outs, hp'), cs, os') → (∀ c ∈ cs, c = true) → LoopOk P body nt slots ro (encs sig d) (rencs rsig r) hp e outs hp') : Env P :=
  E.addL f i hb nt slots ro chk (fun vals rov hp os => match decs sig vals, rdecs rsig rov with
    | some d, some r => res d r hp os
    | _, _ => none) fun vals rov hp os e outs hp' cs os' h hc => by
      split at h
      · rename_i d r hd hr
        have e := rdecs_eq rsig hr
        subst e
        exact LoopOk.weaken (rov := rencs rsig r) (rov' := rencs rsig r) (decs_wks sig vals d hd) (.refl _) (ok d r hp os e outs hp' cs os' h hc) (.inr trivial)
      · cases h
end Go.Eng
