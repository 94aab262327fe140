import Derived.Test.YthdgoefjkfafkaaGreatDoorEngZ18
set_option linter.unusedVariables false
namespace Go.Eng
open Go Go.RowKit Go.ChangeMaps
variable {P : Program}

/-! ### Maps that are only read -/
theorem next_relR {kt vt : CT} {ka va : Bool} {l : List (kt.den × vt.den)} {id : Nat} {ops : Array Oper} {o : Oper} {n : Nat} {x : Operand} {Q : Exit → Act → World → Prop} (hn : ops.size = n + 1) (h0 : ops[0]? = some o) (ho : o.op = .next x false) (hg : o.guard = none)
    {X : Ctx} {σ σe σg : St} {a : Act} (hr : Rel X σ a) {i j clock m : Nat} {seen : Array Nat} {es : Array MapEntry} (hx : VR X (.one (.ptr i 0)) (a.eval x)) (hi : X.H i = some (.obj (.mapIter (some (X.φ j)) clock seen clock))) (hj : X.H j = some (.rom kt vt ka va l (.map es clock))) (hm : MapOk es clock m)
    (he : σ.put o.dst (.tup [(false, [.bool false])]) = some σe) (hgo : ∀ hp', ({ σ with hp := hp' } : St).put o.dst (.tup [(false, [.bool true]), (false, [.unk]), (false, [.unk])]) = some { σg with hp := hp' }) (htg : σ.tg = [])
    (end_ : (leftOf es seen).size = 0 → ∀ a', Rel X σe a' → wpOps P ops Q ((List.range n).map Nat.succ) a' X.w)
    (go : ∀ e ∈ (leftOf es seen).toList, ∀ X' a', X.le X' → X'.H = upd X.H i (some (.obj (.mapIter (some (X.φ j)) clock (seen.push e.born) clock))) → Rel X' { σg with hp := σ.hp.set i (.obj (.mapIter (some (X.φ j)) clock (seen.push e.born) clock)) } a' → wpOps P ops Q ((List.range n).map Nat.succ) a' X'.w) :
    (Code.region id ops false).wp P Q a X.w := by
  have hx' : a.eval x = .pointer (some ⟨X.φ i, 0, none⟩) := hx.2
  have hbi : X.w.heap[X.φ i]? = some (.mapIter (some (X.φ j)) clock seen clock) := hr.hrel.blk i _ hi
  have hbj : X.w.heap[X.φ j]? = some (.map es clock) := (hr.hrel.blk j _ hj).1
  refine wp_next hn h0 ho hg hx' hbi hbj (fun e h => hm.2.1 _ (List.mem_map_of_mem h)) (Nat.le_refl _) (fun h => end_ h _ (hr.put he ?_)) fun e h w1 hw => ?_
  · exact ⟨_, rfl, PW.cons ⟨_, rfl, rfl⟩ PW.nil⟩
  · obtain ⟨h1, h2⟩ := obj_step (o' := .mapIter (some (X.φ j)) clock (seen.push e.born) clock) hr.hrel hi hw
    have hH : X.H = fun k => σ.hp[k]? := hr.heap
    have hlt : i < σ.hp.length := by
      rw [hH] at hi; exact (List.getElem?_eq_some_iff.1 hi).1
    refine go e h _ _ h1 rfl (Rel.put (σ := { σ with hp := σ.hp.set i (.obj (.mapIter (some (X.φ j)) clock (seen.push e.born) clock)) }) ?_ (hgo _) ?_)
    · refine ⟨h2, ?_, hr.size, hr.defers, fun t v hv => VR.mono h1 v _ (hr.tm t v hv), fun t s w v hv => by rw [htg] at hv; cases hv⟩
      funext k
      show upd X.H i _ k = (σ.hp.set i _)[k]?
      by_cases e : k = i
      · subst e; rw [upd_same, List.getElem?_set_self hlt]
      · rw [upd_other _ _ e, List.getElem?_set_ne (fun h => e h.symm), hH]
    · exact ⟨_, rfl, PW.cons ⟨_, rfl, rfl⟩ (PW.cons ⟨_, rfl, trivial⟩ (PW.cons ⟨_, rfl, trivial⟩ PW.nil))⟩

theorem entry_relR {kt vt : CT} {ka va : Bool} {l : List (kt.den × vt.den)} {id : Nat} {ops : Array Oper} {o : Oper} {n : Nat} {x : Operand} {Q : Exit → Act → World → Prop} (hn : ops.size = n + 1) (h0 : ops[0]? = some o) (ho : o.op = .entry x) (hg : o.guard = none)
    {X : Ctx} {σ σp : St} {a : Act} (hr : Rel X σ a) {i j clock m : Nat} {seen : Array Nat} {es : Array MapEntry} {e : MapEntry} (hx : VR X (.one (.ptr i 0)) (a.eval x)) (hi : X.H i = some (.obj (.mapIter (some (X.φ j)) clock (seen.push e.born) clock))) (hj : X.H j = some (.rom kt vt ka va l (.map es clock))) (hm : MapOk es clock m) (he : e ∈ es.toList)
    {v : AV} (hv : VR X v (.tuple #[e.key, e.val])) (hp : σ.put o.dst v = some σp) (h : ∀ a', Rel X σp a' → wpOps P ops Q ((List.range n).map Nat.succ) a' X.w) : (Code.region id ops false).wp P Q a X.w :=
  wp_entry hn h0 ho hg (show a.eval x = .pointer (some ⟨X.φ i, 0, none⟩) from hx.2) (hr.hrel.blk i _ hi) (hr.hrel.blk j _ hj).1 he hm.2.2.1 (h _ (hr.put hp hv))

/-- A round with an entry: from these slots and blocks to those. -/
def MapGoR (kt vt : CT) (ka va : Bool) (l : List (kt.den × vt.den)) (E : Env P) (f : Nat) (s : MS) (i j nt m : Nat) (slots : List Nat) (known : List (Nat × AV)) (vs : List AV) (hp : AB → AB → List AB) (kv : AV) (vs' : List AV) (hp' : AB → AB → List AB) : Prop :=
  ∃ os v, ∀ rest oi om, ∃ h1 σ3, mGo E f s i kv (headS nt (zipT slots vs ++ (known ++ rest)) (hp (.obj oi) (.rom kt vt ka va l om)) os) = some (h1, σ3) ∧ h1[i]? = some (.obj oi) ∧ h1[j]? = some (.rom kt vt ka va l om) ∧
    looks σ3.tm slots = some v ∧ (∀ c ∈ σ3.cs, c = true) ∧ Wks (hp' (.obj oi) (.rom kt vt ka va l om)) v vs' ∧ σ3.hp.take m = hp' (.obj oi) (.rom kt vt ka va l om) ∧ (σ3.hp.length ≤ m ∨ idsLt m vs' (hp' (.obj oi) (.rom kt vt ka va l om)))
theorem MapGoR.mk {kt vt : CT} {ka va : Bool} {l : List (kt.den × vt.den)} {E : Env P} {f : Nat} {s : MS} {i j nt m : Nat} {slots : List Nat} {known : List (Nat × AV)} {vs : List AV} {hp : AB → AB → List AB} {kv : AV} {vs' : List AV} {hp' : AB → AB → List AB}
    (os : List Bool) {v : List AV} {cs : List Bool} (h : ∀ rest oi om, mview m i j slots (mGo E f s i kv (headS nt (zipT slots vs ++ (known ++ rest)) (hp (.obj oi) (.rom kt vt ka va l om)) os)) = some (some (.obj oi), some (.rom kt vt ka va l om), v, hp' (.obj oi) (.rom kt vt ka va l om), cs))
    (hcs : ∀ c ∈ cs, c = true) (hw : ∀ oi om, Wks (hp' (.obj oi) (.rom kt vt ka va l om)) v vs') (hi : ∀ oi om, idsLt m vs' (hp' (.obj oi) (.rom kt vt ka va l om))) : MapGoR kt vt ka va l E f s i j nt m slots known vs hp kv vs' hp' :=
  ⟨os, v, fun rest oi om => by
    have := h rest oi om
    unfold mview at this
    split at this
    · rename_i h1 σ3 hm
      split at this
      · rename_i vs0 hl
        simp only [Option.some.injEq, Prod.mk.injEq] at this
        obtain ⟨e1, e2, e3, e4, e5⟩ := this
        subst e3
        exact ⟨h1, σ3, hm, e1, e2, hl, by rw [e5]; exact hcs, hw oi om, e4, .inr (hi oi om)⟩
      · cases this
    · cases this⟩
/-- The way out. -/
def MapEndR (kt vt : CT) (ka va : Bool) (l : List (kt.den × vt.den)) (E : Env P) (s : MS) (nt m : Nat) (slots : List Nat) (known : List (Nat × AV)) (vs : List AV) (hp : AB → AB → List AB) (outs : List AV) : Prop :=
  ∃ os v, ∀ rest oi om, ∃ σ1, mEnd E s (headS nt (zipT slots vs ++ (known ++ rest)) (hp (.obj oi) (.rom kt vt ka va l om)) os) = some (.exit s.ie, σ1) ∧
    looks σ1.tm slots = some v ∧ (∀ c ∈ σ1.cs, c = true) ∧ Wks (hp (.obj oi) (.rom kt vt ka va l om)) v outs ∧ σ1.hp.take m = hp (.obj oi) (.rom kt vt ka va l om) ∧ (σ1.hp.length ≤ m ∨ idsLt m outs (hp (.obj oi) (.rom kt vt ka va l om)))
theorem MapEndR.mk {kt vt : CT} {ka va : Bool} {l : List (kt.den × vt.den)} {E : Env P} {s : MS} {nt m : Nat} {slots : List Nat} {known : List (Nat × AV)} {vs : List AV} {hp : AB → AB → List AB} {outs : List AV}
    (os : List Bool) {v : List AV} {cs : List Bool} (h : ∀ rest oi om, viewT m slots (mEnd E s (headS nt (zipT slots vs ++ (known ++ rest)) (hp (.obj oi) (.rom kt vt ka va l om)) os)) = some (.exit s.ie, v, hp (.obj oi) (.rom kt vt ka va l om), cs))
    (hcs : ∀ c ∈ cs, c = true) (hw : ∀ oi om, Wks (hp (.obj oi) (.rom kt vt ka va l om)) v outs) (hi : ∀ oi om, idsLt m outs (hp (.obj oi) (.rom kt vt ka va l om))) : MapEndR kt vt ka va l E s nt m slots known vs hp outs :=
  ⟨os, v, fun rest oi om => by
    obtain ⟨σ, h1, h2, h3, h4⟩ := looks_of_viewT (h rest oi om)
    exact ⟨σ, h1, h2, by rw [h4]; exact hcs, hw oi om, h3, .inr (hi oi om)⟩⟩
theorem LoopOkN.rangeR (E : Env P) {f i0 nt : Nat} {body : Code} (hb : theLoop P f i0 = some body) {s : MS} (hs : mapShape body = some s) {slots ro : List Nat} (hss : (slots.all fun t => isIn t (dstsC body)) = true) {rov : List AV}
    {i j m : Nat} (hij : i ≠ j) {kt vt : CT} {ka va : Bool} (l : List (kt.den × vt.den)) (ob : Obj) (hka : ka = true ∨ kt.width = 1) (hva : va = true ∨ vt.width = 1) {S : Type} (vals : S → List AV) (hpf : S → AB → AB → List AB)
    (hget : ∀ t a b, (hpf t a b)[i]? = some a ∧ (hpf t a b)[j]? = some b) (hset : ∀ t a b c, (hpf t a b).set i c = hpf t c b ∧ (hpf t a b).set j c = hpf t a c) (hlen : ∀ t a b, (hpf t a b).length = m)
    (Inv : S → List (kt.den × vt.den) → Prop) (s0 : S) (hI : Inv s0 l) (hx1 : ∀ t rest hp, (headS nt (zipT slots (vals t) ++ (zipT ro rov ++ rest)) hp []).ev [] s.x1 = some (.one (.ptr i 0)))
    (go : ∀ t A p B, Inv t (A ++ p :: B) → ∃ t', Inv t' (A ++ B) ∧ MapGoR kt vt ka va l E f s i j nt m slots (zipT ro rov) (vals t) (hpf t) (.tup [(ka, kt.cells p.1), (va, vt.cells p.2)]) (vals t') (hpf t'))
    {outs : S → List AV} (end_ : ∀ t, Inv t [] → MapEndR kt vt ka va l E s nt m slots (zipT ro rov) (vals t) (hpf t) (outs t)) :
    LoopOkN P body nt slots ro (vals s0) rov (hpf s0 (.iter j l.length true) (.rom kt vt ka va l ob)) (δ := { t : S // Inv t [] }) (fun d => (.exit s.ie, outs d.1, hpf d.1 (.iter j l.length false) (.rom kt vt ka va l ob))) := by
  intro X a rest hrest hr Q hq
  obtain ⟨fn, c, hf, hbd, hmem, hfi⟩ := theLoop_mem hb
  obtain ⟨hcode, hok⟩ := mapShape_ok hs
  have hlcb : LCok P (E.lcs f) body := fun b hb' => E.hlc f fn c hf hbd b (loopsOf_trans c hmem hb')
  have hkpb : LCkeep (E.lcs f) body := fun b hb' => E.hkeep f fn c hf hbd b (loopsOf_trans c hmem hb')
  have hRl : ∀ b ∈ loopsOf s.R, b ∈ loopsOf body := fun b hb' => by rw [hcode]; simp [MS.code, loopsOf, hb']
  have hlc : LCok P (E.lcs f) s.R := fun b hb' => hlcb b (hRl b hb')
  have hkp : LCkeep (E.lcs f) s.R := fun b hb' => hkpb b (hRl b hb')
  have hss' : ∀ t ∈ slots, t ∈ dstsC body := fun t ht => isIn_iff.1 (List.all_eq_true.1 hss t ht)
  have d1 : ∀ t ∈ dstsO s.ops1, t ∈ dstsC body := fun t ht => by rw [hcode]; simp [MS.code, dstsC, ht]
  have d2 : ∀ t ∈ dstsO s.ops2, t ∈ dstsC body := fun t ht => by rw [hcode]; simp [MS.code, dstsC, ht]
  have d3 : ∀ t ∈ dstsC s.R, t ∈ dstsC body := fun t ht => by rw [hcode]; simp [MS.code, dstsC, ht]
  have p1 : ∀ t ∈ s.o1.dst.toList, t ∈ dstsC body := fun t ht => d1 t (by
    have h0 : s.o1 ∈ s.ops1.toList := List.mem_of_getElem? (i := 0) (by simpa using hok.h1)
    exact List.mem_filterMap.2 ⟨s.o1, h0, by simpa using ht⟩)
  have p2 : ∀ t ∈ s.o2.dst.toList, t ∈ dstsC body := fun t ht => d2 t (by
    have h0 : s.o2 ∈ s.ops2.toList := List.mem_of_getElem? (i := 0) (by simpa using hok.h2)
    exact List.mem_filterMap.2 ⟨s.o2, h0, by simpa using ht⟩)
  have hH : X.H = fun k => (hpf s0 (.iter j l.length true) (.rom kt vt ka va l ob))[k]? := hr.heap
  have hXi : X.H i = some (.iter j l.length true) := by rw [hH]; exact (hget s0 _ _).1
  have hXj : X.H j = some (.rom kt vt ka va l ob) := by rw [hH]; exact (hget s0 _ _).2
  have hbj := hr.hrel.blk j _ hXj
  obtain ⟨hob, hflat, es, clock, e1, e2, hnd, l', hpm, e3⟩ := id hbj
  have hob' : ob = .map es clock := by rw [hob] at e1; injection e1
  subst hob'
  have hcl : clock = l.length := e2.2.2.2
  subst hcl
  have e2s : es.size = l'.length := e2.1.trans hpm.length_eq.symm
  have old : ∀ t, (∃ r0 : List (kt.den × vt.den), r0.Perm [] ∧ Inv t r0) → Inv t [] := fun t ⟨r0, p0, h0⟩ => by rw [p0.eq_nil] at h0; exact h0
  have goP : ∀ t A p B, (∃ r0 : List (kt.den × vt.den), r0.Perm (A ++ p :: B) ∧ Inv t r0) → ∃ t', (∃ r0 : List (kt.den × vt.den), r0.Perm (A ++ B) ∧ Inv t' r0) ∧ MapGoR kt vt ka va l E f s i j nt m slots (zipT ro rov) (vals t) (hpf t) (.tup [(ka, kt.cells p.1), (va, vt.cells p.2)]) (vals t') (hpf t') := fun t A p B ⟨r0, p0, h0⟩ => by
    obtain ⟨A0, B0, rfl⟩ := List.append_of_mem (p0.mem_iff.2 (List.mem_append_right A (List.mem_cons_self ..)))
    obtain ⟨t', h1, h2⟩ := go t A0 p B0 h0
    refine ⟨t', ⟨A0 ++ B0, ?_, h1⟩, h2⟩
    exact (List.perm_middle.symm.trans (p0.trans List.perm_middle)).cons_inv
  obtain ⟨InvP, hInvP⟩ : ∃ I : S → List (kt.den × vt.den) → Prop, I = fun t r => ∃ r0 : List (kt.den × vt.den), r0.Perm r ∧ Inv t r0 := ⟨_, rfl⟩
  have hI' : InvP s0 l' := by rw [hInvP]; exact ⟨l, hpm.symm, hI⟩
  have oldP : ∀ t, InvP t [] → Inv t [] := fun t h => by rw [hInvP] at h; exact old t h
  have goP : ∀ t A p B, InvP t (A ++ p :: B) → ∃ t', InvP t' (A ++ B) ∧ MapGoR kt vt ka va l E f s i j nt m slots (zipT ro rov) (vals t) (hpf t) (.tup [(ka, kt.cells p.1), (va, vt.cells p.2)]) (vals t') (hpf t') := by rw [hInvP]; exact goP
  have endP := fun t (h : InvP t []) => end_ t (oldP t h)
  have hbi : X.w.heap[X.φ i]? = some (.mapIter (some (X.φ j)) l.length #[] l.length) := (hr.hrel.blk i _ hXi).2 rfl
  -- the map and its iterator as they are
  obtain ⟨le12, r2⟩ := hr.setH (j := i) (b := .obj (.mapIter (some (X.φ j)) l.length #[] l.length)) (b0 := .iter j l.length true) hXi rfl rfl (fun _ _ h => by cases h) hbi
  rw [(hset _ _ _ _).1] at r2
  -- the head's slots name no block behind
  have hids : ∀ t v, lookT (zipT ro rov ++ rest) t = some v → ∀ k ∈ idsV v, k < m := fun t v hv k hk => by
    have ht : t ∉ dstsC body := fun ht => by rw [hrest t ht] at hv; cases hv
    have h1 := hr.tm t v (by simp only [headS]; rw [lookT_app, lookT_zip_none _ _ (fun hh => ht (hss' t hh))]; exact hv)
    have h2 := VR.has _ _ h1 k hk
    rw [hH] at h2
    by_cases hlt : k < m
    · exact hlt
    · exact absurd (List.getElem?_eq_none (by rw [hlen]; omega)) h2
  have hm0 : ∀ k, m ≤ k → X.H k = none := fun k hk => by rw [hH]; exact List.getElem?_eq_none (by rw [hlen]; exact hk)
  have cutle : ∀ {X' : Ctx}, X.le X' → X.le (X'.cut m) := fun h => cut_le h hm0
  rw [hcode]
  refine loop_by (S := S × Array Nat) (Inv := fun q a' w' => ∃ X', X.le X' ∧ X'.w = w' ∧ Rel X' (headS nt (zipT slots (vals q.1) ++ (zipT ro rov ++ rest)) (hpf q.1 (.obj (.mapIter (some (X.φ j)) l.length q.2 l.length)) (.rom kt vt ka va l (.map es l.length))) []) a' ∧ InvP q.1 (remOf es l' q.2))
    (mu := fun q => (remOf es l' q.2).length) (fun q a' w' hinv => ?_) ((remOf es l' #[]).length + 1) (s0, #[]) a X.w (Nat.lt_succ_self _) ⟨_, le12, rfl, r2, by rw [rem_all e2s]; exact hI'⟩
  obtain ⟨t, seen⟩ := q
  obtain ⟨X', hle, rfl, hr', hinv⟩ := hinv
  simp only at hr' hinv
  have hH' : X'.H = fun k => (hpf t (.obj (.mapIter (some (X.φ j)) l.length seen l.length)) (.rom kt vt ka va l (.map es l.length)))[k]? := hr'.heap
  have hi' : X'.H i = some (.obj (.mapIter (some (X.φ j)) l.length seen l.length)) := by rw [hH']; exact (hget t _ _).1
  have hj' : X'.H j = some (.rom kt vt ka va l (.map es l.length)) := by rw [hH']; exact (hget t _ _).2
  have hφ : X'.φ j = X.φ j := (hle.loc j _ hXj rfl).2
  have hx := ev_rel hr' (hx1 t rest _)
  -- both ways' first slot can be written
  have hput : ∃ σe σg, (headS nt (zipT slots (vals t) ++ (zipT ro rov ++ rest)) (hpf t (.obj (.mapIter (some (X.φ j)) l.length seen l.length)) (.rom kt vt ka va l (.map es l.length))) []).put s.o1.dst (.tup [(false, [.bool false])]) = some σe ∧
      (headS nt (zipT slots (vals t) ++ (zipT ro rov ++ rest)) (hpf t (.obj (.mapIter (some (X.φ j)) l.length seen l.length)) (.rom kt vt ka va l (.map es l.length))) []).put s.o1.dst (.tup [(false, [.bool true]), (false, [.unk]), (false, [.unk])]) = some σg := by
    cases hrem : remOf es l' seen with
    | nil =>
      rw [hrem] at hinv
      obtain ⟨os, v, hv⟩ := endP t hinv
      obtain ⟨σ1, g1, _⟩ := hv rest (.mapIter (some (X.φ j)) l.length seen l.length) (.map es l.length)
      obtain ⟨_, σe, g2, _⟩ := mEnd_some g1
      have := (put_any g2).2 (hpf t (.obj (.mapIter (some (X.φ j)) l.length seen l.length)) (.rom kt vt ka va l (.map es l.length))) [] []
      obtain ⟨σg, g3⟩ := put_val this (.tup [(false, [.bool true]), (false, [.unk]), (false, [.unk])])
      exact ⟨_, σg, this, g3⟩
    | cons p r =>
      rw [hrem] at hinv
      obtain ⟨t', _, os, v, hv⟩ := goP t [] p r hinv
      obtain ⟨h1, σ3, g1, _⟩ := hv rest (.mapIter (some (X.φ j)) l.length seen l.length) (.map es l.length)
      obtain ⟨σg, _, _, _, _, g2, _⟩ := mGo_some g1
      have := (put_any g2).2 (hpf t (.obj (.mapIter (some (X.φ j)) l.length seen l.length)) (.rom kt vt ka va l (.map es l.length))) [] []
      obtain ⟨σe, g3⟩ := put_val this (.tup [(false, [.bool false])])
      exact ⟨σe, _, g3, this⟩
  obtain ⟨σe, σg, he, hg⟩ := hput
  have hg' : ∀ hp', ({ headS nt (zipT slots (vals t) ++ (zipT ro rov ++ rest)) (hpf t (.obj (.mapIter (some (X.φ j)) l.length seen l.length)) (.rom kt vt ka va l (.map es l.length))) [] with hp := hp' } : St).put s.o1.dst (.tup [(false, [.bool true]), (false, [.unk]), (false, [.unk])]) = some { σg with hp := hp' } := fun hp' => by
    have h1 := (put_any hg).2 hp' [] []
    have h2 := (put_any hg).1
    rw [st_os (hp := hp') (os := []) (cs := []) h2.2.2 h2.1] at h1
    exact h1
  unfold MS.code
  refine wp_seq (next_relR (m := l.length) hok.n1 hok.h1 hok.p1 hok.g1 hr' hx (by rw [hφ]; exact hi') hj' e2 he hg' rfl (fun hz a1 hr1 => ?_) fun e hel X1 a1 hle1 hH1 hr1 => ?_)
  · -- nothing is left
    rw [rem_nil e2s hz] at hinv
    obtain ⟨os, v, hv⟩ := endP t hinv
    obtain ⟨σ1, g1, g2, g3, g4, g5, g6⟩ := hv rest (.mapIter (some (X.φ j)) l.length seen l.length) (.map es l.length)
    obtain ⟨_, σe', q1, q2, q3⟩ := mEnd_some g1
    have hσ : σe' = { σe with os := os } := by
      have := (put_any he).2 (hpf t (.obj (.mapIter (some (X.φ j)) l.length seen l.length)) (.rom kt vt ka va l (.map es l.length))) os []
      have h3 : (some σe' : Option St) = some { σe with hp := _, os := os, cs := [] } := q1.symm.trans this
      injection h3 with h3
      rw [h3]
      exact st_hp (put_any he).1.2.1 (put_any he).1.1
    have hrr : Rel X' σe' a1 := by
      have := hr1.cs os σe.cs
      rw [hσ]; exact this
    refine opsRun_sim E.hkp E.kk_ok _ hrr q2 g3 fun X2 a2 hle2 hr2 => ?_
    refine wp_seq (wp_cond_false (ev_rel hr2 q3) (wp_exit ?_))
    have hk : Keeps (dstsC body) (headS nt (zipT slots (vals t) ++ (zipT ro rov ++ rest)) (hpf t (.obj (.mapIter (some (X.φ j)) l.length seen l.length)) (.rom kt vt ka va l (.map es l.length))) os) σ1 :=
      ((put_keeps q1).mono p1).trans ((opsRun_keeps _ q2).mono d1)
    have hh := hr2.head (m := m) (vs' := outs t) hss' hk g2 (by rw [g5]; exact g4) hrest hids (by rw [g5]; exact g6) []
    rw [g5] at hh
    -- the map and its iterator as blocks again
    have hle3 : X.le (X2.cut m) := cutle (hle.trans hle2)
    have hHc : (X2.cut m).H = fun k => (hpf t (.obj (.mapIter (some (X.φ j)) l.length seen l.length)) (.rom kt vt ka va l (.map es l.length)))[k]? := hh.heap
    have hci : (X2.cut m).H i = some (.obj (.mapIter (some (X.φ j)) l.length seen l.length)) := by rw [hHc]; exact (hget t _ _).1
    have hcj : (X2.cut m).H j = some (.rom kt vt ka va l (.map es l.length)) := by rw [hHc]; exact (hget t _ _).2
    have hji : j ≠ i := fun h => hij h.symm
    obtain ⟨k5, k6⟩ := hh.setH (j := i) (b := .iter j l.length false) (b0 := .obj (.mapIter (some (X.φ j)) l.length seen l.length)) hci rfl rfl (fun _ _ h => by cases h) ⟨⟨_, by simp only [Ctx.setH, upd_other _ _ hji]; exact hcj, rfl⟩, fun h => by cases h⟩
    rw [(hset _ _ _ _).1] at k6
    exact hq ⟨t, oldP t hinv⟩ ((X2.cut m).setH i (.iter j l.length false)) a2 (hle3.trans k5) k6
  · -- an entry comes
    have hle01 := hle.trans hle1
    obtain ⟨kk, p0, hk1, hk2, hk3⟩ := left_at e2s hel
    have hmem : (e, p0) ∈ pairsOf es l' := by
      refine List.mem_iff_getElem?.2 ⟨kk, ?_⟩
      unfold pairsOf
      rw [List.getElem?_zip_eq_some]
      exact ⟨by simpa using hk1, hk2⟩
    obtain ⟨A, p, B, hpz, hrem, hrem'⟩ := filter_one (zip_nodup e2.2.2.1 e2s) ⟨p0, hmem⟩ hk3
    have hrem : remOf es l' seen = A ++ p :: B := hrem
    have hrem' : remOf es l' (seen.push e.born) = A ++ B := hrem'
    have hpl : ∃ k : Nat, es[k]? = some e ∧ l'[k]? = some p := by
      obtain ⟨k, hk⟩ := List.mem_iff_getElem?.1 hpz
      unfold pairsOf at hk
      rw [List.getElem?_zip_eq_some] at hk
      exact ⟨k, by simpa using hk.1, hk.2⟩
    obtain ⟨kp, hkp1, hkp2⟩ := hpl
    rw [hrem] at hinv
    obtain ⟨t', hI2, os, v, hv⟩ := goP t A p B hinv
    obtain ⟨h1, σ3, g1, g2, g3, g4, g5, g6, g7, g8⟩ := hv rest (.mapIter (some (X.φ j)) l.length (seen.push e.born) l.length) (.map es l.length)
    obtain ⟨σg', σ1, σp, σ2, e3', q1, q2, q3, q4, q5, q6, q7, q8, q9⟩ := mGo_some g1
    subst q9
    have hσ : σg' = { σg with hp := hpf t (.obj (.mapIter (some (X.φ j)) l.length (seen.push e.born) l.length)) (.rom kt vt ka va l (.map es l.length)), os := os } := by
      have := (put_any hg).2 (hpf t (.obj (.mapIter (some (X.φ j)) l.length (seen.push e.born) l.length)) (.rom kt vt ka va l (.map es l.length))) os []
      have h3 : (some σg' : Option St) = some { σg with hp := _, os := os, cs := [] } := q1.symm.trans this
      injection h3 with h3
      rw [h3]
      exact st_cs (put_any hg).1.1
    have hrr : Rel X1 σg' a1 := by
      have h0 : Rel X1 { σg with hp := hpf t (.obj (.mapIter (some (X.φ j)) l.length (seen.push e.born) l.length)) (.rom kt vt ka va l (.map es l.length)) } a1 := by
        rw [← (hset t (.obj (.mapIter (some (X.φ j)) l.length seen l.length)) (.rom kt vt ka va l (.map es l.length)) (.obj (.mapIter (some (X.φ j)) l.length (seen.push e.born) l.length))).1]
        rw [hφ] at hr1
        exact hr1
      have := h0.cs os σg.cs
      rw [hσ]; exact this
    have c2 : ∀ c ∈ σ2.cs, c = true := fun c hc => by
      obtain ⟨cs, hcs⟩ := exec_suf s.R hlc q7
      exact g5 c (by rw [hcs]; exact List.mem_append_right _ hc)
    have c1 : ∀ c ∈ σ1.cs, c = true := fun c hc => by
      obtain ⟨cs, hcs⟩ := opsRun_suf _ q6
      have := (put_any q5).1.1
      exact c2 c (by rw [hcs, this]; exact List.mem_append_right _ hc)
    have hkeep : Keeps (dstsC body) (headS nt (zipT slots (vals t) ++ (zipT ro rov ++ rest)) (hpf t (.obj (.mapIter (some (X.φ j)) l.length (seen.push e.born) l.length)) (.rom kt vt ka va l (.map es l.length))) os) σ3 :=
      ((((put_keeps q1).mono p1).trans ((opsRun_keeps _ q2).mono d1)).trans ((put_keeps q5).mono p2)).trans (((opsRun_keeps _ q6).mono d2).trans ((exec_keeps s.R hkp q7).mono d3))
    refine opsRun_sim E.hkp E.kk_ok _ hrr q2 c1 fun X2 a2 hle2 hr2 => ?_
    have hle02 := hle01.trans hle2
    have hφ2 : X2.φ j = X.φ j := (hle02.loc j _ hXj rfl).2
    have hH2 : X2.H = fun k => σ1.hp[k]? := hr2.heap
    refine wp_seq (wp_cond_true (ev_rel hr2 q3) (wp_skip (wp_block (wp_seq ?_))))
    refine entry_relR (m := l.length) hok.n2 hok.h2 hok.p2 hok.g2 hr2 (ev_rel hr2 q4) (by rw [hH2, hφ2]; exact g2) (by rw [hH2]; exact g3) e2 (mem_left hel).1 (VR.mono hle02 _ _ (entry_rel hflat e3 hkp2 hkp1 hka hva)) q5 fun a3 hr3 => ?_
    refine opsRun_sim E.hkp E.kk_ok _ hr3 q6 c2 fun X4 a4 hle4 hr4 => ?_
    refine exec_sim E.hm E.hkp E.kx_ok E.kk_ok s.R hlc q7 g5 hr4 fun X5 a5 hle5 hr5 => ?_
    have hh := hr5.head (m := m) (vs' := vals t') hss' hkeep g4 (by rw [g7]; exact g6) hrest hids (by rw [g7]; exact g8) []
    rw [g7] at hh
    have done : ∃ q : S × Array Nat, (∃ X', X.le X' ∧ X'.w = X5.w ∧ Rel X' (headS nt (zipT slots (vals q.1) ++ (zipT ro rov ++ rest)) (hpf q.1 (.obj (.mapIter (some (X.φ j)) l.length q.2 l.length)) (.rom kt vt ka va l (.map es l.length))) []) a5 ∧ InvP q.1 (remOf es l' q.2)) ∧ (remOf es l' q.2).length < (remOf es l' seen).length :=
      ⟨(t', seen.push e.born), ⟨X5.cut m, cutle (hle02.trans (hle4.trans hle5)), rfl, hh, by rw [hrem']; exact hI2⟩, by
        show (remOf es l' (seen.push e.born)).length < _
        rw [hrem, hrem']; simp⟩
    rcases q8 with rfl | rfl
    · exact done
    · simp only [XE.out, Exit.inBlock, if_true]; exact done

/-! ### A promised model lent to be read -/
theorem rel_vals {IC : Addr → Value → Prop} : ∀ (t : CT) (v : t.den), t.flat = true → RelT t v (fun k y => (t.vals v)[k]? = some y) IC
  | .int _, n, _ => rfl
  | .bool, b, _ => rfl
  | .str, s, _ => rfl
  | .sl _, _, h => by cases h
  | .mdl _ _ _ _, _, h => by cases h
  | .unit, _, _ => trivial
  | .pair c cs, v, h => by
    simp only [CT.flat, Bool.and_eq_true] at h
    have hl := CT.vals_length c v.1 h.1
    refine ⟨RelT.mono_lt0 c v.1 (fun k y hk hy => ?_) (fun _ _ h => h) (rel_vals c v.1 h.1), RelT.mono cs v.2 (fun k y hy => ?_) (fun _ _ h => h) (rel_vals cs v.2 h.2)⟩
    · simp only [CT.vals]
      rw [List.getElem?_append_left (by omega)]; exact hy
    · simp only [CT.vals]
      rw [List.getElem?_append_right (by omega), hl, Nat.add_sub_cancel_left]; exact hy
theorem perm_map_inv {α β : Type} {g : α → β} {p q : List β} (h : p.Perm q) : ∀ l : List α, p = l.map g → ∃ l' : List α, l'.Perm l ∧ q = l'.map g := by
  induction h with
  | nil => intro l e; exact ⟨l, .refl _, e⟩
  | cons x _ ih =>
    intro l e
    cases l with
    | nil => cases e
    | cons a l =>
      simp only [List.map_cons, List.cons.injEq] at e
      obtain ⟨l', h1, h2⟩ := ih l e.2
      exact ⟨a :: l', h1.cons a, by rw [List.map_cons, ← h2, e.1]⟩
  | swap x y r =>
    intro l e
    match l, e with
    | a :: b :: l, e =>
      simp only [List.map_cons, List.cons.injEq] at e
      exact ⟨b :: a :: l, .swap .., by rw [List.map_cons, List.map_cons, ← e.1, ← e.2.1, ← e.2.2]⟩
  | trans _ _ ih1 ih2 =>
    intro l e
    obtain ⟨l1, h1, h2⟩ := ih1 l e
    obtain ⟨l2, h3, h4⟩ := ih2 l1 h2
    exact ⟨l2, h3.trans h1, h4⟩
theorem encM_inj {a b : List (Value × Value)} (h : encM a = encM b) : a = b := by
  unfold encM at h
  simp only [Value.agg.injEq] at h
  have h : (a.map fun p => Value.agg #[p.1, p.2]) = b.map fun p => Value.agg #[p.1, p.2] := by simpa using congrArg Array.toList h
  exact (List.map_inj_right (fun x y e => by
    simp only [Value.agg.injEq] at e
    have e := congrArg Array.toList e
    simp only [List.cons.injEq, and_true] at e
    exact Prod.ext e.1 e.2)).1 h
theorem lend_ctx {X : Ctx} (hX : HRel X) (hH : ∀ i, X.H i = none) {kt vt : CT} {ka va : Bool} {l : List (kt.den × vt.den)} {v : Value} (hv : VRc X (.mdl kt vt ka va l) v) :
    ∃ om oc X1, X.le X1 ∧ HRel X1 ∧ X1.w = X.w ∧ (X1.H = fun i => [AB.rom kt vt ka va l om, .roc [.mref 0] oc][i]?) ∧ VRc X1 (.ptr 1 0) v := by
  obtain ⟨b, m, y, rfl, I1, I2, hkf, hvf, hnd, hy⟩ := hv
  obtain ⟨t, hb⟩ : ∃ t, X.w.heap[b]? = some (.cells #[.map (some m)] t (0, 0)) := I1.2.2.1
  obtain ⟨es, clock, ps, hm, hok, hyp, hperm⟩ : ∃ es clock ps, X.w.heap[m]? = some (.map es clock) ∧ MapOk es clock es.size ∧ y = encM ps ∧ ps.Perm (es.toList.map fun e : MapEntry => (e.key, e.val)) := I2.2.2.1
  have hne : m ≠ b := fun e => by rw [e, hb] at hm; cases hm
  have hps := encM_inj (hyp.symm.trans hy)
  obtain ⟨l', hl', hes⟩ := perm_map_inv hperm l hps
  have hsz : l.length = es.size := by
    have := congrArg List.length hes
    rw [List.length_map, List.length_map, Array.length_toList, hl'.length_eq] at this
    exact this.symm
  have htl : ∀ i, ¬ X.tl i := fun i hi => hX.tlH i hi (hH i)
  obtain ⟨X1, e1⟩ : ∃ X1 : Ctx, X1 = { X with φ := fun k => if k = 0 then m else b, ca := fun _ => 0, H := fun i => [AB.rom kt vt ka va l (.map es clock), .roc [.mref 0] (.cells #[.map (some m)] t (0, 0))][i]? } := ⟨_, rfl⟩
  have φ0 : X1.φ 0 = m := by rw [e1]; rfl
  have φ1 : X1.φ 1 = b := by rw [e1]; rfl
  have H0 : X1.H 0 = some (.rom kt vt ka va l (.map es clock)) := by rw [e1]; rfl
  have H1 : X1.H 1 = some (.roc [.mref 0] (.cells #[.map (some m)] t (0, 0))) := by rw [e1]; rfl
  have two : ∀ i c, X1.H i = some c → (i = 0 ∧ c = .rom kt vt ka va l (.map es clock)) ∨ (i = 1 ∧ c = .roc [.mref 0] (.cells #[.map (some m)] t (0, 0))) := fun i c h => by
    match i with
    | 0 => rw [H0] at h; injection h with h; exact .inl ⟨rfl, h.symm⟩
    | 1 => rw [H1] at h; injection h with h; exact .inr ⟨rfl, h.symm⟩
    | i + 2 => rw [e1] at h; simp at h
  have w1 : X1.w = X.w := by rw [e1]
  have hic : ∀ a y, X.IC a y → X1.IC a y := fun a y ⟨q1, q2, q3, q4, q5⟩ => by
    refine ⟨by rw [e1]; exact q1, q2, by rw [w1]; exact q3, fun i c hi hc => ?_, by rw [w1, e1]; exact q5⟩
    rcases two i c hi with ⟨_, rfl⟩ | ⟨_, rfl⟩ <;> cases hc
  have tl1 : ∀ i, ¬ X1.tl i := by rw [e1]; exact htl
  have hle : X.le X1 := ⟨hic, fun i c hi => (by rw [hH] at hi; cases hi), fun i row r hi => (by rw [hH] at hi; cases hi), fun i hi => (by rw [hH] at hi; cases hi), fun i c hi => (by rw [hH] at hi; cases hi),
    fun i t v hi => (by rw [hH] at hi; cases hi), by rw [e1], by rw [e1], by rw [e1], by rw [w1]; exact Nat.le_refl _⟩
  have lt0 : m < X.w.heap.size := (Array.getElem?_eq_some_iff.1 hm).1
  have lt1 : b < X.w.heap.size := (Array.getElem?_eq_some_iff.1 hb).1
  have hrel : HRel X1 := by
    refine ⟨fun i j c d hi hj _ _ hij => ?_, fun i j hi => absurd hi (tl1 i), fun i c j hi hc hj => absurd hj (tl1 j), fun i c hi hc => ?_, fun i hi => absurd hi (tl1 i), fun i c hi hc => ?_, fun i hi => absurd hi (tl1 i),
      fun i hi => absurd hi (tl1 i), fun c e h => ?_, fun i c hi => ?_, fun k hk hl => ?_, ?_, ?_, ?_, ?_, fun a y h => ?_⟩
    · rcases two i c hi with ⟨rfl, _⟩ | ⟨rfl, _⟩ <;> rcases two j d hj with ⟨rfl, _⟩ | ⟨rfl, _⟩
      · exact absurd rfl hij
      · rw [φ0, φ1]; exact hne
      · rw [φ0, φ1]; exact fun e => hne e.symm
      · exact absurd rfl hij
    · rcases two i c hi with ⟨_, rfl⟩ | ⟨_, rfl⟩ <;> cases hc
    · rw [w1]
      rcases two i c hi with ⟨rfl, _⟩ | ⟨rfl, _⟩
      · rw [φ0]; exact lt0
      · rw [φ1]; exact lt1
    · rw [w1]; rw [e1] at h; exact hX.frlt c e h
    · rcases two i c hi with ⟨rfl, rfl⟩ | ⟨rfl, rfl⟩
      · refine ⟨by rw [φ0, w1]; exact hm, hkf, es, clock, by rw [φ0, w1]; exact hm, by rw [hsz]; exact hok, hnd, l', hl', fun j p e hp he => ?_⟩
        have h1 := congrArg (fun q => q[j]?) hes
        simp only [List.getElem?_map, Array.getElem?_toList, hp, he, Option.map_some, Option.some.injEq, Prod.mk.injEq] at h1
        exact ⟨h1.1, vt.vals p.2, h1.2, CT.vals_length vt p.2 hvf, rel_vals vt p.2 hvf⟩
      · refine ⟨by rw [φ1, w1]; exact hb, _, t, by rw [φ1, w1]; exact hb, PW.cons ⟨⟨_, H0, rfl⟩, by rw [φ0]⟩ PW.nil⟩
    · rw [w1]; rw [e1] at hk hl ⊢; exact hX.below k hk hl
    · rw [w1, e1]; exact hX.os
    · rw [w1, e1]; exact hX.tape
    · rw [w1, e1]; exact hX.output
    · rw [w1, e1]; exact hX.size
    · rw [e1] at h; exact hic a y (hX.old a y h)
  exact ⟨_, _, X1, hle, hrel, w1, by rw [e1], ⟨_, H1, rfl⟩, by rw [φ1]⟩

theorem PureCall.lend {f : Nat} {kt vt : CT} {ka va : Bool} {l : List (kt.den × vt.den)} {r r' : AV} {hp' : Obj → Obj → List AB} {os cs os' : List Bool} (hf : ∃ fn, P.funcs[f]? = some fn ∧ (fn.name == "runtime.NumGoroutine") = false ∧ fn.body.isNone = false)
    (h : (l.map (·.1)).Nodup → ∀ om oc, HeapCall P f [.one (.ptr 1 0)] [.rom kt vt ka va l om, .roc [.mref 0] oc] r (hp' om oc))
    (hr : ∀ om oc, wkRA (fun i => (hp' om oc)[i]?) r os = some (r', cs, os')) (hcs : ∀ c ∈ cs, c = true) : PureCall P f [.one (.mdl kt vt ka va l)] r' :=
  ⟨hf, fun X vs hX hv => by
    have hv' : PW (VR (fresh X)) [.one (.mdl kt vt ka va l)] vs := wkAs_rel (fun a y h => fresh_IC h) rfl hv
    obtain ⟨x, hx, hxv⟩ := hv'.at_ (j := 0) rfl
    have hnd : (l.map (·.1)).Nodup := by
      obtain ⟨_, _, _, _, _, _, hE⟩ := hxv
      exact hE.2.2.1
    obtain ⟨om, oc, X1, k1, k2, k3, k4, k5⟩ := lend_ctx (HRel.fresh X) (fun _ => rfl) hxv
    have hvs : PW (VR X1) [.one (.ptr 1 0)] vs := ⟨by have := hv.1; simpa using this, fun j c y hc hy => by
      cases j with
      | zero =>
        simp only [List.getElem?_cons_zero, Option.some.injEq] at hc
        subst hc
        rw [hx] at hy; injection hy with hy; subst hy
        exact k5
      | succ j => simp at hc⟩
    have hc := (h hnd om oc).2 X1 vs k2 k4 hvs
    rw [k3] at hc
    refine hc.mono fun e w' ⟨val, Y', g1, g2, g3, g4, g5, g6⟩ => ?_
    subst g2
    have hle := k1.trans g3
    have hbel := below_of hle g4
    refine ⟨val, X.withW Y'.w, g1, rfl, withW_le hX hbel hle.drawn, hX.withW hbel hle.drawn, rfl, ?_⟩
    have hr' := hr om oc
    rw [← g5] at hr'
    exact wkRA_rel hX hle g4 hr' hcs g6⟩

/-- A copy of a promised model. -/
theorem HeapCall.lend_copy {f : Nat} {kt vt : CT} {ka va : Bool} {l l2 : List (kt.den × vt.den)} (hf : ∃ fn, P.funcs[f]? = some fn ∧ (fn.name == "runtime.NumGoroutine") = false ∧ fn.body.isNone = false)
    (h : (l.map (·.1)).Nodup → ∀ om oc, HeapCall P f [.one (.ptr 1 0)] [.rom kt vt ka va l om, .roc [.mref 0] oc] (.one (.ptr 3 0)) [.rom kt vt ka va l om, .roc [.mref 0] oc, .mp kt vt ka va l2, .cells [.mref 2]]) :
    HeapCall P f [.one (.mdl kt vt ka va l)] [] (.one (.ptr 1 0)) [.mp kt vt ka va l2, .cells [.mref 0]] :=
  ⟨hf, fun X vs hX hH hv => by
    have hH0 : ∀ i, X.H i = none := fun i => by rw [hH]; rfl
    obtain ⟨x, hx, hxv⟩ := hv.at_ (j := 0) rfl
    have hnd : (l.map (·.1)).Nodup := by
      obtain ⟨_, _, _, _, _, _, hE⟩ := hxv
      exact hE.2.2.1
    obtain ⟨om, oc, X1, k1, k2, k3, k4, k5⟩ := lend_ctx hX hH0 hxv
    have hvs : PW (VR X1) [.one (.ptr 1 0)] vs := ⟨by have := hv.1; simpa using this, fun j c y hc hy => by
      cases j with
      | zero =>
        simp only [List.getElem?_cons_zero, Option.some.injEq] at hc
        subst hc
        rw [hx] at hy; injection hy with hy; subst hy
        exact k5
      | succ j => simp at hc⟩
    have hc := (h hnd om oc).2 X1 vs k2 k4 hvs
    rw [k3] at hc
    refine hc.mono fun e w' ⟨val, Z, g1, g2, g3, g4, g5, g6⟩ => ?_
    have hle := k1.trans g3
    obtain ⟨X', e1⟩ : ∃ X' : Ctx, X' = { Z with φ := fun k => Z.φ (k + 2), ca := fun k => Z.ca (k + 2), tl := fun _ => False, H := fun i => [AB.mp kt vt ka va l2, .cells [.mref 0]][i]? } := ⟨_, rfl⟩
    have H0 : X'.H 0 = some (.mp kt vt ka va l2) := by rw [e1]; rfl
    have H1 : X'.H 1 = some (.cells [.mref 0]) := by rw [e1]; rfl
    have Z2 : Z.H 2 = some (.mp kt vt ka va l2) := by rw [g5]; rfl
    have Z3 : Z.H 3 = some (.cells [.mref 2]) := by rw [g5]; rfl
    have two : ∀ i c, X'.H i = some c → (i = 0 ∧ c = .mp kt vt ka va l2) ∨ (i = 1 ∧ c = .cells [.mref 0]) := fun i c h => by
      match i with
      | 0 => rw [H0] at h; injection h with h; exact .inl ⟨rfl, h.symm⟩
      | 1 => rw [H1] at h; injection h with h; exact .inr ⟨rfl, h.symm⟩
      | i + 2 => rw [e1] at h; simp at h
    have toZ : ∀ i c, X'.H i = some c → ∃ d, Z.H (i + 2) = some d ∧ d.wr = true := fun i c h => by
      rcases two i c h with ⟨rfl, _⟩ | ⟨rfl, _⟩
      · exact ⟨_, Z2, rfl⟩
      · exact ⟨_, Z3, rfl⟩
    have w1 : X'.w = Z.w := by rw [e1]
    have φ' : ∀ i, X'.φ i = Z.φ (i + 2) := fun i => by rw [e1]
    have hic : ∀ a y, Z.IC a y → X'.IC a y := fun a y ⟨q1, q2, q3, q4, q5⟩ => by
      refine ⟨by rw [e1]; exact q1, q2, by rw [w1]; exact q3, fun i c hi hc => ?_, by rw [w1, e1]; exact q5⟩
      obtain ⟨d, d1, d2⟩ := toZ i c hi
      rw [φ']; exact q4 _ d d1 d2
    have tl1 : ∀ i, ¬ X'.tl i := fun i hi => by rw [e1] at hi; exact hi
    have hle' : X.le X' := ⟨fun a y h => hic a y (hle.ic a y h), fun i c hi => (by rw [hH0] at hi; cases hi), fun i row r hi => (by rw [hH0] at hi; cases hi), fun i hi => (by rw [hH0] at hi; cases hi), fun i c hi => (by rw [hH0] at hi; cases hi),
      fun i t v hi => (by rw [hH0] at hi; cases hi), by rw [e1]; exact hle.w0, by rw [e1]; exact hle.lent, by rw [e1]; exact hle.oldeq, by rw [w1]; exact hle.drawn⟩
    have hrel : HRel X' := by
      refine ⟨fun i j c d hi hj _ _ hij => ?_, fun i j hi => absurd hi (tl1 i), fun i c j hi hc hj => absurd hj (tl1 j), fun i c hi hc => ?_, fun i hi => absurd hi (tl1 i), fun i c hi hc => ?_, fun i hi => absurd hi (tl1 i),
        fun i hi => absurd hi (tl1 i), fun c e h => ?_, fun i c hi => ?_, fun k hk hl => ?_, ?_, ?_, ?_, ?_, fun a y h => ?_⟩
      · obtain ⟨c', c1, c2⟩ := toZ i c hi
        obtain ⟨d', d1, d2⟩ := toZ j d hj
        rw [φ', φ']; exact g4.inj _ _ c' d' c1 d1 (AB.loc_of c2) (AB.loc_of d2) (by omega)
      · obtain ⟨c', c1, c2⟩ := toZ i c hi
        have := g4.place _ c' c1 c2
        rw [φ', e1]; exact this
      · obtain ⟨c', c1, c2⟩ := toZ i c hi
        rw [w1, φ']; exact g4.lt _ c' c1 (AB.pt_of (AB.loc_of c2))
      · rw [w1]; rw [e1] at h; exact g4.frlt c e h
      · rcases two i c hi with ⟨rfl, rfl⟩ | ⟨rfl, rfl⟩
        · obtain ⟨hf, es, clock, q1, q2, q3, l', q4, q5⟩ := g4.blk 2 _ Z2
          refine ⟨hf, es, clock, by rw [w1, φ']; exact q1, q2, q3, l', q4, fun j p e hp he => ?_⟩
          obtain ⟨p1, us, p2, p3, p4⟩ := q5 j p e hp he
          exact ⟨p1, us, p2, p3, RelT.mono vt p.2 (fun _ _ hh => hh) hic p4⟩
        · obtain ⟨c, t, q1, q2⟩ := g4.blk 3 _ Z3
          refine ⟨c, t, by rw [w1, φ']; exact q1, q2.1, fun j d y hd hy => ?_⟩
          cases j with
          | zero =>
            simp only [List.getElem?_cons_zero, Option.some.injEq] at hd
            subst hd
            obtain ⟨_, p2⟩ := q2.2 0 _ y rfl hy
            exact ⟨⟨_, H0, rfl⟩, by rw [φ']; exact p2⟩
          | succ j => simp at hd
      · rw [w1]; rw [e1] at hk hl ⊢; exact g4.below k hk hl
      · rw [w1, e1]; exact g4.os
      · rw [w1, e1]; exact g4.tape
      · rw [w1, e1]; exact g4.output
      · rw [w1, e1]; exact g4.size
      · rw [e1] at h; exact hic a y (g4.old a y h)
    refine ⟨val, X', g1, by rw [w1]; exact g2, hle', hrel, by rw [e1], ⟨_, H1, rfl⟩, ?_⟩
    rw [φ']; exact g6.2⟩
end Go.Eng
