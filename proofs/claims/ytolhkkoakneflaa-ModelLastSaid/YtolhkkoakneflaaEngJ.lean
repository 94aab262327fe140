import Derived.Test.YtolhkkoakneflaaEngI
import Derived.Maps.AppendAt
set_option linter.unusedVariables false
namespace Go.Eng
open Go Go.RowKit
variable {P : Program}

/-- A list's elements, as values that lie behind one another. -/
def LRel (row : CT) (l : List row.den) (vs : List Value) (IC : Addr → Value → Prop) : Prop :=
  vs.length = l.length * row.width ∧ ∀ (j : Nat) x, l[j]? = some x → RelT row x (fun k y => vs[j * row.width + k]? = some y) IC

theorem LRel.append {row : CT} {l l2 : List row.den} {vs vs2 : List Value} {IC : Addr → Value → Prop} (h : LRel row l vs IC) (k : LRel row l2 vs2 IC) : LRel row (l ++ l2) (vs ++ vs2) IC := by
  refine ⟨by rw [List.length_append, List.length_append, h.1, k.1, Nat.add_mul], fun j x hj => ?_⟩
  by_cases e : j < l.length
  · rw [List.getElem?_append_left e] at hj
    refine RelT.mono_lt row x (fun r y hr hy => ?_) (fun _ _ hh => hh) (h.2 j x hj)
    have hlt : j * row.width + r < vs.length := by
      rw [h.1]
      have : (j + 1) * row.width ≤ l.length * row.width := Nat.mul_le_mul_right _ e
      rw [Nat.add_mul] at this
      omega
    rw [List.getElem?_append_left hlt]; exact hy
  · rw [List.getElem?_append_right (by omega)] at hj
    refine RelT.mono_lt row x (fun r y hr hy => ?_) (fun _ _ hh => hh) (k.2 _ x hj)
    have e2 : j * row.width = l.length * row.width + (j - l.length) * row.width := by
      rw [← Nat.add_mul]; congr 1; omega
    rw [List.getElem?_append_right (by rw [h.1]; omega), h.1]
    rw [show j * row.width + r - l.length * row.width = (j - l.length) * row.width + r from by omega]
    exact hy

theorem LRel.mono {row : CT} {l : List row.den} {vs : List Value} {IC IC' : Addr → Value → Prop} (h : LRel row l vs IC) (hI : ∀ a y, IC a y → IC' a y) : LRel row l vs IC' :=
  ⟨h.1, fun j x hj => RelT.mono row x (fun _ _ hh => hh) hI (h.2 j x hj)⟩

/-- What append leaves: the row that is the token's now. -/
theorem tok_value {X : Ctx} (hX : HRel X) {i g cap n : Nat} {e : TypeId} {ver : Nat} {w' : World} {row : CT} {l : List row.den} {vs : List Value} {cur : Array Value}
    (hs : TokStep X i g (n * row.width) e ver w') (hfr : g < X.w.heap.size → ∃ q, X.fr g = some q)
    {m : Nat × Nat} (hg : w'.heap[g]? = some (.cells cur e m)) (hmk : m = (0, 0) ∨ m = (cur.size, cur.size + 1)) (hn : n = l.length) (hcap : n ≤ cap) (hmax : cap ≤ maxLen) (hsz : cur.size = cap * row.width) (htake : cur.toList.take (n * row.width) = vs)
    (hl : LRel row l vs X.IC) :
    VR (X.tok i g (n * row.width) e ver w') (.one (.sl row l (.own i ver))) (.slice (some ⟨g, 0, none⟩) n cap) := by
  have hle := tok_le hX hs hfr
  have hX' := hX.tok hs hfr
  refine ⟨some ⟨g, 0, none⟩, n, cap, rfl, hn, hcap, hmax, .inr ⟨g, 0, rfl, fun j x hj => ?_⟩, e, ver, by simp only [Ctx.tok, upd_same], Nat.le_refl _, fun _ => .inr ⟨by simp only [Ctx.tok, upd_same], ?_⟩⟩
  · refine RelT.mono_lt row x (fun k y hk hy => ?_) hle.ic (hl.2 j x hj)
    rw [Nat.zero_add]
    have hjl : j < l.length := (List.getElem?_eq_some_iff.1 hj).1
    have hlt : j * row.width + k < n * row.width := by
      have : (j + 1) * row.width ≤ n * row.width := Nat.mul_le_mul_right _ (by omega)
      rw [Nat.add_mul] at this
      omega
    refine ⟨?_, rfl, ?_, ?_, ?_⟩
    · rcases hs.which with h | ⟨h, h'⟩
      · exact .inl (by show X.w0.heap.size ≤ g; rw [h]; exact hX.size)
      · rcases hX.placet i h with hp | hp
        · exact .inl (by show X.w0.heap.size ≤ g; rw [h']; exact hp)
        · exact .inr (.inl (by show X.lent g; rw [h']; exact hp))
    · show w'.cell? ⟨g, j * row.width + k, none⟩ = some y
      rw [cell_of_row _ _ _ cur e m hg]
      rw [← htake, List.getElem?_take_of_lt hlt] at hy
      simpa using hy
    · intro j' b hj' hb
      have := hX'.injm j' b i hj' hb (.inl rfl)
      simpa only [Ctx.tok, upd_same] using this
    · intro q hq
      simp only [Ctx.tok, upd_same, Option.some.injEq] at hq
      subst hq; exact hlt
  · refine ⟨.inl rfl, ?_, cur, m, ?_, hsz, hmk⟩
    · simp only [Ctx.tok, upd_same]
    · simp only [Ctx.tok, upd_same]; exact hg

/-- The list that a slice's account tells, at a row's type; whether and how it may be appended to. -/
def slOf (row : CT) : AC → Option (List row.den × SM)
  | .nils => some ([], .full)
  | .sl row' l m => if h : row'.eqb row = true then some (castL row' row h l, m) else none
  | _ => none

theorem slOf_rel {X : Ctx} {row : CT} {c : AC} {l : List row.den} {m : SM} {v : Value} (h : slOf row c = some (l, m)) (hv : VRc X c v) : VRc X (.sl row l m) v := by
  unfold slOf at h
  split at h
  · simp only [Option.some.injEq, Prod.mk.injEq] at h
    obtain ⟨rfl, rfl⟩ := h
    cases hv
    exact ⟨none, 0, 0, rfl, rfl, Nat.le_refl _, by simp [maxLen], .inl rfl, rfl⟩
  · split at h
    · rename_i row' l' m' e
      have e' := CT.eq_of_eqb _ _ e
      subst e'
      simp only [Option.some.injEq, Prod.mk.injEq] at h
      obtain ⟨rfl, rfl⟩ := h
      exact hv
    · cases h
  · cases h

/-- A choice: taken off the list of choices, if there is one there; what it takes for granted. -/
def br (b : Bool) : List Bool → Bool × List Bool × List Bool
  | [] => (b, [], [])
  | o :: r => (o, [b == o], r)

theorem br_eq {b : Bool} {os : List Bool} (h : ∀ c ∈ (br b os).2.1, c = true) : (br b os).1 = b := by
  cases os with
  | nil => rfl
  | cons o r =>
    have := h (b == o) (by simp [br])
    simp only [beq_iff_eq] at this
    exact this.symm

theorem arr_same {X : Ctx} {i : Nat} {row row' : CT} {l : List row.den} {l' : List row'.den} (h : X.H i = some (.arr row l)) (h' : X.H i = some (.arr row' l')) : ∃ e : row = row', e ▸ l = l' := by
  rw [h] at h'
  simp only [Option.some.injEq] at h'
  cases h'
  exact ⟨rfl, rfl⟩

/-- The values of rows of an own array. -/
theorem arr_vals {X : Ctx} (hX : HRel X) {i : Nat} {row : CT} {l : List row.den} (hH : X.H i = some (.arr row l)) (off len : Nat) (hle : off + len ≤ l.length) :
    ∃ vs : List Value, LRel row ((l.drop off).take len) vs X.IC ∧ (∀ u ∈ vs, u.oneCell' = true) ∧ ∀ (k : Nat) u, vs[k]? = some u → X.w.cell? ⟨X.φ i, off * row.width + k, none⟩ = some u := by
  obtain ⟨c, t', h1, h2, h3⟩ := hX.blk i _ hH
  have hcl : c.toList.length = c.size := Array.length_toList
  have hsz : (off + len) * row.width ≤ c.size := by rw [h2]; exact Nat.mul_le_mul_right _ hle
  rw [Nat.add_mul] at hsz
  have hget : ∀ k, k < len * row.width → ((c.toList.drop (off * row.width)).take (len * row.width))[k]? = c[off * row.width + k]? := fun k hk => by
    rw [List.getElem?_take_of_lt hk, List.getElem?_drop, Array.getElem?_toList]
  refine ⟨(c.toList.drop (off * row.width)).take (len * row.width), ⟨?_, fun j x hj => ?_⟩, fun u hu => ?_, fun k u hk => ?_⟩
  · rw [List.length_take, List.length_drop, List.length_take, List.length_drop, hcl]
    have e1 : min len (l.length - off) = len := by omega
    rw [e1]; omega
  · have hjl : j < len := by
      have := (List.getElem?_eq_some_iff.1 hj).1
      rw [List.length_take] at this; omega
    rw [List.getElem?_take_of_lt hjl, List.getElem?_drop] at hj
    refine RelT.mono_lt0 row x (fun k y hk hy => ?_) (fun _ _ h => h) (h3 _ x hj)
    have : (j + 1) * row.width ≤ len * row.width := Nat.mul_le_mul_right _ hjl
    rw [Nat.add_mul] at this
    rw [hget _ (by omega), ← hy, Nat.add_mul]
    congr 1; omega
  · obtain ⟨q, hq⟩ := List.getElem?_of_mem hu
    have hql := (List.getElem?_eq_some_iff.1 hq).1
    rw [List.length_take] at hql
    rw [hget q (by omega)] at hq
    have hw : 0 < row.width := by
      rcases Nat.eq_zero_or_pos row.width with h0 | h0
      · rw [h0] at hql; omega
      · exact h0
    have hqd : off * row.width + q = (off + q / row.width) * row.width + q % row.width := by
      rw [Nat.add_mul]
      have := Nat.div_add_mod q row.width
      rw [Nat.mul_comm] at this; omega
    have hj : off + q / row.width < l.length := by
      have : q / row.width < len := (Nat.div_lt_iff_lt_mul hw).2 (by omega)
      omega
    have hrel := h3 (off + q / row.width) _ (List.getElem?_eq_getElem hj)
    have hk : q % row.width < row.width := Nat.mod_lt _ hw
    have hcell : (row.cells l[off + q / row.width])[q % row.width]? = some ((row.cells l[off + q / row.width])[q % row.width]'(by rw [CT.cells_length]; exact hk)) := List.getElem?_eq_getElem _
    obtain ⟨y, hy, hr⟩ := RelT.cell row _ _ hrel _ _ hcell
    rw [hqd, hy] at hq
    injection hq with hq; subst hq
    exact (AC.known_one (CT.cells_known row _ _ _ hcell) hr).1
  · have hkl := (List.getElem?_eq_some_iff.1 hk).1
    rw [List.length_take] at hkl
    rw [hget k (by omega)] at hk
    rw [cell_of_row _ _ _ c t' (0, 0) h1]; exact hk

/-- Rows are written into an own array, one behind the other. -/
theorem put_arr_ok {X : Ctx} (hX : HRel X) {i p : Nat} {row : CT} {l l2 : List row.den} {vals : List Value} (hH : X.H i = some (.arr row l)) (hlr : LRel row l2 vals X.IC) (hone : ∀ v ∈ vals, v.oneCell' = true) (hle : p + l2.length ≤ l.length) :
    ∃ w', (storeCells ⟨X.φ i, p * row.width, none⟩ vals).run P X.w = .ok () w' ∧ X.le (X.put i (.arr row (l.take p ++ (l2 ++ l.drop (p + l2.length)))) w') ∧ HRel (X.put i (.arr row (l.take p ++ (l2 ++ l.drop (p + l2.length)))) w') := by
  obtain ⟨c, t', h1, h2, h3⟩ := hX.blk i _ hH
  have hsz : (p + l2.length) * row.width ≤ c.size := by rw [h2]; exact Nat.mul_le_mul_right _ hle
  rw [Nat.add_mul] at hsz
  have hvl := hlr.1
  have hrun := run_storeCells_at P (X.φ i) t' vals X.w (p * row.width) 0 c h1 (by omega) hone
  obtain ⟨c', g1, g2, g3, g4, g5, g6, g7, g8⟩ := setCells_heap (X.φ i) t' vals X.w (p * row.width) c h1 (by omega)
  have ho : OneBlock X i (setCells X.w (X.φ i) (p * row.width) vals) := ⟨g4, g5, g6, g7, g8⟩
  have hlen : (l.take p ++ (l2 ++ l.drop (p + l2.length))).length = l.length := by
    simp only [List.length_append, List.length_take, List.length_drop]; omega
  have harr : ∀ row0 l0, AB.arr row l = .arr row0 l0 → ∃ l' : List row0.den, AB.arr row (l.take p ++ (l2 ++ l.drop (p + l2.length))) = .arr row0 l' ∧ l'.length = l0.length := fun row0 l0 e => by
    cases e; exact ⟨_, rfl, hlen⟩
  have hle' := put_le hX hH rfl (b' := .arr row (l.take p ++ (l2 ++ l.drop (p + l2.length)))) rfl ho harr
  refine ⟨_, hrun, hle', hX.put hH rfl rfl ho harr ⟨c', t', g1, by rw [g2, h2, hlen], fun q z hq => ?_⟩⟩
  have hmono : ∀ (t : CT) (v : t.den) (C : Nat → Value → Prop), RelT t v C X.IC → RelT t v C (X.put i (.arr row (l.take p ++ (l2 ++ l.drop (p + l2.length)))) (setCells X.w (X.φ i) (p * row.width) vals)).IC :=
    fun t v C h => RelT.mono t v (fun _ _ h => h) (fun a y h => hle'.ic a y h) h
  by_cases e1 : q < p
  · rw [List.getElem?_append_left (by rw [List.length_take]; omega), List.getElem?_take_of_lt e1] at hq
    refine RelT.mono_lt0 row z (fun k y hk hy => ?_) (fun _ _ h => h) (hmono _ _ _ (h3 q z hq))
    have : (q + 1) * row.width ≤ p * row.width := Nat.mul_le_mul_right _ e1
    rw [Nat.add_mul] at this
    rw [g3, if_neg (by omega)]; exact hy
  · rw [List.getElem?_append_right (by rw [List.length_take]; omega), List.length_take] at hq
    have hm : min p l.length = p := by omega
    rw [hm] at hq
    by_cases e2 : q - p < l2.length
    · rw [List.getElem?_append_left e2] at hq
      refine RelT.mono_lt0 row z (fun k y hk hy => ?_) (fun _ _ h => h) (hmono _ _ _ (hlr.2 (q - p) z hq))
      have h4 : (q - p + 1) * row.width ≤ l2.length * row.width := Nat.mul_le_mul_right _ e2
      rw [Nat.add_mul] at h4
      have h5 : q * row.width = p * row.width + (q - p) * row.width := by rw [← Nat.add_mul]; congr 1; omega
      rw [g3, if_pos (by omega), ← hy]; congr 1; omega
    · rw [List.getElem?_append_right (by omega), List.getElem?_drop] at hq
      have hq' : l[q]? = some z := by rw [← hq]; congr 1; omega
      refine RelT.mono_lt0 row z (fun k y hk hy => ?_) (fun _ _ h => h) (hmono _ _ _ (h3 q z hq'))
      have h4 : (p + l2.length) * row.width ≤ q * row.width := Nat.mul_le_mul_right _ (by omega)
      rw [Nat.add_mul] at h4
      rw [g3, if_neg (by omega)]; exact hy

/-- Rows of an own array, as known. -/
def aslRows (H : Nat → Option AB) (row : CT) (j off len : Nat) : Option (List row.den) :=
  match H j with
  | some (.arr row' l) => if h : row'.eqb row = true then some (((castL row' row h l).drop off).take len) else none
  | _ => none
theorem aslRows_some {X : Ctx} {row : CT} {i off len : Nat} {r : List row.den} (h : aslRows X.H row i off len = some r) : ∃ l : List row.den, X.H i = some (.arr row l) ∧ r = (l.drop off).take len := by
  unfold aslRows at h
  split at h
  · rename_i row' l hH
    split at h
    · rename_i hr
      have e := CT.eq_of_eqb _ _ hr
      subst e
      injection h with h; subst h
      exact ⟨l, hH, rfl⟩
    · cases h
  · cases h

/-- Cells of a slice over an own block, as rows. -/
def cslRows (P : Program) (H : Nat → Option AB) (e : TypeId) (j off len : Nat) : Option ((row : CT) × List row.den) :=
  match P.info? e, rowOf P 12 e, H j with
  | some i, some row, some (.cells cs) =>
    if Nat.beq row.width i.size && Nat.ble (off + len * i.size) cs.length && ((cs.drop off).take (len * i.size)).all AC.known then
      match row.uns len ((cs.drop off).take (len * i.size)) with
      | some (l, []) => some ⟨row, l⟩
      | _ => none
    else none
  | _, _, _ => none

/-- What a slice holds, as rows. -/
def rowsIn (P : Program) (H : Nat → Option AB) (e : TypeId) : AC → Option ((row : CT) × List row.den)
  | .sl row l _ => some ⟨row, l⟩
  | .csl j off len _ => cslRows P H e j off len
  | .asl row j off len _ => (aslRows H row j off len).map fun l => ⟨row, l⟩
  | _ => none

def aappend (P : Program) (t : TypeId) (H : Nat → Option AB) (nid : Nat) (s x : AC) (os : List Bool) : Option (AV × List (Nat × AB) × List Bool × List Bool) :=
  match P.underlying t, x with
  | some (.slice e), .nils => match P.info? e, s with
    | some _, .nils => some (.one s, [], [], os)
    | some _, .sl _ _ _ => some (.one s, [], [], os)
    | some _, .csl _ _ _ _ => some (.one s, [], [], os)
    | some _, .asl _ _ _ _ _ => some (.one s, [], [], os)
    | _, _ => none
  | some (.slice e), x =>
    match P.info? e, azero P e, rowsIn P H e x with
    | some i, some zs, some ⟨row, l2⟩ =>
      if Nat.beq row.width i.size && Nat.beq zs.length i.size && Nat.blt 0 i.size then
        match br l2.isEmpty os with
        | (true, cs, r) => match s with
          | .nils => some (.one s, [], cs, r)
          | .sl _ _ _ => some (.one s, [], cs, r)
          | .csl _ _ _ _ => some (.one s, [], cs, r)
          | .asl _ _ _ _ _ => some (.one s, [], cs, r)
          | _ => none
        | (false, cs, r) =>
          match s with
          | .csl j off len cap =>
            match H j with
            | some (.cells old) =>
              if Nat.ble (len + l2.length) cap then
                if Nat.beq off 0 && Nat.ble ((len + l2.length) * i.size) old.length && Nat.beq (l2.flatMap row.cells).length (l2.length * i.size) then
                  some (.one (.csl j 0 (len + l2.length) cap), [(j, .cells (old.take (len * i.size) ++ (l2.flatMap row.cells ++ old.drop (len * i.size + (l2.flatMap row.cells).length))))], cs, r)
                else none
              else match cslRows P H e j off len with
                | some ⟨row', l⟩ => if h : row'.eqb row = true then
                    some (.one (.sl row (castL row' row h l ++ l2) (.own nid 0)), [(nid, .tok e 0)],
                      (Nat.ble ((len + l2.length) * i.bytes) 140737488355328 && Nat.ble (len + l2.length) maxLen) :: cs, r)
                  else none
                | none => none
            | _ => none
          | .asl row' j off len cap =>
            match H j with
            | some (.arr row'' l) => if h : row''.eqb row = true then
                if row'.eqb row then
                  match br (Nat.ble (len + l2.length) cap) r with
                  | (true, c2, r2) => some (.one (.asl row j off (len + l2.length) cap), [(j, .arr row ((castL row'' row h l).take (off + len) ++ (l2 ++ (castL row'' row h l).drop (off + len + l2.length))))], c2 ++ cs, r2)
                  | (false, c2, r2) => some (.one (.sl row (((castL row'' row h l).drop off).take len ++ l2) (.own nid 0)), [(nid, .tok e 0)],
                      (Nat.ble ((len + l2.length) * i.bytes) 140737488355328 && Nat.ble (len + l2.length) maxLen) :: (c2 ++ cs), r2)
                else none
              else none
            | _ => none
          | s => match slOf row s with
            | none => none
            | some (l, m) =>
              match m with
              | .full => some (.one (.sl row (l ++ l2) (.own nid 0)), [(nid, .tok e 0)], (Nat.ble ((l.length + l2.length) * i.bytes) 140737488355328 && Nat.ble (l.length + l2.length) maxLen) :: cs, r)
              | .own k ver => match H k with
                | some (.tok e' v0) => if Nat.beq e' e then some (.one (.sl row (l ++ l2) (.own k (v0 + 1))), [(k, .tok e (v0 + 1))],
                    Nat.beq ver v0 :: (Nat.ble ((l.length + l2.length) * i.bytes) 140737488355328 && Nat.ble (l.length + l2.length) maxLen) :: cs, r) else none
                | _ => none
              | .shared => none
              | .nn => none
      else none
    | _, _, _ => none
  | _, _ => none

/-- The values that a slice holds, wherever they lie. -/
theorem sl_vals {X : Ctx} {row : CT} {l : List row.den} {m : SM} {v : Value} (h : VRc X (.sl row l m) v) : ∃ A cap vs, v = .slice A l.length cap ∧ l.length ≤ cap ∧ cap ≤ maxLen ∧ LRel row l vs X.IC ∧ (∀ u ∈ vs, u.oneCell' = true) ∧
    (l.length = 0 ∨ ∃ b o, A = some ⟨b, o, none⟩ ∧ ∀ (k : Nat) u, vs[k]? = some u → X.w.cell? ⟨b, o + k, none⟩ = some u) := by
  obtain ⟨A, n, cap, rfl, rfl, h3, h4, h5, h6⟩ := h
  rcases h5 with h0 | ⟨b, o, rfl, hr⟩
  · have : l = [] := List.eq_nil_of_length_eq_zero h0
    subst this
    exact ⟨A, cap, [], rfl, h3, h4, ⟨by simp, fun j x hj => by simp at hj⟩, by simp, .inl rfl⟩
  · obtain ⟨vs, g1, g2, g3, g4⟩ := row_vals hr
    exact ⟨_, cap, vs, rfl, h3, h4, ⟨g1, g3⟩, g4, .inr ⟨b, o, rfl, fun k u hu => (g2 k u hu).2.2.1⟩⟩

theorem append_nils (t ty e : TypeId) (i : TypeInfo) (ht : P.underlying t = some (.slice e)) (hi : P.info? e = some i) (A : Option Addr) (n cap c : Nat) (B : Option Addr) (hn : n ≤ cap)
    (w : World) (hA : ∀ a, A = some a → True) : (Builtin.append_ #[t, t] ty #[.slice A n cap, .slice B 0 c]).run P w = .ok (.slice A n cap) w := by
  cases A <;> cases B <;> simp [Builtin.append_, run_underlying ht, sizeOf, typeInfo, hi, Builtin.lenOf, Builtin.firstCells, hn, storeCells, loadCells, loadCellsFrom]

theorem azero_info {X : Ctx} {t : TypeId} {cs : List AC} {i : TypeInfo} (h : azero P t = some cs) (hi : P.info? t = some i) : ∃ z, i.zero = some z ∧ PW (VRc X) cs z.cells.toList := by
  unfold azero at h
  cases hz : i.zero with
  | none => simp only [hi, hz] at h; cases h
  | some z => simp only [hi, hz] at h; exact ⟨z, rfl, cvs_rel X h⟩

/-- The step, for a new array. -/
theorem tokstep_new {X : Ctx} (hX : HRel X) {i end_ : Nat} {e : TypeId} {ver : Nat} (o : Obj) (w1 : World) (h1 : w1 = X.w.drew.alloc o)
    (hi : X.H i = none ∨ ∃ v, X.H i = some (.tok e v) ∧ v < ver) : TokStep X i X.w.heap.size end_ e ver w1 := by
  subst h1
  refine ⟨rfl, rfl, rfl, ?_, fun k hk _ => ?_, .inl rfl, ?_, hi, fun q hq => absurd (hX.frlt _ q hq) (Nat.lt_irrefl _)⟩
  · simp
  · exact Below.heap_alloc X.w.drew o k hk
  · simp

/-- append into a new array. -/
theorem append_grow_ok {X : Ctx} (hX : HRel X) {t ty e : TypeId} {i : TypeInfo} {z : Value} (hu : P.underlying t = some (.slice e)) (hi : P.info? e = some i) (hzi : i.zero = some z) (hzs : z.cells.size = i.size)
    {row : CT} (hw : row.width = i.size) {l l2 : List row.den} {vs vs2 : List Value} (hl : LRel row l vs X.IC) (hl2 : LRel row l2 vs2 X.IC) {A : Option Addr} {cap cap2 b2 o2 : Nat}
    (hA : A = none → cap = 0) (hcap : l.length ≤ cap) (hat : l.length = 0 ∨ ∃ b o, A = some ⟨b, o, none⟩ ∧ ∀ (k : Nat) u, vs[k]? = some u → X.w.cell? ⟨b, o + k, none⟩ = some u)
    (hc2 : ∀ (k : Nat) u, vs2[k]? = some u → X.w.cell? ⟨b2, o2 + k, none⟩ = some u) (hg : cap < l.length + l2.length)
    (hsm1 : (l.length + l2.length) * i.bytes ≤ 140737488355328) (hsm2 : l.length + l2.length ≤ maxLen)
    {k ver : Nat} (hk : X.H k = none ∨ ∃ v, X.H k = some (.tok e v) ∧ v < ver) :
    ∃ val X', (Builtin.append_ #[t, t] ty #[.slice A l.length cap, .slice (some ⟨b2, o2, none⟩) l2.length cap2]).run P X.w = .ok val X'.w ∧ X.le X' ∧ HRel X' ∧ X'.H = upd X.H k (some (.tok e ver)) ∧ VR X' (.one (.sl row (l ++ l2) (.own k ver))) val := by
  have hmx : l.length + l2.length ≤ 9223372036854775807 := by simp only [maxLen] at hsm2; omega
  have hnl2 : vs2.length = l2.length * i.size := by rw [hl2.1, hw]
  have hnews : ∀ (j : Nat) u, vs2[j]? = some u → X.w.cell? ((⟨b2, o2, none⟩ : Addr).add j) = some u := fun j u hj => by rw [Addr.add_lit]; exact hc2 j u hj
  have hrun : (Builtin.append_ #[t, t] ty #[.slice A l.length cap, .slice (some ⟨b2, o2, none⟩) l2.length cap2]).run P X.w =
      .ok (.slice (some ⟨X.w.heap.size, 0, none⟩) (l.length + l2.length) (grownCap X.w (l.length + l2.length) cap e))
        (X.w.drew.alloc (.cells (vs.toArray ++ vs2.toArray ++ Builtin.zeroCells z.cells (grownCap X.w (l.length + l2.length) cap e - (l.length + l2.length))) e)) := by
    rcases Nat.eq_zero_or_pos l.length with h0 | h0
    · have hvs : vs = [] := List.eq_nil_of_length_eq_zero (by rw [hl.1, h0, Nat.zero_mul])
      have hln : l = [] := List.eq_nil_of_length_eq_zero h0
      subst hvs
      subst hln
      simp only [List.length_nil, Nat.zero_add] at hg hsm1 hmx ⊢
      cases A with
      | none =>
        have hcz := hA rfl
        subst hcz
        have := run_append_nil (P := P) X.w t ty e i z hu hi hzi ⟨b2, o2, none⟩ l2.length cap2 vs2 hnl2 hnews (by omega) (by omega) (by omega)
        simpa using this
      | some b =>
        have := run_append_grow (P := P) X.w t ty e i z hu hi hzi b 0 cap [] (by simp) (by simp) ⟨b2, o2, none⟩ l2.length cap2 vs2 hnl2 hnews (by omega) (by omega) (growslice_fits (by omega) (by simpa using hsm1))
        simpa using this
    · obtain ⟨b, o, rfl, hc⟩ := hat.resolve_left (by omega)
      exact run_append_grow (P := P) X.w t ty e i z hu hi hzi ⟨b, o, none⟩ l.length cap vs (by rw [hl.1, hw]) (fun j u hj => by rw [Addr.add_lit]; exact hc j u hj) ⟨b2, o2, none⟩ l2.length cap2 vs2 hnl2 hnews hg (by omega)
        (growslice_fits hg hsm1)
  have hge := grownCap_ge X.w (l.length + l2.length) cap e
  have hcm := grownCap_le_maxLen X.w (l.length + l2.length) cap e hsm2
  have hs := tokstep_new hX (i := k) (end_ := (l.length + l2.length) * row.width) (e := e) (ver := ver) (.cells (vs.toArray ++ vs2.toArray ++ Builtin.zeroCells z.cells (grownCap X.w (l.length + l2.length) cap e - (l.length + l2.length))) e) _ rfl hk
  have hfr : X.w.heap.size < X.w.heap.size → ∃ q, X.fr X.w.heap.size = some q := fun h => absurd h (Nat.lt_irrefl _)
  have hlen : (vs ++ vs2).length = (l.length + l2.length) * row.width := by rw [List.length_append, hl.1, hl2.1, Nat.add_mul]
  refine ⟨_, X.tok k X.w.heap.size ((l.length + l2.length) * row.width) e ver _, hrun, tok_le hX hs hfr, hX.tok hs hfr, rfl, ?_⟩
  refine tok_value hX hs hfr (heap_alloc_new X.w.drew _) (.inl rfl) (by simp) hge hcm ?_ ?_ (hl.append hl2)
  · simp only [Array.size_append, List.size_toArray, size_zeroCells, hzs, hl.1, hl2.1, hw, ← Nat.add_mul]
    congr 1; omega
  · simp only [Array.toList_append, List.append_assoc]
    rw [← List.append_assoc, ← hlen]
    exact List.take_left

/-- append within the array that the token stands for. -/
theorem append_room_ok {X : Ctx} (hX : HRel X) {t ty e : TypeId} {i : TypeInfo} (hu : P.underlying t = some (.slice e)) (hi : P.info? e = some i)
    {row : CT} (hw : row.width = i.size) {l l2 : List row.den} {vs vs2 : List Value} (hl : LRel row l vs X.IC) (hl2 : LRel row l2 vs2 X.IC) (hone2 : ∀ u ∈ vs2, u.oneCell' = true) {cap cap2 b2 o2 : Nat}
    {k ver v0 : Nat} (hk : X.H k = some (.tok e v0)) (hv : v0 < ver) (ht : X.TokOk k e (l.length * row.width) (cap * row.width)) (hmax : cap ≤ maxLen)
    (hat : ∀ (j : Nat) u, vs[j]? = some u → X.w.cell? ⟨X.φ k, j, none⟩ = some u) (hc2 : ∀ (k : Nat) u, vs2[k]? = some u → X.w.cell? ⟨b2, o2 + k, none⟩ = some u) (hg : l.length + l2.length ≤ cap) :
    ∃ val X', (Builtin.append_ #[t, t] ty #[.slice (some ⟨X.φ k, 0, none⟩) l.length cap, .slice (some ⟨b2, o2, none⟩) l2.length cap2]).run P X.w = .ok val X'.w ∧ X.le X' ∧ HRel X' ∧ X'.H = upd X.H k (some (.tok e ver)) ∧ VR X' (.one (.sl row (l ++ l2) (.own k ver))) val := by
  obtain ⟨t1, t2, c, m, t3, t4, tm⟩ := ht
  have hnl2 : vs2.length = l2.length * i.size := by rw [hl2.1, hw]
  have hnews : ∀ (j : Nat) u, vs2[j]? = some u → X.w.cell? ((⟨b2, o2, none⟩ : Addr).add j) = some u := fun j u hj => by rw [Addr.add_lit]; exact hc2 j u hj
  have hfit : l.length * i.size + vs2.length ≤ c.size := by rw [hnl2, t4, hw, ← Nat.add_mul]; exact Nat.mul_le_mul_right _ hg
  have hf := run_firstCells_some (P := P) X.w i.size l2.length ⟨b2, o2, none⟩ l2.length cap2 vs2 hnl2 hnews
  have hmk : ∀ o, o < c.size → ¬ (m.1 ≤ o ∧ o < m.2) := fun o ho => by
    rcases tm with rfl | rfl <;> simp <;> omega
  have hst := run_storeCells_m P m (X.φ k) e vs2 X.w (l.length * i.size) 0 c hmk t3 (by omega) hone2
  obtain ⟨c', g1, g2, g3, g4, g5, g6, g7, g8⟩ := setCells_heap_m m (X.φ k) e vs2 X.w (l.length * i.size) c t3 hfit
  rw [Nat.add_zero] at hst
  have hrun : (Builtin.append_ #[t, t] ty #[.slice (some ⟨X.φ k, 0, none⟩) l.length cap, .slice (some ⟨b2, o2, none⟩) l2.length cap2]).run P X.w = .ok (.slice (some ⟨X.φ k, 0, none⟩) (l.length + l2.length) cap) (setCells X.w (X.φ k) (l.length * i.size) vs2) := by
    simp [Builtin.append_, run_underlying hu, sizeOf, typeInfo, hi, Builtin.lenOf, hg, hf, Addr.add_lit, hst]
  have hs : TokStep X k (X.φ k) ((l.length + l2.length) * row.width) e ver (setCells X.w (X.φ k) (l.length * i.size) vs2) := by
    refine ⟨g4, g5, g6, by rw [g7]; exact Nat.le_refl _, fun j hj hne => g8 j hne, .inr ⟨t1, rfl⟩, by rw [g7]; exact hX.ltt k t1, .inr ⟨v0, hk, hv⟩, fun q hq => ?_⟩
    rw [t2] at hq
    simp only [Option.some.injEq] at hq
    subst hq
    refine ⟨Nat.mul_le_mul_right _ (by omega), fun o ho => ?_⟩
    rw [cell_of_row _ _ _ _ e m g1, cell_of_row _ _ _ c e m t3, g3, if_neg (by rw [← hw]; omega)]
  have hfr : X.φ k < X.w.heap.size → ∃ q, X.fr (X.φ k) = some q := fun _ => ⟨_, t2⟩
  have hlen : (vs ++ vs2).length = (l.length + l2.length) * row.width := by rw [List.length_append, hl.1, hl2.1, Nat.add_mul]
  refine ⟨_, X.tok k (X.φ k) ((l.length + l2.length) * row.width) e ver _, hrun, tok_le hX hs hfr, hX.tok hs hfr, rfl, ?_⟩
  refine tok_value hX hs hfr g1 (by rw [g2]; exact tm) (by simp) hg hmax (by rw [g2, t4]) ?_ (hl.append hl2)
  apply List.ext_getElem?
  intro j
  by_cases hj : j < (l.length + l2.length) * row.width
  · rw [List.getElem?_take_of_lt hj, Array.getElem?_toList, g3]
    by_cases hj1 : j < l.length * i.size
    · have hvl : j < vs.length := by rw [hl.1, hw]; exact hj1
      rw [if_neg (by omega), List.getElem?_append_left hvl, List.getElem?_eq_getElem hvl]
      have := hat j _ (List.getElem?_eq_getElem hvl)
      rwa [cell_of_row _ _ _ c e m t3] at this
    · rw [Nat.add_mul, hw] at hj
      rw [if_pos (by omega), List.getElem?_append_right (by rw [hl.1, hw]; omega), hl.1, hw]
  · rw [List.getElem?_take_eq_none (by omega), List.getElem?_eq_none (by omega)]

/-- A list's values, wherever they lie. -/
def SlVals (X : Ctx) (row : CT) (l : List row.den) (v : Value) : Prop := ∃ A cap vs, v = .slice A l.length cap ∧ l.length ≤ cap ∧ cap ≤ maxLen ∧ LRel row l vs X.IC ∧ (∀ u ∈ vs, u.oneCell' = true) ∧
    (l.length = 0 ∨ ∃ b o, A = some ⟨b, o, none⟩ ∧ ∀ (k : Nat) u, vs[k]? = some u → X.w.cell? ⟨b, o + k, none⟩ = some u)

theorem cslRows_ok {X : Ctx} (hX : HRel X) {e : TypeId} {j off len cap : Nat} {row : CT} {l : List row.den} (h : cslRows P X.H e j off len = some ⟨row, l⟩) (hc : len ≤ cap) (hm : cap ≤ maxLen) :
    l.length = len ∧ ∃ vs, LRel row l vs X.IC ∧ (∀ u ∈ vs, u.oneCell' = true) ∧ ∀ (k : Nat) u, vs[k]? = some u → X.w.cell? ⟨X.φ j, off + k, none⟩ = some u := by
  unfold cslRows at h
  split at h
  · rename_i i row0 cs hi hrow hH
    split at h
    · rename_i hcond
      simp only [Bool.and_eq_true, Nat.beq_eq, Nat.ble_eq] at hcond
      obtain ⟨⟨hw, hle⟩, hknown⟩ := hcond
      split at h
      · rename_i l0 hu
        simp only [Option.some.injEq, Sigma.mk.injEq] at h
        obtain ⟨rfl, hll⟩ := h
        have hll := eq_of_heq hll
        subst hll
        obtain ⟨c, t', h1, h2⟩ := hX.blk j _ hH
        have hpw : PW (VRc X) ((cs.drop off).take (len * i.size)) ((c.toList.drop off).take (len * i.size)) := (h2.drop off).take _
        obtain ⟨g1, g2, g3⟩ := CT.uns_rel row0 len _ l0 [] _ hu hpw
        refine ⟨g1, (c.toList.drop off).take (len * i.size), ⟨?_, g3⟩, ?_, ?_⟩
        · rw [← hpw.1, g2, g1]; simp
        · intro u hu'
          obtain ⟨q, hq⟩ := List.getElem?_of_mem hu'
          obtain ⟨a, ha, hr⟩ := hpw.get hq
          exact (AC.known_one (List.all_eq_true.1 hknown a (List.mem_of_getElem? ha)) hr).1
        · intro k u hk
          rw [cell_of_row _ _ _ c t' (0, 0) h1, ← Array.getElem?_toList]
          have hlt : k < len * i.size := by
            have := (List.getElem?_eq_some_iff.1 hk).1
            rw [List.length_take] at this; omega
          rw [List.getElem?_take_of_lt hlt, List.getElem?_drop] at hk
          exact hk
      · cases h
    · cases h
  · cases h

theorem rowsIn_vals {X : Ctx} (hX : HRel X) {e : TypeId} {x : AC} {row : CT} {l : List row.den} (h : rowsIn P X.H e x = some ⟨row, l⟩) {xv : Value} (hxv : VRc X x xv) : SlVals X row l xv := by
  unfold rowsIn at h
  split at h
  · simp only [Option.some.injEq, Sigma.mk.injEq] at h
    obtain ⟨rfl, hll⟩ := h
    have hll := eq_of_heq hll
    subst hll
    exact sl_vals hxv
  · rename_i j off len cap
    obtain ⟨_, rfl, h3, h4⟩ := hxv
    obtain ⟨g1, vs, g2, g3, g4⟩ := cslRows_ok hX h h3 h4
    exact ⟨_, cap, vs, by rw [g1], by omega, h4, g2, g3, .inr ⟨_, _, rfl, g4⟩⟩
  · rename_i row' j off len cap
    cases ha : aslRows X.H row' j off len with
    | none => rw [ha] at h; cases h
    | some r =>
      rw [ha] at h
      simp only [Option.map_some, Option.some.injEq, Sigma.mk.injEq] at h
      obtain ⟨rfl, hll⟩ := h
      have hll := eq_of_heq hll
      subst hll
      obtain ⟨l0, hH, rfl⟩ := aslRows_some ha
      obtain ⟨l', hH', rfl, hlc, hcm, hfit⟩ := hxv
      rw [hH] at hH'
      simp only [Option.some.injEq, AB.arr.injEq, heq_eq_eq, true_and] at hH'
      subst hH'
      obtain ⟨vs, g2, g3, g4⟩ := arr_vals hX hH off len (by omega)
      have hlen : ((l0.drop off).take len).length = len := by rw [List.length_take, List.length_drop]; omega
      exact ⟨_, cap, vs, by rw [hlen], by omega, hcm, g2, g3, .inr ⟨_, _, rfl, g4⟩⟩
  · cases h

theorem flat_get {row : CT} : ∀ (l : List row.den) (j k : Nat), k < row.width → (l.flatMap row.cells)[j * row.width + k]? = (l[j]?).bind fun x => (row.cells x)[k]?
  | [], j, k, h => by simp
  | x :: l, j, k, h => by
    have hx := CT.cells_length row x
    simp only [List.flatMap_cons]
    cases j with
    | zero => rw [List.getElem?_append_left (by omega)]; simp
    | succ j =>
      rw [List.getElem?_append_right (by rw [Nat.add_mul]; omega), hx]
      rw [show (j + 1) * row.width + k - row.width = j * row.width + k from by rw [Nat.add_mul]; omega]
      simpa using flat_get l j k h

theorem flat_len {row : CT} : ∀ (l : List row.den), (l.flatMap row.cells).length = l.length * row.width
  | [] => by simp
  | x :: l => by rw [List.flatMap_cons, List.length_append, CT.cells_length, flat_len l, List.length_cons, Nat.add_mul]; omega

/-- A list's cells, and its values. -/
theorem LRel.pw {X : Ctx} {row : CT} (hpos : 0 < row.width) {l : List row.den} {vs : List Value} (h : LRel row l vs X.IC) : PW (VRc X) (l.flatMap row.cells) vs := by
  refine ⟨by rw [flat_len, h.1], fun q c y hc hy => ?_⟩
  have hq : q = (q / row.width) * row.width + q % row.width := by rw [Nat.mul_comm]; exact (Nat.div_add_mod ..).symm
  have hk : q % row.width < row.width := Nat.mod_lt _ hpos
  rw [hq, flat_get l _ _ hk] at hc
  rw [hq] at hy
  cases hx : l[q / row.width]? with
  | none => rw [hx] at hc; cases hc
  | some x =>
    rw [hx] at hc
    obtain ⟨y', h1, h2⟩ := RelT.cell row x _ (h.2 _ x hx) _ c hc
    rw [hy] at h1
    injection h1 with h1
    subst h1; exact h2

/-- append into the room of an own block. -/
theorem append_csl_ok {X : Ctx} (hX : HRel X) {t ty e : TypeId} {i : TypeInfo} (hu : P.underlying t = some (.slice e)) (hi : P.info? e = some i) {row : CT} (hw : row.width = i.size) (hpos : 0 < i.size) {l2 : List row.den} {vs2 : List Value}
    (hl2 : LRel row l2 vs2 X.IC) (hone2 : ∀ u ∈ vs2, u.oneCell' = true) {j len cap cap2 b2 o2 : Nat} {old : List AC} (hH : X.H j = some (.cells old)) (hmax : cap ≤ maxLen)
    (hc2 : ∀ (k : Nat) u, vs2[k]? = some u → X.w.cell? ⟨b2, o2 + k, none⟩ = some u) (hg : len + l2.length ≤ cap) (hfit : (len + l2.length) * i.size ≤ old.length) :
    ∃ val X', (Builtin.append_ #[t, t] ty #[.slice (some ⟨X.φ j, 0, none⟩) len cap, .slice (some ⟨b2, o2, none⟩) l2.length cap2]).run P X.w = .ok val X'.w ∧ X.le X' ∧ HRel X' ∧
      X'.H = upd X.H j (some (.cells (old.take (len * i.size) ++ (l2.flatMap row.cells ++ old.drop (len * i.size + (l2.flatMap row.cells).length))))) ∧ VR X' (.one (.csl j 0 (len + l2.length) cap)) val := by
  have hnl2 : vs2.length = l2.length * i.size := by rw [hl2.1, hw]
  have hnews : ∀ (j : Nat) u, vs2[j]? = some u → X.w.cell? ((⟨b2, o2, none⟩ : Addr).add j) = some u := fun j u hj => by rw [Addr.add_lit]; exact hc2 j u hj
  have hpw := hl2.pw (X := X) (by omega)
  obtain ⟨w', g1, g2, g3⟩ := put_cells_ok (P := P) hX (off := len * i.size) hH hpw hone2 (by rw [flat_len, hw, ← Nat.add_mul]; exact hfit)
  have hf := run_firstCells_some (P := P) X.w i.size l2.length ⟨b2, o2, none⟩ l2.length cap2 vs2 hnl2 hnews
  refine ⟨.slice (some ⟨X.φ j, 0, none⟩) (len + l2.length) cap, _, ?_, g2, g3, rfl, ⟨⟨_, by simp only [Ctx.put, upd_same]; rfl, rfl⟩, rfl, hg, hmax⟩⟩
  show _ = Result.ok _ w'
  simp [Builtin.append_, run_underlying hu, sizeOf, typeInfo, hi, Builtin.lenOf, hg, hf, Addr.add_lit, g1]

/-- append into the room of an own array of rows. -/
theorem append_arr_ok {X : Ctx} (hX : HRel X) {t ty e : TypeId} {i : TypeInfo} (hu : P.underlying t = some (.slice e)) (hi : P.info? e = some i) {row : CT} (hw : row.width = i.size) {l l2 : List row.den} {vs2 : List Value}
    (hl2 : LRel row l2 vs2 X.IC) (hone2 : ∀ u ∈ vs2, u.oneCell' = true) {j off len cap cap2 b2 o2 : Nat} (hold : X.H j = some (.arr row l)) {sv : Value} (hsv : VRc X (.asl row j off len cap) sv)
    (hc2 : ∀ (k : Nat) u, vs2[k]? = some u → X.w.cell? ⟨b2, o2 + k, none⟩ = some u) (hroom : len + l2.length ≤ cap) :
    ∃ val X', (Builtin.append_ #[t, t] ty #[sv, .slice (some ⟨b2, o2, none⟩) l2.length cap2]).run P X.w = .ok val X'.w ∧ X.le X' ∧ HRel X' ∧
      X'.H = upd X.H j (some (.arr row (l.take (off + len) ++ (l2 ++ l.drop (off + len + l2.length))))) ∧ VR X' (.one (.asl row j off (len + l2.length) cap)) val := by
  obtain ⟨l', hH', rfl, hlc, hcm, hfit⟩ := hsv
  rw [hold] at hH'
  simp only [Option.some.injEq, AB.arr.injEq, heq_eq_eq, true_and] at hH'
  subst hH'
  have hnews : ∀ (q : Nat) u, vs2[q]? = some u → X.w.cell? ((⟨b2, o2, none⟩ : Addr).add q) = some u := fun q u hq => by rw [Addr.add_lit]; exact hc2 q u hq
  have hnl2 : vs2.length = l2.length * i.size := by rw [hl2.1, hw]
  have hf := run_firstCells_some (P := P) X.w i.size l2.length ⟨b2, o2, none⟩ l2.length cap2 vs2 hnl2 hnews
  obtain ⟨w', g1, g2, g3⟩ := put_arr_ok (P := P) hX (p := off + len) hold hl2 hone2 (by omega)
  refine ⟨.slice (some ⟨X.φ j, off * row.width, none⟩) (len + l2.length) cap, _, ?_, g2, g3, rfl, ⟨_, by simp only [Ctx.put, upd_same]; rfl, rfl, hroom, hcm, ?_⟩⟩
  · show _ = Result.ok _ w'
    rw [Nat.add_mul, hw] at g1
    simp [Builtin.append_, run_underlying hu, sizeOf, typeInfo, hi, Builtin.lenOf, hroom, hf, Addr.add_lit, hw, g1]
  · simp only [List.length_append, List.length_take, List.length_drop]; omega
theorem append_arr_grow {X : Ctx} (hX : HRel X) {t ty e : TypeId} {i : TypeInfo} {z : Value} (hu : P.underlying t = some (.slice e)) (hi : P.info? e = some i) (hzi : i.zero = some z) (hzs : z.cells.size = i.size) {row : CT} (hw : row.width = i.size) {l l2 : List row.den} {vs2 : List Value}
    (hl2 : LRel row l2 vs2 X.IC) {j off len cap cap2 b2 o2 : Nat} (hold : X.H j = some (.arr row l)) {sv : Value} (hsv : VRc X (.asl row j off len cap) sv)
    (hc2 : ∀ (k : Nat) u, vs2[k]? = some u → X.w.cell? ⟨b2, o2 + k, none⟩ = some u) (hroom : cap < len + l2.length) (hsm1 : (len + l2.length) * i.bytes ≤ 140737488355328) (hsm2 : len + l2.length ≤ maxLen) {nid : Nat} (hnid : X.H nid = none) :
    ∃ val X', (Builtin.append_ #[t, t] ty #[sv, .slice (some ⟨b2, o2, none⟩) l2.length cap2]).run P X.w = .ok val X'.w ∧ X.le X' ∧ HRel X' ∧
      X'.H = upd X.H nid (some (.tok e 0)) ∧ VR X' (.one (.sl row ((l.drop off).take len ++ l2) (.own nid 0))) val := by
  obtain ⟨l', hH', rfl, hlc, hcm, hfit⟩ := hsv
  rw [hold] at hH'
  simp only [Option.some.injEq, AB.arr.injEq, heq_eq_eq, true_and] at hH'
  subst hH'
  obtain ⟨vs, g2, g3, g4⟩ := arr_vals hX hold off len (by omega)
  have hlen : ((l.drop off).take len).length = len := by rw [List.length_take, List.length_drop]; omega
  have hgr := append_grow_ok (P := P) (t := t) (ty := ty) hX hu hi hzi hzs hw g2 hl2 (A := some ⟨X.φ j, off * row.width, none⟩) (cap := cap) (cap2 := cap2) (fun e => by cases e) (by omega) (.inr ⟨_, _, rfl, g4⟩) hc2 (by omega) (by rw [hlen]; exact hsm1) (by rw [hlen]; exact hsm2) (k := nid) (ver := 0) (.inl hnid)
  rw [hlen] at hgr
  exact hgr

set_option maxHeartbeats 1000000 in
theorem aappend_ok {X : Ctx} (hX : HRel X) {t : TypeId} {nid : Nat} (hnid : X.H nid = none) {s x : AC} {os : List Bool} {v : AV} {ups : List (Nat × AB)} {cs r : List Bool} {sv xv : Value}
    (h : aappend P t X.H nid s x os = some (v, ups, cs, r)) (hcs : ∀ c ∈ cs, c = true) (hsv : VRc X s sv) (hxv : VRc X x xv) (ty : TypeId) :
    ∃ val X', (Builtin.append_ #[t, t] ty #[sv, xv]).run P X.w = .ok val X'.w ∧ X.le X' ∧ HRel X' ∧ X'.H = ups.foldl (fun H p => upd H p.1 (some p.2)) X.H ∧ VR X' v val := by
  have same : ∀ {e i n A}, P.underlying t = some (.slice e) → P.info? e = some i → xv = .slice A 0 n → (∃ B m cap, sv = .slice B m cap ∧ m ≤ cap) → VR X (.one s) sv →
      ∃ val X', (Builtin.append_ #[t, t] ty #[sv, xv]).run P X.w = .ok val X'.w ∧ X.le X' ∧ HRel X' ∧ X'.H = X.H ∧ VR X' (.one s) val := by
    rintro e i n A hu hi rfl ⟨B, m, cap, rfl, hc⟩ hv
    exact ⟨_, X, append_nils t ty e i hu hi B m cap n A hc X.w (fun _ _ => trivial), .refl X, hX, rfl, hv⟩
  unfold aappend at h
  split at h
  · rename_i e hu
    cases hxv
    split at h
    · rename_i i hi
      simp only [Option.some.injEq, Prod.mk.injEq] at h
      obtain ⟨rfl, rfl, rfl, rfl⟩ := h
      have hsv' := hsv
      cases hsv
      exact same hu hi rfl ⟨_, _, _, rfl, Nat.le_refl _⟩ hsv'
    · rename_i i row l m hi
      simp only [Option.some.injEq, Prod.mk.injEq] at h
      obtain ⟨rfl, rfl, rfl, rfl⟩ := h
      have hsv' := hsv
      obtain ⟨A, n, cap, rfl, _, hc, _⟩ := hsv
      exact same hu hi rfl ⟨_, _, _, rfl, hc⟩ hsv'
    · rename_i i j off len cap hi
      simp only [Option.some.injEq, Prod.mk.injEq] at h
      obtain ⟨rfl, rfl, rfl, rfl⟩ := h
      have hsv' := hsv
      obtain ⟨_, rfl, hc, _⟩ := hsv
      exact same hu hi rfl ⟨_, _, _, rfl, hc⟩ hsv'
    · rename_i i row j off len cap hi
      simp only [Option.some.injEq, Prod.mk.injEq] at h
      obtain ⟨rfl, rfl, rfl, rfl⟩ := h
      have hsv' := hsv
      obtain ⟨_, _, rfl, hc, _⟩ := hsv
      exact same hu hi rfl ⟨_, _, _, rfl, hc⟩ hsv'
    · cases h
  · rename_i e hu hne
    split at h
    · rename_i i zs row l2 hi hz hrows
      split at h
      · rename_i hcond
        simp only [Bool.and_eq_true, Nat.beq_eq, Nat.blt_eq] at hcond
        obtain ⟨⟨hw, hzl⟩, hpos⟩ := hcond
        obtain ⟨z, hzi, hzp⟩ := azero_info (X := X) hz hi
        have hzs : z.cells.size = i.size := by rw [← Array.length_toList, ← hzp.1]; exact hzl
        obtain ⟨A2, cap2, vs2, rfl, _, _, hl2, hone2, hat2⟩ := rowsIn_vals hX hrows hxv
        split at h
        · rename_i bcs br' hbr
          have hnil : (∀ c ∈ bcs, c = true) → l2.length = 0 := by
            intro hb'
            have hb := br_eq (b := l2.isEmpty) (os := os) (by rw [hbr]; exact hb')
            rw [hbr] at hb
            have h2 : l2 = [] := by simpa using hb.symm
            rw [h2]; rfl
          split at h
          · simp only [Option.some.injEq, Prod.mk.injEq] at h
            obtain ⟨rfl, rfl, rfl, rfl⟩ := h
            have hsv' := hsv
            cases hsv
            exact same hu hi (by rw [hnil hcs]) ⟨_, _, _, rfl, Nat.le_refl _⟩ hsv'
          · simp only [Option.some.injEq, Prod.mk.injEq] at h
            obtain ⟨rfl, rfl, rfl, rfl⟩ := h
            have hsv' := hsv
            obtain ⟨A, n, cap, rfl, _, hc, _⟩ := hsv
            exact same hu hi (by rw [hnil hcs]) ⟨_, _, _, rfl, hc⟩ hsv'
          · simp only [Option.some.injEq, Prod.mk.injEq] at h
            obtain ⟨rfl, rfl, rfl, rfl⟩ := h
            have hsv' := hsv
            obtain ⟨_, rfl, hc, _⟩ := hsv
            exact same hu hi (by rw [hnil hcs]) ⟨_, _, _, rfl, hc⟩ hsv'
          · simp only [Option.some.injEq, Prod.mk.injEq] at h
            obtain ⟨rfl, rfl, rfl, rfl⟩ := h
            have hsv' := hsv
            obtain ⟨_, _, rfl, hc, _⟩ := hsv
            exact same hu hi (by rw [hnil hcs]) ⟨_, _, _, rfl, hc⟩ hsv'
          · cases h
        · rename_i bcs br' hbr
          have key : (∀ c ∈ bcs, c = true) → 0 < l2.length ∧ ∃ b2 o2, A2 = some ⟨b2, o2, none⟩ ∧ ∀ (k : Nat) u, vs2[k]? = some u → X.w.cell? ⟨b2, o2 + k, none⟩ = some u := by
            intro hb'
            have hb := br_eq (b := l2.isEmpty) (os := os) (by rw [hbr]; exact hb')
            rw [hbr] at hb
            have hne : l2 ≠ [] := by
              intro e; subst e; simp at hb
            have hp : 0 < l2.length := List.length_pos_iff.2 hne
            exact ⟨hp, hat2.resolve_left (by omega)⟩
          split at h
          · rename_i j off len cap
            obtain ⟨hHj, rfl, hlc, hcm⟩ := hsv
            split at h
            · rename_i old hold
              split at h
              · rename_i hroom
                simp only [Nat.ble_eq] at hroom
                split at h
                · rename_i hfit
                  simp only [Bool.and_eq_true, Nat.beq_eq, Nat.ble_eq] at hfit
                  obtain ⟨⟨rfl, hfit⟩, _⟩ := hfit
                  simp only [Option.some.injEq, Prod.mk.injEq] at h
                  obtain ⟨rfl, rfl, rfl, rfl⟩ := h
                  obtain ⟨hp2, b2, o2, rfl, hc2⟩ := key hcs
                  exact append_csl_ok hX hu hi hw hpos hl2 hone2 hold hcm hc2 hroom hfit
                · cases h
              · rename_i hroom
                simp only [Nat.ble_eq] at hroom
                split at h
                · rename_i row' l hrows'
                  split at h
                  · rename_i hrr
                    have er := CT.eq_of_eqb _ _ hrr
                    subst er
                    simp only [Option.some.injEq, Prod.mk.injEq] at h
                    obtain ⟨rfl, rfl, rfl, rfl⟩ := h
                    obtain ⟨hp2, b2, o2, rfl, hc2⟩ := key (fun c hc => hcs c (List.mem_cons_of_mem _ hc))
                    have hsm := hcs _ (List.mem_cons_self ..)
                    simp only [Bool.and_eq_true, Nat.ble_eq] at hsm
                    obtain ⟨g1, vs, g2, g3, g4⟩ := cslRows_ok hX hrows' hlc hcm
                    subst g1
                    exact append_grow_ok hX hu hi hzi hzs hw g2 hl2 (fun e => by cases e) hlc (.inr ⟨_, _, rfl, g4⟩) hc2 (by omega) hsm.1 hsm.2 (.inl hnid)
                  · cases h
                · cases h
            · cases h
          · rename_i row' j off len cap
            split at h
            · rename_i row'' l hold
              split at h
              · rename_i hr2
                have er2 := CT.eq_of_eqb _ _ hr2
                subst er2
                split at h
                · rename_i hr1
                  have er1 := CT.eq_of_eqb _ _ hr1
                  subst er1
                  split at h
                  · rename_i c2 r2 hbr2
                    simp only [Option.some.injEq, Prod.mk.injEq] at h
                    obtain ⟨rfl, rfl, rfl, rfl⟩ := h
                    have hroom := br_eq (b := Nat.ble (len + l2.length) cap) (os := br') (by rw [hbr2]; intro q hq; exact hcs q (List.mem_append_left _ hq))
                    rw [hbr2] at hroom
                    have hroom' : len + l2.length ≤ cap := by
                      simp only [Eq.comm (a := true), Nat.ble_eq] at hroom; exact hroom
                    obtain ⟨hp2, b2, o2, rfl, hc2⟩ := key (fun c hc => hcs c (List.mem_append_right _ hc))
                    exact append_arr_ok hX hu hi hw hl2 hone2 hold hsv hc2 hroom'
                  · rename_i c2 r2 hbr2
                    simp only [Option.some.injEq, Prod.mk.injEq] at h
                    obtain ⟨rfl, rfl, rfl, rfl⟩ := h
                    have hroom := br_eq (b := Nat.ble (len + l2.length) cap) (os := br') (by rw [hbr2]; intro q hq; exact hcs q (List.mem_cons_of_mem _ (List.mem_append_left _ hq)))
                    rw [hbr2] at hroom
                    have hroom' : cap < len + l2.length := by
                      rcases Nat.lt_or_ge cap (len + l2.length) with hh | hh
                      · exact hh
                      · have := Nat.ble_eq_true_of_le hh
                        rw [this] at hroom; cases hroom
                    obtain ⟨hp2, b2, o2, rfl, hc2⟩ := key (fun c hc => hcs c (List.mem_cons_of_mem _ (List.mem_append_right _ hc)))
                    have hsm := hcs _ (List.mem_cons_self ..)
                    simp only [Bool.and_eq_true, Nat.ble_eq] at hsm
                    exact append_arr_grow hX hu hi hzi hzs hw hl2 hold hsv hc2 hroom' hsm.1 hsm.2 hnid
                · cases h
              · cases h
            · cases h
          · split at h
            · cases h
            · rename_i l m hsl
              have hsl' := slOf_rel hsl hsv
              obtain ⟨A, cap, vs, hsv2, hcap, hmax, hl, hone, hat⟩ := sl_vals hsl'
              split at h
              · simp only [Option.some.injEq, Prod.mk.injEq] at h
                obtain ⟨rfl, rfl, rfl, rfl⟩ := h
                obtain ⟨hp2, b2, o2, rfl, hc2⟩ := key (fun c hc => hcs c (List.mem_cons_of_mem _ hc))
                have hsm := hcs _ (List.mem_cons_self ..)
                simp only [Bool.and_eq_true, Nat.ble_eq] at hsm
                have hfull : cap = l.length := by
                  obtain ⟨A', n', cap', e1, e2, _, _, _, e6⟩ := hsl'
                  rw [e1] at hsv2
                  simp only [Value.slice.injEq] at hsv2
                  simp only at e6
                  omega
                subst hsv2
                exact append_grow_ok hX hu hi hzi hzs hw hl hl2 (fun e => by
                  subst e
                  rcases hat with h | ⟨b, o, h, _⟩
                  · omega
                  · cases h) hcap hat hc2 (by omega) hsm.1 hsm.2 (.inl hnid)
              · rename_i k ver
                split at h
                · rename_i e' v0 hHk
                  split at h
                  · rename_i hee
                    simp only [Nat.beq_eq] at hee
                    subst hee
                    simp only [Option.some.injEq, Prod.mk.injEq] at h
                    obtain ⟨rfl, rfl, rfl, rfl⟩ := h
                    have hver := hcs _ (List.mem_cons_self ..)
                    simp only [Nat.beq_eq] at hver
                    subst hver
                    obtain ⟨hp2, b2, o2, rfl, hc2⟩ := key (fun c hc => hcs c (List.mem_cons_of_mem _ (List.mem_cons_of_mem _ hc)))
                    have hsm := hcs _ (List.mem_cons_of_mem _ (List.mem_cons_self ..))
                    simp only [Bool.and_eq_true, Nat.ble_eq] at hsm
                    have hown : cap = l.length ∨ (A = some ⟨X.φ k, 0, none⟩ ∧ X.TokOk k e' (l.length * row.width) (cap * row.width)) := by
                      obtain ⟨A', n', cap', e1, e2, _, _, _, t', v0', e6, e7, e8⟩ := hsl'
                      rw [e1] at hsv2
                      simp only [Value.slice.injEq] at hsv2
                      obtain ⟨rfl, rfl, rfl⟩ := hsv2
                      rw [hHk] at e6
                      simp only [Option.some.injEq, AB.tok.injEq] at e6
                      obtain ⟨rfl, rfl⟩ := e6
                      exact e8 rfl
                    subst hsv2
                    by_cases hroom : l.length + l2.length ≤ cap
                    · rcases hown with h0 | ⟨rfl, ht⟩
                      · omega
                      · refine append_room_ok hX hu hi hw hl hl2 hone2 hHk (Nat.lt_succ_self _) ht hmax (fun j u hj => ?_) hc2 hroom
                        have hl0 : l.length ≠ 0 := fun h0 => by
                          have : vs.length = 0 := by rw [hl.1, h0, Nat.zero_mul]
                          rw [List.eq_nil_of_length_eq_zero this] at hj
                          simp at hj
                        obtain ⟨b, o, ea, hc⟩ := hat.resolve_left hl0
                        simp only [Option.some.injEq, Addr.mk.injEq] at ea
                        obtain ⟨rfl, rfl, _⟩ := ea
                        have := hc j u hj
                        rwa [Nat.zero_add] at this
                    · exact append_grow_ok hX hu hi hzi hzs hw hl hl2 (fun e => by
                        rcases hown with h0 | ⟨h0, _⟩
                        · rcases hat with h | ⟨b, o, h, _⟩
                          · omega
                          · rw [e] at h; cases h
                        · rw [e] at h0; cases h0) hcap hat hc2 (by omega) hsm.1 hsm.2 (.inr ⟨ver, hHk, Nat.lt_succ_self _⟩)
                  · cases h
                · cases h
              · cases h
              · cases h
      · cases h
    · cases h
  · cases h
end Go.Eng
