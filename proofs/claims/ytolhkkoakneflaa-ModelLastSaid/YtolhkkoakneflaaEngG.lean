import Derived.Test.YtolhkkoakneflaaEngF
set_option linter.unusedVariables false
namespace Go.Eng
open Go Go.RowKit
variable {P : Program}

/-! ### == and != -/

def isPtrT (P : Program) (t : TypeId) : Bool := match P.underlying t with | some (.pointer _) => true | _ => false
def isFnT (P : Program) (t : TypeId) : Bool := match P.underlying t with | some (.func _ _ _) => true | _ => false
def isMapT (P : Program) (t : TypeId) : Bool := match P.underlying t with | some (.map _ _) => true | _ => false
def isSlT (P : Program) (t : TypeId) : Bool := match P.underlying t with | some (.slice _) => true | _ => false

/-- Against nil, of things that can't be compared otherwise. -/
def nilEq (P : Program) (t : TypeId) : AC → AC → Option Bool
  | .nilp, .nilp => if isPtrT P t then some true else none
  | .ptr _ _, .nilp => if isPtrT P t then some false else none
  | .nilp, .ptr _ _ => if isPtrT P t then some false else none
  | .fn _ _, .nilf => if isFnT P t then some false else none
  | .mth _ _ _, .nilf => if isFnT P t then some false else none
  | .nilf, .nilf => if isFnT P t then some true else none
  | .mref _, .nilm => if isMapT P t then some false else none
  | .nilm, .nilm => if isMapT P t then some true else none
  | .nils, .nils => if isSlT P t then some true else none
  | .nilz, .nils => if isSlT P t then some true else none
  | .sl _ _ .nn, .nils => if isSlT P t then some false else none
  | .asl _ _ _ _ _, .nils => if isSlT P t then some false else none
  | .elp _ _ _ _, .nilp => if isPtrT P t then some false else none
  | _, _ => none

theorem equal_ptr {t d : TypeId} (hd : P.underlying t = some (.pointer d)) (b : Option Addr) (w : World) : (Op.equal t (.pointer none) (.pointer b)).run P w = .ok b.isNone w := by
  have h : ∀ k, (Op.equalIn (k + 1) t (.pointer none) (.pointer b)).run P w = _ := fun k => by
    simp only [Op.equalIn, Sem.run_bind, run_underlying hd, Result.andThen_ok]; rfl
  exact h 9999
theorem equal_ptr' {t d : TypeId} (hd : P.underlying t = some (.pointer d)) (a : Addr) (w : World) : (Op.equal t (.pointer (some a)) (.pointer none)).run P w = .ok false w := by
  have h : ∀ k, (Op.equalIn (k + 1) t (.pointer (some a)) (.pointer none)).run P w = _ := fun k => by
    simp only [Op.equalIn, Sem.run_bind, run_underlying hd, Result.andThen_ok]; rfl
  exact h 9999
theorem equal_fn {t : TypeId} {d e : Array TypeId} {v : Bool} (hd : P.underlying t = some (.func d e v)) (f : Fn) (a c : Array Value) (w : World) : (Op.equal t (.func f a c) .nilFunc).run P w = .ok false w := by
  have h : ∀ k, (Op.equalIn (k + 1) t (.func f a c) .nilFunc).run P w = _ := fun k => by
    simp only [Op.equalIn, Sem.run_bind, run_underlying hd, Result.andThen_ok]; rfl
  exact h 9999
theorem equal_fn' {t : TypeId} {d e : Array TypeId} {v : Bool} (hd : P.underlying t = some (.func d e v)) (w : World) : (Op.equal t .nilFunc .nilFunc).run P w = .ok true w := by
  have h : ∀ k, (Op.equalIn (k + 1) t .nilFunc .nilFunc).run P w = _ := fun k => by
    simp only [Op.equalIn, Sem.run_bind, run_underlying hd, Result.andThen_ok]; rfl
  exact h 9999
theorem equal_sl {t d : TypeId} (hd : P.underlying t = some (.slice d)) (w : World) : (Op.equal t (.slice none 0 0) (.slice none 0 0)).run P w = .ok true w := by
  have h : ∀ k, (Op.equalIn (k + 1) t (.slice none 0 0) (.slice none 0 0)).run P w = _ := fun k => by
    simp only [Op.equalIn, Sem.run_bind, run_underlying hd, Result.andThen_ok]; rfl
  exact h 9999

theorem equal_slz {t d : TypeId} (hd : P.underlying t = some (.slice d)) (c : Nat) (w : World) : (Op.equal t (.slice none 0 c) (.slice none 0 0)).run P w = .ok true w := by
  have h : ∀ k, (Op.equalIn (k + 1) t (.slice none 0 c) (.slice none 0 0)).run P w = _ := fun k => by
    simp only [Op.equalIn, Sem.run_bind, run_underlying hd, Result.andThen_ok]; rfl
  exact h 9999

theorem equal_sln {t d : TypeId} (hd : P.underlying t = some (.slice d)) (a : Addr) (n c : Nat) (w : World) : (Op.equal t (.slice (some a) n c) (.slice none 0 0)).run P w = .ok false w := by
  have h : ∀ k, (Op.equalIn (k + 1) t (.slice (some a) n c) (.slice none 0 0)).run P w = _ := fun k => by
    simp only [Op.equalIn, Sem.run_bind, run_underlying hd, Result.andThen_ok]; rfl
  exact h 9999

theorem equal_map {t k e : TypeId} (hd : P.underlying t = some (.map k e)) (b : Nat) (w : World) : (Op.equal t (.map (some b)) (.map none)).run P w = .ok false w := by
  have h : ∀ k, (Op.equalIn (k + 1) t (.map (some b)) (.map none)).run P w = _ := fun k => by
    simp only [Op.equalIn, Sem.run_bind, run_underlying hd, Result.andThen_ok]; rfl
  exact h 9999
theorem equal_map' {t k e : TypeId} (hd : P.underlying t = some (.map k e)) (w : World) : (Op.equal t (.map none) (.map none)).run P w = .ok true w := by
  have h : ∀ k, (Op.equalIn (k + 1) t (.map none) (.map none)).run P w = _ := fun k => by
    simp only [Op.equalIn, Sem.run_bind, run_underlying hd, Result.andThen_ok]; rfl
  exact h 9999
theorem isMapT_of {t : TypeId} (h : isMapT P t = true) : ∃ k e, P.underlying t = some (.map k e) := by
  unfold isMapT at h
  split at h
  · exact ⟨_, _, ‹_›⟩
  · cases h
theorem isPtrT_of {t : TypeId} (h : isPtrT P t = true) : ∃ d, P.underlying t = some (.pointer d) := by
  unfold isPtrT at h
  split at h
  · exact ⟨_, ‹_›⟩
  · cases h
theorem isFnT_of {t : TypeId} (h : isFnT P t = true) : ∃ d e v, P.underlying t = some (.func d e v) := by
  unfold isFnT at h
  split at h
  · exact ⟨_, _, _, ‹_›⟩
  · cases h
theorem isSlT_of {t : TypeId} (h : isSlT P t = true) : ∃ d, P.underlying t = some (.slice d) := by
  unfold isSlT at h
  split at h
  · exact ⟨_, ‹_›⟩
  · cases h

theorem nilEq_run {X : Ctx} {t : TypeId} {a b : AC} {r : Bool} {x y : Value} (h : nilEq P t a b = some r) (ha : VRc X a x) (hb : VRc X b y) (w : World) :
    (Op.equal t x y).run P w = .ok r w ∧ ∀ op e f, (eqGuard op t e f x y) = pure () := by
  unfold nilEq at h
  split at h
  · split at h
    · rename_i hu; injection h with h; subst h; cases ha; cases hb
      obtain ⟨d, hd⟩ := isPtrT_of hu
      exact ⟨equal_ptr hd none w, fun op e f => by cases op <;> rfl⟩
    · cases h
  · split at h
    · rename_i hu; injection h with h; subst h; obtain ⟨_, rfl⟩ := ha; cases hb
      obtain ⟨d, hd⟩ := isPtrT_of hu
      exact ⟨equal_ptr' hd _ w, fun op e f => by cases op <;> rfl⟩
    · cases h
  · split at h
    · rename_i hu; injection h with h; subst h; cases ha; obtain ⟨_, rfl⟩ := hb
      obtain ⟨d, hd⟩ := isPtrT_of hu
      exact ⟨equal_ptr hd _ w, fun op e f => by cases op <;> rfl⟩
    · cases h
  · split at h
    · rename_i hu; injection h with h; subst h; obtain ⟨c, rfl, _⟩ := ha; cases hb
      obtain ⟨d, e, v, hd⟩ := isFnT_of hu
      exact ⟨equal_fn hd _ _ _ w, fun op e f => by cases op <;> rfl⟩
    · cases h
  · split at h
    · rename_i hu; injection h with h; subst h; obtain ⟨_, rfl⟩ := ha; cases hb
      obtain ⟨d, e, v, hd⟩ := isFnT_of hu
      exact ⟨equal_fn hd _ _ _ w, fun op e f => by cases op <;> rfl⟩
    · cases h
  · split at h
    · rename_i hu; injection h with h; subst h; cases ha; cases hb
      obtain ⟨d, e, v, hd⟩ := isFnT_of hu
      exact ⟨equal_fn' hd w, fun op e f => by cases op <;> rfl⟩
    · cases h
  · split at h
    · rename_i hu; injection h with h; subst h; obtain ⟨_, rfl⟩ := ha; cases hb
      obtain ⟨d, e, hd⟩ := isMapT_of hu
      exact ⟨equal_map hd _ w, fun op e f => by cases op <;> rfl⟩
    · cases h
  · split at h
    · rename_i hu; injection h with h; subst h; cases ha; cases hb
      obtain ⟨d, e, hd⟩ := isMapT_of hu
      exact ⟨equal_map' hd w, fun op e f => by cases op <;> rfl⟩
    · cases h
  · split at h
    · rename_i hu; injection h with h; subst h; cases ha; cases hb
      obtain ⟨d, hd⟩ := isSlT_of hu
      exact ⟨equal_sl hd w, fun op e f => by cases op <;> rfl⟩
    · cases h
  · split at h
    · rename_i hu; injection h with h; subst h; cases hb
      obtain ⟨c, rfl⟩ := ha
      obtain ⟨d, hd⟩ := isSlT_of hu
      exact ⟨equal_slz hd c w, fun op e f => by cases op <;> rfl⟩
    · cases h
  · split at h
    · rename_i hu; injection h with h; subst h; cases hb
      obtain ⟨A, n, cap, rfl, _, _, _, _, a', rfl⟩ := ha
      obtain ⟨d, hd⟩ := isSlT_of hu
      exact ⟨equal_sln hd _ _ _ w, fun op e f => by cases op <;> rfl⟩
    · cases h
  · split at h
    · rename_i hu; injection h with h; subst h; cases hb
      obtain ⟨l, _, rfl, _⟩ := ha
      obtain ⟨d, hd⟩ := isSlT_of hu
      exact ⟨equal_sln hd _ _ _ w, fun op e f => by cases op <;> rfl⟩
    · cases h
  · split at h
    · rename_i hu; injection h with h; subst h; cases hb
      obtain ⟨_, b, o, rfl, _⟩ := ha
      obtain ⟨d, hd⟩ := isPtrT_of hu
      exact ⟨equal_ptr' hd _ w, fun op e f => by cases op <;> rfl⟩
    · cases h
  · cases h

/-- == of two known values. -/
def aeq (P : Program) (t : TypeId) : AV → AV → Option Bool
  | .one a, .one b => nilEq P t a b
  | .agg xs, .agg ys =>
    if P.eqGuardType P.depth t then none else
    match toVs xs, toVs ys, ty P t with
    | some us, some vs, some (true, n) => if us.length == n && vs.length == n then veq P 10000 t us vs else none
    | _, _, _ => none
  | _, _ => none

theorem aeq_run {X : Ctx} {t : TypeId} {a b : AV} {r : Bool} {x y : Value} (h : aeq P t a b = some r) (ha : VR X a x) (hb : VR X b y) (e f : Operand) (w : World) :
    (do eqGuard .eql t e f x y; binOp .eql t x y : Sem Value).run P w = .ok (.bool r) w ∧ (do eqGuard .neq t e f x y; binOp .neq t x y : Sem Value).run P w = .ok (.bool (!r)) w := by
  unfold aeq at h
  split at h
  · rename_i a b
    obtain ⟨h1, h2⟩ := nilEq_run (P := P) h ha hb w
    have b1 : ∀ op, op = .eql ∨ op = .neq → binOp op t x y = (if op = .eql then (do pure (.bool (← Op.equal t x y))) else (do pure (.bool (!(← Op.equal t x y)))) : Sem Value) := by
      intro op hop
      unfold nilEq at h
      rcases hop with rfl | rfl <;>
      · split at h <;> first
          | (cases ha; cases hb; rfl)
          | (obtain ⟨_, rfl⟩ := ha; cases hb; rfl)
          | (cases ha; obtain ⟨_, rfl⟩ := hb; rfl)
          | (obtain ⟨c, rfl, _⟩ := ha; cases hb; rfl)
          | (obtain ⟨A, n, cap, rfl, _⟩ := ha; cases hb; rfl)
          | (obtain ⟨_, rfl⟩ := ha; cases hb; rfl)
          | (obtain ⟨_, b, o, rfl, _⟩ := ha; cases hb; rfl)
          | (obtain ⟨_, _, rfl, _⟩ := ha; cases hb; rfl)
          | cases h
    rw [h2, h2, b1 _ (.inl rfl), b1 _ (.inr rfl)]
    constructor
    · simp only [if_true, Sem.run_bind, Sem.run_pure, Result.andThen_ok, h1]
    · simp only [reduceCtorEq, if_false, Sem.run_bind, Sem.run_pure, Result.andThen_ok, h1]
  · rename_i xs ys
    split at h
    · cases h
    · rename_i hg
      split at h
      · rename_i us vs n h1 h2 ht
        split at h
        · rename_i hl
          simp only [Bool.and_eq_true, beq_iff_eq] at hl
          obtain ⟨ax, rfl, px⟩ := ha
          obtain ⟨ay, rfl, py⟩ := hb
          have ex := toVs_rel h1 px
          have ey := toVs_rel h2 py
          have hr := veq_run 10000 t true n us vs r ht hl.1 hl.2 h w
          have ex' : ax = us.toArray := by rw [← ex]
          have ey' : ay = vs.toArray := by rw [← ey]
          subst ex'; subst ey'
          simp only [asV, if_true] at hr
          have hg' : P.eqGuardType P.depth t = false := by simpa using hg
          constructor
          · simp only [Sem.run_bind, run_eqGuard_agg w _ t e f _ _ hg', Result.andThen_ok, run_eql_struct, hr]
          · simp only [Sem.run_bind, run_eqGuard_agg w _ t e f _ _ hg', Result.andThen_ok, run_neq_struct, hr]
        · cases h
      · cases h
  · cases h

/-! ### Parts of values -/

def apart (P : Program) (t : TypeId) (cs : List AC) (off : Nat) : Option AV :=
  match ty P t with
  | some (ag, n) => if ((cs.drop off).take n).length == n then mkAV ag ((cs.drop off).take n) else none
  | none => none

theorem apart_ok {X : Ctx} {t : TypeId} {cs : List AC} {off : Nat} {v : AV} {ar : Array Value} (hp : PW (VRc X) cs ar.toList) (h : apart P t cs off = some v) (w : World) :
    ∃ val, (part t ar off).run P w = .ok val w ∧ VR X v val := by
  unfold apart at h
  split at h
  · rename_i ag n ht
    split at h
    · rename_i hl
      have hl' : ((cs.drop off).take n).length = n := by simpa using hl
      obtain ⟨h1, h2⟩ := ty_run ht w
      have hq : PW (VRc X) ((cs.drop off).take n) ((ar.toList.drop off).take n) := (hp.drop off).take n
      cases ag with
      | true =>
        simp only [mkAV, if_true, Option.some.injEq] at h
        subst h
        refine ⟨.agg (ar.extract off (off + n)), ?_, _, rfl, ?_⟩
        · simp only [part, Sem.run_bind, h1, Result.andThen_ok, if_true, h2, Sem.run_pure]
        · rw [Array.toList_extract, List.extract_eq_take_drop]
          rw [Nat.add_sub_cancel_left]
          exact hq
      | false =>
        simp only [mkAV, Bool.false_eq_true, if_false] at h
        split at h
        · rename_i c hc
          injection h with h; subst h
          rw [hc] at hq
          have e0 : (cs.drop off)[0]? = some c := by
            have := congrArg (fun l => l[0]?) hc
            rw [List.getElem?_take_of_lt (by rw [hc] at hl'; simp at hl'; omega)] at this
            exact this
          rw [List.getElem?_drop] at e0
          obtain ⟨y, hy, hr⟩ := hp.at_ e0
          refine ⟨y, ?_, hr⟩
          simp only [part, Sem.run_bind, h1, Result.andThen_ok, Bool.false_eq_true, if_false]
          have : ar[off]? = some y := by simpa using hy
          rw [this]
          rfl
        · cases h
    · cases h
  · cases h

def afieldV (P : Program) (s : TypeId) (f : Nat) (x : AV) : Option AV :=
  match x, fieldOf P s f with
  | .agg cs, some (d, t) => apart P t cs d
  | _, _ => none

theorem afieldV_ok {X : Ctx} {s : TypeId} {f : Nat} {x v : AV} {xv : Value} (hx : VR X x xv) (h : afieldV P s f x = some v) (w : World) :
    ∃ val, (Instr.field s xv f).run P w = .ok val w ∧ VR X v val := by
  unfold afieldV at h
  split at h
  · rename_i cs d t hf
    obtain ⟨ar, rfl, hp⟩ := hx
    obtain ⟨val, h1, h2⟩ := apart_ok (P := P) hp h w
    refine ⟨val, ?_, h2⟩
    unfold fieldOf at hf
    split at hf
    · rename_i fs hu
      cases hff : fs[f]? with
      | none => rw [hff] at hf; cases hf
      | some y =>
        rw [hff] at hf
        simp only [Option.map_some, Option.some.injEq, Prod.mk.injEq] at hf
        obtain ⟨rfl, rfl⟩ := hf
        simp only [Instr.field, Sem.run_bind, run_underlying hu, Result.andThen_ok, hff, asAgg, Sem.run_pure]
        exact h1
    · cases hf
  · cases h

def aextract (x : AV) (i : Nat) : Option AV :=
  match x with
  | .tup vs => match vs[i]? with
    | some (true, cs) => some (.agg cs)
    | some (false, [c]) => some (.one c)
    | _ => none
  | _ => none

theorem aextract_ok {X : Ctx} {x v : AV} {xv : Value} {i : Nat} (hx : VR X x xv) (h : aextract x i = some v) (w : World) :
    ∃ val, (Instr.extract xv i).run P w = .ok val w ∧ VR X v val := by
  unfold aextract at h
  split at h
  · rename_i vs
    obtain ⟨arr, rfl, hp⟩ := hx
    split at h
    · rename_i cs hi
      injection h with h; subst h
      obtain ⟨y, hy, hr⟩ := hp.at_ hi
      have hy' : arr[i]? = some y := by simpa using hy
      exact ⟨y, by simp only [Instr.extract, hy']; rfl, hr⟩
    · rename_i c hi
      injection h with h; subst h
      obtain ⟨y, hy, c', hc, hr⟩ := hp.at_ hi
      have hy' : arr[i]? = some y := by simpa using hy
      simp only [List.cons.injEq, and_true] at hc
      subst hc
      exact ⟨y, by simp only [Instr.extract, hy']; rfl, hr⟩
    · cases h
  · cases h

/-! ### Building -/

/-- Parts laid over cells. -/
def afill (place : Nat → Option (Nat × Nat)) (cells : List AC) : List (Nat × List AC) → Option (List AC)
  | [] => some cells
  | (i, vs) :: rest =>
    match place i with
    | none => none
    | some (off, size) =>
      if vs.length == size && Nat.ble (off + size) cells.length then afill place (cells.take off ++ (vs ++ cells.drop (off + size))) rest else none

theorem foldl_set (vs : List Value) : ∀ (off k : Nat) (cells : Array Value), off + k + vs.length ≤ cells.size →
    ((vs.zipIdx k).foldl (fun cs (p : Value × Nat) => cs.setIfInBounds (off + p.2) p.1) cells).toList = cells.toList.take (off + k) ++ (vs ++ cells.toList.drop (off + k + vs.length)) := by
  induction vs with
  | nil => intro off k cells h; simp
  | cons v vs ih =>
    intro off k cells h
    simp only [List.length_cons] at h
    simp only [List.zipIdx_cons, List.foldl_cons]
    rw [ih off (k + 1) (cells.setIfInBounds (off + k) v) (by simp; omega)]
    have hlt : off + k < cells.toList.length := by rw [Array.length_toList]; omega
    rw [Array.toList_setIfInBounds]
    rw [show off + (k + 1) = off + k + 1 from by omega]
    have e1 : (cells.toList.set (off + k) v).take (off + k + 1) = cells.toList.take (off + k) ++ [v] := by
      rw [List.take_succ_eq_append_getElem (by rw [List.length_set]; exact hlt), List.take_set_of_le (Nat.le_refl _)]
      simp
    rw [e1, List.drop_set_of_lt (by omega)]
    simp only [List.length_cons, List.append_assoc, List.cons_append, List.nil_append]
    rw [show off + k + 1 + vs.length = off + k + (vs.length + 1) from by omega]

theorem afill_ok {X : Ctx} {place : Nat → Option (Nat × Nat)} : ∀ (parts : List (Nat × List AC)) (vals : List (Nat × Value)) (cells : List AC) (cv : Array Value) (out : List AC),
    PW (fun (p : Nat × List AC) (q : Nat × Value) => p.1 = q.1 ∧ PW (VRc X) p.2 q.2.cells.toList) parts vals → PW (VRc X) cells cv.toList → afill place cells parts = some out →
    ∃ ov : Array Value, Instr.fill place cv vals = some ov ∧ PW (VRc X) out ov.toList
  | [], vals, cells, cvl, out, hp, hc, h => by
    have : vals = [] := List.eq_nil_of_length_eq_zero hp.1.symm
    subst this
    simp only [afill, Option.some.injEq] at h
    subst h
    exact ⟨cvl, rfl, hc⟩
  | (i, vs) :: rest, vals, cells, cvl, out, hp, hc, h => by
    cases vals with
    | nil => exact absurd hp.1 (by simp)
    | cons q vals =>
      obtain ⟨j, v⟩ := q
      obtain ⟨e, hv⟩ := hp.2 0 (i, vs) (j, v) rfl rfl
      simp only at e hv
      subst e
      have hrest : PW (fun (p : Nat × List AC) (q : Nat × Value) => p.1 = q.1 ∧ PW (VRc X) p.2 q.2.cells.toList) rest vals :=
        ⟨by simpa using hp.1, fun k d z hd hz => hp.2 (k + 1) d z (by simpa using hd) (by simpa using hz)⟩
      simp only [afill] at h
      split at h
      · cases h
      · rename_i off size hpl
        split at h
        · rename_i hcond
          simp only [Bool.and_eq_true, beq_iff_eq, Nat.ble_eq] at hcond
          obtain ⟨h1, h2⟩ := hcond
          have hvl : v.cells.size = size := by rw [← Array.length_toList, ← hv.1]; exact h1
          have hcl : cvl.size = cells.length := by rw [← Array.length_toList]; exact hc.1.symm
          have hfold := foldl_set v.cells.toList off 0 cvl (by rw [Array.length_toList]; omega)
          have hn : PW (VRc X) (cells.take off ++ (vs ++ cells.drop (off + size))) ((v.cells.zipIdx.foldl (fun cs (c, j) => cs.setIfInBounds (off + j) c) cvl)).toList := by
            have e2 : (v.cells.zipIdx.foldl (fun cs (c, j) => cs.setIfInBounds (off + j) c) cvl) = ((v.cells.toList.zipIdx 0).foldl (fun cs (p : Value × Nat) => cs.setIfInBounds (off + p.2) p.1) cvl) := by
              rw [← Array.foldl_toList, Array.toList_zipIdx]
            rw [e2, hfold, Nat.add_zero, Array.length_toList, hvl]
            exact (hc.take off).append (hv.append (hc.drop (off + size)))
          obtain ⟨ov, g1, g2⟩ := afill_ok rest vals _ _ out hrest hn h
          refine ⟨ov, ?_, g2⟩
          simp only [Instr.fill, hpl]
          rw [if_neg (by simp; omega)]
          exact g1
        · cases h
end Go.Eng
