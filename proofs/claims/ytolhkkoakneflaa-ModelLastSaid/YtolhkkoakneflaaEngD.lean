import Derived.Test.YtolhkkoakneflaaEngC
set_option linter.unusedVariables false
namespace Go.Eng
open Go Go.RowKit

/-- What a computation gives that looks at no memory. -/
def pr {α : Type} (P : Program) : Sem α → Option α
  | .pure a => some a
  | .program k => pr P (k P)
  | .mark _ k => pr P k
  | _ => none

theorem pr_run {α : Type} (P : Program) : ∀ (s : Sem α) (a : α) (w : World), pr P s = some a → s.run P w = .ok a w
  | .pure a, b, w, h => by simp only [pr, Option.some.injEq] at h; subst h; rfl
  | .program k, b, w, h => pr_run P (k P) b w h
  | .mark _ k, b, w, h => pr_run P k b w h
  | .load .., _, _, h => by cases h
  | .store .., _, _, h => by cases h
  | .new .., _, _, h => by cases h
  | .shape .., _, _, h => by cases h
  | .freeze .., _, _, h => by cases h
  | .frozen .., _, _, h => by cases h
  | .getObj .., _, _, h => by cases h
  | .setObj .., _, _, h => by cases h
  | .choose .., _, _, h => by cases h
  | .sys .., _, _, h => by cases h
  | .halt .., _, _, h => by cases h

/-- A plain value, as known. -/
def cv : Value → Option AC
  | .int k n => some (.int k n)
  | .bool b => some (.bool b)
  | .string s => some (.str s)
  | .slice none 0 0 => some .nils
  | .pointer none => some .nilp
  | .nilFunc => some .nilf
  | .map none => some .nilm
  | _ => none

def cvs : List Value → Option (List AC)
  | [] => some []
  | v :: vs => match cv v, cvs vs with
    | some c, some cs => some (c :: cs)
    | _, _ => none

def cvp : Value → Option (Bool × List AC)
  | .agg cs => (cvs cs.toList).map fun l => (true, l)
  | v => (cv v).map fun c => (false, [c])

def cvps : List Value → Option (List (Bool × List AC))
  | [] => some []
  | v :: vs => match cvp v, cvps vs with
    | some c, some cs => some (c :: cs)
    | _, _ => none

def cvv : Value → Option AV
  | .agg cs => (cvs cs.toList).map .agg
  | .tuple vs => (cvps vs.toList).map .tup
  | v => (cv v).map .one

theorem cv_rel (X : Ctx) {v : Value} {c : AC} (h : cv v = some c) : VRc X c v := by
  unfold cv at h
  split at h <;> first | (injection h with h; subst h; rfl) | cases h

theorem cvs_rel (X : Ctx) : ∀ {vs : List Value} {cs : List AC}, cvs vs = some cs → PW (VRc X) cs vs
  | [], cs, h => by simp only [cvs, Option.some.injEq] at h; subst h; exact PW.nil
  | v :: vs, cs, h => by
    simp only [cvs] at h
    split at h
    · rename_i c ds h1 h2
      injection h with h; subst h
      exact PW.cons (cv_rel X h1) (cvs_rel X h2)
    · cases h

theorem cvp_rel (X : Ctx) {v : Value} {p : Bool × List AC} (h : cvp v = some p) : VRp X p v := by
  unfold cvp at h
  split at h
  · rename_i cs
    cases hc : cvs cs.toList with
    | none => rw [hc] at h; cases h
    | some l => rw [hc] at h; simp only [Option.map_some, Option.some.injEq] at h; subst h; exact ⟨cs, rfl, cvs_rel X hc⟩
  · cases hc : cv v with
    | none => rw [hc] at h; cases h
    | some c => rw [hc] at h; simp only [Option.map_some, Option.some.injEq] at h; subst h; exact ⟨c, rfl, cv_rel X hc⟩

theorem cvps_rel (X : Ctx) : ∀ {vs : List Value} {cs : List (Bool × List AC)}, cvps vs = some cs → PW (VRp X) cs vs
  | [], cs, h => by simp only [cvps, Option.some.injEq] at h; subst h; exact PW.nil
  | v :: vs, cs, h => by
    simp only [cvps] at h
    split at h
    · rename_i c ds h1 h2
      injection h with h; subst h
      exact PW.cons (cvp_rel X h1) (cvps_rel X h2)
    · cases h

theorem cvv_rel (X : Ctx) {v : Value} {c : AV} (h : cvv v = some c) : VR X c v := by
  unfold cvv at h
  split at h
  · rename_i cs
    cases hc : cvs cs.toList with
    | none => rw [hc] at h; cases h
    | some l => rw [hc] at h; simp only [Option.map_some, Option.some.injEq] at h; subst h; exact ⟨cs, rfl, cvs_rel X hc⟩
  · rename_i vs
    cases hc : cvps vs.toList with
    | none => rw [hc] at h; cases h
    | some l => rw [hc] at h; simp only [Option.map_some, Option.some.injEq] at h; subst h; exact ⟨vs, rfl, cvps_rel X hc⟩
  · cases hc : cv v with
    | none => rw [hc] at h; cases h
    | some c => rw [hc] at h; simp only [Option.map_some, Option.some.injEq] at h; subst h; exact cv_rel X hc

/-- The plain value that is known. -/
def toV : AC → Option Value
  | .int k n => some (.int k n)
  | .bool b => some (.bool b)
  | .str s => some (.string s)
  | .nils => some (.slice none 0 0)
  | .nilp => some (.pointer none)
  | .nilf => some .nilFunc
  | .nilm => some (.map none)
  | _ => none

def toVs : List AC → Option (List Value)
  | [] => some []
  | v :: vs => match toV v, toVs vs with
    | some c, some cs => some (c :: cs)
    | _, _ => none

def toVV : AV → Option Value
  | .one c => toV c
  | .agg cs => (toVs cs).map fun l => .agg l.toArray
  | .tup _ => none

theorem toV_rel {X : Ctx} {c : AC} {u v : Value} (h : toV c = some u) (hr : VRc X c v) : v = u := by
  cases c <;> simp only [toV] at h <;> first | (injection h with h; subst h; exact hr) | cases h

theorem toVs_rel {X : Ctx} : ∀ {cs : List AC} {us vs : List Value}, toVs cs = some us → PW (VRc X) cs vs → vs = us
  | [], us, vs, h, hr => by
    simp only [toVs, Option.some.injEq] at h; subst h
    exact List.eq_nil_of_length_eq_zero hr.1.symm
  | c :: cs, us, vs, h, hr => by
    simp only [toVs] at h
    split at h
    · rename_i u us' h1 h2
      injection h with h; subst h
      cases vs with
      | nil => exact absurd hr.1 (by simp)
      | cons y ys =>
        have e1 := toV_rel h1 (hr.2 0 c y rfl rfl)
        have e2 := toVs_rel h2 ⟨by simpa using hr.1, fun j d z hd hz => hr.2 (j + 1) d z (by simpa using hd) (by simpa using hz)⟩
        rw [e1, e2]
    · cases h

theorem toVV_rel {X : Ctx} {c : AV} {u v : Value} (h : toVV c = some u) (hr : VR X c v) : v = u := by
  cases c with
  | one c => exact toV_rel h hr
  | agg cs =>
    obtain ⟨ar, e, hp⟩ := hr
    simp only [toVV] at h
    cases hc : toVs cs with
    | none => rw [hc] at h; cases h
    | some l =>
      rw [hc] at h
      simp only [Option.map_some, Option.some.injEq] at h
      have := toVs_rel hc hp
      rw [e, ← h, ← this]
  | tup vs => cases h

/-- The cells of a row's value. -/
def CT.cells : (t : CT) → t.den → List AC
  | .int k, n => [.int k n]
  | .bool, b => [.bool b]
  | .str, s => [.str s]
  | .sl row, l => [.sl row l .shared]
  | .unit, _ => []
  | .pair c cs, v => c.cells v.1 ++ cs.cells v.2

theorem CT.cells_length : ∀ (t : CT) (v : t.den), (t.cells v).length = t.width
  | .int k, n => rfl
  | .bool, b => rfl
  | .str, s => rfl
  | .sl row, l => rfl
  | .unit, _ => rfl
  | .pair c cs, v => by rw [CT.cells, List.length_append, CT.cells_length c, CT.cells_length cs]; rfl

theorem RelT.cell {X : Ctx} : ∀ (t : CT) (v : t.den) (C : Nat → Value → Prop), RelT t v C X.IC → ∀ (k : Nat) c, (t.cells v)[k]? = some c → ∃ y, C k y ∧ VRc X c y
  | .int kk, n, C, h, k, c, hc => by
    cases k with
    | zero => simp [CT.cells] at hc; subst hc; exact ⟨_, h, rfl⟩
    | succ k => simp [CT.cells] at hc
  | .bool, n, C, h, k, c, hc => by
    cases k with
    | zero => simp [CT.cells] at hc; subst hc; exact ⟨_, h, rfl⟩
    | succ k => simp [CT.cells] at hc
  | .str, n, C, h, k, c, hc => by
    cases k with
    | zero => simp [CT.cells] at hc; subst hc; exact ⟨_, h, rfl⟩
    | succ k => simp [CT.cells] at hc
  | .sl row, l, C, ⟨A, n, cap, h1, h2, h3, h4, h5⟩, k, c, hc => by
    cases k with
    | zero => simp [CT.cells] at hc; subst hc; exact ⟨_, h1, A, n, cap, rfl, h2, h3, h4, h5, trivial⟩
    | succ k => simp [CT.cells] at hc
  | .unit, _, C, h, k, c, hc => by simp [CT.cells] at hc
  | .pair a b, v, C, h, k, c, hc => by
    rw [CT.cells] at hc
    by_cases e : k < a.width
    · rw [List.getElem?_append_left (by rw [CT.cells_length]; exact e)] at hc
      exact RelT.cell a v.1 C h.1 k c hc
    · rw [List.getElem?_append_right (by rw [CT.cells_length]; omega), CT.cells_length] at hc
      obtain ⟨y, h1, h2⟩ := RelT.cell b v.2 _ h.2 _ c hc
      refine ⟨y, ?_, h2⟩
      have : a.width + (k - a.width) = k := by omega
      rwa [this] at h1

def CT.eqb : CT → CT → Bool
  | .int .i8, .int .i8 | .int .i16, .int .i16 | .int .i32, .int .i32 | .int .i64, .int .i64 => true
  | .int .u8, .int .u8 | .int .u16, .int .u16 | .int .u32, .int .u32 | .int .u64, .int .u64 => true
  | .bool, .bool => true
  | .str, .str => true
  | .sl a, .sl b => a.eqb b
  | .unit, .unit => true
  | .pair a b, .pair c d => a.eqb c && b.eqb d
  | _, _ => false

theorem CT.eq_of_eqb : ∀ (a b : CT), a.eqb b = true → a = b := by
  intro a
  induction a with
  | int k => intro b h; cases b <;> first | (rename_i k'; cases k <;> cases k' <;> first | rfl | cases h) | (cases k <;> cases h)
  | bool => intro b h; cases b <;> first | rfl | cases h
  | str => intro b h; cases b <;> first | rfl | cases h
  | unit => intro b h; cases b <;> first | rfl | cases h
  | sl r ih => intro b h; cases b <;> first | (simp only [CT.eqb] at h; rw [ih _ h]) | cases h
  | pair r s ih ih2 =>
    intro b h
    cases b <;> first
      | (simp only [CT.eqb, Bool.and_eq_true] at h; rw [ih _ h.1, ih2 _ h.2])
      | cases h

/-- A list of one row's type, at another name of that type. -/
def castL (a b : CT) (h : a.eqb b = true) (l : List a.den) : List b.den := CT.eq_of_eqb a b h ▸ l

/-- Cells, as a row's value, and what is left. -/
def CT.un : (t : CT) → List AC → Option (t.den × List AC)
  | .int k, .int k' n :: r => if (CT.int k).eqb (.int k') then some (n, r) else none
  | .bool, .bool b :: r => some (b, r)
  | .str, .str s :: r => some (s, r)
  | .sl row, .nils :: r => some (([] : List row.den), r)
  | .sl row, .sl row' l _ :: r => if h : row'.eqb row = true then some (castL row' row h l, r) else none
  | .unit, r => some ((), r)
  | .pair c cs, r => match c.un r with
    | some (x, r') => match cs.un r' with
      | some (y, r'') => some ((x, y), r'')
      | none => none
    | none => none
  | _, _ => none

theorem CT.un_rel {X : Ctx} : ∀ (t : CT) (cs : List AC) (v : t.den) (r : List AC) (vs : List Value), t.un cs = some (v, r) → PW (VRc X) cs vs →
    cs.length = t.width + r.length ∧ PW (VRc X) r (vs.drop t.width) ∧ RelT t v (fun k y => vs[k]? = some y) X.IC
  | .int k, cs, v, r, vs, h, hp => by
    match cs, h with
    | .int k' n :: r', h =>
      simp only [CT.un] at h
      split at h
      · rename_i e
        have e' := CT.eq_of_eqb _ _ e
        injection e' with e'
        subst e'
        simp only [Option.some.injEq, Prod.mk.injEq] at h
        obtain ⟨rfl, rfl⟩ := h
        obtain ⟨y, hy, hr⟩ := hp.at_ (j := 0) rfl
        exact ⟨by simp [CT.width]; omega, hp.drop 1, by show vs[0]? = some _; rw [hy]; exact congrArg some hr⟩
      · cases h
  | .bool, cs, v, r, vs, h, hp => by
    match cs, h with
    | .bool b :: r', h =>
      simp only [CT.un, Option.some.injEq, Prod.mk.injEq] at h
      obtain ⟨rfl, rfl⟩ := h
      obtain ⟨y, hy, hr⟩ := hp.at_ (j := 0) rfl
      exact ⟨by simp [CT.width]; omega, hp.drop 1, by show vs[0]? = some _; rw [hy]; exact congrArg some hr⟩
  | .str, cs, v, r, vs, h, hp => by
    match cs, h with
    | .str b :: r', h =>
      simp only [CT.un, Option.some.injEq, Prod.mk.injEq] at h
      obtain ⟨rfl, rfl⟩ := h
      obtain ⟨y, hy, hr⟩ := hp.at_ (j := 0) rfl
      exact ⟨by simp [CT.width]; omega, hp.drop 1, by show vs[0]? = some _; rw [hy]; exact congrArg some hr⟩
  | .sl row, cs, v, r, vs, h, hp => by
    match cs, h with
    | .nils :: r', h =>
      simp only [CT.un, Option.some.injEq, Prod.mk.injEq] at h
      obtain ⟨rfl, rfl⟩ := h
      obtain ⟨y, hy, hr⟩ := hp.at_ (j := 0) rfl
      exact ⟨by simp [CT.width]; omega, hp.drop 1, none, 0, 0, by show vs[0]? = some _; rw [hy]; exact congrArg some hr, rfl, Nat.le_refl _, by simp [maxLen], .inl rfl⟩
    | .sl row' l m :: r', h =>
      simp only [CT.un] at h
      split at h
      · rename_i e
        have e' := CT.eq_of_eqb _ _ e
        subst e'
        simp only [Option.some.injEq, Prod.mk.injEq] at h
        obtain ⟨rfl, rfl⟩ := h
        obtain ⟨y, hy, A, n, cap, h1, h2, h3, h4, h5, _⟩ := hp.at_ (j := 0) rfl
        exact ⟨by simp [CT.width]; omega, hp.drop 1, A, n, cap, by show vs[0]? = some _; rw [hy]; exact congrArg some h1, h2, h3, h4, h5⟩
      · cases h
  | .unit, cs, v, r, vs, h, hp => by
    simp only [CT.un, Option.some.injEq, Prod.mk.injEq] at h
    obtain ⟨_, rfl⟩ := h
    exact ⟨by simp [CT.width], by simpa [CT.width] using hp, trivial⟩
  | .pair a b, cs, v, r, vs, h, hp => by
    simp only [CT.un] at h
    split at h
    · rename_i x r' h1
      split at h
      · rename_i y r'' h2
        simp only [Option.some.injEq, Prod.mk.injEq] at h
        obtain ⟨rfl, rfl⟩ := h
        obtain ⟨l1, p1, q1⟩ := CT.un_rel a cs x r' vs h1 hp
        obtain ⟨l2, p2, q2⟩ := CT.un_rel b r' y r'' _ h2 p1
        refine ⟨by simp only [CT.width]; omega, by simpa [CT.width, List.drop_drop] using p2, q1, ?_⟩
        exact RelT.mono b y (fun k z hz => by rw [List.getElem?_drop] at hz; exact hz) (fun _ _ hh => hh) q2
      · cases h
    · cases h
end Go.Eng
