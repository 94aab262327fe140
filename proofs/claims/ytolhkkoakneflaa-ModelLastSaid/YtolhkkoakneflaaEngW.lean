import Derived.Test.YtolhkkoakneflaaEngV
set_option linter.unusedVariables false
namespace Go.Eng
open Go Go.RowKit
variable {P : Program}

/-- A value without blocks of its own. -/
def wkC : AC → Option AC
  | .unk => some .unk
  | .int k n => some (.int k n)
  | .bool b => some (.bool b)
  | .str s => some (.str s)
  | .sl row l .shared => some (.sl row l .shared)
  | .sl row l .full => some (.sl row l .full)
  | .sl row l .nn => some (.sl row l .nn)
  | .sl row l (.own _ _) => some (.sl row l .shared)
  | .nils => some .nils
  | .nilz => some .nilz
  | .nilp => some .nilp
  | .nilf => some .nilf
  | .nilm => some .nilm
  | .elp row l i off => some (.elp row l i off)
  | .fn f [] => some (.fn f [])
  | _ => none

def wkCs : List AC → Option (List AC)
  | [] => some []
  | c :: r => match wkC c, wkCs r with
    | some x, some l => some (x :: l)
    | _, _ => none

def wkPs : List (Bool × List AC) → Option (List (Bool × List AC))
  | [] => some []
  | (b, c) :: r => match wkCs c, wkPs r with
    | some x, some l => some ((b, x) :: l)
    | _, _ => none

def wkA : AV → Option AV
  | .one c => (wkC c).map .one
  | .agg cs => (wkCs cs).map .agg
  | .tup ps => (wkPs ps).map .tup

def wkAs : List AV → Option (List AV)
  | [] => some []
  | c :: r => match wkA c, wkAs r with
    | some x, some l => some (x :: l)
    | _, _ => none

section
variable {X Z : Ctx} (hIC : ∀ a y, X.IC a y → Z.IC a y)
include hIC

theorem wkC_rel {c c' : AC} (h : wkC c = some c') {v : Value} (hv : VRc X c v) : VRc Z c' v := by
  have rows : ∀ {row : CT} {l : List row.den} {A : Option Addr} {n : Nat}, (n = 0 ∨ ∃ b o, A = some ⟨b, o, none⟩ ∧ ∀ j x, l[j]? = some x → RelT row x (fun k y => X.IC ⟨b, o + j * row.width + k, none⟩ y) X.IC) →
      (n = 0 ∨ ∃ b o, A = some (⟨b, o, none⟩ : Addr) ∧ ∀ j x, l[j]? = some x → RelT row x (fun k y => Z.IC ⟨b, o + j * row.width + k, none⟩ y) Z.IC) :=
    fun h => h.imp id fun ⟨b, o, e, hh⟩ => ⟨b, o, e, fun j x hj => RelT.mono _ x (fun _ _ hk => hIC _ _ hk) hIC (hh j x hj)⟩
  unfold wkC at h
  split at h <;> first | (cases h; done) | (injection h with h; subst h)
  case h_5 => obtain ⟨A, n, cap, h1, h2, h3, h4, h5, _⟩ := hv; exact ⟨A, n, cap, h1, h2, h3, h4, rows h5, trivial⟩
  case h_6 => obtain ⟨A, n, cap, h1, h2, h3, h4, h5, h6⟩ := hv; exact ⟨A, n, cap, h1, h2, h3, h4, rows h5, h6⟩
  case h_7 => obtain ⟨A, n, cap, h1, h2, h3, h4, h5, h6⟩ := hv; exact ⟨A, n, cap, h1, h2, h3, h4, rows h5, h6⟩
  case h_8 => obtain ⟨A, n, cap, h1, h2, h3, h4, h5, _⟩ := hv; exact ⟨A, n, cap, h1, h2, h3, h4, rows h5, trivial⟩
  case h_14 => obtain ⟨hi, b, o, e, hh⟩ := hv; exact ⟨hi, b, o, e, fun x hx => RelT.mono _ x (fun _ _ hk => hIC _ _ hk) hIC (hh x hx)⟩
  case h_15 => obtain ⟨c, h1, h2, h3⟩ := hv; exact ⟨c, h1, h2, fun j p hj => by simp at hj⟩
  all_goals exact hv

theorem wkCs_rel : ∀ {cs cs' : List AC}, wkCs cs = some cs' → ∀ {vs : List Value}, PW (VRc X) cs vs → PW (VRc Z) cs' vs
  | [], cs', h, vs, hv => by
    simp only [wkCs, Option.some.injEq] at h
    subst h
    have : vs = [] := List.eq_nil_of_length_eq_zero hv.1.symm
    subst this; exact PW.nil
  | c :: l, cs', h, vs, hv => by
    simp only [wkCs] at h
    split at h
    · rename_i p q h1 h2
      injection h with h; subst h
      cases vs with
      | nil => have := hv.1; simp at this
      | cons y ys => exact PW.cons (wkC_rel hIC h1 (hv.2 0 c y rfl rfl)) (wkCs_rel h2 ⟨by have := hv.1; simpa using this, fun j d z hd hz => hv.2 (j + 1) d z (by simpa using hd) (by simpa using hz)⟩)
    · cases h

omit hIC in
theorem wkCs_one {c : AC} {cs' : List AC} (h : wkCs [c] = some cs') : ∃ c', cs' = [c'] ∧ wkC c = some c' := by
  simp only [wkCs] at h
  split at h
  · rename_i p q h1 h2
    injection h with h; subst h
    injection h2 with h2; subst h2
    exact ⟨p, rfl, h1⟩
  · cases h

theorem wkP_rel {b : Bool} {cs cs' : List AC} (h : wkCs cs = some cs') {v : Value} (hv : VRp X (b, cs) v) : VRp Z (b, cs') v := by
  cases b with
  | true => obtain ⟨ar, e, hp⟩ := hv; exact ⟨ar, e, wkCs_rel hIC h hp⟩
  | false =>
    obtain ⟨c, rfl, hc⟩ := hv
    obtain ⟨c', rfl, h1⟩ := wkCs_one h
    exact ⟨c', rfl, wkC_rel hIC h1 hc⟩

theorem wkPs_rel : ∀ {cs cs' : List (Bool × List AC)}, wkPs cs = some cs' → ∀ {vs : List Value}, PW (VRp X) cs vs → PW (VRp Z) cs' vs
  | [], cs', h, vs, hv => by
    simp only [wkPs, Option.some.injEq] at h
    subst h
    have : vs = [] := List.eq_nil_of_length_eq_zero hv.1.symm
    subst this; exact PW.nil
  | (b, c) :: l, cs', h, vs, hv => by
    simp only [wkPs] at h
    split at h
    · rename_i p q h1 h2
      injection h with h; subst h
      cases vs with
      | nil => have := hv.1; simp at this
      | cons y ys => exact PW.cons (wkP_rel hIC h1 (hv.2 0 (b, c) y rfl rfl)) (wkPs_rel h2 ⟨by have := hv.1; simpa using this, fun j d z hd hz => hv.2 (j + 1) d z (by simpa using hd) (by simpa using hz)⟩)
    · cases h

theorem wkA_rel {c c' : AV} (h : wkA c = some c') {v : Value} (hv : VR X c v) : VR Z c' v := by
  cases c with
  | one c =>
    simp only [wkA] at h
    cases hc : wkC c with
    | none => rw [hc] at h; cases h
    | some x =>
      rw [hc] at h
      simp only [Option.map_some, Option.some.injEq] at h
      subst h
      exact wkC_rel hIC hc hv
  | agg cs =>
    simp only [wkA] at h
    cases hc : wkCs cs with
    | none => rw [hc] at h; cases h
    | some x =>
      rw [hc] at h
      simp only [Option.map_some, Option.some.injEq] at h
      subst h
      exact wkP_rel hIC (b := true) hc hv
  | tup ps =>
    simp only [wkA] at h
    cases hc : wkPs ps with
    | none => rw [hc] at h; cases h
    | some x =>
      rw [hc] at h
      simp only [Option.map_some, Option.some.injEq] at h
      subst h
      obtain ⟨arr, e, hp⟩ := hv
      exact ⟨arr, e, wkPs_rel hIC hc hp⟩

theorem wkAs_rel : ∀ {cs cs' : List AV}, wkAs cs = some cs' → ∀ {vs : List Value}, PW (VR X) cs vs → PW (VR Z) cs' vs
  | [], cs', h, vs, hv => by
    simp only [wkAs, Option.some.injEq] at h
    subst h
    have : vs = [] := List.eq_nil_of_length_eq_zero hv.1.symm
    subst this; exact PW.nil
  | c :: l, cs', h, vs, hv => by
    simp only [wkAs] at h
    split at h
    · rename_i p q h1 h2
      injection h with h; subst h
      cases vs with
      | nil => have := hv.1; simp at this
      | cons y ys => exact PW.cons (wkA_rel hIC h1 (hv.2 0 c y rfl rfl)) (wkAs_rel h2 ⟨by have := hv.1; simpa using this, fun j d z hd hz => hv.2 (j + 1) d z (by simpa using hd) (by simpa using hz)⟩)
    · cases h
end

/-- A function that touches no block of the caller's: from these arguments it comes to this. -/
def PureCall (P : Program) (f : Nat) (args : List AV) (r : AV) : Prop :=
  (∃ fn, P.funcs[f]? = some fn ∧ (fn.name == "runtime.NumGoroutine") = false ∧ fn.body.isNone = false) ∧
  ∀ X vs, HRel X → PW (VR X) args vs → Calls P f vs.toArray X.w fun e w' => ∃ val X', e = .returned val ∧ X'.w = w' ∧ X.le X' ∧ HRel X' ∧ X'.H = X.H ∧ VR X' r val

theorem KPok.of (P : Program) {kp : KP} (h : ∀ f args os r cs os', kp f args os = some (r, cs, os') → (∀ c ∈ cs, c = true) → PureCall P f args r) : KPok P kp :=
  fun f args os r cs os' hk hc X vs hX hv => ⟨(h f args os r cs os' hk hc).1, (h f args os r cs os' hk hc).2 X vs hX hv⟩

/-- Nothing is known but that what lies there now, and is promised, stays. -/
def fresh (X : Ctx) : Ctx := { φ := fun _ => 0, fr := fun _ => none, tl := fun _ => False, H := fun _ => none, w := X.w, w0 := X.w, lent := fun _ => False, old := X.IC }

theorem fresh_IC {X : Ctx} {a : Addr} {y : Value} (h : X.IC a y) : (fresh X).IC a y :=
  ⟨.inr (.inr h), h.2.1, h.2.2.1, fun i b hb => (by cases hb), fun e he => (by cases he)⟩

theorem HRel.fresh (X : Ctx) : HRel (fresh X) where
  inj i j b c h := by cases h
  injt i j h := h.elim
  injm i b j h := by cases h
  place i b h := by cases h
  placet i h := h.elim
  lt i b h := by cases h
  ltt i h := h.elim
  tlH i h := h.elim
  frlt b e h := by cases h
  blk i b h := by cases h
  below k _ _ := rfl
  os := rfl
  tape := rfl
  output := rfl
  size := Nat.le_refl _
  old a y h := fresh_IC h

theorem below_of {X Y' : Ctx} (hle : (fresh X).le Y') (hY : HRel Y') : Below X.w.heap.size X.w Y'.w := by
  have h0 : Y'.w0 = X.w := hle.w0
  have hl : Y'.lent = fun _ => False := hle.lent
  refine ⟨?_, ?_, ?_, ?_, ?_⟩
  · have := hY.os; rw [h0] at this; exact this
  · have := hY.tape; rw [h0] at this; exact this
  · have := hY.output; rw [h0] at this; exact this
  · have := hY.size; rw [h0] at this; exact this
  · intro k hk; have := hY.below k (by rw [h0]; exact hk) (by rw [hl]; exact id); rw [h0] at this; exact this

theorem back_IC {X Y' : Ctx} (hX : HRel X) (hle : (fresh X).le Y') {a : Addr} {y : Value} (h : Y'.IC a y) : (X.withW Y'.w).IC a y := by
  obtain ⟨h1, h2, h3, _, _⟩ := h
  rw [hle.w0, hle.lent, hle.oldeq] at h1
  rcases h1 with h1 | h1 | h1
  · have h1' : X.w.heap.size ≤ a.block := h1
    refine ⟨.inl (Nat.le_trans hX.size h1'), h2, h3, fun i b hb hl => ?_, fun e he => ?_⟩
    · have := hX.lt i b hb hl
      show X.φ i ≠ _
      omega
    · have := hX.frlt _ _ he
      omega
  · exact h1.elim
  · exact ⟨h1.1, h2, h3, h1.2.2.2.1, h1.2.2.2.2⟩

theorem pure_of_run (hm : P.follows .mixedOrders = true) {kp : KP} {kq : KX} {kh : KH} (hkp : KPok P kp) (hkq : KXok P kq) (hkh : KHok P kh) {lc : LC} {n f : Nat} {fn : Func} {c : Code} (hf : P.funcs[f]? = some fn) (hne : (fn.name == "runtime.NumGoroutine") = false)
    (hb : fn.body = some c) (hlc : LCok P lc c) {args args' : List AV} (ha : wkAs args = some args') {os : List Bool} {r r' : AV} {hp' : List AB} {cs os' : List Bool}
    (h : runF P kp kq kh lc n fn c args' [] os = some (r, hp', cs, os')) (hr : wkA r = some r') (hcs : ∀ c ∈ cs, c = true) : PureCall P f args r' := by
  refine ⟨⟨fn, hf, hne, by rw [hb]; rfl⟩, fun X vs hX hv => ?_⟩
  have hv' : PW (VR (fresh X)) args' vs := wkAs_rel (fun a y h => fresh_IC h) ha hv
  refine (runF_sim hm hkp hkq hkh hf hb hlc h hcs (HRel.fresh X) (by funext i; simp [fresh]) hv').mono fun e w' hh => ?_
  obtain ⟨val, Y', rfl, rfl, hle, hY, _, hval⟩ := hh
  have hbel := below_of hle hY
  exact ⟨val, X.withW Y'.w, rfl, rfl, withW_le hX hbel, hX.withW hbel, rfl, wkA_rel (fun a y h => back_IC hX hle h) hr hval⟩

def kxN (k : KP) : KX := ⟨k, klN, fun _ => false⟩
theorem kxN_ok {k : KP} (h : KPok P k) : KXok P (kxN k) := ⟨h, klN_ok⟩
/-- Contracts, and behind them bodies that are walked with nothing of the caller's memory in sight. -/
def kpN (P : Program) (kp : KP) (lcs : Nat → LC) (may : Nat → Bool) (rounds : Nat) : Nat → KP
  | 0 => kp
  | d + 1 => fun f args os => match kp f args os with
    | some r => some r
    | none => if may f then
        match P.funcs[f]?, wkAs args with
        | some fn, some args' => if fn.name == "runtime.NumGoroutine" then none else match fn.body with
          | some c => match runF P kp (kxN (kpN P kp lcs may rounds d)) (khN P kp (kxN (kpN P kp lcs may rounds d)) lcs may rounds d) (lcs f) rounds fn c args' [] os with
            | some (r, _, cs, os') => match wkA r with
              | some r' => some (r', cs, os')
              | none => none
            | none => none
          | none => none
        | _, _ => none
      else none

theorem kpN_ok (hm : P.follows .mixedOrders = true) {kp : KP} (hkp : KPok P kp) {lcs : Nat → LC} (hl : LCsOk P lcs) {may : Nat → Bool} {rounds : Nat} : ∀ d, KPok P (kpN P kp lcs may rounds d)
  | 0 => hkp
  | d + 1 => fun f args os r cs os' h hcs X vs hX hv => by
    simp only [kpN] at h
    split at h
    · rename_i r0 h0
      injection h with h; subst h
      exact hkp f args os r cs os' h0 hcs X vs hX hv
    · split at h
      · split at h
        · rename_i fn args' hf ha
          split at h
          · cases h
          · rename_i hne
            split at h
            · rename_i c hb
              split at h
              · rename_i r0 hp' cs0 os0 hrun
                split at h
                · rename_i r' hr
                  simp only [Option.some.injEq, Prod.mk.injEq] at h
                  obtain ⟨rfl, rfl, rfl⟩ := h
                  have hq := kpN_ok hm hkp hl (may := may) (rounds := rounds) d
                  have := pure_of_run hm hkp (kxN_ok hq) (khN_ok hm hkp (kxN_ok hq) hl d) hf (by simpa using hne) hb (hl f fn c hf hb) ha hrun hr hcs
                  exact ⟨this.1, this.2 X vs hX hv⟩
                · cases h
              · cases h
            · cases h
        · cases h
      · cases h

/-- All together: contracts, loops' contracts, and all else walked in place. -/
def khA (P : Program) (kp : KP) (lcs : Nat → LC) (may : Nat → Bool) (rounds d : Nat) : KH := khN P kp (kxN (kpN P kp lcs may rounds d)) lcs may rounds d

theorem khA_ok (hm : P.follows .mixedOrders = true) {kp : KP} (hkp : KPok P kp) {lcs : Nat → LC} (hl : LCsOk P lcs) {may : Nat → Bool} {rounds d : Nat} : KHok P (khA P kp lcs may rounds d) :=
  khN_ok hm hkp (kxN_ok (kpN_ok hm hkp hl d)) hl d
end Go.Eng
