import Derived.Test.YthdgoefjkfafkaaGreatDoorEngZ7
set_option linter.unusedVariables false
namespace Go.Eng
section
open Go Go.RowKit
variable {P : Program}

/-! ### A contract of some blocks, wherever in the caller's memory they stand (other blocks stay as they are) -/

/-- At which place of a list a block stands. -/
def findI : List Nat → Nat → Nat → Option Nat
  | [], _, _ => none
  | j :: r, k, i => if Nat.beq j i then some k else findI r (k + 1) i
theorem findI_some : ∀ {is : List Nat} {k i n : Nat}, findI is k i = some n → k ≤ n ∧ is[n - k]? = some i
  | [], k, i, n, h => by cases h
  | j :: r, k, i, n, h => by
    unfold findI at h
    split at h
    · rename_i e
      injection h with h
      subst h
      rw [Nat.beq_eq] at e
      subst e
      simp
    · obtain ⟨h1, h2⟩ := findI_some h
      refine ⟨by omega, ?_⟩
      rw [show n - k = (n - (k + 1)) + 1 by omega, List.getElem?_cons_succ]
      exact h2
theorem findI_none : ∀ {is : List Nat} {k i : Nat}, findI is k i = none → ∀ n : Nat, is[n]? ≠ some i
  | [], k, i, _, n, e => by simp at e
  | j :: r, k, i, h, n, e => by
    unfold findI at h
    split at h
    · cases h
    · rename_i hne
      cases n with
      | zero => simp only [List.getElem?_cons_zero, Option.some.injEq] at e; subst e; simp at hne
      | succ n => exact findI_none h n (by simpa using e)
theorem findI_zero {is : List Nat} {i n : Nat} (h : findI is 0 i = some n) : is[n]? = some i := (findI_some h).2

def nodupB : List Nat → Bool
  | [] => true
  | j :: r => (findI r 0 j).isNone && nodupB r
theorem nodupB_inj : ∀ {is : List Nat}, nodupB is = true → ∀ {n m i : Nat}, is[n]? = some i → is[m]? = some i → n = m
  | [], _, n, m, i, h1, _ => by simp at h1
  | j :: r, h, n, m, i, h1, h2 => by
    simp only [nodupB, Bool.and_eq_true, Option.isNone_iff_eq_none] at h
    cases n with
    | zero =>
      cases m with
      | zero => rfl
      | succ m =>
        simp only [List.getElem?_cons_zero, Option.some.injEq] at h1
        subst h1
        exact absurd (by simpa using h2) (findI_none h.1 m)
    | succ n =>
      cases m with
      | zero =>
        simp only [List.getElem?_cons_zero, Option.some.injEq] at h2
        subst h2
        exact absurd (by simpa using h1) (findI_none h.1 n)
      | succ m =>
        rw [nodupB_inj h.2 (n := n) (m := m) (i := i) (by simpa using h1) (by simpa using h2)]

/-- What the caller has, as the callee names it. -/
def unCaps (is : List Nat) : List (Nat × Nat) → Option (List (Nat × Nat))
  | [] => some []
  | p :: r => match findI is 0 p.1, unCaps is r with
    | some k, some l => some ((k, p.2) :: l)
    | _, _ => none
def unC (is : List Nat) : AC → Option AC
  | .sl row l (.own _ _) => some (.sl row l .shared)
  | .ptr i off => (findI is 0 i).map fun k => .ptr k off
  | .pti i off n len => (findI is 0 i).map fun k => .pti k off n len
  | .bsl row i off len mn => (findI is 0 i).map fun k => .bsl row k off len mn
  | .csl i off len cap => (findI is 0 i).map fun k => .csl k off len cap
  | .asl row i off len cap => (findI is 0 i).map fun k => .asl row k off len cap
  | .ael row i j d => (findI is 0 i).map fun k => .ael row k j d
  | .fn f caps => (unCaps is caps).map fun c => .fn f c
  | .mth f i off => (findI is 0 i).map fun k => .mth f k off
  | .mref i => (findI is 0 i).map fun k => .mref k
  | c => some c
def unCs (is : List Nat) : List AC → Option (List AC)
  | [] => some []
  | c :: r => match unC is c, unCs is r with
    | some x, some l => some (x :: l)
    | _, _ => none
def unPs (is : List Nat) : List (Bool × List AC) → Option (List (Bool × List AC))
  | [] => some []
  | c :: r => match unCs is c.2, unPs is r with
    | some x, some l => some ((c.1, x) :: l)
    | _, _ => none
def unA (is : List Nat) : AV → Option AV
  | .one c => (unC is c).map .one
  | .agg cs => (unCs is cs).map .agg
  | .tup ps => (unPs is ps).map .tup
  | .val y => some (.val y)
  | .gd b g cs => if cs.all bareC then some (.gd b g cs) else none
  | .alt _ => none
  | .clo _ _ => none
def unAs (is : List Nat) : List AV → Option (List AV)
  | [] => some []
  | c :: r => match unA is c, unAs is r with
    | some x, some l => some (x :: l)
    | _, _ => none
def unB (is : List Nat) : AB → Option AB
  | .cells cs => (unCs is cs).map .cells
  | .iter j n f => (findI is 0 j).map fun k => .iter k n f
  | .tok _ _ => none
  | .dead => none
  | .roc _ _ => none
  | .rom _ _ _ _ _ _ => none
  | .bld _ _ => none
  | .buf _ _ => none
  | b => some b
def unBs (is : List Nat) (hp : List AB) : List Nat → Option (List AB)
  | [] => some []
  | i :: r => match hp[i]? with
    | some b => match unB is b, unBs is hp r with
      | some x, some l => some (x :: l)
      | _, _ => none
    | none => none

/-- What the callee hands back, as the caller names it. -/
def reC (σ : Nat → Nat) : AC → AC
  | .sl row l (.own _ _) => .sl row l .shared
  | .ptr i off => .ptr (σ i) off
  | .pti i off n len => .pti (σ i) off n len
  | .bsl row i off len mn => .bsl row (σ i) off len mn
  | .csl i off len cap => .csl (σ i) off len cap
  | .asl row i off len cap => .asl row (σ i) off len cap
  | .ael row i j d => .ael row (σ i) j d
  | .fn f caps => .fn f (caps.map fun p => (σ p.1, p.2))
  | .mth f i off => .mth f (σ i) off
  | .mref i => .mref (σ i)
  | c => c
def reA (σ : Nat → Nat) : AV → AV
  | .one c => .one (reC σ c)
  | .agg cs => .agg (cs.map (reC σ))
  | .tup ps => .tup (ps.map fun p => (p.1, p.2.map (reC σ)))
  | .val y => .val y
  | .gd b g cs => .gd b g (cs.map fun c => if bareC c then c else .unk)
  | .alt _ => .one .unk
  | .clo _ _ => .one .unk
def reB (σ : Nat → Nat) : AB → AB
  | .cells cs => .cells (cs.map (reC σ))
  | .iter j n f => .iter (σ j) n f
  | .bld t c => .bld t (reC σ c)
  | .roc cs o => .roc (cs.map (reC σ)) o
  | b => b
theorem reB_pt {σ : Nat → Nat} (b : AB) : (reB σ b).pt = b.pt := by cases b <;> rfl

/-- Where the callee's block stands in the caller's memory of so many blocks. -/
def siteI (is : List Nat) (n len : Nat) (k : Nat) : Nat := match is[k]? with
  | some i => i
  | none => len + (k - n)
def backL (is : List Nat) (new : List AB) : Nat → List AB → List AB
  | _, [] => []
  | i, b :: r => (match findI is 0 i with
    | some k => match new[k]? with
      | some b' => b'
      | none => b
    | none => b) :: backL is new (i + 1) r
theorem backL_len (is : List Nat) (new : List AB) : ∀ (i : Nat) (hp : List AB), (backL is new i hp).length = hp.length
  | _, [] => rfl
  | i, b :: r => by simp [backL, backL_len is new (i + 1) r]
theorem backL_get (is : List Nat) (new : List AB) : ∀ (i : Nat) (hp : List AB) (j : Nat), (backL is new i hp)[j]? = hp[j]?.map fun b => (match findI is 0 (i + j) with
    | some k => match new[k]? with
      | some b' => b'
      | none => b
    | none => b)
  | i, [], j => by simp [backL]
  | i, b :: r, 0 => by simp [backL]
  | i, b :: r, j + 1 => by
    rw [backL, List.getElem?_cons_succ, List.getElem?_cons_succ, backL_get is new (i + 1) r j]
    rw [show i + 1 + j = i + (j + 1) by omega]
def backHp (is : List Nat) (hp hp0' : List AB) : List AB :=
  backL is (hp0'.map (reB (siteI is is.length hp.length))) 0 hp ++ (hp0'.map (reB (siteI is is.length hp.length))).drop is.length

/-- The caller's memory as the callee has it. -/
def small (X : Ctx) (is : List Nat) : Ctx :=
  { φ := fun k => X.φ (is.getD k 0), ca := fun k => X.ca (is.getD k 0), fr := fun _ => none, tl := fun _ => False, H := fun k => is[k]?.bind fun i => (X.H i).bind (unB is), w := X.w, w0 := X.w, lent := fun b => ∃ i ∈ is, b = X.φ i, old := X.IC }

theorem unB_loc {is : List Nat} {b b' : AB} (h : unB is b = some b') : b.wr = true ∧ b'.wr = true := by
  cases b with
  | cells cs =>
    simp only [unB, Option.map_eq_some_iff] at h
    obtain ⟨_, _, rfl⟩ := h
    exact ⟨rfl, rfl⟩
  | tok _ _ => cases h
  | dead => cases h
  | roc _ _ => cases h
  | rom _ _ _ _ _ _ => cases h
  | bld _ _ => cases h
  | buf _ _ => cases h
  | arr _ _ => injection h with h; subst h; exact ⟨rfl, rfl⟩
  | mp _ _ _ _ _ => injection h with h; subst h; exact ⟨rfl, rfl⟩
  | obj _ => injection h with h; subst h; exact ⟨rfl, rfl⟩
  | iter _ _ _ =>
    simp only [unB, Option.map_eq_some_iff] at h
    obtain ⟨_, _, rfl⟩ := h
    exact ⟨rfl, rfl⟩

theorem small_H {X : Ctx} {is : List Nat} {k : Nat} {b' : AB} (h : (small X is).H k = some b') : ∃ i b, is[k]? = some i ∧ X.H i = some b ∧ unB is b = some b' ∧ X.φ i = (small X is).φ k := by
  simp only [small, Option.bind_eq_some_iff] at h
  obtain ⟨i, h1, b, h2, h3⟩ := h
  refine ⟨i, b, h1, h2, h3, ?_⟩
  simp only [small, List.getD_eq_getElem?_getD, h1, Option.getD_some]

theorem small_IC {X : Ctx} {is : List Nat} {a : Addr} {y : Value} (h : X.IC a y) : (small X is).IC a y :=
  ⟨.inr (.inr h), h.2.1, h.2.2.1, (fun k b hb hl => by
    obtain ⟨i, b0, h1, h2, h3, h4⟩ := small_H hb
    rw [← h4]
    exact h.2.2.2.1 i b0 h2 (unB_loc h3).1), (fun e he => by cases he), h.2.2.2.2.2⟩

/-- All of them are known there. -/
def Full (X : Ctx) (is : List Nat) : Prop := ∀ (k i : Nat), is[k]? = some i → ∃ b b', X.H i = some b ∧ unB is b = some b'

theorem full_at {X : Ctx} {is : List Nat} (hF : Full X is) {i k : Nat} (h : findI is 0 i = some k) : (∃ b, (small X is).H k = some b ∧ b.pt = true) ∧ (small X is).φ k = X.φ i := by
  have hk := findI_zero h
  obtain ⟨b, b', h1, h2⟩ := hF k i hk
  refine ⟨⟨b', ?_, AB.pt_of (AB.loc_of (unB_loc h2).2)⟩, ?_⟩
  · simp only [small, hk, Option.bind_some, h1, h2]
  · simp only [small, List.getD_eq_getElem?_getD, hk, Option.getD_some]
theorem full_arrAt {X : Ctx} {is : List Nat} (hF : Full X is) {i k : Nat} (h : findI is 0 i = some k) {row : CT} {l : List row.den} (hH : X.ArrAt i row l) : (small X is).ArrAt k row l := by
  have hk := findI_zero h
  obtain ⟨b, b', h1, h2⟩ := hF k i hk
  rcases hH with hH | hH
  · left; simp only [small, hk, Option.bind_some, hH]; rfl
  · rw [hH] at h1; injection h1 with h1; subst h1; cases h2
theorem full_ca {X : Ctx} {is : List Nat} {i k : Nat} (h : findI is 0 i = some k) : (small X is).ca k = X.ca i := by
  have hk := findI_zero h
  simp only [small, List.getD_eq_getElem?_getD, hk, Option.getD_some]
theorem unCaps_some {is : List Nat} : ∀ {caps c : List (Nat × Nat)}, unCaps is caps = some c → c.length = caps.length ∧ ∀ (j : Nat) (p : Nat × Nat), c[j]? = some p → ∃ q, caps[j]? = some q ∧ findI is 0 q.1 = some p.1 ∧ p.2 = q.2
  | [], c, h => by simp only [unCaps, Option.some.injEq] at h; subst h; exact ⟨rfl, fun j p hp => by simp at hp⟩
  | x :: r, c, h => by
    simp only [unCaps] at h
    split at h
    · rename_i k l h1 h2
      injection h with h; subst h
      obtain ⟨g1, g2⟩ := unCaps_some h2
      refine ⟨by simp [g1], fun j p hp => ?_⟩
      cases j with
      | zero => simp only [List.getElem?_cons_zero, Option.some.injEq] at hp; subst hp; exact ⟨x, rfl, h1, rfl⟩
      | succ j => exact g2 j p (by simpa using hp)
    · cases h

theorem unC_rel {X : Ctx} {is : List Nat} (hF : Full X is) : ∀ (c : AC) {c' : AC}, unC is c = some c' → ∀ {v : Value}, VRc X c v → VRc (small X is) c' v := by
  intro c c' h v hv
  have loc : ∀ {i k : Nat}, findI is 0 i = some k → (∃ b, (small X is).H k = some b ∧ b.pt = true) ∧ (small X is).φ k = X.φ i := fun h => full_at hF h
  cases c with
  | unk => injection h with h; subst h; exact hv
  | int _ _ => injection h with h; subst h; exact hv
  | bool _ => injection h with h; subst h; exact hv
  | str _ => injection h with h; subst h; exact hv
  | nils => injection h with h; subst h; exact hv
  | nilz => injection h with h; subst h; exact hv
  | nilp => injection h with h; subst h; exact hv
  | nilf => injection h with h; subst h; exact hv
  | nilm => injection h with h; subst h; exact hv
  | sl row l m =>
    obtain ⟨A, n, cap, h1, h2, h3, h4, h5, h6⟩ := hv
    have h5' : n = 0 ∨ ∃ b o, A = some ⟨b, o, none⟩ ∧ ∀ j x, l[j]? = some x → RelT row x (fun k y => (small X is).IC ⟨b, o + j * row.width + k, none⟩ y) (small X is).IC :=
      h5.imp id fun ⟨b, o, e, hh⟩ => ⟨b, o, e, fun j x hj => RelT.mono row x (fun _ _ hk => small_IC hk) (fun _ _ => small_IC) (hh j x hj)⟩
    cases m with
    | shared => injection h with h; subst h; exact ⟨A, n, cap, h1, h2, h3, h4, h5', trivial⟩
    | full => injection h with h; subst h; exact ⟨A, n, cap, h1, h2, h3, h4, h5', h6⟩
    | nn => injection h with h; subst h; exact ⟨A, n, cap, h1, h2, h3, h4, h5', h6⟩
    | «at» _ _ => injection h with h; subst h; exact ⟨A, n, cap, h1, h2, h3, h4, h5', h6⟩
    | own _ _ => injection h with h; subst h; exact ⟨A, n, cap, h1, h2, h3, h4, h5', trivial⟩
  | elp row l i off =>
    injection h with h; subst h
    obtain ⟨hi, b, o, e, hh⟩ := hv
    exact ⟨hi, b, o, e, fun x hx => RelT.mono row x (fun _ _ hk => small_IC hk) (fun _ _ => small_IC) (hh x hx)⟩
  | ptr i off =>
    simp only [unC, Option.map_eq_some_iff] at h
    obtain ⟨k, hk, rfl⟩ := h
    obtain ⟨g1, g2⟩ := loc hk
    exact ⟨g1, by rw [g2]; exact hv.2⟩
  | pti i off n len =>
    simp only [unC, Option.map_eq_some_iff] at h
    obtain ⟨k, hk, rfl⟩ := h
    obtain ⟨g1, g2⟩ := loc hk
    exact ⟨g1, by rw [g2]; exact hv.2⟩
  | mth f i off =>
    simp only [unC, Option.map_eq_some_iff] at h
    obtain ⟨k, hk, rfl⟩ := h
    obtain ⟨g1, g2⟩ := loc hk
    exact ⟨g1, by rw [g2]; exact hv.2⟩
  | mref i =>
    simp only [unC, Option.map_eq_some_iff] at h
    obtain ⟨k, hk, rfl⟩ := h
    obtain ⟨g1, g2⟩ := loc hk
    exact ⟨g1, by rw [g2]; exact hv.2⟩
  | csl i off len cap =>
    simp only [unC, Option.map_eq_some_iff] at h
    obtain ⟨k, hk, rfl⟩ := h
    obtain ⟨g1, g2⟩ := loc hk
    exact ⟨g1, by rw [g2]; exact hv.2⟩
  | bsl row i off len mn =>
    simp only [unC, Option.map_eq_some_iff] at h
    obtain ⟨k, hk, rfl⟩ := h
    obtain ⟨l, o, cap, h1, h2, h3⟩ := hv
    exact ⟨l, o, cap, full_arrAt hF hk h1, by rw [(loc hk).2]; exact h2, by rw [full_ca hk]; exact h3⟩
  | asl row i off len cap =>
    simp only [unC, Option.map_eq_some_iff] at h
    obtain ⟨k, hk, rfl⟩ := h
    obtain ⟨l, h1, h2, h3⟩ := hv
    exact ⟨l, full_arrAt hF hk h1, by rw [(loc hk).2]; exact h2, h3⟩
  | ael row i j d =>
    simp only [unC, Option.map_eq_some_iff] at h
    obtain ⟨k, hk, rfl⟩ := h
    obtain ⟨l, h1, h2, h3⟩ := hv
    exact ⟨l, full_arrAt hF hk h1, h2, by rw [(loc hk).2]; exact h3⟩
  | mdl kt vt ka va l =>
    injection h with h; subst h
    obtain ⟨b, m, y, h1, h2, h3, h4⟩ := hv
    exact ⟨b, m, y, h1, small_IC h2, small_IC h3, h4⟩
  | fn f caps =>
    simp only [unC, Option.map_eq_some_iff] at h
    obtain ⟨cp, hk, rfl⟩ := h
    obtain ⟨c, h1, h2, h3⟩ := hv
    obtain ⟨g1, g2⟩ := unCaps_some hk
    refine ⟨c, h1, by rw [h2, g1], fun j p hj => ?_⟩
    obtain ⟨q, e1, e2, e3⟩ := g2 j p hj
    obtain ⟨k1, k2⟩ := loc e2
    exact ⟨k1, by rw [k2, e3]; exact (h3 j q e1).2⟩

theorem unCs_rel {X : Ctx} {is : List Nat} (hF : Full X is) : ∀ {cs cs' : List AC}, unCs is cs = some cs' → ∀ {vs : List Value}, PW (VRc X) cs vs → PW (VRc (small X is)) cs' vs
  | [], cs', h, vs, hv => by
    simp only [unCs, Option.some.injEq] at h
    subst h
    have : vs = [] := List.eq_nil_of_length_eq_zero hv.1.symm
    subst this; exact PW.nil
  | c :: r, cs', h, vs, hv => by
    simp only [unCs] at h
    split at h
    · rename_i x l h1 h2
      injection h with h; subst h
      cases vs with
      | nil => have := hv.1; simp at this
      | cons y ys =>
        exact PW.cons (unC_rel hF c h1 (hv.2 0 c y rfl rfl)) (unCs_rel hF h2 ⟨by have := hv.1; simpa using this, fun j d z hd hz => hv.2 (j + 1) d z (by simpa using hd) (by simpa using hz)⟩)
    · cases h
theorem unP_rel {X : Ctx} {is : List Nat} (hF : Full X is) {b : Bool} {cs cs' : List AC} (h : unCs is cs = some cs') {v : Value} (hv : VRp X (b, cs) v) : VRp (small X is) (b, cs') v := by
  cases b with
  | true =>
    obtain ⟨ar, e, hp⟩ := hv
    exact ⟨ar, e, unCs_rel hF h hp⟩
  | false =>
    obtain ⟨c, rfl, hc⟩ := hv
    simp only [unCs] at h
    split at h
    · rename_i x l h1 h2
      injection h with h; injection h2 with h2
      subst h; subst h2
      exact ⟨x, rfl, unC_rel hF c h1 hc⟩
    · cases h
theorem unPs_rel {X : Ctx} {is : List Nat} (hF : Full X is) : ∀ {cs cs' : List (Bool × List AC)}, unPs is cs = some cs' → ∀ {vs : List Value}, PW (VRp X) cs vs → PW (VRp (small X is)) cs' vs
  | [], cs', h, vs, hv => by
    simp only [unPs, Option.some.injEq] at h
    subst h
    have : vs = [] := List.eq_nil_of_length_eq_zero hv.1.symm
    subst this; exact PW.nil
  | (b, c) :: r, cs', h, vs, hv => by
    simp only [unPs] at h
    split at h
    · rename_i x l h1 h2
      injection h with h; subst h
      cases vs with
      | nil => have := hv.1; simp at this
      | cons y ys =>
        exact PW.cons (unP_rel hF h1 (hv.2 0 _ y rfl rfl)) (unPs_rel hF h2 ⟨by have := hv.1; simpa using this, fun j d z hd hz => hv.2 (j + 1) d z (by simpa using hd) (by simpa using hz)⟩)
    · cases h
theorem unA_rel {X : Ctx} {is : List Nat} (hF : Full X is) {a a' : AV} (h : unA is a = some a') {v : Value} (hv : VR X a v) : VR (small X is) a' v := by
  cases a with
  | one c =>
    simp only [unA, Option.map_eq_some_iff] at h
    obtain ⟨c', h1, rfl⟩ := h
    exact unC_rel hF c h1 hv
  | agg cs =>
    simp only [unA, Option.map_eq_some_iff] at h
    obtain ⟨c', h1, rfl⟩ := h
    exact unP_rel hF (b := true) h1 hv
  | tup ps =>
    simp only [unA, Option.map_eq_some_iff] at h
    obtain ⟨c', h1, rfl⟩ := h
    obtain ⟨arr, e, hp⟩ := hv
    exact ⟨arr, e, unPs_rel hF h1 hp⟩
  | alt _ => cases h
  | clo _ _ => cases h
  | gd b g cs =>
    simp only [unA] at h
    split at h
    · rename_i hb
      injection h with h; subst h
      exact bareA_rel (c := .gd b g cs) hb hv
    · cases h
  | val y =>
    simp only [unA, Option.some.injEq] at h
    subst h
    exact hv
theorem unAs_rel {X : Ctx} {is : List Nat} (hF : Full X is) : ∀ {as as' : List AV}, unAs is as = some as' → ∀ {vs : List Value}, PW (VR X) as vs → PW (VR (small X is)) as' vs
  | [], as', h, vs, hv => by
    simp only [unAs, Option.some.injEq] at h
    subst h
    have : vs = [] := List.eq_nil_of_length_eq_zero hv.1.symm
    subst this; exact PW.nil
  | a :: r, as', h, vs, hv => by
    simp only [unAs] at h
    split at h
    · rename_i x l h1 h2
      injection h with h; subst h
      cases vs with
      | nil => have := hv.1; simp at this
      | cons y ys =>
        exact PW.cons (unA_rel hF h1 (hv.2 0 a y rfl rfl)) (unAs_rel hF h2 ⟨by have := hv.1; simpa using this, fun j d z hd hz => hv.2 (j + 1) d z (by simpa using hd) (by simpa using hz)⟩)
    · cases h

theorem unB_rel {X : Ctx} {is : List Nat} (hF : Full X is) {i k : Nat} (hφ : (small X is).φ k = X.φ i) (hc : (small X is).ca k = X.ca i) {b b' : AB} (h : unB is b = some b') (hb : BRel X i b) : BRel (small X is) k b' := by
  cases b with
  | cells cs =>
    simp only [unB, Option.map_eq_some_iff] at h
    obtain ⟨cs', h1, rfl⟩ := h
    obtain ⟨c, t, g1, g2⟩ := hb
    exact ⟨c, t, by rw [hφ]; exact g1, unCs_rel hF h1 g2⟩
  | tok _ _ => cases h
  | dead => cases h
  | roc _ _ => cases h
  | rom _ _ _ _ _ _ => cases h
  | bld _ _ => cases h
  | buf _ _ => cases h
  | arr row l =>
    injection h with h; subst h
    obtain ⟨c, t, g1, g2, g3⟩ := hb
    exact ⟨c, t, by rw [hφ]; exact g1, by rw [hc]; exact g2, fun j x hj => RelT.mono row x (fun _ _ hk => hk) (fun _ _ => small_IC) (g3 j x hj)⟩
  | obj o =>
    injection h with h; subst h
    show (small X is).w.heap[(small X is).φ k]? = some o
    rw [hφ]; exact hb
  | iter j n f =>
    simp only [unB, Option.map_eq_some_iff] at h
    obtain ⟨q, hq, rfl⟩ := h
    obtain ⟨g1, g2⟩ := full_at hF hq
    exact ⟨g1, fun hf => by rw [hφ, g2]; exact hb.2 hf⟩
  | mp kt vt ka va l =>
    injection h with h; subst h
    obtain ⟨hf, es, clock, h1, h2, h3⟩ := hb
    refine ⟨hf, es, clock, by rw [hφ]; exact h1, h2, h3.1, h3.2.imp fun l' hl' => ⟨hl'.1, fun j p e hp he => ?_⟩⟩
    obtain ⟨g1, us, g2, g3, g4⟩ := hl'.2 j p e hp he
    exact ⟨g1, us, g2, g3, RelT.mono vt p.2 (fun _ _ hk => hk) (fun _ _ => small_IC) g4⟩

theorem small_rel {X : Ctx} (hX : HRel X) {is : List Nat} (hF : Full X is) (hnd : nodupB is = true) : HRel (small X is) := by
  refine ⟨fun i j b c hi hj hb hc hne => ?_, fun i j h => h.elim, fun i b j _ _ h => h.elim, fun i b hi hb => ?_, fun i h => h.elim, fun i b hi hb => ?_, fun i h => h.elim, fun i h => h.elim, (fun b e h => by cases h), fun k b hi => ?_, fun k _ _ => rfl, rfl, rfl, rfl, Nat.le_refl _, fun a y h => small_IC h⟩
  · obtain ⟨i1, b1, g1, g2, g3, g4⟩ := small_H hi
    obtain ⟨j1, c1, k1, k2, k3, k4⟩ := small_H hj
    rw [← g4, ← k4]
    refine hX.inj i1 j1 b1 c1 g2 k2 (AB.loc_of (unB_loc g3).1) (AB.loc_of (unB_loc k3).1) fun e => hne ?_
    subst e
    exact nodupB_inj hnd g1 k1
  · obtain ⟨i1, b1, g1, g2, g3, g4⟩ := small_H hi
    right
    exact ⟨i1, List.mem_of_getElem? g1, g4.symm⟩
  · obtain ⟨i1, b1, g1, g2, g3, g4⟩ := small_H hi
    rw [← g4]
    exact hX.ltl i1 b1 g2 (AB.loc_of (unB_loc g3).1)
  · obtain ⟨i1, b1, g1, g2, g3, g4⟩ := small_H hi
    exact unB_rel hF g4.symm (by simp only [small, List.getD_eq_getElem?_getD, g1, Option.getD_some]) g3 (hX.blk i1 b1 g2)

/-! #### And back -/
/-- The caller's memory behind the call. -/
def backX (X Y : Ctx) (is : List Nat) (N : Nat) (hp0' : List AB) : Ctx :=
  { X with
    φ := fun i => if (X.H i).isSome then X.φ i else Y.φ (is.length + (i - N))
    ca := fun i => if (X.H i).isSome then X.ca i else Y.ca (is.length + (i - N))
    H := fun i => match findI is 0 i with
      | some k => hp0'[k]?.map (reB (siteI is is.length N))
      | none => if (X.H i).isSome then X.H i else if N ≤ i then hp0'[is.length + (i - N)]?.map (reB (siteI is is.length N)) else none
    w := Y.w }

section
variable {X Y : Ctx} {is : List Nat} {N : Nat} {hp0' : List AB} {row : CT}

/-- What is known when the call is done. -/
structure Came (X Y : Ctx) (is : List Nat) (N : Nat) (hp0' : List AB) : Prop where
  hX : HRel X
  hF : Full X is
  nd : nodupB is = true
  le : (small X is).le Y
  hY : HRel Y
  hYH : Y.H = fun i => hp0'[i]?
  loc : ∀ k b, Y.H k = some b → b.wr = true
  fin : hp0'.length ≤ is.length ∨ ∀ i, N ≤ i → i < N + (hp0'.length - is.length) → X.H i = none

theorem Came.at_ (h : Came X Y is N hp0') {k i : Nat} (hk : is[k]? = some i) : (∃ b b', X.H i = some b ∧ b.wr = true ∧ hp0'[k]? = some b' ∧ b'.wr = true) ∧ Y.φ k = X.φ i := by
  obtain ⟨b, b', h1, h2⟩ := h.hF k i hk
  have hs : (small X is).H k = some b' := by simp only [small, hk, Option.bind_some, h1, h2]
  obtain ⟨⟨b2, g1, _⟩, g3⟩ := h.le.loc k b' hs (AB.pt_of (AB.loc_of (unB_loc h2).2))
  have g2 := h.loc k b2 g1
  rw [h.hYH] at g1
  refine ⟨⟨b, b2, h1, (unB_loc h2).1, g1, g2⟩, g3.trans ?_⟩
  simp only [small, List.getD_eq_getElem?_getD, hk, Option.getD_some]
theorem Came.at_ca (h : Came X Y is N hp0') {k i : Nat} (hk : is[k]? = some i) : Y.ca k = X.ca i := by
  obtain ⟨b, b', h1, h2⟩ := h.hF k i hk
  have hs : (small X is).H k = some b' := by simp only [small, hk, Option.bind_some, h1, h2]
  refine (h.le.ca k b' hs (AB.pt_of (AB.loc_of (unB_loc h2).2))).trans ?_
  simp only [small, List.getD_eq_getElem?_getD, hk, Option.getD_some]
theorem Came.len (h : Came X Y is N hp0') : is.length ≤ hp0'.length := by
  rcases Nat.lt_or_ge hp0'.length is.length with hlt | hge
  · obtain ⟨⟨b, b', _, _, h3, _⟩, _⟩ := h.at_ (k := hp0'.length) (i := is[hp0'.length]) (List.getElem?_eq_getElem hlt)
    simp at h3
  · exact hge
theorem Came.site (h : Came X Y is N hp0') {k : Nat} {b : AB} (hb : hp0'[k]? = some b) : (backX X Y is N hp0').H (siteI is is.length N k) = some (reB (siteI is is.length N) b) ∧ (backX X Y is N hp0').φ (siteI is is.length N k) = Y.φ k := by
  by_cases hk : k < is.length
  · have hg : is[k]? = some is[k] := List.getElem?_eq_getElem hk
    have hs : siteI is is.length N k = is[k] := by unfold siteI; rw [hg]
    obtain ⟨⟨b1, _, g1, _⟩, g5⟩ := h.at_ hg
    rw [hs]
    refine ⟨?_, ?_⟩
    · simp only [backX]
      cases hf : findI is 0 is[k] with
      | none => exact absurd hg (findI_none hf k)
      | some n =>
        have e := nodupB_inj h.nd (findI_zero hf) hg
        subst e
        simp only [hb, Option.map_some]
    · simp only [backX, g1, Option.isSome_some, if_true]
      exact g5.symm
  · have hn : is[k]? = none := List.getElem?_eq_none (by omega)
    have hs : siteI is is.length N k = N + (k - is.length) := by unfold siteI; rw [hn]
    have hkl : k < hp0'.length := (List.getElem?_eq_some_iff.1 hb).1
    have hX0 : X.H (N + (k - is.length)) = none := by
      rcases h.fin with g | g
      · omega
      · exact g _ (by omega) (by omega)
    rw [hs]
    refine ⟨?_, ?_⟩
    · simp only [backX]
      cases hf : findI is 0 (N + (k - is.length)) with
      | some n =>
        obtain ⟨⟨b1, _, g1, _⟩, _⟩ := h.at_ (findI_zero hf)
        rw [hX0] at g1; cases g1
      | none =>
        simp only [hX0, Option.isSome_none, Bool.false_eq_true, if_false, if_pos (show N ≤ N + (k - is.length) by omega), Nat.add_sub_cancel_left]
        rw [show is.length + (k - is.length) = k by omega, hb, Option.map_some]
    · simp only [backX, hX0, Option.isSome_none, Bool.false_eq_true, if_false, Nat.add_sub_cancel_left]
      rw [show is.length + (k - is.length) = k by omega]

theorem Came.site_ca (h : Came X Y is N hp0') {k : Nat} {b : AB} (hb : hp0'[k]? = some b) : (backX X Y is N hp0').ca (siteI is is.length N k) = Y.ca k := by
  by_cases hk : k < is.length
  · have hg : is[k]? = some is[k] := List.getElem?_eq_getElem hk
    have hs : siteI is is.length N k = is[k] := by unfold siteI; rw [hg]
    obtain ⟨⟨b1, _, g1, _⟩, g5⟩ := h.at_ hg
    rw [hs]
    simp only [backX, g1, Option.isSome_some, if_true]
    exact (h.at_ca hg).symm
  · have hn : is[k]? = none := List.getElem?_eq_none (by omega)
    have hs : siteI is is.length N k = N + (k - is.length) := by unfold siteI; rw [hn]
    have hkl : k < hp0'.length := (List.getElem?_eq_some_iff.1 hb).1
    have hX0 : X.H (N + (k - is.length)) = none := by
      rcases h.fin with g | g
      · omega
      · exact g _ (by omega) (by omega)
    rw [hs]
    simp only [backX, hX0, Option.isSome_none, Bool.false_eq_true, if_false, Nat.add_sub_cancel_left]
    rw [show is.length + (k - is.length) = k by omega]
/-- A block of the caller's is one that the callee had, or made, or one that it knows nothing of. -/
theorem Came.cases (h : Came X Y is N hp0') {i : Nat} {b : AB} (hb : (backX X Y is N hp0').H i = some b) :
    (∃ k b0, hp0'[k]? = some b0 ∧ i = siteI is is.length N k ∧ b = reB (siteI is is.length N) b0) ∨ (X.H i = some b ∧ ∀ k : Nat, is[k]? ≠ some i) := by
  simp only [backX] at hb
  cases hf : findI is 0 i with
  | some k =>
    rw [hf] at hb
    have hb : hp0'[k]?.map (reB (siteI is is.length N)) = some b := hb
    left
    have hk := findI_zero hf
    obtain ⟨⟨_, b', _, _, h3, _⟩, _⟩ := h.at_ hk
    rw [h3, Option.map_some, Option.some.injEq] at hb
    exact ⟨k, b', h3, by unfold siteI; rw [hk], hb.symm⟩
  | none =>
    rw [hf] at hb
    have hb : (if (X.H i).isSome then X.H i else if N ≤ i then hp0'[is.length + (i - N)]?.map (reB (siteI is is.length N)) else none) = some b := hb
    split at hb
    · right
      exact ⟨hb, findI_none hf⟩
    · split at hb
      · left
        rw [Option.map_eq_some_iff] at hb
        obtain ⟨b0, h1, h2⟩ := hb
        refine ⟨_, b0, h1, ?_, h2.symm⟩
        unfold siteI
        rw [List.getElem?_eq_none (by omega)]
        simp only
        omega
      · cases hb

theorem Came.w0 (h : Came X Y is N hp0') : Y.w0 = X.w := h.le.w0
theorem Came.sz (h : Came X Y is N hp0') : X.w.heap.size ≤ Y.w.heap.size := by have := h.hY.size; rw [h.w0] at this; exact this
theorem Came.other (h : Came X Y is N hp0') {b : Nat} (hb : b < X.w.heap.size) (hn : ∀ i ∈ is, b ≠ X.φ i) : Y.w.heap[b]? = X.w.heap[b]? := by
  have := h.hY.below b (by rw [h.w0]; exact hb) (by rw [h.le.lent]; rintro ⟨i, hi, e⟩; exact hn i hi e)
  rw [h.w0] at this; exact this
/-- What the callee made lies behind all that there was. -/
theorem Came.new (h : Came X Y is N hp0') {k : Nat} {b : AB} (hb : hp0'[k]? = some b) (hk : is.length ≤ k) : X.w.heap.size ≤ Y.φ k := by
  have hYb : Y.H k = some b := by rw [h.hYH]; exact hb
  have hl := h.loc k b hYb
  rcases h.hY.place k b hYb hl with g | g
  · rw [h.w0] at g; exact g
  · rw [h.le.lent] at g
    obtain ⟨i, hi, e⟩ := g
    obtain ⟨n, hn⟩ := List.getElem?_of_mem hi
    obtain ⟨⟨_, b', _, _, h3, h4⟩, h5⟩ := h.at_ hn
    have hnl : n < is.length := (List.getElem?_eq_some_iff.1 hn).1
    exact absurd (e.trans h5.symm) (h.hY.inj k n b b' hYb (by rw [h.hYH]; exact h3) (AB.loc_of hl) (AB.loc_of h4) (by omega))
theorem Came.old (h : Came X Y is N hp0') {i : Nat} {b : AB} (hb : X.H i = some b) : (backX X Y is N hp0').φ i = X.φ i := by
  simp only [backX, hb, Option.isSome_some, if_true]
/-- Where a block of the caller's lies behind the call. -/
theorem Came.phi (h : Came X Y is N hp0') {i : Nat} {b : AB} (hb : (backX X Y is N hp0').H i = some b) (hl : b.loc = true) :
    (∃ b0, X.H i = some b0 ∧ b0.loc = true ∧ (backX X Y is N hp0').φ i = X.φ i) ∨ (∃ k b0, hp0'[k]? = some b0 ∧ is.length ≤ k ∧ i = siteI is is.length N k ∧ (backX X Y is N hp0').φ i = Y.φ k) := by
  rcases h.cases hb with ⟨k, b0, h1, h2, h3⟩ | ⟨h1, h3⟩
  · by_cases hk : k < is.length
    · left
      have hg : is[k]? = some is[k] := List.getElem?_eq_getElem hk
      have hs : siteI is is.length N k = is[k] := by unfold siteI; rw [hg]
      obtain ⟨⟨b1, _, g1, g2, _, _⟩, _⟩ := h.at_ hg
      rw [h2, hs]
      exact ⟨b1, g1, (AB.loc_of g2), (h.old g1)⟩
    · right
      exact ⟨k, b0, h1, by omega, h2, by rw [h2]; exact (h.site h1).2⟩
  · left
    exact ⟨b, h1, hl, (h.old h1)⟩

/-- Where a block of the caller's lies behind the call. -/
theorem Came.phiW (h : Came X Y is N hp0') {i : Nat} {b : AB} (hb : (backX X Y is N hp0').H i = some b) (hl : b.wr = true) :
    (∃ b0, X.H i = some b0 ∧ b0.wr = true ∧ (backX X Y is N hp0').φ i = X.φ i) ∨ (∃ k b0, hp0'[k]? = some b0 ∧ is.length ≤ k ∧ i = siteI is is.length N k ∧ (backX X Y is N hp0').φ i = Y.φ k) := by
  rcases h.cases hb with ⟨k, b0, h1, h2, h3⟩ | ⟨h1, h3⟩
  · by_cases hk : k < is.length
    · left
      have hg : is[k]? = some is[k] := List.getElem?_eq_getElem hk
      have hs : siteI is is.length N k = is[k] := by unfold siteI; rw [hg]
      obtain ⟨⟨b1, _, g1, g2, _, _⟩, _⟩ := h.at_ hg
      rw [h2, hs]
      exact ⟨b1, g1, g2, (h.old g1)⟩
    · right
      exact ⟨k, b0, h1, by omega, h2, by rw [h2]; exact (h.site h1).2⟩
  · left
    exact ⟨b, h1, hl, (h.old h1)⟩

theorem Came.IC (h : Came X Y is N hp0') {a : Addr} {y : Value} (ha : X.IC a y) : (backX X Y is N hp0').IC a y := by
  obtain ⟨q1, q2, q3, q4, q5⟩ := ha
  have hl := holds_lt q3
  have hblk : Y.w.heap[a.block]? = X.w.heap[a.block]? := h.other hl fun i hi e => by
    obtain ⟨n, hn⟩ := List.getElem?_of_mem hi
    obtain ⟨⟨b, _, h1, h2, _, _⟩, _⟩ := h.at_ hn
    exact q4 i b h1 h2 e.symm
  refine ⟨q1, q2, ?_, fun i b hi hb => ?_, q5.1, (frozen_of_block hblk).trans q5.2⟩
  · refine holds_of_block (h.other hl fun i hi e => ?_) q3
    obtain ⟨n, hn⟩ := List.getElem?_of_mem hi
    obtain ⟨⟨b, _, h1, h2, _, _⟩, _⟩ := h.at_ hn
    exact q4 i b h1 h2 e.symm
  · rcases h.phiW hi hb with ⟨b0, h1, h2, h3⟩ | ⟨k, b0, h1, h2, _, h3⟩
    · rw [h3]; exact q4 i b0 h1 h2
    · rw [h3]
      have := h.new h1 h2
      omega
theorem Came.le' (h : Came X Y is N hp0') : X.le (backX X Y is N hp0') := by
  have keep : ∀ i b, X.H i = some b → (∀ k : Nat, is[k]? ≠ some i) → (backX X Y is N hp0').H i = some b := fun i b hb hn => by
    simp only [backX]
    cases hf : findI is 0 i with
    | some k => exact absurd (findI_zero hf) (hn k)
    | none => simp only [hb, Option.isSome_some, if_true]
  have turn : ∀ i b, X.H i = some b → (∀ k : Nat, is[k]? ≠ some i) ∨ ∃ k : Nat, is[k]? = some i := fun i b _ => by
    by_cases hh : ∃ k : Nat, is[k]? = some i
    · exact .inr hh
    · exact .inl fun k hk => hh ⟨k, hk⟩
  refine ⟨fun a y => h.IC, fun i b hi hb => ?_, fun i row r hi => ?_, fun i hi => ?_, fun i b hi hb => by simp only [backX, hi, Option.isSome_some, if_true], fun i t v hi => ?_, rfl, rfl, rfl, h.le.drawn⟩
  · refine ⟨?_, (h.old hi)⟩
    rcases turn i b hi with hn | ⟨k, hk⟩
    · exact ⟨b, keep i b hi hn, hb⟩
    · obtain ⟨⟨_, b', _, _, h3, h4⟩, _⟩ := h.at_ hk
      have := (h.site h3).1
      rw [show siteI is is.length N k = i by unfold siteI; rw [hk]] at this
      exact ⟨_, this, by rw [reB_pt]; exact AB.pt_of (AB.loc_of h4)⟩
  · rcases turn i _ hi with hn | ⟨k, hk⟩
    · exact .inl ⟨r, keep i _ hi hn, rfl⟩
    · have hs : (small X is).H k = some (.arr row r) := by
        simp only [small, hk, Option.bind_some, hi]; rfl
      rcases h.le.arr k row r hs with ⟨l', g1, g2⟩ | g1
      · rw [h.hYH] at g1
        have := (h.site g1).1
        rw [show siteI is is.length N k = i by unfold siteI; rw [hk]] at this
        exact .inl ⟨l', this, g2⟩
      · exact absurd (h.loc k _ g1) (by intro e; cases e)
  · rcases turn i _ hi with hn | ⟨k, hk⟩
    · exact keep i _ hi hn
    · obtain ⟨⟨b, _, h1, h2, _⟩, _⟩ := h.at_ hk
      rw [hi] at h1; injection h1 with h1; subst h1; cases h2
  · rcases turn i _ hi with hn | ⟨k, hk⟩
    · refine ⟨v, keep i _ hi hn, Nat.le_refl _, fun _ => ⟨(h.old hi), fun e p q ⟨t1, t2, c, m0, t3, t4⟩ => ⟨t1, ?_, c, m0, ?_, t4⟩⟩⟩
      · rw [(h.old hi)]; exact t2
      · rw [(h.old hi)]
        refine (h.other (h.hX.ltt i t1) fun j hj e => ?_).trans t3
        obtain ⟨n, hn⟩ := List.getElem?_of_mem hj
        obtain ⟨⟨b, _, h1, h2, _, _⟩, _⟩ := h.at_ hn
        exact h.hX.injm j b i h1 (AB.loc_of h2) t1 e.symm
    · obtain ⟨⟨b, _, h1, h2, _, _⟩, _⟩ := h.at_ hk
      rw [hi] at h1
      injection h1 with h1
      subst h1
      cases h2
theorem Came.bIC (h : Came X Y is N hp0') {a : Addr} {y : Value} (ha : Y.IC a y) : (backX X Y is N hp0').IC a y := by
  obtain ⟨q1, q2, q3, q4, q5⟩ := ha
  rw [h.w0, h.le.lent, h.le.oldeq] at q1
  rcases q1 with q1 | q1 | q1
  · have q1' : X.w.heap.size ≤ a.block := q1
    refine ⟨.inl (Nat.le_trans h.hX.size q1'), q2, q3, fun i b hi hb => ?_, fun e he => ?_, q5.2⟩
    · rcases h.phiW hi hb with ⟨b0, h1, h2, h3⟩ | ⟨k, b0, h1, h2, _, h3⟩
      · rw [h3]
        have := h.hX.ltl i b0 h1 (AB.loc_of h2)
        omega
      · rw [h3]
        have hYb : Y.H k = some b0 := by rw [h.hYH]; exact h1
        exact q4 k b0 hYb (h.loc k b0 hYb)
    · have := h.hX.frlt _ _ he
      omega
  · obtain ⟨i, hi, e⟩ := q1
    obtain ⟨n, hn⟩ := List.getElem?_of_mem hi
    obtain ⟨⟨_, b', _, _, h3, h4⟩, h5⟩ := h.at_ hn
    exact absurd (h5.trans e.symm) (q4 n b' (by rw [h.hYH]; exact h3) h4)
  · exact h.IC q1

theorem Came.site_loc (h : Came X Y is N hp0') {k : Nat} (hk : ∃ b, Y.H k = some b ∧ b.pt = true) : (∃ b, (backX X Y is N hp0').H (siteI is is.length N k) = some b ∧ b.pt = true) ∧ (backX X Y is N hp0').φ (siteI is is.length N k) = Y.φ k := by
  obtain ⟨b, h1, h2⟩ := hk
  rw [h.hYH] at h1
  obtain ⟨g1, g2⟩ := h.site h1
  exact ⟨⟨_, g1, by rw [reB_pt]; exact h2⟩, g2⟩
theorem Came.reC (h : Came X Y is N hp0') (c : AC) {v : Value} (hv : VRc Y c v) : VRc (backX X Y is N hp0') (reC (siteI is is.length N) c) v := by
  have arrs : ∀ {k : Nat} {row : CT} {l : List row.den}, Y.ArrAt k row l → (backX X Y is N hp0').ArrAt (siteI is is.length N k) row l ∧ (backX X Y is N hp0').φ (siteI is is.length N k) = Y.φ k ∧ (backX X Y is N hp0').ca (siteI is is.length N k) = Y.ca k := fun {k row l} hk => by
    rcases hk with hk | hk
    · rw [h.hYH] at hk
      exact ⟨.inl (h.site hk).1, (h.site hk).2, h.site_ca hk⟩
    · exact absurd (h.loc k _ hk) (by intro e; cases e)
  cases c with
  | unk => exact hv
  | int _ _ => exact hv
  | bool _ => exact hv
  | str _ => exact hv
  | nils => exact hv
  | nilz => exact hv
  | nilp => exact hv
  | nilf => exact hv
  | nilm => exact hv
  | sl row l m =>
    obtain ⟨A, n, cap, h1, h2, h3, h4, h5, h6⟩ := hv
    have h5' : n = 0 ∨ ∃ b o, A = some ⟨b, o, none⟩ ∧ ∀ j x, l[j]? = some x → RelT row x (fun k y => (backX X Y is N hp0').IC ⟨b, o + j * row.width + k, none⟩ y) (backX X Y is N hp0').IC :=
      h5.imp id fun ⟨b, o, e, hh⟩ => ⟨b, o, e, fun j x hj => RelT.mono row x (fun _ _ hk => h.bIC hk) (fun _ _ => h.bIC) (hh j x hj)⟩
    cases m with
    | shared => exact ⟨A, n, cap, h1, h2, h3, h4, h5', trivial⟩
    | full => exact ⟨A, n, cap, h1, h2, h3, h4, h5', h6⟩
    | nn => exact ⟨A, n, cap, h1, h2, h3, h4, h5', h6⟩
    | «at» _ _ => exact ⟨A, n, cap, h1, h2, h3, h4, h5', h6⟩
    | own _ _ => exact ⟨A, n, cap, h1, h2, h3, h4, h5', trivial⟩
  | elp row l i off =>
    obtain ⟨hi, b, o, e, hh⟩ := hv
    exact ⟨hi, b, o, e, fun x hx => RelT.mono row x (fun _ _ hk => h.bIC hk) (fun _ _ => h.bIC) (hh x hx)⟩
  | ptr i off =>
    obtain ⟨g1, g2⟩ := h.site_loc hv.1
    exact ⟨g1, by rw [g2]; exact hv.2⟩
  | pti i off n len =>
    obtain ⟨g1, g2⟩ := h.site_loc hv.1
    exact ⟨g1, by rw [g2]; exact hv.2⟩
  | mth f i off =>
    obtain ⟨g1, g2⟩ := h.site_loc hv.1
    exact ⟨g1, by rw [g2]; exact hv.2⟩
  | mref i =>
    obtain ⟨g1, g2⟩ := h.site_loc hv.1
    exact ⟨g1, by rw [g2]; exact hv.2⟩
  | csl i off len cap =>
    obtain ⟨g1, g2⟩ := h.site_loc hv.1
    exact ⟨g1, by rw [g2]; exact hv.2⟩
  | bsl row i off len mn =>
    obtain ⟨l, o, cap, h1, h2, h3⟩ := hv
    exact ⟨l, o, cap, (arrs h1).1, by rw [(arrs h1).2.1]; exact h2, by rw [(arrs h1).2.2]; exact h3⟩
  | asl row i off len cap =>
    obtain ⟨l, h1, h2, h3⟩ := hv
    exact ⟨l, (arrs h1).1, by rw [(arrs h1).2.1]; exact h2, h3⟩
  | ael row i j d =>
    obtain ⟨l, h1, h2, h3⟩ := hv
    exact ⟨l, (arrs h1).1, h2, by rw [(arrs h1).2.1]; exact h3⟩
  | mdl kt vt ka va l =>
    obtain ⟨b, m, y, h1, h2, h3, h4⟩ := hv
    exact ⟨b, m, y, h1, h.bIC h2, h.bIC h3, h4⟩
  | fn f caps =>
    obtain ⟨c, h1, h2, h3⟩ := hv
    refine ⟨c, h1, by simp [h2], fun j p hj => ?_⟩
    rw [List.getElem?_map, Option.map_eq_some_iff] at hj
    obtain ⟨q, hq, rfl⟩ := hj
    obtain ⟨g1, g2⟩ := h3 j q hq
    obtain ⟨k1, k2⟩ := h.site_loc g1
    exact ⟨k1, by rw [k2]; exact g2⟩
theorem PW.mapL {α β γ : Type} {R : α → β → Prop} {S : γ → β → Prop} {f : α → γ} (hf : ∀ c y, R c y → S (f c) y) {cs : List α} {vs : List β} (h : PW R cs vs) : PW S (cs.map f) vs :=
  ⟨by rw [List.length_map]; exact h.1, fun j c y hc hy => by
    rw [List.getElem?_map, Option.map_eq_some_iff] at hc
    obtain ⟨d, hd, rfl⟩ := hc
    exact hf d y (h.2 j d y hd hy)⟩
theorem Came.reP (h : Came X Y is N hp0') (p : Bool × List AC) {v : Value} (hv : VRp Y p v) : VRp (backX X Y is N hp0') (p.1, p.2.map (Go.Eng.reC (siteI is is.length N))) v := by
  obtain ⟨b, cs⟩ := p
  cases b with
  | true =>
    obtain ⟨ar, e, hp⟩ := hv
    exact ⟨ar, e, PW.mapL (fun c y hc => h.reC c hc) hp⟩
  | false =>
    obtain ⟨c, e, hc⟩ := hv
    have e : cs = [c] := e
    subst e
    exact ⟨_, rfl, h.reC c hc⟩
theorem Came.reA (h : Came X Y is N hp0') (a : AV) {v : Value} (hv : VR Y a v) : VR (backX X Y is N hp0') (reA (siteI is is.length N) a) v := by
  cases a with
  | one c => exact h.reC c hv
  | agg cs => exact h.reP (true, cs) hv
  | tup ps =>
    obtain ⟨arr, e, hp⟩ := hv
    exact ⟨arr, e, PW.mapL (fun p y hc => h.reP p hc) hp⟩
  | val y => exact hv
  | alt _ => exact True.intro
  | clo _ _ => exact True.intro
  | gd b g cs =>
    have hU : ∀ {c : AC} {y : Value}, VRc Y c y → VRc (backX X Y is N hp0') (if bareC c then c else .unk) y := fun {c y} hc => by
      split
      · rename_i hb; exact bareC_rel hb hc
      · trivial
    refine ⟨fun i hi => ?_, fun e => ?_, hv.2.2⟩
    · obtain ⟨c, hc, hi⟩ := List.mem_flatMap.1 hi
      obtain ⟨d, hd, rfl⟩ := List.mem_map.1 hc
      cases d <;> simp [bareC, idsC] at hi
    · have hp := hv.2.1 e
      cases g with
      | true =>
        obtain ⟨ar, e1, e2⟩ := hp
        exact ⟨ar, e1, PW.mapL (fun c y hc => hU hc) e2⟩
      | false =>
        obtain ⟨c, e1, e2⟩ := hp
        have e1 : cs = [c] := e1
        subst e1
        exact ⟨_, rfl, hU e2⟩
theorem Came.rel (h : Came X Y is N hp0') : HRel (backX X Y is N hp0') := by
  have hX := h.hX
  have hY := h.hY
  have hle := h.le'
  have YH : ∀ {k : Nat} {b : AB}, hp0'[k]? = some b → Y.H k = some b := fun {k b} hb => by rw [h.hYH]; exact hb
  refine ⟨fun i j b c hi hj hb hc hne => ?_, fun i j hi hj hne => ?_, fun i b j hi hb hj => ?_, fun i b hi hb => ?_, fun i hi => ?_, fun i b hi hb => ?_, fun i hi => ?_, fun i hi => ?_, fun b e hh => Nat.lt_of_lt_of_le (hX.frlt b e hh) h.sz, fun i b hi => ?_, fun k hk hl => ?_, ?_, ?_, ?_, Nat.le_trans hX.size h.sz, fun a y hh => hle.ic a y (hX.old a y hh)⟩
  · rcases h.phi hi hb with ⟨b0, h1, h2, h3⟩ | ⟨k, b0, h1, h2, h4, h3⟩
    · rcases h.phi hj hc with ⟨c0, g1, g2, g3⟩ | ⟨n, c0, g1, g2, g4, g3⟩
      · rw [h3, g3]; exact hX.inj i j b0 c0 h1 g1 h2 g2 hne
      · rw [h3, g3]
        have := hX.ltl i b0 h1 h2
        have := h.new g1 g2
        omega
    · rcases h.phi hj hc with ⟨c0, g1, g2, g3⟩ | ⟨n, c0, g1, g2, g4, g3⟩
      · rw [h3, g3]
        have := hX.ltl j c0 g1 g2
        have := h.new h1 h2
        omega
      · rw [h3, g3]
        refine hY.inj k n b0 c0 (YH h1) (YH g1) (AB.loc_of (h.loc _ _ (YH h1))) (AB.loc_of (h.loc _ _ (YH g1))) fun e => hne ?_
        rw [h4, g4, e]
  · have ei : (backX X Y is N hp0').φ i = X.φ i := by
      cases hh : X.H i with
      | none => exact absurd hh (hX.tlH i hi)
      | some b => exact (h.old hh)
    have ej : (backX X Y is N hp0').φ j = X.φ j := by
      cases hh : X.H j with
      | none => exact absurd hh (hX.tlH j hj)
      | some b => exact (h.old hh)
    rw [ei, ej]; exact hX.injt i j hi hj hne
  · have ej : (backX X Y is N hp0').φ j = X.φ j := by
      cases hh : X.H j with
      | none => exact absurd hh (hX.tlH j hj)
      | some b => exact (h.old hh)
    rw [ej]
    rcases h.phi hi hb with ⟨b0, h1, h2, h3⟩ | ⟨k, b0, h1, h2, h4, h3⟩
    · rw [h3]; exact hX.injm i b0 j h1 h2 hj
    · rw [h3]
      have := hX.ltt j hj
      have := h.new h1 h2
      omega
  · rcases h.phiW hi hb with ⟨b0, h1, h2, h3⟩ | ⟨k, b0, h1, h2, h4, h3⟩
    · rw [h3]; exact hX.place i b0 h1 h2
    · rw [h3]; exact .inl (Nat.le_trans hX.size (h.new h1 h2))
  · have ei : (backX X Y is N hp0').φ i = X.φ i := by
      cases hh : X.H i with
      | none => exact absurd hh (hX.tlH i hi)
      | some b => exact (h.old hh)
    rw [ei]; exact hX.placet i hi
  · rcases h.cases hi with ⟨k, b0, h1, h2, h3⟩ | ⟨h1, _⟩
    · rw [h2, (h.site h1).2]; exact hY.ltl k b0 (YH h1) (AB.loc_of (h.loc _ _ (YH h1)))
    · rw [h.old h1]; exact Nat.lt_of_lt_of_le (hX.lt i b h1 hb) h.sz
  · have ei : (backX X Y is N hp0').φ i = X.φ i := by
      cases hh : X.H i with
      | none => exact absurd hh (hX.tlH i hi)
      | some b => exact (h.old hh)
    rw [ei]; exact Nat.lt_of_lt_of_le (hX.ltt i hi) h.sz
  · intro hn
    cases hh : X.H i with
    | none => exact absurd hh (hX.tlH i hi)
    | some b =>
      simp only [backX] at hn
      cases hf : findI is 0 i with
      | some k =>
        obtain ⟨⟨_, b', _, _, h3, _⟩, _⟩ := h.at_ (findI_zero hf)
        rw [hf] at hn
        have hn : hp0'[k]?.map (reB (siteI is is.length N)) = none := hn
        rw [h3] at hn; cases hn
      | none =>
        rw [hf] at hn
        simp only [hh, Option.isSome_some, if_true] at hn
        cases hn
  · rcases h.cases hi with ⟨k, b0, h1, h2, h3⟩ | ⟨h1, h3⟩
    · subst h2; subst h3
      have hφ := (h.site h1).2
      have hb := hY.blk k b0 (YH h1)
      cases b0 with
      | tok _ _ => trivial
      | dead => trivial
      | bld t c =>
        obtain ⟨p, v, g1, g2, g3⟩ := hb
        refine ⟨p, v, by rw [hφ]; exact g1, by rw [hφ]; exact g2, ?_⟩
        cases c with
        | nils => exact g3
        | ptr j n =>
          obtain ⟨q1, q2⟩ := h.site_loc g3.1
          obtain ⟨b, q3, q4⟩ := g3.1
          rw [h.hYH] at q3
          refine ⟨q1, ?_⟩
          rw [q2, h.site_ca q3]; exact g3.2
        | _ => exact g3.elim
      | buf e s =>
        obtain ⟨cur, g1, g2⟩ := hb
        exact ⟨cur, by rw [hφ]; exact g1, by rw [h.site_ca h1]; exact g2⟩
      | cells cs =>
        obtain ⟨c, t, g1, g2⟩ := hb
        exact ⟨c, t, by rw [hφ]; exact g1, PW.mapL (fun c y hc => h.reC c hc) g2⟩
      | arr row l =>
        obtain ⟨c, t, g1, g2, g3⟩ := hb
        exact ⟨c, t, by rw [hφ]; exact g1, by rw [h.site_ca h1]; exact g2, fun j x hj => RelT.mono row x (fun _ _ hk => hk) (fun _ _ => h.bIC) (g3 j x hj)⟩
      | obj o =>
        show Y.w.heap[(backX X Y is N hp0').φ _]? = some o
        rw [hφ]; exact hb
      | roc cs o =>
        obtain ⟨g0, c, t, g1, g2⟩ := hb
        exact ⟨by rw [hφ]; exact g0, c, t, by rw [hφ]; exact g1, PW.mapL (fun c y hc => h.reC c hc) g2⟩
      | rom kt vt ka va l o =>
        obtain ⟨g0, hf, es, clock, g1, g2, g3⟩ := hb
        refine ⟨by rw [hφ]; exact g0, hf, es, clock, by rw [hφ]; exact g1, g2, g3.1, g3.2.imp fun l' hl' => ⟨hl'.1, fun j p e hp he => ?_⟩⟩
        obtain ⟨q1, us, q2, q3, q4⟩ := hl'.2 j p e hp he
        exact ⟨q1, us, q2, q3, RelT.mono vt p.2 (fun _ _ hk => hk) (fun _ _ => h.bIC) q4⟩
      | iter j n f =>
        obtain ⟨g1, g2⟩ := h.site_loc hb.1
        exact ⟨g1, fun hf => by rw [hφ, g2]; exact hb.2 hf⟩
      | mp kt vt ka va l =>
        obtain ⟨hf, es, clock, g1, g2, g3⟩ := hb
        refine ⟨hf, es, clock, by rw [hφ]; exact g1, g2, g3.1, g3.2.imp fun l' hl' => ⟨hl'.1, fun j p e hp he => ?_⟩⟩
        obtain ⟨q1, us, q2, q3, q4⟩ := hl'.2 j p e hp he
        exact ⟨q1, us, q2, q3, RelT.mono vt p.2 (fun _ _ hk => hk) (fun _ _ => h.bIC) q4⟩
    · cases hm : b.loc with
      | true =>
        refine BRel.mono hle (h.old h1) (hle.ca i b h1 (AB.pt_of hm)) (h.other (hX.ltl i b h1 hm) fun j hj e => ?_) (hX.blk i b h1)
        obtain ⟨n, hn⟩ := List.getElem?_of_mem hj
        obtain ⟨⟨b2, _, g1, g2, _, _⟩, _⟩ := h.at_ hn
        exact hX.inj i j b b2 h1 g1 hm (AB.loc_of g2) (fun e => h3 n (by rw [e]; exact hn)) e
      | false => cases b <;> first | trivial | cases hm
  · have hk' : k < X.w0.heap.size := hk
    refine (h.other (Nat.lt_of_lt_of_le hk' hX.size) fun i hi e => ?_).trans (hX.below k hk hl)
    obtain ⟨n, hn⟩ := List.getElem?_of_mem hi
    obtain ⟨⟨b, _, h1, h2, _, _⟩, _⟩ := h.at_ hn
    rcases hX.place i b h1 h2 with g | g
    · omega
    · exact hl (by rw [e]; exact g)
  · have := hY.os; rw [h.w0] at this; exact this.trans hX.os
  · have := hY.tape; rw [h.w0] at this; exact this.trans hX.tape
  · have := hY.output; rw [h.w0] at this; exact this.trans hX.output
/-- In a caller's memory that is a list. -/
theorem Came.list (h : Came X Y is N hp0') {hp : List AB} (hH : X.H = fun i => hp[i]?) (hN : N = hp.length) : (backX X Y is N hp0').H = fun i => (backHp is hp hp0')[i]? := by
  subst hN
  funext i
  simp only [backX, backHp]
  by_cases hi : i < hp.length
  · have hXi : X.H i = some hp[i] := by rw [hH]; exact List.getElem?_eq_getElem hi
    rw [List.getElem?_append_left (by rw [backL_len]; exact hi), backL_get, List.getElem?_eq_getElem hi, Option.map_some, Nat.zero_add]
    cases hf : findI is 0 i with
    | none => simp only [hXi, Option.isSome_some, if_true]
    | some k =>
      obtain ⟨⟨_, b', _, _, h3, _⟩, _⟩ := h.at_ (findI_zero hf)
      simp only [List.getElem?_map, h3, Option.map_some]
  · have hXi : X.H i = none := by rw [hH]; exact List.getElem?_eq_none (by omega)
    rw [List.getElem?_append_right (by rw [backL_len]; omega), backL_len, List.getElem?_drop, List.getElem?_map]
    cases hf : findI is 0 i with
    | none => simp only [hXi, Option.isSome_none, Bool.false_eq_true, if_false, if_pos (show hp.length ≤ i by omega)]
    | some k =>
      obtain ⟨⟨b1, _, g1, _⟩, _⟩ := h.at_ (findI_zero hf)
      rw [hXi] at g1; cases g1
end

theorem unBs_full {X : Ctx} {hp : List AB} (hH : X.H = fun i => hp[i]?) {is0 : List Nat} : ∀ {is : List Nat} {hp0 : List AB}, unBs is0 hp is = some hp0 → hp0.length = is.length ∧ ∀ (k i : Nat), is[k]? = some i → ∃ b b', X.H i = some b ∧ unB is0 b = some b' ∧ hp0[k]? = some b'
  | [], hp0, h => by simp only [unBs, Option.some.injEq] at h; subst h; exact ⟨rfl, fun k i hk => by simp at hk⟩
  | j :: r, hp0, h => by
    simp only [unBs] at h
    split at h
    · rename_i b hb
      split at h
      · rename_i x l h1 h2
        injection h with h; subst h
        obtain ⟨g1, g2⟩ := unBs_full hH h2
        refine ⟨by simp [g1], fun k i hk => ?_⟩
        cases k with
        | zero =>
          simp only [List.getElem?_cons_zero, Option.some.injEq] at hk
          subst hk
          exact ⟨b, x, by rw [hH]; exact hb, h1, rfl⟩
        | succ k =>
          obtain ⟨b1, b2, e1, e2, e3⟩ := g2 k i (by simpa using hk)
          exact ⟨b1, b2, e1, e2, by simpa using e3⟩
      · cases h
    · cases h

/-- THE FRAME RULE. -/
theorem HeapCall.frame {f : Nat} {args args0 : List AV} {hp hp0 hp0' : List AB} {r0 : AV} (h : HeapCall P f args0 hp0 r0 hp0') (is : List Nat) (ha : unAs is args = some args0) (hb : unBs is hp is = some hp0) (hnd : nodupB is = true) (hl : hp0'.all AB.wr = true) :
    HeapCall P f args hp (reA (siteI is is.length hp.length) r0) (backHp is hp hp0') :=
  ⟨h.1, fun X vs hX hH hv => by
    obtain ⟨g1, g2⟩ := unBs_full hH hb
    have hF : Full X is := fun k i hk => by
      obtain ⟨b, b', e1, e2, _⟩ := g2 k i hk
      exact ⟨b, b', e1, e2⟩
    refine (h.2 (small X is) vs (small_rel hX hF hnd) ?_ (unAs_rel hF ha hv)).mono fun e w' ⟨val, Y, k1, k2, k3, k4, k5, k6⟩ => ?_
    · funext k
      show (is[k]?.bind fun i => (X.H i).bind (unB is)) = hp0[k]?
      cases hk : is[k]? with
      | none =>
        have := List.getElem?_eq_none_iff.1 hk
        rw [List.getElem?_eq_none (by omega)]; rfl
      | some i =>
        obtain ⟨b, b', e1, e2, e3⟩ := g2 k i hk
        rw [Option.bind_some, e1, Option.bind_some, e2, e3]
    · have hc : Came X Y is hp.length hp0' := ⟨hX, hF, hnd, k3, k4, k5, fun k b hk => by
        rw [k5] at hk
        exact List.all_eq_true.1 hl b (List.mem_of_getElem? hk), .inr fun i hi _ => by rw [hH]; exact List.getElem?_eq_none hi⟩
      exact ⟨val, backX X Y is hp.length hp0', k1, k2, hc.le', hc.rel, hc.list hH rfl, hc.reA r0 k6⟩⟩

def frameG (fn : List AV → List AB → List Bool → Option ((AV × List AB) × List Bool × List Bool)) (is : List Nat) (args : List AV) (hp : List AB) (os : List Bool) : Option ((AV × List AB) × List Bool × List Bool) :=
  match unBs is hp is, unAs is args with
  | some hp0, some args0 => match fn args0 hp0 os with
    | some ((r0, hp0'), cs, os') => if nodupB is && hp0'.all AB.wr then some ((reA (siteI is is.length hp.length) r0, backHp is hp hp0'), cs, os') else none
    | none => none
  | _, _ => none
/-- A contract by its own blocks: `sel` names them among the caller's. -/
def frameF (sel : List AV → List AB → List Nat) (fn : List AV → List AB → List Bool → Option ((AV × List AB) × List Bool × List Bool)) : List AV → List AB → List Bool → Option ((AV × List AB) × List Bool × List Bool) := fun args hp os =>
  match fn args hp os with
  | some x => some x
  | none => frameG fn (sel args hp) args hp os
theorem frameF_ok {f : Nat} {sel : List AV → List AB → List Nat} {fn : List AV → List AB → List Bool → Option ((AV × List AB) × List Bool × List Bool)} (ok : ∀ args hp os r hp' cs os', fn args hp os = some ((r, hp'), cs, os') → (∀ c ∈ cs, c = true) → HeapCall P f args hp r hp') :
    ∀ args hp os r hp' cs os', frameF sel fn args hp os = some ((r, hp'), cs, os') → (∀ c ∈ cs, c = true) → HeapCall P f args hp r hp' := fun args hp os r hp' cs os' h hcs => by
  unfold frameF at h
  split at h
  · rename_i x hx
    injection h with h
    subst h
    exact ok _ _ _ _ _ _ _ hx hcs
  · generalize sel args hp = is at h
    unfold frameG at h
    split at h
    · rename_i hp0 args0 h1 h2
      split at h
      · rename_i r0 hp0' cs0 os0 h3
        split at h
        · rename_i h4
          simp only [Option.some.injEq, Prod.mk.injEq] at h
          obtain ⟨⟨rfl, rfl⟩, rfl, rfl⟩ := h
          rw [Bool.and_eq_true] at h4
          exact (ok _ _ _ _ _ _ _ h3 hcs).frame is h2 h1 h4.1 h4.2
        · cases h
      · cases h
    · cases h
def Env.addHF (E : Env P) (f : Nat) (sel : List AV → List AB → List Nat) (fn : List AV → List AB → List Bool → Option ((AV × List AB) × List Bool × List Bool)) (ok : ∀ args hp os r hp' cs os', fn args hp os = some ((r, hp'), cs, os') → (∀ c ∈ cs, c = true) → HeapCall P f args hp r hp') : Env P :=
  E.addH f (frameF sel fn) (frameF_ok ok)

/-! #### The same in regions whose order is drawn -/
/-! #### Calls that look at no block and make some, also in regions whose order is drawn -/
def knF (fn : List AV → List AB → List Bool → Option ((AV × List AB) × List Bool × List Bool)) (mx : Nat) (args : List AV) (nid : Nat) (os : List Bool) : Option (AV × List AB × List Bool × List Bool) :=
  match unAs [] args with
  | some args0 => match fn args0 [] os with
    | some ((r0, hp0'), cs, os') => if hp0'.all AB.wr && Nat.ble hp0'.length mx then some (reA (siteI [] 0 nid) r0, hp0'.map (reB (siteI [] 0 nid)), cs, os') else none
    | none => none
  | none => none
def addKN (kn : KN) (f mx : Nat) (fn : List AV → List AB → List Bool → Option ((AV × List AB) × List Bool × List Bool)) : KN := fun g args nid os =>
  if Nat.beq g f then knF fn mx args nid os else kn g args nid os
theorem ups_new : ∀ (bs : List AB) (n : Nat) (H : Nat → Option AB) (i : Nat), (∀ j, n ≤ j → j < n + bs.length → H j = none) → ups H (newU n bs) i = if (H i).isSome then H i else if n ≤ i then bs[i - n]? else none
  | [], n, H, i, h => by
    show H i = _
    cases hi : H i <;> simp
  | b :: r, n, H, i, h => by
    have h0 : H n = none := h n (Nat.le_refl _) (by simp)
    show ups (upd H n (some b)) (newU (n + 1) r) i = _
    rw [ups_new r (n + 1) (upd H n (some b)) i fun j h1 h2 => by rw [upd_other _ _ (by omega)]; exact h j (by omega) (by simp only [List.length_cons]; omega)]
    by_cases e : i = n
    · subst e
      simp [upd_same, h0]
    · rw [upd_other _ _ e]
      split
      · rfl
      · by_cases hle : n + 1 ≤ i
        · rw [if_pos hle, if_pos (by omega), show i - n = (i - (n + 1)) + 1 by omega, List.getElem?_cons_succ]
        · rw [if_neg hle, if_neg (by omega)]
theorem knF_ok {f mx : Nat} {fn : List AV → List AB → List Bool → Option ((AV × List AB) × List Bool × List Bool)} (ok : ∀ args hp os r hp' cs os', fn args hp os = some ((r, hp'), cs, os') → (∀ c ∈ cs, c = true) → HeapCall P f args hp r hp')
    {args : List AV} {nid : Nat} {os : List Bool} {v : AV} {bs : List AB} {cs os' : List Bool} {X : Ctx} (hX : HRel X) (h : knF fn mx args nid os = some (v, bs, cs, os')) (hcs : ∀ c ∈ cs, c = true) (hfree : ∀ i, nid ≤ i → i < nid + bs.length → X.H i = none)
    {vs : List Value} (hv : PW (VR X) args vs) :
    (∃ fn, P.funcs[f]? = some fn ∧ (fn.name == "runtime.NumGoroutine") = false ∧ fn.body.isNone = false) ∧
    Calls P f vs.toArray X.w fun e w' => ∃ val X', e = .returned val ∧ X'.w = w' ∧ X.le X' ∧ HRel X' ∧ X'.H = ups X.H (newU nid bs) ∧ VR X' v val := by
  unfold knF at h
  split at h
  · rename_i args0 h2
    split at h
    · rename_i r0 hp0' cs0 os0 h3
      split at h
      · rename_i h4
        simp only [Option.some.injEq, Prod.mk.injEq] at h
        obtain ⟨rfl, rfl, rfl, rfl⟩ := h
        simp only [Bool.and_eq_true] at h4
        have hl := h4.1
        have hF : Full X [] := fun k i hk => by simp at hk
        have hc := ok _ _ _ _ _ _ _ h3 hcs
        refine ⟨hc.1, (hc.2 (small X []) vs (small_rel hX hF rfl) ?_ (unAs_rel hF h2 hv)).mono fun e w' ⟨val, Y, k1, k2, k3, k4, k5, k6⟩ => ?_⟩
        · funext k
          show (([] : List Nat)[k]?.bind fun i => (X.H i).bind (unB [])) = ([] : List AB)[k]?
          rfl
        · have hk : Came X Y [] nid hp0' := ⟨hX, hF, rfl, k3, k4, k5, fun k b hk => by
            rw [k5] at hk
            exact List.all_eq_true.1 hl b (List.mem_of_getElem? hk), .inr fun i h1 h2 => hfree i h1 (by simpa using h2)⟩
          refine ⟨val, backX X Y [] nid hp0', k1, k2, hk.le', hk.rel, ?_, hk.reA r0 k6⟩
          funext i
          rw [ups_new _ _ _ _ hfree]
          simp only [backX, findI, List.length_nil, Nat.zero_add, List.getElem?_map]
      · cases h
    · cases h
  · cases h
theorem addKN_ok {kn : KN} (hkn : KNok P kn) {f mx : Nat} {fn : List AV → List AB → List Bool → Option ((AV × List AB) × List Bool × List Bool)} (ok : ∀ args hp os r hp' cs os', fn args hp os = some ((r, hp'), cs, os') → (∀ c ∈ cs, c = true) → HeapCall P f args hp r hp') : KNok P (addKN kn f mx fn) := by
  intro g args nid os v bs cs os' X hX h hcs hfree vs hv
  unfold addKN at h
  split at h
  · rename_i e
    simp only [Nat.beq_eq] at e
    subst e
    exact knF_ok ok hX h hcs hfree hv
  · exact hkn _ _ _ _ _ _ _ _ _ hX h hcs hfree vs hv
/-- A contract of a call that looks at no block and makes at most `mx`, also in regions whose order is drawn. -/
def Env.addHN (E : Env P) (f mx : Nat) (fn : List AV → List AB → List Bool → Option ((AV × List AB) × List Bool × List Bool)) (ok : ∀ args hp os r hp' cs os', fn args hp os = some ((r, hp'), cs, os') → (∀ c ∈ cs, c = true) → HeapCall P f args hp r hp') : Env P :=
  { E.addHF f (fun _ _ => []) fn ok with kn := addKN E.kn f mx fn, nf := fun g => if Nat.beq g f then mx else E.nf g, hkn := addKN_ok E.hkn ok }
/-- Blocks that nothing names any more are let go, and tokens forgotten. -/
theorem cut_heap {f : Nat} {args : List AV} {hp : List AB} {r : AV} {hp' : List AB} (m : Nat) (h : HeapCall P f args hp r hp') (hm : hp.length ≤ m) (hr : ∀ i ∈ idsV r, i < m) (hb : ∀ b ∈ (softs m hp').take m, ∀ i ∈ idsB b, i < m) :
    HeapCall P f args hp r ((softs m hp').take m) :=
  ⟨h.1, fun X vs hX hH hv => (h.2 X vs hX hH hv).mono fun e w' ⟨val, X', h1, h2, h3, h4, h5, h6⟩ => ⟨val, (X'.soft m).cut m, h1, h2,
    cut_le (h3.trans (soft_le X' m)) (fun i hi => by rw [hH]; exact List.getElem?_eq_none (by omega)),
    (h4.soft m).cut fun i b hi hbb j hj => by
      refine hb b ?_ j hj
      obtain ⟨b0, g1, rfl⟩ := soft_H hbb
      rw [h5] at g1
      exact List.mem_of_getElem? (i := i) (by rw [List.getElem?_take, if_pos hi]; simp [softs, g1]),
    by
      funext i
      simp only [Ctx.cut, Ctx.soft, h5, List.getElem?_take, softs, List.getElem?_map],
    VR.cut _ _ hr (VR.mono (soft_le X' m) _ _ h6)⟩⟩
theorem Env.heap_cut (E : Env P) (m : Nat) {f : Nat} {args : List AV} {hp : List AB} {os : List Bool} {r : AV} {hp' hp2 : List AB} {cs : List Bool} (h : E.run f args hp os = some (r, hp', cs)) (hcs : ∀ c ∈ cs, c = true)
    (hm : hp.length ≤ m) (hr : ∀ i ∈ idsV r, i < m) (he : (softs m hp').take m = hp2) (hb : ∀ b ∈ hp2, ∀ i ∈ idsB b, i < m) : HeapCall P f args hp r hp2 := by
  subst he
  exact cut_heap m (E.heap_ok h hcs) hm hr hb
end
end Go.Eng
