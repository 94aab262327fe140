import Derived.Maps.AppendAt
import Derived.Test.YthdgoefjkfafkaaGreatDoorEngE
set_option linter.unusedVariables false
namespace Go.Eng
section
open Go Go.RowKit
variable {P : Program}

/-! ### Two structs, two arrays -/

/-- Two plain one-cell values of a type. -/
def veq1 (P : Program) (t : TypeId) : Value → Value → Option Bool
  | .int k a, .int k' b => match P.underlying t with
    | some (.int _) => if (CT.int k).eqb (.int k') then some (a == b) else none
    | _ => none
  | .bool a, .bool b => match P.underlying t with
    | some .bool => some (a == b)
    | _ => none
  | .string a, .string b => match P.underlying t with
    | some .string => some (a == b)
    | _ => none
  | _, _ => none

theorem veq1_run {t : TypeId} {x y : Value} {b : Bool} (h : veq1 P t x y = some b) (d : Nat) (w : World) : (Op.equalIn (d + 1) t x y).run P w = .ok b w := by
  unfold veq1 at h
  split at h
  · split at h
    · rename_i hu
      split at h
      · rename_i e
        have e' := CT.eq_of_eqb _ _ e
        injection e' with e'
        subst e'
        injection h with h; subst h
        exact run_equalIn_int w d t _ _ _ _ hu
      · cases h
    · cases h
  · split at h
    · rename_i hu
      injection h with h; subst h
      exact run_equalIn_bool' w d t _ _ hu
    · cases h
  · split at h
    · rename_i hu
      injection h with h; subst h
      rw [run_equalIn_string w d t _ _ hu, beq_toListBytes]
    · cases h
  · cases h

def veqF (g : TypeId → List Value → List Value → Option Bool) (P : Program) (xs ys : List Value) : List Field → Option Bool
  | [] => some true
  | f :: fs =>
    if f.name = "_" then none else
    match ty P f.type with
    | some (_, n) =>
      if Nat.ble (f.offset + n) xs.length && Nat.ble (f.offset + n) ys.length then
        match g f.type ((xs.drop f.offset).take n) ((ys.drop f.offset).take n), veqF g P xs ys fs with
        | some a, some b => some (a && b)
        | _, _ => none
      else none
    | none => none

def veqA (g : List Value → List Value → Option Bool) (n : Nat) (xs ys : List Value) : Nat → Nat → Option Bool
  | 0, _ => some true
  | k + 1, i =>
    if Nat.ble (i * n + n) xs.length && Nat.ble (i * n + n) ys.length then
      match g ((xs.drop (i * n)).take n) ((ys.drop (i * n)).take n), veqA g n xs ys k (i + 1) with
      | some a, some b => some (a && b)
      | _, _ => none
    else none

def veq (P : Program) : Nat → TypeId → List Value → List Value → Option Bool
  | 0, _, _, _ => none
  | d + 1, t, xs, ys =>
    match P.underlying t with
    | some (.struct fs) => if P.stoodInHeld t then none else veqF (veq P d) P xs ys fs.toList
    | some (.array len e) => match ty P e with
      | some (_, n) => veqA (veq P d e) n xs ys len 0
      | none => none
    | _ => match ty P t, xs, ys with
      | some (false, 1), [x], [y] => veq1 P t x y
      | _, _, _ => none


theorem run_part {t : TypeId} {ag : Bool} {n : Nat} (ht : ty P t = some (ag, n)) (xs : List Value) (off : Nat) (hn : ag = false → n = 1) (hl : off + n ≤ xs.length) (w : World) :
    (part t xs.toArray off).run P w = .ok (asV ag ((xs.drop off).take n)) w := by
  obtain ⟨h1, h2⟩ := ty_run ht w
  simp only [part, Sem.run_bind, h1, Result.andThen_ok]
  cases ag with
  | true =>
    simp only [if_true, Sem.run_bind, h2, Result.andThen_ok, Sem.run_pure, asV]
    congr 2
    apply Array.ext'
    simp [List.extract_eq_take_drop]
  | false =>
    have := hn rfl
    subst this
    have hlt : off < xs.length := by omega
    simp only [Bool.false_eq_true, if_false, asV]
    have hg : xs.toArray[off]? = some xs[off] := by simp [hlt]
    rw [hg]
    simp only [Sem.run_pure]
    congr 1
    rw [List.drop_eq_getElem_cons hlt]
    rfl

theorem ty_struct {t : TypeId} {fs : Array Field} {ag : Bool} {n : Nat} (hu : P.underlying t = some (.struct fs)) (ht : ty P t = some (ag, n)) : ag = true := by
  unfold ty at ht
  rw [hu] at ht
  cases hi : P.info? t with
  | none => rw [hi] at ht; cases ht
  | some i => rw [hi] at ht; simp only [Option.some.injEq, Prod.mk.injEq] at ht; exact ht.1.symm
theorem ty_array {t e : TypeId} {len : Nat} {ag : Bool} {n : Nat} (hu : P.underlying t = some (.array len e)) (ht : ty P t = some (ag, n)) : ag = true := by
  unfold ty at ht
  rw [hu] at ht
  cases hi : P.info? t with
  | none => rw [hi] at ht; cases ht
  | some i => rw [hi] at ht; simp only [Option.some.injEq, Prod.mk.injEq] at ht; exact ht.1.symm

/-- The loop over an array's elements, as a recursion. -/
def eqElems (d : Nat) (e : TypeId) (n : Nat) (xs ys : Array Value) : List Nat → Sem Bool
  | [] => pure true
  | i :: is => do
    let a ← part e xs (i * n)
    let b ← part e ys (i * n)
    let r ← Op.equalIn d e a b
    if (!r) = true then pure false else eqElems d e n xs ys is

theorem run_equalIn_array (w : World) (d : Nat) (t e : TypeId) (len n : Nat) (xs ys : Array Value) (ht : P.underlying t = some (.array len e)) (hn : ∀ w, (sizeOf e).run P w = .ok n w) :
    (Op.equalIn (d + 1) t (.agg xs) (.agg ys)).run P w = (eqElems d e n xs ys (List.range' 0 len)).run P w := by
  simp only [Op.equalIn, Sem.run_bind, run_underlying ht, Result.andThen_ok, hn, Std.Legacy.Range.forIn_eq_forIn_range', Std.Legacy.Range.size]
  simp only [Nat.sub_zero, Nat.add_one_sub_one, Nat.div_one]
  generalize List.range' 0 len = is
  clear ht
  induction is generalizing w with
  | nil => simp [eqElems]
  | cons i is ih =>
    simp only [List.forIn_cons, eqElems, Sem.run_bind, Sem.run_ite]
    generalize (part e xs (i * n)).run P w = r1
    cases r1 with
    | ok a w1 =>
      simp only [Result.andThen_ok]
      generalize (part e ys (i * n)).run P w1 = r2
      cases r2 with
      | ok b w2 =>
        simp only [Result.andThen_ok]
        generalize (Op.equalIn d e a b).run P w2 = r3
        cases r3 with
        | ok r w3 =>
          cases r
          · simp only [Result.andThen_ok, Bool.not_false, if_true, Sem.run_pure]
          · simp only [Result.andThen_ok, Bool.not_true, Bool.false_eq_true, if_false, Sem.run_pure]
            exact ih w3
        | halt x w3 => simp [Result.andThen]
      | halt x w2 => simp [Result.andThen]
    | halt x w1 => simp [Result.andThen]

theorem veqF_run {g : TypeId → List Value → List Value → Option Bool} {xs ys : List Value} {d : Nat}
    (hg : ∀ t ag n us vs b, ty P t = some (ag, n) → us.length = n → vs.length = n → g t us vs = some b → ∀ w, (Op.equalIn d t (asV ag us) (asV ag vs)).run P w = .ok b w)
    (hone : ∀ t n us vs b, ty P t = some (false, n) → us.length = n → g t us vs = some b → n = 1) :
    ∀ (fs : List Field) (b : Bool), veqF g P xs ys fs = some b → ∀ w, (Op.eqFields d xs.toArray ys.toArray fs).run P w = .ok b w
  | [], b, h, w => by simp only [veqF, Option.some.injEq] at h; subst h; rfl
  | f :: fs, b, h, w => by
    simp only [veqF] at h
    split at h
    · cases h
    · rename_i hname
      split at h
      · rename_i ag n ht
        split at h
        rotate_left
        · cases h
        rename_i hcl
        simp only [Bool.and_eq_true, Nat.ble_eq] at hcl
        obtain ⟨l1, l2⟩ := hcl
        split at h
        · rename_i b1 b2 h1 h2
          injection h with h; subst h
          have hone' : ag = false → n = 1 := fun e => by
            subst e
            exact hone f.type n _ _ b1 ht (by rw [List.length_take, List.length_drop]; omega) h1
          have e1 := run_part (P := P) ht xs f.offset hone' l1 w
          have e2 := run_part (P := P) ht ys f.offset hone' l2 w
          have e3 := hg f.type ag n _ _ b1 ht (by rw [List.length_take, List.length_drop]; omega) (by rw [List.length_take, List.length_drop]; omega) h1 w
          have ih := veqF_run hg hone fs b2 h2 w
          simp only [Op.eqFields, ne_eq, hname, not_false_eq_true, if_true, Sem.run_bind, e1, e2, e3, Result.andThen_ok]
          cases b1 with
          | true => simpa using ih
          | false => simp
        · cases h
      · cases h

theorem veqA_run {e : TypeId} {ag : Bool} {n d : Nat} (ht : ty P e = some (ag, n)) {g : List Value → List Value → Option Bool} {xs ys : List Value}
    (hg : ∀ us vs b, us.length = n → vs.length = n → g us vs = some b → ∀ w, (Op.equalIn d e (asV ag us) (asV ag vs)).run P w = .ok b w)
    (hone : ∀ us vs b, us.length = n → g us vs = some b → ag = false → n = 1) :
    ∀ (k i : Nat) (b : Bool), veqA g n xs ys k i = some b → ∀ w, (eqElems d e n xs.toArray ys.toArray (List.range' i k)).run P w = .ok b w
  | 0, i, b, h, w => by simp only [veqA, Option.some.injEq] at h; subst h; rfl
  | k + 1, i, b, h, w => by
    simp only [veqA] at h
    split at h
    rotate_left
    · cases h
    rename_i hcl
    simp only [Bool.and_eq_true, Nat.ble_eq] at hcl
    obtain ⟨l1, l2⟩ := hcl
    split at h
    · rename_i b1 b2 h1 h2
      injection h with h; subst h
      have hone' : ag = false → n = 1 := hone _ _ b1 (by rw [List.length_take, List.length_drop]; omega) h1
      have e1 := run_part (P := P) ht xs (i * n) hone' l1 w
      have e2 := run_part (P := P) ht ys (i * n) hone' l2 w
      have e3 := hg _ _ b1 (by rw [List.length_take, List.length_drop]; omega) (by rw [List.length_take, List.length_drop]; omega) h1 w
      have ih := veqA_run ht hg hone k (i + 1) b2 h2 w
      simp only [List.range'_succ, eqElems, Sem.run_bind, e1, e2, e3, Result.andThen_ok]
      cases b1 with
      | true => simpa using ih
      | false => simp
    · cases h

theorem veq_one : ∀ (d : Nat) (t : TypeId) (n : Nat) (us vs : List Value) (b : Bool), ty P t = some (false, n) → us.length = n → veq P d t us vs = some b → n = 1
  | 0, t, n, us, vs, b, ht, hl, h => by cases h
  | d + 1, t, n, us, vs, b, ht, hl, h => by
    simp only [veq] at h
    split at h
    · rename_i fs hu; have := ty_struct hu ht; cases this
    · rename_i k e hu; have := ty_array hu ht; cases this
    · split at h
      · rename_i h1; rw [ht] at h1; simp only [Option.some.injEq, Prod.mk.injEq, true_and] at h1; exact h1
      · cases h

theorem veq_run : ∀ (d : Nat) (t : TypeId) (ag : Bool) (n : Nat) (us vs : List Value) (b : Bool), ty P t = some (ag, n) → us.length = n → vs.length = n → veq P d t us vs = some b →
    ∀ w, (Op.equalIn d t (asV ag us) (asV ag vs)).run P w = .ok b w
  | 0, t, ag, n, us, vs, b, ht, _, _, h => by cases h
  | d + 1, t, ag, n, us, vs, b, ht, hu, hv, h => by
    intro w
    simp only [veq] at h
    split at h
    · rename_i fs hd
      split at h
      · cases h
      · rename_i hs
        have hag := ty_struct hd ht
        subst hag
        have hfo : P.fieldsOf t = fs := by simp [Program.fieldsOf, hd]
        simp only [asV, if_true]
        rw [run_equalIn_agg w d t _ _ (by rw [hfo]; exact hd) (by simpa using hs), hfo]
        exact veqF_run (fun t ag n us vs b h1 h2 h3 h4 => veq_run d t ag n us vs b h1 h2 h3 h4) (fun t n us vs b h1 h2 h3 => veq_one d t n us vs b h1 h2 h3) fs.toList b h w
    · rename_i len e hd
      split at h
      · rename_i ag' n' he
        have hag := ty_array hd ht
        subst hag
        simp only [asV, if_true]
        rw [run_equalIn_array w d t e len n' _ _ hd (fun w => (ty_run he w).2)]
        exact veqA_run he (fun us vs b h2 h3 h4 => veq_run d e ag' n' us vs b he h2 h3 h4) (fun us vs b h2 h3 h4 => veq_one d e n' us vs b (by rw [he, h4]) h2 h3) len 0 b h w
      · cases h
    · split at h
      · rename_i x y h4
        rw [ht] at h4
        simp only [Option.some.injEq, Prod.mk.injEq] at h4
        obtain ⟨rfl, rfl⟩ := h4
        exact veq1_run h d w
      · cases h
end
section
open Go Go.RowKit
variable {P : Program}

/-! ### == and != -/

def isPtrT (P : Program) (t : TypeId) : Bool := match P.underlying t with | some (.pointer _) => true | _ => false
def isFnT (P : Program) (t : TypeId) : Bool := match P.underlying t with | some (.func _ _ _) => true | _ => false
def isMapT (P : Program) (t : TypeId) : Bool := match P.underlying t with | some (.map _ _) => true | _ => false
def isSlT (P : Program) (t : TypeId) : Bool := match P.underlying t with | some (.slice _) => true | _ => false

/-- Against nil, of things that can't be compared otherwise. -/
def nilEq (P : Program) (t : TypeId) : AC → AC → Option Bool
  | .nilp, .nilp => if isPtrT P t then some true else none
  | .ptr _ _, .nilp => if isPtrT P t then some false else none
  | .nilp, .ptr _ _ => if isPtrT P t then some false else none
  | .fn _ _, .nilf => if isFnT P t then some false else none
  | .mth _ _ _, .nilf => if isFnT P t then some false else none
  | .nilf, .nilf => if isFnT P t then some true else none
  | .mref _, .nilm => if isMapT P t then some false else none
  | .nilm, .nilm => if isMapT P t then some true else none
  | .nils, .nils => if isSlT P t then some true else none
  | .nilz, .nils => if isSlT P t then some true else none
  | .sl _ _ .nn, .nils => if isSlT P t then some false else none
  | .asl _ _ _ _ _, .nils => if isSlT P t then some false else none
  | .bsl _ _ _ _ _, .nils => if isSlT P t then some false else none
  | .elp _ _ _ _, .nilp => if isPtrT P t then some false else none
  | .csl _ _ _ _, .nils => if isSlT P t then some false else none
  | .sl _ (_ :: _) _, .nils => if isSlT P t then some false else none
  | _, _ => none

theorem equal_ptr {t d : TypeId} (hd : P.underlying t = some (.pointer d)) (b : Option Addr) (w : World) : (Op.equal t (.pointer none) (.pointer b)).run P w = .ok b.isNone w := by
  have h : ∀ k, (Op.equalIn (k + 1) t (.pointer none) (.pointer b)).run P w = _ := fun k => by
    simp only [Op.equalIn, Sem.run_bind, run_underlying hd, Result.andThen_ok]; rfl
  exact h 9999
theorem equal_ptr' {t d : TypeId} (hd : P.underlying t = some (.pointer d)) (a : Addr) (w : World) : (Op.equal t (.pointer (some a)) (.pointer none)).run P w = .ok false w := by
  have h : ∀ k, (Op.equalIn (k + 1) t (.pointer (some a)) (.pointer none)).run P w = _ := fun k => by
    simp only [Op.equalIn, Sem.run_bind, run_underlying hd, Result.andThen_ok]; rfl
  exact h 9999
theorem equal_fn {t : TypeId} {d e : Array TypeId} {v : Bool} (hd : P.underlying t = some (.func d e v)) (f : Fn) (a c : Array Value) (w : World) : (Op.equal t (.func f a c) .nilFunc).run P w = .ok false w := by
  have h : ∀ k, (Op.equalIn (k + 1) t (.func f a c) .nilFunc).run P w = _ := fun k => by
    simp only [Op.equalIn, Sem.run_bind, run_underlying hd, Result.andThen_ok]; rfl
  exact h 9999
theorem equal_fn' {t : TypeId} {d e : Array TypeId} {v : Bool} (hd : P.underlying t = some (.func d e v)) (w : World) : (Op.equal t .nilFunc .nilFunc).run P w = .ok true w := by
  have h : ∀ k, (Op.equalIn (k + 1) t .nilFunc .nilFunc).run P w = _ := fun k => by
    simp only [Op.equalIn, Sem.run_bind, run_underlying hd, Result.andThen_ok]; rfl
  exact h 9999
theorem equal_sl {t d : TypeId} (hd : P.underlying t = some (.slice d)) (w : World) : (Op.equal t (.slice none 0 0) (.slice none 0 0)).run P w = .ok true w := by
  have h : ∀ k, (Op.equalIn (k + 1) t (.slice none 0 0) (.slice none 0 0)).run P w = _ := fun k => by
    simp only [Op.equalIn, Sem.run_bind, run_underlying hd, Result.andThen_ok]; rfl
  exact h 9999

theorem equal_slz {t d : TypeId} (hd : P.underlying t = some (.slice d)) (c : Nat) (w : World) : (Op.equal t (.slice none 0 c) (.slice none 0 0)).run P w = .ok true w := by
  have h : ∀ k, (Op.equalIn (k + 1) t (.slice none 0 c) (.slice none 0 0)).run P w = _ := fun k => by
    simp only [Op.equalIn, Sem.run_bind, run_underlying hd, Result.andThen_ok]; rfl
  exact h 9999

theorem equal_sln {t d : TypeId} (hd : P.underlying t = some (.slice d)) (a : Addr) (n c : Nat) (w : World) : (Op.equal t (.slice (some a) n c) (.slice none 0 0)).run P w = .ok false w := by
  have h : ∀ k, (Op.equalIn (k + 1) t (.slice (some a) n c) (.slice none 0 0)).run P w = _ := fun k => by
    simp only [Op.equalIn, Sem.run_bind, run_underlying hd, Result.andThen_ok]; rfl
  exact h 9999

theorem equal_map {t k e : TypeId} (hd : P.underlying t = some (.map k e)) (b : Nat) (w : World) : (Op.equal t (.map (some b)) (.map none)).run P w = .ok false w := by
  have h : ∀ k, (Op.equalIn (k + 1) t (.map (some b)) (.map none)).run P w = _ := fun k => by
    simp only [Op.equalIn, Sem.run_bind, run_underlying hd, Result.andThen_ok]; rfl
  exact h 9999
theorem equal_map' {t k e : TypeId} (hd : P.underlying t = some (.map k e)) (w : World) : (Op.equal t (.map none) (.map none)).run P w = .ok true w := by
  have h : ∀ k, (Op.equalIn (k + 1) t (.map none) (.map none)).run P w = _ := fun k => by
    simp only [Op.equalIn, Sem.run_bind, run_underlying hd, Result.andThen_ok]; rfl
  exact h 9999
theorem isMapT_of {t : TypeId} (h : isMapT P t = true) : ∃ k e, P.underlying t = some (.map k e) := by
  unfold isMapT at h
  split at h
  · exact ⟨_, _, ‹_›⟩
  · cases h
theorem isPtrT_of {t : TypeId} (h : isPtrT P t = true) : ∃ d, P.underlying t = some (.pointer d) := by
  unfold isPtrT at h
  split at h
  · exact ⟨_, ‹_›⟩
  · cases h
theorem isFnT_of {t : TypeId} (h : isFnT P t = true) : ∃ d e v, P.underlying t = some (.func d e v) := by
  unfold isFnT at h
  split at h
  · exact ⟨_, _, _, ‹_›⟩
  · cases h
theorem isSlT_of {t : TypeId} (h : isSlT P t = true) : ∃ d, P.underlying t = some (.slice d) := by
  unfold isSlT at h
  split at h
  · exact ⟨_, ‹_›⟩
  · cases h

theorem nilEq_run {X : Ctx} {t : TypeId} {a b : AC} {r : Bool} {x y : Value} (h : nilEq P t a b = some r) (ha : VRc X a x) (hb : VRc X b y) (w : World) :
    (Op.equal t x y).run P w = .ok r w ∧ ∀ op e f, (eqGuard op t e f x y) = pure () := by
  unfold nilEq at h
  split at h
  · split at h
    · rename_i hu; injection h with h; subst h; cases ha; cases hb
      obtain ⟨d, hd⟩ := isPtrT_of hu
      exact ⟨equal_ptr hd none w, fun op e f => by cases op <;> rfl⟩
    · cases h
  · split at h
    · rename_i hu; injection h with h; subst h; obtain ⟨_, rfl⟩ := ha; cases hb
      obtain ⟨d, hd⟩ := isPtrT_of hu
      exact ⟨equal_ptr' hd _ w, fun op e f => by cases op <;> rfl⟩
    · cases h
  · split at h
    · rename_i hu; injection h with h; subst h; cases ha; obtain ⟨_, rfl⟩ := hb
      obtain ⟨d, hd⟩ := isPtrT_of hu
      exact ⟨equal_ptr hd _ w, fun op e f => by cases op <;> rfl⟩
    · cases h
  · split at h
    · rename_i hu; injection h with h; subst h; obtain ⟨c, rfl, _⟩ := ha; cases hb
      obtain ⟨d, e, v, hd⟩ := isFnT_of hu
      exact ⟨equal_fn hd _ _ _ w, fun op e f => by cases op <;> rfl⟩
    · cases h
  · split at h
    · rename_i hu; injection h with h; subst h; obtain ⟨_, rfl⟩ := ha; cases hb
      obtain ⟨d, e, v, hd⟩ := isFnT_of hu
      exact ⟨equal_fn hd _ _ _ w, fun op e f => by cases op <;> rfl⟩
    · cases h
  · split at h
    · rename_i hu; injection h with h; subst h; cases ha; cases hb
      obtain ⟨d, e, v, hd⟩ := isFnT_of hu
      exact ⟨equal_fn' hd w, fun op e f => by cases op <;> rfl⟩
    · cases h
  · split at h
    · rename_i hu; injection h with h; subst h; obtain ⟨_, rfl⟩ := ha; cases hb
      obtain ⟨d, e, hd⟩ := isMapT_of hu
      exact ⟨equal_map hd _ w, fun op e f => by cases op <;> rfl⟩
    · cases h
  · split at h
    · rename_i hu; injection h with h; subst h; cases ha; cases hb
      obtain ⟨d, e, hd⟩ := isMapT_of hu
      exact ⟨equal_map' hd w, fun op e f => by cases op <;> rfl⟩
    · cases h
  · split at h
    · rename_i hu; injection h with h; subst h; cases ha; cases hb
      obtain ⟨d, hd⟩ := isSlT_of hu
      exact ⟨equal_sl hd w, fun op e f => by cases op <;> rfl⟩
    · cases h
  · split at h
    · rename_i hu; injection h with h; subst h; cases hb
      obtain ⟨c, rfl⟩ := ha
      obtain ⟨d, hd⟩ := isSlT_of hu
      exact ⟨equal_slz hd c w, fun op e f => by cases op <;> rfl⟩
    · cases h
  · split at h
    · rename_i hu; injection h with h; subst h; cases hb
      obtain ⟨A, n, cap, rfl, _, _, _, _, a', rfl⟩ := ha
      obtain ⟨d, hd⟩ := isSlT_of hu
      exact ⟨equal_sln hd _ _ _ w, fun op e f => by cases op <;> rfl⟩
    · cases h
  · split at h
    · rename_i hu; injection h with h; subst h; cases hb
      obtain ⟨l, _, rfl, _⟩ := ha
      obtain ⟨d, hd⟩ := isSlT_of hu
      exact ⟨equal_sln hd _ _ _ w, fun op e f => by cases op <;> rfl⟩
    · cases h
  · split at h
    · rename_i hu; injection h with h; subst h; cases hb
      obtain ⟨l, o, cap, _, rfl, _⟩ := ha
      obtain ⟨d, hd⟩ := isSlT_of hu
      exact ⟨equal_sln hd _ _ _ w, fun op e f => by cases op <;> rfl⟩
    · cases h
  · split at h
    · rename_i hu; injection h with h; subst h; cases hb
      obtain ⟨_, b, o, rfl, _⟩ := ha
      obtain ⟨d, hd⟩ := isPtrT_of hu
      exact ⟨equal_ptr' hd _ w, fun op e f => by cases op <;> rfl⟩
    · cases h
  · split at h
    · rename_i hu; injection h with h; subst h; cases hb
      obtain ⟨_, rfl, _⟩ := ha
      obtain ⟨d, hd⟩ := isSlT_of hu
      exact ⟨equal_sln hd _ _ _ w, fun op e f => by cases op <;> rfl⟩
    · cases h
  · split at h
    · rename_i hu; injection h with h; subst h; cases hb
      obtain ⟨A, n, cap, rfl, hn, _, _, h5, _⟩ := ha
      obtain ⟨b, o, rfl, _⟩ := h5.resolve_left (by simp at hn; omega)
      obtain ⟨d, hd⟩ := isSlT_of hu
      exact ⟨equal_sln hd _ _ _ w, fun op e f => by cases op <;> rfl⟩
    · cases h
  · cases h

/-- == of two known values. -/
def aeq (P : Program) (t : TypeId) : AV → AV → Option Bool
  | .one a, .one b => nilEq P t a b
  | .agg xs, .agg ys =>
    if P.eqGuardType P.depth t then none else
    match toVs xs, toVs ys, ty P t with
    | some us, some vs, some (true, n) => if us.length == n && vs.length == n then veq P 10000 t us vs else none
    | _, _, _ => none
  | _, _ => none

theorem aeq_run {X : Ctx} {t : TypeId} {a b : AV} {r : Bool} {x y : Value} (h : aeq P t a b = some r) (ha : VR X a x) (hb : VR X b y) (e f : Operand) (w : World) :
    (do eqGuard .eql t e f x y; binOp .eql t x y : Sem Value).run P w = .ok (.bool r) w ∧ (do eqGuard .neq t e f x y; binOp .neq t x y : Sem Value).run P w = .ok (.bool (!r)) w := by
  unfold aeq at h
  split at h
  · rename_i a b
    obtain ⟨h1, h2⟩ := nilEq_run (P := P) h ha hb w
    have b1 : ∀ op, op = .eql ∨ op = .neq → binOp op t x y = (if op = .eql then (do pure (.bool (← Op.equal t x y))) else (do pure (.bool (!(← Op.equal t x y)))) : Sem Value) := by
      intro op hop
      unfold nilEq at h
      rcases hop with rfl | rfl <;>
      · split at h <;> first
          | (cases ha; cases hb; rfl)
          | (obtain ⟨_, rfl⟩ := ha; cases hb; rfl)
          | (cases ha; obtain ⟨_, rfl⟩ := hb; rfl)
          | (obtain ⟨c, rfl, _⟩ := ha; cases hb; rfl)
          | (obtain ⟨A, n, cap, rfl, _⟩ := ha; cases hb; rfl)
          | (obtain ⟨_, rfl⟩ := ha; cases hb; rfl)
          | (obtain ⟨_, b, o, rfl, _⟩ := ha; cases hb; rfl)
          | (obtain ⟨_, _, rfl, _⟩ := ha; cases hb; rfl)
          | (obtain ⟨_, _, _, _, rfl, _⟩ := ha; cases hb; rfl)
          | cases h
    rw [h2, h2, b1 _ (.inl rfl), b1 _ (.inr rfl)]
    constructor
    · simp only [if_true, Sem.run_bind, Sem.run_pure, Result.andThen_ok, h1]
    · simp only [reduceCtorEq, if_false, Sem.run_bind, Sem.run_pure, Result.andThen_ok, h1]
  · rename_i xs ys
    split at h
    · cases h
    · rename_i hg
      split at h
      · rename_i us vs n h1 h2 ht
        split at h
        · rename_i hl
          simp only [Bool.and_eq_true, beq_iff_eq] at hl
          obtain ⟨ax, rfl, px⟩ := ha
          obtain ⟨ay, rfl, py⟩ := hb
          have ex := toVs_rel h1 px
          have ey := toVs_rel h2 py
          have hr := veq_run 10000 t true n us vs r ht hl.1 hl.2 h w
          have ex' : ax = us.toArray := by rw [← ex]
          have ey' : ay = vs.toArray := by rw [← ey]
          subst ex'; subst ey'
          simp only [asV, if_true] at hr
          have hg' : P.eqGuardType P.depth t = false := by simpa using hg
          constructor
          · simp only [Sem.run_bind, run_eqGuard_agg w _ t e f _ _ hg', Result.andThen_ok, run_eql_struct, hr]
          · simp only [Sem.run_bind, run_eqGuard_agg w _ t e f _ _ hg', Result.andThen_ok, run_neq_struct, hr]
        · cases h
      · cases h
  · cases h

/-! ### Parts of values -/

def apart (P : Program) (t : TypeId) (cs : List AC) (off : Nat) : Option AV :=
  match ty P t with
  | some (ag, n) => if ((cs.drop off).take n).length == n then mkAV ag ((cs.drop off).take n) else none
  | none => none

theorem apart_ok {X : Ctx} {t : TypeId} {cs : List AC} {off : Nat} {v : AV} {ar : Array Value} (hp : PW (VRc X) cs ar.toList) (h : apart P t cs off = some v) (w : World) :
    ∃ val, (part t ar off).run P w = .ok val w ∧ VR X v val := by
  unfold apart at h
  split at h
  · rename_i ag n ht
    split at h
    · rename_i hl
      have hl' : ((cs.drop off).take n).length = n := by simpa using hl
      obtain ⟨h1, h2⟩ := ty_run ht w
      have hq : PW (VRc X) ((cs.drop off).take n) ((ar.toList.drop off).take n) := (hp.drop off).take n
      cases ag with
      | true =>
        simp only [mkAV, if_true, Option.some.injEq] at h
        subst h
        refine ⟨.agg (ar.extract off (off + n)), ?_, _, rfl, ?_⟩
        · simp only [part, Sem.run_bind, h1, Result.andThen_ok, if_true, h2, Sem.run_pure]
        · rw [Array.toList_extract, List.extract_eq_take_drop]
          rw [Nat.add_sub_cancel_left]
          exact hq
      | false =>
        simp only [mkAV, Bool.false_eq_true, if_false] at h
        split at h
        · rename_i c hc
          injection h with h; subst h
          rw [hc] at hq
          have e0 : (cs.drop off)[0]? = some c := by
            have := congrArg (fun l => l[0]?) hc
            rw [List.getElem?_take_of_lt (by rw [hc] at hl'; simp at hl'; omega)] at this
            exact this
          rw [List.getElem?_drop] at e0
          obtain ⟨y, hy, hr⟩ := hp.at_ e0
          refine ⟨y, ?_, hr⟩
          simp only [part, Sem.run_bind, h1, Result.andThen_ok, Bool.false_eq_true, if_false]
          have : ar[off]? = some y := by simpa using hy
          rw [this]
          rfl
        · cases h
    · cases h
  · cases h

def afieldV (P : Program) (s : TypeId) (f : Nat) (x : AV) : Option AV :=
  match x, fieldOf P s f with
  | .agg cs, some (d, t) => apart P t cs d
  | _, _ => none

theorem afieldV_ok {X : Ctx} {s : TypeId} {f : Nat} {x v : AV} {xv : Value} (hx : VR X x xv) (h : afieldV P s f x = some v) (w : World) :
    ∃ val, (Instr.field s xv f).run P w = .ok val w ∧ VR X v val := by
  unfold afieldV at h
  split at h
  · rename_i cs d t hf
    obtain ⟨ar, rfl, hp⟩ := hx
    obtain ⟨val, h1, h2⟩ := apart_ok (P := P) hp h w
    refine ⟨val, ?_, h2⟩
    unfold fieldOf at hf
    split at hf
    · rename_i fs hu
      cases hff : fs[f]? with
      | none => rw [hff] at hf; cases hf
      | some y =>
        rw [hff] at hf
        simp only [Option.map_some, Option.some.injEq, Prod.mk.injEq] at hf
        obtain ⟨rfl, rfl⟩ := hf
        simp only [Instr.field, Sem.run_bind, run_underlying hu, Result.andThen_ok, hff, asAgg, Sem.run_pure]
        exact h1
    · cases hf
  · cases h

def aextract (x : AV) (i : Nat) : Option AV :=
  match x with
  | .tup vs => match vs[i]? with
    | some (true, cs) => some (.agg cs)
    | some (false, [c]) => some (.one c)
    | _ => none
  | _ => none

theorem aextract_ok {X : Ctx} {x v : AV} {xv : Value} {i : Nat} (hx : VR X x xv) (h : aextract x i = some v) (w : World) :
    ∃ val, (Instr.extract xv i).run P w = .ok val w ∧ VR X v val := by
  unfold aextract at h
  split at h
  · rename_i vs
    obtain ⟨arr, rfl, hp⟩ := hx
    split at h
    · rename_i cs hi
      injection h with h; subst h
      obtain ⟨y, hy, hr⟩ := hp.at_ hi
      have hy' : arr[i]? = some y := by simpa using hy
      exact ⟨y, by simp only [Instr.extract, hy']; rfl, hr⟩
    · rename_i c hi
      injection h with h; subst h
      obtain ⟨y, hy, c', hc, hr⟩ := hp.at_ hi
      have hy' : arr[i]? = some y := by simpa using hy
      simp only [List.cons.injEq, and_true] at hc
      subst hc
      exact ⟨y, by simp only [Instr.extract, hy']; rfl, hr⟩
    · cases h
  · cases h

/-! ### Building -/

/-- Parts laid over cells. -/
def afill (place : Nat → Option (Nat × Nat)) (cells : List AC) : List (Nat × List AC) → Option (List AC)
  | [] => some cells
  | (i, vs) :: rest =>
    match place i with
    | none => none
    | some (off, size) =>
      if vs.length == size && Nat.ble (off + size) cells.length then afill place (cells.take off ++ (vs ++ cells.drop (off + size))) rest else none

theorem foldl_set (vs : List Value) : ∀ (off k : Nat) (cells : Array Value), off + k + vs.length ≤ cells.size →
    ((vs.zipIdx k).foldl (fun cs (p : Value × Nat) => cs.setIfInBounds (off + p.2) p.1) cells).toList = cells.toList.take (off + k) ++ (vs ++ cells.toList.drop (off + k + vs.length)) := by
  induction vs with
  | nil => intro off k cells h; simp
  | cons v vs ih =>
    intro off k cells h
    simp only [List.length_cons] at h
    simp only [List.zipIdx_cons, List.foldl_cons]
    rw [ih off (k + 1) (cells.setIfInBounds (off + k) v) (by simp; omega)]
    have hlt : off + k < cells.toList.length := by rw [Array.length_toList]; omega
    rw [Array.toList_setIfInBounds]
    rw [show off + (k + 1) = off + k + 1 from by omega]
    have e1 : (cells.toList.set (off + k) v).take (off + k + 1) = cells.toList.take (off + k) ++ [v] := by
      rw [List.take_succ_eq_append_getElem (by rw [List.length_set]; exact hlt), List.take_set_of_le (Nat.le_refl _)]
      simp
    rw [e1, List.drop_set_of_lt (by omega)]
    simp only [List.length_cons, List.append_assoc, List.cons_append, List.nil_append]
    rw [show off + k + 1 + vs.length = off + k + (vs.length + 1) from by omega]

theorem afill_ok {X : Ctx} {place : Nat → Option (Nat × Nat)} : ∀ (parts : List (Nat × List AC)) (vals : List (Nat × Value)) (cells : List AC) (cv : Array Value) (out : List AC),
    PW (fun (p : Nat × List AC) (q : Nat × Value) => p.1 = q.1 ∧ PW (VRc X) p.2 q.2.cells.toList) parts vals → PW (VRc X) cells cv.toList → afill place cells parts = some out →
    ∃ ov : Array Value, Instr.fill place cv vals = some ov ∧ PW (VRc X) out ov.toList
  | [], vals, cells, cvl, out, hp, hc, h => by
    have : vals = [] := List.eq_nil_of_length_eq_zero hp.1.symm
    subst this
    simp only [afill, Option.some.injEq] at h
    subst h
    exact ⟨cvl, rfl, hc⟩
  | (i, vs) :: rest, vals, cells, cvl, out, hp, hc, h => by
    cases vals with
    | nil => exact absurd hp.1 (by simp)
    | cons q vals =>
      obtain ⟨j, v⟩ := q
      obtain ⟨e, hv⟩ := hp.2 0 (i, vs) (j, v) rfl rfl
      simp only at e hv
      subst e
      have hrest : PW (fun (p : Nat × List AC) (q : Nat × Value) => p.1 = q.1 ∧ PW (VRc X) p.2 q.2.cells.toList) rest vals :=
        ⟨by simpa using hp.1, fun k d z hd hz => hp.2 (k + 1) d z (by simpa using hd) (by simpa using hz)⟩
      simp only [afill] at h
      split at h
      · cases h
      · rename_i off size hpl
        split at h
        · rename_i hcond
          simp only [Bool.and_eq_true, beq_iff_eq, Nat.ble_eq] at hcond
          obtain ⟨h1, h2⟩ := hcond
          have hvl : v.cells.size = size := by rw [← Array.length_toList, ← hv.1]; exact h1
          have hcl : cvl.size = cells.length := by rw [← Array.length_toList]; exact hc.1.symm
          have hfold := foldl_set v.cells.toList off 0 cvl (by rw [Array.length_toList]; omega)
          have hn : PW (VRc X) (cells.take off ++ (vs ++ cells.drop (off + size))) ((v.cells.zipIdx.foldl (fun cs (c, j) => cs.setIfInBounds (off + j) c) cvl)).toList := by
            have e2 : (v.cells.zipIdx.foldl (fun cs (c, j) => cs.setIfInBounds (off + j) c) cvl) = ((v.cells.toList.zipIdx 0).foldl (fun cs (p : Value × Nat) => cs.setIfInBounds (off + p.2) p.1) cvl) := by
              rw [← Array.foldl_toList, Array.toList_zipIdx]
            rw [e2, hfold, Nat.add_zero, Array.length_toList, hvl]
            exact (hc.take off).append (hv.append (hc.drop (off + size)))
          obtain ⟨ov, g1, g2⟩ := afill_ok rest vals _ _ out hrest hn h
          refine ⟨ov, ?_, g2⟩
          simp only [Instr.fill, hpl]
          rw [if_neg (by simp; omega)]
          exact g1
        · cases h
end
section
open Go Go.RowKit
variable {P : Program}

/-- Where the fields of a struct lie, and how many cells each has. -/
def placesOf (P : Program) : List Field → Option (List (Nat × Nat))
  | [] => some []
  | f :: fs => match P.info? f.type, placesOf P fs with
    | some i, some r => some ((f.offset, i.size) :: r)
    | _, _ => none

theorem placesOf_run : ∀ (fs : List Field) (l : List (Nat × Nat)), placesOf P fs = some l → ∀ w, (fs.mapM fun f => do pure (f.offset, ← sizeOf f.type) : Sem (List (Nat × Nat))).run P w = .ok l w
  | [], l, h, w => by simp only [placesOf, Option.some.injEq] at h; subst h; simp
  | f :: fs, l, h, w => by
    simp only [placesOf] at h
    split at h
    · rename_i i r hi hr
      injection h with h; subst h
      have ih := placesOf_run fs r hr w
      simp only [List.mapM_cons, Sem.run_bind, run_size hi, Result.andThen_ok, Sem.run_pure, ih]
    · cases h

def abuild (P : Program) (t : TypeId) (parts : List (Nat × List AC)) : Option AV :=
  match azero P t, P.underlying t with
  | some zs, some (.struct fs) => match placesOf P fs.toList with
    | some l => (afill (fun i => l[i]?) zs parts).map .agg
    | none => none
  | some zs, some (.array _ e) => match P.info? e with
    | some i => (afill (fun k => some (k * i.size, i.size)) zs parts).map .agg
    | none => none
  | _, _ => none

/-- Parts and the values that they are of. -/
def PartsRel (X : Ctx) (parts : List (Nat × List AC)) (vals : List (Nat × Value)) : Prop :=
  PW (fun (p : Nat × List AC) (q : Nat × Value) => p.1 = q.1 ∧ PW (VRc X) p.2 q.2.cells.toList) parts vals

theorem abuild_ok {X : Ctx} {t : TypeId} {parts : List (Nat × List AC)} {vals : Array (Nat × Value)} {v : AV} (hp : PartsRel X parts vals.toList) (h : abuild P t parts = some v) (w : World) :
    ∃ val, (Instr.build t vals).run P w = .ok val w ∧ VR X v val := by
  unfold abuild at h
  split at h
  · rename_i zs fs hz hu
    obtain ⟨z, hzr, hzp⟩ := azero_rel (X := X) hz
    split at h
    · rename_i l hl
      cases hf : afill (fun i => l[i]?) zs parts with
      | none => rw [hf] at h; cases h
      | some out =>
        rw [hf] at h
        simp only [Option.map_some, Option.some.injEq] at h
        subst h
        obtain ⟨ov, g1, g2⟩ := afill_ok parts vals.toList zs z.cells out hp hzp hf
        refine ⟨.agg ov, ?_, ov, rfl, g2⟩
        have hm := placesOf_run fs.toList l hl w
        simp only [Instr.build, Sem.run_bind, hzr, Result.andThen_ok, run_underlying hu, Array.mapM_eq_mapM_toList, Sem.run_map] at hm ⊢
        simp only [hm, Result.andThen_ok]
        have e1 : (fun (i : Nat) => (l.toArray)[i]?) = fun (i : Nat) => l[i]? := by funext i; simp
        rw [e1, g1]
        rfl
    · cases h
  · rename_i zs n e hz hu
    obtain ⟨z, hzr, hzp⟩ := azero_rel (X := X) hz
    split at h
    · rename_i i hi
      cases hf : afill (fun k => some (k * i.size, i.size)) zs parts with
      | none => rw [hf] at h; cases h
      | some out =>
        rw [hf] at h
        simp only [Option.map_some, Option.some.injEq] at h
        subst h
        obtain ⟨ov, g1, g2⟩ := afill_ok parts vals.toList zs z.cells out hp hzp hf
        refine ⟨.agg ov, ?_, ov, rfl, g2⟩
        simp only [Instr.build, Sem.run_bind, hzr, Result.andThen_ok, run_underlying hu, run_size hi, g1]
        rfl
    · cases h
  · cases h

/-! ### A slice written out -/

/-- Cells, as so many rows' values. -/
def CT.uns (t : CT) : Nat → List AC → Option (List t.den × List AC)
  | 0, cs => some ([], cs)
  | n + 1, cs => match t.un cs with
    | some (x, r) => match CT.uns t n r with
      | some (l, r') => some (x :: l, r')
      | none => none
    | none => none

theorem CT.uns_rel {X : Ctx} (t : CT) : ∀ (n : Nat) (cs : List AC) (l : List t.den) (r : List AC) (vs : List Value), t.uns n cs = some (l, r) → PW (VRc X) cs vs →
    l.length = n ∧ cs.length = n * t.width + r.length ∧ ∀ (j : Nat) x, l[j]? = some x → RelT t x (fun k y => vs[j * t.width + k]? = some y) X.IC
  | 0, cs, l, r, vs, h, hp => by
    simp only [CT.uns, Option.some.injEq, Prod.mk.injEq] at h
    obtain ⟨rfl, rfl⟩ := h
    exact ⟨rfl, by simp, fun j x hj => by simp at hj⟩
  | n + 1, cs, l, r, vs, h, hp => by
    simp only [CT.uns] at h
    split at h
    · rename_i x r1 h1
      split at h
      · rename_i l2 r2 h2
        simp only [Option.some.injEq, Prod.mk.injEq] at h
        obtain ⟨rfl, rfl⟩ := h
        obtain ⟨a1, a2, a3⟩ := CT.un_rel t cs x r1 vs h1 hp
        obtain ⟨b1, b2, b3⟩ := CT.uns_rel t n r1 l2 r2 _ h2 a2
        refine ⟨by simp [b1], by rw [a1, b2, Nat.add_mul]; omega, fun j y hj => ?_⟩
        cases j with
        | zero =>
          simp only [List.getElem?_cons_zero, Option.some.injEq] at hj
          subst hj
          simpa using a3
        | succ j =>
          simp only [List.getElem?_cons_succ] at hj
          refine RelT.mono t y (fun k z hz => ?_) (fun _ _ hh => hh) (b3 j y hj)
          rw [List.getElem?_drop] at hz
          rw [Nat.add_mul, Nat.one_mul]
          rwa [show j * t.width + t.width + k = t.width + (j * t.width + k) from by omega]
      · cases h
    · cases h

/-- The zero cells of n elements. -/
def zrep (zs : List AC) : Nat → List AC
  | 0 => []
  | n + 1 => zs ++ zrep zs n

theorem zrep_get (zs : List AC) : ∀ (n k : Nat), k < n * zs.length → (zrep zs n)[k]? = zs[k % zs.length]?
  | 0, k, h => by omega
  | n + 1, k, h => by
    rw [zrep]
    by_cases e : k < zs.length
    · rw [List.getElem?_append_left e, Nat.mod_eq_of_lt e]
    · rw [List.getElem?_append_right (by omega), zrep_get zs n _ (by rw [Nat.add_mul] at h; omega)]
      congr 1
      rw [← Nat.mod_eq_sub_mod (by omega)]

theorem zrep_len (zs : List AC) : ∀ n, (zrep zs n).length = n * zs.length
  | 0 => by simp [zrep]
  | n + 1 => by rw [zrep, List.length_append, zrep_len zs n, Nat.add_mul]; omega

/-- Is the type one of rows? -/
def isRow (P : Program) (t : TypeId) : Bool := match P.underlying t with
  | some (.struct _) => true
  | some (.array _ _) => true
  | _ => false
/-- A row's type that a type's cells are of; none of this is asked to be so but for the width. -/
def rowOf (P : Program) : Nat → TypeId → Option CT
  | 0, _ => none
  | d + 1, t => match P.underlying t with
    | some (.int k) => some (.int k)
    | some .bool => some .bool
    | some .string => some .str
    | some (.slice e) => (rowOf P d e).map .sl
    | some (.struct fs) => fs.toList.foldr (fun f r => match rowOf P d f.type, r with | some a, some b => some (.pair a b) | _, _ => none) (some .unit)
    | some (.array n e) => (List.range n).foldr (fun _ r => match rowOf P d e, r with | some a, some b => some (.pair a b) | _, _ => none) (some .unit)
    | some (.pointer s) => match P.underlying s with
      | some (.struct fs) => match fs.toList with
        | [f] => match P.underlying f.type with
          | some (.map k v) => match rowOf P d k, rowOf P d v with
            | some kt, some vt => if kt.flat && vt.flat then some (.mdl kt vt (isRow P k) (isRow P v)) else none
            | _, _ => none
          | _ => none
        | _ => none
      | _ => none
    | _ => none

def abuildSlice (P : Program) (t : TypeId) (len : Nat) (parts : List (Nat × List AC)) : Option AV :=
  match P.underlying t with
  | some (.slice e) => match P.info? e, azero P e, rowOf P 12 e with
    | some i, some zs, some row =>
      if Nat.beq row.width i.size && Nat.beq zs.length i.size && Nat.blt 0 i.size && Nat.ble (len * i.size) 16777216 then
        match afill (fun k => some (k * i.size, i.size)) (zrep zs len) parts with
        | some cs => match row.uns len cs with
          | some (l, []) => some (.one (.sl row l .full))
          | _ => none
        | none => none
      else none
    | _, _, _ => none
  | _ => none

/-- New memory of whatever make, of which the engine keeps no block. -/
theorem quiet_alloc {X : Ctx} (hX : HRel X) (o : Obj) : X.le (X.withW (X.w.alloc o)) ∧ HRel (X.withW (X.w.alloc o)) := by
  have hb : Below X.w.heap.size X.w (X.w.alloc o) := (Below.refl _ _).alloc (Nat.le_refl _) o
  exact ⟨withW_le hX hb (Nat.le_refl _), hX.withW hb (Nat.le_refl _)⟩

/-- The cells of a block that is new, and no own one, are promised. -/
theorem IC_new {X : Ctx} (hX : HRel X) (c : Array Value) (t : TypeId) (j : Nat) (y : Value) (h : c[j]? = some y) : (X.withW (X.w.alloc (.cells c t))).IC ⟨X.w.heap.size, j, none⟩ y := by
  refine ⟨.inl hX.size, rfl, ?_, ?_, ?_, frozen_off (w := X.w.alloc (.cells c t)) (heap_alloc_new X.w _) (.inl rfl) (Array.getElem?_eq_some_iff.1 h).1⟩
  · show (X.w.alloc (.cells c t)).cell? ⟨X.w.heap.size, j, none⟩ = some y
    rw [cell_of_row _ _ _ c t (0, 0) (heap_alloc_new X.w _)]
    exact h
  · intro i b hi hb
    exact Nat.ne_of_lt (hX.ltl i b hi (AB.loc_of hb))
  · intro e he
    exact absurd (hX.frlt _ e he) (Nat.lt_irrefl _)

theorem abuildSlice_ok {X : Ctx} (hX : HRel X) {t : TypeId} {len : Nat} {parts : List (Nat × List AC)} {vals : Array (Nat × Value)} {v : AV} (hp : PartsRel X parts vals.toList)
    (h : abuildSlice P t len parts = some v) :
    ∃ val o, (Instr.buildSlice t len vals).run P X.w = .ok val (X.w.alloc o) ∧ VR (X.withW (X.w.alloc o)) v val := by
  unfold abuildSlice at h
  split at h
  · rename_i e hu
    split at h
    · rename_i i zs row hi hz hrow
      split at h
      · rename_i hcond
        simp only [Bool.and_eq_true, Nat.beq_eq, Nat.blt_eq, Nat.ble_eq] at hcond
        obtain ⟨⟨⟨hw, hzl⟩, hpos⟩, hsz⟩ := hcond
        split at h
        · rename_i cs hf
          split at h
          · rename_i l hl
            injection h with h; subst h
            obtain ⟨z, hzr, hzp⟩ := azero_rel (X := X) hz
            have hzs : z.cells.size = i.size := by rw [← Array.length_toList, ← hzp.1]; exact hzl
            have hzero : PW (VRc X) (zrep zs len) ((Array.range (len * i.size)).map (z.cells[· % z.cells.size]!)).toList := by
              refine ⟨by rw [zrep_len, hzl]; simp, fun j c y hc hy => ?_⟩
              have hj : j < len * zs.length := by
                have := (List.getElem?_eq_some_iff.1 hc).1
                rwa [zrep_len] at this
              rw [zrep_get zs len j hj] at hc
              have hj' : j < len * i.size := by rw [← hzl]; exact hj
              have hm : j % i.size < z.cells.size := by rw [hzs]; exact Nat.mod_lt _ hpos
              simp only [Array.toList_map, Array.toList_range, List.getElem?_map, List.getElem?_range hj', Option.map_some, Option.some.injEq, hzs] at hy
              subst hy
              rw [hzl] at hc
              refine hzp.2 (j % i.size) c _ hc ?_
              rw [Array.getElem?_toList, getElem!_pos z.cells _ hm, Array.getElem?_eq_getElem hm]
            obtain ⟨ov, g1, g2⟩ := afill_ok parts vals.toList (zrep zs len) _ cs hp hzero hf
            obtain ⟨u1, u2, u3⟩ := CT.uns_rel row len cs l [] ov.toList hl g2
            refine ⟨.slice (some ⟨X.w.heap.size, 0, none⟩) len len, .cells ov e, ?_, some ⟨X.w.heap.size, 0, none⟩, len, len, rfl, u1.symm, Nat.le_refl _, ?_, .inr ⟨X.w.heap.size, 0, rfl, fun j x hj => ?_⟩, rfl⟩
            · have hnz : len * i.size = 0 ∨ len * i.size ≠ 0 := by omega
              simp only [Instr.buildSlice, Sem.run_bind, run_underlying hu, Result.andThen_ok, run_size hi]
              rw [if_neg (by omega)]
              rcases hnz with hz0 | hz0
              · have hl0 : len = 0 := by
                  rcases Nat.mul_eq_zero.1 hz0 with h | h
                  · exact h
                  · omega
                subst hl0
                rw [if_pos hz0]
                simp only [Sem.run_bind, Sem.run_pure, Result.andThen_ok]
                have e0 : ((Array.range (0 * i.size)).map (fun x => (#[] : Array Value)[x % (#[] : Array Value).size]!)) = ((Array.range (0 * i.size)).map (z.cells[· % z.cells.size]!)) := by simp
                rw [e0, g1]
                simp only [Sem.run_bind, newRow, run_newObj, Result.andThen_ok, Sem.run_pure, World.alloc_eq]
              · rw [if_neg hz0]
                simp only [Sem.run_bind, hzr, Result.andThen_ok, Sem.run_pure]
                rw [g1]
                simp only [Sem.run_bind, newRow, run_newObj, Result.andThen_ok, Sem.run_pure, World.alloc_eq]
            · have : len ≤ len * i.size := Nat.le_mul_of_pos_right _ hpos
              simp only [maxLen]; omega
            · refine RelT.mono row x (fun k y hy => ?_) (quiet_alloc hX (.cells ov e)).1.ic (u3 j x hj)
              rw [Nat.zero_add]
              exact IC_new hX ov e _ y (by simpa using hy)
          · cases h
        · cases h
      · cases h
    · cases h
  · cases h
end
section
open Go Go.RowKit
variable {P : Program}

theorem RelT.mono_lt : ∀ (t : CT) (v : t.den) {C C' : Nat → Value → Prop} {IC IC' : Addr → Value → Prop},
    (∀ k y, k < t.width → C k y → C' k y) → (∀ a y, IC a y → IC' a y) → RelT t v C IC → RelT t v C' IC'
  | .int _, _, _, _, _, _, hC, _, h => hC _ _ Nat.one_pos h
  | .bool, _, _, _, _, _, hC, _, h => hC _ _ Nat.one_pos h
  | .str, _, _, _, _, _, hC, _, h => hC _ _ Nat.one_pos h
  | .sl row, l, _, _, _, _, hC, hI, ⟨A, n, cap, h1, h2, h3, h4, h5⟩ =>
    ⟨A, n, cap, hC _ _ Nat.one_pos h1, h2, h3, h4, h5.imp id fun ⟨b, o, e, h⟩ => ⟨b, o, e, fun j x hj => RelT.mono row x (fun _ _ hk => hI _ _ hk) hI (h j x hj)⟩⟩
  | .unit, _, _, _, _, _, _, _, _ => trivial
  | .pair c cs, v, _, _, _, _, hC, hI, h =>
    ⟨RelT.mono_lt c v.1 (fun k y hk hh => hC k y (by simp only [CT.width]; omega) hh) hI h.1,
     RelT.mono_lt cs v.2 (fun k y hk hh => hC _ y (by simp only [CT.width]; omega) hh) hI h.2⟩
  | .mdl kt vt ka va, l, _, _, _, _, hC, hI, ⟨b, m, y, h1, h2, h3, h4⟩ => ⟨b, m, y, hC _ _ Nat.one_pos h1, hI _ _ h2, hI _ _ h3, h4⟩

theorem CT.cells_known : ∀ (t : CT) (v : t.den) (k : Nat) c, (t.cells v)[k]? = some c → c.known = true
  | .int kk, n, k, c, hc => by
    cases k with
    | zero => simp [CT.cells] at hc; subst hc; rfl
    | succ k => simp [CT.cells] at hc
  | .bool, n, k, c, hc => by
    cases k with
    | zero => simp [CT.cells] at hc; subst hc; rfl
    | succ k => simp [CT.cells] at hc
  | .str, n, k, c, hc => by
    cases k with
    | zero => simp [CT.cells] at hc; subst hc; rfl
    | succ k => simp [CT.cells] at hc
  | .sl row, l, k, c, hc => by
    cases k with
    | zero => simp [CT.cells] at hc; subst hc; rfl
    | succ k => simp [CT.cells] at hc
  | .mdl _ _ _ _, l, k, c, hc => by
    cases k with
    | zero => simp [CT.cells] at hc; subst hc; rfl
    | succ k => simp [CT.cells] at hc
  | .unit, _, k, c, hc => by simp [CT.cells] at hc
  | .pair a b, v, k, c, hc => by
    rw [CT.cells] at hc
    by_cases e : k < a.width
    · rw [List.getElem?_append_left (by rw [CT.cells_length]; exact e)] at hc
      exact CT.cells_known a v.1 k c hc
    · rw [List.getElem?_append_right (by rw [CT.cells_length]; omega), CT.cells_length] at hc
      exact CT.cells_known b v.2 _ c hc

/-- The values that lie where a promised list lies. -/
theorem row_vals {X : Ctx} {row : CT} {l : List row.den} {b o : Nat} (h : ∀ (j : Nat) x, l[j]? = some x → RelT row x (fun k y => X.IC ⟨b, o + j * row.width + k, none⟩ y) X.IC) :
    ∃ vs : List Value, vs.length = l.length * row.width ∧ (∀ (k : Nat) u, vs[k]? = some u → X.IC ⟨b, o + k, none⟩ u) ∧
      (∀ (j : Nat) x, l[j]? = some x → RelT row x (fun k y => vs[j * row.width + k]? = some y) X.IC) ∧ ∀ u ∈ vs, u.oneCell' = true := by
  have cellAt : ∀ k, k < l.length * row.width → ∃ y, X.IC ⟨b, o + k, none⟩ y ∧ y.oneCell' = true := by
    intro k hk
    have hw : 0 < row.width := by
      rcases Nat.eq_zero_or_pos row.width with h0 | h0
      · rw [h0] at hk; omega
      · exact h0
    have hj : k / row.width < l.length := (Nat.div_lt_iff_lt_mul hw).2 hk
    have hr := h (k / row.width) _ (List.getElem?_eq_getElem hj)
    have hm : k % row.width < row.width := Nat.mod_lt _ hw
    have hc := List.getElem?_eq_getElem (l := row.cells l[k / row.width]) (i := k % row.width) (by rw [CT.cells_length]; exact hm)
    obtain ⟨y, hy, hv⟩ := RelT.cell row _ _ hr _ _ hc
    refine ⟨y, ?_, (AC.known_one (CT.cells_known row _ _ _ hc) hv).1⟩
    have e : o + k / row.width * row.width + k % row.width = o + k := by
      have := Nat.div_add_mod' k row.width; omega
    rwa [e] at hy
  have val : ∀ k y, X.IC ⟨b, o + k, none⟩ y → ((X.w.cell? ⟨b, o + k, none⟩).getD undef) = y := fun k y hy => by rw [show X.w.cell? ⟨b, o + k, none⟩ = some y from hy.2.2.1]; rfl
  refine ⟨(List.range (l.length * row.width)).map fun k => (X.w.cell? ⟨b, o + k, none⟩).getD undef, by simp, ?_, ?_, ?_⟩
  · intro k u hu
    have hk : k < l.length * row.width := by
      have := (List.getElem?_eq_some_iff.1 hu).1
      simpa using this
    simp only [List.getElem?_map, List.getElem?_range hk, Option.map_some, Option.some.injEq] at hu
    obtain ⟨y, hy, _⟩ := cellAt k hk
    rw [val k y hy] at hu
    subst hu; exact hy
  · intro j x hj
    have hjl : j < l.length := (List.getElem?_eq_some_iff.1 hj).1
    refine RelT.mono_lt row x (fun k y hk hy => ?_) (fun _ _ hh => hh) (h j x hj)
    have hlt : j * row.width + k < l.length * row.width := by
      have : (j + 1) * row.width ≤ l.length * row.width := Nat.mul_le_mul_right _ hjl
      rw [Nat.add_mul] at this
      omega
    simp only [List.getElem?_map, List.getElem?_range hlt, Option.map_some, Option.some.injEq]
    exact val _ y (by rw [show o + (j * row.width + k) = o + j * row.width + k from by omega]; exact hy)
  · intro u hu
    obtain ⟨k, hk, rfl⟩ := List.mem_map.1 hu
    obtain ⟨y, hy, h1⟩ := cellAt k (List.mem_range.1 hk)
    rw [val k y hy]; exact h1

/-- A token's array, new or longer by what was put behind it. -/
def Ctx.tok (X : Ctx) (i g : Nat) (end_ : Nat) (e : TypeId) (ver : Nat) (w' : World) : Ctx :=
  { X with φ := upd X.φ i g, fr := upd X.fr g (some end_), tl := fun j => j = i ∨ X.tl j, H := upd X.H i (some (.tok e ver)), w := w' }

structure TokStep (X : Ctx) (i g end_ : Nat) (e : TypeId) (ver : Nat) (w' : World) : Prop where
  os : w'.os = X.w.os
  tape : w'.tape = X.w.tape
  output : w'.output = X.w.output
  size : X.w.heap.size ≤ w'.heap.size
  other : ∀ k, k < X.w.heap.size → k ≠ g → w'.heap[k]? = X.w.heap[k]?
  which : g = X.w.heap.size ∨ (X.tl i ∧ g = X.φ i)
  lt : g < w'.heap.size
  hi : X.H i = none ∨ ∃ v, X.H i = some (.tok e v) ∧ v < ver
  pre : ∀ q, X.fr g = some q → q ≤ end_ ∧ (∀ o, o < q → w'.cell? ⟨g, o, none⟩ = X.w.cell? ⟨g, o, none⟩) ∧ ∀ o, w'.frozen? ⟨g, o, none⟩ = X.w.frozen? ⟨g, o, none⟩
  drawn : X.w.drawn * 0 ≤ w'.drawn * 0


theorem tok_le {X : Ctx} (hX : HRel X) {i g end_ : Nat} {e : TypeId} {ver : Nat} {w' : World} (hs : TokStep X i g end_ e ver w')
    (hfr : g < X.w.heap.size → ∃ q, X.fr g = some q) : X.le (X.tok i g end_ e ver w') where
  ic a y h := by
    obtain ⟨h1, h2, h3, h4, h5⟩ := h
    have hl := holds_lt h3
    have hsp : a.block = g → a.spot = none := fun eg => by
      obtain ⟨q, hq⟩ := hfr (eg ▸ hl)
      exact (h5.1 q (by rw [eg]; exact hq)).2
    refine ⟨h1, h2, ?_, ?_, ?_, ?_⟩
    · by_cases eg : a.block = g
      · obtain ⟨q, hq⟩ := hfr (eg ▸ hl)
        have hlt := (h5.1 q (by rw [eg]; exact hq)).1
        have hp := (hs.pre q hq).2.1 a.off hlt
        have h2 := hsp eg
        obtain ⟨b, o, s⟩ := a
        simp only at h2 eg hp hlt
        subst h2; subst eg
        exact hp.trans h3
      · exact holds_of_block (hs.other _ hl eg) h3
    · intro j b hj hb
      by_cases ej : j = i
      · subst ej
        simp only [Ctx.tok, upd_same, Option.some.injEq] at hj
        subst hj; cases hb
      · simp only [Ctx.tok, upd_other _ _ ej] at hj ⊢; exact h4 j b hj hb
    · intro q hq
      by_cases eg : a.block = g
      · simp only [Ctx.tok, eg, upd_same, Option.some.injEq] at hq
        subst hq
        obtain ⟨q, hq⟩ := hfr (eg ▸ hl)
        have := (h5.1 q (by rw [eg]; exact hq)).1
        have := (hs.pre q hq).1
        exact ⟨by omega, hsp eg⟩
      · simp only [Ctx.tok, upd_other _ _ eg] at hq; exact h5.1 q hq
    · by_cases eg : a.block = g
      · obtain ⟨q, hq⟩ := hfr (eg ▸ hl)
        have hp := (hs.pre q hq).2.2 a.off
        have h2 := hsp eg
        obtain ⟨b, o, s⟩ := a
        simp only at h2 eg hp
        subst h2; subst eg
        exact hp.trans h5.2
      · exact (frozen_of_block (hs.other _ hl eg)).trans h5.2
  loc j b hj hb := by
    have ej : j ≠ i := fun ee => by
      subst ee
      rcases hs.hi with h | ⟨v, h, _⟩
      · rw [h] at hj; cases hj
      · rw [h] at hj; cases hj; cases hb
    exact ⟨⟨b, by simp only [Ctx.tok, upd_other _ _ ej]; exact hj, hb⟩, by simp only [Ctx.tok, upd_other _ _ ej]⟩
  arr j row l hj := by
    have ej : j ≠ i := fun ee => by
      subst ee
      rcases hs.hi with h | ⟨v, h, _⟩
      · rw [h] at hj; cases hj
      · rw [h] at hj; cases hj
    exact .inl ⟨l, by simp only [Ctx.tok, upd_other _ _ ej]; exact hj, rfl⟩
  dead j hj := by
    have ej : j ≠ i := fun ee => by
      subst ee
      rcases hs.hi with h | ⟨v, h, _⟩
      · rw [h] at hj; cases hj
      · rw [h] at hj; cases hj
    simp only [Ctx.tok, upd_other _ _ ej]; exact hj
  ca _ _ _ _ := rfl
  tok j u v hj := by
    by_cases ej : j = i
    · subst ej
      rcases hs.hi with h | ⟨v1, h, hv⟩
      · rw [h] at hj; cases hj
      · rw [h] at hj
        simp only [Option.some.injEq, AB.tok.injEq] at hj
        obtain ⟨rfl, rfl⟩ := hj
        exact ⟨ver, by simp only [Ctx.tok, upd_same], Nat.le_of_lt hv, fun ee => by omega⟩
    · refine ⟨v, by simp only [Ctx.tok, upd_other _ _ ej]; exact hj, Nat.le_refl _, fun _ => ⟨by simp only [Ctx.tok, upd_other _ _ ej], fun t p q ⟨t1, t2, c, mk, t3, t4⟩ => ?_⟩⟩
      have hne : X.φ j ≠ g := by
        rcases hs.which with h | ⟨h, h'⟩
        · have := hX.ltt j t1; omega
        · rw [h']; exact hX.injt j i t1 h ej
      refine ⟨.inr t1, ?_, c, mk, ?_, t4⟩
      · simp only [Ctx.tok, upd_other _ _ ej, upd_other _ _ hne]; exact t2
      · simp only [Ctx.tok, upd_other _ _ ej]; exact (hs.other _ (hX.ltt j t1) hne).trans t3
  w0 := rfl
  lent := rfl
  oldeq := rfl
  drawn := hs.drawn

theorem HRel.tok {X : Ctx} (hX : HRel X) {i g end_ : Nat} {e : TypeId} {ver : Nat} {w' : World} (hs : TokStep X i g end_ e ver w')
    (hfr : g < X.w.heap.size → ∃ q, X.fr g = some q) : HRel (X.tok i g end_ e ver w') := by
  have hle := tok_le hX hs hfr
  have hg : ∀ j, X.tl j → j ≠ i → X.φ j ≠ g := fun j hj ej => by
    rcases hs.which with h | ⟨h, h'⟩
    · have := hX.ltt j hj; omega
    · rw [h']; exact hX.injt j i hj h ej
  have hgm : ∀ j b, X.H j = some b → b.loc = true → X.φ j ≠ g := fun j b hj hb => by
    rcases hs.which with h | ⟨h, h'⟩
    · have := hX.ltl j b hj hb; omega
    · rw [h']; exact hX.injm j b i hj hb h
  have old_of : ∀ j b, (X.tok i g end_ e ver w').H j = some b → b.pt = true → j ≠ i ∧ X.H j = some b := fun j b hj hb => by
    by_cases ej : j = i
    · subst ej
      simp only [Ctx.tok, upd_same, Option.some.injEq] at hj
      subst hj; cases hb
    · exact ⟨ej, by simpa only [Ctx.tok, upd_other _ _ ej] using hj⟩
  have φ_of : ∀ j, j ≠ i → (X.tok i g end_ e ver w').φ j = X.φ j := fun j ej => by simp only [Ctx.tok, upd_other _ _ ej]
  have φ_i : (X.tok i g end_ e ver w').φ i = g := by simp only [Ctx.tok, upd_same]
  refine ⟨?_, ?_, ?_, ?_, ?_, ?_, ?_, ?_, ?_, ?_, ?_, hs.os.trans hX.os, hs.tape.trans hX.tape, hs.output.trans hX.output, Nat.le_trans hX.size hs.size, ?_⟩
  · intro j k b c hj hk hb hc hne
    obtain ⟨ej, hj⟩ := old_of j b hj (AB.pt_of hb)
    obtain ⟨ek, hk⟩ := old_of k c hk (AB.pt_of hc)
    rw [φ_of j ej, φ_of k ek]
    exact hX.inj j k b c hj hk hb hc hne
  · intro j k hj hk hne
    by_cases ej : j = i
    · have ek : k ≠ i := fun ee => hne (ej.trans ee.symm)
      rw [ej, φ_i, φ_of k ek]
      exact (hg k (hk.resolve_left ek) ek).symm
    · rw [φ_of j ej]
      by_cases ek : k = i
      · rw [ek, φ_i]; exact hg j (hj.resolve_left ej) ej
      · rw [φ_of k ek]; exact hX.injt j k (hj.resolve_left ej) (hk.resolve_left ek) hne
  · intro j b k hj hb hk
    obtain ⟨ej, hj⟩ := old_of j b hj (AB.pt_of hb)
    rw [φ_of j ej]
    by_cases ek : k = i
    · rw [ek, φ_i]; exact hgm j b hj hb
    · rw [φ_of k ek]; exact hX.injm j b k hj hb (hk.resolve_left ek)
  · intro j b hj hb
    obtain ⟨ej, hj⟩ := old_of j b hj (AB.pt_of (AB.loc_of hb))
    rw [φ_of j ej]; exact hX.place j b hj hb
  · intro j hj
    by_cases ej : j = i
    · rw [ej, φ_i]
      rcases hs.which with h | ⟨h, h'⟩
      · exact .inl (by rw [h]; exact hX.size)
      · rw [h']; exact hX.placet i h
    · rw [φ_of j ej]; exact hX.placet j (hj.resolve_left ej)
  · intro j b hj hb
    obtain ⟨ej, hj⟩ := old_of j b hj hb
    rw [φ_of j ej]
    exact Nat.lt_of_lt_of_le (hX.lt j b hj hb) hs.size
  · intro j hj
    by_cases ej : j = i
    · rw [ej, φ_i]; exact hs.lt
    · rw [φ_of j ej]; exact Nat.lt_of_lt_of_le (hX.ltt j (hj.resolve_left ej)) hs.size
  · intro j hj
    by_cases ej : j = i
    · rw [ej]; simp [Ctx.tok, upd_same]
    · simp only [Ctx.tok, upd_other _ _ ej]; exact hX.tlH j (hj.resolve_left ej)
  · intro b q hb
    by_cases eb : b = g
    · rw [eb]; exact hs.lt
    · simp only [Ctx.tok, upd_other _ _ eb] at hb
      exact Nat.lt_of_lt_of_le (hX.frlt b q hb) hs.size
  · intro j b hj
    cases hm : b.loc with
    | true =>
      obtain ⟨ej, hj'⟩ := old_of j b hj (AB.pt_of hm)
      exact BRel.mono hle (φ_of j ej) rfl (hs.other _ (hX.ltl j b hj' hm) (hgm j b hj' hm)) (hX.blk j b hj')
    | false => cases b <;> first | trivial | cases hm
  · intro k hk hl
    refine (hs.other k (Nat.lt_of_lt_of_le hk hX.size) ?_).trans (hX.below k hk hl)
    intro ek
    have hk' : k < X.w0.heap.size := hk
    rcases hs.which with h | ⟨h, h'⟩
    · have := hX.size; omega
    · rcases hX.placet i h with hp | hp
      · omega
      · exact hl (by rw [ek, h']; exact hp)
  · intro a y h
    exact hle.ic a y (hX.old a y h)
end
section
open Go Go.RowKit
variable {P : Program}

/-- A list's elements, as values that lie behind one another. -/
def LRel (row : CT) (l : List row.den) (vs : List Value) (IC : Addr → Value → Prop) : Prop :=
  vs.length = l.length * row.width ∧ ∀ (j : Nat) x, l[j]? = some x → RelT row x (fun k y => vs[j * row.width + k]? = some y) IC

theorem LRel.append {row : CT} {l l2 : List row.den} {vs vs2 : List Value} {IC : Addr → Value → Prop} (h : LRel row l vs IC) (k : LRel row l2 vs2 IC) : LRel row (l ++ l2) (vs ++ vs2) IC := by
  refine ⟨by rw [List.length_append, List.length_append, h.1, k.1, Nat.add_mul], fun j x hj => ?_⟩
  by_cases e : j < l.length
  · rw [List.getElem?_append_left e] at hj
    refine RelT.mono_lt row x (fun r y hr hy => ?_) (fun _ _ hh => hh) (h.2 j x hj)
    have hlt : j * row.width + r < vs.length := by
      rw [h.1]
      have : (j + 1) * row.width ≤ l.length * row.width := Nat.mul_le_mul_right _ e
      rw [Nat.add_mul] at this
      omega
    rw [List.getElem?_append_left hlt]; exact hy
  · rw [List.getElem?_append_right (by omega)] at hj
    refine RelT.mono_lt row x (fun r y hr hy => ?_) (fun _ _ hh => hh) (k.2 _ x hj)
    have e2 : j * row.width = l.length * row.width + (j - l.length) * row.width := by
      rw [← Nat.add_mul]; congr 1; omega
    rw [List.getElem?_append_right (by rw [h.1]; omega), h.1]
    rw [show j * row.width + r - l.length * row.width = (j - l.length) * row.width + r from by omega]
    exact hy

theorem LRel.mono {row : CT} {l : List row.den} {vs : List Value} {IC IC' : Addr → Value → Prop} (h : LRel row l vs IC) (hI : ∀ a y, IC a y → IC' a y) : LRel row l vs IC' :=
  ⟨h.1, fun j x hj => RelT.mono row x (fun _ _ hh => hh) hI (h.2 j x hj)⟩

/-- What append leaves: the row that is the token's now. -/
theorem tok_value {X : Ctx} (hX : HRel X) {i g cap n : Nat} {e : TypeId} {ver : Nat} {w' : World} {row : CT} {l : List row.den} {vs : List Value} {cur : Array Value}
    (hs : TokStep X i g (n * row.width) e ver w') (hfr : g < X.w.heap.size → ∃ q, X.fr g = some q)
    {m : Nat × Nat} (hg : w'.heap[g]? = some (.cells cur e m)) (hmk : m = (0, 0) ∨ m = (cur.size, cur.size + 1)) (hn : n = l.length) (hcap : n ≤ cap) (hmax : cap ≤ maxLen) (hsz : cur.size = cap * row.width) (htake : cur.toList.take (n * row.width) = vs)
    (hl : LRel row l vs X.IC) :
    VR (X.tok i g (n * row.width) e ver w') (.one (.sl row l (.own i ver))) (.slice (some ⟨g, 0, none⟩) n cap) := by
  have hle := tok_le hX hs hfr
  have hX' := hX.tok hs hfr
  refine ⟨some ⟨g, 0, none⟩, n, cap, rfl, hn, hcap, hmax, .inr ⟨g, 0, rfl, fun j x hj => ?_⟩, e, ver, by simp only [Ctx.tok, upd_same], Nat.le_refl _, fun _ => .inr ⟨by simp only [Ctx.tok, upd_same], ?_⟩⟩
  · refine RelT.mono_lt row x (fun k y hk hy => ?_) hle.ic (hl.2 j x hj)
    rw [Nat.zero_add]
    have hjl : j < l.length := (List.getElem?_eq_some_iff.1 hj).1
    have hlt : j * row.width + k < n * row.width := by
      have : (j + 1) * row.width ≤ n * row.width := Nat.mul_le_mul_right _ (by omega)
      rw [Nat.add_mul] at this
      omega
    have hcs : j * row.width + k < cur.size := by rw [hsz]; exact Nat.lt_of_lt_of_le hlt (Nat.mul_le_mul_right _ hcap)
    refine ⟨?_, rfl, ?_, ?_, ?_, frozen_off hg hmk hcs⟩
    · rcases hs.which with h | ⟨h, h'⟩
      · exact .inl (by show X.w0.heap.size ≤ g; rw [h]; exact hX.size)
      · rcases hX.placet i h with hp | hp
        · exact .inl (by show X.w0.heap.size ≤ g; rw [h']; exact hp)
        · exact .inr (.inl (by show X.lent g; rw [h']; exact hp))
    · show w'.cell? ⟨g, j * row.width + k, none⟩ = some y
      rw [cell_of_row _ _ _ cur e m hg]
      rw [← htake, List.getElem?_take_of_lt hlt] at hy
      simpa using hy
    · intro j' b hj' hb
      have := hX'.injm j' b i hj' (AB.loc_of hb) (.inl rfl)
      simpa only [Ctx.tok, upd_same] using this
    · intro q hq
      simp only [Ctx.tok, upd_same, Option.some.injEq] at hq
      subst hq; exact ⟨hlt, rfl⟩
  · refine ⟨.inl rfl, ?_, cur, m, ?_, hsz, hmk⟩
    · simp only [Ctx.tok, upd_same]
    · simp only [Ctx.tok, upd_same]; exact hg

/-- The list that a slice's account tells, at a row's type; whether and how it may be appended to. -/
def slOf (row : CT) : AC → Option (List row.den × SM)
  | .nils => some ([], .full)
  | .sl row' l m => if h : row'.eqb row = true then some (castL row' row h l, m) else none
  | _ => none

theorem slOf_rel {X : Ctx} {row : CT} {c : AC} {l : List row.den} {m : SM} {v : Value} (h : slOf row c = some (l, m)) (hv : VRc X c v) : VRc X (.sl row l m) v := by
  unfold slOf at h
  split at h
  · simp only [Option.some.injEq, Prod.mk.injEq] at h
    obtain ⟨rfl, rfl⟩ := h
    cases hv
    exact ⟨none, 0, 0, rfl, rfl, Nat.le_refl _, by simp [maxLen], .inl rfl, rfl⟩
  · split at h
    · rename_i row' l' m' e
      have e' := CT.eq_of_eqb _ _ e
      subst e'
      simp only [Option.some.injEq, Prod.mk.injEq] at h
      obtain ⟨rfl, rfl⟩ := h
      exact hv
    · cases h
  · cases h

/-- A choice: taken off the list of choices, if there is one there; what it takes for granted. -/
def br (b : Bool) : List Bool → Bool × List Bool × List Bool
  | [] => (b, [], [])
  | o :: r => (o, [b == o], r)

theorem br_eq {b : Bool} {os : List Bool} (h : ∀ c ∈ (br b os).2.1, c = true) : (br b os).1 = b := by
  cases os with
  | nil => rfl
  | cons o r =>
    have := h (b == o) (by simp [br])
    simp only [beq_iff_eq] at this
    exact this.symm

/-- The values of rows of an own array. -/
theorem arr_vals {X : Ctx} (hX : HRel X) {i : Nat} {row : CT} {l : List row.den} (hH : X.H i = some (.arr row l)) (off len : Nat) (hle : off + len ≤ l.length) :
    ∃ vs : List Value, LRel row ((l.drop off).take len) vs X.IC ∧ (∀ u ∈ vs, u.oneCell' = true) ∧ ∀ (k : Nat) u, vs[k]? = some u → X.w.cell? ⟨X.φ i, off * row.width + k, none⟩ = some u := by
  obtain ⟨c, t', h1, ⟨h2, hmk, hca⟩, h3⟩ := hX.blk i _ hH
  have hcl : c.toList.length = c.size := Array.length_toList
  have hsz : (off + len) * row.width ≤ c.size := Nat.le_trans (Nat.mul_le_mul_right _ hle) h2
  rw [Nat.add_mul] at hsz
  have hget : ∀ k, k < len * row.width → ((c.toList.drop (off * row.width)).take (len * row.width))[k]? = c[off * row.width + k]? := fun k hk => by
    rw [List.getElem?_take_of_lt hk, List.getElem?_drop, Array.getElem?_toList]
  refine ⟨(c.toList.drop (off * row.width)).take (len * row.width), ⟨?_, fun j x hj => ?_⟩, fun u hu => ?_, fun k u hk => ?_⟩
  · rw [List.length_take, List.length_drop, List.length_take, List.length_drop, hcl]
    have e1 : min len (l.length - off) = len := by omega
    rw [e1]; omega
  · have hjl : j < len := by
      have := (List.getElem?_eq_some_iff.1 hj).1
      rw [List.length_take] at this; omega
    rw [List.getElem?_take_of_lt hjl, List.getElem?_drop] at hj
    refine RelT.mono_lt0 row x (fun k y hk hy => ?_) (fun _ _ h => h) (h3 _ x hj)
    have : (j + 1) * row.width ≤ len * row.width := Nat.mul_le_mul_right _ hjl
    rw [Nat.add_mul] at this
    rw [hget _ (by omega), ← hy, Nat.add_mul]
    congr 1; omega
  · obtain ⟨q, hq⟩ := List.getElem?_of_mem hu
    have hql := (List.getElem?_eq_some_iff.1 hq).1
    rw [List.length_take] at hql
    rw [hget q (by omega)] at hq
    have hw : 0 < row.width := by
      rcases Nat.eq_zero_or_pos row.width with h0 | h0
      · rw [h0] at hql; omega
      · exact h0
    have hqd : off * row.width + q = (off + q / row.width) * row.width + q % row.width := by
      rw [Nat.add_mul]
      have := Nat.div_add_mod q row.width
      rw [Nat.mul_comm] at this; omega
    have hj : off + q / row.width < l.length := by
      have : q / row.width < len := (Nat.div_lt_iff_lt_mul hw).2 (by omega)
      omega
    have hrel := h3 (off + q / row.width) _ (List.getElem?_eq_getElem hj)
    have hk : q % row.width < row.width := Nat.mod_lt _ hw
    have hcell : (row.cells l[off + q / row.width])[q % row.width]? = some ((row.cells l[off + q / row.width])[q % row.width]'(by rw [CT.cells_length]; exact hk)) := List.getElem?_eq_getElem _
    obtain ⟨y, hy, hr⟩ := RelT.cell row _ _ hrel _ _ hcell
    rw [hqd, hy] at hq
    injection hq with hq; subst hq
    exact (AC.known_one (CT.cells_known row _ _ _ hcell) hr).1
  · have hkl := (List.getElem?_eq_some_iff.1 hk).1
    rw [List.length_take] at hkl
    rw [hget k (by omega)] at hk
    rw [cell_of_row _ _ _ c t'.1 t'.2 h1]; exact hk

/-- Rows are written into an own array, one behind the other. -/
theorem put_arr_ok {X : Ctx} (hX : HRel X) {i p : Nat} {row : CT} {l l2 : List row.den} {vals : List Value} (hH : X.H i = some (.arr row l)) (hlr : LRel row l2 vals X.IC) (hone : ∀ v ∈ vals, v.oneCell' = true) (hle : p + l2.length ≤ l.length) :
    ∃ w', (storeCells ⟨X.φ i, p * row.width, none⟩ vals).run P X.w = .ok () w' ∧ X.le (X.put i (.arr row (l.take p ++ (l2 ++ l.drop (p + l2.length)))) w') ∧ HRel (X.put i (.arr row (l.take p ++ (l2 ++ l.drop (p + l2.length)))) w') := by
  obtain ⟨c, t', h1, ⟨h2, hmk, hca⟩, h3⟩ := hX.blk i _ hH
  have hsz : (p + l2.length) * row.width ≤ c.size := Nat.le_trans (Nat.mul_le_mul_right _ hle) h2
  rw [Nat.add_mul] at hsz
  have hvl := hlr.1
  have hrun := run_storeCells_m P t'.2 (X.φ i) t'.1 vals X.w (p * row.width) 0 c hmk h1 (by omega) hone
  obtain ⟨c', g1, g2, g3, g4, g5, g6, g7, g8⟩ := setCells_heap_m t'.2 (X.φ i) t'.1 vals X.w (p * row.width) c h1 (by omega)
  have ho : OneBlock X i (setCells X.w (X.φ i) (p * row.width) vals) := ⟨g4, g5, g6, g7, g8, by rw [setCells_drawn]; exact Nat.le_refl _⟩
  have hlen : (l.take p ++ (l2 ++ l.drop (p + l2.length))).length = l.length := by
    simp only [List.length_append, List.length_take, List.length_drop]; omega
  have harr : ∀ row0 l0, AB.arr row l = .arr row0 l0 → ∃ l' : List row0.den, AB.arr row (l.take p ++ (l2 ++ l.drop (p + l2.length))) = .arr row0 l' ∧ l'.length = l0.length := fun row0 l0 e => by
    cases e; exact ⟨_, rfl, hlen⟩
  have hle' := put_le hX hH rfl (b' := .arr row (l.take p ++ (l2 ++ l.drop (p + l2.length)))) rfl ho harr
  refine ⟨_, hrun, hle', hX.put hH rfl rfl ho harr ⟨c', t', g1, by rw [g2, hlen]; exact ⟨h2, hmk, hca⟩, fun q z hq => ?_⟩⟩
  have hmono : ∀ (t : CT) (v : t.den) (C : Nat → Value → Prop), RelT t v C X.IC → RelT t v C (X.put i (.arr row (l.take p ++ (l2 ++ l.drop (p + l2.length)))) (setCells X.w (X.φ i) (p * row.width) vals)).IC :=
    fun t v C h => RelT.mono t v (fun _ _ h => h) (fun a y h => hle'.ic a y h) h
  by_cases e1 : q < p
  · rw [List.getElem?_append_left (by rw [List.length_take]; omega), List.getElem?_take_of_lt e1] at hq
    refine RelT.mono_lt0 row z (fun k y hk hy => ?_) (fun _ _ h => h) (hmono _ _ _ (h3 q z hq))
    have : (q + 1) * row.width ≤ p * row.width := Nat.mul_le_mul_right _ e1
    rw [Nat.add_mul] at this
    rw [g3, if_neg (by omega)]; exact hy
  · rw [List.getElem?_append_right (by rw [List.length_take]; omega), List.length_take] at hq
    have hm : min p l.length = p := by omega
    rw [hm] at hq
    by_cases e2 : q - p < l2.length
    · rw [List.getElem?_append_left e2] at hq
      refine RelT.mono_lt0 row z (fun k y hk hy => ?_) (fun _ _ h => h) (hmono _ _ _ (hlr.2 (q - p) z hq))
      have h4 : (q - p + 1) * row.width ≤ l2.length * row.width := Nat.mul_le_mul_right _ e2
      rw [Nat.add_mul] at h4
      have h5 : q * row.width = p * row.width + (q - p) * row.width := by rw [← Nat.add_mul]; congr 1; omega
      rw [g3, if_pos (by omega), ← hy]; congr 1; omega
    · rw [List.getElem?_append_right (by omega), List.getElem?_drop] at hq
      have hq' : l[q]? = some z := by rw [← hq]; congr 1; omega
      refine RelT.mono_lt0 row z (fun k y hk hy => ?_) (fun _ _ h => h) (hmono _ _ _ (h3 q z hq'))
      have h4 : (p + l2.length) * row.width ≤ q * row.width := Nat.mul_le_mul_right _ (by omega)
      rw [Nat.add_mul] at h4
      rw [g3, if_neg (by omega)]; exact hy

/-- Rows of an own array, as known. -/
def aslRows (H : Nat → Option AB) (row : CT) (j off len : Nat) : Option (List row.den) :=
  match H j with
  | some (.arr row' l) => if h : row'.eqb row = true then some (((castL row' row h l).drop off).take len) else none
  | _ => none
theorem aslRows_some {X : Ctx} {row : CT} {i off len : Nat} {r : List row.den} (h : aslRows X.H row i off len = some r) : ∃ l : List row.den, X.H i = some (.arr row l) ∧ r = (l.drop off).take len := by
  unfold aslRows at h
  split at h
  · rename_i row' l hH
    split at h
    · rename_i hr
      have e := CT.eq_of_eqb _ _ hr
      subst e
      injection h with h; subst h
      exact ⟨l, hH, rfl⟩
    · cases h
  · cases h

/-- Cells of a slice over an own block, as rows. -/
def cslRows (P : Program) (H : Nat → Option AB) (e : TypeId) (j off len : Nat) : Option ((row : CT) × List row.den) :=
  match P.info? e, rowOf P 12 e, H j with
  | some i, some row, some (.cells cs) =>
    if Nat.beq row.width i.size && Nat.ble (off + len * i.size) cs.length && ((cs.drop off).take (len * i.size)).all AC.known then
      match row.uns len ((cs.drop off).take (len * i.size)) with
      | some (l, []) => some ⟨row, l⟩
      | _ => none
    else none
  | _, _, _ => none

/-- What a slice holds, as rows. -/
def rowsIn (P : Program) (H : Nat → Option AB) (e : TypeId) : AC → Option ((row : CT) × List row.den)
  | .sl row l _ => some ⟨row, l⟩
  | .csl j off len _ => cslRows P H e j off len
  | .asl row j off len _ => (aslRows H row j off len).map fun l => ⟨row, l⟩
  | .bsl row j off len _ => (aslRows H row j off len).map fun l => ⟨row, l⟩
  | _ => none

def aappend (P : Program) (t : TypeId) (H : Nat → Option AB) (nid : Nat) (s x : AC) (os : List Bool) : Option (AV × List (Nat × AB) × List Bool × List Bool) :=
  match P.underlying t, x with
  | some (.slice e), .nils => match P.info? e, s with
    | some _, .nils => some (.one s, [], [], os)
    | some _, .sl _ _ _ => some (.one s, [], [], os)
    | some _, .csl _ _ _ _ => some (.one s, [], [], os)
    | some _, .asl _ _ _ _ _ => some (.one s, [], [], os)
    | some _, .bsl _ _ _ _ _ => some (.one s, [], [], os)
    | _, _ => none
  | some (.slice e), x =>
    match P.info? e, azero P e, rowsIn P H e x with
    | some i, some zs, some ⟨row, l2⟩ =>
      if Nat.beq row.width i.size && Nat.beq zs.length i.size && Nat.blt 0 i.size then
        match br l2.isEmpty os with
        | (true, cs, r) => match s with
          | .nils => some (.one s, [], cs, r)
          | .sl _ _ _ => some (.one s, [], cs, r)
          | .csl _ _ _ _ => some (.one s, [], cs, r)
          | .asl _ _ _ _ _ => some (.one s, [], cs, r)
          | .bsl _ _ _ _ _ => some (.one s, [], cs, r)
          | _ => none
        | (false, cs, r) =>
          match s with
          | .csl j off len cap =>
            match H j with
            | some (.cells old) =>
              if Nat.ble (len + l2.length) cap then
                if Nat.beq off 0 && Nat.ble ((len + l2.length) * i.size) old.length && Nat.beq (l2.flatMap row.cells).length (l2.length * i.size) then
                  some (.one (.csl j 0 (len + l2.length) cap), [(j, .cells (old.take (len * i.size) ++ (l2.flatMap row.cells ++ old.drop (len * i.size + (l2.flatMap row.cells).length))))], cs, r)
                else none
              else match cslRows P H e j off len with
                | some ⟨row', l⟩ => if h : row'.eqb row = true then
                    some (.one (.sl row (castL row' row h l ++ l2) (.own nid 0)), [(nid, .tok e 0)],
                      (Nat.ble ((len + l2.length) * i.bytes) 140737488355328 && Nat.ble (len + l2.length) maxLen) :: cs, r)
                  else none
                | none => none
            | _ => none
          | .asl row' j off len cap =>
            match H j with
            | some (.arr row'' l) => if h : row''.eqb row = true then
                if row'.eqb row then
                  match br (Nat.ble (len + l2.length) cap) r with
                  | (true, c2, r2) => some (.one (.asl row j off (len + l2.length) cap), [(j, .arr row ((castL row'' row h l).take (off + len) ++ (l2 ++ (castL row'' row h l).drop (off + len + l2.length))))], c2 ++ cs, r2)
                  | (false, c2, r2) => some (.one (.sl row (((castL row'' row h l).drop off).take len ++ l2) (.own nid 0)), [(nid, .tok e 0)],
                      (Nat.ble ((len + l2.length) * i.bytes) 140737488355328 && Nat.ble (len + l2.length) maxLen) :: (c2 ++ cs), r2)
                else none
              else none
            | _ => none
          | .bsl row' j off len mn =>
            match H j with
            | some (.arr row'' l) => if h : row''.eqb row = true then
                if row'.eqb row then
                  match br (Nat.ble (len + l2.length) mn) r with
                  | (true, c2, r2) => some (.one (.bsl row j off (len + l2.length) mn), [(j, .arr row ((castL row'' row h l).take (off + len) ++ (l2 ++ (castL row'' row h l).drop (off + len + l2.length))))], c2 ++ cs, r2)
                  | (false, c2, r2) => if Nat.beq off 0 then some (.one (.bsl row nid 0 (len + l2.length) (len + l2.length)), [(j, .dead), (nid, .arr row ((castL row'' row h l).take len ++ l2))],
                      Nat.blt 0 mn :: (Nat.ble ((len + l2.length) * i.bytes) 140737488355328 && Nat.ble (len + l2.length) maxLen) :: (c2 ++ cs), r2) else none
                else none
              else none
            | _ => none
          | s => match slOf row s with
            | none => none
            | some (l, m) =>
              match m with
              | .full => some (.one (.sl row (l ++ l2) (.own nid 0)), [(nid, .tok e 0)], (Nat.ble ((l.length + l2.length) * i.bytes) 140737488355328 && Nat.ble (l.length + l2.length) maxLen) :: cs, r)
              | .own k ver => match H k with
                | some (.tok e' v0) => if Nat.beq e' e then some (.one (.sl row (l ++ l2) (.own k (v0 + 1))), [(k, .tok e (v0 + 1))],
                    Nat.beq ver v0 :: (Nat.ble ((l.length + l2.length) * i.bytes) 140737488355328 && Nat.ble (l.length + l2.length) maxLen) :: cs, r) else none
                | _ => none
              | .shared => none
              | .nn => none
              | .at _ _ => none
      else none
    | _, _, _ => none
  | _, _ => none

/-- The values that a slice holds, wherever they lie. -/
theorem sl_vals {X : Ctx} {row : CT} {l : List row.den} {m : SM} {v : Value} (h : VRc X (.sl row l m) v) : ∃ A cap vs, v = .slice A l.length cap ∧ l.length ≤ cap ∧ cap ≤ maxLen ∧ LRel row l vs X.IC ∧ (∀ u ∈ vs, u.oneCell' = true) ∧
    (l.length = 0 ∨ ∃ b o, A = some ⟨b, o, none⟩ ∧ ∀ (k : Nat) u, vs[k]? = some u → X.w.cell? ⟨b, o + k, none⟩ = some u) := by
  obtain ⟨A, n, cap, rfl, rfl, h3, h4, h5, h6⟩ := h
  rcases h5 with h0 | ⟨b, o, rfl, hr⟩
  · have : l = [] := List.eq_nil_of_length_eq_zero h0
    subst this
    exact ⟨A, cap, [], rfl, h3, h4, ⟨by simp, fun j x hj => by simp at hj⟩, by simp, .inl rfl⟩
  · obtain ⟨vs, g1, g2, g3, g4⟩ := row_vals hr
    exact ⟨_, cap, vs, rfl, h3, h4, ⟨g1, g3⟩, g4, .inr ⟨b, o, rfl, fun k u hu => (g2 k u hu).2.2.1⟩⟩

theorem append_nils (t ty e : TypeId) (i : TypeInfo) (ht : P.underlying t = some (.slice e)) (hi : P.info? e = some i) (A : Option Addr) (n cap c : Nat) (B : Option Addr) (hn : n ≤ cap)
    (w : World) (hA : ∀ a, A = some a → True) : (Builtin.append_ #[t, t] ty #[.slice A n cap, .slice B 0 c]).run P w = .ok (.slice A n cap) w := by
  cases A <;> cases B <;> simp [Builtin.append_, run_underlying ht, sizeOf, typeInfo, hi, Builtin.lenOf, Builtin.firstCells, hn, storeCells, loadCells, loadCellsFrom]

theorem azero_info {X : Ctx} {t : TypeId} {cs : List AC} {i : TypeInfo} (h : azero P t = some cs) (hi : P.info? t = some i) : ∃ z, i.zero = some z ∧ PW (VRc X) cs z.cells.toList := by
  unfold azero at h
  cases hz : i.zero with
  | none => simp only [hi, hz] at h; cases h
  | some z => simp only [hi, hz] at h; exact ⟨z, rfl, cvs_rel X h⟩

/-- The step, for a new array. -/
theorem tokstep_new {X : Ctx} (hX : HRel X) {i end_ : Nat} {e : TypeId} {ver : Nat} (o : Obj) (w1 : World) (h1 : w1 = X.w.drew.alloc o)
    (hi : X.H i = none ∨ ∃ v, X.H i = some (.tok e v) ∧ v < ver) : TokStep X i X.w.heap.size end_ e ver w1 := by
  subst h1
  refine ⟨rfl, rfl, rfl, ?_, fun k hk _ => ?_, .inl rfl, ?_, hi, fun q hq => absurd (hX.frlt _ q hq) (Nat.lt_irrefl _), Nat.le_refl _⟩
  · simp
  · exact Below.heap_alloc X.w.drew o k hk
  · simp

/-- append into a new array. -/
theorem append_grow_ok {X : Ctx} (hX : HRel X) {t ty e : TypeId} {i : TypeInfo} {z : Value} (hu : P.underlying t = some (.slice e)) (hi : P.info? e = some i) (hzi : i.zero = some z) (hzs : z.cells.size = i.size)
    {row : CT} (hw : row.width = i.size) {l l2 : List row.den} {vs vs2 : List Value} (hl : LRel row l vs X.IC) (hl2 : LRel row l2 vs2 X.IC) {A : Option Addr} {cap cap2 b2 o2 : Nat}
    (hA : A = none → cap = 0) (hcap : l.length ≤ cap) (hat : l.length = 0 ∨ ∃ b o, A = some ⟨b, o, none⟩ ∧ ∀ (k : Nat) u, vs[k]? = some u → X.w.cell? ⟨b, o + k, none⟩ = some u)
    (hc2 : ∀ (k : Nat) u, vs2[k]? = some u → X.w.cell? ⟨b2, o2 + k, none⟩ = some u) (hg : cap < l.length + l2.length)
    (hsm1 : (l.length + l2.length) * i.bytes ≤ 140737488355328) (hsm2 : l.length + l2.length ≤ maxLen)
    {k ver : Nat} (hk : X.H k = none ∨ ∃ v, X.H k = some (.tok e v) ∧ v < ver) :
    ∃ val X', (Builtin.append_ #[t, t] ty #[.slice A l.length cap, .slice (some ⟨b2, o2, none⟩) l2.length cap2]).run P X.w = .ok val X'.w ∧ X.le X' ∧ HRel X' ∧ X'.H = upd X.H k (some (.tok e ver)) ∧ VR X' (.one (.sl row (l ++ l2) (.own k ver))) val := by
  have hmx : l.length + l2.length ≤ 9223372036854775807 := by simp only [maxLen] at hsm2; omega
  have hnl2 : vs2.length = l2.length * i.size := by rw [hl2.1, hw]
  have hnews : ∀ (j : Nat) u, vs2[j]? = some u → X.w.cell? ((⟨b2, o2, none⟩ : Addr).add j) = some u := fun j u hj => by rw [Addr.add_lit]; exact hc2 j u hj
  have hrun : (Builtin.append_ #[t, t] ty #[.slice A l.length cap, .slice (some ⟨b2, o2, none⟩) l2.length cap2]).run P X.w =
      .ok (.slice (some ⟨X.w.heap.size, 0, none⟩) (l.length + l2.length) (grownCap X.w (l.length + l2.length) cap e))
        (X.w.drew.alloc (.cells (vs.toArray ++ vs2.toArray ++ Builtin.zeroCells z.cells (grownCap X.w (l.length + l2.length) cap e - (l.length + l2.length))) e)) := by
    rcases Nat.eq_zero_or_pos l.length with h0 | h0
    · have hvs : vs = [] := List.eq_nil_of_length_eq_zero (by rw [hl.1, h0, Nat.zero_mul])
      have hln : l = [] := List.eq_nil_of_length_eq_zero h0
      subst hvs
      subst hln
      simp only [List.length_nil, Nat.zero_add] at hg hsm1 hmx ⊢
      cases A with
      | none =>
        have hcz := hA rfl
        subst hcz
        have := run_append_nil (P := P) X.w t ty e i z hu hi hzi ⟨b2, o2, none⟩ l2.length cap2 vs2 hnl2 hnews (by omega) (by omega) (by omega)
        simpa using this
      | some b =>
        have := run_append_grow (P := P) X.w t ty e i z hu hi hzi b 0 cap [] (by simp) (by simp) ⟨b2, o2, none⟩ l2.length cap2 vs2 hnl2 hnews (by omega) (by omega) (growslice_fits (by omega) (by simpa using hsm1))
        simpa using this
    · obtain ⟨b, o, rfl, hc⟩ := hat.resolve_left (by omega)
      exact run_append_grow (P := P) X.w t ty e i z hu hi hzi ⟨b, o, none⟩ l.length cap vs (by rw [hl.1, hw]) (fun j u hj => by rw [Addr.add_lit]; exact hc j u hj) ⟨b2, o2, none⟩ l2.length cap2 vs2 hnl2 hnews hg (by omega)
        (growslice_fits hg hsm1)
  have hge := grownCap_ge X.w (l.length + l2.length) cap e
  have hcm := grownCap_le_maxLen X.w (l.length + l2.length) cap e hsm2
  have hs := tokstep_new hX (i := k) (end_ := (l.length + l2.length) * row.width) (e := e) (ver := ver) (.cells (vs.toArray ++ vs2.toArray ++ Builtin.zeroCells z.cells (grownCap X.w (l.length + l2.length) cap e - (l.length + l2.length))) e) _ rfl hk
  have hfr : X.w.heap.size < X.w.heap.size → ∃ q, X.fr X.w.heap.size = some q := fun h => absurd h (Nat.lt_irrefl _)
  have hlen : (vs ++ vs2).length = (l.length + l2.length) * row.width := by rw [List.length_append, hl.1, hl2.1, Nat.add_mul]
  refine ⟨_, X.tok k X.w.heap.size ((l.length + l2.length) * row.width) e ver _, hrun, tok_le hX hs hfr, hX.tok hs hfr, rfl, ?_⟩
  refine tok_value hX hs hfr (heap_alloc_new X.w.drew _) (.inl rfl) (by simp) hge hcm ?_ ?_ (hl.append hl2)
  · simp only [Array.size_append, List.size_toArray, size_zeroCells, hzs, hl.1, hl2.1, hw, ← Nat.add_mul]
    congr 1; omega
  · simp only [Array.toList_append, List.append_assoc]
    rw [← List.append_assoc, ← hlen]
    exact List.take_left

/-- append within the array that the token stands for. -/
theorem append_room_ok {X : Ctx} (hX : HRel X) {t ty e : TypeId} {i : TypeInfo} (hu : P.underlying t = some (.slice e)) (hi : P.info? e = some i)
    {row : CT} (hw : row.width = i.size) {l l2 : List row.den} {vs vs2 : List Value} (hl : LRel row l vs X.IC) (hl2 : LRel row l2 vs2 X.IC) (hone2 : ∀ u ∈ vs2, u.oneCell' = true) {cap cap2 b2 o2 : Nat}
    {k ver v0 : Nat} (hk : X.H k = some (.tok e v0)) (hv : v0 < ver) (ht : X.TokOk k e (l.length * row.width) (cap * row.width)) (hmax : cap ≤ maxLen)
    (hat : ∀ (j : Nat) u, vs[j]? = some u → X.w.cell? ⟨X.φ k, j, none⟩ = some u) (hc2 : ∀ (k : Nat) u, vs2[k]? = some u → X.w.cell? ⟨b2, o2 + k, none⟩ = some u) (hg : l.length + l2.length ≤ cap) :
    ∃ val X', (Builtin.append_ #[t, t] ty #[.slice (some ⟨X.φ k, 0, none⟩) l.length cap, .slice (some ⟨b2, o2, none⟩) l2.length cap2]).run P X.w = .ok val X'.w ∧ X.le X' ∧ HRel X' ∧ X'.H = upd X.H k (some (.tok e ver)) ∧ VR X' (.one (.sl row (l ++ l2) (.own k ver))) val := by
  obtain ⟨t1, t2, c, m, t3, t4, tm⟩ := ht
  have hnl2 : vs2.length = l2.length * i.size := by rw [hl2.1, hw]
  have hnews : ∀ (j : Nat) u, vs2[j]? = some u → X.w.cell? ((⟨b2, o2, none⟩ : Addr).add j) = some u := fun j u hj => by rw [Addr.add_lit]; exact hc2 j u hj
  have hfit : l.length * i.size + vs2.length ≤ c.size := by rw [hnl2, t4, hw, ← Nat.add_mul]; exact Nat.mul_le_mul_right _ hg
  have hf := run_firstCells_some (P := P) X.w i.size l2.length ⟨b2, o2, none⟩ l2.length cap2 vs2 hnl2 hnews
  have hmk : ∀ o, o < c.size → ¬ (m.1 ≤ o ∧ o < m.2) := fun o ho => by
    rcases tm with rfl | rfl <;> simp <;> omega
  have hst := run_storeCells_m P m (X.φ k) e vs2 X.w (l.length * i.size) 0 c hmk t3 (by omega) hone2
  obtain ⟨c', g1, g2, g3, g4, g5, g6, g7, g8⟩ := setCells_heap_m m (X.φ k) e vs2 X.w (l.length * i.size) c t3 hfit
  rw [Nat.add_zero] at hst
  have hrun : (Builtin.append_ #[t, t] ty #[.slice (some ⟨X.φ k, 0, none⟩) l.length cap, .slice (some ⟨b2, o2, none⟩) l2.length cap2]).run P X.w = .ok (.slice (some ⟨X.φ k, 0, none⟩) (l.length + l2.length) cap) (setCells X.w (X.φ k) (l.length * i.size) vs2) := by
    simp [Builtin.append_, run_underlying hu, sizeOf, typeInfo, hi, Builtin.lenOf, hg, hf, Addr.add_lit, hst]
  have hs : TokStep X k (X.φ k) ((l.length + l2.length) * row.width) e ver (setCells X.w (X.φ k) (l.length * i.size) vs2) := by
    refine ⟨g4, g5, g6, by rw [g7]; exact Nat.le_refl _, fun j hj hne => g8 j hne, .inr ⟨t1, rfl⟩, by rw [g7]; exact hX.ltt k t1, .inr ⟨v0, hk, hv⟩, fun q hq => ?_, by rw [setCells_drawn]; exact Nat.le_refl _⟩
    rw [t2] at hq
    simp only [Option.some.injEq] at hq
    subst hq
    refine ⟨Nat.mul_le_mul_right _ (by omega), fun o ho => ?_, fun o => frozen_same t3 g1⟩
    rw [cell_of_row _ _ _ _ e m g1, cell_of_row _ _ _ c e m t3, g3, if_neg (by rw [← hw]; omega)]
  have hfr : X.φ k < X.w.heap.size → ∃ q, X.fr (X.φ k) = some q := fun _ => ⟨_, t2⟩
  have hlen : (vs ++ vs2).length = (l.length + l2.length) * row.width := by rw [List.length_append, hl.1, hl2.1, Nat.add_mul]
  refine ⟨_, X.tok k (X.φ k) ((l.length + l2.length) * row.width) e ver _, hrun, tok_le hX hs hfr, hX.tok hs hfr, rfl, ?_⟩
  refine tok_value hX hs hfr g1 (by rw [g2]; exact tm) (by simp) hg hmax (by rw [g2, t4]) ?_ (hl.append hl2)
  apply List.ext_getElem?
  intro j
  by_cases hj : j < (l.length + l2.length) * row.width
  · rw [List.getElem?_take_of_lt hj, Array.getElem?_toList, g3]
    by_cases hj1 : j < l.length * i.size
    · have hvl : j < vs.length := by rw [hl.1, hw]; exact hj1
      rw [if_neg (by omega), List.getElem?_append_left hvl, List.getElem?_eq_getElem hvl]
      have := hat j _ (List.getElem?_eq_getElem hvl)
      rwa [cell_of_row _ _ _ c e m t3] at this
    · rw [Nat.add_mul, hw] at hj
      rw [if_pos (by omega), List.getElem?_append_right (by rw [hl.1, hw]; omega), hl.1, hw]
  · rw [List.getElem?_take_eq_none (by omega), List.getElem?_eq_none (by omega)]

/-- A list's values, wherever they lie. -/
def SlVals (X : Ctx) (row : CT) (l : List row.den) (v : Value) : Prop := ∃ A cap vs, v = .slice A l.length cap ∧ l.length ≤ cap ∧ cap ≤ maxLen ∧ LRel row l vs X.IC ∧ (∀ u ∈ vs, u.oneCell' = true) ∧
    (l.length = 0 ∨ ∃ b o, A = some ⟨b, o, none⟩ ∧ ∀ (k : Nat) u, vs[k]? = some u → X.w.cell? ⟨b, o + k, none⟩ = some u)

theorem cslRows_ok {X : Ctx} (hX : HRel X) {e : TypeId} {j off len cap : Nat} {row : CT} {l : List row.den} (h : cslRows P X.H e j off len = some ⟨row, l⟩) (hc : len ≤ cap) (hm : cap ≤ maxLen) :
    l.length = len ∧ ∃ vs, LRel row l vs X.IC ∧ (∀ u ∈ vs, u.oneCell' = true) ∧ ∀ (k : Nat) u, vs[k]? = some u → X.w.cell? ⟨X.φ j, off + k, none⟩ = some u := by
  unfold cslRows at h
  split at h
  · rename_i i row0 cs hi hrow hH
    split at h
    · rename_i hcond
      simp only [Bool.and_eq_true, Nat.beq_eq, Nat.ble_eq] at hcond
      obtain ⟨⟨hw, hle⟩, hknown⟩ := hcond
      split at h
      · rename_i l0 hu
        simp only [Option.some.injEq, Sigma.mk.injEq] at h
        obtain ⟨rfl, hll⟩ := h
        have hll := eq_of_heq hll
        subst hll
        obtain ⟨c, t', h1, h2⟩ := hX.blk j _ hH
        have hpw : PW (VRc X) ((cs.drop off).take (len * i.size)) ((c.toList.drop off).take (len * i.size)) := (h2.drop off).take _
        obtain ⟨g1, g2, g3⟩ := CT.uns_rel row0 len _ l0 [] _ hu hpw
        refine ⟨g1, (c.toList.drop off).take (len * i.size), ⟨?_, g3⟩, ?_, ?_⟩
        · rw [← hpw.1, g2, g1]; simp
        · intro u hu'
          obtain ⟨q, hq⟩ := List.getElem?_of_mem hu'
          obtain ⟨a, ha, hr⟩ := hpw.get hq
          exact (AC.known_one (List.all_eq_true.1 hknown a (List.mem_of_getElem? ha)) hr).1
        · intro k u hk
          rw [cell_of_row _ _ _ c t' (0, 0) h1, ← Array.getElem?_toList]
          have hlt : k < len * i.size := by
            have := (List.getElem?_eq_some_iff.1 hk).1
            rw [List.length_take] at this; omega
          rw [List.getElem?_take_of_lt hlt, List.getElem?_drop] at hk
          exact hk
      · cases h
    · cases h
  · cases h

theorem rowsIn_vals {X : Ctx} (hX : HRel X) {e : TypeId} {x : AC} {row : CT} {l : List row.den} (h : rowsIn P X.H e x = some ⟨row, l⟩) {xv : Value} (hxv : VRc X x xv) : SlVals X row l xv := by
  unfold rowsIn at h
  split at h
  · simp only [Option.some.injEq, Sigma.mk.injEq] at h
    obtain ⟨rfl, hll⟩ := h
    have hll := eq_of_heq hll
    subst hll
    exact sl_vals hxv
  · rename_i j off len cap
    obtain ⟨_, rfl, h3, h4⟩ := hxv
    obtain ⟨g1, vs, g2, g3, g4⟩ := cslRows_ok hX h h3 h4
    exact ⟨_, cap, vs, by rw [g1], by omega, h4, g2, g3, .inr ⟨_, _, rfl, g4⟩⟩
  · rename_i row' j off len cap
    cases ha : aslRows X.H row' j off len with
    | none => rw [ha] at h; cases h
    | some r =>
      rw [ha] at h
      simp only [Option.map_some, Option.some.injEq, Sigma.mk.injEq] at h
      obtain ⟨rfl, hll⟩ := h
      have hll := eq_of_heq hll
      subst hll
      obtain ⟨l0, hH, rfl⟩ := aslRows_some ha
      obtain ⟨l', hH', rfl, hlc, hcm, hfit⟩ := hxv
      replace hH' := hH'.of hH; rw [hH] at hH'
      simp only [Option.some.injEq, AB.arr.injEq, heq_eq_eq, true_and] at hH'
      subst hH'
      obtain ⟨vs, g2, g3, g4⟩ := arr_vals hX hH off len (by omega)
      have hlen : ((l0.drop off).take len).length = len := by rw [List.length_take, List.length_drop]; omega
      exact ⟨_, cap, vs, by rw [hlen], by omega, hcm, g2, g3, .inr ⟨_, _, rfl, g4⟩⟩
  · rename_i row' j off len mn
    cases ha : aslRows X.H row' j off len with
    | none => rw [ha] at h; cases h
    | some r =>
      rw [ha] at h
      simp only [Option.map_some, Option.some.injEq, Sigma.mk.injEq] at h
      obtain ⟨rfl, hll⟩ := h
      have hll := eq_of_heq hll
      subst hll
      obtain ⟨l0, hH, rfl⟩ := aslRows_some ha
      obtain ⟨l', o, cap, hH', rfl, hlc, hcm, hfit, ho, _⟩ := hxv
      replace hH' := hH'.of hH; rw [hH] at hH'
      simp only [Option.some.injEq, AB.arr.injEq, heq_eq_eq, true_and] at hH'
      subst hH'
      obtain ⟨vs, g2, g3, g4⟩ := arr_vals hX hH off len (by omega)
      have hlen : ((l0.drop off).take len).length = len := by rw [List.length_take, List.length_drop]; omega
      refine ⟨_, cap, vs, by rw [hlen], by omega, hcm, g2, g3, ?_⟩
      rcases Nat.eq_zero_or_pos len with h0 | h0
      · exact .inl (by omega)
      · exact .inr ⟨_, _, rfl, by rw [ho h0]; exact g4⟩
  · cases h

theorem flat_get {row : CT} : ∀ (l : List row.den) (j k : Nat), k < row.width → (l.flatMap row.cells)[j * row.width + k]? = (l[j]?).bind fun x => (row.cells x)[k]?
  | [], j, k, h => by simp
  | x :: l, j, k, h => by
    have hx := CT.cells_length row x
    simp only [List.flatMap_cons]
    cases j with
    | zero => rw [List.getElem?_append_left (by omega)]; simp
    | succ j =>
      rw [List.getElem?_append_right (by rw [Nat.add_mul]; omega), hx]
      rw [show (j + 1) * row.width + k - row.width = j * row.width + k from by rw [Nat.add_mul]; omega]
      simpa using flat_get l j k h

theorem flat_len {row : CT} : ∀ (l : List row.den), (l.flatMap row.cells).length = l.length * row.width
  | [] => by simp
  | x :: l => by rw [List.flatMap_cons, List.length_append, CT.cells_length, flat_len l, List.length_cons, Nat.add_mul]; omega

/-- A list's cells, and its values. -/
theorem LRel.pw {X : Ctx} {row : CT} (hpos : 0 < row.width) {l : List row.den} {vs : List Value} (h : LRel row l vs X.IC) : PW (VRc X) (l.flatMap row.cells) vs := by
  refine ⟨by rw [flat_len, h.1], fun q c y hc hy => ?_⟩
  have hq : q = (q / row.width) * row.width + q % row.width := by rw [Nat.mul_comm]; exact (Nat.div_add_mod ..).symm
  have hk : q % row.width < row.width := Nat.mod_lt _ hpos
  rw [hq, flat_get l _ _ hk] at hc
  rw [hq] at hy
  cases hx : l[q / row.width]? with
  | none => rw [hx] at hc; cases hc
  | some x =>
    rw [hx] at hc
    obtain ⟨y', h1, h2⟩ := RelT.cell row x _ (h.2 _ x hx) _ c hc
    rw [hy] at h1
    injection h1 with h1
    subst h1; exact h2

/-- append into the room of an own block. -/
theorem append_csl_ok {X : Ctx} (hX : HRel X) {t ty e : TypeId} {i : TypeInfo} (hu : P.underlying t = some (.slice e)) (hi : P.info? e = some i) {row : CT} (hw : row.width = i.size) (hpos : 0 < i.size) {l2 : List row.den} {vs2 : List Value}
    (hl2 : LRel row l2 vs2 X.IC) (hone2 : ∀ u ∈ vs2, u.oneCell' = true) {j len cap cap2 b2 o2 : Nat} {old : List AC} (hH : X.H j = some (.cells old)) (hmax : cap ≤ maxLen)
    (hc2 : ∀ (k : Nat) u, vs2[k]? = some u → X.w.cell? ⟨b2, o2 + k, none⟩ = some u) (hg : len + l2.length ≤ cap) (hfit : (len + l2.length) * i.size ≤ old.length) :
    ∃ val X', (Builtin.append_ #[t, t] ty #[.slice (some ⟨X.φ j, 0, none⟩) len cap, .slice (some ⟨b2, o2, none⟩) l2.length cap2]).run P X.w = .ok val X'.w ∧ X.le X' ∧ HRel X' ∧
      X'.H = upd X.H j (some (.cells (old.take (len * i.size) ++ (l2.flatMap row.cells ++ old.drop (len * i.size + (l2.flatMap row.cells).length))))) ∧ VR X' (.one (.csl j 0 (len + l2.length) cap)) val := by
  have hnl2 : vs2.length = l2.length * i.size := by rw [hl2.1, hw]
  have hnews : ∀ (j : Nat) u, vs2[j]? = some u → X.w.cell? ((⟨b2, o2, none⟩ : Addr).add j) = some u := fun j u hj => by rw [Addr.add_lit]; exact hc2 j u hj
  have hpw := hl2.pw (X := X) (by omega)
  obtain ⟨w', g1, g2, g3⟩ := put_cells_ok (P := P) hX (off := len * i.size) hH hpw hone2 (by rw [flat_len, hw, ← Nat.add_mul]; exact hfit)
  have hf := run_firstCells_some (P := P) X.w i.size l2.length ⟨b2, o2, none⟩ l2.length cap2 vs2 hnl2 hnews
  refine ⟨.slice (some ⟨X.φ j, 0, none⟩) (len + l2.length) cap, _, ?_, g2, g3, rfl, ⟨⟨_, by simp only [Ctx.put, upd_same]; rfl, rfl⟩, rfl, hg, hmax⟩⟩
  show _ = Result.ok _ w'
  simp [Builtin.append_, run_underlying hu, sizeOf, typeInfo, hi, Builtin.lenOf, hg, hf, Addr.add_lit, g1]

/-- append into the room of an own array of rows. -/
theorem append_arr_ok {X : Ctx} (hX : HRel X) {t ty e : TypeId} {i : TypeInfo} (hu : P.underlying t = some (.slice e)) (hi : P.info? e = some i) {row : CT} (hw : row.width = i.size) {l l2 : List row.den} {vs2 : List Value}
    (hl2 : LRel row l2 vs2 X.IC) (hone2 : ∀ u ∈ vs2, u.oneCell' = true) {j off len cap cap2 b2 o2 : Nat} (hold : X.H j = some (.arr row l)) {sv : Value} (hsv : VRc X (.asl row j off len cap) sv)
    (hc2 : ∀ (k : Nat) u, vs2[k]? = some u → X.w.cell? ⟨b2, o2 + k, none⟩ = some u) (hroom : len + l2.length ≤ cap) :
    ∃ val X', (Builtin.append_ #[t, t] ty #[sv, .slice (some ⟨b2, o2, none⟩) l2.length cap2]).run P X.w = .ok val X'.w ∧ X.le X' ∧ HRel X' ∧
      X'.H = upd X.H j (some (.arr row (l.take (off + len) ++ (l2 ++ l.drop (off + len + l2.length))))) ∧ VR X' (.one (.asl row j off (len + l2.length) cap)) val := by
  obtain ⟨l', hH', rfl, hlc, hcm, hfit⟩ := hsv
  replace hH' := hH'.of hold; rw [hold] at hH'
  simp only [Option.some.injEq, AB.arr.injEq, heq_eq_eq, true_and] at hH'
  subst hH'
  have hnews : ∀ (q : Nat) u, vs2[q]? = some u → X.w.cell? ((⟨b2, o2, none⟩ : Addr).add q) = some u := fun q u hq => by rw [Addr.add_lit]; exact hc2 q u hq
  have hnl2 : vs2.length = l2.length * i.size := by rw [hl2.1, hw]
  have hf := run_firstCells_some (P := P) X.w i.size l2.length ⟨b2, o2, none⟩ l2.length cap2 vs2 hnl2 hnews
  obtain ⟨w', g1, g2, g3⟩ := put_arr_ok (P := P) hX (p := off + len) hold hl2 hone2 (by omega)
  refine ⟨.slice (some ⟨X.φ j, off * row.width, none⟩) (len + l2.length) cap, _, ?_, g2, g3, rfl, ⟨l.take (off + len) ++ (l2 ++ l.drop (off + len + l2.length)), .inl (by simp only [Ctx.put, upd_same]), rfl, hroom, hcm, ?_⟩⟩
  · show _ = Result.ok _ w'
    rw [Nat.add_mul, hw] at g1
    simp [Builtin.append_, run_underlying hu, sizeOf, typeInfo, hi, Builtin.lenOf, hroom, hf, Addr.add_lit, hw, g1]
  · simp only [List.length_append, List.length_take, List.length_drop]; omega
theorem append_bsl_ok {X : Ctx} (hX : HRel X) {t ty e : TypeId} {i : TypeInfo} (hu : P.underlying t = some (.slice e)) (hi : P.info? e = some i) {row : CT} (hw : row.width = i.size) {l l2 : List row.den} {vs2 : List Value}
    (hl2 : LRel row l2 vs2 X.IC) (hone2 : ∀ u ∈ vs2, u.oneCell' = true) {j off len mn cap2 b2 o2 : Nat} (hold : X.H j = some (.arr row l)) {sv : Value} (hsv : VRc X (.bsl row j off len mn) sv)
    (hc2 : ∀ (k : Nat) u, vs2[k]? = some u → X.w.cell? ⟨b2, o2 + k, none⟩ = some u) (hroom : len + l2.length ≤ mn) (hp2 : 0 < l2.length) :
    ∃ val X', (Builtin.append_ #[t, t] ty #[sv, .slice (some ⟨b2, o2, none⟩) l2.length cap2]).run P X.w = .ok val X'.w ∧ X.le X' ∧ HRel X' ∧
      X'.H = upd X.H j (some (.arr row (l.take (off + len) ++ (l2 ++ l.drop (off + len + l2.length))))) ∧ VR X' (.one (.bsl row j off (len + l2.length) mn)) val := by
  obtain ⟨l', o, cap, hH', rfl, hlc, hcm, hfit, ho, b1, b2', b3, b4, b5⟩ := hsv
  replace hH' := hH'.of hold; rw [hold] at hH'
  simp only [Option.some.injEq, AB.arr.injEq, heq_eq_eq, true_and] at hH'
  subst hH'
  have ho' := b4 (by omega)
  subst ho'
  have hnews : ∀ (q : Nat) u, vs2[q]? = some u → X.w.cell? ((⟨b2, o2, none⟩ : Addr).add q) = some u := fun q u hq => by rw [Addr.add_lit]; exact hc2 q u hq
  have hnl2 : vs2.length = l2.length * i.size := by rw [hl2.1, hw]
  have hf := run_firstCells_some (P := P) X.w i.size l2.length ⟨b2, o2, none⟩ l2.length cap2 vs2 hnl2 hnews
  obtain ⟨w', g1, g2, g3⟩ := put_arr_ok (P := P) hX (p := off + len) hold hl2 hone2 (by omega)
  have hroom' : len + l2.length ≤ cap := by omega
  have hll : (l.take (off + len) ++ (l2 ++ l.drop (off + len + l2.length))).length = l.length := by
    simp only [List.length_append, List.length_take, List.length_drop]; omega
  refine ⟨.slice (some ⟨X.φ j, off * row.width, none⟩) (len + l2.length) cap, _, ?_, g2, g3, rfl, ⟨l.take (off + len) ++ (l2 ++ l.drop (off + len + l2.length)), off * row.width, cap, .inl (by simp only [Ctx.put, upd_same]), rfl, hroom', hcm, by omega, fun _ => rfl, by omega, by omega, by omega, fun _ => rfl, b5⟩⟩
  show _ = Result.ok _ w'
  rw [Nat.add_mul, hw] at g1
  simp [Builtin.append_, run_underlying hu, sizeOf, typeInfo, hi, Builtin.lenOf, hroom', hf, Addr.add_lit, hw, g1]
/-! #### What is put behind an own array: it may lie elsewhere then -/
/-- The own block j is given up, and what lies there stands as block n. -/
def Ctx.mov (X : Ctx) (j n : Nat) (b : AB) (w' : World) : Ctx := { X with φ := upd X.φ n (X.φ j), ca := upd X.ca n (X.ca j), H := upd (upd X.H j (some .dead)) n (some b), w := w' }
section
variable {X : Ctx} {j n : Nat} {b0 b : AB} {w' : World}
theorem mov_old (hn : X.H n = none) {i : Nat} {c : AB} (h : (X.mov j n b w').H i = some c) (hi : i ≠ n) (hc : c.loc = true) : i ≠ j ∧ X.H i = some c := by
  simp only [Ctx.mov, upd_other _ _ hi] at h
  by_cases e : i = j
  · subst e; rw [upd_same] at h; injection h with h; subst h; cases hc
  · rw [upd_other _ _ e] at h; exact ⟨e, h⟩
theorem mov_φ {i : Nat} (hi : i ≠ n) : (X.mov j n b w').φ i = X.φ i := by simp only [Ctx.mov, upd_other _ _ hi]
theorem mov_le (hX : HRel X) (hj : X.H j = some b0) (hl : b0.wr = true) (hn : X.H n = none) (ho : OneBlock X j w') : X.le (X.mov j n b w') := by
  have ne : ∀ i c, X.H i = some c → i ≠ n := fun i c h e => by subst e; rw [hn] at h; cases h
  refine ⟨fun a y h => ?_, fun i c hi hc => ?_, fun i row l hi => ?_, fun i hi => ?_, fun i c hi hc => ?_, fun i t v hi => ?_, rfl, rfl, rfl, ho.drawn⟩
  · obtain ⟨h1, h2, h3, h4, h5⟩ := h
    have hblk : w'.heap[a.block]? = X.w.heap[a.block]? := ho.other _ (fun e => h4 j b0 hj hl e.symm)
    refine ⟨h1, h2, holds_of_block hblk h3, fun i c hi hc => ?_, h5.1, (frozen_of_block hblk).trans h5.2⟩
    by_cases e : i = n
    · subst e; simp only [Ctx.mov, upd_same]; exact h4 j b0 hj hl
    · rw [mov_φ e]; exact h4 i c (mov_old hn hi e (AB.loc_of hc)).2 hc
  · refine ⟨?_, mov_φ (ne i c hi)⟩
    simp only [Ctx.mov, upd_other _ _ (ne i c hi)]
    by_cases e : i = j
    · subst e; exact ⟨.dead, by rw [upd_same], rfl⟩
    · exact ⟨c, by rw [upd_other _ _ e]; exact hi, hc⟩
  · simp only [Ctx.mov, upd_other _ _ (ne i _ hi)]
    by_cases e : i = j
    · subst e; exact .inr (by rw [upd_same])
    · exact .inl ⟨l, by rw [upd_other _ _ e]; exact hi, rfl⟩
  · simp only [Ctx.mov, upd_other _ _ (ne i _ hi)]
    by_cases e : i = j
    · subst e; rw [upd_same]
    · rw [upd_other _ _ e]; exact hi
  · simp only [Ctx.mov, upd_other _ _ (ne i _ hi)]
  · have e : i ≠ j := fun e => by subst e; rw [hj] at hi; injection hi with hi; subst hi; cases hl
    refine ⟨v, by simp only [Ctx.mov, upd_other _ _ (ne i _ hi), upd_other _ _ e]; exact hi, Nat.le_refl _, fun _ => ⟨mov_φ (ne i _ hi), fun t p q ⟨t1, t2, c, mk, t3, t4⟩ => ?_⟩⟩
    have hφ : (X.mov j n b w').φ i = X.φ i := mov_φ (ne i _ hi)
    exact ⟨t1, by rw [hφ]; exact t2, c, mk, by rw [hφ]; exact (ho.other _ (fun ee => hX.injm j b0 i hj (AB.loc_of hl) t1 ee.symm)).trans t3, t4⟩
theorem mov_rel (hX : HRel X) (hj : X.H j = some b0) (hl : b0.wr = true) (hn : X.H n = none) (ho : OneBlock X j w') (hb : BRel (X.mov j n b w') n b) : HRel (X.mov j n b w') := by
  have hle := mov_le (b := b) hX hj hl hn ho
  have φn : (X.mov j n b w').φ n = X.φ j := by simp only [Ctx.mov, upd_same]
  have ht : ∀ i, X.tl i → i ≠ n := fun i hi e => by subst e; exact hX.tlH i hi hn
  refine ⟨fun i k c d hi hk hc hd hne => ?_, fun i k hi hk hne => ?_, fun i c k hi hc hk => ?_, fun i c hi hc => ?_, fun i hi => ?_, fun i c hi hc => ?_, fun i hi => ?_, fun i hi => ?_, fun a e he => ?_, fun i c hi => ?_, fun k hk hlk => ?_,
    ho.os.trans hX.os, ho.tape.trans hX.tape, ho.output.trans hX.output, ?_, fun a y h => hle.ic a y (hX.old a y h)⟩
  · by_cases ei : i = n
    · have ek : k ≠ n := fun e => hne (ei.trans e.symm)
      obtain ⟨k1, k2⟩ := mov_old hn hk ek hd
      rw [ei, φn, mov_φ ek]
      exact hX.inj j k b0 d hj k2 (AB.loc_of hl) hd (fun e => k1 e.symm)
    · obtain ⟨i1, i2⟩ := mov_old hn hi ei hc
      by_cases ek : k = n
      · rw [ek, φn, mov_φ ei]; exact hX.inj i j c b0 i2 hj hc (AB.loc_of hl) i1
      · obtain ⟨k1, k2⟩ := mov_old hn hk ek hd
        rw [mov_φ ei, mov_φ ek]; exact hX.inj i k c d i2 k2 hc hd hne
  · rw [mov_φ (ht i hi), mov_φ (ht k hk)]; exact hX.injt i k hi hk hne
  · rw [mov_φ (ht k hk)]
    by_cases ei : i = n
    · rw [ei, φn]; exact hX.injm j b0 k hj (AB.loc_of hl) hk
    · rw [mov_φ ei]; exact hX.injm i c k (mov_old hn hi ei hc).2 hc hk
  · by_cases ei : i = n
    · rw [ei, φn]; exact hX.place j b0 hj hl
    · rw [mov_φ ei]; exact hX.place i c (mov_old hn hi ei (AB.loc_of hc)).2 hc
  · rw [mov_φ (ht i hi)]; exact hX.placet i hi
  · show _ < w'.heap.size
    rw [ho.size]
    by_cases ei : i = n
    · rw [ei, φn]; exact hX.ltl j b0 hj (AB.loc_of hl)
    · rw [mov_φ ei]
      simp only [Ctx.mov, upd_other _ _ ei] at hi
      by_cases e : i = j
      · subst e; exact hX.ltl i b0 hj (AB.loc_of hl)
      · rw [upd_other _ _ e] at hi; exact hX.lt i c hi hc
  · show _ < w'.heap.size
    rw [ho.size, mov_φ (ht i hi)]; exact hX.ltt i hi
  · simp only [Ctx.mov, upd_other _ _ (ht i hi)]
    by_cases e : i = j
    · subst e; rw [upd_same]; simp
    · rw [upd_other _ _ e]; exact hX.tlH i hi
  · show _ < w'.heap.size
    rw [ho.size]; exact hX.frlt a e he
  · by_cases ei : i = n
    · subst ei
      simp only [Ctx.mov, upd_same, Option.some.injEq] at hi
      subst hi; exact hb
    · cases hm : c.loc with
      | true =>
        obtain ⟨i1, i2⟩ := mov_old hn hi ei hm
        exact BRel.mono hle (mov_φ ei) (hle.ca i c i2 (AB.pt_of hm)) (ho.other _ (hX.inj i j c b0 i2 hj hm (AB.loc_of hl) i1)) (hX.blk i c i2)
      | false => cases c <;> first | trivial | cases hm
  · refine (ho.other k ?_).trans (hX.below k hk hlk)
    intro e
    rcases hX.place j b0 hj hl with h | h
    · have hk' : k < X.w0.heap.size := hk
      omega
    · exact hlk (by rw [e]; exact h)
  · show X.w0.heap.size ≤ w'.heap.size
    rw [ho.size]; exact hX.size
/-- The own block j is given up. -/
def Ctx.kill (X : Ctx) (j : Nat) : Ctx := { X with H := upd X.H j (some .dead) }
theorem kill_le (hX : HRel X) (hj : X.H j = some b0) (hl : b0.loc = true) : X.le (X.kill j) := by
  have old : ∀ {i : Nat} {c : AB}, (X.kill j).H i = some c → c.loc = true → i ≠ j ∧ X.H i = some c := fun {i c} h hc => by
    by_cases e : i = j
    · subst e; simp only [Ctx.kill, upd_same, Option.some.injEq] at h; subst h; cases hc
    · simp only [Ctx.kill, upd_other _ _ e] at h; exact ⟨e, h⟩
  refine ⟨fun a y h => ?_, fun i c hi hc => ?_, fun i row l hi => ?_, fun i hi => ?_, fun _ _ _ _ => rfl, fun i t v hi => ?_, rfl, rfl, rfl, Nat.le_refl _⟩
  · obtain ⟨h1, h2, h3, h4, h5⟩ := h
    exact ⟨h1, h2, h3, fun i c hi hc => h4 i c (old hi (AB.loc_of hc)).2 hc, h5⟩
  · by_cases e : i = j
    · subst e; exact ⟨⟨.dead, by simp only [Ctx.kill, upd_same], rfl⟩, rfl⟩
    · exact ⟨⟨c, by simp only [Ctx.kill, upd_other _ _ e]; exact hi, hc⟩, rfl⟩
  · by_cases e : i = j
    · subst e; exact .inr (by simp only [Ctx.kill, upd_same])
    · exact .inl ⟨l, by simp only [Ctx.kill, upd_other _ _ e]; exact hi, rfl⟩
  · by_cases e : i = j
    · subst e; simp only [Ctx.kill, upd_same]
    · simp only [Ctx.kill, upd_other _ _ e]; exact hi
  · have e : i ≠ j := fun e => by subst e; rw [hj] at hi; injection hi with hi; subst hi; cases hl
    exact ⟨v, by simp only [Ctx.kill, upd_other _ _ e]; exact hi, Nat.le_refl _, fun _ => ⟨rfl, fun _ _ _ h => h⟩⟩
theorem kill_rel (hX : HRel X) (hj : X.H j = some b0) (hl : b0.loc = true) : HRel (X.kill j) := by
  have hle := kill_le hX hj hl
  have old : ∀ {i : Nat} {c : AB}, (X.kill j).H i = some c → c.loc = true → i ≠ j ∧ X.H i = some c := fun {i c} h hc => by
    by_cases e : i = j
    · subst e; simp only [Ctx.kill, upd_same, Option.some.injEq] at h; subst h; cases hc
    · simp only [Ctx.kill, upd_other _ _ e] at h; exact ⟨e, h⟩
  refine ⟨fun i k c d hi hk hc hd hne => hX.inj i k c d (old hi hc).2 (old hk hd).2 hc hd hne, hX.injt, fun i c k hi hc hk => hX.injm i c k (old hi hc).2 hc hk,
    fun i c hi hc => hX.place i c (old hi (AB.loc_of hc)).2 hc, hX.placet, fun i c hi hc => ?_, hX.ltt, fun i hi => ?_, hX.frlt, fun i c hi => ?_, hX.below, hX.os, hX.tape, hX.output, hX.size, fun a y h => hle.ic a y (hX.old a y h)⟩
  · by_cases e : i = j
    · subst e; exact hX.ltl i b0 hj hl
    · simp only [Ctx.kill, upd_other _ _ e] at hi; exact hX.lt i c hi hc
  · by_cases e : i = j
    · subst e; simp [Ctx.kill, upd_same]
    · simp only [Ctx.kill, upd_other _ _ e]; exact hX.tlH i hi
  · by_cases e : i = j
    · subst e; simp only [Ctx.kill, upd_same, Option.some.injEq] at hi; subst hi; trivial
    · simp only [Ctx.kill, upd_other _ _ e] at hi; exact BRel.mono hle rfl rfl rfl (hX.blk i c hi)
end

theorem append_move_ok {X : Ctx} (hX : HRel X) {t ty e : TypeId} {i : TypeInfo} {z : Value} (hu : P.underlying t = some (.slice e)) (hi : P.info? e = some i) (hzi : i.zero = some z) (hzs : z.cells.size = i.size) {row : CT} (hw : row.width = i.size) {l l2 : List row.den} {vs2 : List Value}
    (hl2 : LRel row l2 vs2 X.IC) (hone2 : ∀ u ∈ vs2, u.oneCell' = true) {j len mn cap2 b2 o2 : Nat} (hold : X.H j = some (.arr row l)) {sv : Value} (hsv : VRc X (.bsl row j 0 len mn) sv) (hmn : 0 < mn)
    (hc2 : ∀ (k : Nat) u, vs2[k]? = some u → X.w.cell? ⟨b2, o2 + k, none⟩ = some u) (hsm1 : (len + l2.length) * i.bytes ≤ 140737488355328) (hsm2 : len + l2.length ≤ maxLen) {nid : Nat} (hnid : X.H nid = none) :
    ∃ val X', (Builtin.append_ #[t, t] ty #[sv, .slice (some ⟨b2, o2, none⟩) l2.length cap2]).run P X.w = .ok val X'.w ∧ X.le X' ∧ HRel X' ∧
      X'.H = upd (upd X.H j (some .dead)) nid (some (.arr row (l.take len ++ l2))) ∧ VR X' (.one (.bsl row nid 0 (len + l2.length) (len + l2.length))) val := by
  obtain ⟨l', o, cap, hH', rfl, hlc, hcm, hfit, ho, b1, b2', b3, b4, b5⟩ := hsv
  replace hH' := hH'.of hold; rw [hold] at hH'
  simp only [Option.some.injEq, AB.arr.injEq, heq_eq_eq, true_and] at hH'
  subst hH'
  have ho' := b4 hmn
  rw [Nat.zero_mul] at ho'
  subst ho'
  have hnj : j ≠ nid := fun e => by subst e; rw [hnid] at hold; cases hold
  have hnews : ∀ (q : Nat) u, vs2[q]? = some u → X.w.cell? ((⟨b2, o2, none⟩ : Addr).add q) = some u := fun q u hq => by rw [Addr.add_lit]; exact hc2 q u hq
  have hnl2 : vs2.length = l2.length * i.size := by rw [hl2.1, hw]
  have hlt : (l.take len).length = len := by rw [List.length_take]; omega
  have hll : (l.take len ++ l2).length = len + l2.length := by rw [List.length_append, hlt]
  by_cases hroom : len + l2.length ≤ cap
  · obtain ⟨c, t', h1, ⟨h2, hmk, hca⟩, h3⟩ := hX.blk j _ hold
    have hfitc : (len + l2.length) * row.width ≤ c.size := by
      rw [hca]
      exact Nat.le_trans (Nat.mul_le_mul_right _ hroom) (by omega)
    rw [Nat.add_mul] at hfitc
    have hf := run_firstCells_some (P := P) X.w i.size l2.length ⟨b2, o2, none⟩ l2.length cap2 vs2 hnl2 hnews
    have hst := run_storeCells_m P t'.2 (X.φ j) t'.1 vs2 X.w (len * row.width) 0 c hmk h1 (by rw [hl2.1]; omega) hone2
    obtain ⟨c', g1, g2, g3, g4, g5, g6, g7, g8⟩ := setCells_heap_m t'.2 (X.φ j) t'.1 vs2 X.w (len * row.width) c h1 (by rw [hl2.1]; omega)
    rw [Nat.add_zero] at hst
    have hob : OneBlock X j (setCells X.w (X.φ j) (len * row.width) vs2) := ⟨g4, g5, g6, g7, g8, by rw [setCells_drawn]; exact Nat.le_refl _⟩
    have hle := mov_le (b := .arr row (l.take len ++ l2)) hX hold rfl hnid hob
    have hmono : ∀ (t : CT) (v : t.den) (C : Nat → Value → Prop), RelT t v C X.IC → RelT t v C (X.mov j nid (.arr row (l.take len ++ l2)) (setCells X.w (X.φ j) (len * row.width) vs2)).IC :=
      fun t v C h => RelT.mono t v (fun _ _ h => h) (fun a y h => hle.ic a y h) h
    have hb : BRel (X.mov j nid (.arr row (l.take len ++ l2)) (setCells X.w (X.φ j) (len * row.width) vs2)) nid (.arr row (l.take len ++ l2)) := by
      refine ⟨c', t', by simp only [Ctx.mov, upd_same]; exact g1, ⟨by rw [hll, g2, Nat.add_mul]; exact hfitc, by rw [g2]; exact hmk, by rw [g2, hca]; simp only [Ctx.mov, upd_same]⟩, fun q x hq => ?_⟩
      by_cases e1 : q < len
      · rw [List.getElem?_append_left (by omega), List.getElem?_take_of_lt e1] at hq
        refine RelT.mono_lt0 row x (fun k y hk hy => ?_) (fun _ _ h => h) (hmono _ _ _ (h3 q x hq))
        have : (q + 1) * row.width ≤ len * row.width := Nat.mul_le_mul_right _ e1
        rw [Nat.add_mul] at this
        rw [g3, if_neg (by omega)]; exact hy
      · rw [List.getElem?_append_right (by omega), hlt] at hq
        refine RelT.mono_lt0 row x (fun k y hk hy => ?_) (fun _ _ h => h) (hmono _ _ _ (hl2.2 (q - len) x hq))
        have e2 : q - len < l2.length := (List.getElem?_eq_some_iff.1 hq).1
        have h4 : (q - len + 1) * row.width ≤ l2.length * row.width := Nat.mul_le_mul_right _ e2
        rw [Nat.add_mul] at h4
        have h5 : q * row.width = len * row.width + (q - len) * row.width := by rw [← Nat.add_mul]; congr 1; omega
        rw [g3, if_pos (by rw [hl2.1]; omega), ← hy]; congr 1; omega
    refine ⟨.slice (some ⟨X.φ j, 0, none⟩) (len + l2.length) cap, X.mov j nid (.arr row (l.take len ++ l2)) (setCells X.w (X.φ j) (len * row.width) vs2), ?_, hle, mov_rel hX hold rfl hnid hob hb, rfl, ?_⟩
    · rw [hw] at hst
      show _ = Result.ok _ (setCells X.w (X.φ j) (len * row.width) vs2)
      simp [Builtin.append_, run_underlying hu, sizeOf, typeInfo, hi, Builtin.lenOf, hroom, hf, Addr.add_lit, hw, hst]
    · refine ⟨l.take len ++ l2, 0, cap, .inl (by simp only [Ctx.mov, upd_same]), by simp only [Ctx.mov, upd_same], hroom, hcm, by omega, fun _ => by omega, Nat.le_refl _, hroom, by omega, fun _ => by omega, ?_⟩
      simp only [Ctx.mov, upd_same]; omega
  · have hmx : len + l2.length ≤ 9223372036854775807 := by simp only [maxLen] at hsm2; omega
    obtain ⟨vs, q2, q3, q4⟩ := arr_vals hX hold 0 len (by omega)
    have hvl : vs.length = len * i.size := by rw [q2.1, List.drop_zero, hlt, hw]
    have hrun := run_append_grow (P := P) X.w t ty e i z hu hi hzi ⟨X.φ j, 0, none⟩ len cap vs hvl (fun k u hk => by rw [Addr.add_lit]; have := q4 k u hk; rw [Nat.zero_mul] at this; exact this) ⟨b2, o2, none⟩ l2.length cap2 vs2 hnl2 hnews (by omega) (by omega) (growslice_fits (by omega) hsm1)
    have hge := grownCap_ge X.w (len + l2.length) cap e
    have hcm2 := grownCap_le_maxLen X.w (len + l2.length) cap e hsm2
    have hb0 : Below X.w.heap.size X.w X.w.drew := ⟨rfl, rfl, rfl, Nat.le_refl _, fun _ _ => rfl⟩
    have hX1 := hX.withW hb0 (Nat.le_refl _)
    have hle1 := withW_le hX hb0 (Nat.le_refl _)
    have hn1 : (X.withW X.w.drew).H nid = none := hnid
    let ob : Obj := .cells (vs.toArray ++ vs2.toArray ++ Builtin.zeroCells z.cells (grownCap X.w (len + l2.length) cap e - (len + l2.length))) e
    have hsize : (vs.toArray ++ vs2.toArray ++ Builtin.zeroCells z.cells (grownCap X.w (len + l2.length) cap e - (len + l2.length))).size = grownCap X.w (len + l2.length) cap e * row.width := by
      simp only [Array.size_append, List.size_toArray, size_zeroCells, hzs, hvl, hnl2, hw, ← Nat.add_mul]
      congr 1; omega
    have hle2 := push_le hX1 hn1 (.arr row (l.take len ++ l2)) rfl ob
    have hlr : LRel row (l.take len ++ l2) (vs ++ vs2) X.IC := by
      have := q2.append hl2
      rwa [List.drop_zero] at this
    have hb : BRel ((X.withW X.w.drew).push nid (.arr row (l.take len ++ l2)) ob) nid (.arr row (l.take len ++ l2)) := by
      refine ⟨_, (e, (0, 0)), ?_, ⟨?_, fun k _ => by simp, by simp only [Ctx.push, upd_same]; rfl⟩, fun q y hq => ?_⟩
      · simp only [Ctx.push, upd_same]
        exact heap_alloc_new _ _
      · rw [hsize, hll]; exact Nat.mul_le_mul_right _ hge
      · refine RelT.mono_lt row y (fun k u hk hu => ?_) (fun a u ha => hle2.ic _ _ (hle1.ic _ _ ha)) (hlr.2 q y hq)
        have hql : q < (l.take len ++ l2).length := (List.getElem?_eq_some_iff.1 hq).1
        have hlt2 : q * row.width + k < (vs ++ vs2).length := by
          have : (q + 1) * row.width ≤ (l.take len ++ l2).length * row.width := Nat.mul_le_mul_right _ hql
          rw [Nat.add_mul] at this
          rw [hlr.1]; omega
        rw [Array.getElem?_append_left (by simpa using hlt2)]
        simpa using hu
    have hX2 := HRel.push hX1 hn1 (.arr row (l.take len ++ l2)) rfl ob hb
    have hj2 : ((X.withW X.w.drew).push nid (.arr row (l.take len ++ l2)) ob).H j = some (.arr row l) := by
      simp only [Ctx.push, upd_other _ _ hnj]; exact hold
    refine ⟨_, ((X.withW X.w.drew).push nid (.arr row (l.take len ++ l2)) ob).kill j, hrun, (hle1.trans hle2).trans (kill_le hX2 hj2 rfl), kill_rel hX2 hj2 rfl, ?_, ?_⟩
    · funext k
      simp only [Ctx.kill, Ctx.push]
      by_cases e1 : k = nid
      · subst e1; rw [upd_other _ _ (fun e => hnj e.symm), upd_same, upd_same]
      · rw [upd_other _ _ e1]
        by_cases e2 : k = j
        · subst e2; rw [upd_same, upd_same]
        · rw [upd_other _ _ e2, upd_other _ _ e1, upd_other _ _ e2]; rfl
    · refine ⟨l.take len ++ l2, 0, _, .inl (by simp only [Ctx.kill, upd_other _ _ (fun e => hnj e.symm), Ctx.push, upd_same]), by simp only [Ctx.kill, Ctx.push, upd_same]; rfl, hge, hcm2, by omega, fun _ => by omega, Nat.le_refl _, hge, by omega, fun _ => by omega, ?_⟩
      simp only [Ctx.kill, Ctx.push, upd_same]
      show 0 + _ ≤ (vs.toArray ++ vs2.toArray ++ Builtin.zeroCells z.cells (grownCap X.w (len + l2.length) cap e - (len + l2.length))).size
      rw [hsize]; omega
theorem append_arr_grow {X : Ctx} (hX : HRel X) {t ty e : TypeId} {i : TypeInfo} {z : Value} (hu : P.underlying t = some (.slice e)) (hi : P.info? e = some i) (hzi : i.zero = some z) (hzs : z.cells.size = i.size) {row : CT} (hw : row.width = i.size) {l l2 : List row.den} {vs2 : List Value}
    (hl2 : LRel row l2 vs2 X.IC) {j off len cap cap2 b2 o2 : Nat} (hold : X.H j = some (.arr row l)) {sv : Value} (hsv : VRc X (.asl row j off len cap) sv)
    (hc2 : ∀ (k : Nat) u, vs2[k]? = some u → X.w.cell? ⟨b2, o2 + k, none⟩ = some u) (hroom : cap < len + l2.length) (hsm1 : (len + l2.length) * i.bytes ≤ 140737488355328) (hsm2 : len + l2.length ≤ maxLen) {nid : Nat} (hnid : X.H nid = none) :
    ∃ val X', (Builtin.append_ #[t, t] ty #[sv, .slice (some ⟨b2, o2, none⟩) l2.length cap2]).run P X.w = .ok val X'.w ∧ X.le X' ∧ HRel X' ∧
      X'.H = upd X.H nid (some (.tok e 0)) ∧ VR X' (.one (.sl row ((l.drop off).take len ++ l2) (.own nid 0))) val := by
  obtain ⟨l', hH', rfl, hlc, hcm, hfit⟩ := hsv
  replace hH' := hH'.of hold; rw [hold] at hH'
  simp only [Option.some.injEq, AB.arr.injEq, heq_eq_eq, true_and] at hH'
  subst hH'
  obtain ⟨vs, g2, g3, g4⟩ := arr_vals hX hold off len (by omega)
  have hlen : ((l.drop off).take len).length = len := by rw [List.length_take, List.length_drop]; omega
  have hgr := append_grow_ok (P := P) (t := t) (ty := ty) hX hu hi hzi hzs hw g2 hl2 (A := some ⟨X.φ j, off * row.width, none⟩) (cap := cap) (cap2 := cap2) (fun e => by cases e) (by omega) (.inr ⟨_, _, rfl, g4⟩) hc2 (by omega) (by rw [hlen]; exact hsm1) (by rw [hlen]; exact hsm2) (k := nid) (ver := 0) (.inl hnid)
  rw [hlen] at hgr
  exact hgr

set_option maxHeartbeats 1000000 in
theorem aappend_ok {X : Ctx} (hX : HRel X) {t : TypeId} {nid : Nat} (hnid : X.H nid = none) {s x : AC} {os : List Bool} {v : AV} {ups : List (Nat × AB)} {cs r : List Bool} {sv xv : Value}
    (h : aappend P t X.H nid s x os = some (v, ups, cs, r)) (hcs : ∀ c ∈ cs, c = true) (hsv : VRc X s sv) (hxv : VRc X x xv) (ty : TypeId) :
    ∃ val X', (Builtin.append_ #[t, t] ty #[sv, xv]).run P X.w = .ok val X'.w ∧ X.le X' ∧ HRel X' ∧ X'.H = ups.foldl (fun H p => upd H p.1 (some p.2)) X.H ∧ VR X' v val := by
  have same : ∀ {e i n A}, P.underlying t = some (.slice e) → P.info? e = some i → xv = .slice A 0 n → (∃ B m cap, sv = .slice B m cap ∧ m ≤ cap) → VR X (.one s) sv →
      ∃ val X', (Builtin.append_ #[t, t] ty #[sv, xv]).run P X.w = .ok val X'.w ∧ X.le X' ∧ HRel X' ∧ X'.H = X.H ∧ VR X' (.one s) val := by
    rintro e i n A hu hi rfl ⟨B, m, cap, rfl, hc⟩ hv
    exact ⟨_, X, append_nils t ty e i hu hi B m cap n A hc X.w (fun _ _ => trivial), .refl X, hX, rfl, hv⟩
  unfold aappend at h
  split at h
  · rename_i e hu
    cases hxv
    split at h
    · rename_i i hi
      simp only [Option.some.injEq, Prod.mk.injEq] at h
      obtain ⟨rfl, rfl, rfl, rfl⟩ := h
      have hsv' := hsv
      cases hsv
      exact same hu hi rfl ⟨_, _, _, rfl, Nat.le_refl _⟩ hsv'
    · rename_i i row l m hi
      simp only [Option.some.injEq, Prod.mk.injEq] at h
      obtain ⟨rfl, rfl, rfl, rfl⟩ := h
      have hsv' := hsv
      obtain ⟨A, n, cap, rfl, _, hc, _⟩ := hsv
      exact same hu hi rfl ⟨_, _, _, rfl, hc⟩ hsv'
    · rename_i i j off len cap hi
      simp only [Option.some.injEq, Prod.mk.injEq] at h
      obtain ⟨rfl, rfl, rfl, rfl⟩ := h
      have hsv' := hsv
      obtain ⟨_, rfl, hc, _⟩ := hsv
      exact same hu hi rfl ⟨_, _, _, rfl, hc⟩ hsv'
    · rename_i i row j off len cap hi
      simp only [Option.some.injEq, Prod.mk.injEq] at h
      obtain ⟨rfl, rfl, rfl, rfl⟩ := h
      have hsv' := hsv
      obtain ⟨_, _, rfl, hc, _⟩ := hsv
      exact same hu hi rfl ⟨_, _, _, rfl, hc⟩ hsv'
    · rename_i i row j off len mn hi
      simp only [Option.some.injEq, Prod.mk.injEq] at h
      obtain ⟨rfl, rfl, rfl, rfl⟩ := h
      have hsv' := hsv
      obtain ⟨_, _, _, _, rfl, hc, _⟩ := hsv
      exact same hu hi rfl ⟨_, _, _, rfl, hc⟩ hsv'
    · cases h
  · rename_i e hu hne
    split at h
    · rename_i i zs row l2 hi hz hrows
      split at h
      · rename_i hcond
        simp only [Bool.and_eq_true, Nat.beq_eq, Nat.blt_eq] at hcond
        obtain ⟨⟨hw, hzl⟩, hpos⟩ := hcond
        obtain ⟨z, hzi, hzp⟩ := azero_info (X := X) hz hi
        have hzs : z.cells.size = i.size := by rw [← Array.length_toList, ← hzp.1]; exact hzl
        obtain ⟨A2, cap2, vs2, rfl, _, _, hl2, hone2, hat2⟩ := rowsIn_vals hX hrows hxv
        split at h
        · rename_i bcs br' hbr
          have hnil : (∀ c ∈ bcs, c = true) → l2.length = 0 := by
            intro hb'
            have hb := br_eq (b := l2.isEmpty) (os := os) (by rw [hbr]; exact hb')
            rw [hbr] at hb
            have h2 : l2 = [] := by simpa using hb.symm
            rw [h2]; rfl
          split at h
          · simp only [Option.some.injEq, Prod.mk.injEq] at h
            obtain ⟨rfl, rfl, rfl, rfl⟩ := h
            have hsv' := hsv
            cases hsv
            exact same hu hi (by rw [hnil hcs]) ⟨_, _, _, rfl, Nat.le_refl _⟩ hsv'
          · simp only [Option.some.injEq, Prod.mk.injEq] at h
            obtain ⟨rfl, rfl, rfl, rfl⟩ := h
            have hsv' := hsv
            obtain ⟨A, n, cap, rfl, _, hc, _⟩ := hsv
            exact same hu hi (by rw [hnil hcs]) ⟨_, _, _, rfl, hc⟩ hsv'
          · simp only [Option.some.injEq, Prod.mk.injEq] at h
            obtain ⟨rfl, rfl, rfl, rfl⟩ := h
            have hsv' := hsv
            obtain ⟨_, rfl, hc, _⟩ := hsv
            exact same hu hi (by rw [hnil hcs]) ⟨_, _, _, rfl, hc⟩ hsv'
          · simp only [Option.some.injEq, Prod.mk.injEq] at h
            obtain ⟨rfl, rfl, rfl, rfl⟩ := h
            have hsv' := hsv
            obtain ⟨_, _, rfl, hc, _⟩ := hsv
            exact same hu hi (by rw [hnil hcs]) ⟨_, _, _, rfl, hc⟩ hsv'
          · simp only [Option.some.injEq, Prod.mk.injEq] at h
            obtain ⟨rfl, rfl, rfl, rfl⟩ := h
            have hsv' := hsv
            obtain ⟨_, _, _, _, rfl, hc, _⟩ := hsv
            exact same hu hi (by rw [hnil hcs]) ⟨_, _, _, rfl, hc⟩ hsv'
          · cases h
        · rename_i bcs br' hbr
          have key : (∀ c ∈ bcs, c = true) → 0 < l2.length ∧ ∃ b2 o2, A2 = some ⟨b2, o2, none⟩ ∧ ∀ (k : Nat) u, vs2[k]? = some u → X.w.cell? ⟨b2, o2 + k, none⟩ = some u := by
            intro hb'
            have hb := br_eq (b := l2.isEmpty) (os := os) (by rw [hbr]; exact hb')
            rw [hbr] at hb
            have hne : l2 ≠ [] := by
              intro e; subst e; simp at hb
            have hp : 0 < l2.length := List.length_pos_iff.2 hne
            exact ⟨hp, hat2.resolve_left (by omega)⟩
          split at h
          · rename_i j off len cap
            obtain ⟨hHj, rfl, hlc, hcm⟩ := hsv
            split at h
            · rename_i old hold
              split at h
              · rename_i hroom
                simp only [Nat.ble_eq] at hroom
                split at h
                · rename_i hfit
                  simp only [Bool.and_eq_true, Nat.beq_eq, Nat.ble_eq] at hfit
                  obtain ⟨⟨rfl, hfit⟩, _⟩ := hfit
                  simp only [Option.some.injEq, Prod.mk.injEq] at h
                  obtain ⟨rfl, rfl, rfl, rfl⟩ := h
                  obtain ⟨hp2, b2, o2, rfl, hc2⟩ := key hcs
                  exact append_csl_ok hX hu hi hw hpos hl2 hone2 hold hcm hc2 hroom hfit
                · cases h
              · rename_i hroom
                simp only [Nat.ble_eq] at hroom
                split at h
                · rename_i row' l hrows'
                  split at h
                  · rename_i hrr
                    have er := CT.eq_of_eqb _ _ hrr
                    subst er
                    simp only [Option.some.injEq, Prod.mk.injEq] at h
                    obtain ⟨rfl, rfl, rfl, rfl⟩ := h
                    obtain ⟨hp2, b2, o2, rfl, hc2⟩ := key (fun c hc => hcs c (List.mem_cons_of_mem _ hc))
                    have hsm := hcs _ (List.mem_cons_self ..)
                    simp only [Bool.and_eq_true, Nat.ble_eq] at hsm
                    obtain ⟨g1, vs, g2, g3, g4⟩ := cslRows_ok hX hrows' hlc hcm
                    subst g1
                    exact append_grow_ok hX hu hi hzi hzs hw g2 hl2 (fun e => by cases e) hlc (.inr ⟨_, _, rfl, g4⟩) hc2 (by omega) hsm.1 hsm.2 (.inl hnid)
                  · cases h
                · cases h
            · cases h
          · rename_i row' j off len cap
            split at h
            · rename_i row'' l hold
              split at h
              · rename_i hr2
                have er2 := CT.eq_of_eqb _ _ hr2
                subst er2
                split at h
                · rename_i hr1
                  have er1 := CT.eq_of_eqb _ _ hr1
                  subst er1
                  split at h
                  · rename_i c2 r2 hbr2
                    simp only [Option.some.injEq, Prod.mk.injEq] at h
                    obtain ⟨rfl, rfl, rfl, rfl⟩ := h
                    have hroom := br_eq (b := Nat.ble (len + l2.length) cap) (os := br') (by rw [hbr2]; intro q hq; exact hcs q (List.mem_append_left _ hq))
                    rw [hbr2] at hroom
                    have hroom' : len + l2.length ≤ cap := by
                      simp only [Eq.comm (a := true), Nat.ble_eq] at hroom; exact hroom
                    obtain ⟨hp2, b2, o2, rfl, hc2⟩ := key (fun c hc => hcs c (List.mem_append_right _ hc))
                    exact append_arr_ok hX hu hi hw hl2 hone2 hold hsv hc2 hroom'
                  · rename_i c2 r2 hbr2
                    simp only [Option.some.injEq, Prod.mk.injEq] at h
                    obtain ⟨rfl, rfl, rfl, rfl⟩ := h
                    have hroom := br_eq (b := Nat.ble (len + l2.length) cap) (os := br') (by rw [hbr2]; intro q hq; exact hcs q (List.mem_cons_of_mem _ (List.mem_append_left _ hq)))
                    rw [hbr2] at hroom
                    have hroom' : cap < len + l2.length := by
                      rcases Nat.lt_or_ge cap (len + l2.length) with hh | hh
                      · exact hh
                      · have := Nat.ble_eq_true_of_le hh
                        rw [this] at hroom; cases hroom
                    obtain ⟨hp2, b2, o2, rfl, hc2⟩ := key (fun c hc => hcs c (List.mem_cons_of_mem _ (List.mem_append_right _ hc)))
                    have hsm := hcs _ (List.mem_cons_self ..)
                    simp only [Bool.and_eq_true, Nat.ble_eq] at hsm
                    exact append_arr_grow hX hu hi hzi hzs hw hl2 hold hsv hc2 hroom' hsm.1 hsm.2 hnid
                · cases h
              · cases h
            · cases h
          · rename_i row' j off len mn
            split at h
            · rename_i row'' l hold
              split at h
              · rename_i hrr
                have er := CT.eq_of_eqb _ _ hrr
                subst er
                split at h
                · rename_i hrr2
                  have er2 := CT.eq_of_eqb _ _ hrr2
                  subst er2
                  split at h
                  · rename_i c2 r2 hbr2
                    simp only [Option.some.injEq, Prod.mk.injEq] at h
                    obtain ⟨rfl, rfl, rfl, rfl⟩ := h
                    have hroom := br_eq (b := Nat.ble (len + l2.length) mn) (os := br') (by rw [hbr2]; intro q hq; exact hcs q (List.mem_append_left _ hq))
                    rw [hbr2] at hroom
                    have hroom' : len + l2.length ≤ mn := by
                      simp only [Eq.comm (a := true), Nat.ble_eq] at hroom; exact hroom
                    obtain ⟨hp2, b2, o2, rfl, hc2⟩ := key (fun c hc => hcs c (List.mem_append_right _ hc))
                    exact append_bsl_ok hX hu hi hw hl2 hone2 hold hsv hc2 hroom' hp2
                  · rename_i c2 r2 hbr2
                    split at h
                    · rename_i hoff
                      simp only [Nat.beq_eq] at hoff
                      subst hoff
                      simp only [Option.some.injEq, Prod.mk.injEq] at h
                      obtain ⟨rfl, rfl, rfl, rfl⟩ := h
                      have hmn := hcs _ (List.mem_cons_self ..)
                      simp only [Nat.blt_eq] at hmn
                      have hsm := hcs _ (List.mem_cons_of_mem _ (List.mem_cons_self ..))
                      simp only [Bool.and_eq_true, Nat.ble_eq] at hsm
                      obtain ⟨hp2, b2, o2, rfl, hc2⟩ := key (fun c hc => hcs c (List.mem_cons_of_mem _ (List.mem_cons_of_mem _ (List.mem_append_right _ hc))))
                      exact append_move_ok hX hu hi hzi hzs hw hl2 hone2 hold hsv hmn hc2 hsm.1 hsm.2 hnid
                    · cases h
                · cases h
              · cases h
            · cases h
          · split at h
            · cases h
            · rename_i l m hsl
              have hsl' := slOf_rel hsl hsv
              obtain ⟨A, cap, vs, hsv2, hcap, hmax, hl, hone, hat⟩ := sl_vals hsl'
              split at h
              · simp only [Option.some.injEq, Prod.mk.injEq] at h
                obtain ⟨rfl, rfl, rfl, rfl⟩ := h
                obtain ⟨hp2, b2, o2, rfl, hc2⟩ := key (fun c hc => hcs c (List.mem_cons_of_mem _ hc))
                have hsm := hcs _ (List.mem_cons_self ..)
                simp only [Bool.and_eq_true, Nat.ble_eq] at hsm
                have hfull : cap = l.length := by
                  obtain ⟨A', n', cap', e1, e2, _, _, _, e6⟩ := hsl'
                  rw [e1] at hsv2
                  simp only [Value.slice.injEq] at hsv2
                  simp only at e6
                  omega
                subst hsv2
                exact append_grow_ok hX hu hi hzi hzs hw hl hl2 (fun e => by
                  subst e
                  rcases hat with h | ⟨b, o, h, _⟩
                  · omega
                  · cases h) hcap hat hc2 (by omega) hsm.1 hsm.2 (.inl hnid)
              · rename_i k ver
                split at h
                · rename_i e' v0 hHk
                  split at h
                  · rename_i hee
                    simp only [Nat.beq_eq] at hee
                    subst hee
                    simp only [Option.some.injEq, Prod.mk.injEq] at h
                    obtain ⟨rfl, rfl, rfl, rfl⟩ := h
                    have hver := hcs _ (List.mem_cons_self ..)
                    simp only [Nat.beq_eq] at hver
                    subst hver
                    obtain ⟨hp2, b2, o2, rfl, hc2⟩ := key (fun c hc => hcs c (List.mem_cons_of_mem _ (List.mem_cons_of_mem _ hc)))
                    have hsm := hcs _ (List.mem_cons_of_mem _ (List.mem_cons_self ..))
                    simp only [Bool.and_eq_true, Nat.ble_eq] at hsm
                    have hown : cap = l.length ∨ (A = some ⟨X.φ k, 0, none⟩ ∧ X.TokOk k e' (l.length * row.width) (cap * row.width)) := by
                      obtain ⟨A', n', cap', e1, e2, _, _, _, t', v0', e6, e7, e8⟩ := hsl'
                      rw [e1] at hsv2
                      simp only [Value.slice.injEq] at hsv2
                      obtain ⟨rfl, rfl, rfl⟩ := hsv2
                      rw [hHk] at e6
                      simp only [Option.some.injEq, AB.tok.injEq] at e6
                      obtain ⟨rfl, rfl⟩ := e6
                      exact (e8 rfl).imp And.left id
                    subst hsv2
                    by_cases hroom : l.length + l2.length ≤ cap
                    · rcases hown with h0 | ⟨rfl, ht⟩
                      · omega
                      · refine append_room_ok hX hu hi hw hl hl2 hone2 hHk (Nat.lt_succ_self _) ht hmax (fun j u hj => ?_) hc2 hroom
                        have hl0 : l.length ≠ 0 := fun h0 => by
                          have : vs.length = 0 := by rw [hl.1, h0, Nat.zero_mul]
                          rw [List.eq_nil_of_length_eq_zero this] at hj
                          simp at hj
                        obtain ⟨b, o, ea, hc⟩ := hat.resolve_left hl0
                        simp only [Option.some.injEq, Addr.mk.injEq] at ea
                        obtain ⟨rfl, rfl, _⟩ := ea
                        have := hc j u hj
                        rwa [Nat.zero_add] at this
                    · exact append_grow_ok hX hu hi hzi hzs hw hl hl2 (fun e => by
                        rcases hown with h0 | ⟨h0, _⟩
                        · rcases hat with h | ⟨b, o, h, _⟩
                          · omega
                          · rw [e] at h; cases h
                        · rw [e] at h0; cases h0) hcap hat hc2 (by omega) hsm.1 hsm.2 (.inr ⟨ver, hHk, Nat.lt_succ_self _⟩)
                  · cases h
                · cases h
              · cases h
              · cases h
              · cases h
      · cases h
    · cases h
  · cases h
/-! #### A list put behind none, as an own array -/
def aownNew (P : Program) (t : TypeId) (nid : Nat) (row : CT) (l2 : List row.den) : Option (AV × List (Nat × AB) × List Bool) :=
  match P.underlying t with
  | some (.slice e) => match P.info? e, azero P e with
    | some i, some zs => if Nat.beq row.width i.size && Nat.beq zs.length i.size && Nat.blt 0 i.size then
        some (.one (.msl row nid 0 l2.length), [(nid, .arr row l2)], [!l2.isEmpty, Nat.ble (l2.length * i.bytes) 140737488355328 && Nat.ble l2.length maxLen]) else none
    | _, _ => none
  | _ => none
/-- Places in the Go text at which what is put behind none is taken for an own array. -/
def ownPos : List String := ["model.go:148", "quote.go:24", "slices.go:362", "outright.go:28"]
def aappendW (P : Program) (t : TypeId) (H : Nat → Option AB) (nid : Nat) (s x : AC) (pos : String) (os : List Bool) : Option (AV × List (Nat × AB) × List Bool × List Bool) :=
  if ownPos.contains pos then match s, P.underlying t with
    | .nils, some (.slice e) => match rowsIn P H e x with
      | some ⟨row, y :: l2⟩ => if Nat.ble row.width 1 then aappend P t H nid s x os else (aownNew P t nid row (y :: l2)).map fun u => (u.1, u.2.1, u.2.2, os)
      | some ⟨_, []⟩ => aappend P t H nid s x os
      | none => aappend P t H nid s x os
    | .sl _ [] .full, some (.slice e) => match rowsIn P H e x with
      | some ⟨row, y :: l2⟩ => if Nat.ble row.width 1 then aappend P t H nid s x os else (aownNew P t nid row (y :: l2)).map fun u => (u.1, u.2.1, u.2.2, os)
      | some ⟨_, []⟩ => aappend P t H nid s x os
      | none => aappend P t H nid s x os
    | _, _ => aappend P t H nid s x os
  else aappend P t H nid s x os
theorem aownNew_ok {X : Ctx} (hX : HRel X) {t ty : TypeId} {nid : Nat} (hnid : X.H nid = none) {row : CT} {l2 : List row.den} {v : AV} {ups : List (Nat × AB)} {cs : List Bool} {e : TypeId} {x : AC} {xv : Value} (hu : P.underlying t = some (.slice e))
    (hrows : rowsIn P X.H e x = some ⟨row, l2⟩) (h : aownNew P t nid row l2 = some (v, ups, cs)) (hcs : ∀ c ∈ cs, c = true) (hxv : VRc X x xv) (A : Option Addr) :
    ∃ val X', (Builtin.append_ #[t, t] ty #[.slice A 0 0, xv]).run P X.w = .ok val X'.w ∧ X.le X' ∧ HRel X' ∧ X'.H = ups.foldl (fun H p => upd H p.1 (some p.2)) X.H ∧ VR X' v val := by
  unfold aownNew at h
  rw [hu] at h
  simp only at h
  split at h
  · rename_i i zs hi hz
    split at h
    · rename_i hcond
      simp only [Bool.and_eq_true, Nat.beq_eq, Nat.blt_eq] at hcond
      obtain ⟨⟨hw, hzl⟩, hpos⟩ := hcond
      simp only [Option.some.injEq, Prod.mk.injEq] at h
      obtain ⟨rfl, rfl, rfl⟩ := h
      have hne := hcs _ (List.mem_cons_self ..)
      have hsm := hcs _ (List.mem_cons_of_mem _ (List.mem_cons_self ..))
      simp only [Bool.and_eq_true, Nat.ble_eq] at hsm
      have hp : 0 < l2.length := by
        cases l2 with
        | nil => cases hne
        | cons _ _ => simp
      obtain ⟨z, hzi, hzp⟩ := azero_info (X := X) hz hi
      have hzs : z.cells.size = i.size := by rw [← Array.length_toList, ← hzp.1]; exact hzl
      obtain ⟨A2, cap2, vs2, rfl, _, _, hl2, hone2, hat2⟩ := rowsIn_vals hX hrows hxv
      obtain ⟨b2, o2, rfl, hc2⟩ := hat2.resolve_left (by omega)
      have hsm2 := hsm.2
      have hmx : l2.length ≤ 9223372036854775807 := by simp only [maxLen] at hsm2; omega
      have hnl2 : vs2.length = l2.length * i.size := by rw [hl2.1, hw]
      have hnews : ∀ (j : Nat) u, vs2[j]? = some u → X.w.cell? ((⟨b2, o2, none⟩ : Addr).add j) = some u := fun j u hj => by rw [Addr.add_lit]; exact hc2 j u hj
      have hrun : (Builtin.append_ #[t, t] ty #[.slice A 0 0, .slice (some ⟨b2, o2, none⟩) l2.length cap2]).run P X.w = .ok (.slice (some ⟨X.w.heap.size, 0, none⟩) l2.length (grownCap X.w l2.length 0 e)) (X.w.drew.alloc (.cells (vs2.toArray ++ Builtin.zeroCells z.cells (grownCap X.w l2.length 0 e - l2.length)) e)) := by
        cases A with
        | none => exact run_append_nil (P := P) X.w t ty e i z hu hi hzi ⟨b2, o2, none⟩ l2.length cap2 vs2 hnl2 hnews hp (by omega) (by omega)
        | some b =>
          have := run_append_grow (P := P) X.w t ty e i z hu hi hzi b 0 0 [] (by simp) (by simp) ⟨b2, o2, none⟩ l2.length cap2 vs2 hnl2 hnews (by omega) (by omega) (growslice_fits (by omega) (by simpa using hsm.1))
          simpa using this
      have hge := grownCap_ge X.w l2.length 0 e
      have hcm := grownCap_le_maxLen X.w l2.length 0 e hsm.2
      have hb0 : Below X.w.heap.size X.w X.w.drew := ⟨rfl, rfl, rfl, Nat.le_refl _, fun _ _ => rfl⟩
      have hX1 := hX.withW hb0 (Nat.le_refl _)
      have hle1 := withW_le hX hb0 (Nat.le_refl _)
      have hn1 : (X.withW X.w.drew).H nid = none := hnid
      let o : Obj := .cells (vs2.toArray ++ Builtin.zeroCells z.cells (grownCap X.w l2.length 0 e - l2.length)) e
      have hle2 := push_le hX1 hn1 (.arr row l2) rfl o
      have hb : BRel ((X.withW X.w.drew).push nid (.arr row l2) o) nid (.arr row l2) := by
        refine ⟨vs2.toArray ++ Builtin.zeroCells z.cells (grownCap X.w l2.length 0 e - l2.length), (e, (0, 0)), ?_, ⟨?_, fun k _ => by simp, by simp only [Ctx.push, upd_same]; rfl⟩, fun j y hj => ?_⟩
        · simp only [Ctx.push, upd_same]
          exact heap_alloc_new _ _
        · rw [Array.size_append, List.size_toArray, hl2.1]; omega
        · refine RelT.mono_lt row y (fun k u hk hu => ?_) (fun a u ha => hle2.ic _ _ (hle1.ic _ _ ha)) (hl2.2 j y hj)
          have hjl : j < l2.length := (List.getElem?_eq_some_iff.1 hj).1
          have hlt : j * row.width + k < vs2.length := by
            have : (j + 1) * row.width ≤ l2.length * row.width := Nat.mul_le_mul_right _ (by omega)
            rw [Nat.add_mul] at this
            rw [hl2.1]; omega
          rw [Array.getElem?_append_left (by simpa using hlt)]
          simpa using hu
      have hX2 := HRel.push hX1 hn1 (.arr row l2) rfl o hb
      have hcaB : 0 + grownCap X.w l2.length 0 e * row.width ≤ ((X.withW X.w.drew).push nid (.arr row l2) o).ca nid := by
        simp only [Ctx.push, upd_same]
        show _ ≤ (vs2.toArray ++ Builtin.zeroCells z.cells (grownCap X.w l2.length 0 e - l2.length)).size
        rw [Array.size_append, List.size_toArray, hnl2]
        simp only [Builtin.zeroCells, Array.size_map, Array.size_range]
        rw [hzs, hw, ← Nat.add_mul]
        have : l2.length + (grownCap X.w l2.length 0 e - l2.length) = grownCap X.w l2.length 0 e := by omega
        rw [this]; omega
      refine ⟨_, (X.withW X.w.drew).push nid (.arr row l2) o, hrun, hle1.trans hle2, hX2, rfl, ?_⟩
      exact ⟨l2, 0, _, .inl (by simp only [Ctx.push, upd_same]), by simp only [Ctx.push, upd_same]; rfl, hge, hcm, by omega, fun _ => by omega, Nat.le_refl _, hge, by omega, fun _ => by omega, hcaB⟩
    · cases h
  · cases h
theorem aappendW_ok {X : Ctx} (hX : HRel X) {t : TypeId} {nid : Nat} (hnid : X.H nid = none) {s x : AC} {pos : String} {os : List Bool} {v : AV} {ups : List (Nat × AB)} {cs r : List Bool} {sv xv : Value}
    (h : aappendW P t X.H nid s x pos os = some (v, ups, cs, r)) (hcs : ∀ c ∈ cs, c = true) (hsv : VRc X s sv) (hxv : VRc X x xv) (ty : TypeId) :
    ∃ val X', (Builtin.append_ #[t, t] ty #[sv, xv]).run P X.w = .ok val X'.w ∧ X.le X' ∧ HRel X' ∧ X'.H = ups.foldl (fun H p => upd H p.1 (some p.2)) X.H ∧ VR X' v val := by
  unfold aappendW at h
  split at h
  · split at h
    · rename_i e hu
      split at h
      · rename_i row y l2 hrows
        split at h
        · exact aappend_ok hX hnid h hcs hsv hxv ty
        cases hm : aownNew P t nid row (y :: l2) with
        | none => rw [hm] at h; cases h
        | some u =>
          rw [hm] at h
          simp only [Option.map_some, Option.some.injEq, Prod.mk.injEq] at h
          obtain ⟨rfl, rfl, rfl, rfl⟩ := h
          have hsv' : sv = .slice none 0 0 := hsv
          subst hsv'
          exact aownNew_ok hX hnid hu hrows hm hcs hxv none
      · exact aappend_ok hX hnid h hcs hsv hxv ty
      · exact aappend_ok hX hnid h hcs hsv hxv ty
    · rename_i e hu
      split at h
      · rename_i row y l2 hrows
        split at h
        · exact aappend_ok hX hnid h hcs hsv hxv ty
        cases hm : aownNew P t nid row (y :: l2) with
        | none => rw [hm] at h; cases h
        | some u =>
          rw [hm] at h
          simp only [Option.map_some, Option.some.injEq, Prod.mk.injEq] at h
          obtain ⟨rfl, rfl, rfl, rfl⟩ := h
          obtain ⟨A, n, cap, rfl, hn, _, _, _, hcap⟩ := hsv
          simp only [List.length_nil] at hn
          subst hn
          have hcap : cap = 0 := hcap
          subst hcap
          exact aownNew_ok hX hnid hu hrows hm hcs hxv A
      · exact aappend_ok hX hnid h hcs hsv hxv ty
      · exact aappend_ok hX hnid h hcs hsv hxv ty
    · exact aappend_ok hX hnid h hcs hsv hxv ty
  · exact aappend_ok hX hnid h hcs hsv hxv ty
end
section
open Go Go.RowKit
variable {P : Program}

def elemOf (P : Program) (t : TypeId) : Option (Nat × Nat) :=
  match P.underlying t with
  | some (.slice e) => match P.info? e with
    | some i => some (e, i.size)
    | none => none
  | _ => none

def arrOf (P : Program) (t : TypeId) : Option (Nat × Nat × Nat) :=
  match P.underlying t with
  | some (.array len e) => match P.info? e with
    | some i => some (len, e, i.size)
    | none => none
  | _ => none

theorem elemOf_spec {t e n : Nat} (h : elemOf P t = some (e, n)) : P.underlying t = some (.slice e) ∧ ∀ w, (sizeOf e).run P w = .ok n w := by
  unfold elemOf at h
  split at h
  · rename_i e' hu
    split at h
    · rename_i i hi
      simp only [Option.some.injEq, Prod.mk.injEq] at h
      obtain ⟨rfl, rfl⟩ := h
      exact ⟨hu, run_size hi⟩
    · cases h
  · cases h

theorem arrOf_spec {t len e n : Nat} (h : arrOf P t = some (len, e, n)) : P.underlying t = some (.array len e) ∧ ∀ w, (sizeOf e).run P w = .ok n w := by
  unfold arrOf at h
  split at h
  · rename_i len' e' hu
    split at h
    · rename_i i hi
      simp only [Option.some.injEq, Prod.mk.injEq] at h
      obtain ⟨rfl, rfl, rfl⟩ := h
      exact ⟨hu, run_size hi⟩
    · cases h
  · cases h

def inB (n : Int) (len : Nat) : Bool := decide (0 ≤ n ∧ n < (len : Int))

/-- Is it a type of one plain cell? -/
def scal1 (P : Program) (e s len : Nat) : Bool := Nat.beq s 1 && Nat.ble len 64 && match P.underlying e with
  | some (.int _) => true
  | some .bool => true
  | some .string => true
  | _ => false

def aindexAddr (P : Program) (t : TypeId) (x ix : AV) : Option (AV × List Bool) :=
  match x, ix with
  | .one (.sl row l m), .one (.int k n) => match elemOf P t with
    | some (_, s) => if Nat.beq row.width s then some (.one (.elp row l n.toNat 0), [inB n l.length]) else none
    | none => none
  | .one (.ptr i off), .one (.int k n) => match arrOf P t with
    | some (len, e, s) => some (.one (if scal1 P e s len then .pti i off n len else .ptr i (off + n.toNat * s)), [inB n len])
    | none => none
  | .one (.elp row l i off), .one (.int k n) => match arrOf P t with
    | some (len, _, s) => some (.one (.elp row l i (off + n.toNat * s)), [inB n len])
    | none => none
  | .one (.csl i off len cap), .one (.int k n) => match elemOf P t with
    | some (_, s) => some (.one (.ptr i (off + n.toNat * s)), [inB n len])
    | none => none
  | .one (.asl row i off len cap), .one (.int k n) => match elemOf P t with
    | some (_, s) => if Nat.beq row.width s then some (.one (.ael row i (off + n.toNat) 0), [inB n len]) else none
    | none => none
  | .one (.bsl row i off len _), .one (.int k n) => match elemOf P t with
    | some (_, s) => if Nat.beq row.width s then some (.one (.ael row i (off + n.toNat) 0), [inB n len]) else none
    | none => none
  | .one (.ael row i j d), .one (.int k n) => match arrOf P t with
    | some (len, _, s) => some (.one (.ael row i j (d + n.toNat * s)), [inB n len])
    | none => none
  | _, _ => none

theorem aindexAddr_ok {X : Ctx} {t : TypeId} {x ix v : AV} {cs : List Bool} {xv iv : Value} (hx : VR X x xv) (hi : VR X ix iv) (h : aindexAddr P t x ix = some (v, cs)) (hcs : ∀ c ∈ cs, c = true) :
    ∃ val, (Instr.indexAt t xv iv).run P X.w = .ok val X.w ∧ VR X v val := by
  unfold aindexAddr at h
  split at h
  · rename_i row l m k n
    split at h
    · rename_i e s he
      split at h
      · rename_i hw
        simp only [Nat.beq_eq] at hw
        simp only [Option.some.injEq, Prod.mk.injEq] at h
        obtain ⟨rfl, rfl⟩ := h
        have hb := hcs _ (List.mem_cons_self ..)
        simp only [inB, decide_eq_true_eq] at hb
        obtain ⟨hu, hs⟩ := elemOf_spec he
        cases hi
        obtain ⟨A, len, cap, rfl, hl, h3, h4, h5, _⟩ := hx
        have hlen : n < (len : Int) := by rw [hl]; exact hb.2
        rcases h5 with h0 | ⟨b, o, rfl, hr⟩
        · omega
        · refine ⟨.pointer (some ⟨b, o + n.toNat * row.width, none⟩), ?_, by omega, b, o, rfl, fun y hy => hr n.toNat y hy⟩
          simp only [Instr.indexAt, asIntOf, Sem.run_bind, Sem.run_pure, Result.andThen_ok, run_underlying hu]
          rw [if_pos ⟨hb.1, hlen⟩]
          simp only [Sem.run_bind, hs, Result.andThen_ok, Sem.run_pure, Addr.add_lit, hw]
      · cases h
    · cases h
  · rename_i i off k n
    split at h
    · rename_i len e s he
      simp only [Option.some.injEq, Prod.mk.injEq] at h
      obtain ⟨rfl, rfl⟩ := h
      have hb := hcs _ (List.mem_cons_self ..)
      simp only [inB, decide_eq_true_eq] at hb
      obtain ⟨hu, hs⟩ := arrOf_spec he
      cases hi
      obtain ⟨hH, rfl⟩ := hx
      have hrun : (Instr.indexAt t (.pointer (some ⟨X.φ i, off, none⟩)) (.int k n)).run P X.w = .ok (.pointer (some ⟨X.φ i, off + n.toNat * s, none⟩)) X.w := by
        simp only [Instr.indexAt, asIntOf, Sem.run_bind, Sem.run_pure, Result.andThen_ok, run_underlying hu, Instr.sureAddr]
        rw [if_pos hb]
        simp only [Sem.run_bind, hs, Result.andThen_ok, Sem.run_pure, Addr.add_lit]
      refine ⟨_, hrun, ?_⟩
      split
      · rename_i hsc
        simp only [scal1, Bool.and_eq_true, Nat.beq_eq] at hsc
        exact ⟨hH, by rw [hsc.1.1, Nat.mul_one], hb.1, hb.2⟩
      · exact ⟨hH, rfl⟩
    · cases h
  · rename_i row l i off k n
    split at h
    · rename_i len e s he
      simp only [Option.some.injEq, Prod.mk.injEq] at h
      obtain ⟨rfl, rfl⟩ := h
      have hb := hcs _ (List.mem_cons_self ..)
      simp only [inB, decide_eq_true_eq] at hb
      obtain ⟨hu, hs⟩ := arrOf_spec he
      cases hi
      obtain ⟨hil, b, o, rfl, hr⟩ := hx
      refine ⟨_, ?_, hil, b, o, by rw [← Nat.add_assoc], hr⟩
      simp only [Instr.indexAt, asIntOf, Sem.run_bind, Sem.run_pure, Result.andThen_ok, run_underlying hu, Instr.sureAddr]
      rw [if_pos hb]
      simp only [Sem.run_bind, hs, Result.andThen_ok, Sem.run_pure, Addr.add_lit]
    · cases h
  · rename_i i off len cap k n
    split at h
    · rename_i e s he
      simp only [Option.some.injEq, Prod.mk.injEq] at h
      obtain ⟨rfl, rfl⟩ := h
      have hb := hcs _ (List.mem_cons_self ..)
      simp only [inB, decide_eq_true_eq] at hb
      obtain ⟨hu, hs⟩ := elemOf_spec he
      cases hi
      obtain ⟨hH, rfl, _, _⟩ := hx
      refine ⟨_, ?_, hH, rfl⟩
      simp only [Instr.indexAt, asIntOf, Sem.run_bind, Sem.run_pure, Result.andThen_ok, run_underlying hu]
      rw [if_pos hb]
      simp only [Sem.run_bind, hs, Result.andThen_ok, Sem.run_pure, Addr.add_lit]
    · cases h
  · rename_i row i off len cap k n
    split at h
    · rename_i e s he
      split at h
      · rename_i hw
        simp only [Nat.beq_eq] at hw
        simp only [Option.some.injEq, Prod.mk.injEq] at h
        obtain ⟨rfl, rfl⟩ := h
        have hb := hcs _ (List.mem_cons_self ..)
        simp only [inB, decide_eq_true_eq] at hb
        obtain ⟨hu, hs⟩ := elemOf_spec he
        cases hi
        obtain ⟨l, hH, rfl, h3, h4, h5⟩ := hx
        refine ⟨.pointer (some ⟨X.φ i, (off + n.toNat) * row.width + 0, none⟩), ?_, l, hH, by omega, rfl⟩
        simp only [Instr.indexAt, asIntOf, Sem.run_bind, Sem.run_pure, Result.andThen_ok, run_underlying hu]
        rw [if_pos hb]
        simp only [Sem.run_bind, hs, Result.andThen_ok, Sem.run_pure, Addr.add_lit, hw, Nat.add_mul, Nat.add_zero]
      · cases h
    · cases h
  · rename_i row i off len mn k n
    split at h
    · rename_i e s he
      split at h
      · rename_i hw
        simp only [Nat.beq_eq] at hw
        simp only [Option.some.injEq, Prod.mk.injEq] at h
        obtain ⟨rfl, rfl⟩ := h
        have hb := hcs _ (List.mem_cons_self ..)
        simp only [inB, decide_eq_true_eq] at hb
        obtain ⟨hu, hs⟩ := elemOf_spec he
        cases hi
        obtain ⟨l, o, cap, hH, rfl, h3, h4, h5, h6, _⟩ := hx
        have ho := h6 (by omega)
        subst ho
        refine ⟨.pointer (some ⟨X.φ i, (off + n.toNat) * row.width + 0, none⟩), ?_, l, hH, by omega, rfl⟩
        simp only [Instr.indexAt, asIntOf, Sem.run_bind, Sem.run_pure, Result.andThen_ok, run_underlying hu]
        rw [if_pos hb]
        simp only [Sem.run_bind, hs, Result.andThen_ok, Sem.run_pure, Addr.add_lit, hw, Nat.add_mul, Nat.add_zero]
      · cases h
    · cases h
  · rename_i row i j d k n
    split at h
    · rename_i len e s he
      simp only [Option.some.injEq, Prod.mk.injEq] at h
      obtain ⟨rfl, rfl⟩ := h
      have hb := hcs _ (List.mem_cons_self ..)
      simp only [inB, decide_eq_true_eq] at hb
      obtain ⟨hu, hs⟩ := arrOf_spec he
      cases hi
      obtain ⟨l, hH, hj, rfl⟩ := hx
      refine ⟨.pointer (some ⟨X.φ i, j * row.width + (d + n.toNat * s), none⟩), ?_, l, hH, hj, rfl⟩
      simp only [Instr.indexAt, asIntOf, Sem.run_bind, Sem.run_pure, Result.andThen_ok, run_underlying hu, Instr.sureAddr]
      rw [if_pos hb]
      simp only [Sem.run_bind, hs, Result.andThen_ok, Sem.run_pure, Addr.add_lit, Nat.add_assoc]
    · cases h
  · cases h

def isStrT (P : Program) (t : TypeId) : Bool := match P.underlying t with | some .string => true | _ => false
theorem isStrT_of {t : TypeId} (h : isStrT P t = true) : P.underlying t = some .string := by
  unfold isStrT at h
  split at h
  · assumption
  · cases h

/-- A text's byte. -/
def byteAt (s : ByteArray) (n : Nat) : Int := ((s.data.toList.getD n 0).toNat : Int)

def aindex (P : Program) (t : TypeId) (x ix : AV) : Option (AV × List Bool) :=
  match x, ix with
  | .one (.str s), .one (.int k n) => if isStrT P t then some (.one (.int .u8 (byteAt s n.toNat)), [inB n s.size]) else none
  | .agg cs, .one (.int k n) => match arrOf P t with
    | some (len, e, s) => (apart P e cs (n.toNat * s)).map fun v => (v, [inB n len])
    | none => none
  | _, _ => none

theorem aindex_ok {X : Ctx} {t : TypeId} {x ix v : AV} {cs : List Bool} {xv iv : Value} (hx : VR X x xv) (hi : VR X ix iv) (h : aindex P t x ix = some (v, cs)) (hcs : ∀ c ∈ cs, c = true) :
    ∃ val, (Instr.index t xv iv).run P X.w = .ok val X.w ∧ VR X v val := by
  unfold aindex at h
  split at h
  · rename_i s k n
    split at h
    · rename_i hu
      have hu := isStrT_of hu
      simp only [Option.some.injEq, Prod.mk.injEq] at h
      obtain ⟨rfl, rfl⟩ := h
      have hb := hcs _ (List.mem_cons_self ..)
      simp only [inB, decide_eq_true_eq] at hb
      cases hi
      cases hx
      refine ⟨.int .u8 (byteAt s n.toNat), ?_, rfl⟩
      have hlt : n.toNat < s.size := by omega
      have hg : s[n.toNat]? = some (s.data.toList.getD n.toNat 0) := by
        rw [getElem?_pos s n.toNat hlt]
        congr 1
        have hl : n.toNat < s.data.toList.length := by rw [Array.length_toList]; exact hlt
        rw [List.getD_eq_getElem?_getD, List.getElem?_eq_getElem hl]
        rfl
      simp only [Instr.index, asIntOf, Sem.run_bind, Sem.run_pure, Result.andThen_ok, run_underlying hu]
      rw [if_pos hb.1, hg]
      rfl
    · cases h
  · rename_i cs' k n
    split at h
    · rename_i len e s he
      cases hv : apart P e cs' (n.toNat * s) with
      | none => rw [hv] at h; cases h
      | some v' =>
        rw [hv] at h
        simp only [Option.map_some, Option.some.injEq, Prod.mk.injEq] at h
        obtain ⟨rfl, rfl⟩ := h
        have hb := hcs _ (List.mem_cons_self ..)
        simp only [inB, decide_eq_true_eq] at hb
        obtain ⟨hu, hs⟩ := arrOf_spec he
        cases hi
        obtain ⟨ar, rfl, hp⟩ := hx
        obtain ⟨val, h1, h2⟩ := apart_ok (P := P) hp hv X.w
        refine ⟨val, ?_, h2⟩
        simp only [Instr.index, asIntOf, Sem.run_bind, Sem.run_pure, Result.andThen_ok, run_underlying hu]
        rw [if_pos hb]
        simp only [Sem.run_bind, hs, Result.andThen_ok]
        exact h1
    · cases h
  · cases h

/-! ### Cuts -/

def intOp : Option AV → Option (Option Int)
  | none => some none
  | some (.one (.int _ n)) => some (some n)
  | some _ => none

def aslice (P : Program) (t : TypeId) (x : AV) (lo hi mx : Option AV) : Option (AV × List Bool) :=
  match intOp lo, intOp hi, intOp mx with
  | some lo, some hi, some mx =>
    match x with
    | .one (.str s) =>
      match isStrT P t, mx with
      | true, none =>
        let l := lo.getD 0
        let h := hi.getD s.size
        some (.one (.str (s.extract l.toNat h.toNat)), [decide (0 ≤ l ∧ l ≤ h ∧ h ≤ (s.size : Int))])
      | _, _ => none
    | .one (.sl row a m) =>
      match elemOf P t with
      | some (_, sz) =>
        if Nat.beq row.width sz then
          let l := lo.getD 0
          let h := hi.getD a.length
          match mx with
          | none =>
            let m' := match lo, hi with | none, none => m | _, _ => .shared
            some (.one (.sl row ((a.take h.toNat).drop l.toNat) m'), [decide (0 ≤ l ∧ l ≤ h ∧ h ≤ (a.length : Int))])
          | some c => match hi with
            | some _ => some (.one (.sl row ((a.take h.toNat).drop l.toNat) .full), [decide (0 ≤ l ∧ l ≤ h ∧ h ≤ (a.length : Int) ∧ c = h)])
            | none => none
        else none
      | none => none
    | .one (.csl i off len cap) =>
      match elemOf P t with
      | some (_, sz) =>
        match mx with
        | none => some (.one (.csl i (bif Nat.beq cap (lo.getD 0).toNat then off else off + (lo.getD 0).toNat * sz) ((hi.getD len).toNat - (lo.getD 0).toNat) (cap - (lo.getD 0).toNat)),
            [decide (0 ≤ lo.getD 0 ∧ lo.getD 0 ≤ hi.getD len ∧ hi.getD len ≤ (cap : Int))])
        | some c => match hi with
          | some h => some (.one (.csl i (bif Nat.beq c.toNat (lo.getD 0).toNat then off else off + (lo.getD 0).toNat * sz) (h.toNat - (lo.getD 0).toNat) (c.toNat - (lo.getD 0).toNat)),
              [decide (0 ≤ lo.getD 0 ∧ lo.getD 0 ≤ h ∧ h ≤ c ∧ c ≤ (cap : Int))])
          | none => none
      | none => none
    | .one (.asl row i off len cap) =>
      match elemOf P t with
      | some (_, sz) =>
        if Nat.beq row.width sz then
          match mx with
          | none => some (.one (.asl row i (bif Nat.beq cap (lo.getD 0).toNat then off else off + (lo.getD 0).toNat) ((hi.getD len).toNat - (lo.getD 0).toNat) (cap - (lo.getD 0).toNat)),
              [decide (0 ≤ lo.getD 0 ∧ lo.getD 0 ≤ hi.getD len ∧ hi.getD len ≤ (cap : Int))])
          | some c => match hi with
            | some h => some (.one (.asl row i (bif Nat.beq c.toNat (lo.getD 0).toNat then off else off + (lo.getD 0).toNat) (h.toNat - (lo.getD 0).toNat) (c.toNat - (lo.getD 0).toNat)),
                [decide (0 ≤ lo.getD 0 ∧ lo.getD 0 ≤ h ∧ h ≤ c ∧ c ≤ (cap : Int))])
            | none => none
        else none
      | none => none
    | .one (.bsl row i off len mn) =>
      match elemOf P t, mx with
      | some (_, sz), none => if Nat.beq row.width sz then some (.one (.bsl row i (off + (lo.getD 0).toNat) ((hi.getD len).toNat - (lo.getD 0).toNat) (mn - (lo.getD 0).toNat)), [decide (0 ≤ lo.getD 0 ∧ lo.getD 0 ≤ hi.getD len ∧ hi.getD len ≤ (mn : Int))]) else none
      | some (_, sz), some c => match hi with
        | some h => if Nat.beq c.toNat 0 then some (.one (.sl row [] .full), [decide (lo.getD 0 = 0 ∧ h = 0 ∧ c = 0)])
          else if Nat.beq row.width sz then some (.one (.bsl row i (off + (lo.getD 0).toNat) (h.toNat - (lo.getD 0).toNat) (c.toNat - (lo.getD 0).toNat)), [decide (0 ≤ lo.getD 0 ∧ lo.getD 0 ≤ h ∧ h ≤ c ∧ c ≤ (mn : Int))]) else none
        | none => none
      | _, _ => none
    | .one .nils =>
      match elemOf P t with
      | some (_, sz) =>
        match mx with
        | none => some (.one .nils, [decide (lo.getD 0 = 0 ∧ hi.getD 0 = 0)])
        | some c => match hi with
          | some h => some (.one .nils, [decide (lo.getD 0 = 0 ∧ h = 0 ∧ c = 0)])
          | none => none
      | none => none
    | _ => none
  | _, _, _ => none

/-- What may be absent, and its value. -/
def ORel (X : Ctx) : Option AV → Option Value → Prop
  | none, v => v = none
  | some a, v => ∃ y, v = some y ∧ VR X a y

theorem intOp_none {X : Ctx} {a : Option AV} {v : Option Value} (h : intOp a = some none) (hr : ORel X a v) : v = none := by
  unfold intOp at h
  split at h
  · exact hr
  · cases h
  · cases h
theorem intOp_some {X : Ctx} {a : Option AV} {v : Option Value} {n : Int} (h : intOp a = some (some n)) (hr : ORel X a v) : ∃ k, v = some (.int k n) := by
  unfold intOp at h
  split at h
  · cases h
  · rename_i k m
    simp only [Option.some.injEq] at h
    subst h
    obtain ⟨y, hy, hv⟩ := hr
    cases hv
    exact ⟨k, hy⟩
  · cases h

theorem run_bound (k : IntKind) (i : Int) (y : Nat) (code : BoundsCode) (h : 0 ≤ i ∧ i ≤ (y : Int)) (w : World) : (Instr.sliceBound (.int k i) y code).run P w = .ok i.toNat w := by
  simp only [Instr.sliceBound, asIntOf, Sem.run_bind, Sem.run_pure, Result.andThen_ok]
  rw [if_pos h]
  rfl

/-- The low bound, where it is there or is not. -/
theorem run_low {X : Ctx} {lo : Option AV} {lov : Option Value} {ln : Option Int} (h1 : intOp lo = some ln) (r1 : ORel X lo lov) (h : Nat) (code : BoundsCode) (h0 : 0 ≤ ln.getD 0) (hle : ln.getD 0 ≤ (h : Int)) {α : Type}
    (f : Nat → Sem α) (w : World) : (match (generalizing := false) lov with | some v => (do let l ← Instr.sliceBound v h code; f l) | none => (do let l ← pure 0; f l) : Sem α).run P w = (f (ln.getD 0).toNat).run P w := by
  cases ln with
  | none => have := intOp_none h1 r1; subst this; rfl
  | some n =>
    obtain ⟨k, e⟩ := intOp_some h1 r1
    subst e
    simp only [Sem.run_bind, run_bound k n h code ⟨h0, hle⟩, Result.andThen_ok, Option.getD_some]

/-- The three bounds. -/
theorem run_bounds {X : Ctx} {lo hi : Option AV} {lov hiv : Option Value} {ln hn : Option Int} (h1 : intOp lo = some ln) (h2 : intOp hi = some hn) (r1 : ORel X lo lov) (r2 : ORel X hi hiv)
    (sl : Bool) (len cap : Nat) (hc : len ≤ cap) (hb : 0 ≤ ln.getD 0 ∧ ln.getD 0 ≤ hn.getD len ∧ hn.getD len ≤ (len : Int)) (w : World) :
    (Instr.sliceBounds sl len cap lov hiv none).run P w = .ok ((ln.getD 0).toNat, (hn.getD len).toNat, cap) w := by
  simp only [Instr.sliceBounds, Sem.run_bind, Sem.run_pure, Result.andThen_ok]
  cases hn with
  | none =>
    have := intOp_none h2 r2; subst this
    simp only [Option.getD_none] at hb ⊢
    simp only [Sem.run_bind, Sem.run_pure, Result.andThen_ok]
    refine Eq.trans (run_low h1 r1 len _ hb.1 hb.2.1 (fun l => pure (l, len, cap)) w) ?_
    simp
  | some n =>
    obtain ⟨k, e⟩ := intOp_some h2 r2
    subst e
    simp only [Option.getD_some] at hb ⊢
    have hn0 : 0 ≤ n := by omega
    simp only [Sem.run_bind, run_bound k n cap _ ⟨hn0, by omega⟩, Result.andThen_ok]
    refine Eq.trans (run_low h1 r1 n.toNat _ hb.1 (by omega) (fun l => pure (l, n.toNat, cap)) w) ?_
    simp

theorem run_bounds3 {X : Ctx} {lo hi mx : Option AV} {lov hiv mxv : Option Value} {ln : Option Int} {n c : Int} (h1 : intOp lo = some ln) (h2 : intOp hi = some (some n)) (h3 : intOp mx = some (some c)) (r1 : ORel X lo lov) (r2 : ORel X hi hiv) (r3 : ORel X mx mxv)
    (len cap : Nat) (hc : len ≤ cap) (hb : 0 ≤ ln.getD 0 ∧ ln.getD 0 ≤ n ∧ n ≤ (len : Int) ∧ c = n) (w : World) :
    (Instr.sliceBounds true len cap lov hiv mxv).run P w = .ok ((ln.getD 0).toNat, n.toNat, n.toNat) w := by
  obtain ⟨k2, e2⟩ := intOp_some h2 r2
  obtain ⟨k3, e3⟩ := intOp_some h3 r3
  obtain ⟨b1, b2, b3, rfl⟩ := hb
  subst e2; subst e3
  have hc0 : 0 ≤ c := by omega
  simp only [Instr.sliceBounds, Sem.run_bind, run_bound k3 c cap _ ⟨hc0, by omega⟩, Result.andThen_ok]
  simp only [run_bound k2 c c.toNat _ ⟨hc0, by omega⟩, Result.andThen_ok]
  refine Eq.trans (run_low h1 r1 c.toNat _ b1 (by omega) (fun l => pure (l, c.toNat, c.toNat)) w) ?_
  simp

/-- The bounds of a cut within the room. -/
theorem run_boundsC {X : Ctx} {lo hi : Option AV} {lov hiv : Option Value} {ln hn : Option Int} (h1 : intOp lo = some ln) (h2 : intOp hi = some hn) (r1 : ORel X lo lov) (r2 : ORel X hi hiv)
    (len cap : Nat) (hc : len ≤ cap) (hb : 0 ≤ ln.getD 0 ∧ ln.getD 0 ≤ hn.getD len ∧ hn.getD len ≤ (cap : Int)) (w : World) :
    (Instr.sliceBounds true len cap lov hiv none).run P w = .ok ((ln.getD 0).toNat, (hn.getD len).toNat, cap) w := by
  simp only [Instr.sliceBounds, Sem.run_bind, Sem.run_pure, Result.andThen_ok]
  cases hn with
  | none =>
    have := intOp_none h2 r2; subst this
    simp only [Option.getD_none] at hb ⊢
    simp only [Sem.run_bind, Sem.run_pure, Result.andThen_ok]
    refine Eq.trans (run_low h1 r1 len _ hb.1 hb.2.1 (fun l => pure (l, len, cap)) w) ?_
    simp
  | some n =>
    obtain ⟨k, e⟩ := intOp_some h2 r2
    subst e
    simp only [Option.getD_some] at hb ⊢
    have hn0 : 0 ≤ n := by omega
    simp only [Sem.run_bind, run_bound k n cap _ ⟨hn0, by omega⟩, Result.andThen_ok]
    refine Eq.trans (run_low h1 r1 n.toNat _ hb.1 (by omega) (fun l => pure (l, n.toNat, cap)) w) ?_
    simp

theorem run_bounds3C {X : Ctx} {lo hi mx : Option AV} {lov hiv mxv : Option Value} {ln : Option Int} {n c : Int} (h1 : intOp lo = some ln) (h2 : intOp hi = some (some n)) (h3 : intOp mx = some (some c)) (r1 : ORel X lo lov) (r2 : ORel X hi hiv) (r3 : ORel X mx mxv)
    (len cap : Nat) (hb : 0 ≤ ln.getD 0 ∧ ln.getD 0 ≤ n ∧ n ≤ c ∧ c ≤ (cap : Int)) (w : World) :
    (Instr.sliceBounds true len cap lov hiv mxv).run P w = .ok ((ln.getD 0).toNat, n.toNat, c.toNat) w := by
  obtain ⟨k2, e2⟩ := intOp_some h2 r2
  obtain ⟨k3, e3⟩ := intOp_some h3 r3
  obtain ⟨b1, b2, b3, b4⟩ := hb
  subst e2; subst e3
  have hc0 : 0 ≤ c := by omega
  have hn0 : 0 ≤ n := by omega
  simp only [Instr.sliceBounds, Sem.run_bind, run_bound k3 c cap _ ⟨hc0, by omega⟩, Result.andThen_ok]
  simp only [run_bound k2 n c.toNat _ ⟨hn0, by omega⟩, Result.andThen_ok]
  refine Eq.trans (run_low h1 r1 n.toNat _ b1 (by omega) (fun l => pure (l, n.toNat, c.toNat)) w) ?_
  simp

theorem run_sliceAt_str {t : TypeId} (h : P.underlying t = some .string) (x : Value) (lo hi mx : Option Value) (w : World) : (Instr.sliceAt t x lo hi mx).run P w = (Instr.slice t x lo hi mx).run P w := by
  simp only [Instr.sliceAt, Sem.run_bind, run_underlying h, Result.andThen_ok]
theorem run_sliceAt_sl {t e : TypeId} (h : P.underlying t = some (.slice e)) (x : Value) (lo hi mx : Option Value) (w : World) : (Instr.sliceAt t x lo hi mx).run P w = (Instr.slice t x lo hi mx).run P w := by
  simp only [Instr.sliceAt, Sem.run_bind, run_underlying h, Result.andThen_ok]

/-- A cut of a slice's account, whatever is known of its spare. -/
theorem cut_rel {X : Ctx} {row : CT} {a : List row.den} {b o : Nat} {l h : Nat} (hlh : l ≤ h) (hh : h ≤ a.length)
    (hr : ∀ (j : Nat) x, a[j]? = some x → RelT row x (fun k y => X.IC ⟨b, o + j * row.width + k, none⟩ y) X.IC) :
    ∀ (j : Nat) x, ((a.take h).drop l)[j]? = some x → RelT row x (fun k y => X.IC ⟨b, o + l * row.width + j * row.width + k, none⟩ y) X.IC := by
  intro j x hj
  rw [List.getElem?_drop] at hj
  have hlt : l + j < h := by
    rcases Nat.lt_or_ge (l + j) h with q | q
    · exact q
    · rw [List.getElem?_take_eq_none q] at hj; cases hj
  rw [List.getElem?_take_of_lt hlt] at hj
  have := hr (l + j) x hj
  rwa [show o + (l + j) * row.width = o + l * row.width + j * row.width from by rw [Nat.add_mul]; omega] at this

theorem aslice_ok {X : Ctx} {t : TypeId} {x v : AV} {lo hi mx : Option AV} {cs : List Bool} {xv : Value} {lov hiv mxv : Option Value} (hx : VR X x xv) (r1 : ORel X lo lov) (r2 : ORel X hi hiv) (r3 : ORel X mx mxv)
    (h : aslice P t x lo hi mx = some (v, cs)) (hcs : ∀ c ∈ cs, c = true) : ∃ val, (Instr.sliceAt t xv lov hiv mxv).run P X.w = .ok val X.w ∧ VR X v val := by
  unfold aslice at h
  split at h
  · rename_i ln hn mn e1 e2 e3
    split at h
    · rename_i s
      split at h
      · rename_i hu
        have hu := isStrT_of hu
        simp only [Option.some.injEq, Prod.mk.injEq] at h
        obtain ⟨rfl, rfl⟩ := h
        have hb := hcs _ (List.mem_cons_self ..)
        simp only [decide_eq_true_eq] at hb
        have hm := intOp_none e3 r3
        subst hm
        cases hx
        refine ⟨_, ?_, rfl⟩
        rw [run_sliceAt_str hu]
        simp only [Instr.slice, Sem.run_bind, run_underlying hu, Result.andThen_ok, Option.isSome_none, Bool.false_eq_true, if_false]
        rw [run_bounds e1 e2 r1 r2 false s.size s.size (Nat.le_refl _) hb]
        rfl
      · cases h
    · rename_i row a m
      split at h
      · rename_i e sz he
        obtain ⟨hu, hs⟩ := elemOf_spec he
        split at h
        · rename_i hw
          simp only [Nat.beq_eq] at hw
          obtain ⟨A, len, cap, rfl, hl, h3, h4, h5, h6⟩ := hx
          split at h
          · simp only [Option.some.injEq, Prod.mk.injEq] at h
            obtain ⟨rfl, rfl⟩ := h
            have hb := hcs _ (List.mem_cons_self ..)
            simp only [decide_eq_true_eq] at hb
            have hm := intOp_none e3 r3
            subst hm
            rw [← hl] at hb
            rw [run_sliceAt_sl hu]
            simp only [Instr.slice, Sem.run_bind, run_underlying hu, Result.andThen_ok]
            rw [run_bounds e1 e2 r1 r2 true len cap h3 hb]
            simp only [Result.andThen_ok, hs, Sem.run_pure]
            refine ⟨_, rfl, ?_⟩
            have hhl : (hn.getD (a.length : Int)).toNat ≤ a.length := by rw [← hl]; omega
            have hcl : ((a.take (hn.getD (a.length : Int)).toNat).drop (ln.getD 0).toNat).length = (hn.getD (a.length : Int)).toNat - (ln.getD 0).toNat := by
              rw [List.length_drop, List.length_take]; omega
            rw [hl] at hb h3 ⊢
            refine ⟨_, _, _, rfl, hcl.symm, by omega, by omega, ?_, ?_⟩
            · rcases h5 with h0 | ⟨b, o, rfl, hr⟩
              · left; omega
              · by_cases hz : (hn.getD (a.length : Int)).toNat - (ln.getD 0).toNat = 0
                · exact .inl hz
                · right
                  rw [if_neg (by omega)]
                  refine ⟨b, o + (ln.getD 0).toNat * row.width, by rw [← hw]; simp only [Option.map_some, Addr.add_lit], cut_rel (by omega) hhl hr⟩
            · cases ln with
              | some _ => trivial
              | none =>
                cases hn with
                | some _ => trivial
                | none =>
                  simp only [Option.getD_none] at *
                  have e0 : ((a.take (a.length : Int).toNat).drop (0 : Int).toNat) = a := by simp
                  simp only [Int.toNat_zero, Int.toNat_natCast, Nat.sub_zero, Nat.zero_mul]
                  cases m with
                  | shared => trivial
                  | «at» A0 c0 =>
                    obtain ⟨rfl, rfl⟩ := h6
                    refine ⟨?_, by simp⟩
                    split
                    · rfl
                    · cases A <;> simp [Addr.add]
                  | nn =>
                    obtain ⟨a', rfl⟩ := h6
                    simp only
                    split
                    · exact ⟨_, rfl⟩
                    · exact ⟨_, rfl⟩
                  | full =>
                    simp only at h6 ⊢
                    omega
                  | own i ver =>
                    obtain ⟨e', v0, g1, g2, g3⟩ := h6
                    refine ⟨e', v0, g1, g2, fun ev => ?_⟩
                    rcases g3 ev with gc | ⟨ga, gt⟩
                    · left
                      omega
                    · right
                      refine ⟨?_, by rw [hl] at gt; exact gt⟩
                      rw [ga]
                      split
                      · rfl
                      · simp [Addr.add]
          · rename_i c
            split at h
            · rename_i n
              simp only [Option.some.injEq, Prod.mk.injEq] at h
              obtain ⟨rfl, rfl⟩ := h
              have hb := hcs _ (List.mem_cons_self ..)
              simp only [decide_eq_true_eq, Option.getD_some] at hb
              rw [← hl] at hb
              rw [run_sliceAt_sl hu]
              simp only [Instr.slice, Sem.run_bind, run_underlying hu, Result.andThen_ok]
              rw [run_bounds3 e1 e2 e3 r1 r2 r3 len cap h3 hb]
              simp only [Result.andThen_ok, hs, Sem.run_pure, Option.getD_some]
              refine ⟨_, rfl, ?_⟩
              have hhl : n.toNat ≤ a.length := by rw [← hl]; omega
              have hcl : ((a.take n.toNat).drop (ln.getD 0).toNat).length = n.toNat - (ln.getD 0).toNat := by
                rw [List.length_drop, List.length_take]; omega
              refine ⟨_, _, _, rfl, hcl.symm, Nat.le_refl _, by omega, ?_, rfl⟩
              rcases h5 with h0 | ⟨b, o, rfl, hr⟩
              · left; omega
              · by_cases hz : n.toNat - (ln.getD 0).toNat = 0
                · exact .inl hz
                · right
                  rw [if_neg (by omega)]
                  refine ⟨b, o + (ln.getD 0).toNat * row.width, by rw [← hw]; simp only [Option.map_some, Addr.add_lit], cut_rel (by omega) hhl hr⟩
            · cases h
        · cases h
      · cases h
    · rename_i i off len cap
      split at h
      · rename_i e sz he
        obtain ⟨hu, hs⟩ := elemOf_spec he
        obtain ⟨hH, rfl, hlc, hcm⟩ := hx
        have hbase : ∀ (m l : Nat), (if m = l then (some ⟨X.φ i, off, none⟩ : Option Addr) else (some ⟨X.φ i, off, none⟩ : Option Addr).map (·.add (l * sz))) = some ⟨X.φ i, bif Nat.beq m l then off else off + l * sz, none⟩ := by
          intro m l
          by_cases hml : m = l
          · subst hml; simp
          · have : Nat.beq m l = false := by
              cases hb : Nat.beq m l with
              | false => rfl
              | true => exact absurd (Nat.eq_of_beq_eq_true hb) hml
            rw [if_neg hml, this]
            simp [Addr.add_lit]
        split at h
        · simp only [Option.some.injEq, Prod.mk.injEq] at h
          obtain ⟨rfl, rfl⟩ := h
          have hb := hcs _ (List.mem_cons_self ..)
          simp only [decide_eq_true_eq] at hb
          have hm := intOp_none e3 r3
          subst hm
          rw [run_sliceAt_sl hu]
          simp only [Instr.slice, Sem.run_bind, run_underlying hu, Result.andThen_ok]
          rw [run_boundsC e1 e2 r1 r2 len cap hlc hb]
          simp only [Result.andThen_ok, hs, Sem.run_pure, hbase]
          exact ⟨_, rfl, hH, rfl, by omega, by omega⟩
        · rename_i c
          split at h
          · rename_i n
            simp only [Option.some.injEq, Prod.mk.injEq] at h
            obtain ⟨rfl, rfl⟩ := h
            have hb := hcs _ (List.mem_cons_self ..)
            simp only [decide_eq_true_eq] at hb
            rw [run_sliceAt_sl hu]
            simp only [Instr.slice, Sem.run_bind, run_underlying hu, Result.andThen_ok]
            rw [run_bounds3C e1 e2 e3 r1 r2 r3 len cap hb]
            simp only [Result.andThen_ok, hs, Sem.run_pure, hbase]
            exact ⟨_, rfl, hH, rfl, by omega, by omega⟩
          · cases h
      · cases h
    · rename_i row i off len cap
      split at h
      · rename_i e sz he
        obtain ⟨hu, hs⟩ := elemOf_spec he
        split at h
        · rename_i hw
          simp only [Nat.beq_eq] at hw
          obtain ⟨l, hH, rfl, hlc, hcm, hfit⟩ := hx
          have hbase : ∀ (m l : Nat), (if m = l then (some ⟨X.φ i, off * row.width, none⟩ : Option Addr) else (some ⟨X.φ i, off * row.width, none⟩ : Option Addr).map (·.add (l * sz))) = some ⟨X.φ i, (bif Nat.beq m l then off else off + l) * row.width, none⟩ := by
            intro m l
            by_cases hml : m = l
            · subst hml; simp
            · have : Nat.beq m l = false := by
                cases hb : Nat.beq m l with
                | false => rfl
                | true => exact absurd (Nat.eq_of_beq_eq_true hb) hml
              rw [if_neg hml, this]
              simp [Addr.add_lit, hw, Nat.add_mul]
          have hoff : ∀ (m l : Nat), l ≤ m → (bif Nat.beq m l then off else off + l) + (m - l) ≤ off + m := by
            intro m l hlm
            cases hb : Nat.beq m l with
            | true => have := Nat.eq_of_beq_eq_true hb; simp only [cond_true]; omega
            | false => simp only [cond_false]; omega
          split at h
          · simp only [Option.some.injEq, Prod.mk.injEq] at h
            obtain ⟨rfl, rfl⟩ := h
            have hb := hcs _ (List.mem_cons_self ..)
            simp only [decide_eq_true_eq] at hb
            have hm := intOp_none e3 r3
            subst hm
            rw [run_sliceAt_sl hu]
            simp only [Instr.slice, Sem.run_bind, run_underlying hu, Result.andThen_ok]
            rw [run_boundsC e1 e2 r1 r2 len cap hlc hb]
            simp only [Result.andThen_ok, hs, Sem.run_pure, hbase]
            have := hoff cap (ln.getD 0).toNat (by omega)
            exact ⟨_, rfl, l, hH, rfl, by omega, by omega, by omega⟩
          · rename_i c
            split at h
            · rename_i n
              simp only [Option.some.injEq, Prod.mk.injEq] at h
              obtain ⟨rfl, rfl⟩ := h
              have hb := hcs _ (List.mem_cons_self ..)
              simp only [decide_eq_true_eq] at hb
              rw [run_sliceAt_sl hu]
              simp only [Instr.slice, Sem.run_bind, run_underlying hu, Result.andThen_ok]
              rw [run_bounds3C e1 e2 e3 r1 r2 r3 len cap hb]
              simp only [Result.andThen_ok, hs, Sem.run_pure, hbase]
              have := hoff c.toNat (ln.getD 0).toNat (by omega)
              exact ⟨_, rfl, l, hH, rfl, by omega, by omega, by omega⟩
            · cases h
        · cases h
      · cases h
    · rename_i row i off len mn
      split at h
      · rename_i e sz he
        obtain ⟨hu, hs⟩ := elemOf_spec he
        split at h
        · rename_i hw
          simp only [Nat.beq_eq] at hw
          obtain ⟨l, o, cap, hH, rfl, hlc, hcm, hfit, ho, b1, b2, b3, b4, b5⟩ := hx
          simp only [Option.some.injEq, Prod.mk.injEq] at h
          obtain ⟨rfl, rfl⟩ := h
          have hb := hcs _ (List.mem_cons_self ..)
          simp only [decide_eq_true_eq] at hb
          have hm := intOp_none e3 r3
          subst hm
          rw [run_sliceAt_sl hu]
          simp only [Instr.slice, Sem.run_bind, run_underlying hu, Result.andThen_ok]
          rw [run_boundsC e1 e2 r1 r2 len cap hlc ⟨hb.1, hb.2.1, by omega⟩]
          simp only [Result.andThen_ok, hs, Sem.run_pure]
          by_cases hml : cap = (ln.getD 0).toNat
          · rw [if_pos hml]
            have bfit : ∀ c, c ≤ cap → o + c * row.width ≤ X.ca i := fun c hc => Nat.le_trans (Nat.add_le_add_left (Nat.mul_le_mul_right _ hc) _) b5
            exact ⟨_, rfl, l, o, cap - (ln.getD 0).toNat, hH, rfl, by omega, by omega, by omega, fun h => by omega, by omega, by omega, by omega, fun h => by omega, bfit _ (by omega)⟩
          · rw [if_neg hml]
            simp only [Option.map_some, Addr.add_lit]
            have bfit2 : ∀ q c, q + c ≤ cap → o + q * sz + c * row.width ≤ X.ca i := fun q c hc => by
              rw [← hw, Nat.add_assoc, ← Nat.add_mul]
              exact Nat.le_trans (Nat.add_le_add_left (Nat.mul_le_mul_right _ hc) _) b5
            exact ⟨_, rfl, l, _, cap - (ln.getD 0).toNat, hH, rfl, by omega, by omega, by omega, fun h => by rw [b4 (by omega), ← hw, Nat.add_mul], by omega, by omega, by omega, fun h => by rw [b4 (by omega), ← hw, Nat.add_mul], bfit2 _ _ (by omega)⟩
        · cases h
      · rename_i e sz c he
        obtain ⟨hu, hs⟩ := elemOf_spec he
        obtain ⟨l, o, cap, hH, rfl, hlc, hcm, hfit, ho, b1, b2, b3, b4, b5⟩ := hx
        split at h
        · rename_i n
          split at h
          · simp only [Option.some.injEq, Prod.mk.injEq] at h
            obtain ⟨rfl, rfl⟩ := h
            have hb := hcs _ (List.mem_cons_self ..)
            simp only [decide_eq_true_eq] at hb
            obtain ⟨hb1, rfl, rfl⟩ := hb
            rw [run_sliceAt_sl hu]
            simp only [Instr.slice, Sem.run_bind, run_underlying hu, Result.andThen_ok]
            rw [run_bounds3C e1 e2 e3 r1 r2 r3 len cap ⟨by omega, by omega, by omega, by omega⟩]
            simp only [Result.andThen_ok, hs, Sem.run_pure, hb1]
            exact ⟨_, rfl, _, _, _, rfl, by simp, by simp, by simp [maxLen], .inl (by simp), by simp⟩
          · split at h
            · rename_i hw
              simp only [Nat.beq_eq] at hw
              simp only [Option.some.injEq, Prod.mk.injEq] at h
              obtain ⟨rfl, rfl⟩ := h
              have hb := hcs _ (List.mem_cons_self ..)
              simp only [decide_eq_true_eq] at hb
              rw [run_sliceAt_sl hu]
              simp only [Instr.slice, Sem.run_bind, run_underlying hu, Result.andThen_ok]
              rw [run_bounds3C e1 e2 e3 r1 r2 r3 len cap ⟨by omega, by omega, by omega, by omega⟩]
              simp only [Result.andThen_ok, hs, Sem.run_pure]
              by_cases hml : c.toNat = (ln.getD 0).toNat
              · rw [if_pos hml]
                have bfit : ∀ c, c ≤ cap → o + c * row.width ≤ X.ca i := fun c hc => Nat.le_trans (Nat.add_le_add_left (Nat.mul_le_mul_right _ hc) _) b5
                exact ⟨_, rfl, l, o, c.toNat - (ln.getD 0).toNat, hH, rfl, by omega, by omega, by omega, fun h => by omega, by omega, by omega, by omega, fun h => by omega, bfit _ (by omega)⟩
              · rw [if_neg hml]
                simp only [Option.map_some, Addr.add_lit]
                have bfit2 : ∀ q c, q + c ≤ cap → o + q * sz + c * row.width ≤ X.ca i := fun q c hc => by
                  rw [← hw, Nat.add_assoc, ← Nat.add_mul]
                  exact Nat.le_trans (Nat.add_le_add_left (Nat.mul_le_mul_right _ hc) _) b5
                exact ⟨_, rfl, l, _, c.toNat - (ln.getD 0).toNat, hH, rfl, by omega, by omega, by omega, fun h => by rw [b4 (by omega), ← hw, Nat.add_mul], by omega, by omega, by omega, fun h => by rw [b4 (by omega), ← hw, Nat.add_mul], bfit2 _ _ (by omega)⟩
            · cases h
        · cases h
      · cases h
    · split at h
      · rename_i e sz he
        obtain ⟨hu, hs⟩ := elemOf_spec he
        cases hx
        split at h
        · simp only [Option.some.injEq, Prod.mk.injEq] at h
          obtain ⟨rfl, rfl⟩ := h
          have hb := hcs _ (List.mem_cons_self ..)
          simp only [decide_eq_true_eq] at hb
          have hm := intOp_none e3 r3
          subst hm
          rw [run_sliceAt_sl hu]
          simp only [Instr.slice, Sem.run_bind, run_underlying hu, Result.andThen_ok]
          have hb2 : hn.getD ((0 : Nat) : Int) = 0 := hb.2
          rw [run_boundsC e1 e2 r1 r2 0 0 (Nat.le_refl _) ⟨by omega, by omega, by omega⟩]
          simp only [Result.andThen_ok, hs, Sem.run_pure, hb.1, hb2]
          exact ⟨_, rfl, rfl⟩
        · split at h
          · rename_i n
            simp only [Option.some.injEq, Prod.mk.injEq] at h
            obtain ⟨rfl, rfl⟩ := h
            have hb := hcs _ (List.mem_cons_self ..)
            simp only [decide_eq_true_eq] at hb
            obtain ⟨hb1, rfl, rfl⟩ := hb
            rw [run_sliceAt_sl hu]
            simp only [Instr.slice, Sem.run_bind, run_underlying hu, Result.andThen_ok]
            rw [run_bounds3C e1 e2 e3 r1 r2 r3 0 0 ⟨by omega, by omega, by omega, by omega⟩]
            simp only [Result.andThen_ok, hs, Sem.run_pure, hb1]
            exact ⟨_, rfl, rfl⟩
          · cases h
      · cases h
    · cases h
  · cases h
end
end Go.Eng
