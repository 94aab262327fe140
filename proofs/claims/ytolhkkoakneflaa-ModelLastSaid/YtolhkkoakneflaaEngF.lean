import Derived.Test.YtolhkkoakneflaaEngE
set_option linter.unusedVariables false
namespace Go.Eng
open Go Go.RowKit
variable {P : Program}

/-! ### Two structs, two arrays -/

/-- Two plain one-cell values of a type. -/
def veq1 (P : Program) (t : TypeId) : Value → Value → Option Bool
  | .int k a, .int k' b => match P.underlying t with
    | some (.int _) => if (CT.int k).eqb (.int k') then some (a == b) else none
    | _ => none
  | .bool a, .bool b => match P.underlying t with
    | some .bool => some (a == b)
    | _ => none
  | .string a, .string b => match P.underlying t with
    | some .string => some (a == b)
    | _ => none
  | _, _ => none

theorem veq1_run {t : TypeId} {x y : Value} {b : Bool} (h : veq1 P t x y = some b) (d : Nat) (w : World) : (Op.equalIn (d + 1) t x y).run P w = .ok b w := by
  unfold veq1 at h
  split at h
  · split at h
    · rename_i hu
      split at h
      · rename_i e
        have e' := CT.eq_of_eqb _ _ e
        injection e' with e'
        subst e'
        injection h with h; subst h
        exact run_equalIn_int w d t _ _ _ _ hu
      · cases h
    · cases h
  · split at h
    · rename_i hu
      injection h with h; subst h
      exact run_equalIn_bool' w d t _ _ hu
    · cases h
  · split at h
    · rename_i hu
      injection h with h; subst h
      rw [run_equalIn_string w d t _ _ hu, beq_toListBytes]
    · cases h
  · cases h

def veqF (g : TypeId → List Value → List Value → Option Bool) (P : Program) (xs ys : List Value) : List Field → Option Bool
  | [] => some true
  | f :: fs =>
    if f.name = "_" then none else
    match ty P f.type with
    | some (_, n) =>
      if Nat.ble (f.offset + n) xs.length && Nat.ble (f.offset + n) ys.length then
        match g f.type ((xs.drop f.offset).take n) ((ys.drop f.offset).take n), veqF g P xs ys fs with
        | some a, some b => some (a && b)
        | _, _ => none
      else none
    | none => none

def veqA (g : List Value → List Value → Option Bool) (n : Nat) (xs ys : List Value) : Nat → Nat → Option Bool
  | 0, _ => some true
  | k + 1, i =>
    if Nat.ble (i * n + n) xs.length && Nat.ble (i * n + n) ys.length then
      match g ((xs.drop (i * n)).take n) ((ys.drop (i * n)).take n), veqA g n xs ys k (i + 1) with
      | some a, some b => some (a && b)
      | _, _ => none
    else none

def veq (P : Program) : Nat → TypeId → List Value → List Value → Option Bool
  | 0, _, _, _ => none
  | d + 1, t, xs, ys =>
    match P.underlying t with
    | some (.struct fs) => if P.stoodInHeld t then none else veqF (veq P d) P xs ys fs.toList
    | some (.array len e) => match ty P e with
      | some (_, n) => veqA (veq P d e) n xs ys len 0
      | none => none
    | _ => match ty P t, xs, ys with
      | some (false, 1), [x], [y] => veq1 P t x y
      | _, _, _ => none


theorem run_part {t : TypeId} {ag : Bool} {n : Nat} (ht : ty P t = some (ag, n)) (xs : List Value) (off : Nat) (hn : ag = false → n = 1) (hl : off + n ≤ xs.length) (w : World) :
    (part t xs.toArray off).run P w = .ok (asV ag ((xs.drop off).take n)) w := by
  obtain ⟨h1, h2⟩ := ty_run ht w
  simp only [part, Sem.run_bind, h1, Result.andThen_ok]
  cases ag with
  | true =>
    simp only [if_true, Sem.run_bind, h2, Result.andThen_ok, Sem.run_pure, asV]
    congr 2
    apply Array.ext'
    simp [List.extract_eq_take_drop]
  | false =>
    have := hn rfl
    subst this
    have hlt : off < xs.length := by omega
    simp only [Bool.false_eq_true, if_false, asV]
    have hg : xs.toArray[off]? = some xs[off] := by simp [hlt]
    rw [hg]
    simp only [Sem.run_pure]
    congr 1
    rw [List.drop_eq_getElem_cons hlt]
    rfl

theorem ty_struct {t : TypeId} {fs : Array Field} {ag : Bool} {n : Nat} (hu : P.underlying t = some (.struct fs)) (ht : ty P t = some (ag, n)) : ag = true := by
  unfold ty at ht
  rw [hu] at ht
  cases hi : P.info? t with
  | none => rw [hi] at ht; cases ht
  | some i => rw [hi] at ht; simp only [Option.some.injEq, Prod.mk.injEq] at ht; exact ht.1.symm
theorem ty_array {t e : TypeId} {len : Nat} {ag : Bool} {n : Nat} (hu : P.underlying t = some (.array len e)) (ht : ty P t = some (ag, n)) : ag = true := by
  unfold ty at ht
  rw [hu] at ht
  cases hi : P.info? t with
  | none => rw [hi] at ht; cases ht
  | some i => rw [hi] at ht; simp only [Option.some.injEq, Prod.mk.injEq] at ht; exact ht.1.symm

/-- The loop over an array's elements, as a recursion. -/
def eqElems (d : Nat) (e : TypeId) (n : Nat) (xs ys : Array Value) : List Nat → Sem Bool
  | [] => pure true
  | i :: is => do
    let a ← part e xs (i * n)
    let b ← part e ys (i * n)
    let r ← Op.equalIn d e a b
    if (!r) = true then pure false else eqElems d e n xs ys is

theorem run_equalIn_array (w : World) (d : Nat) (t e : TypeId) (len n : Nat) (xs ys : Array Value) (ht : P.underlying t = some (.array len e)) (hn : ∀ w, (sizeOf e).run P w = .ok n w) :
    (Op.equalIn (d + 1) t (.agg xs) (.agg ys)).run P w = (eqElems d e n xs ys (List.range' 0 len)).run P w := by
  simp only [Op.equalIn, Sem.run_bind, run_underlying ht, Result.andThen_ok, hn, Std.Legacy.Range.forIn_eq_forIn_range', Std.Legacy.Range.size]
  simp only [Nat.sub_zero, Nat.add_one_sub_one, Nat.div_one]
  generalize List.range' 0 len = is
  clear ht
  induction is generalizing w with
  | nil => simp [eqElems]
  | cons i is ih =>
    simp only [List.forIn_cons, eqElems, Sem.run_bind, Sem.run_ite]
    generalize (part e xs (i * n)).run P w = r1
    cases r1 with
    | ok a w1 =>
      simp only [Result.andThen_ok]
      generalize (part e ys (i * n)).run P w1 = r2
      cases r2 with
      | ok b w2 =>
        simp only [Result.andThen_ok]
        generalize (Op.equalIn d e a b).run P w2 = r3
        cases r3 with
        | ok r w3 =>
          cases r
          · simp only [Result.andThen_ok, Bool.not_false, if_true, Sem.run_pure]
          · simp only [Result.andThen_ok, Bool.not_true, Bool.false_eq_true, if_false, Sem.run_pure]
            exact ih w3
        | halt x w3 => simp [Result.andThen]
      | halt x w2 => simp [Result.andThen]
    | halt x w1 => simp [Result.andThen]

theorem veqF_run {g : TypeId → List Value → List Value → Option Bool} {xs ys : List Value} {d : Nat}
    (hg : ∀ t ag n us vs b, ty P t = some (ag, n) → us.length = n → vs.length = n → g t us vs = some b → ∀ w, (Op.equalIn d t (asV ag us) (asV ag vs)).run P w = .ok b w)
    (hone : ∀ t n us vs b, ty P t = some (false, n) → us.length = n → g t us vs = some b → n = 1) :
    ∀ (fs : List Field) (b : Bool), veqF g P xs ys fs = some b → ∀ w, (Op.eqFields d xs.toArray ys.toArray fs).run P w = .ok b w
  | [], b, h, w => by simp only [veqF, Option.some.injEq] at h; subst h; rfl
  | f :: fs, b, h, w => by
    simp only [veqF] at h
    split at h
    · cases h
    · rename_i hname
      split at h
      · rename_i ag n ht
        split at h
        rotate_left
        · cases h
        rename_i hcl
        simp only [Bool.and_eq_true, Nat.ble_eq] at hcl
        obtain ⟨l1, l2⟩ := hcl
        split at h
        · rename_i b1 b2 h1 h2
          injection h with h; subst h
          have hone' : ag = false → n = 1 := fun e => by
            subst e
            exact hone f.type n _ _ b1 ht (by rw [List.length_take, List.length_drop]; omega) h1
          have e1 := run_part (P := P) ht xs f.offset hone' l1 w
          have e2 := run_part (P := P) ht ys f.offset hone' l2 w
          have e3 := hg f.type ag n _ _ b1 ht (by rw [List.length_take, List.length_drop]; omega) (by rw [List.length_take, List.length_drop]; omega) h1 w
          have ih := veqF_run hg hone fs b2 h2 w
          simp only [Op.eqFields, ne_eq, hname, not_false_eq_true, if_true, Sem.run_bind, e1, e2, e3, Result.andThen_ok]
          cases b1 with
          | true => simpa using ih
          | false => simp
        · cases h
      · cases h

theorem veqA_run {e : TypeId} {ag : Bool} {n d : Nat} (ht : ty P e = some (ag, n)) {g : List Value → List Value → Option Bool} {xs ys : List Value}
    (hg : ∀ us vs b, us.length = n → vs.length = n → g us vs = some b → ∀ w, (Op.equalIn d e (asV ag us) (asV ag vs)).run P w = .ok b w)
    (hone : ∀ us vs b, us.length = n → g us vs = some b → ag = false → n = 1) :
    ∀ (k i : Nat) (b : Bool), veqA g n xs ys k i = some b → ∀ w, (eqElems d e n xs.toArray ys.toArray (List.range' i k)).run P w = .ok b w
  | 0, i, b, h, w => by simp only [veqA, Option.some.injEq] at h; subst h; rfl
  | k + 1, i, b, h, w => by
    simp only [veqA] at h
    split at h
    rotate_left
    · cases h
    rename_i hcl
    simp only [Bool.and_eq_true, Nat.ble_eq] at hcl
    obtain ⟨l1, l2⟩ := hcl
    split at h
    · rename_i b1 b2 h1 h2
      injection h with h; subst h
      have hone' : ag = false → n = 1 := hone _ _ b1 (by rw [List.length_take, List.length_drop]; omega) h1
      have e1 := run_part (P := P) ht xs (i * n) hone' l1 w
      have e2 := run_part (P := P) ht ys (i * n) hone' l2 w
      have e3 := hg _ _ b1 (by rw [List.length_take, List.length_drop]; omega) (by rw [List.length_take, List.length_drop]; omega) h1 w
      have ih := veqA_run ht hg hone k (i + 1) b2 h2 w
      simp only [List.range'_succ, eqElems, Sem.run_bind, e1, e2, e3, Result.andThen_ok]
      cases b1 with
      | true => simpa using ih
      | false => simp
    · cases h

theorem ty_of {t : TypeId} {ag : Bool} {n : Nat} (h : ty P t = some (ag, n)) : ag = true ↔ ((∃ fs, P.underlying t = some (.struct fs)) ∨ ∃ k e, P.underlying t = some (.array k e)) := by
  unfold ty at h
  split at h
  · rename_i fs i hu hi
    simp only [Option.some.injEq, Prod.mk.injEq] at h
    simp [← h.1, hu]
  · rename_i k e i hu hi
    simp only [Option.some.injEq, Prod.mk.injEq] at h
    simp [← h.1, hu]
  · rename_i d i h1 h2 hu hi
    simp only [Option.some.injEq, Prod.mk.injEq] at h
    constructor
    · intro e; rw [← h.1] at e; cases e
    · rintro (⟨fs, e⟩ | ⟨k, e', e⟩)
      · rw [hu] at e; injection e with e; exact absurd e (h1 fs)
      · rw [hu] at e; injection e with e; exact absurd e (h2 k e')
  · cases h

theorem veq_one : ∀ (d : Nat) (t : TypeId) (n : Nat) (us vs : List Value) (b : Bool), ty P t = some (false, n) → us.length = n → veq P d t us vs = some b → n = 1
  | 0, t, n, us, vs, b, ht, hl, h => by cases h
  | d + 1, t, n, us, vs, b, ht, hl, h => by
    simp only [veq] at h
    split at h
    · rename_i fs hu; have := ty_struct hu ht; cases this
    · rename_i k e hu; have := ty_array hu ht; cases this
    · split at h
      · rename_i h1; rw [ht] at h1; simp only [Option.some.injEq, Prod.mk.injEq, true_and] at h1; exact h1
      · cases h

theorem veq_run : ∀ (d : Nat) (t : TypeId) (ag : Bool) (n : Nat) (us vs : List Value) (b : Bool), ty P t = some (ag, n) → us.length = n → vs.length = n → veq P d t us vs = some b →
    ∀ w, (Op.equalIn d t (asV ag us) (asV ag vs)).run P w = .ok b w
  | 0, t, ag, n, us, vs, b, ht, _, _, h => by cases h
  | d + 1, t, ag, n, us, vs, b, ht, hu, hv, h => by
    intro w
    simp only [veq] at h
    split at h
    · rename_i fs hd
      split at h
      · cases h
      · rename_i hs
        have hag := ty_struct hd ht
        subst hag
        have hfo : P.fieldsOf t = fs := by simp [Program.fieldsOf, hd]
        simp only [asV, if_true]
        rw [run_equalIn_agg w d t _ _ (by rw [hfo]; exact hd) (by simpa using hs), hfo]
        exact veqF_run (fun t ag n us vs b h1 h2 h3 h4 => veq_run d t ag n us vs b h1 h2 h3 h4) (fun t n us vs b h1 h2 h3 => veq_one d t n us vs b h1 h2 h3) fs.toList b h w
    · rename_i len e hd
      split at h
      · rename_i ag' n' he
        have hag := ty_array hd ht
        subst hag
        simp only [asV, if_true]
        rw [run_equalIn_array w d t e len n' _ _ hd (fun w => (ty_run he w).2)]
        exact veqA_run he (fun us vs b h2 h3 h4 => veq_run d e ag' n' us vs b he h2 h3 h4) (fun us vs b h2 h3 h4 => veq_one d e n' us vs b (by rw [he, h4]) h2 h3) len 0 b h w
      · cases h
    · split at h
      · rename_i x y h4
        rw [ht] at h4
        simp only [Option.some.injEq, Prod.mk.injEq] at h4
        obtain ⟨rfl, rfl⟩ := h4
        exact veq1_run h d w
      · cases h
end Go.Eng
