/- What is laid as bytes, step by step: plain functions, the conditions of a run, members within an entry; no statement. -/
import Derived.Test.YtjplobgambnhjaaMbe
set_option linter.unusedVariables false
set_option linter.unusedSimpArgs false
set_option maxRecDepth 100000
namespace Go.Proofs.Ytjplobgambnhjaa
open Go Go.Eng

abbrev cY : List AC := [.fn 73 [(1,0)], .fn 75 [(1,0)], .fn 77 [(1,0)]]
abbrev wY : AV := .agg cY
abbrev fnY (f1 f2 f3 : Nat) : Bool := decide (f1 = 73 ∧ f2 = 75 ∧ f3 = 77)
abbrev hY (b : ByteArray) (c : List AC) : List AB := [.cells [.str b], .cells [.ptr 0 0], .cells c]
theorem hY_pre {t : CT} {f : Nat} {args : List AV} {b : ByteArray} {c : List AC} {d : t.den} {r : AV} {hp' : List AB} (h : CT.un t c = some (d, [])) (hh : HeapCall Try.prog f args (hY b (t.cells d)) r hp') : HeapCall Try.prog f args (hY b c) r hp' :=
  hh.pre (.cons (.refl _) (.cons (.refl _) (.cons (.cells (.un h)) .nil)))
def selLay (args : List AV) (hp : List AB) : List Nat := match args with
  | [.agg [.fn _ [(x, 0)], _, _], .one (.ptr i _)] => match hp[x]? with
    | some (.cells [.ptr y 0]) => [y, x, i]
    | _ => []
  | _ => []
def selFlg (args : List AV) (hp : List AB) : List Nat := match args with
  | [.one (.ptr i _), .one (.ptr x 0)] => match hp[x]? with
    | some (.cells [.ptr y 0]) => [y, x, i]
    | _ => []
  | _ => []
/-- A value as bytes; several, behind others. -/
def layB : RV → ByteArray
  | .n v => nS v
  | .t b => tS b
  | .f f => fS f
def laysB : ByteArray → List RV → ByteArray
  | b, [] => b
  | b, v :: l => laysB (b ++ layB v) l
def layC : RV → ByteArray → List Bool
  | .n v, b => [uOk v, room b 20]
  | .t s, b => [room b (s.size + 20)]
  | .f _, b => [true, room b 20]
def laysC : ByteArray → List RV → List Bool
  | _, [] => []
  | b, v :: l => laysC (b ++ layB v) l ++ layC v b
/-- How much room the bytes of a value want at most; are its numbers numbers. -/
def laySz : RV → Nat
  | .t s => s.size + 20
  | _ => 20
def laysSz : List RV → Nat
  | [] => 0
  | v :: l => laySz v + laysSz l
def layU : RV → Bool
  | .n v => uOk v
  | _ => true
theorem layB_size (v : RV) : (layB v).size ≤ laySz v := by
  cases v with
  | n v => have := nS_size v; show (nS v).size ≤ 20; omega
  | t s => have := tS_size s; show (tS s).size ≤ s.size + 20; omega
  | f f => have := fS_size f; show (fS f).size ≤ 20; omega
theorem laysC_all : ∀ (l : List RV) (b : ByteArray), l.all layU = true → b.size + laysSz l ≤ 1000000000000 → (laysC b l).all (fun c => c) = true
  | [], _, _, _ => rfl
  | v :: l, b, hu, hs => by
    rw [List.all_cons, Bool.and_eq_true] at hu
    have hz := layB_size v
    have hs' : b.size + (laySz v + laysSz l) ≤ 1000000000000 := hs
    have h1 := laysC_all l (b ++ layB v) hu.2 (by rw [ByteArray.size_append]; omega)
    rw [laysC, List.all_append, h1]
    cases v with
    | n v =>
      have hu1 : uOk v = true := hu.1
      have : laySz (.n v) = 20 := rfl
      simp only [layC, List.all_cons, List.all_nil, hu1, room_of (b := b) (n := 20) (by omega)]; rfl
    | t s =>
      have : laySz (.t s) = s.size + 20 := rfl
      simp only [layC, List.all_cons, List.all_nil, room_of (b := b) (n := s.size + 20) (by omega)]; rfl
    | f f =>
      have : laySz (.f f) = 20 := rfl
      simp only [layC, List.all_cons, List.all_nil, room_of (b := b) (n := 20) (by omega)]; rfl
theorem laysB_app : ∀ (l r : List RV) (b : ByteArray), laysB b (l ++ r) = laysB (laysB b l) r
  | [], _, _ => rfl
  | v :: l, r, b => laysB_app l r _
theorem laysB_size : ∀ (l : List RV) (b : ByteArray), (laysB b l).size ≤ b.size + laysSz l
  | [], b => Nat.le_refl _
  | v :: l, b => by
    have h1 := laysB_size l (b ++ layB v)
    have h2 := layB_size v
    rw [ByteArray.size_append] at h1
    show (laysB (b ++ layB v) l).size ≤ b.size + (laySz v + laysSz l)
    omega
/-- What is laid behind nothing. -/
def encsB : List RV → ByteArray
  | [] => ByteArray.mk #[]
  | v :: l => layB v ++ encsB l
theorem appMt (x : ByteArray) : x ++ (ByteArray.mk #[]) = x := by
  apply ByteArray.ext
  simp [ByteArray.data_append]
theorem laysB_encs : ∀ (l : List RV) (b : ByteArray), laysB b l = b ++ encsB l
  | [], b => (appMt b).symm
  | v :: l, b => by
    show laysB (b ++ layB v) l = b ++ (layB v ++ encsB l)
    rw [laysB_encs l, ByteArray.append_assoc]
theorem encsB_app : ∀ (l r : List RV), encsB (l ++ r) = encsB l ++ encsB r
  | [], r => (emptyApp _).symm
  | v :: l, r => by
    show layB v ++ encsB (l ++ r) = layB v ++ encsB l ++ encsB r
    rw [encsB_app l r, ByteArray.append_assoc]

/-- A flag laid, of an entry's. -/
def ofE : Nat → Nat | 0 => 11 | _ => 18
def gtE (j : Nat) (d : rEntry.den) : Bool := match j with
  | 0 => d.2.2.2.1.2.2.2.2.1.2.2.2.2.1
  | _ => d.2.2.2.1.2.2.2.2.2.2.2.2.2.2.1.1
theorem flE_run (f : Bool) : ∀ j, j ≤ 1 → ∀ (b : ByteArray) (d : rEntry.den), EWn.run 77 [.one (.ptr 2 (ofE j)), .one (.ptr 1 0)] (hY b (rEntry.cells d)) [f] =
    some (.tup [], hY (b ++ yS (bif f then 1 else 0)) (rEntry.cells d), [room b 20, gtE j d == f]) := by
  intro j hj
  have h : j = 0 ∨ j = 1 := by omega
  rcases h with rfl | rfl
  all_goals (intro b d; cases f <;> kernel_rfl)
theorem flE_h (j : Nat) (hj : j ≤ 1) (b : ByteArray) (d : rEntry.den) (hb : room b 20 = true) : HeapCall Try.prog 77 [.one (.ptr 2 (ofE j)), .one (.ptr 1 0)] (hY b (rEntry.cells d)) (.tup []) (hY (b ++ fS (gtE j d)) (rEntry.cells d)) :=
  EWn.heap_cut 3 (flE_run (gtE j d) j hj b d) (allI (by rw [hb]; simp)) (Nat.le_refl 3) (by simp [idsV]) (by kernel_rfl) (by simp [idsB, idsC, CT.cells])
def jE (off : Nat) : Nat := if off = 11 then 0 else 1
theorem flE_h' (off : Nat) (b : ByteArray) (d : rEntry.den) (ho : Nat.beq (ofE (jE off)) off = true) (hb : room b 20 = true) : HeapCall Try.prog 77 [.one (.ptr 2 off), .one (.ptr 1 0)] (hY b (rEntry.cells d)) (.tup []) (hY (b ++ fS (gtE (jE off) d)) (rEntry.cells d)) := by
  have := flE_h (jE off) (by unfold jE; split <;> omega) b d hb
  rw [Nat.eq_of_beq_eq_true ho] at this
  exact this
def flEF (args : List AV) (hp : List AB) (os : List Bool) : Option ((AV × List AB) × List Bool × List Bool) := match args, hp with
  | [.one (.ptr 2 off), .one (.ptr 1 0)], [.cells [.str b], .cells [.ptr 0 0], .cells c] => match CT.un rEntry c with
    | some (d, []) => retC (.tup [], hY (b ++ fS (gtE (jE off) d)) (rEntry.cells d)) [Nat.beq (ofE (jE off)) off, room b 20] os
    | _ => none
  | _, _ => none
/-- Members laid. -/
def memR (l : List Int) : List RV := .n (wU ((l.length : Nat) : Int)) :: l.map fun v => .n (wU v)
def smI (v : Int) : Bool := decide (0 ≤ v ∧ v ≤ 1000)
theorem smI_bk {v : Int} (h : smI v = true) : IntKind.i64.wrap (IntKind.u64.wrap v) = v := by
  have h := of_decide_eq_true h
  rw [wrapU64 (by omega) (by omega), wrap64 (by omega) (by omega)]
def csW : List Int → ByteArray → List Bool
  | [], _ => []
  | v :: l, b => csW l (b ++ nS (wU v)) ++ [decide (IntKind.i64.wrap (IntKind.u64.wrap v) = v), uOk (wU v), room b 20, true, true]
theorem csW_all : ∀ (l : List Int) (b : ByteArray), l.all smI = true → b.size + 20 * l.length ≤ 1000000000000 → (csW l b).all (fun c => c) = true
  | [], _, _, _ => rfl
  | v :: l, b, h, hs => by
    rw [List.all_cons, Bool.and_eq_true] at h
    have hz := nS_size (wU v)
    rw [List.length_cons] at hs
    have h1 := csW_all l (b ++ nS (wU v)) h.2 (by rw [ByteArray.size_append]; omega)
    have h2 : uOk (wU v) = true := uOk_wrap v
    rw [csW, List.all_append, h1]
    simp only [List.all_cons, List.all_nil, h2, smI_bk h.1, room_of (b := b) (n := 20) (by omega)]; rfl
abbrev aYe : List AV := [wY, .one (.ptr 2 23)]
theorem mly_run0 (b : ByteArray) (d : rEntry.den) : EWn.run 72 aYe (hY b (rEntry.cells (setL d []))) [false, false] =
    some (.tup [], hY (laysB b (memR [])) (rEntry.cells (setL d [])) ++ [.cells cY], true :: (csW [] (b ++ nS (wU 0)) ++ [true, true, room b 20])) := by kernel_rfl
theorem mly_run1 (a0 : Int) (b : ByteArray) (d : rEntry.den) : EWn.run 72 aYe (hY b (rEntry.cells (setL d [a0]))) [false, true, false] =
    some (.tup [], hY (laysB b (memR [a0])) (rEntry.cells (setL d [a0])) ++ [.cells cY], true :: (csW [a0] (b ++ nS (wU 1)) ++ [true, true, room b 20])) := by kernel_rfl
theorem mly_run2 (a0 a1 : Int) (b : ByteArray) (d : rEntry.den) : EWn.run 72 aYe (hY b (rEntry.cells (setL d [a0, a1]))) [false, true, true, false] =
    some (.tup [], hY (laysB b (memR [a0, a1])) (rEntry.cells (setL d [a0, a1])) ++ [.cells cY], true :: (csW [a0, a1] (b ++ nS (wU 2)) ++ [true, true, room b 20])) := by kernel_rfl
theorem mly_run3 (a0 a1 a2 : Int) (b : ByteArray) (d : rEntry.den) : EWn.run 72 aYe (hY b (rEntry.cells (setL d [a0, a1, a2]))) [false, true, true, true, false] =
    some (.tup [], hY (laysB b (memR [a0, a1, a2])) (rEntry.cells (setL d [a0, a1, a2])) ++ [.cells cY], true :: (csW [a0, a1, a2] (b ++ nS (wU 3)) ++ [true, true, room b 20])) := by kernel_rfl
theorem mly_run4 (a0 a1 a2 a3 : Int) (b : ByteArray) (d : rEntry.den) : EWn.run 72 aYe (hY b (rEntry.cells (setL d [a0, a1, a2, a3]))) [false, true, true, true, true, false] =
    some (.tup [], hY (laysB b (memR [a0, a1, a2, a3])) (rEntry.cells (setL d [a0, a1, a2, a3])) ++ [.cells cY], true :: (csW [a0, a1, a2, a3] (b ++ nS (wU 4)) ++ [true, true, room b 20])) := by kernel_rfl
theorem mly_run5 (a0 a1 a2 a3 a4 : Int) (b : ByteArray) (d : rEntry.den) : EWn.run 72 aYe (hY b (rEntry.cells (setL d [a0, a1, a2, a3, a4]))) [false, true, true, true, true, true, false] =
    some (.tup [], hY (laysB b (memR [a0, a1, a2, a3, a4])) (rEntry.cells (setL d [a0, a1, a2, a3, a4])) ++ [.cells cY], true :: (csW [a0, a1, a2, a3, a4] (b ++ nS (wU 5)) ++ [true, true, room b 20])) := by kernel_rfl
theorem mly_fin {l : List Int} {b : ByteArray} {d : rEntry.den} {os : List Bool} (hl : l.length ≤ 5) (hs : l.all smI = true) (hb : room b 200 = true)
    (hr : EWn.run 72 aYe (hY b (rEntry.cells (setL d l))) os = some (.tup [], hY (laysB b (memR l)) (rEntry.cells (setL d l)) ++ [.cells cY], true :: (csW l (b ++ nS (wU ((l.length : Nat) : Int))) ++ [true, true, room b 20]))) :
    HeapCall Try.prog 72 aYe (hY b (rEntry.cells (setL d l))) (.tup []) (hY (laysB b (memR l)) (rEntry.cells (setL d l))) := by
  have hb' := room_le hb
  have hz := nS_size (wU ((l.length : Nat) : Int))
  refine EWn.heap_cut 3 hr (allI ?_) (Nat.le_refl 3) (by simp [idsV]) (by kernel_rfl) (by simp [idsB, idsC, setL, CT.cells])
  rw [List.all_cons, List.all_append, csW_all l _ hs (by rw [ByteArray.size_append]; omega)]
  simp only [List.all_cons, List.all_nil, room_of (b := b) (n := 20) (by omega)]; rfl
theorem mly_h (l : List Int) (b : ByteArray) (d : rEntry.den) (hl : l.length ≤ 5) (hs : l.all smI = true) (hb : room b 200 = true) :
    HeapCall Try.prog 72 aYe (hY b (rEntry.cells (setL d l))) (.tup []) (hY (laysB b (memR l)) (rEntry.cells (setL d l))) := by
  match l, hl, hs with
  | [], hl, hs => exact mly_fin hl hs hb (mly_run0 b d)
  | [a0], hl, hs => exact mly_fin hl hs hb (mly_run1 a0 b d)
  | [a0, a1], hl, hs => exact mly_fin hl hs hb (mly_run2 a0 a1 b d)
  | [a0, a1, a2], hl, hs => exact mly_fin hl hs hb (mly_run3 a0 a1 a2 b d)
  | [a0, a1, a2, a3], hl, hs => exact mly_fin hl hs hb (mly_run4 a0 a1 a2 a3 b d)
  | [a0, a1, a2, a3, a4], hl, hs => exact mly_fin hl hs hb (mly_run5 a0 a1 a2 a3 a4 b d)
  | _ :: _ :: _ :: _ :: _ :: _ :: _, hl, _ => simp only [List.length_cons] at hl; omega
def mlyF (args : List AV) (hp : List AB) (os : List Bool) : Option ((AV × List AB) × List Bool × List Bool) := match args, hp with
  | [.agg [.fn f1 [(1, 0)], .fn f2 [(1, 0)], .fn f3 [(1, 0)]], .one (.ptr 2 23)], [.cells [.str b], .cells [.ptr 0 0], .cells c] => match CT.un rEntry c with
    | some (d, []) => retC (.tup [], hY (laysB b (memR d.2.2.2.2.1)) (rEntry.cells d)) [fnY f1 f2 f3, decide (List.length d.2.2.2.2.1 ≤ 5), List.all d.2.2.2.2.1 smI, room b 200] os
    | _ => none
  | _, _ => none
noncomputable def EYm : Env Try.prog := ((EWn.addHF 77 selFlg flEF
  (fun args hp os r' hp' cs os' h hc => by
    unfold flEF at h
    split at h
    · split at h
      · rename_i hu
        simp only [retC, Option.some.injEq, Prod.mk.injEq] at h
        obtain ⟨⟨rfl, rfl⟩, rfl, rfl⟩ := h
        obtain ⟨h1, hc⟩ := of_allTc hc
        obtain ⟨h2, _⟩ := of_allTc hc
        exact hY_pre hu (flE_h' _ _ _ h1 h2)
      · cases h
    · cases h)).addHF 72 selLay mlyF
  (fun args hp os r' hp' cs os' h hc => by
    unfold mlyF at h
    split at h
    · split at h
      · rename_i hu
        simp only [retC, Option.some.injEq, Prod.mk.injEq] at h
        obtain ⟨⟨rfl, rfl⟩, rfl, rfl⟩ := h
        obtain ⟨h1, hc⟩ := of_allTc hc
        obtain ⟨h2, hc⟩ := of_allTc hc
        obtain ⟨h3, hc⟩ := of_allTc hc
        obtain ⟨h4, _⟩ := of_allTc hc
        obtain ⟨rfl, rfl, rfl⟩ := of_decide_eq_true h1
        exact hY_pre hu (mly_h _ _ _ (of_decide_eq_true h2) h3 h4)
      · cases h
    · cases h)).addT1 22 [.agg rEntry] (fun d => vI (entV d.1)) (fun _ => []) fun d _ => ent_pure d.1
end Go.Proofs.Ytjplobgambnhjaa
