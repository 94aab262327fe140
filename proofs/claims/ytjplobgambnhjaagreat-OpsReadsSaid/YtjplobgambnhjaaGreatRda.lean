/- What is read of bytes, step by step: plain functions and the conditions of a run; no statement. -/
import Derived.Test.YtjplobgambnhjaaGreatDev
import Derived.Test.YtjplobgambnhjaaGreatEngZ19
set_option linter.unusedVariables false
set_option linter.unusedSimpArgs false
namespace Go.Proofs.YtjplobgambnhjaaGreat
open Go Go.Eng

theorem taut1 (b : Bool) : (!b || (b == true)) = true := by cases b <;> rfl
theorem taut2 (b : Bool) : (!(b == true) || (b == true)) = true := by cases b <;> rfl
theorem szk_ext {s : ByteArray} {a b : Nat} (h : szk s = true) : szk (s.extract a b) = true := by
  have h := of_decide_eq_true h
  refine decide_eq_true ?_
  rw [ByteArray.size_extract]; omega
theorem szk_nr {s : ByteArray} (h : szk s = true) : szk (nr s) = true := szk_ext h
theorem szk_tr {s : ByteArray} {m : Int} (h : szk s = true) : szk (tr s m) = true := by
  unfold tr; cases tb s m
  · exact h
  · exact szk_ext h
theorem szk_tv {s : ByteArray} {m : Int} (h : szk s = true) : szk (tv s m) = true := by
  unfold tv; cases tb s m
  · rfl
  · exact szk_ext h
theorem szk_yr {s : ByteArray} (h : szk s = true) : szk (yr s) = true := by
  unfold yr; cases yb s
  · exact h
  · exact szk_ext h
def selTk (args : List AV) (hp : List AB) : List Nat := match args with
  | [.agg [.fn _ [(x, 0), (y, 0)], _, _], .one (.ptr i _)] => match hp[x]?, hp[y]? with
    | some (.cells [.ptr r 0]), some (.cells [.ptr q 0]) => [r, q, x, y, i]
    | _, _ => []
  | _ => []
/-- The three functions of a way that takes. -/
abbrev cW : List AC := [.fn 46 [(2,0), (3,0)], .fn 48 [(2,0), (3,0)], .fn 50 [(2,0), (3,0)]]
abbrev wT : AV := .agg cW
abbrev fnT (f1 f2 f3 : Nat) : Bool := decide (f1 = 46 ∧ f2 = 48 ∧ f3 = 50)
abbrev hMb (s : ByteArray) (g : Bool) (c : List AC) : List AB := [.cells [.str s], .cells [.bool g], .cells [.ptr 0 0], .cells [.ptr 1 0], .cells c]
theorem hMb_pre {t : CT} {f : Nat} {args : List AV} {s : ByteArray} {g : Bool} {c : List AC} {d : t.den} {r : AV} {hp' : List AB} (h : CT.un t c = some (d, [])) (hh : HeapCall Tryz.prog f args (hMb s g (t.cells d)) r hp') : HeapCall Tryz.prog f args (hMb s g c) r hp' :=
  hh.pre (.cons (.refl _) (.cons (.refl _) (.cons (.refl _) (.cons (.refl _) (.cons (.cells (.un h)) .nil)))))

/-- What is read, field by field: a number, a text, a flag, a number with a sign. -/
inductive Rd where
  | n (m : Int) | t (m : Int) | y | g
inductive RV where
  | n (v : Int) | t (b : ByteArray) | f (b : Bool)
def nOf : RV → Int | .n v => v | _ => 0
def tOf : RV → ByteArray | .t b => b | _ => ByteArray.empty
def fOf : RV → Bool | .f b => b | _ => false
/-- A number with a sign: is it below 0; it. -/
def sgO (n : Int) : Bool := IntKind.u64.wrap (((BitVec.ofInt IntKind.u64.bits n &&& BitVec.ofInt IntKind.u64.bits 1).toNat : Nat) : Int) == 1
def sgH (n : Int) : Int := IntKind.i64.wrap (n.fdiv (2 ^ min (Int.toNat 1) IntKind.u64.bits))
def sgV (n : Int) : Int := bif sgO n then IntKind.i64.wrap (IntKind.i64.wrap (0 - sgH n) - 1) else sgH n
def cgB (g : Bool) (s : ByteArray) : Bool := bif bif g then nb s else false then decide (numV s ≤ 1073741824) else false
def rdS : Rd → ByteArray → ByteArray
  | .n _, s => nr s
  | .t m, s => tr s m
  | .y, s => yr s
  | .g, s => nr s
def rdG : Rd → Bool → ByteArray → Bool
  | .n m, g, s => bif bif g then nb s else false then decide (numV s ≤ m) else false
  | .t m, g, s => bif g then tb s m else false
  | .y, g, s => bif bif g then yb s else false then decide (yv s ≤ 1) else false
  | .g, g, s => cgB g s
def rdV : Rd → ByteArray → RV
  | .n _, s => .n (numV s)
  | .t m, s => .t (tv s m)
  | .y, s => .f (yv s == 1)
  | .g, s => .n (sgV (numV s))
/-- What a run takes for granted where a number is read. -/
def numC (g : Bool) (s : ByteArray) : List Bool := [((fun q => (!bif g then nb s else false) || q) ((bif g then nb s else false) == true)), ((fun q => !(bif g then nb s else false) == true || q) ((bif g then nb s else false) == true)), ((fun q => !(bif g then nb s else false) == true || q) ((bif g then nb s else false) == true)), ((fun q => !g || q) (g == true))]
theorem numC_all (g : Bool) (s : ByteArray) : (numC g s).all (fun c => c) = true := by
  unfold numC
  generalize (bif g then nb s else false) = x
  cases x <;> cases g <;> rfl
def cs0 (k : Int) (s : ByteArray) (g : Bool) : List Bool := numC g s ++ [decide (numV s = k)]
theorem cs0_all {k : Int} {s : ByteArray} {g : Bool} (h : numV s = k) : (cs0 k s g).all (fun c => c) = true := by
  unfold cs0
  rw [List.all_append, numC_all]
  simp [h]
def rdC : Rd → Bool → ByteArray → List Bool
  | .n _, g, s => numC g s
  | .t m, g, s => [((fun q => !g || q) (g == true)), decide ((0 : Int) ≤ m), szk s]
  | .y, g, s => [((fun q => (!bif g then yb s else false) || q) ((bif g then yb s else false) == true)), ((fun q => !(bif g then yb s else false) == true || q) ((bif g then yb s else false) == true)), ((fun q => !g || q) (g == true))]
  | .g, g, s => [true, true, true]
def rdsS : List Rd → ByteArray → ByteArray
  | [], s => s
  | r :: l, s => rdsS l (rdS r s)
def rdsG : List Rd → Bool → ByteArray → Bool
  | [], g, _ => g
  | r :: l, g, s => rdsG l (rdG r g s) (rdS r s)
def rdsV : List Rd → ByteArray → List RV
  | [], _ => []
  | r :: l, s => rdV r s :: rdsV l (rdS r s)
def rdsC : List Rd → Bool → ByteArray → List Bool
  | [], _, _ => []
  | r :: l, g, s => rdsC l (rdG r g s) (rdS r s) ++ rdC r g s
def rdOk : Rd → Bool | .t m => decide ((0 : Int) ≤ m) | _ => true
theorem szk_rdS (r : Rd) {s : ByteArray} (h : szk s = true) : szk (rdS r s) = true := by
  cases r
  · exact szk_nr h
  · exact szk_tr h
  · exact szk_yr h
  · exact szk_nr h
theorem szk_rdsS : ∀ (l : List Rd) {s : ByteArray}, szk s = true → szk (rdsS l s) = true
  | [], _, h => h
  | r :: l, _, h => szk_rdsS l (szk_rdS r h)
theorem rdC_all (r : Rd) (g : Bool) {s : ByteArray} (h : szk s = true) (ho : rdOk r = true) : (rdC r g s).all (fun c => c) = true := by
  cases r with
  | n m => exact numC_all g s
  | t m =>
    have ho : decide ((0 : Int) ≤ m) = true := ho
    simp only [rdC, List.all_cons, List.all_nil, h, ho]
    cases g <;> rfl
  | y =>
    simp only [rdC]
    generalize (bif g then yb s else false) = x
    cases x <;> cases g <;> rfl
  | g => rfl
theorem rdsC_all : ∀ (l : List Rd) (g : Bool) {s : ByteArray}, szk s = true → l.all rdOk = true → (rdsC l g s).all (fun c => c) = true
  | [], _, _, _, _ => rfl
  | r :: l, g, s, h, ho => by
    rw [List.all_cons, Bool.and_eq_true] at ho
    rw [rdsC, List.all_append, rdsC_all l _ (szk_rdS r h) ho.2, rdC_all r g h ho.1]; rfl
abbrev wN : Rd := .n 1073741824
abbrev tN : Rd := .n 1099511627776
abbrev mN : Rd := .n 18446744073709551615
abbrev cT : Rd := .t 65536
def rOpL : List Rd := [wN, cT, cT, cT, .y, cT]
def rCmdL : List Rd := [wN, wN, tN, tN] ++ rOpL ++ [tN, wN, cT, cT, wN, .y, wN, cT, wN, wN]
abbrev nn (V : List RV) (j : Nat) : Int := nOf (V.getD j (.n 0))
abbrev ww (V : List RV) (j : Nat) : Int := IntKind.i64.wrap (nOf (V.getD j (.n 0)))
abbrev tt (V : List RV) (j : Nat) : ByteArray := tOf (V.getD j (.n 0))
abbrev ff (V : List RV) (j : Nat) : Bool := fOf (V.getD j (.n 0))

/-- So many numbers taken: what is left; is all well; the numbers. -/
def mbS : Nat → ByteArray → ByteArray
  | 0, s => s
  | k + 1, s => mbS k (nr s)
def mbG : Nat → Bool → ByteArray → Bool
  | 0, g, _ => g
  | k + 1, g, s => mbG k (cgB g s) (nr s)
def mbL : Nat → ByteArray → List Int
  | 0, _ => []
  | k + 1, s => IntKind.i64.wrap (numV s) :: mbL k (nr s)
theorem szk_mbS : ∀ k {s : ByteArray}, szk s = true → szk (mbS k s) = true
  | 0, _, h => h
  | k + 1, _, h => szk_mbS k (szk_nr h)
def csM (s : ByteArray) (g : Bool) : Nat → List Bool
  | 0 => []
  | j + 1 => numC (mbG j g s) (mbS j s) ++ true :: true :: csM s g j
theorem csM_all (s : ByteArray) (g : Bool) : ∀ k, (csM s g k).all (fun c => c) = true
  | 0 => rfl
  | k + 1 => by
    have := csM_all s g k
    have := numC_all (mbG k g s) (mbS k s)
    simp [csM, List.all_append, *] at *
def lmK (k : Int) (g : Bool) (s : ByteArray) : Bool := bif bif g then nb s else false then decide (k ≤ 5) else false
def lmB (g : Bool) (s : ByteArray) : Bool := lmK (numV s) g s
def lmN (s : ByteArray) : Nat := if numV s ≤ 5 then (numV s).toNat else 0
theorem nrd_lit (s : ByteArray) (k : Int) (h : numV s = k) : HeapCall Tryz.prog 47 [.one (.ptr 0 0)] [.cells [.str s]] (tupB (.int .u64 k) (nb s)) [.cells [.str (nr s)]] := h ▸ nrd_heap s
/-- A number by the choices: as it is (false), or known to be k (true). -/
def numF (k : Int) (args : List AV) (hp : List AB) (os : List Bool) : Option ((AV × List AB) × List Bool × List Bool) := match args, hp with
  | [.one (.ptr 0 0)], [.cells [.str s]] => match os with
    | [] => ret1 (tupB (.int .u64 (numV s)) (nb s), [.cells [.str (nr s)]]) []
    | false :: r => ret1 (tupB (.int .u64 (numV s)) (nb s), [.cells [.str (nr s)]]) r
    | true :: r => retC (tupB (.int .u64 k) (nb s), [.cells [.str (nr s)]]) [decide (numV s = k)] r
  | _, _ => none
theorem numF_ok (k : Int) (args : List AV) (hp : List AB) (os : List Bool) (r : AV) (hp' : List AB) (cs os' : List Bool) (h : numF k args hp os = some ((r, hp'), cs, os')) (hc : ∀ c ∈ cs, c = true) : HeapCall Tryz.prog 47 args hp r hp' := by
  unfold numF at h
  split at h
  · split at h
    · simp only [ret1, Option.some.injEq, Prod.mk.injEq] at h
      obtain ⟨⟨rfl, rfl⟩, rfl, rfl⟩ := h
      exact nrd_heap _
    · simp only [ret1, Option.some.injEq, Prod.mk.injEq] at h
      obtain ⟨⟨rfl, rfl⟩, rfl, rfl⟩ := h
      exact nrd_heap _
    · simp only [retC, Option.some.injEq, Prod.mk.injEq] at h
      obtain ⟨⟨rfl, rfl⟩, rfl, rfl⟩ := h
      exact nrd_lit _ _ (of_decide_eq_true (of_allTc hc).1)
  · cases h
noncomputable def EDn (k : Int) : Env Tryz.prog := EDr.addHF 47 selP (numF k) (numF_ok k)
end Go.Proofs.YtjplobgambnhjaaGreat
