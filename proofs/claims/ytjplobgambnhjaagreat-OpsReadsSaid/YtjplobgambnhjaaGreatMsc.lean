/- A message taken of bytes: numbers with a sign, the environment; no statement. -/
import Derived.Test.YtjplobgambnhjaaGreatFre
set_option linter.unusedVariables false
set_option linter.unusedSimpArgs false
set_option maxRecDepth 100000
namespace Go.Proofs.YtjplobgambnhjaaGreat
open Go Go.Eng

def setH (d : rMsg.den) (v : Int) : rMsg.den := (d.1, d.2.1, d.2.2.1, d.2.2.2.1, d.2.2.2.2.1, d.2.2.2.2.2.1, d.2.2.2.2.2.2.1, d.2.2.2.2.2.2.2.1, d.2.2.2.2.2.2.2.2.1, d.2.2.2.2.2.2.2.2.2.1, d.2.2.2.2.2.2.2.2.2.2.1, (d.2.2.2.2.2.2.2.2.2.2.2.1.1, d.2.2.2.2.2.2.2.2.2.2.2.1.2.1, d.2.2.2.2.2.2.2.2.2.2.2.1.2.2.1, v, ()), d.2.2.2.2.2.2.2.2.2.2.2.2)
def setI (d : rMsg.den) (v : Int) : rMsg.den := (d.1, d.2.1, d.2.2.1, d.2.2.2.1, d.2.2.2.2.1, d.2.2.2.2.2.1, d.2.2.2.2.2.2.1, d.2.2.2.2.2.2.2.1, d.2.2.2.2.2.2.2.2.1, d.2.2.2.2.2.2.2.2.2.1, d.2.2.2.2.2.2.2.2.2.2.1, d.2.2.2.2.2.2.2.2.2.2.2.1, (d.2.2.2.2.2.2.2.2.2.2.2.2.1.1, d.2.2.2.2.2.2.2.2.2.2.2.2.1.2.1, v, d.2.2.2.2.2.2.2.2.2.2.2.2.1.2.2.2.1, ()), d.2.2.2.2.2.2.2.2.2.2.2.2.2)
def setO (d : rMsg.den) (v : Int) : rMsg.den := (d.1, d.2.1, d.2.2.1, d.2.2.2.1, d.2.2.2.2.1, d.2.2.2.2.2.1, d.2.2.2.2.2.2.1, d.2.2.2.2.2.2.2.1, d.2.2.2.2.2.2.2.2.1, d.2.2.2.2.2.2.2.2.2.1, d.2.2.2.2.2.2.2.2.2.2.1, d.2.2.2.2.2.2.2.2.2.2.2.1, (d.2.2.2.2.2.2.2.2.2.2.2.2.1.1, d.2.2.2.2.2.2.2.2.2.2.2.2.1.2.1, d.2.2.2.2.2.2.2.2.2.2.2.2.1.2.2.1, v, ()), d.2.2.2.2.2.2.2.2.2.2.2.2.2)
def setT (d : rMsg.den) (v : Int) : rMsg.den := (d.1, d.2.1, d.2.2.1, d.2.2.2.1, d.2.2.2.2.1, d.2.2.2.2.2.1, d.2.2.2.2.2.2.1, d.2.2.2.2.2.2.2.1, d.2.2.2.2.2.2.2.2.1, d.2.2.2.2.2.2.2.2.2.1, d.2.2.2.2.2.2.2.2.2.2.1, d.2.2.2.2.2.2.2.2.2.2.2.1, d.2.2.2.2.2.2.2.2.2.2.2.2.1, (d.2.2.2.2.2.2.2.2.2.2.2.2.2.1.1, d.2.2.2.2.2.2.2.2.2.2.2.2.2.1.2.1, d.2.2.2.2.2.2.2.2.2.2.2.2.2.1.2.2.1, d.2.2.2.2.2.2.2.2.2.2.2.2.2.1.2.2.2.1, v, ()), ())
/-- The numbers with a sign: where they lie. -/
def sgOff : Nat → Nat | 0 => 29 | 1 => 51 | 2 => 52 | _ => 57
def sgGet (j : Nat) (d : rMsg.den) : Int := match j with
  | 0 => d.2.2.2.2.2.2.2.2.2.2.2.1.2.2.2.1
  | 1 => d.2.2.2.2.2.2.2.2.2.2.2.2.1.2.2.1
  | 2 => d.2.2.2.2.2.2.2.2.2.2.2.2.1.2.2.2.1
  | _ => d.2.2.2.2.2.2.2.2.2.2.2.2.2.1.2.2.2.2.1
def sgSet (j : Nat) (d : rMsg.den) (v : Int) : rMsg.den := match j with
  | 0 => setH d v
  | 1 => setI d v
  | 2 => setO d v
  | _ => setT d v
def csG (j : Nat) (d : rMsg.den) (s : ByteArray) (g b : Bool) : List Bool := [sgO (numV s) == b, decide ((0 : Int) ≤ 1)] ++ numC g s ++ [decide (sgGet j d < (0 : Int)) == false, decide ((0 : Int) ≤ 1)]
theorem sgn_run (b : Bool) : ∀ j, j ≤ 3 → ∀ (s : ByteArray) (g : Bool) (d : rMsg.den), EDr.run 67 [wT, .one (.ptr 4 (sgOff j))] (hMb s g (rMsg.cells d)) [false, b] =
    some (.tup [], hMb (nr s) (cgB g s) (rMsg.cells (sgSet j d (bif b then IntKind.i64.wrap (IntKind.i64.wrap (0 - sgH (numV s)) - 1) else sgH (numV s)))) ++ [.cells cW, .cells [.int .u64 (numV s)]], csG j d s g b) := by
  intro j hj
  have h : j = 0 ∨ j = 1 ∨ j = 2 ∨ j = 3 := by omega
  rcases h with rfl | rfl | rfl | rfl
  all_goals (intro s g d; cases b <;> kernel_rfl)
theorem sgn_h (j : Nat) (hj : j ≤ 3) (s : ByteArray) (g : Bool) (d : rMsg.den) (hd : (decide (sgGet j d < (0 : Int)) == false) = true) :
    HeapCall Tryz.prog 67 [wT, .one (.ptr 4 (sgOff j))] (hMb s g (rMsg.cells d)) (.tup []) (hMb (nr s) (cgB g s) (rMsg.cells (sgSet j d (sgV (numV s))))) := by
  have hN := numC_all g s
  have key : ∀ b, sgO (numV s) = b → HeapCall Tryz.prog 67 [wT, .one (.ptr 4 (sgOff j))] (hMb s g (rMsg.cells d)) (.tup []) (hMb (nr s) (cgB g s) (rMsg.cells (sgSet j d (bif b then IntKind.i64.wrap (IntKind.i64.wrap (0 - sgH (numV s)) - 1) else sgH (numV s))))) := fun b hb =>
    EDr.heap_cut 5 (sgn_run b j hj s g d) (allI (by
      unfold csG
      rw [List.all_append, List.all_append, hN, hb]
      simp only [List.all_cons, List.all_nil, Bool.and_true, beq_self_eq_true, hd]
      decide)) (Nat.le_refl 5) (by simp [idsV]) (by kernel_rfl) (by simp [idsB, idsC, CT.cells])
  exact key _ rfl
open Go Go.Eng

def selLs (args : List AV) (hp : List AB) : List Nat := match args with
  | [.agg [.fn _ [(x, 0), (y, 0)], _, _], .one (.ptr i _), _, .one (.fn _ [(u, 0), (v, 0)])] => match hp[x]?, hp[y]? with
    | some (.cells [.ptr r 0]), some (.cells [.ptr q 0]) => [r, q, x, y, i, u, v]
    | _, _ => []
  | _ => []
theorem hLs_pre {f : Nat} {args : List AV} {s : ByteArray} {g b : Bool} {c : List AC} {d : rMsg.den} {r : AV} {hp' : List AB} (h : CT.un rMsg c = some (d, [])) (hh : HeapCall Tryz.prog f args (hLs s g b (rMsg.cells d)) r hp') : HeapCall Tryz.prog f args (hLs s g b c) r hp' :=
  hh.pre (.cons (.refl _) (.cons (.refl _) (.cons (.refl _) (.cons (.refl _) (.cons (.cells (.un h)) (.cons (.refl _) (.cons (.refl _) .nil)))))))
def lstF (args : List AV) (hp : List AB) (os : List Bool) : Option ((AV × List AB) × List Bool × List Bool) := match args, hp with
  | [.agg [.fn f1 [(2, 0), (3, 0)], .fn f2 [(2, 0), (3, 0)], .fn f3 [(2, 0), (3, 0)]], .one (.ptr 4 7), .one (.int .u64 m), .one (.fn f4 [(5, 0), (6, 0)])],
    [.cells [.str s], .cells [.bool g], .cells [.ptr 0 0], .cells [.ptr 1 0], .cells c, .cells [.fn h1 [(2, 0), (3, 0)], .fn h2 [(2, 0), (3, 0)], .fn h3 [(2, 0), (3, 0)]], .cells [.bool b]] => match CT.un rMsg c with
    | some (d, []) => retC (.tup [], hLs (frS (lsK s) (nr s)) (frG (lsK s) (lgB g s) (nr s)) (frB (lsK s) b (nr s)) (rMsg.cells (setE d (frL (lsK s) (nr s)))))
        [fnT f1 f2 f3, fnT h1 h2 h3, decide (m = 8 ∧ f4 = 64), szk s, List.isEmpty d.2.2.2.2.2.2.2.1] os
    | _ => none
  | _, _ => none
def memF (args : List AV) (hp : List AB) (os : List Bool) : Option ((AV × List AB) × List Bool × List Bool) := match args, hp with
  | [.agg [.fn f1 [(2, 0), (3, 0)], .fn f2 [(2, 0), (3, 0)], .fn f3 [(2, 0), (3, 0)]], .one (.ptr 4 10)], [.cells [.str s], .cells [.bool g], .cells [.ptr 0 0], .cells [.ptr 1 0], .cells c] => match CT.un rMsg c with
    | some (d, []) => retC (.tup [], hMb (mbS (lmN s) (nr s)) (mbG (lmN s) (lmB g s) (nr s)) (rMsg.cells (setM d (mbL (lmN s) (nr s))))) [fnT f1 f2 f3, List.isEmpty d.2.2.2.2.2.2.2.2.1.2.2.1] os
    | _ => none
  | _, _ => none
def sgJ (off : Nat) : Nat := if off = 29 then 0 else if off = 51 then 1 else if off = 52 then 2 else 3
def sgnF (args : List AV) (hp : List AB) (os : List Bool) : Option ((AV × List AB) × List Bool × List Bool) := match args, hp with
  | [.agg [.fn f1 [(2, 0), (3, 0)], .fn f2 [(2, 0), (3, 0)], .fn f3 [(2, 0), (3, 0)]], .one (.ptr 4 off)], [.cells [.str s], .cells [.bool g], .cells [.ptr 0 0], .cells [.ptr 1 0], .cells c] => match CT.un rMsg c with
    | some (d, []) => retC (.tup [], hMb (nr s) (cgB g s) (rMsg.cells (sgSet (sgJ off) d (sgV (numV s))))) [fnT f1 f2 f3, Nat.beq (sgOff (sgJ off)) off, decide (sgGet (sgJ off) d < (0 : Int)) == false] os
    | _ => none
  | _, _ => none
theorem setE_nil {d : rMsg.den} (h : List.isEmpty d.2.2.2.2.2.2.2.1 = true) : d = setE d [] := by
  obtain ⟨a1, a2, a3, a4, a5, a6, a7, l, r⟩ := d
  have : l = [] := List.isEmpty_iff.1 h
  subst this; rfl
theorem setM_nil {d : rMsg.den} (h : List.isEmpty d.2.2.2.2.2.2.2.2.1.2.2.1 = true) : d = setM d [] := by
  obtain ⟨a1, a2, a3, a4, a5, a6, a7, a8, ⟨b1, b2, l, ⟨⟩⟩, r⟩ := d
  have : l = [] := List.isEmpty_iff.1 h
  subst this; rfl
theorem sgJ_le (off : Nat) : sgJ off ≤ 3 := by unfold sgJ; split <;> (try split) <;> (try split) <;> omega
theorem lst_h' (s : ByteArray) (g b : Bool) (d : rMsg.den) (hs : szk s = true) (hd : List.isEmpty d.2.2.2.2.2.2.2.1 = true) :
    HeapCall Tryz.prog 63 aLs (hLs s g b (rMsg.cells d)) (.tup []) (hLs (frS (lsK s) (nr s)) (frG (lsK s) (lgB g s) (nr s)) (frB (lsK s) b (nr s)) (rMsg.cells (setE d (frL (lsK s) (nr s))))) := by
  have := lst_h s g b d hs
  rw [← setE_nil hd] at this
  exact this
theorem mem_h' (s : ByteArray) (g : Bool) (d : rMsg.den) (hd : List.isEmpty d.2.2.2.2.2.2.2.2.1.2.2.1 = true) :
    HeapCall Tryz.prog 45 aMb (hMb s g (rMsg.cells d)) (.tup []) (hMb (mbS (lmN s) (nr s)) (mbG (lmN s) (lmB g s) (nr s)) (rMsg.cells (setM d (mbL (lmN s) (nr s))))) := by
  have := mem_h s g d
  rw [← setM_nil hd] at this
  exact this
theorem sgn_h' (off : Nat) (s : ByteArray) (g : Bool) (d : rMsg.den) (ho : Nat.beq (sgOff (sgJ off)) off = true) (hd : (decide (sgGet (sgJ off) d < (0 : Int)) == false) = true) :
    HeapCall Tryz.prog 67 [wT, .one (.ptr 4 off)] (hMb s g (rMsg.cells d)) (.tup []) (hMb (nr s) (cgB g s) (rMsg.cells (sgSet (sgJ off) d (sgV (numV s))))) := by
  have := sgn_h _ (sgJ_le off) s g d hd
  rw [Nat.eq_of_beq_eq_true ho] at this
  exact this
noncomputable def EMs : Env Tryz.prog := ((EDr.addHF 63 selLs lstF
  (fun args hp os r' hp' cs os' h hc => by
    unfold lstF at h
    split at h
    · split at h
      · rename_i hu
        simp only [retC, Option.some.injEq, Prod.mk.injEq] at h
        obtain ⟨⟨rfl, rfl⟩, rfl, rfl⟩ := h
        obtain ⟨h1, hc⟩ := of_allTc hc
        obtain ⟨h2, hc⟩ := of_allTc hc
        obtain ⟨h3, hc⟩ := of_allTc hc
        obtain ⟨h4, hc⟩ := of_allTc hc
        obtain ⟨h5, _⟩ := of_allTc hc
        obtain ⟨rfl, rfl, rfl⟩ := of_decide_eq_true h1
        obtain ⟨rfl, rfl, rfl⟩ := of_decide_eq_true h2
        obtain ⟨rfl, rfl⟩ := of_decide_eq_true h3
        exact hLs_pre hu (lst_h' _ _ _ _ h4 h5)
      · cases h
    · cases h)).addHF 45 selTk memF
  (fun args hp os r' hp' cs os' h hc => by
    unfold memF at h
    split at h
    · split at h
      · rename_i hu
        simp only [retC, Option.some.injEq, Prod.mk.injEq] at h
        obtain ⟨⟨rfl, rfl⟩, rfl, rfl⟩ := h
        obtain ⟨h1, hc⟩ := of_allTc hc
        obtain ⟨h2, _⟩ := of_allTc hc
        obtain ⟨rfl, rfl, rfl⟩ := of_decide_eq_true h1
        exact hMb_pre hu (mem_h' _ _ _ h2)
      · cases h
    · cases h)).addHF 67 selTk sgnF
  (fun args hp os r' hp' cs os' h hc => by
    unfold sgnF at h
    split at h
    · split at h
      · rename_i hu
        simp only [retC, Option.some.injEq, Prod.mk.injEq] at h
        obtain ⟨⟨rfl, rfl⟩, rfl, rfl⟩ := h
        obtain ⟨h1, hc⟩ := of_allTc hc
        obtain ⟨h2, hc⟩ := of_allTc hc
        obtain ⟨h3, _⟩ := of_allTc hc
        obtain ⟨rfl, rfl, rfl⟩ := of_decide_eq_true h1
        exact hMb_pre hu (sgn_h' _ _ _ _ h2 h3)
      · cases h
    · cases h)
abbrev dZ : rMsg.den := rMsg.dflt
open Go Go.Eng

def rdL1 : List Rd := [wN, wN, tN, tN, tN, tN, .y]
def rdL2 : List Rd := [.n 18446744073709551615, .n 18446744073709551615]
def rdL3 : List Rd := [.t 1048576, wN, tN, wN, tN] ++ rOpL ++ [wN, tN, wN, .y, cT, cT, tN, .g, wN] ++ rCmdL ++ [.g, .g, wN, tN, wN, wN, .g]
/-- The message of what was read. -/
def msgD (A : List RV) (E : List rEntry.den) (B : List RV) (M : List Int) (C : List RV) : rMsg.den :=
  (ww A 0, ww A 1, nn A 2, nn A 3, nn A 4, nn A 5, ff A 6, E, (nn B 0, nn B 1, M, ()), tt C 0, (ww C 1, nn C 2, ww C 3, nn C 4, opD C 5, ()),
    (ww C 11, nn C 12, (ww C 13, ff C 14, tt C 15, tt C 16, nn C 17, ()), nn C 18, ()), (ww C 19, cmdD C 20, nn C 40, nn C 41, ()), (ww C 42, nn C 43, ww C 44, ww C 45, nn C 46, ()), ())
/-- What is left behind the parts. -/
def sp1 (s : ByteArray) : ByteArray := rdsS rdL1 s
def sp2 (s : ByteArray) : ByteArray := frS (lsK (sp1 s)) (nr (sp1 s))
def sp3 (s : ByteArray) : ByteArray := rdsS rdL2 (sp2 s)
def sp4 (s : ByteArray) : ByteArray := mbS (lmN (sp3 s)) (nr (sp3 s))
def sp5 (s : ByteArray) : ByteArray := rdsS rdL3 (sp4 s)
def gp1 (g : Bool) (s : ByteArray) : Bool := rdsG rdL1 g s
def gp2 (g : Bool) (s : ByteArray) : Bool := frG (lsK (sp1 s)) (lgB (gp1 g s) (sp1 s)) (nr (sp1 s))
def gp3 (g : Bool) (s : ByteArray) : Bool := rdsG rdL2 (gp2 g s) (sp2 s)
def gp4 (g : Bool) (s : ByteArray) : Bool := mbG (lmN (sp3 s)) (lmB (gp3 g s) (sp3 s)) (nr (sp3 s))
def gp5 (g : Bool) (s : ByteArray) : Bool := rdsG rdL3 (gp4 g s) (sp4 s)
def bdM (s : ByteArray) : Bool := frB (lsK (sp1 s)) false (nr (sp1 s))
def dM (s : ByteArray) : rMsg.den := msgD (rdsV rdL1 s) (frL (lsK (sp1 s)) (nr (sp1 s))) (rdsV rdL2 (sp2 s)) (mbL (lmN (sp3 s)) (nr (sp3 s))) (rdsV rdL3 (sp4 s))
def csMsg (s : ByteArray) (g : Bool) : List Bool := rdsC rdL3 (gp4 g s) (sp4 s) ++ ([true, true] ++ (rdsC rdL2 (gp2 g s) (sp2 s) ++ ([true, true, true, szk (sp1 s), true] ++ rdsC rdL1 g s)))
theorem msg_run (s : ByteArray) (g : Bool) : EMs.run 26 [wT, .one (.ptr 4 0)] (hMb s g (rMsg.cells dZ)) [] =
    some (.one (.bool (!bdM s)), hMb (sp5 s) (gp5 g s) (rMsg.cells (dM s)) ++ [.cells cW, .cells [.bool (bdM s)]], csMsg s g) := by kernel_rfl
end Go.Proofs.YtjplobgambnhjaaGreat
