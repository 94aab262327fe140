/- A framed entry: the environment; no statement. -/
import Derived.Test.YtjplobgambnhjaaGreatDea
set_option linter.unusedVariables false
set_option linter.unusedSimpArgs false
set_option maxRecDepth 100000
namespace Go.Proofs.YtjplobgambnhjaaGreat
open Go Go.Eng

noncomputable def EFr : Env Tryz.prog := EDr.addT1 4 [.one .str] (fun d => tupE (deA d.1).1 (deA d.1).2) (fun d => [szk d.1]) fun d hc => dent_any d.1 (of_allTc hc).1
open Go Go.Eng

abbrev rBase : CT := .pair cU (.pair cU (.pair (.sl cI) .unit))
abbrev rReq : CT := .pair cI (.pair cU (.pair cI (.pair cU (.pair rOp .unit))))
abbrev rRep : CT := .pair cI (.pair cU (.pair rRes (.pair cI .unit)))
abbrev rAsk : CT := .pair cI (.pair rCmd (.pair cI (.pair cI .unit)))
abbrev rTold : CT := .pair cI (.pair cU (.pair cI (.pair cI (.pair cI .unit))))
abbrev rMsg : CT := .pair cI (.pair cI (.pair cU (.pair cU (.pair cU (.pair cU (.pair .bool (.pair (.sl rEntry) (.pair rBase (.pair .str (.pair rReq (.pair rRep (.pair rAsk (.pair rTold .unit)))))))))))))
/-- A text taken of at most 1 << 20 bytes; what is left. -/
def fv (s : ByteArray) : ByteArray := tv s 1048576
def fr (s : ByteArray) : ByteArray := tr s 1048576
theorem fra_h (s : ByteArray) (g b : Bool) (l : List rEntry.den) (j : Nat) (hs : szk s = true) (hj : (decide ((l.getD j rEntry.dflt).1 > (0 : Int)) == false) = true) : HeapCall Tryz.prog 65 [wT, .one (.ael rEntry 4 j 0), .one (.ptr 5 0)] [.cells [.str s], .cells [.bool g], .cells [.ptr 0 0], .cells [.ptr 1 0], .arr rEntry l, .cells [.bool b]] (.tup [])
    [.cells [.str (fr s)], .cells [.bool (bif g then tb s 1048576 else false)], .cells [.ptr 0 0], .cells [.ptr 1 0], .arr rEntry (l.set j (deA (fv s)).1), .cells [.bool (bif b then true else (deA (fv s)).2 != 0)]] := by
  have z1 : szk (tv s 1048576) = true := szk_tv hs
  exact EFr.heap_cut 6 (os := [false]) (hp2 := [.cells [.str (fr s)], .cells [.bool (bif g then tb s 1048576 else false)], .cells [.ptr 0 0], .cells [.ptr 1 0], .arr rEntry (l.set j (deA (fv s)).1), .cells [.bool (bif b then true else (deA (fv s)).2 != 0)]]) (cs := [((fun q => b || q) (id (b == false))), ((fun q => !b == false || q) (id (b == false))), (szk (tv s 1048576)), ((fun q => !g || q) (id (g == true))), (decide ((0 : Int) ≤ 1048576)), (szk s), (decide ((l.getD j rEntry.dflt).fst > 0) == false)]) (by kernel_rfl : EFr.run 65 [wT, .one (.ael rEntry 4 j 0), .one (.ptr 5 0)] [.cells [.str s], .cells [.bool g], .cells [.ptr 0 0], .cells [.ptr 1 0], .arr rEntry l, .cells [.bool b]] [false] = some (.tup [], [.cells [.str (fr s)], .cells [.bool (bif g then tb s 1048576 else false)], .cells [.ptr 0 0], .cells [.ptr 1 0], .arr rEntry (l.set j (deA (fv s)).1), .cells [.bool (bif b then true else (deA (fv s)).2 != 0)], .cells [.fn 46 [(2,0), (3,0)], .fn 48 [(2,0), (3,0)], .fn 50 [(2,0), (3,0)]], .cells [.str (fv s)], .cells (rEntry.cells (deA (fv s)).1)], [((fun q => b || q) (id (b == false))), ((fun q => !b == false || q) (id (b == false))), (szk (tv s 1048576)), ((fun q => !g || q) (id (g == true))), (decide ((0 : Int) ≤ 1048576)), (szk s), (decide ((l.getD j rEntry.dflt).fst > 0) == false)])) (allI (by
    simp only [taut1, taut2, hs, z1, List.all_cons, List.all_nil, Bool.and_true]
    rw [hj]; cases b <;> cases g <;> rfl)) (by simp) (by simp [idsV]) rfl (by simp [idsB, idsC])
def selFr (args : List AV) (hp : List AB) : List Nat := match args with
  | [.agg [.fn _ [(x, 0), (y, 0)], _, _], .one (.ael _ i _ _), .one (.ptr b 0)] => match hp[x]?, hp[y]? with
    | some (.cells [.ptr r 0]), some (.cells [.ptr q 0]) => [r, q, x, y, i, b]
    | _, _ => []
  | _ => []
def fraF (args : List AV) (hp : List AB) (os : List Bool) : Option ((AV × List AB) × List Bool × List Bool) := match args, hp with
    | [.agg [.fn f1 [(2, 0), (3, 0)], .fn f2 [(2, 0), (3, 0)], .fn f3 [(2, 0), (3, 0)]], .one (.ael row 4 j 0), .one (.ptr 5 0)], [.cells [.str s], .cells [.bool g], .cells [.ptr 0 0], .cells [.ptr 1 0], .arr row' l, .cells [.bool b]] =>
      if h1 : row.eqb rEntry = true then if h2 : row'.eqb rEntry = true then
        retC (.tup [], [.cells [.str (fr s)], .cells [.bool (bif g then tb s 1048576 else false)], .cells [.ptr 0 0], .cells [.ptr 1 0], .arr rEntry ((castL row' rEntry h2 l).set j (deA (fv s)).1), .cells [.bool (bif b then true else (deA (fv s)).2 != 0)]]) [fnT f1 f2 f3, szk s, decide (((castL row' rEntry h2 l).getD j rEntry.dflt).1 > (0 : Int)) == false] os
        else none else none
    | _, _ => none
noncomputable def EFra : Env Tryz.prog := EFr.addHF 65 selFr fraF
  (fun args hp os r' hp' cs os' h hc => by
    unfold fraF at h
    split at h
    · split at h
      · rename_i e1
        split at h
        · rename_i e2
          simp only [retC, Option.some.injEq, Prod.mk.injEq] at h
          obtain ⟨⟨rfl, rfl⟩, rfl, rfl⟩ := h
          obtain ⟨h1, hc⟩ := of_allTc hc
          obtain ⟨h2, hc⟩ := of_allTc hc
          obtain ⟨h3, _⟩ := of_allTc hc
          obtain ⟨rfl, rfl, rfl⟩ := of_decide_eq_true h1
          have q1 := CT.eq_of_eqb _ _ e1
          have q2 := CT.eq_of_eqb _ _ e2
          subst q1; subst q2
          exact fra_h _ _ _ _ _ h2 h3
        · cases h
      · cases h
    · cases h)
open Go Go.Eng

noncomputable def EFn (k : Int) : Env Tryz.prog := EFra.addHF 47 selP (numF k) (numF_ok k)
def setE (d : rMsg.den) (l : List rEntry.den) : rMsg.den := (d.1, d.2.1, d.2.2.1, d.2.2.2.1, d.2.2.2.2.1, d.2.2.2.2.2.1, d.2.2.2.2.2.2.1, l, d.2.2.2.2.2.2.2.2)
end Go.Proofs.YtjplobgambnhjaaGreat
