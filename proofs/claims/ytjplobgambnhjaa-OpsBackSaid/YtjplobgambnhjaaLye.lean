/- A framed entry laid; no statement. -/
import Derived.Test.YtjplobgambnhjaaLyb
import Derived.Test.YtjplobgambnhjaaDmg
set_option linter.unusedVariables false
set_option linter.unusedSimpArgs false
set_option maxRecDepth 100000
namespace Go.Proofs.Ytjplobgambnhjaa
open Go Go.Eng

def encT (a : rEntry.den) : ByteArray := bif entV a == 0 then encE a else (ByteArray.mk #[])
def encV (a : rEntry.den) : Int := bif entV a == 0 then 0 else 2
theorem en_any (a : rEntry.den) (h : (!(entV a == 0) || enOk a) = true) : PureCall Try.prog 20 [.agg (rEntry.cells a)] (tupY (encT a) (encV a)) := by
  unfold encT encV
  cases h0 : (entV a == 0 : Bool) with
  | true =>
    rw [h0] at h
    exact en_good a (eq_of_beq h0) h
  | false => exact en_bad a (fun e => by rw [e] at h0; cases h0)
noncomputable def EYf : Env Try.prog := ((EWn.addT1 20 [.agg rEntry] (fun d => tupY (encT d.1) (encV d.1)) (fun d => [!(entV d.1 == 0) || enOk d.1]) fun d hc => en_any d.1 (of_allTc hc).1).addT1
  32 [.one .str] (fun d => tupE (deA d.1).1 (deA d.1).2) (fun d => [szk d.1]) fun d hc => dent_any d.1 (of_allTc hc).1).spec
noncomputable def okP (p : Prop) : Bool := @decide p (Classical.propDecidable p)
theorem okP_of {p : Prop} (h : okP p = true) : p := @of_decide_eq_true p (Classical.propDecidable p) h
theorem okP_is {p : Prop} (h : p) : okP p = true := @decide_eq_true p (Classical.propDecidable p) h
/-- An entry that may be, can be laid, and comes back. -/
noncomputable def goodE (e : rEntry.den) : Bool := okP (0 < (e.1 : Int) ∧ entV e = 0 ∧ enOk e = true ∧ deA (encE e) = (e, 0) ∧ szk (encE e) = true)
theorem goodE_of {e : rEntry.den} (h : goodE e = true) : 0 < (e.1 : Int) ∧ entV e = 0 ∧ enOk e = true ∧ deA (encE e) = (e, 0) ∧ szk (encE e) = true := okP_of h
abbrev hYf (b : ByteArray) (l : List rEntry.den) (bd : Bool) : List AB := [.cells [.str b], .cells [.ptr 0 0], .arr rEntry l, .cells [.bool bd]]
abbrev gE (l : List rEntry.den) (j : Nat) : rEntry.den := l.getD j rEntry.dflt
theorem fry_run (b : ByteArray) (l : List rEntry.den) (j : Nat) (bd : Bool) : EYf.run 87 [wY, .one (.ael rEntry 2 j 0), .one (.ptr 3 0)] (hYf b l bd) [true] =
    some (.tup [], hYf (b ++ tS (encT (gE l j))) (l.set j (deA (encT (gE l j))).1) (bif bd then true else (deA (encT (gE l j))).2 != 0) ++ [.cells cY, .cells [.str (encT (gE l j))], .cells (rEntry.cells (deA (encT (gE l j))).1)],
      tO bd 1 ++ [szk (encT (gE l j)), room b ((encT (gE l j)).size + 20), !(entV (gE l j) == 0) || enOk (gE l j), decide ((gE l j).1 > (0 : Int)) == true]) := by kernel_rfl
theorem set_getD {l : List rEntry.den} {j : Nat} (h : j < l.length) : l.set j (gE l j) = l := by
  apply List.ext_getElem?
  intro i
  rw [List.getElem?_set]
  split
  · rename_i e; subst e
    first
      | (rw [getD_getE h]; simp [h]; done)
      | (rw [getD_getE h]; done)
      | (rw [getD_getE h]; split <;> first | rfl | omega)
  · rfl
theorem fry_h (b : ByteArray) (l : List rEntry.den) (j : Nat) (bd : Bool) (hj : j < l.length) (hg : goodE (gE l j) = true) (hb : room b ((encE (gE l j)).size + 20) = true) :
    HeapCall Try.prog 87 [wY, .one (.ael rEntry 2 j 0), .one (.ptr 3 0)] (hYf b l bd) (.tup []) (hYf (b ++ tS (encE (gE l j))) l bd) := by
  obtain ⟨g1, g2, g3, g4, g5⟩ := goodE_of hg
  have eT : encT (gE l j) = encE (gE l j) := by unfold encT; rw [g2]; rfl
  have h := EYf.heap_cut 4 (fry_run b l j bd) (allI (by
    rw [List.all_append, tO_all, eT, g5, hb, g3]
    have e1 : decide ((gE l j).1 > (0 : Int)) = true := decide_eq_true g1
    simp only [List.all_cons, List.all_nil, e1, Bool.or_true]; rfl)) (Nat.le_refl 4) (by simp [idsV]) (hp2 := hYf (b ++ tS (encT (gE l j))) (l.set j (deA (encT (gE l j))).1) (bif bd then true else (deA (encT (gE l j))).2 != 0)) (by kernel_rfl) (by simp [idsB, idsC])
  rw [eT, g4] at h
  simp only [set_getD hj] at h
  have eb : (bif bd then true else (0 : Int) != 0) = bd := by cases bd <;> rfl
  rw [eb] at h
  exact h
def selFy (args : List AV) (hp : List AB) : List Nat := match args with
  | [.agg [.fn _ [(x, 0)], _, _], .one (.ael _ i _ _), .one (.ptr b 0)] => match hp[x]? with
    | some (.cells [.ptr y 0]) => [y, x, i, b]
    | _ => []
  | _ => []
noncomputable def fryF (args : List AV) (hp : List AB) (os : List Bool) : Option ((AV × List AB) × List Bool × List Bool) := match args, hp with
  | [.agg [.fn f1 [(1, 0)], .fn f2 [(1, 0)], .fn f3 [(1, 0)]], .one (.ael row 2 j 0), .one (.ptr 3 0)], [.cells [.str b], .cells [.ptr 0 0], .arr row' l, .cells [.bool bd]] =>
      if h1 : row.eqb rEntry = true then if h2 : row'.eqb rEntry = true then
        retC (.tup [], hYf (b ++ tS (encE (gE (castL row' rEntry h2 l) j))) (castL row' rEntry h2 l) bd) [fnY f1 f2 f3, decide (j < List.length (castL row' rEntry h2 l)), goodE (gE (castL row' rEntry h2 l) j), room b ((encE (gE (castL row' rEntry h2 l) j)).size + 20)] os
        else none else none
  | _, _ => none
noncomputable def EYg : Env Try.prog := EWn.addHF 87 selFy fryF
  (fun args hp os r' hp' cs os' h hc => by
    unfold fryF at h
    split at h
    · split at h
      · rename_i e1
        split at h
        · rename_i e2
          simp only [retC, Option.some.injEq, Prod.mk.injEq] at h
          obtain ⟨⟨rfl, rfl⟩, rfl, rfl⟩ := h
          obtain ⟨h1, hc⟩ := of_allTc hc
          obtain ⟨h2, hc⟩ := of_allTc hc
          obtain ⟨h3, hc⟩ := of_allTc hc
          obtain ⟨h4, _⟩ := of_allTc hc
          obtain ⟨rfl, rfl, rfl⟩ := of_decide_eq_true h1
          have q1 := CT.eq_of_eqb _ _ e1
          have q2 := CT.eq_of_eqb _ _ e2
          subst q1; subst q2
          exact fry_h _ _ _ _ (of_decide_eq_true h2) h3 h4
        · cases h
      · cases h
    · cases h)
/-- The list's memory. -/
abbrev hYl (b : ByteArray) (c : List AC) (bd : Bool) (l : List rEntry.den) : List AB := [.cells [.str b], .cells [.ptr 0 0], .cells c, .cells cY, .cells [.bool bd], .arr rEntry l]
abbrev aYl : List AV := [wY, .one (.ptr 2 7), .one (.int .u64 8), .one (.fn 86 [(3,0),(4,0)])]
def entsR (l : List rEntry.den) : List RV := .n (wU ((l.length : Nat) : Int)) :: l.map fun e => .t (encE e)
noncomputable def csY : List rEntry.den → ByteArray → List Bool
  | [], _ => []
  | e :: l, b => csY l (b ++ tS (encE e)) ++ [true, true, goodE e, room b ((encE e).size + 20), true, true]
theorem csY_all : ∀ (l : List rEntry.den) (b : ByteArray), l.all goodE = true → b.size + laysSz (l.map fun e => RV.t (encE e)) ≤ 1000000000000 → (csY l b).all (fun c => c) = true
  | [], _, _, _ => rfl
  | e :: l, b, h, hs => by
    rw [List.all_cons, Bool.and_eq_true] at h
    have hz := tS_size (encE e)
    have hs' : b.size + ((encE e).size + 20 + laysSz (l.map fun e => RV.t (encE e))) ≤ 1000000000000 := hs
    have h1 := csY_all l (b ++ tS (encE e)) h.2 (by rw [ByteArray.size_append]; omega)
    rw [csY, List.all_append, h1]
    simp only [List.all_cons, List.all_nil, h.1, room_of (b := b) (n := (encE e).size + 20) (by omega)]; rfl
theorem lsy_run1 (e0 : rEntry.den) (b : ByteArray) (bd : Bool) (d : rMsg.den) : EYg.run 85 aYl (hYl b (mA d (.msl rEntry 5 0 1)) bd [e0]) [false, true, false] =
    some (.tup [], hYl (laysB b (entsR [e0])) (mA d (.msl rEntry 5 0 1)) bd [e0] ++ [.cells cY, .cells [.int .u64 (wU 1)], .tok 0 0], true :: (csY [e0] (b ++ nS (wU 1)) ++ [true, true, room b 20])) := by kernel_rfl
theorem lsy_run2 (e0 e1 : rEntry.den) (b : ByteArray) (bd : Bool) (d : rMsg.den) : EYg.run 85 aYl (hYl b (mA d (.msl rEntry 5 0 2)) bd [e0, e1]) [false, true, true, false] =
    some (.tup [], hYl (laysB b (entsR [e0, e1])) (mA d (.msl rEntry 5 0 2)) bd [e0, e1] ++ [.cells cY, .cells [.int .u64 (wU 2)], .tok 0 0], true :: (csY [e0, e1] (b ++ nS (wU 2)) ++ [true, true, room b 20])) := by kernel_rfl
theorem lsy_run3 (e0 e1 e2 : rEntry.den) (b : ByteArray) (bd : Bool) (d : rMsg.den) : EYg.run 85 aYl (hYl b (mA d (.msl rEntry 5 0 3)) bd [e0, e1, e2]) [false, true, true, true, false] =
    some (.tup [], hYl (laysB b (entsR [e0, e1, e2])) (mA d (.msl rEntry 5 0 3)) bd [e0, e1, e2] ++ [.cells cY, .cells [.int .u64 (wU 3)], .tok 0 0], true :: (csY [e0, e1, e2] (b ++ nS (wU 3)) ++ [true, true, room b 20])) := by kernel_rfl
theorem lsy_run4 (e0 e1 e2 e3 : rEntry.den) (b : ByteArray) (bd : Bool) (d : rMsg.den) : EYg.run 85 aYl (hYl b (mA d (.msl rEntry 5 0 4)) bd [e0, e1, e2, e3]) [false, true, true, true, true, false] =
    some (.tup [], hYl (laysB b (entsR [e0, e1, e2, e3])) (mA d (.msl rEntry 5 0 4)) bd [e0, e1, e2, e3] ++ [.cells cY, .cells [.int .u64 (wU 4)], .tok 0 0], true :: (csY [e0, e1, e2, e3] (b ++ nS (wU 4)) ++ [true, true, room b 20])) := by kernel_rfl
theorem lsy_run5 (e0 e1 e2 e3 e4 : rEntry.den) (b : ByteArray) (bd : Bool) (d : rMsg.den) : EYg.run 85 aYl (hYl b (mA d (.msl rEntry 5 0 5)) bd [e0, e1, e2, e3, e4]) [false, true, true, true, true, true, false] =
    some (.tup [], hYl (laysB b (entsR [e0, e1, e2, e3, e4])) (mA d (.msl rEntry 5 0 5)) bd [e0, e1, e2, e3, e4] ++ [.cells cY, .cells [.int .u64 (wU 5)], .tok 0 0], true :: (csY [e0, e1, e2, e3, e4] (b ++ nS (wU 5)) ++ [true, true, room b 20])) := by kernel_rfl
theorem lsy_run6 (e0 e1 e2 e3 e4 e5 : rEntry.den) (b : ByteArray) (bd : Bool) (d : rMsg.den) : EYg.run 85 aYl (hYl b (mA d (.msl rEntry 5 0 6)) bd [e0, e1, e2, e3, e4, e5]) [false, true, true, true, true, true, true, false] =
    some (.tup [], hYl (laysB b (entsR [e0, e1, e2, e3, e4, e5])) (mA d (.msl rEntry 5 0 6)) bd [e0, e1, e2, e3, e4, e5] ++ [.cells cY, .cells [.int .u64 (wU 6)], .tok 0 0], true :: (csY [e0, e1, e2, e3, e4, e5] (b ++ nS (wU 6)) ++ [true, true, room b 20])) := by kernel_rfl
theorem lsy_run7 (e0 e1 e2 e3 e4 e5 e6 : rEntry.den) (b : ByteArray) (bd : Bool) (d : rMsg.den) : EYg.run 85 aYl (hYl b (mA d (.msl rEntry 5 0 7)) bd [e0, e1, e2, e3, e4, e5, e6]) [false, true, true, true, true, true, true, true, false] =
    some (.tup [], hYl (laysB b (entsR [e0, e1, e2, e3, e4, e5, e6])) (mA d (.msl rEntry 5 0 7)) bd [e0, e1, e2, e3, e4, e5, e6] ++ [.cells cY, .cells [.int .u64 (wU 7)], .tok 0 0], true :: (csY [e0, e1, e2, e3, e4, e5, e6] (b ++ nS (wU 7)) ++ [true, true, room b 20])) := by kernel_rfl
theorem lsy_run8 (e0 e1 e2 e3 e4 e5 e6 e7 : rEntry.den) (b : ByteArray) (bd : Bool) (d : rMsg.den) : EYg.run 85 aYl (hYl b (mA d (.msl rEntry 5 0 8)) bd [e0, e1, e2, e3, e4, e5, e6, e7]) [false, true, true, true, true, true, true, true, true, false] =
    some (.tup [], hYl (laysB b (entsR [e0, e1, e2, e3, e4, e5, e6, e7])) (mA d (.msl rEntry 5 0 8)) bd [e0, e1, e2, e3, e4, e5, e6, e7] ++ [.cells cY, .cells [.int .u64 (wU 8)], .tok 0 0], true :: (csY [e0, e1, e2, e3, e4, e5, e6, e7] (b ++ nS (wU 8)) ++ [true, true, room b 20])) := by kernel_rfl
theorem lsy_fin {l : List rEntry.den} {n : Nat} {b : ByteArray} {bd : Bool} {d : rMsg.den} {os : List Bool} (hn : n = l.length) (hg : l.all goodE = true) (hb : room b (laysSz (entsR l) + 200) = true)
    (hr : EYg.run 85 aYl (hYl b (mA d (.msl rEntry 5 0 n)) bd l) os = some (.tup [], hYl (laysB b (entsR l)) (mA d (.msl rEntry 5 0 n)) bd l ++ [.cells cY, .cells [.int .u64 (wU ((n : Nat) : Int))], .tok 0 0], true :: (csY l (b ++ nS (wU ((n : Nat) : Int))) ++ [true, true, room b 20]))) :
    HeapCall Try.prog 85 aYl (hYl b (mA d (.msl rEntry 5 0 l.length)) bd l) (.tup []) (hYl (laysB b (entsR l)) (mA d (.msl rEntry 5 0 l.length)) bd l) := by
  subst hn
  have hb' := room_le hb
  have hz := nS_size (wU ((l.length : Nat) : Int))
  have he : laysSz (entsR l) = 20 + laysSz (l.map fun e => RV.t (encE e)) := rfl
  refine EYg.heap_cut 6 hr (allI ?_) (Nat.le_refl 6) (by simp [idsV]) (by kernel_rfl) (by simp [idsB, idsC, mA, CT.cells])
  rw [List.all_cons, List.all_append, csY_all l _ hg (by rw [ByteArray.size_append]; omega)]
  simp only [List.all_cons, List.all_nil, room_of (b := b) (n := 20) (by omega)]; rfl
theorem lsy_h (l : List rEntry.den) (b : ByteArray) (bd : Bool) (d : rMsg.den) (h1 : 1 ≤ l.length) (h8 : l.length ≤ 8) (hg : l.all goodE = true) (hb : room b (laysSz (entsR l) + 200) = true) :
    HeapCall Try.prog 85 aYl (hYl b (mA d (.msl rEntry 5 0 l.length)) bd l) (.tup []) (hYl (laysB b (entsR l)) (mA d (.msl rEntry 5 0 l.length)) bd l) := by
  rcases l with _ | ⟨e0, l⟩
  · simp at h1
  clear h1
  rcases l with _ | ⟨e1, l⟩
  · exact lsy_fin (n := 1) rfl hg hb (lsy_run1 e0 b bd d)
  rcases l with _ | ⟨e2, l⟩
  · exact lsy_fin (n := 2) rfl hg hb (lsy_run2 e0 e1 b bd d)
  rcases l with _ | ⟨e3, l⟩
  · exact lsy_fin (n := 3) rfl hg hb (lsy_run3 e0 e1 e2 b bd d)
  rcases l with _ | ⟨e4, l⟩
  · exact lsy_fin (n := 4) rfl hg hb (lsy_run4 e0 e1 e2 e3 b bd d)
  rcases l with _ | ⟨e5, l⟩
  · exact lsy_fin (n := 5) rfl hg hb (lsy_run5 e0 e1 e2 e3 e4 b bd d)
  rcases l with _ | ⟨e6, l⟩
  · exact lsy_fin (n := 6) rfl hg hb (lsy_run6 e0 e1 e2 e3 e4 e5 b bd d)
  rcases l with _ | ⟨e7, l⟩
  · exact lsy_fin (n := 7) rfl hg hb (lsy_run7 e0 e1 e2 e3 e4 e5 e6 b bd d)
  rcases l with _ | ⟨e8, l⟩
  · exact lsy_fin (n := 8) rfl hg hb (lsy_run8 e0 e1 e2 e3 e4 e5 e6 e7 b bd d)
  simp only [List.length_cons] at h8
  omega
open Go Go.Eng

/-! The list's contract, whatever else the message holds. -/
abbrev rPre : CT := .pair cI (.pair cI (.pair cU (.pair cU (.pair cU (.pair cU (.pair .bool .unit))))))
abbrev rPost : CT := .pair rBase (.pair .str (.pair rReq (.pair rRep (.pair rAsk (.pair rTold .unit)))))
def mkD (p : rPre.den) (q : rPost.den) : rMsg.den := (p.1, p.2.1, p.2.2.1, p.2.2.2.1, p.2.2.2.2.1, p.2.2.2.2.2.1, p.2.2.2.2.2.2.1, [], q)
def splitM (c : List AC) : Option (rMsg.den × AC) := match CT.un rPre (c.take 7), c.drop 7 with
  | some (p, []), x :: r => match CT.un rPost r with
    | some (q, []) => some (mkD p q, x)
    | _ => none
  | _, _ => none
theorem splitM_w {c : List AC} {d : rMsg.den} {x : AC} (h : splitM c = some (d, x)) : CW c (mA d x) := fun X vs hp => by
  unfold splitM at h
  split at h
  · rename_i p y r h1 h2
    split at h
    · rename_i q h3
      simp only [Option.some.injEq, Prod.mk.injEq] at h
      obtain ⟨rfl, rfl⟩ := h
      have e1 := CW.un h1 X _ (hp.take 7)
      have e2 := hp.drop 7
      rw [h2] at e2
      have e3 := CW.cons (fun _ _ h => h) (CW.un h3) X _ e2
      have e4 := e1.append e3
      rw [List.take_append_drop] at e4
      exact e4
    · cases h
  · cases h
def selLy (args : List AV) (hp : List AB) : List Nat := match args with
  | [.agg [.fn _ [(x, 0)], _, _], .one (.ptr i _), _, .one (.fn _ [(u, 0), (v, 0)])] => match hp[x]?, hp[i]? with
    | some (.cells [.ptr y 0]), some (.cells c) => match c.drop 7 with
      | (AC.msl _ k _ _) :: _ => [y, x, i, u, v, k]
      | _ => []
    | _, _ => []
  | _ => []
noncomputable def lsyF (args : List AV) (hp : List AB) (os : List Bool) : Option ((AV × List AB) × List Bool × List Bool) := match args, hp with
  | [.agg [.fn f1 [(1, 0)], .fn f2 [(1, 0)], .fn f3 [(1, 0)]], .one (.ptr 2 7), .one (.int .u64 m), .one (.fn f4 [(3, 0), (4, 0)])],
    [.cells [.str b], .cells [.ptr 0 0], .cells c, .cells [.fn h1 [(1, 0)], .fn h2 [(1, 0)], .fn h3 [(1, 0)]], .cells [.bool bd], .arr row' l] => match splitM c with
    | some (d, .msl row 5 0 n) => if e1 : row.eqb rEntry = true then if e2 : row'.eqb rEntry = true then
        retC (.tup [], hYl (laysB b (entsR (castL row' rEntry e2 l))) (mA d (.msl rEntry 5 0 n)) bd (castL row' rEntry e2 l))
          [fnY f1 f2 f3, fnY h1 h2 h3, decide (m = 8 ∧ f4 = 86), decide (n = List.length (castL row' rEntry e2 l)), decide (1 ≤ List.length (castL row' rEntry e2 l) ∧ List.length (castL row' rEntry e2 l) ≤ 8), List.all (castL row' rEntry e2 l) goodE, room b (laysSz (entsR (castL row' rEntry e2 l)) + 200)] os
        else none else none
    | _ => none
  | _, _ => none
theorem hYl_pre {f : Nat} {args : List AV} {b : ByteArray} {c : List AC} {d : rMsg.den} {x : AC} {bd : Bool} {l : List rEntry.den} {r : AV} {hp' : List AB} (h : splitM c = some (d, x)) (hh : HeapCall Try.prog f args (hYl b (mA d x) bd l) r hp') : HeapCall Try.prog f args (hYl b c bd l) r hp' :=
  hh.pre (.cons (.refl _) (.cons (.refl _) (.cons (.cells (splitM_w h)) (.cons (.refl _) (.cons (.refl _) (.cons (.refl _) .nil))))))
theorem lsyF_ok (args : List AV) (hp : List AB) (os : List Bool) (r : AV) (hp' : List AB) (cs os' : List Bool) (h : lsyF args hp os = some ((r, hp'), cs, os')) (hc : ∀ c ∈ cs, c = true) : HeapCall Try.prog 85 args hp r hp' := by
  unfold lsyF at h
  split at h
  · split at h
    · rename_i hs
      split at h
      · rename_i e1
        split at h
        · rename_i e2
          simp only [retC, Option.some.injEq, Prod.mk.injEq] at h
          obtain ⟨⟨rfl, rfl⟩, rfl, rfl⟩ := h
          obtain ⟨h1, hc⟩ := of_allTc hc
          obtain ⟨h2, hc⟩ := of_allTc hc
          obtain ⟨h3, hc⟩ := of_allTc hc
          obtain ⟨h4, hc⟩ := of_allTc hc
          obtain ⟨h5, hc⟩ := of_allTc hc
          obtain ⟨h6, hc⟩ := of_allTc hc
          obtain ⟨h7, _⟩ := of_allTc hc
          obtain ⟨rfl, rfl, rfl⟩ := of_decide_eq_true h1
          obtain ⟨rfl, rfl, rfl⟩ := of_decide_eq_true h2
          obtain ⟨rfl, rfl⟩ := of_decide_eq_true h3
          have q1 := CT.eq_of_eqb _ _ e1
          have q2 := CT.eq_of_eqb _ _ e2
          subst q1; subst q2
          have h4 := of_decide_eq_true h4
          subst h4
          obtain ⟨h51, h52⟩ := of_decide_eq_true h5
          exact hYl_pre hs (lsy_h _ _ _ _ h51 h52 h6 h7)
        · cases h
      · cases h
    · cases h
  · cases h
noncomputable def EYa : Env Try.prog := (EYg.addHF 85 selLy lsyF lsyF_ok).addT1 29 [.agg rMsg] (fun d => vI (msgV d.1)) (fun _ => []) fun d _ => msg_pure d.1
/-- A leader's message, and nothing else. -/
def msgA (g t i lt c : Int) (l : List rEntry.den) : rMsg.den := (3, g, t, i, lt, c, false, l, zB, bE, zR, zP, zA, zT, ())
open Go Go.Eng

/-- A number with a sign as it is laid. -/
def zg (v : Int) : Int := if v < 0 then 1 else 2 * v
def resR (r : rRes.den) : List RV := [.n (wU r.1), .f r.2.1, .t r.2.2.1, .t r.2.2.2.1, .n r.2.2.2.2.1]
def hdrR (d : rMsg.den) : List RV := [.n (wU d.1), .n (wU d.2.1), .n d.2.2.1, .n d.2.2.2.1, .n d.2.2.2.2.1, .n d.2.2.2.2.2.1, .f d.2.2.2.2.2.2.1]
def basR (d : rMsg.den) : List RV := [.n d.2.2.2.2.2.2.2.2.1.1, .n d.2.2.2.2.2.2.2.2.1.2.1]
def tlR (d : rMsg.den) : List RV := [.t d.2.2.2.2.2.2.2.2.2.1, .n (wU (aR d).1), .n (aR d).2.1, .n (wU (aR d).2.2.1), .n (aR d).2.2.2.1] ++ opR (aR d).2.2.2.2.1 ++ [.n (wU (aP d).1), .n (aP d).2.1] ++ resR (aP d).2.2.1 ++ [.n (zg (aP d).2.2.2.1), .n (wU (aA d).1)] ++ cmdR (aA d).2.1 ++ [.n (zg (aA d).2.2.1), .n (zg (aA d).2.2.2.1), .n (wU (aT d).1), .n (aT d).2.1, .n (wU (aT d).2.2.1), .n (wU (aT d).2.2.2.1), .n (zg (aT d).2.2.2.2.1)]
abbrev enL (d : rMsg.den) : List rEntry.den := d.2.2.2.2.2.2.2.1
abbrev mbL' (d : rMsg.den) : List Int := d.2.2.2.2.2.2.2.2.1.2.2.1
/-- A message's bytes. -/
def encM (d : rMsg.den) : ByteArray := encsB (hdrR d ++ (entsR (enL d) ++ (basR d ++ (memR (mbL' d) ++ tlR d))))
/-- What a run takes for granted: 1 is a number with a sign. -/
def layD : Nat → RV → ByteArray → List Bool
  | 1, .n v, b => [true, uOk v, room b 20, true]
  | _, .n v, b => [uOk v, room b 20]
  | _, .t s, b => [room b (s.size + 20)]
  | _, .f _, b => [room b 20]
def laysD : ByteArray → List (Nat × RV) → List Bool
  | _, [] => []
  | b, (k, v) :: l => laysD (b ++ layB v) l ++ layD k v b
def tgA : List Nat := List.replicate 18 0 ++ [1] ++ List.replicate 21 0 ++ [1, 1, 0, 0, 0, 0, 1]
abbrev mt : ByteArray := ByteArray.mk #[]
noncomputable def csA (d : rMsg.den) : List Bool :=
  let b1 := laysB mt (hdrR d); let b2 := laysB b1 (entsR (enL d)); let b3 := laysB b2 (basR d); let b4 := laysB b3 (memR [])
  laysD b4 (tgA.zip (tlR d)) ++ ([uOk (wU 0), room b3 20] ++ (laysD b2 ((basR d).map fun v => (0, v)) ++ ([true, true, true, decide (List.length (enL d) = List.length (enL d)), decide (1 ≤ List.length (enL d) ∧ List.length (enL d) ≤ 8), List.all (enL d) goodE, room b1 (laysSz (entsR (enL d)) + 200)] ++ laysD mt ((hdrR d).map fun v => (0, v)))))
theorem ema_run (g t i lt c : Int) (e0 : rEntry.den) (l : List rEntry.den) : EYa.pureRun 28 [.agg (rMsg.cells (msgA g t i lt c (e0 :: l)))] [false] =
    some (tupY (laysB (laysB (laysB (laysB (laysB mt (hdrR (msgA g t i lt c (e0 :: l)))) (entsR (e0 :: l))) (basR (msgA g t i lt c (e0 :: l)))) (memR [])) (tlR (msgA g t i lt c (e0 :: l)))) 0,
      csA (msgA g t i lt c (e0 :: l)) ++ [true, Nat.ble ((e0 :: l).length * 264) 140737488355328 && Nat.ble (e0 :: l).length maxLen, (msgV (msgA g t i lt c (e0 :: l)) != 0) == false]) := by kernel_rfl
end Go.Proofs.Ytjplobgambnhjaa
