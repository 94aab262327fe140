import Derived.Test.YtolhkkoakneflaaEngD
set_option linter.unusedVariables false
namespace Go.Eng
open Go Go.RowKit

variable {P : Program}

/-- What an operation does, as the engine sees it: from what is known to what is known behind it, with the value's account. -/
def OpSim (P : Program) (o : Oper) (a : Act) (X : Ctx) (v : AV) (H' : Nat → Option AB) : Prop :=
  ∀ (next : Act → World → Prop) (Q : Exit → Act → World → Prop),
    (∀ val X', X.le X' → HRel X' → X'.H = H' → VR X' v val → next (a.put o.dst val) X'.w) → o.wp P a X.w next Q

theorem OpSim.of_run {o : Oper} {a : Act} {X X' : Ctx} {v : AV} {val : Value} (hr : (execOp a.eval o).run P X.w = .ok (.value val) X'.w) (hle : X.le X') (hX : HRel X') (hv : VR X' v val) :
    OpSim P o a X v X'.H := by
  intro next Q h
  unfold Oper.wp
  rw [hr]
  exact h val X' hle hX rfl hv

theorem OpSim.of_skip {o : Oper} {a : Act} {X X' : Ctx} (hr : (execOp a.eval o).run P X.w = .ok .skip X'.w) (hle : X.le X') (hX : HRel X') : OpSim P o a X (.one .unk) X'.H := by
  intro next Q h
  unfold Oper.wp
  rw [hr]
  exact h undef X' hle hX rfl trivial

/-- Is the type one of rows, and how many cells has it? -/
def ty (P : Program) (t : TypeId) : Option (Bool × Nat) :=
  match P.underlying t, P.info? t with
  | some (.struct _), some i => some (true, i.size)
  | some (.array _ _), some i => some (true, i.size)
  | some _, some i => some (false, i.size)
  | _, _ => none

theorem run_size {t : TypeId} {i : TypeInfo} (h : P.info? t = some i) (w : World) : (sizeOf t).run P w = .ok i.size w := by
  simp [sizeOf, typeInfo, h]

theorem ty_run {t : TypeId} {ag : Bool} {n : Nat} (h : ty P t = some (ag, n)) (w : World) : (isAgg t).run P w = .ok ag w ∧ (sizeOf t).run P w = .ok n w := by
  unfold ty at h
  split at h
  · rename_i fs i hu hi
    simp only [Option.some.injEq, Prod.mk.injEq] at h
    obtain ⟨rfl, rfl⟩ := h
    exact ⟨by simp only [isAgg, Sem.run_bind, run_underlying hu, Result.andThen_ok]; rfl, run_size hi w⟩
  · rename_i n' e i hu hi
    simp only [Option.some.injEq, Prod.mk.injEq] at h
    obtain ⟨rfl, rfl⟩ := h
    exact ⟨by simp only [isAgg, Sem.run_bind, run_underlying hu, Result.andThen_ok]; rfl, run_size hi w⟩
  · rename_i d i h1 h2 hu hi
    simp only [Option.some.injEq, Prod.mk.injEq] at h
    obtain ⟨rfl, rfl⟩ := h
    refine ⟨?_, run_size hi w⟩
    simp only [isAgg, Sem.run_bind, run_underlying hu, Result.andThen_ok]
    rfl
  · cases h

def mkAV (ag : Bool) (cs : List AC) : Option AV :=
  if ag then some (.agg cs) else
    match cs with
    | [c] => some (.one c)
    | _ => none

/-- Cells that lie behind one another are read as a value. -/
theorem load_ok {X : Ctx} {t : TypeId} {ag : Bool} {n : Nat} (ht : ty P t = some (ag, n)) {cs : List AC} (hlen : cs.length = n) {b off : Nat}
    (h : ∀ (k : Nat) c, cs[k]? = some c → ∃ y, X.w.cell? ⟨b, off + k, none⟩ = some y ∧ VRc X c y) {v : AV} (hv : mkAV ag cs = some v) :
    ∃ val, (Instr.loadAt t (.pointer (some ⟨b, off, none⟩))).run P X.w = .ok val X.w ∧ VR X v val := by
  obtain ⟨h1, h2⟩ := ty_run ht X.w
  simp only [Instr.loadAt, Instr.sureAddr, Sem.run_bind, Sem.run_pure, Result.andThen_ok, loadVar, h1]
  cases ag with
  | true =>
    simp only [mkAV, if_true, Option.some.injEq] at hv
    subst hv
    have hf : ∀ j, j < n → X.w.cell? ((⟨b, off, none⟩ : Addr).add j) = some ((X.w.cell? ⟨b, off + j, none⟩).getD undef) := by
      intro j hj
      obtain ⟨y, hy, _⟩ := h j _ (List.getElem?_eq_getElem (by omega))
      rw [Addr.add_lit, hy]; rfl
    have hl := run_loadCells (P := P) X.w ⟨b, off, none⟩ n (fun j => (X.w.cell? ⟨b, off + j, none⟩).getD undef) hf
    simp only [if_true, Sem.run_bind, h2, Result.andThen_ok, hl, Sem.run_pure]
    refine ⟨_, rfl, _, rfl, by simp [hlen], fun j c y hc hy => ?_⟩
    obtain ⟨z, hz, hr⟩ := h j c hc
    have hj : j < n := by have := (List.getElem?_eq_some_iff.1 hc).1; omega
    simp only [List.getElem?_map, List.getElem?_range hj, Option.map_some, Option.some.injEq, hz, Option.getD_some] at hy
    subst hy; exact hr
  | false =>
    simp only [mkAV, Bool.false_eq_true, if_false] at hv ⊢
    match cs, hv with
    | [c], hv =>
      injection hv with hv
      subst hv
      obtain ⟨y, hy, hr⟩ := h 0 c rfl
      simp only [Nat.add_zero] at hy
      refine ⟨y, ?_, hr⟩
      simp only [run_load, hy]

theorem RelT.mono_lt0 : ∀ (t : CT) (v : t.den) {C C' : Nat → Value → Prop} {IC IC' : Addr → Value → Prop},
    (∀ k y, k < t.width → C k y → C' k y) → (∀ a y, IC a y → IC' a y) → RelT t v C IC → RelT t v C' IC'
  | .int k, n, _, _, _, _, hC, _, h => hC _ _ Nat.one_pos h
  | .bool, b, _, _, _, _, hC, _, h => hC _ _ Nat.one_pos h
  | .str, s, _, _, _, _, hC, _, h => hC _ _ Nat.one_pos h
  | .sl row, l, _, _, _, _, hC, hI, ⟨A, n, cap, h1, h2, h3, h4, h5⟩ =>
    ⟨A, n, cap, hC _ _ Nat.one_pos h1, h2, h3, h4, h5.imp id fun ⟨b, o, e, h⟩ => ⟨b, o, e, fun j x hj => RelT.mono row x (fun _ _ hk => hI _ _ hk) hI (h j x hj)⟩⟩
  | .unit, _, _, _, _, _, _, _, _ => trivial
  | .pair a b, v, _, _, _, _, hC, hI, ⟨h1, h2⟩ =>
    ⟨RelT.mono_lt0 a v.1 (fun k y hk h => hC k y (Nat.lt_of_lt_of_le hk (Nat.le_add_right _ _)) h) hI h1, RelT.mono_lt0 b v.2 (fun k y hk h => hC _ y (Nat.add_lt_add_left hk _) h) hI h2⟩
theorem RelT.mono_lt' (t : CT) (v : t.den) {C C' : Nat → Value → Prop} {IC : Addr → Value → Prop} (hC : ∀ k y, k < t.width → C k y → C' k y) (h : RelT t v C IC) : RelT t v C' IC := RelT.mono_lt0 t v hC (fun _ _ h => h) h

/-- One of two, by a test that is not decided. -/
def mergeC (b : Bool) : AC → AC → Option AC
  | .bool x, .bool y => some (.bool (bif b then x else y))
  | .int k x, .int k' y => if (CT.int k).eqb (.int k') then some (.int k (bif b then x else y)) else none
  | .str x, .str y => some (.str (bif b then x else y))
  | _, _ => none

theorem mergeC_rel {X : Ctx} {b : Bool} {u v r : AC} (h : mergeC b u v = some r) {val : Value} (ht : b = true → VRc X u val) (hf : b = false → VRc X v val) : VRc X r val := by
  unfold mergeC at h
  split at h
  · injection h with h; subst h
    cases b
    · exact hf rfl
    · exact ht rfl
  · split at h
    · rename_i e
      have e' := CT.eq_of_eqb _ _ e
      injection e' with e'
      subst e'
      injection h with h; subst h
      cases b
      · exact hf rfl
      · exact ht rfl
    · cases h
  · injection h with h; subst h
    cases b
    · exact hf rfl
    · exact ht rfl
  · cases h

/-- The one of some cells at a place that is not known. -/
def pickAt : List AC → Nat → Int → Option AC
  | [], _, _ => none
  | [c], _, _ => some c
  | c :: r, j, n => match pickAt r (j + 1) n with
    | some d => mergeC (decide (n = (j : Int))) c d
    | none => none
def updAt (v : AC) : List AC → Nat → Int → Option (List AC)
  | [], _, _ => some []
  | c :: r, j, n => match mergeC (decide (n = (j : Int))) v c, updAt v r (j + 1) n with
    | some d, some l => some (d :: l)
    | _, _ => none

theorem pickAt_rel {X : Ctx} : ∀ (cs : List AC) (j : Nat) (n : Int) {d : AC}, pickAt cs j n = some d → (j : Int) ≤ n → n < j + cs.length → ∀ y, (∀ c, cs[(n - j).toNat]? = some c → VRc X c y) → VRc X d y
  | [], _, _, _, h, _, _, _, _ => by cases h
  | [c], j, n, d, h, h1, h2, y, hy => by
    simp only [pickAt, Option.some.injEq] at h
    subst h
    refine hy c ?_
    have : (n - j).toNat = 0 := by simp only [List.length_cons, List.length_nil] at h2; omega
    rw [this]; rfl
  | c :: c' :: r, j, n, d, h, h1, h2, y, hy => by
    simp only [pickAt] at h
    split at h
    · rename_i d' hd
      refine mergeC_rel h (fun e => ?_) (fun e => ?_)
      · simp only [decide_eq_true_eq] at e
        refine hy c ?_
        have : (n - j).toNat = 0 := by omega
        rw [this]; rfl
      · simp only [decide_eq_false_iff_not] at e
        refine pickAt_rel (c' :: r) (j + 1) n hd (by omega) (by simp only [List.length_cons] at h2 ⊢; omega) y fun q hq => hy q ?_
        have : (n - j).toNat = (n - ((j + 1 : Nat) : Int)).toNat + 1 := by omega
        rw [this]; simpa using hq
    · cases h

theorem updAt_rel {X : Ctx} {v : AC} {val : Value} (hv : VRc X v val) : ∀ (cs : List AC) (j : Nat) (n : Int) {l : List AC}, updAt v cs j n = some l → ∀ (vs : List Value), PW (VRc X) cs vs →
    PW (VRc X) l (if (j : Int) ≤ n then vs.set (n - j).toNat val else vs)
  | [], j, n, l, h, vs, hp => by
    simp only [updAt, Option.some.injEq] at h
    subst h
    have : vs = [] := List.eq_nil_of_length_eq_zero hp.1.symm
    subst this
    split <;> exact PW.nil
  | c :: r, j, n, l, h, vs, hp => by
    simp only [updAt] at h
    split at h
    · rename_i d l' hd hl
      injection h with h; subst h
      cases vs with
      | nil => have := hp.1; simp at this
      | cons y ys =>
        have hp' : PW (VRc X) r ys := ⟨by have := hp.1; simpa using this, fun k a b ha hb => hp.2 (k + 1) a b (by simpa using ha) (by simpa using hb)⟩
        have hc := hp.2 0 c y rfl rfl
        have ih := updAt_rel hv r (j + 1) n hl ys hp'
        by_cases e : n = (j : Int)
        · rw [if_neg (by omega)] at ih
          rw [if_pos (by omega)]
          have : (n - j).toNat = 0 := by omega
          rw [this, List.set_cons_zero]
          exact PW.cons (mergeC_rel hd (fun _ => hv) (fun e' => by simp [e] at e')) ih
        · by_cases h1 : (j : Int) ≤ n
          · rw [if_pos (by omega)] at ih
            rw [if_pos h1]
            have : (n - j).toNat = (n - ((j + 1 : Nat) : Int)).toNat + 1 := by omega
            rw [this, List.set_cons_succ]
            exact PW.cons (mergeC_rel hd (fun e' => absurd (by simpa using e') e) (fun _ => hc)) ih
          · rw [if_neg (by omega)] at ih
            rw [if_neg h1]
            exact PW.cons (mergeC_rel hd (fun e' => absurd (by simpa using e') e) (fun _ => hc)) ih
    · cases h

theorem updAt_len {v : AC} : ∀ (cs : List AC) (j : Nat) (n : Int) {l : List AC}, updAt v cs j n = some l → l.length = cs.length
  | [], j, n, l, h => by simp only [updAt, Option.some.injEq] at h; subst h; rfl
  | c :: r, j, n, l, h => by
    simp only [updAt] at h
    split at h
    · rename_i d l' hd hl
      injection h with h; subst h
      simp [updAt_len r _ _ hl]
    · cases h

def aload (P : Program) (t : TypeId) (H : Nat → Option AB) (p : AV) : Option AV :=
  match p, ty P t with
  | .one (.ptr i off), some (ag, n) =>
    match H i with
    | some (.cells cs) => if ((cs.drop off).take n).length == n then mkAV ag ((cs.drop off).take n) else none
    | _ => none
  | .one (.elp row l i off), some (ag, n) =>
    if (((row.cells (l.getD i row.dflt)).drop off).take n).length == n then mkAV ag (((row.cells (l.getD i row.dflt)).drop off).take n) else none
  | .one (.ael row i j d), some (ag, n) =>
    match H i with
    | some (.arr row' l) => if h : row'.eqb row = true then
        if (((row.cells ((castL row' row h l).getD j row.dflt)).drop d).take n).length == n then mkAV ag (((row.cells ((castL row' row h l).getD j row.dflt)).drop d).take n) else none
      else none
    | _ => none
  | .one (.pti i off n len), some (false, 1) =>
    match H i with
    | some (.cells cs) => if ((cs.drop off).take len).length == len then (pickAt ((cs.drop off).take len) 0 n).map .one else none
    | _ => none
  | _, _ => none

theorem aload_ok {X : Ctx} (hX : HRel X) {t : TypeId} {p : AV} {v : AV} {pv : Value} (hp : VR X p pv) (h : aload P t X.H p = some v) :
    ∃ val, (Instr.loadAt t pv).run P X.w = .ok val X.w ∧ VR X v val := by
  unfold aload at h
  split at h
  · rename_i i off ag n ht
    split at h
    · rename_i cs hH
      split at h
      · rename_i hl
        obtain ⟨_, rfl⟩ := hp
        obtain ⟨c, t', h1, h2⟩ := hX.blk i _ hH
        refine load_ok ht (by simpa using hl) (fun k x hx => ?_) h
        have hk : k < n := by
          have h1 := (List.getElem?_eq_some_iff.1 hx).1
          have h2 : ((cs.drop off).take n).length = n := by simpa using hl
          omega
        rw [List.getElem?_take_of_lt hk, List.getElem?_drop] at hx
        obtain ⟨y, hy, hr⟩ := h2.at_ hx
        refine ⟨y, ?_, hr⟩
        rw [cell_of_row _ _ _ c t' (0, 0) h1]
        simpa using hy
      · cases h
    · cases h
  · rename_i row l i off ag n ht
    split at h
    · rename_i hl
      obtain ⟨hi, b, o, rfl, hr⟩ := hp
      have hg : l[i]? = some (l.getD i row.dflt) := by rw [List.getD_eq_getElem?_getD, List.getElem?_eq_getElem hi]; rfl
      have hrel := hr _ hg
      refine load_ok ht (by simpa using hl) (fun k x hx => ?_) h
      have hk : k < n := by
        have h1 := (List.getElem?_eq_some_iff.1 hx).1
        have h2 : (((row.cells (l.getD i row.dflt)).drop off).take n).length = n := by simpa using hl
        omega
      rw [List.getElem?_take_of_lt hk, List.getElem?_drop] at hx
      obtain ⟨y, hy, hv⟩ := RelT.cell row _ _ hrel _ _ hx
      refine ⟨y, ?_, hv⟩
      have := hy.2.2.1
      rwa [show o + i * row.width + off + k = o + i * row.width + (off + k) from by omega]
    · cases h
  · rename_i row i j d ag n ht
    split at h
    · rename_i row' l hH
      split at h
      · rename_i hrow
        have er := CT.eq_of_eqb _ _ hrow
        subst er
        split at h
        · rename_i hl
          obtain ⟨l', hH', hj, rfl⟩ := hp
          rw [hH] at hH'
          simp only [Option.some.injEq, AB.arr.injEq, heq_eq_eq, true_and] at hH'
          subst hH'
          obtain ⟨c, t', h1, h2, h3⟩ := hX.blk i _ hH
          have hg : l[j]? = some (l.getD j row'.dflt) := by rw [List.getD_eq_getElem?_getD, List.getElem?_eq_getElem hj]; rfl
          have hrel := h3 j _ hg
          refine load_ok ht (by simpa using hl) (fun k x hx => ?_) h
          have hk : k < n := by
            have h1 := (List.getElem?_eq_some_iff.1 hx).1
            have h2 : (((row'.cells ((castL row' row' hrow l).getD j row'.dflt)).drop d).take n).length = n := by simpa using hl
            omega
          rw [List.getElem?_take_of_lt hk, List.getElem?_drop] at hx
          obtain ⟨y, hy, hv⟩ := RelT.cell row' _ _ hrel _ _ hx
          refine ⟨y, ?_, hv⟩
          rw [cell_of_row _ _ _ c t' (0, 0) h1, show j * row'.width + d + k = j * row'.width + (d + k) from by omega]
          exact hy
        · cases h
      · cases h
    · cases h
  · rename_i i off n len ht
    split at h
    · rename_i cs hH
      split at h
      · rename_i hl
        obtain ⟨_, rfl, hn1, hn2⟩ := hp
        obtain ⟨c, t', h1, h2⟩ := hX.blk i _ hH
        cases hd : pickAt ((cs.drop off).take len) 0 n with
        | none => rw [hd] at h; cases h
        | some d =>
          rw [hd] at h
          simp only [Option.map_some, Option.some.injEq] at h
          subst h
          have hl' : ((cs.drop off).take len).length = len := by simpa using hl
          refine load_ok (cs := [d]) ht rfl (fun k x hx => ?_) rfl
          cases k with
          | succ k => simp at hx
          | zero =>
            simp only [List.getElem?_cons_zero, Option.some.injEq] at hx
            subst hx
            have hlt : n.toNat < ((cs.drop off).take len).length := by omega
            have hg : cs[off + n.toNat]? = some (((cs.drop off).take len)[n.toNat]) := by
              have := List.getElem?_eq_getElem hlt
              rw [List.getElem?_take_of_lt (by omega), List.getElem?_drop] at this
              exact this
            obtain ⟨y, hy, hr⟩ := h2.at_ hg
            refine ⟨y, ?_, pickAt_rel _ 0 n hd (by omega) (by omega) y fun c hc => ?_⟩
            · rw [Nat.add_zero, cell_of_row _ _ _ c t' (0, 0) h1]
              simpa using hy
            · have e0 : (n - ((0 : Nat) : Int)).toNat = n.toNat := by omega
              rw [e0, List.getElem?_eq_getElem hlt] at hc
              injection hc with hc; subst hc; exact hr
      · cases h
    · cases h
  · cases h

/-- Is it known that it is one cell's value? -/
def AC.known : AC → Bool
  | .unk => false
  | _ => true

theorem AC.known_one {X : Ctx} {c : AC} {v : Value} (hk : c.known = true) (h : VRc X c v) : v.oneCell' = true ∧ v.cells = #[v] := by
  cases c with
  | unk => cases hk
  | int k n => cases h; exact ⟨rfl, rfl⟩
  | bool b => cases h; exact ⟨rfl, rfl⟩
  | str s => cases h; exact ⟨rfl, rfl⟩
  | sl row l m => obtain ⟨A, n, cap, rfl, _⟩ := h; exact ⟨rfl, rfl⟩
  | nils => cases h; exact ⟨rfl, rfl⟩
  | nilz => obtain ⟨_, rfl⟩ := h; exact ⟨rfl, rfl⟩
  | nilp => cases h; exact ⟨rfl, rfl⟩
  | nilf => cases h; exact ⟨rfl, rfl⟩
  | nilm => cases h; exact ⟨rfl, rfl⟩
  | ptr i off => obtain ⟨_, rfl⟩ := h; exact ⟨rfl, rfl⟩
  | pti i off n len => obtain ⟨_, rfl, _⟩ := h; exact ⟨rfl, rfl⟩
  | elp row l i off => obtain ⟨_, b, o, rfl, _⟩ := h; exact ⟨rfl, rfl⟩
  | msl i off len => obtain ⟨row, l, cap, _, rfl, _⟩ := h; exact ⟨rfl, rfl⟩
  | csl i off len cap => obtain ⟨_, rfl, _⟩ := h; exact ⟨rfl, rfl⟩
  | asl row i off len cap => obtain ⟨l, _, rfl, _⟩ := h; exact ⟨rfl, rfl⟩
  | ael row i j d => obtain ⟨l, _, _, rfl⟩ := h; exact ⟨rfl, rfl⟩
  | fn f caps => obtain ⟨c, rfl, _⟩ := h; exact ⟨rfl, rfl⟩
  | mth f i off => obtain ⟨_, rfl⟩ := h; exact ⟨rfl, rfl⟩
  | mref i => obtain ⟨_, rfl⟩ := h; exact ⟨rfl, rfl⟩

/-- The cells of a value that is known to the last of them. -/
def AV.cs : AV → Option (List AC)
  | .one c => if c.known then some [c] else none
  | .agg cs => if cs.all AC.known then some cs else none
  | .tup _ => none

theorem AV.cs_rel {X : Ctx} {v : AV} {cs : List AC} {val : Value} (h : v.cs = some cs) (hv : VR X v val) :
    PW (VRc X) cs val.cells.toList ∧ ∀ u ∈ val.cells.toList, u.oneCell' = true := by
  cases v with
  | one c =>
    simp only [AV.cs] at h
    split at h
    · rename_i hk
      injection h with h; subst h
      obtain ⟨h1, h2⟩ := AC.known_one hk hv
      rw [h2]
      exact ⟨PW.cons hv PW.nil, by simpa using h1⟩
    · cases h
  | agg l =>
    simp only [AV.cs] at h
    split at h
    · rename_i hk
      injection h with h; subst h
      obtain ⟨ar, rfl, hp⟩ := hv
      refine ⟨hp, fun u hu => ?_⟩
      obtain ⟨j, hj⟩ := List.getElem?_of_mem hu
      obtain ⟨c, hc, hr⟩ := hp.get hj
      exact (AC.known_one (List.all_eq_true.1 hk c (List.mem_of_getElem? hc)) hr).1
    · cases h
  | tup _ => cases h

/-- The block behind a store. -/
def astore (P : Program) (t : TypeId) (H : Nat → Option AB) (p v : AV) : Option (Nat × AB) :=
  match p, ty P t, v.cs with
  | .one (.ptr i off), some (_, n), some vs =>
    match H i with
    | some (.cells cs) => if vs.length == n && Nat.ble (off + n) cs.length then some (i, .cells (cs.take off ++ (vs ++ cs.drop (off + n)))) else none
    | _ => none
  | .one (.ael row i j d), some (_, n), some vs =>
    match H i with
    | some (.arr row' l) => if h : row'.eqb row = true then
        if vs.length == n && Nat.ble (d + n) row.width then
          match row.un ((row.cells ((castL row' row h l).getD j row.dflt)).take d ++ (vs ++ (row.cells ((castL row' row h l).getD j row.dflt)).drop (d + n))) with
          | some (x, []) => some (i, .arr row ((castL row' row h l).set j x))
          | _ => none
        else none
      else none
    | _ => none
  | .one (.pti i off n len), some (_, 1), some [v] =>
    match H i with
    | some (.cells cs) => if Nat.ble (off + len) cs.length then match updAt v ((cs.drop off).take len) 0 n with
        | some mid => some (i, .cells (cs.take off ++ (mid ++ cs.drop (off + len))))
        | none => none
      else none
    | _ => none
  | _, _, _ => none

theorem astore_ok {X : Ctx} (hX : HRel X) {t : TypeId} {p v : AV} {pv val : Value} (hp : VR X p pv) (hv : VR X v val) {i : Nat} {b : AB} (h : astore P t X.H p v = some (i, b)) :
    ∃ w', (Instr.storeAt t pv val).run P X.w = .ok () w' ∧ X.le (X.put i b w') ∧ HRel (X.put i b w') := by
  unfold astore at h
  split at h
  · rename_i i' off ag n vs ht hvs
    split at h
    · rename_i cs hH
      split at h
      · rename_i hcond
        simp only [Option.some.injEq, Prod.mk.injEq] at h
        obtain ⟨rfl, rfl⟩ := h
        simp only [Bool.and_eq_true, beq_iff_eq, Nat.ble_eq] at hcond
        obtain ⟨hn, hle⟩ := hcond
        obtain ⟨hpw, hone⟩ := AV.cs_rel hvs hv
        obtain ⟨_, rfl⟩ := hp
        obtain ⟨c, t', h1, h2⟩ := hX.blk i' _ hH
        have hcs : c.size = cs.length := by rw [← Array.length_toList]; exact h2.1.symm
        have hvl : val.cells.toList.length = n := by rw [← hpw.1]; exact hn
        obtain ⟨_, hsz⟩ := ty_run ht X.w
        have hrun := run_storeCells_at P (X.φ i') t' val.cells.toList X.w off 0 c h1 (by omega) hone
        obtain ⟨c', g1, g2, g3, g4, g5, g6, g7, g8⟩ := setCells_heap (X.φ i') t' val.cells.toList X.w off c h1 (by omega)
        have ho : OneBlock X i' (setCells X.w (X.φ i') off val.cells.toList) := ⟨g4, g5, g6, g7, g8⟩
        have harr : ∀ row l, AB.cells cs = .arr row l → ∃ l' : List row.den, AB.cells (cs.take off ++ (vs ++ cs.drop (off + n))) = .arr row l' ∧ l'.length = l.length := fun row l e => by cases e
        have hle' := put_le hX hH rfl (b' := .cells (cs.take off ++ (vs ++ cs.drop (off + n)))) rfl ho harr
        refine ⟨_, ?_, hle', hX.put hH rfl rfl ho harr ?_⟩
        · have hne : (val.cells.size ≠ n) = False := by
            have : val.cells.size = n := by rw [← Array.length_toList]; exact hvl
            simp [this]
          simp only [Instr.storeAt, Instr.sureAddr, Sem.run_bind, Sem.run_pure, Result.andThen_ok, storeVar, hsz]
          simp only [hne, if_false]
          exact hrun
        · refine ⟨c', t', g1, ?_⟩
          have hold : PW (VRc (X.put i' (.cells (cs.take off ++ (vs ++ cs.drop (off + n)))) (setCells X.w (X.φ i') off val.cells.toList))) cs c.toList := h2.imp fun x y => VRc.mono hle' x y
          have hnew : PW (VRc (X.put i' (.cells (cs.take off ++ (vs ++ cs.drop (off + n)))) (setCells X.w (X.φ i') off val.cells.toList))) vs val.cells.toList := hpw.imp fun x y => VRc.mono hle' x y
          have hc' : c'.toList = c.toList.take off ++ (val.cells.toList ++ c.toList.drop (off + n)) := by
            apply List.ext_getElem?
            intro j
            rw [Array.getElem?_toList, g3 j]
            have hcl : c.toList.length = c.size := Array.length_toList
            by_cases e1 : j < off
            · rw [if_neg (by omega), List.getElem?_append_left (by rw [List.length_take]; omega), List.getElem?_take_of_lt e1]; simp
            · by_cases e2 : j < off + n
              · rw [if_pos (by omega), List.getElem?_append_right (by rw [List.length_take]; omega), List.length_take, List.getElem?_append_left (by omega)]
                congr 1; omega
              · rw [if_neg (by omega), List.getElem?_append_right (by rw [List.length_take]; omega), List.length_take, List.getElem?_append_right (by omega), List.getElem?_drop, ← Array.getElem?_toList]
                congr 1; omega
          rw [hc']
          exact (hold.take off).append (hnew.append (hold.drop (off + n)))
      · cases h
    · cases h
  · rename_i row i' j d ag n vs ht hvs
    split at h
    · rename_i row' l hH
      split at h
      · rename_i hrow
        have er := CT.eq_of_eqb _ _ hrow
        subst er
        split at h
        · rename_i hcond
          simp only [Bool.and_eq_true, beq_iff_eq, Nat.ble_eq] at hcond
          obtain ⟨hn, hdn⟩ := hcond
          split at h
          · rename_i x hun
            simp only [Option.some.injEq, Prod.mk.injEq] at h
            obtain ⟨rfl, rfl⟩ := h
            obtain ⟨hpw, hone⟩ := AV.cs_rel hvs hv
            obtain ⟨l', hH', hj, rfl⟩ := hp
            rw [hH] at hH'
            simp only [Option.some.injEq, AB.arr.injEq, heq_eq_eq, true_and] at hH'
            subst hH'
            obtain ⟨c, t', h1, hsz, h3⟩ := hX.blk i' _ hH
            have hvl : val.cells.toList.length = n := by rw [← hpw.1]; exact hn
            have hjw : j * row'.width + row'.width ≤ c.size := by rw [hsz, ← Nat.succ_mul]; exact Nat.mul_le_mul_right _ hj
            obtain ⟨_, hsize⟩ := ty_run ht X.w
            have hrun := run_storeCells_at P (X.φ i') t' val.cells.toList X.w (j * row'.width + d) 0 c h1 (by omega) hone
            obtain ⟨c', g1, g2, g3, g4, g5, g6, g7, g8⟩ := setCells_heap (X.φ i') t' val.cells.toList X.w (j * row'.width + d) c h1 (by omega)
            have ho : OneBlock X i' (setCells X.w (X.φ i') (j * row'.width + d) val.cells.toList) := ⟨g4, g5, g6, g7, g8⟩
            have harr : ∀ row l0, AB.arr row' l = .arr row l0 → ∃ l' : List row.den, AB.arr row' ((castL row' row' hrow l).set j x) = .arr row l' ∧ l'.length = l0.length := fun row l0 e => by
              cases e
              exact ⟨_, rfl, by simp [castL]⟩
            have hle' := put_le hX hH rfl (b' := .arr row' ((castL row' row' hrow l).set j x)) rfl ho harr
            refine ⟨_, ?_, hle', hX.put hH rfl rfl ho harr ?_⟩
            · have hne : (val.cells.size ≠ n) = False := by
                have : val.cells.size = n := by rw [← Array.length_toList]; exact hvl
                simp [this]
              simp only [Instr.storeAt, Instr.sureAddr, Sem.run_bind, Sem.run_pure, Result.andThen_ok, storeVar, hsize]
              simp only [hne, if_false]
              exact hrun
            · refine ⟨c', t', g1, ?_, fun q z hq => ?_⟩
              · rw [g2, hsz]; simp [castL]
              · have hmono : ∀ (t : CT) (v : t.den) (C : Nat → Value → Prop), RelT t v C X.IC → RelT t v C (X.put i' (.arr row' ((castL row' row' hrow l).set j x)) (setCells X.w (X.φ i') (j * row'.width + d) val.cells.toList)).IC :=
                  fun t v C h => RelT.mono t v (fun _ _ h => h) (fun a y h => hle'.ic a y h) h
                by_cases hqj : q = j
                · subst hqj
                  have hzx : z = x := by
                    rw [List.getElem?_set_self (by simpa [castL] using hj)] at hq
                    injection hq with hq; exact hq.symm
                  subst hzx
                  have hg : l[q]? = some (l.getD q row'.dflt) := by rw [List.getD_eq_getElem?_getD, List.getElem?_eq_getElem hj]; rfl
                  have hrow0 := hmono _ _ _ (h3 q _ hg)
                  have hold : PW (VRc (X.put i' (.arr row' ((castL row' row' hrow l).set q z)) (setCells X.w (X.φ i') (q * row'.width + d) val.cells.toList))) (row'.cells (l.getD q row'.dflt)) ((c.toList.drop (q * row'.width)).take row'.width) := by
                    refine ⟨by rw [CT.cells_length, List.length_take, List.length_drop, Array.length_toList]; omega, fun k a y ha hy => ?_⟩
                    obtain ⟨y', hy', hr⟩ := RelT.cell row' _ _ hrow0 k a ha
                    have hk : k < row'.width := by have := (List.getElem?_eq_some_iff.1 ha).1; rwa [CT.cells_length] at this
                    rw [List.getElem?_take_of_lt hk, List.getElem?_drop, Array.getElem?_toList, hy'] at hy
                    injection hy with hy; subst hy; exact hr
                  have hnew : PW (VRc (X.put i' (.arr row' ((castL row' row' hrow l).set q z)) (setCells X.w (X.φ i') (q * row'.width + d) val.cells.toList))) vs val.cells.toList := hpw.imp fun x y => VRc.mono hle' x y
                  have hall := (hold.take d).append (hnew.append (hold.drop (d + n)))
                  obtain ⟨_, _, hrel⟩ := CT.un_rel row' _ z [] _ hun hall
                  refine RelT.mono_lt' row' z (fun k y hk hy => ?_) hrel
                  rw [g3]
                  have hcl : c.toList.length = c.size := Array.length_toList
                  have hml : ((c.toList.drop (q * row'.width)).take row'.width).length = row'.width := by rw [List.length_take, List.length_drop]; omega
                  by_cases e1 : k < d
                  · rw [List.getElem?_append_left (by rw [List.length_take]; omega), List.getElem?_take_of_lt e1, List.getElem?_take_of_lt hk, List.getElem?_drop, Array.getElem?_toList] at hy
                    rw [if_neg (by omega)]; exact hy
                  · rw [List.getElem?_append_right (by rw [List.length_take]; omega), List.length_take] at hy
                    by_cases e2 : k < d + n
                    · rw [List.getElem?_append_left (by omega)] at hy
                      rw [if_pos (by omega), ← hy]; congr 1; omega
                    · rw [List.getElem?_append_right (by omega), List.getElem?_drop, List.getElem?_take_of_lt (by omega), List.getElem?_drop, Array.getElem?_toList] at hy
                      rw [if_neg (by omega), ← hy]; congr 1; omega
                · rw [List.getElem?_set_ne (fun e => hqj e.symm)] at hq
                  have hqc : (l : List row'.den)[q]? = some z := hq
                  refine RelT.mono_lt' row' z (fun k y hk hy => ?_) (hmono _ _ _ (h3 q z hqc))
                  rw [g3, if_neg ?_]
                  · exact hy
                  · intro ⟨a1, a2⟩
                    rcases Nat.lt_or_gt_of_ne hqj with hlt | hlt
                    · have : (q + 1) * row'.width ≤ j * row'.width := Nat.mul_le_mul_right _ hlt
                      rw [Nat.add_mul] at this; omega
                    · have : (j + 1) * row'.width ≤ q * row'.width := Nat.mul_le_mul_right _ hlt
                      rw [Nat.add_mul] at this; omega
          · cases h
        · cases h
      · cases h
    · cases h
  · rename_i i' off n len ag v ht hvs
    split at h
    · rename_i cs hH
      split at h
      · rename_i hle
        simp only [Nat.ble_eq] at hle
        split at h
        · rename_i mid hmid
          simp only [Option.some.injEq, Prod.mk.injEq] at h
          obtain ⟨rfl, rfl⟩ := h
          obtain ⟨hpw, hone⟩ := AV.cs_rel hvs hv
          obtain ⟨_, rfl, hn1, hn2⟩ := hp
          obtain ⟨c, t', h1, h2⟩ := hX.blk i' _ hH
          have hcs : c.size = cs.length := by rw [← Array.length_toList]; exact h2.1.symm
          have hvl : val.cells.toList.length = 1 := hpw.1.symm
          obtain ⟨u, hu⟩ : ∃ u, val.cells.toList = [u] := by
            match hq : val.cells.toList, hvl with
            | [u], _ => exact ⟨u, rfl⟩
          obtain ⟨_, hsz⟩ := ty_run ht X.w
          rw [hu] at hpw hone
          have hrun := run_storeCells_at P (X.φ i') t' [u] X.w (off + n.toNat) 0 c h1 (by simp only [List.length_cons, List.length_nil]; omega) hone
          obtain ⟨c', g1, g2, g3, g4, g5, g6, g7, g8⟩ := setCells_heap (X.φ i') t' [u] X.w (off + n.toNat) c h1 (by simp only [List.length_cons, List.length_nil]; omega)
          have ho : OneBlock X i' (setCells X.w (X.φ i') (off + n.toNat) [u]) := ⟨g4, g5, g6, g7, g8⟩
          have harr : ∀ row l, AB.cells cs = .arr row l → ∃ l' : List row.den, AB.cells (cs.take off ++ (mid ++ cs.drop (off + len))) = .arr row l' ∧ l'.length = l.length := fun row l e => by cases e
          have hle' := put_le hX hH rfl (b' := .cells (cs.take off ++ (mid ++ cs.drop (off + len)))) rfl ho harr
          refine ⟨_, ?_, hle', hX.put hH rfl rfl ho harr ?_⟩
          · have hne : (val.cells.size ≠ 1) = False := by
              have : val.cells.size = 1 := by rw [← Array.length_toList]; exact hvl
              simp [this]
            simp only [Instr.storeAt, Instr.sureAddr, Sem.run_bind, Sem.run_pure, Result.andThen_ok, storeVar, hsz]
            simp only [hne, if_false, hu]
            exact hrun
          · refine ⟨c', t', g1, ?_⟩
            have hold : PW (VRc (X.put i' (.cells (cs.take off ++ (mid ++ cs.drop (off + len)))) (setCells X.w (X.φ i') (off + n.toNat) [u]))) cs c.toList := h2.imp fun x y => VRc.mono hle' x y
            have hnew : VRc (X.put i' (.cells (cs.take off ++ (mid ++ cs.drop (off + len)))) (setCells X.w (X.φ i') (off + n.toNat) [u])) v u := VRc.mono hle' _ _ (hpw.2 0 v u rfl rfl)
            have hmidp := updAt_rel hnew ((cs.drop off).take len) 0 n hmid ((c.toList.drop off).take len) ((hold.drop off).take len)
            rw [if_pos (by omega)] at hmidp
            have e0 : (n - ((0 : Nat) : Int)).toNat = n.toNat := by omega
            rw [e0] at hmidp
            have hc' : c'.toList = c.toList.take off ++ (((c.toList.drop off).take len).set n.toNat u ++ c.toList.drop (off + len)) := by
              apply List.ext_getElem?
              intro j
              rw [Array.getElem?_toList, g3 j]
              have hcl : c.toList.length = c.size := Array.length_toList
              simp only [List.length_cons, List.length_nil]
              by_cases e1 : j < off
              · rw [if_neg (by omega), List.getElem?_append_left (by rw [List.length_take]; omega), List.getElem?_take_of_lt e1]; simp
              · rw [List.getElem?_append_right (by rw [List.length_take]; omega), List.length_take]
                have em : min off c.toList.length = off := by omega
                rw [em]
                by_cases e2 : j < off + len
                · rw [List.getElem?_append_left (by rw [List.length_set, List.length_take, List.length_drop]; omega)]
                  by_cases e3 : j = off + n.toNat
                  · rw [if_pos (by omega)]
                    subst e3
                    rw [show off + n.toNat - off = n.toNat by omega, show off + n.toNat - (off + n.toNat) = 0 by omega, List.getElem?_set_self (by rw [List.length_take, List.length_drop]; omega)]
                    rfl
                  · rw [if_neg (by omega), List.getElem?_set_ne (by omega), List.getElem?_take_of_lt (by omega), List.getElem?_drop, ← Array.getElem?_toList]
                    congr 1; omega
                · rw [if_neg (by omega), List.getElem?_append_right (by rw [List.length_set, List.length_take, List.length_drop]; omega), List.length_set, List.length_take, List.length_drop, List.getElem?_drop, ← Array.getElem?_toList]
                  congr 1; omega
            rw [hc']
            exact (hold.take off).append (hmidp.append (hold.drop (off + len)))
        · cases h
      · cases h
    · cases h
  · cases h

/-- Cells of an own block are written, one behind the other. -/
theorem put_cells_ok {X : Ctx} (hX : HRel X) {i off : Nat} {cs vs : List AC} {vals : List Value} (hH : X.H i = some (.cells cs)) (hpw : PW (VRc X) vs vals) (hone : ∀ v ∈ vals, v.oneCell' = true) (hle : off + vs.length ≤ cs.length) :
    ∃ w', (storeCells ⟨X.φ i, off, none⟩ vals).run P X.w = .ok () w' ∧ X.le (X.put i (.cells (cs.take off ++ (vs ++ cs.drop (off + vs.length)))) w') ∧ HRel (X.put i (.cells (cs.take off ++ (vs ++ cs.drop (off + vs.length)))) w') := by
  obtain ⟨c, t', h1, h2⟩ := hX.blk i _ hH
  have hcs : c.size = cs.length := by rw [← Array.length_toList]; exact h2.1.symm
  have hvl : vals.length = vs.length := hpw.1.symm
  have hrun := run_storeCells_at P (X.φ i) t' vals X.w off 0 c h1 (by omega) hone
  obtain ⟨c', g1, g2, g3, g4, g5, g6, g7, g8⟩ := setCells_heap (X.φ i) t' vals X.w off c h1 (by omega)
  have ho : OneBlock X i (setCells X.w (X.φ i) off vals) := ⟨g4, g5, g6, g7, g8⟩
  have harr : ∀ row l, AB.cells cs = .arr row l → ∃ l' : List row.den, AB.cells (cs.take off ++ (vs ++ cs.drop (off + vs.length))) = .arr row l' ∧ l'.length = l.length := fun row l e => by cases e
  have hle' := put_le hX hH rfl (b' := .cells (cs.take off ++ (vs ++ cs.drop (off + vs.length)))) rfl ho harr
  refine ⟨_, hrun, hle', hX.put hH rfl rfl ho harr ?_⟩
  refine ⟨c', t', g1, ?_⟩
  have hold : PW (VRc (X.put i (.cells (cs.take off ++ (vs ++ cs.drop (off + vs.length)))) (setCells X.w (X.φ i) off vals))) cs c.toList := h2.imp fun x y => VRc.mono hle' x y
  have hnew : PW (VRc (X.put i (.cells (cs.take off ++ (vs ++ cs.drop (off + vs.length)))) (setCells X.w (X.φ i) off vals))) vs vals := hpw.imp fun x y => VRc.mono hle' x y
  have hc' : c'.toList = c.toList.take off ++ (vals ++ c.toList.drop (off + vs.length)) := by
    apply List.ext_getElem?
    intro j
    rw [Array.getElem?_toList, g3 j]
    have hcl : c.toList.length = c.size := Array.length_toList
    by_cases e1 : j < off
    · rw [if_neg (by omega), List.getElem?_append_left (by rw [List.length_take]; omega), List.getElem?_take_of_lt e1]; simp
    · by_cases e2 : j < off + vs.length
      · rw [if_pos (by omega), List.getElem?_append_right (by rw [List.length_take]; omega), List.length_take, List.getElem?_append_left (by omega)]
        congr 1; omega
      · rw [if_neg (by omega), List.getElem?_append_right (by rw [List.length_take]; omega), List.length_take, List.getElem?_append_right (by omega), List.getElem?_drop, ← Array.getElem?_toList]
        congr 1; omega
  rw [hc']
  exact (hold.take off).append (hnew.append (hold.drop (off + vs.length)))

/-- A new variable of these cells. -/
theorem alloc_ok {X : Ctx} (hX : HRel X) {i : Nat} (hi : X.H i = none) {cs : List AC} {vs : Array Value} (hp : PW (VRc X) cs vs.toList) (t : TypeId) :
    X.le (X.push i (.cells cs) (.cells vs t)) ∧ HRel (X.push i (.cells cs) (.cells vs t)) ∧ VR (X.push i (.cells cs) (.cells vs t)) (.one (.ptr i 0)) (.pointer (some ⟨X.w.heap.size, 0, none⟩)) := by
  have hle := push_le hX hi (.cells cs) rfl (.cells vs t)
  refine ⟨hle, hX.push hi (.cells cs) rfl (.cells vs t) ⟨vs, t, ?_, hp.imp fun x y => VRc.mono hle x y⟩, ⟨.cells cs, ?_, rfl⟩, ?_⟩
  · simp only [Ctx.push, upd_same]; exact heap_alloc_new X.w _
  · simp only [Ctx.push, upd_same]
  · simp only [Ctx.push, upd_same]

def azero (P : Program) (t : TypeId) : Option (List AC) :=
  match P.info? t with
  | some i => match i.zero with
    | some z => cvs z.cells.toList
    | none => none
  | none => none

theorem azero_rel {X : Ctx} {t : TypeId} {cs : List AC} (h : azero P t = some cs) : ∃ z, (∀ w, (zeroValue t).run P w = .ok z w) ∧ PW (VRc X) cs z.cells.toList := by
  unfold azero at h
  split at h
  · rename_i i hi
    split at h
    · rename_i z hz
      exact ⟨z, fun w => by simp [zeroValue, typeInfo, hi, hz], cvs_rel X h⟩
    · cases h
  · cases h

theorem run_allocI {t : TypeId} {z : Value} (hz : ∀ w, (zeroValue t).run P w = .ok z w) (w : World) :
    (Instr.alloc t true (.tuple #[])).run P w = .ok (.pointer (some ⟨w.heap.size, 0, none⟩)) (w.alloc (.cells z.cells t)) := by
  simp only [Instr.alloc, Sem.run_bind, hz, Result.andThen_ok, newVar, newRow, Sem.run_pure, run_newObj]
  rfl

theorem run_boxI (t : TypeId) (v : Value) (w : World) : (Instr.box t v).run P w = .ok (.pointer (some ⟨w.heap.size, 0, none⟩)) (w.alloc (.cells v.cells t)) := by
  simp only [Instr.box, Sem.run_bind, Result.andThen_ok, newVar, newRow, Sem.run_pure, run_newObj]
  rfl

def fieldOf (P : Program) (s : TypeId) (f : Nat) : Option (Nat × TypeId) :=
  match P.underlying s with
  | some (.struct fs) => (fs[f]?).map fun x => (x.offset, x.type)
  | _ => none

def afield (P : Program) (s : TypeId) (f : Nat) (p : AV) : Option AV :=
  match p, fieldOf P s f with
  | .one (.ptr i off), some (d, t) => match ty P t with
    | some (_, n + 1) => some (.one (.ptr i (off + d)))
    | _ => none
  | .one (.elp row l i off), some (d, t) => match ty P t with
    | some (_, n + 1) => some (.one (.elp row l i (off + d)))
    | _ => none
  | .one (.ael row i j off), some (d, t) => match ty P t with
    | some (_, n + 1) => some (.one (.ael row i j (off + d)))
    | _ => none
  | _, _ => none

theorem run_fieldAt {s : TypeId} {f d : Nat} {t : TypeId} {ag : Bool} {n b off : Nat} (h1 : fieldOf P s f = some (d, t)) (h2 : ty P t = some (ag, n + 1)) (w : World) :
    (Instr.fieldAt s (.pointer (some ⟨b, off, none⟩)) f).run P w = .ok (.pointer (some ⟨b, off + d, none⟩)) w := by
  unfold fieldOf at h1
  split at h1
  · rename_i fs hu
    cases hf : fs[f]? with
    | none => rw [hf] at h1; cases h1
    | some x =>
      rw [hf] at h1
      simp only [Option.map_some, Option.some.injEq, Prod.mk.injEq] at h1
      obtain ⟨rfl, rfl⟩ := h1
      simp only [Instr.fieldAt, Sem.run_bind, run_underlying hu, Result.andThen_ok, hf, Instr.sureAddr, Sem.run_pure, fieldPlace, (ty_run h2 w).2]
      simp only [Nat.add_one_ne_zero, if_false, Sem.run_pure, Result.andThen_ok, Addr.add_lit]
  · cases h1

theorem afield_ok {X : Ctx} {s : TypeId} {f : Nat} {p v : AV} {pv : Value} (hp : VR X p pv) (h : afield P s f p = some v) :
    ∃ val, (Instr.fieldAt s pv f).run P X.w = .ok val X.w ∧ VR X v val := by
  unfold afield at h
  split at h
  · rename_i i off d t hf
    split at h
    · rename_i ag n ht
      injection h with h; subst h
      obtain ⟨hb, rfl⟩ := hp
      exact ⟨_, run_fieldAt hf ht _, hb, rfl⟩
    · cases h
  · rename_i row l i off d t hf
    split at h
    · rename_i ag n ht
      injection h with h; subst h
      obtain ⟨hi, b, o, rfl, hr⟩ := hp
      exact ⟨_, run_fieldAt hf ht _, hi, b, o, by rw [Nat.add_assoc], hr⟩
    · cases h
  · rename_i row i j off d t hf
    split at h
    · rename_i ag n ht
      injection h with h; subst h
      obtain ⟨l, hl, hj, rfl⟩ := hp
      exact ⟨_, run_fieldAt hf ht _, l, hl, hj, by rw [Nat.add_assoc]⟩
    · cases h
  · cases h
end Go.Eng
