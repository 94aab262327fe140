import Derived.Test.YtcigjehfmiiolaaEngD
set_option linter.unusedVariables false
namespace Go.Eng
open Go Go.RowKit

variable {P : Program}

/-- What an operation does, as the engine sees it: from what is known to what is known behind it, with the value's account. -/
def OpSim (P : Program) (o : Oper) (a : Act) (X : Ctx) (v : AV) (H' : Nat → Option AB) : Prop :=
  ∀ (next : Act → World → Prop) (Q : Exit → Act → World → Prop),
    (∀ val X', X.le X' → HRel X' → X'.H = H' → VR X' v val → next (a.put o.dst val) X'.w) → o.wp P a X.w next Q

theorem OpSim.of_run {o : Oper} {a : Act} {X X' : Ctx} {v : AV} {val : Value} (hr : (execOp a.eval o).run P X.w = .ok (.value val) X'.w) (hle : X.le X') (hX : HRel X') (hv : VR X' v val) :
    OpSim P o a X v X'.H := by
  intro next Q h
  unfold Oper.wp
  rw [hr]
  exact h val X' hle hX rfl hv

theorem OpSim.of_skip {o : Oper} {a : Act} {X X' : Ctx} (hr : (execOp a.eval o).run P X.w = .ok .skip X'.w) (hle : X.le X') (hX : HRel X') : OpSim P o a X (.one .unk) X'.H := by
  intro next Q h
  unfold Oper.wp
  rw [hr]
  exact h undef X' hle hX rfl trivial

/-- Is the type one of rows, and how many cells has it? -/
def ty (P : Program) (t : TypeId) : Option (Bool × Nat) :=
  match P.underlying t, P.info? t with
  | some (.struct _), some i => some (true, i.size)
  | some (.array _ _), some i => some (true, i.size)
  | some _, some i => some (false, i.size)
  | _, _ => none

theorem run_size {t : TypeId} {i : TypeInfo} (h : P.info? t = some i) (w : World) : (sizeOf t).run P w = .ok i.size w := by
  simp [sizeOf, typeInfo, h]

theorem ty_run {t : TypeId} {ag : Bool} {n : Nat} (h : ty P t = some (ag, n)) (w : World) : (isAgg t).run P w = .ok ag w ∧ (sizeOf t).run P w = .ok n w := by
  unfold ty at h
  split at h
  · rename_i fs i hu hi
    simp only [Option.some.injEq, Prod.mk.injEq] at h
    obtain ⟨rfl, rfl⟩ := h
    exact ⟨by simp only [isAgg, Sem.run_bind, run_underlying hu, Result.andThen_ok]; rfl, run_size hi w⟩
  · rename_i n' e i hu hi
    simp only [Option.some.injEq, Prod.mk.injEq] at h
    obtain ⟨rfl, rfl⟩ := h
    exact ⟨by simp only [isAgg, Sem.run_bind, run_underlying hu, Result.andThen_ok]; rfl, run_size hi w⟩
  · rename_i d i h1 h2 hu hi
    simp only [Option.some.injEq, Prod.mk.injEq] at h
    obtain ⟨rfl, rfl⟩ := h
    refine ⟨?_, run_size hi w⟩
    simp only [isAgg, Sem.run_bind, run_underlying hu, Result.andThen_ok]
    rfl
  · cases h

def mkAV (ag : Bool) (cs : List AC) : Option AV :=
  if ag then some (.agg cs) else
    match cs with
    | [c] => some (.one c)
    | _ => none

/-- Cells that lie behind one another are read as a value. -/
theorem load_ok {X : Ctx} {t : TypeId} {ag : Bool} {n : Nat} (ht : ty P t = some (ag, n)) {cs : List AC} (hlen : cs.length = n) {b off : Nat}
    (h : ∀ (k : Nat) c, cs[k]? = some c → ∃ y, X.w.cell? ⟨b, off + k, none⟩ = some y ∧ VRc X c y) {v : AV} (hv : mkAV ag cs = some v) :
    ∃ val, (Instr.loadAt t (.pointer (some ⟨b, off, none⟩))).run P X.w = .ok val X.w ∧ VR X v val := by
  obtain ⟨h1, h2⟩ := ty_run ht X.w
  simp only [Instr.loadAt, Instr.sureAddr, Sem.run_bind, Sem.run_pure, Result.andThen_ok, loadVar, h1]
  cases ag with
  | true =>
    simp only [mkAV, if_true, Option.some.injEq] at hv
    subst hv
    have hf : ∀ j, j < n → X.w.cell? ((⟨b, off, none⟩ : Addr).add j) = some ((X.w.cell? ⟨b, off + j, none⟩).getD undef) := by
      intro j hj
      obtain ⟨y, hy, _⟩ := h j _ (List.getElem?_eq_getElem (by omega))
      rw [Addr.add_lit, hy]; rfl
    have hl := run_loadCells (P := P) X.w ⟨b, off, none⟩ n (fun j => (X.w.cell? ⟨b, off + j, none⟩).getD undef) hf
    simp only [if_true, Sem.run_bind, h2, Result.andThen_ok, hl, Sem.run_pure]
    refine ⟨_, rfl, _, rfl, by simp [hlen], fun j c y hc hy => ?_⟩
    obtain ⟨z, hz, hr⟩ := h j c hc
    have hj : j < n := by have := (List.getElem?_eq_some_iff.1 hc).1; omega
    simp only [List.getElem?_map, List.getElem?_range hj, Option.map_some, Option.some.injEq, hz, Option.getD_some] at hy
    subst hy; exact hr
  | false =>
    simp only [mkAV, Bool.false_eq_true, if_false] at hv ⊢
    match cs, hv with
    | [c], hv =>
      injection hv with hv
      subst hv
      obtain ⟨y, hy, hr⟩ := h 0 c rfl
      simp only [Nat.add_zero] at hy
      refine ⟨y, ?_, hr⟩
      simp only [run_load, hy]

def aload (P : Program) (t : TypeId) (H : Nat → Option AB) (p : AV) : Option AV :=
  match p, ty P t with
  | .one (.ptr i off), some (ag, n) =>
    match H i with
    | some (.cells cs) => if ((cs.drop off).take n).length == n then mkAV ag ((cs.drop off).take n) else none
    | _ => none
  | .one (.elp row l i off), some (ag, n) =>
    if (((row.cells (l.getD i row.dflt)).drop off).take n).length == n then mkAV ag (((row.cells (l.getD i row.dflt)).drop off).take n) else none
  | _, _ => none

theorem aload_ok {X : Ctx} (hX : HRel X) {t : TypeId} {p : AV} {v : AV} {pv : Value} (hp : VR X p pv) (h : aload P t X.H p = some v) :
    ∃ val, (Instr.loadAt t pv).run P X.w = .ok val X.w ∧ VR X v val := by
  unfold aload at h
  split at h
  · rename_i i off ag n ht
    split at h
    · rename_i cs hH
      split at h
      · rename_i hl
        obtain ⟨_, rfl⟩ := hp
        obtain ⟨c, t', h1, h2⟩ := hX.blk i _ hH
        refine load_ok ht (by simpa using hl) (fun k x hx => ?_) h
        have hk : k < n := by
          have h1 := (List.getElem?_eq_some_iff.1 hx).1
          have h2 : ((cs.drop off).take n).length = n := by simpa using hl
          omega
        rw [List.getElem?_take_of_lt hk, List.getElem?_drop] at hx
        obtain ⟨y, hy, hr⟩ := h2.at_ hx
        refine ⟨y, ?_, hr⟩
        rw [cell_of_row _ _ _ c t' (0, 0) h1]
        simpa using hy
      · cases h
    · cases h
  · rename_i row l i off ag n ht
    split at h
    · rename_i hl
      obtain ⟨hi, b, o, rfl, hr⟩ := hp
      have hg : l[i]? = some (l.getD i row.dflt) := by rw [List.getD_eq_getElem?_getD, List.getElem?_eq_getElem hi]; rfl
      have hrel := hr _ hg
      refine load_ok ht (by simpa using hl) (fun k x hx => ?_) h
      have hk : k < n := by
        have h1 := (List.getElem?_eq_some_iff.1 hx).1
        have h2 : (((row.cells (l.getD i row.dflt)).drop off).take n).length = n := by simpa using hl
        omega
      rw [List.getElem?_take_of_lt hk, List.getElem?_drop] at hx
      obtain ⟨y, hy, hv⟩ := RelT.cell row _ _ hrel _ _ hx
      refine ⟨y, ?_, hv⟩
      have := hy.2.2.1
      rwa [show o + i * row.width + off + k = o + i * row.width + (off + k) from by omega]
    · cases h
  · cases h

/-- Is it known that it is one cell's value? -/
def AC.known : AC → Bool
  | .unk => false
  | _ => true

theorem AC.known_one {X : Ctx} {c : AC} {v : Value} (hk : c.known = true) (h : VRc X c v) : v.oneCell' = true ∧ v.cells = #[v] := by
  cases c with
  | unk => cases hk
  | int k n => cases h; exact ⟨rfl, rfl⟩
  | bool b => cases h; exact ⟨rfl, rfl⟩
  | str s => cases h; exact ⟨rfl, rfl⟩
  | sl row l m => obtain ⟨A, n, cap, rfl, _⟩ := h; exact ⟨rfl, rfl⟩
  | nils => cases h; exact ⟨rfl, rfl⟩
  | nilp => cases h; exact ⟨rfl, rfl⟩
  | nilf => cases h; exact ⟨rfl, rfl⟩
  | nilm => cases h; exact ⟨rfl, rfl⟩
  | ptr i off => obtain ⟨_, rfl⟩ := h; exact ⟨rfl, rfl⟩
  | elp row l i off => obtain ⟨_, b, o, rfl, _⟩ := h; exact ⟨rfl, rfl⟩
  | msl i off len => obtain ⟨row, l, cap, _, rfl, _⟩ := h; exact ⟨rfl, rfl⟩
  | csl i off len cap => obtain ⟨_, rfl, _⟩ := h; exact ⟨rfl, rfl⟩
  | fn f caps => obtain ⟨c, rfl, _⟩ := h; exact ⟨rfl, rfl⟩

/-- The cells of a value that is known to the last of them. -/
def AV.cs : AV → Option (List AC)
  | .one c => if c.known then some [c] else none
  | .agg cs => if cs.all AC.known then some cs else none
  | .tup _ => none

theorem AV.cs_rel {X : Ctx} {v : AV} {cs : List AC} {val : Value} (h : v.cs = some cs) (hv : VR X v val) :
    PW (VRc X) cs val.cells.toList ∧ ∀ u ∈ val.cells.toList, u.oneCell' = true := by
  cases v with
  | one c =>
    simp only [AV.cs] at h
    split at h
    · rename_i hk
      injection h with h; subst h
      obtain ⟨h1, h2⟩ := AC.known_one hk hv
      rw [h2]
      exact ⟨PW.cons hv PW.nil, by simpa using h1⟩
    · cases h
  | agg l =>
    simp only [AV.cs] at h
    split at h
    · rename_i hk
      injection h with h; subst h
      obtain ⟨ar, rfl, hp⟩ := hv
      refine ⟨hp, fun u hu => ?_⟩
      obtain ⟨j, hj⟩ := List.getElem?_of_mem hu
      obtain ⟨c, hc, hr⟩ := hp.get hj
      exact (AC.known_one (List.all_eq_true.1 hk c (List.mem_of_getElem? hc)) hr).1
    · cases h
  | tup _ => cases h

/-- The block behind a store. -/
def astore (P : Program) (t : TypeId) (H : Nat → Option AB) (p v : AV) : Option (Nat × AB) :=
  match p, ty P t, v.cs with
  | .one (.ptr i off), some (_, n), some vs =>
    match H i with
    | some (.cells cs) => if vs.length == n && Nat.ble (off + n) cs.length then some (i, .cells (cs.take off ++ (vs ++ cs.drop (off + n)))) else none
    | _ => none
  | _, _, _ => none

theorem astore_ok {X : Ctx} (hX : HRel X) {t : TypeId} {p v : AV} {pv val : Value} (hp : VR X p pv) (hv : VR X v val) {i : Nat} {b : AB} (h : astore P t X.H p v = some (i, b)) :
    ∃ w', (Instr.storeAt t pv val).run P X.w = .ok () w' ∧ X.le (X.put i b w') ∧ HRel (X.put i b w') := by
  unfold astore at h
  split at h
  · rename_i i' off ag n vs ht hvs
    split at h
    · rename_i cs hH
      split at h
      · rename_i hcond
        simp only [Option.some.injEq, Prod.mk.injEq] at h
        obtain ⟨rfl, rfl⟩ := h
        simp only [Bool.and_eq_true, beq_iff_eq, Nat.ble_eq] at hcond
        obtain ⟨hn, hle⟩ := hcond
        obtain ⟨hpw, hone⟩ := AV.cs_rel hvs hv
        obtain ⟨_, rfl⟩ := hp
        obtain ⟨c, t', h1, h2⟩ := hX.blk i' _ hH
        have hcs : c.size = cs.length := by rw [← Array.length_toList]; exact h2.1.symm
        have hvl : val.cells.toList.length = n := by rw [← hpw.1]; exact hn
        obtain ⟨_, hsz⟩ := ty_run ht X.w
        have hrun := run_storeCells_at P (X.φ i') t' val.cells.toList X.w off 0 c h1 (by omega) hone
        obtain ⟨c', g1, g2, g3, g4, g5, g6, g7, g8⟩ := setCells_heap (X.φ i') t' val.cells.toList X.w off c h1 (by omega)
        have ho : OneBlock X i' (setCells X.w (X.φ i') off val.cells.toList) := ⟨g4, g5, g6, g7, g8⟩
        have harr : ∀ row l, AB.cells cs = .arr row l → ∃ l' : List row.den, AB.cells (cs.take off ++ (vs ++ cs.drop (off + n))) = .arr row l' ∧ l'.length = l.length := fun row l e => by cases e
        have hle' := put_le hX hH rfl (b' := .cells (cs.take off ++ (vs ++ cs.drop (off + n)))) rfl ho harr
        refine ⟨_, ?_, hle', hX.put hH rfl rfl ho harr ?_⟩
        · have hne : (val.cells.size ≠ n) = False := by
            have : val.cells.size = n := by rw [← Array.length_toList]; exact hvl
            simp [this]
          simp only [Instr.storeAt, Instr.sureAddr, Sem.run_bind, Sem.run_pure, Result.andThen_ok, storeVar, hsz]
          simp only [hne, if_false]
          exact hrun
        · refine ⟨c', t', g1, ?_⟩
          have hold : PW (VRc (X.put i' (.cells (cs.take off ++ (vs ++ cs.drop (off + n)))) (setCells X.w (X.φ i') off val.cells.toList))) cs c.toList := h2.imp fun x y => VRc.mono hle' x y
          have hnew : PW (VRc (X.put i' (.cells (cs.take off ++ (vs ++ cs.drop (off + n)))) (setCells X.w (X.φ i') off val.cells.toList))) vs val.cells.toList := hpw.imp fun x y => VRc.mono hle' x y
          have hc' : c'.toList = c.toList.take off ++ (val.cells.toList ++ c.toList.drop (off + n)) := by
            apply List.ext_getElem?
            intro j
            rw [Array.getElem?_toList, g3 j]
            have hcl : c.toList.length = c.size := Array.length_toList
            by_cases e1 : j < off
            · rw [if_neg (by omega), List.getElem?_append_left (by rw [List.length_take]; omega), List.getElem?_take_of_lt e1]; simp
            · by_cases e2 : j < off + n
              · rw [if_pos (by omega), List.getElem?_append_right (by rw [List.length_take]; omega), List.length_take, List.getElem?_append_left (by omega)]
                congr 1; omega
              · rw [if_neg (by omega), List.getElem?_append_right (by rw [List.length_take]; omega), List.length_take, List.getElem?_append_right (by omega), List.getElem?_drop, ← Array.getElem?_toList]
                congr 1; omega
          rw [hc']
          exact (hold.take off).append (hnew.append (hold.drop (off + n)))
      · cases h
    · cases h
  · cases h

/-- Cells of an own block are written, one behind the other. -/
theorem put_cells_ok {X : Ctx} (hX : HRel X) {i off : Nat} {cs vs : List AC} {vals : List Value} (hH : X.H i = some (.cells cs)) (hpw : PW (VRc X) vs vals) (hone : ∀ v ∈ vals, v.oneCell' = true) (hle : off + vs.length ≤ cs.length) :
    ∃ w', (storeCells ⟨X.φ i, off, none⟩ vals).run P X.w = .ok () w' ∧ X.le (X.put i (.cells (cs.take off ++ (vs ++ cs.drop (off + vs.length)))) w') ∧ HRel (X.put i (.cells (cs.take off ++ (vs ++ cs.drop (off + vs.length)))) w') := by
  obtain ⟨c, t', h1, h2⟩ := hX.blk i _ hH
  have hcs : c.size = cs.length := by rw [← Array.length_toList]; exact h2.1.symm
  have hvl : vals.length = vs.length := hpw.1.symm
  have hrun := run_storeCells_at P (X.φ i) t' vals X.w off 0 c h1 (by omega) hone
  obtain ⟨c', g1, g2, g3, g4, g5, g6, g7, g8⟩ := setCells_heap (X.φ i) t' vals X.w off c h1 (by omega)
  have ho : OneBlock X i (setCells X.w (X.φ i) off vals) := ⟨g4, g5, g6, g7, g8⟩
  have harr : ∀ row l, AB.cells cs = .arr row l → ∃ l' : List row.den, AB.cells (cs.take off ++ (vs ++ cs.drop (off + vs.length))) = .arr row l' ∧ l'.length = l.length := fun row l e => by cases e
  have hle' := put_le hX hH rfl (b' := .cells (cs.take off ++ (vs ++ cs.drop (off + vs.length)))) rfl ho harr
  refine ⟨_, hrun, hle', hX.put hH rfl rfl ho harr ?_⟩
  refine ⟨c', t', g1, ?_⟩
  have hold : PW (VRc (X.put i (.cells (cs.take off ++ (vs ++ cs.drop (off + vs.length)))) (setCells X.w (X.φ i) off vals))) cs c.toList := h2.imp fun x y => VRc.mono hle' x y
  have hnew : PW (VRc (X.put i (.cells (cs.take off ++ (vs ++ cs.drop (off + vs.length)))) (setCells X.w (X.φ i) off vals))) vs vals := hpw.imp fun x y => VRc.mono hle' x y
  have hc' : c'.toList = c.toList.take off ++ (vals ++ c.toList.drop (off + vs.length)) := by
    apply List.ext_getElem?
    intro j
    rw [Array.getElem?_toList, g3 j]
    have hcl : c.toList.length = c.size := Array.length_toList
    by_cases e1 : j < off
    · rw [if_neg (by omega), List.getElem?_append_left (by rw [List.length_take]; omega), List.getElem?_take_of_lt e1]; simp
    · by_cases e2 : j < off + vs.length
      · rw [if_pos (by omega), List.getElem?_append_right (by rw [List.length_take]; omega), List.length_take, List.getElem?_append_left (by omega)]
        congr 1; omega
      · rw [if_neg (by omega), List.getElem?_append_right (by rw [List.length_take]; omega), List.length_take, List.getElem?_append_right (by omega), List.getElem?_drop, ← Array.getElem?_toList]
        congr 1; omega
  rw [hc']
  exact (hold.take off).append (hnew.append (hold.drop (off + vs.length)))

/-- A new variable of these cells. -/
theorem alloc_ok {X : Ctx} (hX : HRel X) {i : Nat} (hi : X.H i = none) {cs : List AC} {vs : Array Value} (hp : PW (VRc X) cs vs.toList) (t : TypeId) :
    X.le (X.push i (.cells cs) (.cells vs t)) ∧ HRel (X.push i (.cells cs) (.cells vs t)) ∧ VR (X.push i (.cells cs) (.cells vs t)) (.one (.ptr i 0)) (.pointer (some ⟨X.w.heap.size, 0, none⟩)) := by
  have hle := push_le hX hi (.cells cs) rfl (.cells vs t)
  refine ⟨hle, hX.push hi (.cells cs) rfl (.cells vs t) ⟨vs, t, ?_, hp.imp fun x y => VRc.mono hle x y⟩, ⟨.cells cs, ?_, rfl⟩, ?_⟩
  · simp only [Ctx.push, upd_same]; exact heap_alloc_new X.w _
  · simp only [Ctx.push, upd_same]
  · simp only [Ctx.push, upd_same]

def azero (P : Program) (t : TypeId) : Option (List AC) :=
  match P.info? t with
  | some i => match i.zero with
    | some z => cvs z.cells.toList
    | none => none
  | none => none

theorem azero_rel {X : Ctx} {t : TypeId} {cs : List AC} (h : azero P t = some cs) : ∃ z, (∀ w, (zeroValue t).run P w = .ok z w) ∧ PW (VRc X) cs z.cells.toList := by
  unfold azero at h
  split at h
  · rename_i i hi
    split at h
    · rename_i z hz
      exact ⟨z, fun w => by simp [zeroValue, typeInfo, hi, hz], cvs_rel X h⟩
    · cases h
  · cases h

theorem run_allocI {t : TypeId} {z : Value} (hz : ∀ w, (zeroValue t).run P w = .ok z w) (w : World) :
    (Instr.alloc t true (.tuple #[])).run P w = .ok (.pointer (some ⟨w.heap.size, 0, none⟩)) (w.alloc (.cells z.cells t)) := by
  simp only [Instr.alloc, Sem.run_bind, hz, Result.andThen_ok, newVar, newRow, Sem.run_pure, run_newObj]
  rfl

theorem run_boxI (t : TypeId) (v : Value) (w : World) : (Instr.box t v).run P w = .ok (.pointer (some ⟨w.heap.size, 0, none⟩)) (w.alloc (.cells v.cells t)) := by
  simp only [Instr.box, Sem.run_bind, Result.andThen_ok, newVar, newRow, Sem.run_pure, run_newObj]
  rfl

def fieldOf (P : Program) (s : TypeId) (f : Nat) : Option (Nat × TypeId) :=
  match P.underlying s with
  | some (.struct fs) => (fs[f]?).map fun x => (x.offset, x.type)
  | _ => none

def afield (P : Program) (s : TypeId) (f : Nat) (p : AV) : Option AV :=
  match p, fieldOf P s f with
  | .one (.ptr i off), some (d, t) => match ty P t with
    | some (_, n + 1) => some (.one (.ptr i (off + d)))
    | _ => none
  | .one (.elp row l i off), some (d, t) => match ty P t with
    | some (_, n + 1) => some (.one (.elp row l i (off + d)))
    | _ => none
  | _, _ => none

theorem run_fieldAt {s : TypeId} {f d : Nat} {t : TypeId} {ag : Bool} {n b off : Nat} (h1 : fieldOf P s f = some (d, t)) (h2 : ty P t = some (ag, n + 1)) (w : World) :
    (Instr.fieldAt s (.pointer (some ⟨b, off, none⟩)) f).run P w = .ok (.pointer (some ⟨b, off + d, none⟩)) w := by
  unfold fieldOf at h1
  split at h1
  · rename_i fs hu
    cases hf : fs[f]? with
    | none => rw [hf] at h1; cases h1
    | some x =>
      rw [hf] at h1
      simp only [Option.map_some, Option.some.injEq, Prod.mk.injEq] at h1
      obtain ⟨rfl, rfl⟩ := h1
      simp only [Instr.fieldAt, Sem.run_bind, run_underlying hu, Result.andThen_ok, hf, Instr.sureAddr, Sem.run_pure, fieldPlace, (ty_run h2 w).2]
      simp only [Nat.add_one_ne_zero, if_false, Sem.run_pure, Result.andThen_ok, Addr.add_lit]
  · cases h1

theorem afield_ok {X : Ctx} {s : TypeId} {f : Nat} {p v : AV} {pv : Value} (hp : VR X p pv) (h : afield P s f p = some v) :
    ∃ val, (Instr.fieldAt s pv f).run P X.w = .ok val X.w ∧ VR X v val := by
  unfold afield at h
  split at h
  · rename_i i off d t hf
    split at h
    · rename_i ag n ht
      injection h with h; subst h
      obtain ⟨hb, rfl⟩ := hp
      exact ⟨_, run_fieldAt hf ht _, hb, rfl⟩
    · cases h
  · rename_i row l i off d t hf
    split at h
    · rename_i ag n ht
      injection h with h; subst h
      obtain ⟨hi, b, o, rfl, hr⟩ := hp
      exact ⟨_, run_fieldAt hf ht _, hi, b, o, by rw [Nat.add_assoc], hr⟩
    · cases h
  · cases h
end Go.Eng
