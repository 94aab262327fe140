import Derived.Test.YtolhkkoakneflaaEngJ
set_option linter.unusedVariables false
namespace Go.Eng
open Go Go.RowKit
variable {P : Program}

def elemOf (P : Program) (t : TypeId) : Option (Nat × Nat) :=
  match P.underlying t with
  | some (.slice e) => match P.info? e with
    | some i => some (e, i.size)
    | none => none
  | _ => none

def arrOf (P : Program) (t : TypeId) : Option (Nat × Nat × Nat) :=
  match P.underlying t with
  | some (.array len e) => match P.info? e with
    | some i => some (len, e, i.size)
    | none => none
  | _ => none

theorem elemOf_spec {t e n : Nat} (h : elemOf P t = some (e, n)) : P.underlying t = some (.slice e) ∧ ∀ w, (sizeOf e).run P w = .ok n w := by
  unfold elemOf at h
  split at h
  · rename_i e' hu
    split at h
    · rename_i i hi
      simp only [Option.some.injEq, Prod.mk.injEq] at h
      obtain ⟨rfl, rfl⟩ := h
      exact ⟨hu, run_size hi⟩
    · cases h
  · cases h

theorem arrOf_spec {t len e n : Nat} (h : arrOf P t = some (len, e, n)) : P.underlying t = some (.array len e) ∧ ∀ w, (sizeOf e).run P w = .ok n w := by
  unfold arrOf at h
  split at h
  · rename_i len' e' hu
    split at h
    · rename_i i hi
      simp only [Option.some.injEq, Prod.mk.injEq] at h
      obtain ⟨rfl, rfl, rfl⟩ := h
      exact ⟨hu, run_size hi⟩
    · cases h
  · cases h

def inB (n : Int) (len : Nat) : Bool := decide (0 ≤ n ∧ n < (len : Int))

/-- Is it a type of one plain cell? -/
def scal1 (P : Program) (e s len : Nat) : Bool := Nat.beq s 1 && Nat.ble len 64 && match P.underlying e with
  | some (.int _) => true
  | some .bool => true
  | some .string => true
  | _ => false

def aindexAddr (P : Program) (t : TypeId) (x ix : AV) : Option (AV × List Bool) :=
  match x, ix with
  | .one (.sl row l m), .one (.int k n) => match elemOf P t with
    | some (_, s) => if Nat.beq row.width s then some (.one (.elp row l n.toNat 0), [inB n l.length]) else none
    | none => none
  | .one (.ptr i off), .one (.int k n) => match arrOf P t with
    | some (len, e, s) => some (.one (if scal1 P e s len then .pti i off n len else .ptr i (off + n.toNat * s)), [inB n len])
    | none => none
  | .one (.elp row l i off), .one (.int k n) => match arrOf P t with
    | some (len, _, s) => some (.one (.elp row l i (off + n.toNat * s)), [inB n len])
    | none => none
  | .one (.csl i off len cap), .one (.int k n) => match elemOf P t with
    | some (_, s) => some (.one (.ptr i (off + n.toNat * s)), [inB n len])
    | none => none
  | .one (.asl row i off len cap), .one (.int k n) => match elemOf P t with
    | some (_, s) => if Nat.beq row.width s then some (.one (.ael row i (off + n.toNat) 0), [inB n len]) else none
    | none => none
  | .one (.ael row i j d), .one (.int k n) => match arrOf P t with
    | some (len, _, s) => some (.one (.ael row i j (d + n.toNat * s)), [inB n len])
    | none => none
  | _, _ => none

theorem aindexAddr_ok {X : Ctx} {t : TypeId} {x ix v : AV} {cs : List Bool} {xv iv : Value} (hx : VR X x xv) (hi : VR X ix iv) (h : aindexAddr P t x ix = some (v, cs)) (hcs : ∀ c ∈ cs, c = true) :
    ∃ val, (Instr.indexAt t xv iv).run P X.w = .ok val X.w ∧ VR X v val := by
  unfold aindexAddr at h
  split at h
  · rename_i row l m k n
    split at h
    · rename_i e s he
      split at h
      · rename_i hw
        simp only [Nat.beq_eq] at hw
        simp only [Option.some.injEq, Prod.mk.injEq] at h
        obtain ⟨rfl, rfl⟩ := h
        have hb := hcs _ (List.mem_cons_self ..)
        simp only [inB, decide_eq_true_eq] at hb
        obtain ⟨hu, hs⟩ := elemOf_spec he
        cases hi
        obtain ⟨A, len, cap, rfl, hl, h3, h4, h5, _⟩ := hx
        have hlen : n < (len : Int) := by rw [hl]; exact hb.2
        rcases h5 with h0 | ⟨b, o, rfl, hr⟩
        · omega
        · refine ⟨.pointer (some ⟨b, o + n.toNat * row.width, none⟩), ?_, by omega, b, o, rfl, fun y hy => hr n.toNat y hy⟩
          simp only [Instr.indexAt, asIntOf, Sem.run_bind, Sem.run_pure, Result.andThen_ok, run_underlying hu]
          rw [if_pos ⟨hb.1, hlen⟩]
          simp only [Sem.run_bind, hs, Result.andThen_ok, Sem.run_pure, Addr.add_lit, hw]
      · cases h
    · cases h
  · rename_i i off k n
    split at h
    · rename_i len e s he
      simp only [Option.some.injEq, Prod.mk.injEq] at h
      obtain ⟨rfl, rfl⟩ := h
      have hb := hcs _ (List.mem_cons_self ..)
      simp only [inB, decide_eq_true_eq] at hb
      obtain ⟨hu, hs⟩ := arrOf_spec he
      cases hi
      obtain ⟨hH, rfl⟩ := hx
      have hrun : (Instr.indexAt t (.pointer (some ⟨X.φ i, off, none⟩)) (.int k n)).run P X.w = .ok (.pointer (some ⟨X.φ i, off + n.toNat * s, none⟩)) X.w := by
        simp only [Instr.indexAt, asIntOf, Sem.run_bind, Sem.run_pure, Result.andThen_ok, run_underlying hu, Instr.sureAddr]
        rw [if_pos hb]
        simp only [Sem.run_bind, hs, Result.andThen_ok, Sem.run_pure, Addr.add_lit]
      refine ⟨_, hrun, ?_⟩
      split
      · rename_i hsc
        simp only [scal1, Bool.and_eq_true, Nat.beq_eq] at hsc
        exact ⟨hH, by rw [hsc.1.1, Nat.mul_one], hb.1, hb.2⟩
      · exact ⟨hH, rfl⟩
    · cases h
  · rename_i row l i off k n
    split at h
    · rename_i len e s he
      simp only [Option.some.injEq, Prod.mk.injEq] at h
      obtain ⟨rfl, rfl⟩ := h
      have hb := hcs _ (List.mem_cons_self ..)
      simp only [inB, decide_eq_true_eq] at hb
      obtain ⟨hu, hs⟩ := arrOf_spec he
      cases hi
      obtain ⟨hil, b, o, rfl, hr⟩ := hx
      refine ⟨_, ?_, hil, b, o, by rw [← Nat.add_assoc], hr⟩
      simp only [Instr.indexAt, asIntOf, Sem.run_bind, Sem.run_pure, Result.andThen_ok, run_underlying hu, Instr.sureAddr]
      rw [if_pos hb]
      simp only [Sem.run_bind, hs, Result.andThen_ok, Sem.run_pure, Addr.add_lit]
    · cases h
  · rename_i i off len cap k n
    split at h
    · rename_i e s he
      simp only [Option.some.injEq, Prod.mk.injEq] at h
      obtain ⟨rfl, rfl⟩ := h
      have hb := hcs _ (List.mem_cons_self ..)
      simp only [inB, decide_eq_true_eq] at hb
      obtain ⟨hu, hs⟩ := elemOf_spec he
      cases hi
      obtain ⟨hH, rfl, _, _⟩ := hx
      refine ⟨_, ?_, hH, rfl⟩
      simp only [Instr.indexAt, asIntOf, Sem.run_bind, Sem.run_pure, Result.andThen_ok, run_underlying hu]
      rw [if_pos hb]
      simp only [Sem.run_bind, hs, Result.andThen_ok, Sem.run_pure, Addr.add_lit]
    · cases h
  · rename_i row i off len cap k n
    split at h
    · rename_i e s he
      split at h
      · rename_i hw
        simp only [Nat.beq_eq] at hw
        simp only [Option.some.injEq, Prod.mk.injEq] at h
        obtain ⟨rfl, rfl⟩ := h
        have hb := hcs _ (List.mem_cons_self ..)
        simp only [inB, decide_eq_true_eq] at hb
        obtain ⟨hu, hs⟩ := elemOf_spec he
        cases hi
        obtain ⟨l, hH, rfl, h3, h4, h5⟩ := hx
        refine ⟨.pointer (some ⟨X.φ i, (off + n.toNat) * row.width + 0, none⟩), ?_, l, hH, by omega, rfl⟩
        simp only [Instr.indexAt, asIntOf, Sem.run_bind, Sem.run_pure, Result.andThen_ok, run_underlying hu]
        rw [if_pos hb]
        simp only [Sem.run_bind, hs, Result.andThen_ok, Sem.run_pure, Addr.add_lit, hw, Nat.add_mul, Nat.add_zero]
      · cases h
    · cases h
  · rename_i row i j d k n
    split at h
    · rename_i len e s he
      simp only [Option.some.injEq, Prod.mk.injEq] at h
      obtain ⟨rfl, rfl⟩ := h
      have hb := hcs _ (List.mem_cons_self ..)
      simp only [inB, decide_eq_true_eq] at hb
      obtain ⟨hu, hs⟩ := arrOf_spec he
      cases hi
      obtain ⟨l, hH, hj, rfl⟩ := hx
      refine ⟨.pointer (some ⟨X.φ i, j * row.width + (d + n.toNat * s), none⟩), ?_, l, hH, hj, rfl⟩
      simp only [Instr.indexAt, asIntOf, Sem.run_bind, Sem.run_pure, Result.andThen_ok, run_underlying hu, Instr.sureAddr]
      rw [if_pos hb]
      simp only [Sem.run_bind, hs, Result.andThen_ok, Sem.run_pure, Addr.add_lit, Nat.add_assoc]
    · cases h
  · cases h

def isStrT (P : Program) (t : TypeId) : Bool := match P.underlying t with | some .string => true | _ => false
theorem isStrT_of {t : TypeId} (h : isStrT P t = true) : P.underlying t = some .string := by
  unfold isStrT at h
  split at h
  · assumption
  · cases h

/-- A text's byte. -/
def byteAt (s : ByteArray) (n : Nat) : Int := ((s.data.toList.getD n 0).toNat : Int)

def aindex (P : Program) (t : TypeId) (x ix : AV) : Option (AV × List Bool) :=
  match x, ix with
  | .one (.str s), .one (.int k n) => if isStrT P t then some (.one (.int .u8 (byteAt s n.toNat)), [inB n s.size]) else none
  | .agg cs, .one (.int k n) => match arrOf P t with
    | some (len, e, s) => (apart P e cs (n.toNat * s)).map fun v => (v, [inB n len])
    | none => none
  | _, _ => none

theorem aindex_ok {X : Ctx} {t : TypeId} {x ix v : AV} {cs : List Bool} {xv iv : Value} (hx : VR X x xv) (hi : VR X ix iv) (h : aindex P t x ix = some (v, cs)) (hcs : ∀ c ∈ cs, c = true) :
    ∃ val, (Instr.index t xv iv).run P X.w = .ok val X.w ∧ VR X v val := by
  unfold aindex at h
  split at h
  · rename_i s k n
    split at h
    · rename_i hu
      have hu := isStrT_of hu
      simp only [Option.some.injEq, Prod.mk.injEq] at h
      obtain ⟨rfl, rfl⟩ := h
      have hb := hcs _ (List.mem_cons_self ..)
      simp only [inB, decide_eq_true_eq] at hb
      cases hi
      cases hx
      refine ⟨.int .u8 (byteAt s n.toNat), ?_, rfl⟩
      have hlt : n.toNat < s.size := by omega
      have hg : s[n.toNat]? = some (s.data.toList.getD n.toNat 0) := by
        rw [getElem?_pos s n.toNat hlt]
        congr 1
        have hl : n.toNat < s.data.toList.length := by rw [Array.length_toList]; exact hlt
        rw [List.getD_eq_getElem?_getD, List.getElem?_eq_getElem hl]
        rfl
      simp only [Instr.index, asIntOf, Sem.run_bind, Sem.run_pure, Result.andThen_ok, run_underlying hu]
      rw [if_pos hb.1, hg]
      rfl
    · cases h
  · rename_i cs' k n
    split at h
    · rename_i len e s he
      cases hv : apart P e cs' (n.toNat * s) with
      | none => rw [hv] at h; cases h
      | some v' =>
        rw [hv] at h
        simp only [Option.map_some, Option.some.injEq, Prod.mk.injEq] at h
        obtain ⟨rfl, rfl⟩ := h
        have hb := hcs _ (List.mem_cons_self ..)
        simp only [inB, decide_eq_true_eq] at hb
        obtain ⟨hu, hs⟩ := arrOf_spec he
        cases hi
        obtain ⟨ar, rfl, hp⟩ := hx
        obtain ⟨val, h1, h2⟩ := apart_ok (P := P) hp hv X.w
        refine ⟨val, ?_, h2⟩
        simp only [Instr.index, asIntOf, Sem.run_bind, Sem.run_pure, Result.andThen_ok, run_underlying hu]
        rw [if_pos hb]
        simp only [Sem.run_bind, hs, Result.andThen_ok]
        exact h1
    · cases h
  · cases h

/-! ### Cuts -/

def intOp : Option AV → Option (Option Int)
  | none => some none
  | some (.one (.int _ n)) => some (some n)
  | some _ => none

def aslice (P : Program) (t : TypeId) (x : AV) (lo hi mx : Option AV) : Option (AV × List Bool) :=
  match intOp lo, intOp hi, intOp mx with
  | some lo, some hi, some mx =>
    match x with
    | .one (.str s) =>
      match isStrT P t, mx with
      | true, none =>
        let l := lo.getD 0
        let h := hi.getD s.size
        some (.one (.str (s.extract l.toNat h.toNat)), [decide (0 ≤ l ∧ l ≤ h ∧ h ≤ (s.size : Int))])
      | _, _ => none
    | .one (.sl row a m) =>
      match elemOf P t with
      | some (_, sz) =>
        if Nat.beq row.width sz then
          let l := lo.getD 0
          let h := hi.getD a.length
          match mx with
          | none =>
            let m' := match lo, hi with | none, none => m | _, _ => .shared
            some (.one (.sl row ((a.take h.toNat).drop l.toNat) m'), [decide (0 ≤ l ∧ l ≤ h ∧ h ≤ (a.length : Int))])
          | some c => match hi with
            | some _ => some (.one (.sl row ((a.take h.toNat).drop l.toNat) .full), [decide (0 ≤ l ∧ l ≤ h ∧ h ≤ (a.length : Int) ∧ c = h)])
            | none => none
        else none
      | none => none
    | .one (.csl i off len cap) =>
      match elemOf P t with
      | some (_, sz) =>
        match mx with
        | none => some (.one (.csl i (bif Nat.beq cap (lo.getD 0).toNat then off else off + (lo.getD 0).toNat * sz) ((hi.getD len).toNat - (lo.getD 0).toNat) (cap - (lo.getD 0).toNat)),
            [decide (0 ≤ lo.getD 0 ∧ lo.getD 0 ≤ hi.getD len ∧ hi.getD len ≤ (cap : Int))])
        | some c => match hi with
          | some h => some (.one (.csl i (bif Nat.beq c.toNat (lo.getD 0).toNat then off else off + (lo.getD 0).toNat * sz) (h.toNat - (lo.getD 0).toNat) (c.toNat - (lo.getD 0).toNat)),
              [decide (0 ≤ lo.getD 0 ∧ lo.getD 0 ≤ h ∧ h ≤ c ∧ c ≤ (cap : Int))])
          | none => none
      | none => none
    | .one (.asl row i off len cap) =>
      match elemOf P t with
      | some (_, sz) =>
        if Nat.beq row.width sz then
          match mx with
          | none => some (.one (.asl row i (bif Nat.beq cap (lo.getD 0).toNat then off else off + (lo.getD 0).toNat) ((hi.getD len).toNat - (lo.getD 0).toNat) (cap - (lo.getD 0).toNat)),
              [decide (0 ≤ lo.getD 0 ∧ lo.getD 0 ≤ hi.getD len ∧ hi.getD len ≤ (cap : Int))])
          | some c => match hi with
            | some h => some (.one (.asl row i (bif Nat.beq c.toNat (lo.getD 0).toNat then off else off + (lo.getD 0).toNat) (h.toNat - (lo.getD 0).toNat) (c.toNat - (lo.getD 0).toNat)),
                [decide (0 ≤ lo.getD 0 ∧ lo.getD 0 ≤ h ∧ h ≤ c ∧ c ≤ (cap : Int))])
            | none => none
        else none
      | none => none
    | _ => none
  | _, _, _ => none

/-- What may be absent, and its value. -/
def ORel (X : Ctx) : Option AV → Option Value → Prop
  | none, v => v = none
  | some a, v => ∃ y, v = some y ∧ VR X a y

theorem intOp_none {X : Ctx} {a : Option AV} {v : Option Value} (h : intOp a = some none) (hr : ORel X a v) : v = none := by
  unfold intOp at h
  split at h
  · exact hr
  · cases h
  · cases h
theorem intOp_some {X : Ctx} {a : Option AV} {v : Option Value} {n : Int} (h : intOp a = some (some n)) (hr : ORel X a v) : ∃ k, v = some (.int k n) := by
  unfold intOp at h
  split at h
  · cases h
  · rename_i k m
    simp only [Option.some.injEq] at h
    subst h
    obtain ⟨y, hy, hv⟩ := hr
    cases hv
    exact ⟨k, hy⟩
  · cases h

theorem run_bound (k : IntKind) (i : Int) (y : Nat) (code : BoundsCode) (h : 0 ≤ i ∧ i ≤ (y : Int)) (w : World) : (Instr.sliceBound (.int k i) y code).run P w = .ok i.toNat w := by
  simp only [Instr.sliceBound, asIntOf, Sem.run_bind, Sem.run_pure, Result.andThen_ok]
  rw [if_pos h]
  rfl

/-- The low bound, where it is there or is not. -/
theorem run_low {X : Ctx} {lo : Option AV} {lov : Option Value} {ln : Option Int} (h1 : intOp lo = some ln) (r1 : ORel X lo lov) (h : Nat) (code : BoundsCode) (h0 : 0 ≤ ln.getD 0) (hle : ln.getD 0 ≤ (h : Int)) {α : Type}
    (f : Nat → Sem α) (w : World) : (match (generalizing := false) lov with | some v => (do let l ← Instr.sliceBound v h code; f l) | none => (do let l ← pure 0; f l) : Sem α).run P w = (f (ln.getD 0).toNat).run P w := by
  cases ln with
  | none => have := intOp_none h1 r1; subst this; rfl
  | some n =>
    obtain ⟨k, e⟩ := intOp_some h1 r1
    subst e
    simp only [Sem.run_bind, run_bound k n h code ⟨h0, hle⟩, Result.andThen_ok, Option.getD_some]

/-- The three bounds. -/
theorem run_bounds {X : Ctx} {lo hi : Option AV} {lov hiv : Option Value} {ln hn : Option Int} (h1 : intOp lo = some ln) (h2 : intOp hi = some hn) (r1 : ORel X lo lov) (r2 : ORel X hi hiv)
    (sl : Bool) (len cap : Nat) (hc : len ≤ cap) (hb : 0 ≤ ln.getD 0 ∧ ln.getD 0 ≤ hn.getD len ∧ hn.getD len ≤ (len : Int)) (w : World) :
    (Instr.sliceBounds sl len cap lov hiv none).run P w = .ok ((ln.getD 0).toNat, (hn.getD len).toNat, cap) w := by
  simp only [Instr.sliceBounds, Sem.run_bind, Sem.run_pure, Result.andThen_ok]
  cases hn with
  | none =>
    have := intOp_none h2 r2; subst this
    simp only [Option.getD_none] at hb ⊢
    simp only [Sem.run_bind, Sem.run_pure, Result.andThen_ok]
    refine Eq.trans (run_low h1 r1 len _ hb.1 hb.2.1 (fun l => pure (l, len, cap)) w) ?_
    simp
  | some n =>
    obtain ⟨k, e⟩ := intOp_some h2 r2
    subst e
    simp only [Option.getD_some] at hb ⊢
    have hn0 : 0 ≤ n := by omega
    simp only [Sem.run_bind, run_bound k n cap _ ⟨hn0, by omega⟩, Result.andThen_ok]
    refine Eq.trans (run_low h1 r1 n.toNat _ hb.1 (by omega) (fun l => pure (l, n.toNat, cap)) w) ?_
    simp

theorem run_bounds3 {X : Ctx} {lo hi mx : Option AV} {lov hiv mxv : Option Value} {ln : Option Int} {n c : Int} (h1 : intOp lo = some ln) (h2 : intOp hi = some (some n)) (h3 : intOp mx = some (some c)) (r1 : ORel X lo lov) (r2 : ORel X hi hiv) (r3 : ORel X mx mxv)
    (len cap : Nat) (hc : len ≤ cap) (hb : 0 ≤ ln.getD 0 ∧ ln.getD 0 ≤ n ∧ n ≤ (len : Int) ∧ c = n) (w : World) :
    (Instr.sliceBounds true len cap lov hiv mxv).run P w = .ok ((ln.getD 0).toNat, n.toNat, n.toNat) w := by
  obtain ⟨k2, e2⟩ := intOp_some h2 r2
  obtain ⟨k3, e3⟩ := intOp_some h3 r3
  obtain ⟨b1, b2, b3, rfl⟩ := hb
  subst e2; subst e3
  have hc0 : 0 ≤ c := by omega
  simp only [Instr.sliceBounds, Sem.run_bind, run_bound k3 c cap _ ⟨hc0, by omega⟩, Result.andThen_ok]
  simp only [run_bound k2 c c.toNat _ ⟨hc0, by omega⟩, Result.andThen_ok]
  refine Eq.trans (run_low h1 r1 c.toNat _ b1 (by omega) (fun l => pure (l, c.toNat, c.toNat)) w) ?_
  simp

/-- The bounds of a cut within the room. -/
theorem run_boundsC {X : Ctx} {lo hi : Option AV} {lov hiv : Option Value} {ln hn : Option Int} (h1 : intOp lo = some ln) (h2 : intOp hi = some hn) (r1 : ORel X lo lov) (r2 : ORel X hi hiv)
    (len cap : Nat) (hc : len ≤ cap) (hb : 0 ≤ ln.getD 0 ∧ ln.getD 0 ≤ hn.getD len ∧ hn.getD len ≤ (cap : Int)) (w : World) :
    (Instr.sliceBounds true len cap lov hiv none).run P w = .ok ((ln.getD 0).toNat, (hn.getD len).toNat, cap) w := by
  simp only [Instr.sliceBounds, Sem.run_bind, Sem.run_pure, Result.andThen_ok]
  cases hn with
  | none =>
    have := intOp_none h2 r2; subst this
    simp only [Option.getD_none] at hb ⊢
    simp only [Sem.run_bind, Sem.run_pure, Result.andThen_ok]
    refine Eq.trans (run_low h1 r1 len _ hb.1 hb.2.1 (fun l => pure (l, len, cap)) w) ?_
    simp
  | some n =>
    obtain ⟨k, e⟩ := intOp_some h2 r2
    subst e
    simp only [Option.getD_some] at hb ⊢
    have hn0 : 0 ≤ n := by omega
    simp only [Sem.run_bind, run_bound k n cap _ ⟨hn0, by omega⟩, Result.andThen_ok]
    refine Eq.trans (run_low h1 r1 n.toNat _ hb.1 (by omega) (fun l => pure (l, n.toNat, cap)) w) ?_
    simp

theorem run_bounds3C {X : Ctx} {lo hi mx : Option AV} {lov hiv mxv : Option Value} {ln : Option Int} {n c : Int} (h1 : intOp lo = some ln) (h2 : intOp hi = some (some n)) (h3 : intOp mx = some (some c)) (r1 : ORel X lo lov) (r2 : ORel X hi hiv) (r3 : ORel X mx mxv)
    (len cap : Nat) (hb : 0 ≤ ln.getD 0 ∧ ln.getD 0 ≤ n ∧ n ≤ c ∧ c ≤ (cap : Int)) (w : World) :
    (Instr.sliceBounds true len cap lov hiv mxv).run P w = .ok ((ln.getD 0).toNat, n.toNat, c.toNat) w := by
  obtain ⟨k2, e2⟩ := intOp_some h2 r2
  obtain ⟨k3, e3⟩ := intOp_some h3 r3
  obtain ⟨b1, b2, b3, b4⟩ := hb
  subst e2; subst e3
  have hc0 : 0 ≤ c := by omega
  have hn0 : 0 ≤ n := by omega
  simp only [Instr.sliceBounds, Sem.run_bind, run_bound k3 c cap _ ⟨hc0, by omega⟩, Result.andThen_ok]
  simp only [run_bound k2 n c.toNat _ ⟨hn0, by omega⟩, Result.andThen_ok]
  refine Eq.trans (run_low h1 r1 n.toNat _ b1 (by omega) (fun l => pure (l, n.toNat, c.toNat)) w) ?_
  simp

theorem run_sliceAt_str {t : TypeId} (h : P.underlying t = some .string) (x : Value) (lo hi mx : Option Value) (w : World) : (Instr.sliceAt t x lo hi mx).run P w = (Instr.slice t x lo hi mx).run P w := by
  simp only [Instr.sliceAt, Sem.run_bind, run_underlying h, Result.andThen_ok]
theorem run_sliceAt_sl {t e : TypeId} (h : P.underlying t = some (.slice e)) (x : Value) (lo hi mx : Option Value) (w : World) : (Instr.sliceAt t x lo hi mx).run P w = (Instr.slice t x lo hi mx).run P w := by
  simp only [Instr.sliceAt, Sem.run_bind, run_underlying h, Result.andThen_ok]

/-- A cut of a slice's account, whatever is known of its spare. -/
theorem cut_rel {X : Ctx} {row : CT} {a : List row.den} {b o : Nat} {l h : Nat} (hlh : l ≤ h) (hh : h ≤ a.length)
    (hr : ∀ (j : Nat) x, a[j]? = some x → RelT row x (fun k y => X.IC ⟨b, o + j * row.width + k, none⟩ y) X.IC) :
    ∀ (j : Nat) x, ((a.take h).drop l)[j]? = some x → RelT row x (fun k y => X.IC ⟨b, o + l * row.width + j * row.width + k, none⟩ y) X.IC := by
  intro j x hj
  rw [List.getElem?_drop] at hj
  have hlt : l + j < h := by
    rcases Nat.lt_or_ge (l + j) h with q | q
    · exact q
    · rw [List.getElem?_take_eq_none q] at hj; cases hj
  rw [List.getElem?_take_of_lt hlt] at hj
  have := hr (l + j) x hj
  rwa [show o + (l + j) * row.width = o + l * row.width + j * row.width from by rw [Nat.add_mul]; omega] at this

theorem aslice_ok {X : Ctx} {t : TypeId} {x v : AV} {lo hi mx : Option AV} {cs : List Bool} {xv : Value} {lov hiv mxv : Option Value} (hx : VR X x xv) (r1 : ORel X lo lov) (r2 : ORel X hi hiv) (r3 : ORel X mx mxv)
    (h : aslice P t x lo hi mx = some (v, cs)) (hcs : ∀ c ∈ cs, c = true) : ∃ val, (Instr.sliceAt t xv lov hiv mxv).run P X.w = .ok val X.w ∧ VR X v val := by
  unfold aslice at h
  split at h
  · rename_i ln hn mn e1 e2 e3
    split at h
    · rename_i s
      split at h
      · rename_i hu
        have hu := isStrT_of hu
        simp only [Option.some.injEq, Prod.mk.injEq] at h
        obtain ⟨rfl, rfl⟩ := h
        have hb := hcs _ (List.mem_cons_self ..)
        simp only [decide_eq_true_eq] at hb
        have hm := intOp_none e3 r3
        subst hm
        cases hx
        refine ⟨_, ?_, rfl⟩
        rw [run_sliceAt_str hu]
        simp only [Instr.slice, Sem.run_bind, run_underlying hu, Result.andThen_ok, Option.isSome_none, Bool.false_eq_true, if_false]
        rw [run_bounds e1 e2 r1 r2 false s.size s.size (Nat.le_refl _) hb]
        rfl
      · cases h
    · rename_i row a m
      split at h
      · rename_i e sz he
        obtain ⟨hu, hs⟩ := elemOf_spec he
        split at h
        · rename_i hw
          simp only [Nat.beq_eq] at hw
          obtain ⟨A, len, cap, rfl, hl, h3, h4, h5, h6⟩ := hx
          split at h
          · simp only [Option.some.injEq, Prod.mk.injEq] at h
            obtain ⟨rfl, rfl⟩ := h
            have hb := hcs _ (List.mem_cons_self ..)
            simp only [decide_eq_true_eq] at hb
            have hm := intOp_none e3 r3
            subst hm
            rw [← hl] at hb
            rw [run_sliceAt_sl hu]
            simp only [Instr.slice, Sem.run_bind, run_underlying hu, Result.andThen_ok]
            rw [run_bounds e1 e2 r1 r2 true len cap h3 hb]
            simp only [Result.andThen_ok, hs, Sem.run_pure]
            refine ⟨_, rfl, ?_⟩
            have hhl : (hn.getD (a.length : Int)).toNat ≤ a.length := by rw [← hl]; omega
            have hcl : ((a.take (hn.getD (a.length : Int)).toNat).drop (ln.getD 0).toNat).length = (hn.getD (a.length : Int)).toNat - (ln.getD 0).toNat := by
              rw [List.length_drop, List.length_take]; omega
            rw [hl] at hb h3 ⊢
            refine ⟨_, _, _, rfl, hcl.symm, by omega, by omega, ?_, ?_⟩
            · rcases h5 with h0 | ⟨b, o, rfl, hr⟩
              · left; omega
              · by_cases hz : (hn.getD (a.length : Int)).toNat - (ln.getD 0).toNat = 0
                · exact .inl hz
                · right
                  rw [if_neg (by omega)]
                  refine ⟨b, o + (ln.getD 0).toNat * row.width, by rw [← hw]; simp only [Option.map_some, Addr.add_lit], cut_rel (by omega) hhl hr⟩
            · cases ln with
              | some _ => trivial
              | none =>
                cases hn with
                | some _ => trivial
                | none =>
                  simp only [Option.getD_none] at *
                  have e0 : ((a.take (a.length : Int).toNat).drop (0 : Int).toNat) = a := by simp
                  simp only [Int.toNat_zero, Int.toNat_natCast, Nat.sub_zero, Nat.zero_mul]
                  cases m with
                  | shared => trivial
                  | nn =>
                    obtain ⟨a', rfl⟩ := h6
                    simp only
                    split
                    · exact ⟨_, rfl⟩
                    · exact ⟨_, rfl⟩
                  | full =>
                    simp only at h6 ⊢
                    omega
                  | own i ver =>
                    obtain ⟨e', v0, g1, g2, g3⟩ := h6
                    refine ⟨e', v0, g1, g2, fun ev => ?_⟩
                    rcases g3 ev with gc | ⟨ga, gt⟩
                    · left
                      omega
                    · right
                      refine ⟨?_, by rw [hl] at gt; exact gt⟩
                      rw [ga]
                      split
                      · rfl
                      · simp [Addr.add]
          · rename_i c
            split at h
            · rename_i n
              simp only [Option.some.injEq, Prod.mk.injEq] at h
              obtain ⟨rfl, rfl⟩ := h
              have hb := hcs _ (List.mem_cons_self ..)
              simp only [decide_eq_true_eq, Option.getD_some] at hb
              rw [← hl] at hb
              rw [run_sliceAt_sl hu]
              simp only [Instr.slice, Sem.run_bind, run_underlying hu, Result.andThen_ok]
              rw [run_bounds3 e1 e2 e3 r1 r2 r3 len cap h3 hb]
              simp only [Result.andThen_ok, hs, Sem.run_pure, Option.getD_some]
              refine ⟨_, rfl, ?_⟩
              have hhl : n.toNat ≤ a.length := by rw [← hl]; omega
              have hcl : ((a.take n.toNat).drop (ln.getD 0).toNat).length = n.toNat - (ln.getD 0).toNat := by
                rw [List.length_drop, List.length_take]; omega
              refine ⟨_, _, _, rfl, hcl.symm, Nat.le_refl _, by omega, ?_, rfl⟩
              rcases h5 with h0 | ⟨b, o, rfl, hr⟩
              · left; omega
              · by_cases hz : n.toNat - (ln.getD 0).toNat = 0
                · exact .inl hz
                · right
                  rw [if_neg (by omega)]
                  refine ⟨b, o + (ln.getD 0).toNat * row.width, by rw [← hw]; simp only [Option.map_some, Addr.add_lit], cut_rel (by omega) hhl hr⟩
            · cases h
        · cases h
      · cases h
    · rename_i i off len cap
      split at h
      · rename_i e sz he
        obtain ⟨hu, hs⟩ := elemOf_spec he
        obtain ⟨hH, rfl, hlc, hcm⟩ := hx
        have hbase : ∀ (m l : Nat), (if m = l then (some ⟨X.φ i, off, none⟩ : Option Addr) else (some ⟨X.φ i, off, none⟩ : Option Addr).map (·.add (l * sz))) = some ⟨X.φ i, bif Nat.beq m l then off else off + l * sz, none⟩ := by
          intro m l
          by_cases hml : m = l
          · subst hml; simp
          · have : Nat.beq m l = false := by
              cases hb : Nat.beq m l with
              | false => rfl
              | true => exact absurd (Nat.eq_of_beq_eq_true hb) hml
            rw [if_neg hml, this]
            simp [Addr.add_lit]
        split at h
        · simp only [Option.some.injEq, Prod.mk.injEq] at h
          obtain ⟨rfl, rfl⟩ := h
          have hb := hcs _ (List.mem_cons_self ..)
          simp only [decide_eq_true_eq] at hb
          have hm := intOp_none e3 r3
          subst hm
          rw [run_sliceAt_sl hu]
          simp only [Instr.slice, Sem.run_bind, run_underlying hu, Result.andThen_ok]
          rw [run_boundsC e1 e2 r1 r2 len cap hlc hb]
          simp only [Result.andThen_ok, hs, Sem.run_pure, hbase]
          exact ⟨_, rfl, hH, rfl, by omega, by omega⟩
        · rename_i c
          split at h
          · rename_i n
            simp only [Option.some.injEq, Prod.mk.injEq] at h
            obtain ⟨rfl, rfl⟩ := h
            have hb := hcs _ (List.mem_cons_self ..)
            simp only [decide_eq_true_eq] at hb
            rw [run_sliceAt_sl hu]
            simp only [Instr.slice, Sem.run_bind, run_underlying hu, Result.andThen_ok]
            rw [run_bounds3C e1 e2 e3 r1 r2 r3 len cap hb]
            simp only [Result.andThen_ok, hs, Sem.run_pure, hbase]
            exact ⟨_, rfl, hH, rfl, by omega, by omega⟩
          · cases h
      · cases h
    · rename_i row i off len cap
      split at h
      · rename_i e sz he
        obtain ⟨hu, hs⟩ := elemOf_spec he
        split at h
        · rename_i hw
          simp only [Nat.beq_eq] at hw
          obtain ⟨l, hH, rfl, hlc, hcm, hfit⟩ := hx
          have hbase : ∀ (m l : Nat), (if m = l then (some ⟨X.φ i, off * row.width, none⟩ : Option Addr) else (some ⟨X.φ i, off * row.width, none⟩ : Option Addr).map (·.add (l * sz))) = some ⟨X.φ i, (bif Nat.beq m l then off else off + l) * row.width, none⟩ := by
            intro m l
            by_cases hml : m = l
            · subst hml; simp
            · have : Nat.beq m l = false := by
                cases hb : Nat.beq m l with
                | false => rfl
                | true => exact absurd (Nat.eq_of_beq_eq_true hb) hml
              rw [if_neg hml, this]
              simp [Addr.add_lit, hw, Nat.add_mul]
          have hoff : ∀ (m l : Nat), l ≤ m → (bif Nat.beq m l then off else off + l) + (m - l) ≤ off + m := by
            intro m l hlm
            cases hb : Nat.beq m l with
            | true => have := Nat.eq_of_beq_eq_true hb; simp only [cond_true]; omega
            | false => simp only [cond_false]; omega
          split at h
          · simp only [Option.some.injEq, Prod.mk.injEq] at h
            obtain ⟨rfl, rfl⟩ := h
            have hb := hcs _ (List.mem_cons_self ..)
            simp only [decide_eq_true_eq] at hb
            have hm := intOp_none e3 r3
            subst hm
            rw [run_sliceAt_sl hu]
            simp only [Instr.slice, Sem.run_bind, run_underlying hu, Result.andThen_ok]
            rw [run_boundsC e1 e2 r1 r2 len cap hlc hb]
            simp only [Result.andThen_ok, hs, Sem.run_pure, hbase]
            have := hoff cap (ln.getD 0).toNat (by omega)
            exact ⟨_, rfl, l, hH, rfl, by omega, by omega, by omega⟩
          · rename_i c
            split at h
            · rename_i n
              simp only [Option.some.injEq, Prod.mk.injEq] at h
              obtain ⟨rfl, rfl⟩ := h
              have hb := hcs _ (List.mem_cons_self ..)
              simp only [decide_eq_true_eq] at hb
              rw [run_sliceAt_sl hu]
              simp only [Instr.slice, Sem.run_bind, run_underlying hu, Result.andThen_ok]
              rw [run_bounds3C e1 e2 e3 r1 r2 r3 len cap hb]
              simp only [Result.andThen_ok, hs, Sem.run_pure, hbase]
              have := hoff c.toNat (ln.getD 0).toNat (by omega)
              exact ⟨_, rfl, l, hH, rfl, by omega, by omega, by omega⟩
            · cases h
        · cases h
      · cases h
    · cases h
  · cases h
end Go.Eng
