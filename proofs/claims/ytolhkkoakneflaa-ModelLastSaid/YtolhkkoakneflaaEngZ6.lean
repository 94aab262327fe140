import Derived.Test.YtolhkkoakneflaaEngZ5
set_option linter.unusedVariables false
namespace Go.Eng
open Go Go.RowKit
variable {P : Program}

/-! ### Short words -/
abbrev cI : CT := .int .i64
abbrev cU : CT := .int .u64
abbrev cB : CT := .int .u8
abbrev vI (n : Int) : AV := .one (.int .i64 n)
abbrev vU (n : Int) : AV := .one (.int .u64 n)
abbrev vY (n : Int) : AV := .one (.int .u8 n)
abbrev vB (b : Bool) : AV := .one (.bool b)
abbrev vS (s : ByteArray) : AV := .one (.str s)
abbrev vL (row : CT) (l : List row.den) : AV := .one (.sl row l .shared)
abbrev vX : AV := .one .unk

theorem allT0 : ∀ c ∈ ([] : List Bool), c = true := fun c hc => by cases hc
theorem allT1 {a : Bool} (h : a = true) : ∀ c ∈ [a], c = true := fun c hc => by rcases List.mem_singleton.1 hc with rfl; exact h
theorem allTc {a : Bool} {l : List Bool} (h : a = true) (hl : ∀ c ∈ l, c = true) : ∀ c ∈ a :: l, c = true := fun c hc => by
  rcases List.mem_cons.1 hc with rfl | hc
  · exact h
  · exact hl c hc
theorem of_allTc {a : Bool} {l : List Bool} (h : ∀ c ∈ a :: l, c = true) : a = true ∧ ∀ c ∈ l, c = true := ⟨h _ (List.mem_cons_self ..), fun c hc => h c (List.mem_cons_of_mem _ hc)⟩
theorem wrap64 {n : Int} (h1 : -9223372036854775808 ≤ n) (h2 : n ≤ 9223372036854775807) : IntKind.i64.wrap n = n := by
  simp only [IntKind.wrap, IntKind.signed, IntKind.bits, Bool.true_and]
  split <;> simp_all <;> omega
theorem wrapU64 {n : Int} (h1 : 0 ≤ n) (h2 : n < 18446744073709551616) : IntKind.u64.wrap n = n := by
  simp only [IntKind.wrap, IntKind.signed, IntKind.bits, Bool.false_and]
  simp; omega
theorem wrapU8 {n : Int} (h1 : 0 ≤ n) (h2 : n < 256) : IntKind.u8.wrap n = n := by
  simp only [IntKind.wrap, IntKind.signed, IntKind.bits, Bool.false_and]
  simp; omega
theorem inB_of {n : Int} {len : Nat} (h1 : 0 ≤ n) (h2 : n < len) : inB n len = true := by simp [inB]; omega
theorem inB_iff {n : Int} {len : Nat} : inB n len = true ↔ 0 ≤ n ∧ n < len := by simp [inB]
theorem eqT {a : Bool} (h : a = true) : (a == true) = true := by rw [h]; rfl
theorem eqF {a : Bool} (h : a = false) : (a == false) = true := by rw [h]; rfl
theorem dT {p : Prop} [Decidable p] (h : p) : (decide p == true) = true := by simp [h]
theorem dF {p : Prop} [Decidable p] (h : ¬ p) : (decide p == false) = true := by simp [h]
theorem getD_get {α : Type} {l : List α} {k : Nat} {d : α} (h : k < l.length) : l[k]? = some (l.getD k d) := by
  rw [List.getD_eq_getElem?_getD, List.getElem?_eq_getElem h]; rfl
theorem take_all {α : Type} {l : List α} {m : Nat} (h : l.length = m) : l.take m = l := by subst h; exact List.take_length

/-- slices.Clone: by what it does of nil, of an empty one, of another. -/
theorem clone_of (E : Env P) {f : Nat} {row : CT} {l : List row.den} {os : List Bool} {cs : List Bool} (h0 : E.pureRun f [.one .nilz] [] = some (.one .nils, [])) (h1 : E.pureRun f [.one (.sl row [] .nn)] [] = some (.one (.sl row [] .full), []))
    (h2 : l ≠ [] → E.pureRun f [.one (.sl row l .nn)] os = some (vL row l, cs)) (hcs : l ≠ [] → ∀ c ∈ cs, c = true) : PureCall P f [vL row l] (vL row l) := by
  have p0 := E.pure_ok h0 allT0
  refine ⟨p0.1, fun X vs hX hv => ?_⟩
  obtain ⟨y, hvs, hy⟩ : ∃ y, vs = [y] ∧ VR X (vL row l) y := by
    have hl := hv.1
    match vs, hl with
    | [y], _ => exact ⟨y, rfl, hv.2 0 _ _ rfl rfl⟩
  subst hvs
  obtain ⟨A, n, cap, e, hn, hc, hm, hh, _⟩ := hy
  have toShared : ∀ (X' : Ctx) (m : SM) (v : Value), VR X' (.one (.sl row l m)) v → VR X' (vL row l) v := fun X' m v ⟨A, n, cap, h1, h2, h3, h4, h5, _⟩ => ⟨A, n, cap, h1, h2, h3, h4, h5, trivial⟩
  cases A with
  | none =>
    have hz : n = 0 := by
      rcases hh with h | ⟨b, o, h, _⟩
      · exact h
      · cases h
    have hl : l = [] := List.eq_nil_of_length_eq_zero (by omega)
    subst hl
    subst hz
    exact (p0.2 X [y] hX (PW.cons ⟨cap, e⟩ PW.nil)).mono fun e w' ⟨val, X', h1, h2, h3, h4, h5, h6⟩ => ⟨val, X', h1, h2, h3, h4, h5, ⟨none, 0, 0, h6, rfl, Nat.le_refl _, Nat.zero_le _, .inl rfl, trivial⟩⟩
  | some a =>
    have hnn : VR X (.one (.sl row l .nn)) y := ⟨some a, n, cap, e, hn, hc, hm, hh, a, rfl⟩
    by_cases hl : l = []
    · subst hl
      exact ((E.pure_ok h1 allT0).2 X [y] hX (PW.cons hnn PW.nil)).mono fun e w' ⟨val, X', h1, h2, h3, h4, h5, h6⟩ => ⟨val, X', h1, h2, h3, h4, h5, toShared X' _ _ h6⟩
    · exact (E.pure_ok (h2 hl) (hcs hl)).2 X [y] hX (PW.cons hnn PW.nil)

/-- It came to true, and all that was taken for granted is so. -/
def cameT (o : Option (AV × List AB × List Bool)) : Bool :=
  match o with
  | some (.one (.bool b), _, cs) => b && cs.all (fun c => c)
  | _ => false
theorem cameT_spec {o : Option (AV × List AB × List Bool)} (h : cameT o = true) : ∃ hp cs, o = some (vB true, hp, cs) ∧ ∀ c ∈ cs, c = true := by
  unfold cameT at h
  split at h
  · rename_i b hp cs
    simp only [Bool.and_eq_true, List.all_eq_true] at h
    obtain ⟨rfl, h⟩ := h
    exact ⟨hp, cs, rfl, h⟩
  · cases h
theorem Env.closedT (E : Env P) {f : Nat} (h : cameT (E.run f [] [] []) = true) (W : World) : Calls P f #[] W fun e w' => e = .returned (.bool true) ∧ Below W.heap.size W w' := by
  obtain ⟨hp, cs, hr, hcs⟩ := cameT_spec h
  exact E.closed hr hcs rfl W
/-- A closed function that is pure. -/
theorem Env.closedP (E : Env P) {f : Nat} (h : (match E.pureRun f [] [] with | some (.one (.bool b), cs) => b && cs.all (fun c => c) | _ => false) = true) : PureCall P f [] (vB true) := by
  split at h
  · rename_i b cs hr
    simp only [Bool.and_eq_true, List.all_eq_true] at h
    obtain ⟨rfl, h⟩ := h
    exact E.pure_ok hr h
  · cases h

/-! ### What is known of arguments -/
def isFn (P : Program) (f : Nat) : Bool := match P.funcs[f]? with
  | some fn => !(fn.name == "runtime.NumGoroutine") && !fn.body.isNone
  | none => false
theorem PureCall.facts' {f : Nat} {args : List AV} {r : AV} (hf : isFn P f = true) (h : (∃ X vs, HRel X ∧ PW (VR X) args vs) → PureCall P f args r) : PureCall P f args r := by
  refine PureCall.facts ?_ h
  unfold isFn at hf
  split at hf
  · rename_i fn hfn
    simp only [Bool.and_eq_true, Bool.not_eq_true'] at hf
    exact ⟨fn, hfn, hf.1, hf.2⟩
  · cases hf
theorem len_of {X : Ctx} {vs : List Value} {args : List AV} (hv : PW (VR X) args vs) (i : Nat) {row : CT} {l : List row.den} {m : SM} (h : args[i]? = some (.one (.sl row l m))) : l.length ≤ maxLen := by
  have hi := (List.getElem?_eq_some_iff.1 h).1
  have h2 : i < vs.length := by rw [← hv.1]; exact hi
  exact sl_len (hv.2 i _ _ h (List.getElem?_eq_getElem h2))

/-- A list that a pure call comes to, of nothing unknown. -/
def cameL (o : Option (AV × List Bool)) (L : List Int) : Bool :=
  match o with
  | some (.one (.sl (.int .i64) l .shared), cs) => (l == L) && cs.all fun c => c
  | some (.one .nils, cs) => L.isEmpty && cs.all fun c => c
  | _ => false
theorem cameL_ok (E : Env P) {f : Nat} {args : List AV} {os : List Bool} {L : List Int} (h : cameL (E.pureRun f args os) L = true) : PureCall P f args (vL cI L) := by
  unfold cameL at h
  split at h
  · rename_i l cs hr
    simp only [Bool.and_eq_true, List.all_eq_true, beq_iff_eq] at h
    obtain ⟨rfl, h⟩ := h
    exact E.pure_ok hr h
  · rename_i cs hr
    simp only [Bool.and_eq_true, List.all_eq_true, List.isEmpty_iff] at h
    obtain ⟨rfl, h⟩ := h
    exact (E.pure_ok hr h).resw fun X v _ hv => ⟨none, 0, 0, hv, rfl, Nat.le_refl _, Nat.zero_le _, .inl rfl, trivial⟩
  · cases h

theorem getD_take {α : Type} {l : List α} {n k : Nat} {d : α} (h : k < n) : (l.take n).getD k d = l.getD k d := by
  simp only [List.getD_eq_getElem?_getD, List.getElem?_take, if_pos h]
end Go.Eng
