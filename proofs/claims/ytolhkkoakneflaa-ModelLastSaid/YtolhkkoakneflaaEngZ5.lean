import Derived.Test.YtolhkkoakneflaaEngZ4
import Derived.ChangeArms
import Derived.ChangeCalls
import Derived.OpenShut
import Derived.SizedLaws
import Derived.WideKeyArgs
import Derived.HandedShaped
set_option linter.unusedVariables false
namespace Go.Eng
open Go Go.RowKit Go.ChangeShapes Go.WideShapes
variable {P : Program}

/-! ### A law's arguments, as rows -/

def ikBytes : IntKind → Nat
  | .i8 | .u8 => 1
  | .i16 | .u16 => 2
  | .i32 | .u32 => 4
  | .i64 | .u64 => 8
def upTo (o a : Nat) : Nat := (o + (a - 1)) / a * a
/-- Bytes and alignment of one that stands at an offset, behind others. -/
def CT.layF : CT → Nat → Nat → Nat × Nat
  | .int k, o, a => (upTo o (ikBytes k) + ikBytes k, max a (ikBytes k))
  | .bool, o, a => (o + 1, a)
  | .str, o, a => (upTo o 8 + 16, max a 8)
  | .sl _, o, a => (upTo o 8 + 24, max a 8)
  | .unit, o, a => (o, a)
  | .pair c cs, o, a =>
    let (s, al) := match c with
      | .pair _ _ => let r := c.layF 0 1; (upTo r.1 r.2, r.2)
      | _ => c.layF 0 1
    cs.layF (upTo o al + s) (max a al)
def CT.bytes (t : CT) : Nat := match t with
  | .pair _ _ => let r := t.layF 0 1; upTo r.1 r.2
  | _ => (t.layF 0 1).1

def WF : (t : CT) → t.den → Prop
  | .int k, n => k.min ≤ n ∧ n ≤ k.max
  | .bool, _ => True
  | .str, s => s.size ≤ reachBytes
  | .sl row, l => l.length * row.bytes ≤ reachBytes ∧ ∀ x ∈ l, WF row x
  | .unit, _ => True
  | .pair c cs, v => WF c v.1 ∧ WF cs v.2

def fieldsC (g : TypeId → Option CT) (P : Program) : List Field → Nat → Option CT
  | [], _ => some .unit
  | f :: fs, off => if Nat.beq f.offset off then
      match g f.type with
      | some a => if Nat.beq a.width (P.cellsOf f.type) then match fieldsC g P fs (off + a.width) with
          | some r => some (.pair a r)
          | none => none
        else none
      | none => none
    else none
def repC (row : CT) : Nat → CT
  | 0 => .unit
  | n + 1 => .pair row (repC row n)
def rowC (P : Program) : Nat → TypeId → Option CT
  | 0, _ => none
  | d + 1, t => match P.underlying t with
    | some (.int k) => some (.int k)
    | some .bool => some .bool
    | some .string => some .str
    | some (.slice e) => match rowC P d e with
      | some row => if Nat.beq row.width (P.cellsOf e) && Nat.blt 0 row.width && Nat.beq row.bytes (P.bytesOf e) then some (.sl row) else none
      | none => none
    | some (.struct fs) => fieldsC (rowC P d) P fs.toList 0
    | some (.array n e) => match rowC P d e with
      | some row => if Nat.beq row.width (P.cellsOf e) then some (repC row n) else none
      | none => none
    | _ => none

section
variable {H : Type} {enc : TypeId × Value → H} {w : World} {sp : Nat → Bool} {held : Bool}

/-- Cells that are promised at the start. -/
def IC0 (w : World) : Addr → Value → Prop := fun a y => a.spot = none ∧ w.cell? a = some y

theorem weightsAll_mem {e : TypeId} : ∀ {l : List (DataW H)} {d : DataW H}, d ∈ l → ∀ n ∈ d.weights P e, n ∈ DataW.weightsAll P e l
  | [], d, h, _, _ => by cases h
  | x :: r, d, h, n, hn => by
    simp only [DataW.weightsAll, List.mem_append]
    rcases List.mem_cons.1 h with rfl | h
    · exact .inl hn
    · exact .inr (weightsAll_mem h n hn)

def OpenAt (P : Program) (enc : TypeId × Value → H) (w : World) (sp : Nat → Bool) (held : Bool) (g : TypeId → Option CT) (n : Nat) : Prop :=
  ∀ t row, g t = some row → ∀ cs dt ps, DataW.trod enc P w 0 sp held n t cs = some (dt, ps) → (∀ m ∈ dt.weights P t, m ≤ reachBytes) →
    ∃ v : row.den, RelT row v (fun k y => cs[k]? = some y) (IC0 w) ∧ WF row v

theorem fields_open {g : TypeId → Option CT} {n : Nat} (ih : OpenAt P enc w sp held g n) {cs : List Value} : ∀ (fs : List Field) (off : Nat) (row : CT), fieldsC g P fs off = some row → ∀ (xs : List (DataW H × List MemPlace)), xs.length = fs.length →
    (∀ (i : Nat) f, fs[i]? = some f → DataW.trod enc P w 0 sp held n f.type ((cs.drop f.offset).take (P.cellsOf f.type)) = xs[i]?) → (∀ m ∈ DataW.weightsEach P (fs.map (·.type)) (xs.map (·.1)), m ≤ reachBytes) →
    ∃ v : row.den, RelT row v (fun k y => cs[off + k]? = some y) (IC0 w) ∧ WF row v
  | [], off, row, h, xs, _, _, _ => by
    simp only [fieldsC, Option.some.injEq] at h
    subst h
    exact ⟨(), trivial, trivial⟩
  | f :: fs, off, row, h, xs, hl, hx, hw => by
    simp only [fieldsC] at h
    split at h
    · rename_i ho
      simp only [Nat.beq_eq] at ho
      split at h
      · rename_i a ha
        split at h
        · rename_i haw
          simp only [Nat.beq_eq] at haw
          split at h
          · rename_i r hr
            injection h with h; subst h
            cases xs with
            | nil => simp at hl
            | cons x xs =>
              have h0 := hx 0 f rfl
              simp only [List.getElem?_cons_zero] at h0
              simp only [List.map_cons, DataW.weightsEach, List.mem_append] at hw
              obtain ⟨v, hv, hwf⟩ := ih f.type a ha _ x.1 x.2 h0 (fun m hm => hw m (.inl hm))
              obtain ⟨u, hu, hwf'⟩ := fields_open ih fs (off + a.width) r hr xs (by simpa using hl) (fun i f' hf' => by
                have := hx (i + 1) f' (by simpa using hf')
                simpa using this) (fun m hm => hw m (.inr hm))
              refine ⟨(v, u), ⟨RelT.mono a v (fun k y hy => ?_) (fun _ _ h => h) hv, RelT.mono r u (fun k y hy => ?_) (fun _ _ h => h) hu⟩, hwf, hwf'⟩
              · rw [List.getElem?_take] at hy
                split at hy
                · rw [List.getElem?_drop, ho] at hy; exact hy
                · cases hy
              · show cs[off + (a.width + k)]? = some y
                rw [← Nat.add_assoc]; exact hy
          · cases h
        · cases h
      · cases h
    · cases h

theorem rep_open {g : TypeId → Option CT} {n : Nat} (ih : OpenAt P enc w sp held g n) {e : TypeId} {row : CT} (hg : g e = some row) (hwid : row.width = P.cellsOf e) {cs : List Value} : ∀ (k i : Nat) (xs : List (DataW H × List MemPlace)), xs.length = k →
    (∀ (j : Nat), j < k → DataW.trod enc P w 0 sp held n e ((cs.drop ((i + j) * P.cellsOf e)).take (P.cellsOf e)) = xs[j]?) → (∀ m ∈ DataW.weightsAll P e (xs.map (·.1)), m ≤ reachBytes) →
    ∃ v : (repC row k).den, RelT (repC row k) v (fun q y => cs[i * row.width + q]? = some y) (IC0 w) ∧ WF (repC row k) v
  | 0, i, xs, _, _, _ => ⟨(), trivial, trivial⟩
  | k + 1, i, xs, hl, hx, hw => by
    cases xs with
    | nil => simp at hl
    | cons x xs =>
      have h0 := hx 0 (by omega)
      simp only [List.getElem?_cons_zero, Nat.add_zero] at h0
      simp only [List.map_cons, DataW.weightsAll, List.mem_append] at hw
      obtain ⟨v, hv, hwf⟩ := ih e row hg _ x.1 x.2 h0 (fun m hm => hw m (.inl hm))
      obtain ⟨u, hu, hwf'⟩ := rep_open ih hg hwid k (i + 1) xs (by simpa using hl) (fun j hj => by
        have := hx (j + 1) (by omega)
        rw [show i + (j + 1) = i + 1 + j by omega] at this
        simpa using this) (fun m hm => hw m (.inr hm))
      refine ⟨(v, u), ⟨RelT.mono row v (fun q y hy => ?_) (fun _ _ h => h) hv, RelT.mono (repC row k) u (fun q y hy => ?_) (fun _ _ h => h) hu⟩, hwf, hwf'⟩
      · rw [List.getElem?_take] at hy
        split at hy
        · rw [List.getElem?_drop, ← hwid] at hy; exact hy
        · cases hy
      · show cs[i * row.width + (row.width + q)]? = some y
        rw [show i * row.width + (row.width + q) = (i + 1) * row.width + q by rw [Nat.add_mul]; omega]; exact hy

theorem trod_open : ∀ (d n : Nat), OpenAt P enc w (fun _ => true) held (rowC P d) n
  | 0, n => fun t row h => by cases h
  | d + 1, n => fun t row h cs dt ps ht hw => by
    simp only [rowC] at h
    split at h
    · rename_i k hu
      injection h with h; subst h
      obtain ⟨z, rfl, hx, hwf⟩ := DataW.trod_int hu ht
      simp only [Lit.wf, Bool.and_eq_true, decide_eq_true_eq] at hwf
      exact ⟨z, rfl, hwf⟩
    · rename_i hu
      injection h with h; subst h
      obtain ⟨b, rfl, hx⟩ := DataW.trod_bool hu ht
      exact ⟨b, rfl, trivial⟩
    · rename_i hu
      injection h with h; subst h
      obtain ⟨s, rfl, hx, hs⟩ := DataW.trod_string hu ht
      refine ⟨s, rfl, ?_⟩
      simp only [Prod.mk.injEq] at hx
      have := hw s.data.toList.length (by rw [hx.1]; simp [DataW.weights])
      simpa [WF] using this
    · rename_i e hu
      split at h
      · rename_i r hr
        split at h
        · rename_i hc
          simp only [Bool.and_eq_true, Nat.beq_eq, Nat.blt_eq] at hc
          obtain ⟨⟨h1, h2⟩, h3⟩ := hc
          injection h with h; subst h
          rcases DataW.trod_slice hu ht with ⟨rfl, hx⟩ | ⟨a, len, cap, elems, rest, m, _, rfl, hx, _, hle, hmx, hlen, hel, _, _⟩
          · exact ⟨([] : List r.den), ⟨none, 0, 0, rfl, rfl, Nat.le_refl _, Nat.zero_le _, .inl rfl⟩, by simp [reachBytes], fun x hx => by cases hx⟩
          · simp only [Prod.mk.injEq] at hx
            obtain ⟨rfl, rfl⟩ := hx
            have hw' := hw
            simp only [DataW.weights, hu, List.mem_cons, List.mem_append, List.length_map] at hw'
            have each : ∀ i, i < len → ∃ v : r.den, RelT r v (fun k y => IC0 w ⟨a.block, a.off + i * r.width + k, none⟩ y) (IC0 w) ∧ WF r v := by
              intro i hi
              have he := hel i hi
              have hi' : i < elems.length := by omega
              rw [List.getElem?_eq_getElem hi'] at he
              cases hcs : w.cells? 0 (a.add (i * P.cellsOf e)) (P.cellsOf e) with
              | none => rw [hcs] at he; cases he
              | some cs' =>
                rw [hcs] at he
                simp only [Option.bind_some] at he
                obtain ⟨v, hv, hwf⟩ := trod_open d m e r hr cs' elems[i].1 elems[i].2 he (fun k hk => hw' k (.inr (.inl (weightsAll_mem (List.mem_map_of_mem (List.getElem_mem hi')) k hk))))
                obtain ⟨_, hl, hc⟩ := World.cells?_some hcs
                refine ⟨v, RelT.mono_lt r v (fun k y hk hy => ⟨rfl, ?_⟩) (fun _ _ h => h) hv, hwf⟩
                have h4 := hc k (by omega)
                rw [hy] at h4
                have : ((a.add (i * P.cellsOf e)).add k) = ⟨a.block, a.off + i * r.width + k, none⟩ ∨ True := .inr trivial
                have hsp : ((a.add (i * P.cellsOf e)).add k).spot = none := by
                  unfold World.cell? at h4
                  split at h4
                  · split at h4
                    · cases h4
                    · rename_i hs; simpa using hs
                  · cases h4
                have heq : ((a.add (i * P.cellsOf e)).add k) = ⟨a.block, a.off + i * r.width + k, none⟩ := by
                  have hb : ∀ (a : Addr) n, (a.add n).block = a.block ∧ (a.add n).off = a.off + n := fun a n => by
                    unfold Addr.add; split
                    · rename_i h0; subst h0; exact ⟨rfl, rfl⟩
                    · exact ⟨rfl, rfl⟩
                  have e1 := (hb (a.add (i * P.cellsOf e)) k)
                  have e2 := (hb a (i * P.cellsOf e))
                  cases hq : (a.add (i * P.cellsOf e)).add k with
                  | mk b o s =>
                    rw [hq] at e1 hsp
                    simp only at e1 hsp
                    rw [e1.1, e1.2, e2.1, e2.2, hsp, h1]
                rw [← heq]; exact h4
            have : ∃ g : Nat → r.den, ∀ i, i < len → RelT r (g i) (fun k y => IC0 w ⟨a.block, a.off + i * r.width + k, none⟩ y) (IC0 w) ∧ WF r (g i) :=
              ⟨fun i => if h : i < len then Classical.choose (each i h) else r.dflt, fun i hi => by simp only [dif_pos hi]; exact Classical.choose_spec (each i hi)⟩
            obtain ⟨g, hg⟩ := this
            refine ⟨(List.range len).map g, ⟨some a, len, cap, rfl, by simp, hle, hmx, ?_⟩, ?_, ?_⟩
            · by_cases hz : len = 0
              · exact .inl hz
              · right
                have h0 := hg 0 (by omega)
                have hsp : a.spot = none := by
                  have he := hel 0 (by omega)
                  rw [List.getElem?_eq_getElem (by omega)] at he
                  cases hcs : w.cells? 0 (a.add (0 * P.cellsOf e)) (P.cellsOf e) with
                  | none => rw [hcs] at he; cases he
                  | some cs' =>
                    obtain ⟨_, hl, hc⟩ := World.cells?_some hcs
                    have h4 := hc 0 (by omega)
                    simp only [Nat.zero_mul, Addr.add, if_true] at h4
                    rw [List.getElem?_eq_getElem (by omega)] at h4
                    unfold World.cell? at h4
                    split at h4
                    · split at h4
                      · cases h4
                      · rename_i hs; simpa using hs
                    · cases h4
                refine ⟨a.block, a.off, by cases a; simp only at hsp; subst hsp; rfl, fun j x hj => ?_⟩
                rw [List.getElem?_map] at hj
                by_cases hjl : j < len
                · rw [List.getElem?_range hjl] at hj
                  simp only [Option.map_some, Option.some.injEq] at hj
                  subst hj
                  exact (hg j hjl).1
                · rw [List.getElem?_eq_none (by simpa using hjl)] at hj; cases hj
            · have h0 := hw' _ (.inl rfl)
              rw [hlen] at h0
              simp only [List.length_map, List.length_range, h3]
              exact Nat.le_trans (Nat.mul_le_mul_right _ (by omega)) h0
            · intro x hx
              obtain ⟨i, hi, rfl⟩ := List.mem_map.1 hx
              exact (hg i (by simpa using hi)).2
        · cases h
      · cases h
    · rename_i fs hu
      obtain ⟨xs, m, _, hx, hl, hxl, hxs⟩ := DataW.trod_struct hu ht
      simp only [Prod.mk.injEq] at hx
      obtain ⟨rfl, rfl⟩ := hx
      have := fields_open (trod_open d m) (cs := cs) fs.toList 0 row h xs (by simpa using hxl) (fun i f hf => hxs i f (by simpa using hf)) (fun k hk => hw k (by simp only [DataW.weights, hu]; exact hk))
      obtain ⟨v, hv, hwf⟩ := this
      exact ⟨v, RelT.mono row v (fun k y hy => by rw [Nat.zero_add] at hy; exact hy) (fun _ _ h => h) hv, hwf⟩
    · rename_i k e hu
      split at h
      · rename_i r hr
        split at h
        · rename_i hc
          simp only [Nat.beq_eq] at hc
          injection h with h; subst h
          obtain ⟨xs, m, _, hx, hl, hxl, hxs⟩ := DataW.trod_array hu ht
          simp only [Prod.mk.injEq] at hx
          obtain ⟨rfl, rfl⟩ := hx
          have := rep_open (trod_open d m) hr hc (cs := cs) k 0 xs hxl (fun j hj => by rw [Nat.zero_add]; exact hxs j hj) (fun q hq => hw q (by simp only [DataW.weights, hu]; exact hq))
          obtain ⟨v, hv, hwf⟩ := this
          exact ⟨v, RelT.mono _ v (fun k y hy => by rw [Nat.zero_mul, Nat.zero_add] at hy; exact hy) (fun _ _ h => h) hv, hwf⟩
        · cases h
      · cases h
    · cases h
end

/-- Parameters as typed. -/
def ptC (P : Program) (t : TypeId) : Option PT :=
  match P.underlying t with
  | some (.struct _) => (rowC P 12 t).bind fun r => if Nat.beq r.width (P.cellsOf t) then some (.agg r) else none
  | some (.array _ _) => (rowC P 12 t).bind fun r => if Nat.beq r.width (P.cellsOf t) then some (.agg r) else none
  | some (.int k) => some (.one (.int k))
  | some .bool => some (.one .bool)
  | some .string => some (.one .str)
  | some (.slice _) => (rowC P 12 t).map .one
  | _ => none
def ptsC (P : Program) : List TypeId → Option (List PT)
  | [] => some []
  | t :: ts => match ptC P t, ptsC P ts with
    | some p, some l => some (p :: l)
    | _, _ => none
def WFp : (p : PT) → p.den → Prop
  | .one t, v => WF t v
  | .agg t, v => WF t v
def WFs : (l : List PT) → dens l → Prop
  | [], _ => True
  | p :: l, d => WFp p d.1 ∧ WFs l d.2

theorem IC_top {W : World} {a : Addr} {y : Value} (h : IC0 W a y) : (topC W).IC a y := freshAll_IC h.1 h.2

section
variable {H : Type} {enc : TypeId × Value → H}
theorem relT_vr {W : World} {t : CT} {v : t.den} {x : Value} (h1 : t.width = 1) (h : RelT t v (fun k y => [x][k]? = some y) (IC0 W)) (hu : t ≠ .unit ∧ ∀ c cs, t ≠ .pair c cs) : VRc (topC W) (oneAC t v) x := by
  have h' := RelT.mono t v (fun k y hy => hy) (fun a y => IC_top) h
  cases t with
  | int k => have : x = .int k v := by simpa [RelT] using h'
             exact this
  | bool => have : x = .bool v := by simpa [RelT] using h'
            exact this
  | str => have : x = .string v := by simpa [RelT] using h'
           exact this
  | sl row =>
    obtain ⟨A, n, cap, e, hn, hc, hm, hh⟩ := h'
    have : x = .slice A n cap := by simpa using e
    exact ⟨A, n, cap, this, hn, hc, hm, hh, trivial⟩
  | unit => exact absurd rfl hu.1
  | pair c cs => exact absurd rfl (hu.2 c cs)

theorem arg_open {W : World} {t : TypeId} {p : PT} (hp : ptC P t = some p) {v : Value} {d : DataW H} {ps : List MemPlace} {b : Nat} (hval : Value.okWide P W .any b t v) (h : DataW.Trod enc P W 0 (fun _ => true) true t v d ps)
    (hw : ∀ m ∈ d.weights P t, m ≤ reachBytes) : ∃ x : p.den, VR (topC W) (p.enc x) v ∧ WFp p x := by
  obtain ⟨fuel, hf⟩ := h
  have agg : ∀ r, rowC P 12 t = some r → r.width = P.cellsOf t → (∃ cs, v = .agg cs ∧ cs.size = P.cellsOf t) → ∃ x : r.den, VR (topC W) (.agg (r.cells x)) v ∧ WF r x := by
    intro r hr hrw ⟨cs, e, hs⟩
    subst e
    obtain ⟨x, hx, hwf⟩ := trod_open 12 fuel t r hr _ _ _ hf hw
    refine ⟨x, ⟨cs, rfl, cells_pw r x cs.toList (by rw [hrw, ← hs]; simp) ?_⟩, hwf⟩
    exact RelT.mono r x (fun k y hy => by simpa [Value.cells] using hy) (fun a y => IC_top) hx
  unfold ptC at hp
  split at hp
  · rename_i fs hu
    cases hr : rowC P 12 t with
    | none => rw [hr] at hp; cases hp
    | some r =>
      rw [hr] at hp
      simp only [Option.bind_some] at hp
      split at hp
      · rename_i hc
        injection hp with hp; subst hp
        exact agg r hr (by simpa using hc) (okWide_struct hu hval)
      · cases hp
  · rename_i k e hu
    cases hr : rowC P 12 t with
    | none => rw [hr] at hp; cases hp
    | some r =>
      rw [hr] at hp
      simp only [Option.bind_some] at hp
      split at hp
      · rename_i hc
        injection hp with hp; subst hp
        refine agg r hr (by simpa using hc) ?_
        unfold Value.okWide at hval
        rw [hu] at hval
        obtain ⟨cs, h1, h2, _⟩ := hval
        exact ⟨cs, h1, h2⟩
      · cases hp
  · rename_i k hu
    injection hp with hp; subst hp
    obtain ⟨n, rfl⟩ := okWide_int hu hval
    obtain ⟨z, hz, _, hwf⟩ := DataW.trod_int hu hf
    simp only [Value.cells] at hz
    have : z = n := by simpa using hz.symm
    subst this
    simp only [Lit.wf, Bool.and_eq_true, decide_eq_true_eq] at hwf
    exact ⟨z, rfl, hwf⟩
  · rename_i hu
    injection hp with hp; subst hp
    obtain ⟨n, rfl⟩ := okWide_bool hu hval
    exact ⟨n, rfl, trivial⟩
  · rename_i hu
    injection hp with hp; subst hp
    obtain ⟨n, rfl⟩ := okWide_string hu hval
    obtain ⟨s, hz, hx, hs⟩ := DataW.trod_string hu hf
    simp only [Value.cells] at hz
    have : s = n := by simpa using hz.symm
    subst this
    simp only [Prod.mk.injEq] at hx
    have := hw s.data.toList.length (by rw [hx.1]; simp [DataW.weights])
    exact ⟨s, rfl, by simpa [WFp, WF] using this⟩
  · rename_i e hu
    cases hr : rowC P 12 t with
    | none => rw [hr] at hp; cases hp
    | some r =>
      rw [hr] at hp
      simp only [Option.map_some, Option.some.injEq] at hp
      subst hp
      obtain ⟨a, len, cap, rfl⟩ := okWide_slice hu hval
      obtain ⟨x, hx, hwf⟩ := trod_open 12 fuel t r hr _ _ _ hf hw
      have hr' : ∃ row, r = .sl row := by
        simp only [rowC, hu] at hr
        split at hr
        · split at hr
          · injection hr with hr; exact ⟨_, hr.symm⟩
          · cases hr
        · cases hr
      obtain ⟨row, rfl⟩ := hr'
      exact ⟨x, (relT_vr (t := .sl row) (v := x) rfl (by simpa [Value.cells] using hx) ⟨by simp, by simp⟩ : VRc (topC W) (oneAC (.sl row) x) (.slice a len cap)), hwf⟩
  · cases hp

theorem args_open {W : World} {b : Nat} : ∀ {ts : List TypeId} {l : List PT}, ptsC P ts = some l → ∀ {vs : List Value} {ds : List (DataW H)} {ps : List MemPlace},
    (∀ (j : Nat) t v, ts[j]? = some t → vs[j]? = some v → Value.okWide P W .any b t v) → DataW.TrodAll enc P W 0 (fun _ => true) true ts vs ds ps → (∀ m ∈ DataW.weightsEach P ts ds, m ≤ reachBytes) →
    ∃ x : dens l, PW (VR (topC W)) (encs l x) vs ∧ WFs l x
  | [], l, h, vs, ds, ps, hval, ht, hw => by
    simp only [ptsC, Option.some.injEq] at h
    subst h
    obtain ⟨rfl, _, _⟩ := trodAll_nil ht
    exact ⟨(), PW.nil, trivial⟩
  | t :: ts, l, h, vs, ds, ps, hval, ht, hw => by
    simp only [ptsC] at h
    split at h
    · rename_i p l' hp hl
      injection h with h; subst h
      cases vs with
      | nil => cases ds <;> exact ht.elim
      | cons v vs => cases ds with
        | nil => exact ht.elim
        | cons d ds =>
          obtain ⟨q1, q2, h1, h2, e⟩ := ht
          simp only [DataW.weightsEach, List.mem_append] at hw
          obtain ⟨x, hx, hwf⟩ := arg_open hp (hval 0 t v rfl rfl) h1 (fun m hm => hw m (.inl hm))
          obtain ⟨y, hy, hwf'⟩ := args_open hl (fun j t v hj hv => hval (j + 1) t v (by simpa using hj) (by simpa using hv)) h2 (fun m hm => hw m (.inr hm))
          exact ⟨(x, y), PW.cons hx hy, hwf, hwf'⟩
    · cases h

theorem args_stay {W W' : World} (hl : laidOutB P = true) (hb : Below W.heap.size W W') {sp : Nat → Bool} : ∀ {ts : List TypeId} {vs : List Value} {ds : List (DataW H)} {ps : List MemPlace}, (ts.all fun t => P.readableRec t && decide (t < P.types.size)) = true →
    DataW.TrodAll enc P W 0 (fun _ => true) true ts vs ds ps → (∀ x ∈ ps, x.block < W.heap.size) → (∀ x ∈ ps, sp x.block = true) → DataW.TrodAll enc P W' 0 sp true ts vs ds ps
  | [], vs, ds, ps, _, h, _, _ => by
    obtain ⟨rfl, rfl, rfl⟩ := trodAll_nil h
    exact rfl
  | t :: ts, [], ds, ps, _, h, _, _ => by cases ds <;> exact h.elim
  | t :: ts, v :: vs, [], ps, _, h, _, _ => h.elim
  | t :: ts, v :: vs, d :: ds, ps, hr, ⟨p, q, h1, h2, e⟩, hlt, hs => by
    simp only [List.all_cons, Bool.and_eq_true, decide_eq_true_eq] at hr
    subst e
    exact ⟨p, q, WideElems.Trod_stays hl hr.1.1 hr.1.2 h1 (fun x hx => hb.same (hlt x (List.mem_append_left _ hx))) (fun x hx => hs x (List.mem_append_left _ hx)),
      args_stay hl hb (by simpa using hr.2) h2 (fun x hx => hlt x (List.mem_append_right _ hx)) (fun x hx => hs x (List.mem_append_right _ hx)), rfl⟩

/-- A law's call, from what it comes to at typed arguments. -/
theorem law_calls {f : Nat} {fn : Func} {s : ChangeSpec} {apart fresh handsOn again : Bool} (hvars : s.vars = []) {tb : TypeId} (hrt : fn.resultTypes = #[tb]) (hbt : P.underlying tb = some .bool)
    (hspec : ∀ ds : List (DataW H), ds.length = fn.params.toList.length → s.fn H ds = { results := [.lit (.bool true)], args := ds }) (hl : laidOutB P = true) (hread : (fn.params.toList.all fun t => P.readableRec t && decide (t < P.types.size)) = true)
    {sig : List PT} (hsig : ptsC P fn.params.toList = some sig) (law : ∀ d : dens sig, WFs sig d → ∀ (w : World), PureCall P f (encs sig d) (.one (.bool true)))
    (W : World) (base : Nat) (args : Array Value) (ds gs : List (DataW H)) (before : List MemPlace)
    (hval : ∀ (j : Nat) t v, fn.params[j]? = some t → args[j]? = some v → Value.okWide P W .any base t v) (hW : DataW.Whole enc P fn.params.toList s.vars apart W args.toList ds gs before)
    (hz : (DataW.weightsEach P (fn.params.toList ++ s.plain.varTypes P) (ds ++ gs)).all (· ≤ reachBytes) = true) :
    Calls P f args W fun e W' => ∃ v, e = .returned v ∧ s.post enc P fn apart fresh handsOn again W args v W' := by
  have hW' := hW
  obtain ⟨p, q, hA, hV, hpq, hfz, hnd⟩ := hW
  rw [hvars] at hV
  obtain ⟨hgs, hq⟩ : gs = [] ∧ q = [] := by
    cases gs with
    | nil => exact ⟨rfl, hV⟩
    | cons g gs => exact hV.elim
  subst hgs; subst hq
  simp only [List.append_nil] at hpq
  subst hpq
  have hlen := trodAll_length hA
  have hvt : s.plain.varTypes P = [] := by
    simp [DataSpec.varTypes, ChangeSpec.plain, hvars]
  rw [hvt] at hz
  simp only [List.append_nil, List.all_eq_true, decide_eq_true_eq] at hz
  obtain ⟨x, hx, hwf⟩ := args_open hsig (fun j t v hj hv => hval j t v (by simpa using hj) (by simpa using hv)) hA (fun m hm => hz m hm)
  have hcall := (law x hwf W).2 (topC W) args.toList (HRel.topC W) hx
  have e0 : args.toList.toArray = args := by simp
  rw [e0] at hcall
  refine hcall.mono fun e W' hh => ?_
  obtain ⟨val, Y, rfl, rfl, hle, hY, _, hv⟩ := hh
  have hv' : val = .bool true := hv
  subst hv'
  have hbel := below_top hle hY
  have hlt : ∀ x ∈ before, x.block < W.heap.size := fun x hx => hW'.lt x hx
  have hsp := hspec ds (by rw [← hlen.2])
  refine ⟨_, rfl, post_of_below (pa := before) (pv := []) hW' (fun b sp hd => ?_) (fun sp hs => ?_) (fun sp hs => ?_) (by simp) hbel (ok_one hrt rfl (okWide_bool_mk hbt true))⟩
  · simp only [List.append_nil, hsp, hrt]
    exact trodAll_cons_mk (shut_bool hbt true) trodAll_mk0
  · simp only [List.append_nil, hsp]
    exact args_stay hl hbel hread hA hlt hs
  · simp only [List.append_nil, hsp, hvars]
    exact rfl
end

/-- Plain arguments of a law: an input that there is. -/
def zeroArgs (P : Program) (ts : List TypeId) : Array Value := (ts.map fun t => ((P.info? t).bind (·.zero)).getD undef).toArray
end Go.Eng
