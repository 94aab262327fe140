/- What an operation by small numbers answers and leaves: plain; no statement. -/
import Derived.Test.YtolhkkoakneflaaMj
import Derived.Test.YtolhkkoakneflaaSg2
set_option linter.unusedVariables false
set_option linter.unusedSimpArgs false
namespace Go.Proofs.Ytolhkkoakneflaa
open Go Go.Eng

abbrev e0B : ByteArray := ByteArray.mk #[]
section
variable (ρ γ : Nat) (n w : Int) (g : Bool) (v x y : ByteArray) (b0 b1 h : Bool)
end
open Go Go.Eng

/-- What is known of a model: the rows' counts, the cells that are there. -/
structure MInv (M : MapT) (C W : Nat → Int) (V : Nat → ByteArray) (n : Int) : Prop where
  cnt : ∀ r, r < 4 → alook (vt := rCell) (rowN r, e0B, ()) M = if C r = 0 then none else some (rowN r, e0B, C r, false, e0B, ())
  cell : ∀ r, r < 4 → ∀ c, c < 3 → ∃ (b : Bool) (w : Int) (g : Bool) (v : ByteArray), alook (vt := rCell) (rowN r, colN c, ()) M = (if b = true then some (rowN r, colN c, w, g, v, ()) else none) ∧ (b && !g) = decide (0 < W (3 * r + c)) ∧ ((b && !g) = true → w = W (3 * r + c) ∧ v = V (3 * r + c))
  pos : ∀ r, r < 4 → 0 ≤ C r ∧ C r ≤ n
  vpos : ∀ j, j < 12 → 0 ≤ W j ∧ W j ≤ n
theorem MInv.more {M : MapT} {C W : Nat → Int} {V : Nat → ByteArray} {n : Int} (I : MInv M C W V n) : MInv M C W V (n + 1) :=
  ⟨I.cnt, I.cell, fun r hr => by have := I.pos r hr; omega, fun j hj => by have := I.vpos j hj; omega⟩

section
variable {M : MapT} {C W : Nat → Int} {V : Nat → ByteArray} {n : Int} {r c : Nat}
end
open Go Go.Eng

/-- Cells of which no two are of one place. -/
def Pl (l : List rCell.den) : Prop := l.Pairwise fun x y => ¬ (x.1 = y.1 ∧ x.2.1 = y.2.1)
theorem Pl.perm {l m : List rCell.den} (h : Pl l) (hp : m.Perm l) : Pl m := (hp.pairwise_iff (fun {x y} hxy e => hxy ⟨e.1.symm, e.2.symm⟩)).2 h
theorem Pl.nodup {l : List rCell.den} (h : Pl l) : l.Nodup := h.imp fun hne e => hne (by rw [e]; exact ⟨rfl, rfl⟩)
theorem Pl.places {l : List rCell.den} : Pl l → PlacesIn l := by
  induction l with
  | nil => intro _ x hx; cases hx
  | cons a l ih =>
    intro h x hx y hy e1 e2
    have h := List.pairwise_cons.1 h
    rcases List.mem_cons.1 hx with ex | kx
    · rcases List.mem_cons.1 hy with ey | ky
      · rw [ex, ey]
      · rw [ex] at e1 e2
        exact absurd ⟨e1, e2⟩ (h.1 y ky)
    · rcases List.mem_cons.1 hy with ey | ky
      · rw [ey] at e1 e2
        exact absurd ⟨e1.symm, e2.symm⟩ (h.1 x kx)
      · exact ih h.2 x kx y ky e1 e2

/-- The newest of a place: there is one at most. -/
theorem nst_at {l : List rCell.den} (h : Pl l) (r c : ByteArray) : ∀ k, k ≤ l.length → (∀ x, (nst l r c k) = (x, true) → x ∈ l.take k ∧ x.1 = r ∧ x.2.1 = c) ∧ ((nst l r c k).2 = false → nst l r c k = (rCell.dflt, false) ∧ ∀ x ∈ l.take k, ¬ (x.1 = r ∧ x.2.1 = c))
  | 0, _ => ⟨fun x hx => by simp [nst] at hx, fun _ => ⟨rfl, fun x hx => by simp at hx⟩⟩
  | k + 1, hk => by
    obtain ⟨ih1, ih2⟩ := nst_at h r c k (by omega)
    have hlt : k < l.length := by omega
    have hget : l.getD k rCell.dflt = l[k] := by rw [List.getD_eq_getElem?_getD, List.getElem?_eq_getElem hlt]; rfl
    have htk : l.take (k + 1) = l.take k ++ [l[k]] := by rw [List.take_add_one, List.getElem?_eq_getElem hlt]; rfl
    have hbr : ∀ x : rCell.den, (x.1 == r && (x.2.1 == c && true)) = true ↔ x.1 = r ∧ x.2.1 = c := fun x => by
      rw [Bool.and_true, Bool.and_eq_true]
      exact ⟨fun ⟨a, b⟩ => ⟨(Go.MapKept.bytes_beq _ _).1 a, (Go.MapKept.bytes_beq _ _).1 b⟩, fun ⟨a, b⟩ => ⟨(Go.MapKept.bytes_beq _ _).2 a, (Go.MapKept.bytes_beq _ _).2 b⟩⟩
    rw [nst_succ, hget, htk]
    by_cases hm : l[k].1 = r ∧ l[k].2.1 = c
    · have hm' := (hbr l[k]).2 hm
      rw [hm', Bool.true_and]
      cases hs : (nst l r c k).2 with
      | true =>
        exfalso
        obtain ⟨a, b⟩ : ∃ a, nst l r c k = (a, true) := ⟨(nst l r c k).1, by rw [← hs]⟩
        obtain ⟨m1, m2, m3⟩ := ih1 a b
        obtain ⟨i, hi, e⟩ := List.getElem_of_mem m1
        have hik : i < k := by rw [List.length_take] at hi; omega
        rw [List.getElem_take] at e
        have := (List.pairwise_iff_getElem.1 h) i k (by omega) hlt hik
        rw [e] at this
        exact this ⟨m2.trans hm.1.symm, m3.trans hm.2.symm⟩
      | false =>
        refine ⟨fun x hx => ?_, fun hx => ?_⟩
        · simp only [Bool.not_false, Bool.true_or, cond_true, Prod.mk.injEq] at hx
          rw [← hx.1]
          exact ⟨List.mem_append_right _ (List.mem_singleton.2 rfl), hm⟩
        · simp at hx
    · have hm' : (l[k].1 == r && (l[k].2.1 == c && true)) = false := Bool.eq_false_iff.2 fun e => hm ((hbr l[k]).1 e)
      rw [hm', Bool.false_and, cond_false]
      refine ⟨fun x hx => ?_, fun hx => ?_⟩
      · obtain ⟨m1, m2⟩ := ih1 x hx
        exact ⟨List.mem_append_left _ m1, m2⟩
      · obtain ⟨m1, m2⟩ := ih2 hx
        refine ⟨m1, fun x hx => ?_⟩
        rcases List.mem_append.1 hx with hx | hx
        · exact m2 x hx
        · rw [List.mem_singleton.1 hx]; exact hm
theorem nsw_some {l : List rCell.den} (h : Pl l) {r c : ByteArray} {x : rCell.den} (hx : x ∈ l) (h1 : x.1 = r) (h2 : x.2.1 = c) : nsw l r c = (x, true) := by
  obtain ⟨g1, g2⟩ := nst_at h r c l.length (Nat.le_refl _)
  rw [List.take_length] at g1 g2
  unfold nsw
  cases hs : (nst l r c l.length).2 with
  | true =>
    have e : nst l r c l.length = ((nst l r c l.length).1, true) := by rw [← hs]
    obtain ⟨m1, m2, m3⟩ := g1 _ e
    rw [e, h.places _ m1 x hx (m2.trans h1.symm) (m3.trans h2.symm)]
  | false => exact absurd ⟨h1, h2⟩ ((g2 hs).2 x hx)
theorem nsw_none {l : List rCell.den} (h : Pl l) {r c : ByteArray} (hn : ∀ x ∈ l, ¬ (x.1 = r ∧ x.2.1 = c)) : nsw l r c = (rCell.dflt, false) := by
  obtain ⟨g1, g2⟩ := nst_at h r c l.length (Nat.le_refl _)
  rw [List.take_length] at g1 g2
  unfold nsw
  cases hs : (nst l r c l.length).2 with
  | true =>
    have e : nst l r c l.length = ((nst l r c l.length).1, true) := by rw [← hs]
    obtain ⟨m1, m2⟩ := g1 _ e
    exact absurd m2 (hn _ m1)
  | false => exact (g2 hs).1
/-- Lists that have the same cells of a place have the same newest. -/
theorem nsw_same {l m : List rCell.den} (hl : Pl l) (hm : Pl m) {r c : ByteArray} (h : ∀ x, (x.1 = r ∧ x.2.1 = c) → (x ∈ l ↔ x ∈ m)) : nsw l r c = nsw m r c := by
  by_cases hx : ∃ x ∈ l, x.1 = r ∧ x.2.1 = c
  · obtain ⟨x, h1, h2⟩ := hx
    rw [nsw_some hl h1 h2.1 h2.2, nsw_some hm ((h x h2).1 h1) h2.1 h2.2]
  · have n1 : ∀ x ∈ l, ¬ (x.1 = r ∧ x.2.1 = c) := fun x h1 h2 => hx ⟨x, h1, h2⟩
    rw [nsw_none hl n1, nsw_none hm (fun x h1 h2 => n1 x ((h x h2).2 h1) h2)]
theorem effV_same {o : rOp.den} {l m : List rCell.den} (h1 : nsw l o.2.1 o.2.2.1 = nsw m o.2.1 o.2.2.1) (h2 : nsw l o.2.1 (ByteArray.mk #[]) = nsw m o.2.1 (ByteArray.mk #[])) : effV o l = effV o m := by
  unfold effV hereV
  rw [h1, h2]

/-- A map whose keys are its cells' places. -/
structure MapInv (M : MapT) : Prop where
  nd : (M.map (·.1)).Nodup
  key : ∀ q ∈ M, q.1 = kOf q.2
theorem MapInv.pl {M : MapT} (h : MapInv M) : Pl (valsM M) := by
  obtain ⟨nd, key⟩ := h
  unfold Pl
  show (M.map (·.2)).Pairwise _
  induction M with
  | nil => exact List.Pairwise.nil
  | cons q M ih =>
    rw [List.map_cons, List.nodup_cons] at nd
    rw [List.map_cons]
    refine List.pairwise_cons.2 ⟨fun y hy e => ?_, ih nd.2 fun q hq => key q (List.mem_cons_of_mem _ hq)⟩
    obtain ⟨p, hp, rfl⟩ := List.mem_map.1 hy
    apply nd.1
    refine List.mem_map.2 ⟨p, hp, ?_⟩
    rw [key p (List.mem_cons_of_mem _ hp), key q (List.mem_cons_self ..)]
    unfold kOf
    rw [e.1, e.2]
theorem alk_mem {k : rP.den} {x : rCell.den} : ∀ {M : MapT}, alook (vt := rCell) k M = some x → (k, x) ∈ M
  | [], h => by cases h
  | q :: M, h => by
    unfold alook at h
    split at h
    · rename_i e
      injection h with h
      have := (same_iff rP rfl k q.1).1 e
      subst h
      rw [this]
      exact List.mem_cons_self ..
    · exact List.mem_cons_of_mem _ (alk_mem h)
theorem mem_alk {k : rP.den} {x : rCell.den} : ∀ {M : MapT}, (M.map (·.1)).Nodup → (k, x) ∈ M → alook (vt := rCell) k M = some x
  | [], _, h => by cases h
  | q :: M, hn, h => by
    rw [List.map_cons, List.nodup_cons] at hn
    unfold alook
    rcases List.mem_cons.1 h with h | h
    · subst h
      rw [if_pos (same_refl rP k)]
    · rw [if_neg (fun e => hn.1 ?_)]
      · exact mem_alk hn.2 h
      · have := (same_iff rP rfl k q.1).1 e
        rw [← this]
        exact List.mem_map.2 ⟨(k, x), h, rfl⟩
/-- What is looked up is among the cells. -/
theorem MapInv.look {M : MapT} (h : MapInv M) {r c : ByteArray} {x : rCell.den} : alook (vt := rCell) (r, c, ()) M = some x ↔ x ∈ valsM M ∧ x.1 = r ∧ x.2.1 = c := by
  constructor
  · intro e
    have hm := alk_mem e
    have hk : (r, c, ()) = kOf x := h.key _ hm
    unfold kOf at hk
    simp only [Prod.mk.injEq, and_true] at hk
    exact ⟨List.mem_map.2 ⟨_, hm, rfl⟩, hk.1.symm, hk.2.symm⟩
  · rintro ⟨hx, rfl, rfl⟩
    obtain ⟨q, hq, rfl⟩ := List.mem_map.1 hx
    refine mem_alk h.nd ?_
    have hk : q.1 = kOf q.2 := h.key q hq
    unfold kOf at hk
    rw [← hk]
    exact hq
theorem rowV_mem {o : rOp.den} {M : MapT} {x : rCell.den} : x ∈ rowV o M ↔ alook (vt := rCell) (kR o) M = some x ∨ alook (vt := rCell) (kC o) M = some x := by
  unfold rowV xR xC
  cases h1 : alook (vt := rCell) (kR o) M <;> cases h2 : alook (vt := rCell) (kC o) M <;> simp [eq_comm]
theorem rowV_pl {o : rOp.den} {M : MapT} (h : MapInv M) (hc : o.2.2.1 ≠ ByteArray.mk #[]) : Pl (rowV o M) := by
  unfold rowV xR xC Pl
  cases h1 : alook (vt := rCell) (kR o) M with
  | none => cases h2 : alook (vt := rCell) (kC o) M <;> simp
  | some x =>
    cases h2 : alook (vt := rCell) (kC o) M with
    | none => simp
    | some y =>
      have g1 := (h.look (r := o.2.1) (c := ByteArray.mk #[])).1 h1
      have g2 := (h.look (r := o.2.1) (c := o.2.2.1)).1 h2
      simp only [Option.isSome_some, Option.getD_some, cond_true, List.nil_append]
      show List.Pairwise _ [x, y]
      refine List.pairwise_cons.2 ⟨fun z hz e => ?_, List.pairwise_singleton _ _⟩
      rw [List.mem_singleton.1 hz] at e
      exact hc (g2.2.2.symm.trans (e.2.symm.trans g1.2.2))
theorem aset_keys (k : rP.den) (v : rCell.den) : ∀ (M : MapT), (k ∈ M.map (·.1) ∧ (aset k v M).map (·.1) = M.map (·.1)) ∨ (k ∉ M.map (·.1) ∧ (aset k v M).map (·.1) = M.map (·.1) ++ [k])
  | [] => .inr ⟨by simp, rfl⟩
  | q :: M => by
    simp only [aset]
    by_cases h : k = q.1
    · rw [if_pos ((same_iff rP rfl k q.1).2 h)]
      exact .inl ⟨by rw [h]; exact List.mem_cons_self .., rfl⟩
    · rw [if_neg (fun e => h ((same_iff rP rfl k q.1).1 e))]
      rcases aset_keys k v M with ⟨h1, h2⟩ | ⟨h1, h2⟩
      · exact .inl ⟨List.mem_cons_of_mem _ h1, by rw [List.map_cons, h2]; rfl⟩
      · refine .inr ⟨fun hm => ?_, by rw [List.map_cons, h2]; rfl⟩
        rcases List.mem_cons.1 hm with hm | hm
        · exact h hm
        · exact h1 hm
theorem aset_mem (k : rP.den) (v : rCell.den) : ∀ {M : MapT} {q : rP.den × rCell.den}, q ∈ aset k v M → q ∈ M ∨ q = (k, v)
  | [], q, h => .inr (List.mem_singleton.1 h)
  | p :: M, q, h => by
    simp only [aset] at h
    split at h
    · rename_i e
      rcases List.mem_cons.1 h with h | h
      · rw [(same_iff rP rfl k p.1).1 e]
        exact .inr h
      · exact .inl (List.mem_cons_of_mem _ h)
    · rcases List.mem_cons.1 h with h | h
      · rw [h]; exact .inl (List.mem_cons_self ..)
      · rcases aset_mem k v h with h | h
        · exact .inl (List.mem_cons_of_mem _ h)
        · exact .inr h
theorem aset_len (k : rP.den) (v : rCell.den) (M : MapT) : (aset k v M).length ≤ M.length + 1 := by
  have h : ((aset k v M).map (·.1)).length = (aset k v M).length := List.length_map _
  rcases aset_keys k v M with ⟨_, e⟩ | ⟨_, e⟩ <;> rw [e] at h <;> simp at h <;> omega
theorem MapInv.set {M : MapT} (h : MapInv M) (a : rCell.den) : MapInv (aset (kOf a) a M) where
  nd := by
    rcases aset_keys (kOf a) a M with ⟨_, e⟩ | ⟨hn, e⟩
    · rw [e]; exact h.nd
    · rw [e, List.nodup_append]
      exact ⟨h.nd, by simp, fun x hx y hy e => hn (by rw [List.mem_singleton.1 hy] at e; rw [← e]; exact hx)⟩
  key q hq := by
    rcases aset_mem _ _ hq with hq | rfl
    · exact h.key q hq
    · rfl
theorem MapInv.nil : MapInv [] := ⟨by simp, fun q hq => by cases hq⟩
theorem MapInv.do {M : MapT} (h : MapInv M) (o : rOp.den) : MapInv (doM o M) ∧ (doM o M).length ≤ M.length + 2 := by
  unfold doM
  cases eN o (rowV o M) with
  | true => exact ⟨h, by show M.length ≤ _; omega⟩
  | false =>
    refine ⟨(h.set _).set _, ?_⟩
    have h1 := aset_len (kOf (e1 o (rowV o M))) (e1 o (rowV o M)) (aset (kOf (e0 o (rowV o M))) (e0 o (rowV o M)) M)
    have h2 := aset_len (kOf (e0 o (rowV o M))) (e0 o (rowV o M)) M
    show (aset _ _ (aset _ _ M)).length ≤ _
    omega
end Go.Proofs.Ytolhkkoakneflaa
