/- EncodeMsg: what it lays; no statement. -/
import Derived.Test.YtjplobgambnhjaaLyf
set_option linter.unusedVariables false
set_option linter.unusedSimpArgs false
set_option maxRecDepth 100000
namespace Go.Proofs.Ytjplobgambnhjaa
open Go Go.Eng

def layQ : Option Int → RV → ByteArray → List Bool
  | none, v, b => layC v b
  | some v, _, b => [true, true, sgK v, room b 20]
def laysQ : ByteArray → List (Option Int × RV) → List Bool
  | _, [] => []
  | b, (k, v) :: l => laysQ (b ++ layB v) l ++ layQ k v b
def tgB (d : rMsg.den) : List (Option Int) := List.replicate 18 none ++ [some (aP d).2.2.2.1] ++ List.replicate 21 none ++ [some (aA d).2.2.1, some (aA d).2.2.2.1, none, none, none, none, some (aT d).2.2.2.2.1]
def bM1 (d : rMsg.den) : ByteArray := laysB mt (hdrR d)
def bM2 (d : rMsg.den) : ByteArray := laysB (bM1 d) (entsR (enL d))
def bM3 (d : rMsg.den) : ByteArray := laysB (bM2 d) (basR d)
def bM4 (d : rMsg.den) : ByteArray := laysB (bM3 d) (memR (mbL' d))
def csB (d : rMsg.den) : List Bool := laysQ (bM4 d) ((tgB d).zip (tlR d)) ++ (csMl (mbL' d) (bM3 d) ++ (laysC (bM2 d) (basR d) ++ ([uOk (wU 0), room (bM1 d) 20] ++ (laysC mt (hdrR d) ++ [(msgV d != 0) == false]))))
theorem emb_run (d : rMsg.den) : EYb.pureRun 28 [.agg (rMsg.cells (setE d []))] [false] =
    some (tupY (laysB (bM4 (setE d [])) (tlR (setE d []))) 0, csB (setE d [])) := by kernel_rfl
theorem emx_run (d : rMsg.den) : EYb.pureRun 28 [.agg (rMsg.cells d)] [true] = some (tupY mt 2, [(msgV d != 0) == true]) := by kernel_rfl
theorem encM_eq (d : rMsg.den) : laysB (bM4 d) (tlR d) = encM d := by
  unfold bM4 bM3 bM2 bM1
  rw [← laysB_app, ← laysB_app, ← laysB_app, ← laysB_app, laysB_encs]
  exact emptyApp _
theorem laysQ_all : ∀ (l : List (Option Int × RV)) (b : ByteArray), (l.all fun p => layU p.2) = true → (l.all fun p => match p.1 with | none => true | some v => sgK v) = true → b.size + laysSz (l.map (·.2)) ≤ 1000000000000 → (laysQ b l).all (fun c => c) = true
  | [], _, _, _, _ => rfl
  | (k, v) :: l, b, hu, hk, hs => by
    rw [List.all_cons, Bool.and_eq_true] at hu hk
    have hz := layB_size v
    have hs' : b.size + (laySz v + laysSz (l.map (·.2))) ≤ 1000000000000 := hs
    have h1 := laysQ_all l (b ++ layB v) hu.2 hk.2 (by rw [ByteArray.size_append]; omega)
    have h2 : (layQ k v b).all (fun c => c) = true := by
      cases k with
      | none =>
        have := laysC_all [v] b (by rw [List.all_cons, hu.1]; rfl) (by show b.size + (laySz v + 0) ≤ _; omega)
        exact this
      | some w =>
        have hw : sgK w = true := hk.1
        have h20 : 20 ≤ laySz v := by cases v <;> simp [laySz]
        simp only [layQ, List.all_cons, List.all_nil, hw, room_of (b := b) (n := 20) (by omega)]; rfl
    rw [laysQ, List.all_append, h1, h2]; rfl
theorem laysD_all : ∀ (l : List (Nat × RV)) (b : ByteArray), (l.all fun p => layU p.2) = true → b.size + laysSz (l.map (·.2)) ≤ 1000000000000 → (laysD b l).all (fun c => c) = true
  | [], _, _, _ => rfl
  | (k, v) :: l, b, hu, hs => by
    rw [List.all_cons, Bool.and_eq_true] at hu
    have hz := layB_size v
    have hs' : b.size + (laySz v + laysSz (l.map (·.2))) ≤ 1000000000000 := hs
    have h1 := laysD_all l (b ++ layB v) hu.2 (by rw [ByteArray.size_append]; omega)
    have h2 : (layD k v b).all (fun c => c) = true := by
      cases v with
      | n v =>
        have hv : uOk v = true := hu.1
        have : laySz (.n v) = 20 := rfl
        have hr := room_of (b := b) (n := 20) (by omega)
        unfold layD
        split <;> simp_all
      | t s =>
        have : laySz (.t s) = s.size + 20 := rfl
        have hr := room_of (b := b) (n := s.size + 20) (by omega)
        unfold layD
        split <;> simp_all
      | f f =>
        have : laySz (.f f) = 20 := rfl
        have hr := room_of (b := b) (n := 20) (by omega)
        unfold layD
        split <;> simp_all
    rw [laysD, List.all_append, h1, h2]; rfl
theorem zipB_snd (d : rMsg.den) : ((tgB d).zip (tlR d)).map (·.2) = tlR d := rfl
theorem zipA_snd (d : rMsg.den) : (tgA.zip (tlR d)).map (·.2) = tlR d := rfl
theorem zipB_u (d : rMsg.den) (h : (tlR d).all layU = true) : (((tgB d).zip (tlR d)).all fun p => layU p.2) = true := by
  have := List.all_map (f := fun p : Option Int × RV => p.2) (p := layU) (l := (tgB d).zip (tlR d))
  rw [zipB_snd] at this
  rw [this] at h
  exact h
theorem zipA_u (d : rMsg.den) (h : (tlR d).all layU = true) : ((tgA.zip (tlR d)).all fun p => layU p.2) = true := by
  have := List.all_map (f := fun p : Nat × RV => p.2) (p := layU) (l := tgA.zip (tlR d))
  rw [zipA_snd] at this
  rw [this] at h
  exact h
theorem zipB_k (d : rMsg.den) (h1 : sgK (aP d).2.2.2.1 = true) (h2 : sgK (aA d).2.2.1 = true) (h3 : sgK (aA d).2.2.2.1 = true) (h4 : sgK (aT d).2.2.2.2.1 = true) : (((tgB d).zip (tlR d)).all fun p => match p.1 with | none => true | some v => sgK v) = true := by
  have e : (((tgB d).zip (tlR d)).all fun p => match p.1 with | none => true | some v => sgK v) = (sgK (aP d).2.2.2.1 && (sgK (aA d).2.2.1 && (sgK (aA d).2.2.2.1 && (sgK (aT d).2.2.2.2.1 && true)))) := by kernel_rfl
  rw [e, h1, h2, h3, h4]; rfl
theorem size_mt : (mt : ByteArray).size = 0 := rfl
structure MOk (d : rMsg.den) : Prop where
  hd : (hdrR d).all layU = true
  ba : (basR d).all layU = true
  tl : (tlR d).all layU = true
  sz : laysSz (hdrR d) + laysSz (entsR (enL d)) + laysSz (basR d) + laysSz (tlR d) ≤ 900000000000
  ml : List.length (mbL' d) ≤ 5
  ms : List.all (mbL' d) smI = true
  s1 : sgK (aP d).2.2.2.1 = true
  s2 : sgK (aA d).2.2.1 = true
  s3 : sgK (aA d).2.2.2.1 = true
  s4 : sgK (aT d).2.2.2.2.1 = true
  el : List.length (enL d) ≤ 8
  eg : List.all (enL d) goodE = true
theorem memR_sz (l : List Int) (h : l.length ≤ 5) : laysSz (memR l) ≤ 120 := by
  have : ∀ l : List Int, laysSz (l.map fun v => RV.n (wU v)) = 20 * l.length := fun l => by
    induction l with
    | nil => rfl
    | cons v l ih =>
      show 20 + laysSz (l.map fun v => RV.n (wU v)) = 20 * (l.length + 1)
      omega
  show 20 + laysSz (l.map fun v => RV.n (wU v)) ≤ 120
  rw [this]; omega
theorem emb_h (d : rMsg.den) (he : enL d = []) (h0 : msgV d = 0) (h : MOk d) : PureCall Try.prog 28 [.agg (rMsg.cells d)] (tupY (encM d) 0) := by
  have hd : d = setE d [] := by
    obtain ⟨a1, a2, a3, a4, a5, a6, a7, l, r⟩ := d
    have he : l = [] := he
    subst he; rfl
  have z1 := laysB_size (hdrR d) mt
  have z2 := laysB_size (entsR (enL d)) (bM1 d)
  have z3 := laysB_size (basR d) (bM2 d)
  have z4 := laysB_size (memR (mbL' d)) (bM3 d)
  have z5 := memR_sz _ h.ml
  have z0 := size_mt
  have zz := h.sz
  have q1 : (bM1 d).size ≤ laysSz (hdrR d) := by unfold bM1; omega
  have q2 : (bM2 d).size ≤ laysSz (hdrR d) + laysSz (entsR (enL d)) := by unfold bM2; omega
  have q3 : (bM3 d).size ≤ laysSz (hdrR d) + laysSz (entsR (enL d)) + laysSz (basR d) := by unfold bM3; omega
  have q4 : (bM4 d).size ≤ laysSz (hdrR d) + laysSz (entsR (enL d)) + laysSz (basR d) + 120 := by unfold bM4; omega
  have run := emb_run d
  rw [← hd] at run
  rw [← encM_eq]
  refine EYb.pure_ok run (allI ?_)
  unfold csB
  rw [List.all_append, List.all_append, List.all_append, List.all_append, List.all_append, laysQ_all _ _ (zipB_u d h.tl) (zipB_k d h.s1 h.s2 h.s3 h.s4) (by rw [zipB_snd]; omega), laysC_all _ _ h.ba (by omega), laysC_all _ _ h.hd (by omega), h0]
  have r1 := room_of (b := bM1 d) (n := 20) (by omega)
  have r3 := room_of (b := bM3 d) (n := 200) (by omega)
  have u0 : uOk (wU 0) = true := uOk_wrap 0
  simp only [csMl, List.all_cons, List.all_nil, h.ml, h.ms, r1, r3, u0, decide_true]
  rfl
theorem emx_h (d : rMsg.den) (h0 : msgV d ≠ 0) : PureCall Try.prog 28 [.agg (rMsg.cells d)] (tupY mt 2) :=
  EYb.pure_ok (emx_run d) (allI (by
    have : (msgV d != 0) = true := bne_iff_ne.2 h0
    rw [this]; rfl))
theorem ema_h (g t i lt c : Int) (e0 : rEntry.den) (l : List rEntry.den) (h0 : msgV (msgA g t i lt c (e0 :: l)) = 0) (h : MOk (msgA g t i lt c (e0 :: l))) : PureCall Try.prog 28 [.agg (rMsg.cells (msgA g t i lt c (e0 :: l)))] (tupY (encM (msgA g t i lt c (e0 :: l))) 0) := by
  have run := ema_run g t i lt c e0 l
  have hel : enL (msgA g t i lt c (e0 :: l)) = e0 :: l := rfl
  generalize hm : msgA g t i lt c (e0 :: l) = d at h0 h run hel ⊢
  have hml : mbL' d = [] := by rw [← hm]; rfl
  have z1 := laysB_size (hdrR d) mt
  have z2 := laysB_size (entsR (enL d)) (bM1 d)
  have z3 := laysB_size (basR d) (bM2 d)
  have z4 := laysB_size (memR (mbL' d)) (bM3 d)
  have z5 := memR_sz _ h.ml
  have z0 := size_mt
  have zz := h.sz
  have q1 : (bM1 d).size ≤ laysSz (hdrR d) := by unfold bM1; omega
  have q2 : (bM2 d).size ≤ laysSz (hdrR d) + laysSz (entsR (enL d)) := by unfold bM2; omega
  have q3 : (bM3 d).size ≤ laysSz (hdrR d) + laysSz (entsR (enL d)) + laysSz (basR d) := by unfold bM3; omega
  have q4 : (bM4 d).size ≤ laysSz (hdrR d) + laysSz (entsR (enL d)) + laysSz (basR d) + 120 := by unfold bM4; omega
  rw [← encM_eq]
  have run : EYa.pureRun 28 [.agg (rMsg.cells d)] [false] = some (tupY (laysB (bM4 d) (tlR d)) 0, csA d ++ [true, Nat.ble ((e0 :: l).length * 264) 140737488355328 && Nat.ble (e0 :: l).length maxLen, (msgV d != 0) == false]) := by
    unfold bM4 bM3 bM2 bM1
    rw [hml, hel]
    exact run
  refine EYa.pure_ok run (allI ?_)
  have b4 : laysB (laysB (laysB (laysB mt (hdrR d)) (entsR (enL d))) (basR d)) (memR []) = bM4 d := by unfold bM4 bM3 bM2 bM1; rw [hml]
  have hel8 := h.el
  rw [hel] at hel8
  have r0 := room_of (b := bM3 d) (n := 20) (by omega)
  have r1 := room_of (b := bM1 d) (n := laysSz (entsR (enL d)) + 200) (by omega)
  have u0 : uOk (wU 0) = true := uOk_wrap 0
  have eg := h.eg
  have n1 : decide (1 ≤ List.length (enL d) ∧ List.length (enL d) ≤ 8) = true := decide_eq_true (by rw [hel]; simp only [List.length_cons] at hel8 ⊢; omega)
  have n2 : decide (List.length (enL d) = List.length (enL d)) = true := decide_eq_true rfl
  have n3 : (Nat.ble ((e0 :: l).length * 264) 140737488355328 && Nat.ble (e0 :: l).length maxLen) = true := by
    unfold maxLen
    rw [Bool.and_eq_true, Nat.ble_eq, Nat.ble_eq]
    constructor <;> omega
  have m1 : ((basR d).map fun v => ((0 : Nat), v)).map (·.2) = basR d := rfl
  have m2 : ((hdrR d).map fun v => ((0 : Nat), v)).map (·.2) = hdrR d := rfl
  have p1 : (((basR d).map fun v => ((0 : Nat), v)).all fun p => layU p.2) = true := by rw [List.all_map]; exact h.ba
  have p2 : (((hdrR d).map fun v => ((0 : Nat), v)).all fun p => layU p.2) = true := by rw [List.all_map]; exact h.hd
  have e3 : csA d = laysD (bM4 d) (tgA.zip (tlR d)) ++ ([uOk (wU 0), room (bM3 d) 20] ++ (laysD (bM2 d) ((basR d).map fun v => (0, v)) ++ ([true, true, true, decide (List.length (enL d) = List.length (enL d)), decide (1 ≤ List.length (enL d) ∧ List.length (enL d) ≤ 8), List.all (enL d) goodE, room (bM1 d) (laysSz (entsR (enL d)) + 200)] ++ laysD mt ((hdrR d).map fun v => (0, v))))) := by
    unfold csA
    simp only [b4]
    rfl
  rw [e3, List.all_append, List.all_append, List.all_append, List.all_append, List.all_append, laysD_all _ _ (zipA_u d h.tl) (by rw [zipA_snd]; omega), laysD_all _ _ p1 (by rw [m1]; omega), laysD_all _ _ p2 (by rw [m2]; omega), h0]
  simp only [List.all_cons, List.all_nil, r0, r1, u0, eg, n1, n2, n3]
  rfl
end Go.Proofs.Ytjplobgambnhjaa
