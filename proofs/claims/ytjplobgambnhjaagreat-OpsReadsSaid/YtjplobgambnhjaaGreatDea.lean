/- Members taken, within an entry, of any bytes; no statement. -/
import Derived.Test.YtjplobgambnhjaaGreatRda
import Derived.Test.YtjplobgambnhjaaGreatOen
set_option linter.unusedVariables false
set_option linter.unusedSimpArgs false
set_option maxRecDepth 100000
namespace Go.Proofs.YtjplobgambnhjaaGreat
open Go Go.Eng

def setL (d : rEntry.den) (l : List Int) : rEntry.den := (d.1, d.2.1, d.2.2.1, d.2.2.2.1, l, ())
def mLA (d : rEntry.den) (c : AC) : List AC := (CT.pair cU (.pair cU (.pair cI (.pair rCmd .unit)))).cells (d.1, d.2.1, d.2.2.1, d.2.2.2.1, ()) ++ [c]
abbrev aMe : List AV := [wT, .one (.ptr 4 23)]
theorem mel_run : ∀ k : Nat, 1 ≤ k → k ≤ 5 → ∀ (s : ByteArray) (g : Bool) (d : rEntry.den), (EDn k).run 45 aMe (hMb s g (rEntry.cells (setL d []))) ([true, true, false] ++ (List.replicate k [true, false]).flatten ++ [false]) =
    some (.tup [], hMb (mbS k (nr s)) (mbG k (lmK k g s) (nr s)) (mLA d (.asl cI 9 0 k k)) ++ [.cells cW, .cells cW, .cells [.int .u64 k], .tok 0 0, .arr cI (mbL k (nr s))], true :: (csM (nr s) (lmK k g s) k ++ [true, true, true] ++ cs0 k s g)) := by
  intro k h1 h8
  have h : k = 1 ∨ k = 2 ∨ k = 3 ∨ k = 4 ∨ k = 5 := by omega
  rcases h with rfl | rfl | rfl | rfl | rfl
  all_goals (intro s g d; kernel_rfl)
theorem mel_run0 (s : ByteArray) (g : Bool) (d : rEntry.den) : (EDn 0).run 45 aMe (hMb s g (rEntry.cells (setL d []))) [true, false, false] =
    some (.tup [], hMb (nr s) (lmK 0 g s) (rEntry.cells (setL d [])) ++ [.cells cW], true :: true :: cs0 0 s g) := by kernel_rfl
theorem mel_run9 (s : ByteArray) (g : Bool) (d : rEntry.den) : (EDn 0).run 45 aMe (hMb s g (rEntry.cells (setL d []))) [false, true, true] =
    some (.tup [], hMb (nr s) (lmB g s) (rEntry.cells (setL d [])) ++ [.cells cW], [(decide (numV s > 5) == true), ((numV s != 0) == true)] ++ numC g s) := by kernel_rfl
theorem mel_ice {k : Nat} {s : ByteArray} {g : Bool} {d : rEntry.den} {s' : ByteArray} {g' : Bool} {l : List Int} {m : Int}
    (hr : HeapCall Tryz.prog 45 aMe (hMb s g (rEntry.cells (setL d []))) (.tup []) (hMb s' g' (mLA d (.asl cI 9 0 k k)) ++ [.cells cW, .cells cW, .cells [.int .u64 m], .tok 0 0, .arr cI l]))
    (hi : iceBs (fun i => (hMb s' g' (mLA d (.asl cI 9 0 k k)) ++ [.cells cW, .cells cW, .cells [.int .u64 m], .tok 0 0, .arr cI l])[i]?) 5 (hMb s' g' (mLA d (.asl cI 9 0 k k))) = some (hMb s' g' (rEntry.cells (setL d l)))) :
    HeapCall Tryz.prog 45 aMe (hMb s g (rEntry.cells (setL d []))) (.tup []) (hMb s' g' (rEntry.cells (setL d l))) :=
  byRead (HeapCall.ice hr 5 (Nat.le_refl 5) (by kernel_rfl) (hq := hMb s' g' (rEntry.cells (setL d l))) (r1 := .tup []) hi (by kernel_rfl) [0, 1, 2, 3, 4] (by kernel_rfl) (by kernel_rfl) (by kernel_rfl)) (by kernel_rfl) (by kernel_rfl)
theorem mel_k : ∀ k : Nat, 1 ≤ k → k ≤ 5 → ∀ (s : ByteArray) (g : Bool) (d : rEntry.den), numV s = k →
    HeapCall Tryz.prog 45 aMe (hMb s g (rEntry.cells (setL d []))) (.tup []) (hMb (mbS k (nr s)) (mbG k (lmK k g s) (nr s)) (rEntry.cells (setL d (mbL k (nr s))))) := by
  intro k h1 h8 s g d hk
  have hc : ∀ c ∈ true :: (csM (nr s) (lmK k g s) k ++ [true, true, true] ++ cs0 k s g), c = true := allI (by
    rw [List.all_cons, List.all_append, List.all_append, csM_all, cs0_all hk]; rfl)
  have hr := (EDn k).heap_ok (mel_run k h1 h8 s g d) hc
  have h : k = 1 ∨ k = 2 ∨ k = 3 ∨ k = 4 ∨ k = 5 := by omega
  clear hc h1 h8 hk
  rcases h with rfl | rfl | rfl | rfl | rfl
  all_goals exact mel_ice hr (by kernel_rfl)
theorem over5 {s : ByteArray} {g : Bool} (h : ¬ numV s ≤ 5) : (([(decide (numV s > 5) == true), ((numV s != 0) == true)] ++ numC g s).all fun c => c) = true := by
  have e1 : decide (numV s > 5) = true := decide_eq_true (by omega)
  have e2 : (numV s != 0) = true := bne_iff_ne.2 (by omega)
  rw [List.all_append, numC_all, e1, e2]; rfl
/-- The members taken: of any bytes. -/
theorem mel_h (s : ByteArray) (g : Bool) (d : rEntry.den) (hd : List.isEmpty d.2.2.2.2.1 = true) :
    HeapCall Tryz.prog 45 aMe (hMb s g (rEntry.cells d)) (.tup []) (hMb (mbS (lmN s) (nr s)) (mbG (lmN s) (lmB g s) (nr s)) (rEntry.cells (setL d (mbL (lmN s) (nr s))))) := by
  have hn : d = setL d [] := by
    obtain ⟨a1, a2, a3, a4, l, ⟨⟩⟩ := d
    have : l = [] := List.isEmpty_iff.1 hd
    subst this; rfl
  have hv := numV_ge s
  have key : HeapCall Tryz.prog 45 aMe (hMb s g (rEntry.cells (setL d []))) (.tup []) (hMb (mbS (lmN s) (nr s)) (mbG (lmN s) (lmB g s) (nr s)) (rEntry.cells (setL d (mbL (lmN s) (nr s))))) := by
    by_cases h8 : numV s ≤ 5
    · have hk : lmN s = (numV s).toNat := if_pos h8
      rcases Nat.eq_zero_or_pos (numV s).toNat with h0 | h0
      · have hz : numV s = 0 := by omega
        rw [hk, h0]
        unfold lmB
        rw [hz]
        exact (EDn 0).heap_cut 5 (hp2 := hMb (nr s) (lmK 0 g s) (rEntry.cells (setL d []))) (mel_run0 s g d) (allI (by rw [List.all_cons, List.all_cons, cs0_all hz]; rfl)) (Nat.le_refl 5) (by simp [idsV]) (by kernel_rfl) (by simp [idsB, idsC, setL, CT.cells])
      · have hz : numV s = ((numV s).toNat : Nat) := by omega
        have := mel_k (numV s).toNat (by omega) (by omega) s g d hz
        rw [← hk] at this hz
        unfold lmB
        rw [hz]
        exact this
    · have hk : lmN s = 0 := if_neg h8
      rw [hk]
      exact (EDn 0).heap_cut 5 (hp2 := hMb (nr s) (lmB g s) (rEntry.cells (setL d []))) (mel_run9 s g d) (allI (over5 h8)) (Nat.le_refl 5) (by simp [idsV]) (by kernel_rfl) (by simp [idsB, idsC, setL, CT.cells])
  rw [← hn] at key
  exact key
def melF (args : List AV) (hp : List AB) (os : List Bool) : Option ((AV × List AB) × List Bool × List Bool) := match args, hp with
  | [.agg [.fn f1 [(2, 0), (3, 0)], .fn f2 [(2, 0), (3, 0)], .fn f3 [(2, 0), (3, 0)]], .one (.ptr 4 23)], [.cells [.str s], .cells [.bool g], .cells [.ptr 0 0], .cells [.ptr 1 0], .cells c] => match CT.un rEntry c with
    | some (d, []) => retC (.tup [], hMb (mbS (lmN s) (nr s)) (mbG (lmN s) (lmB g s) (nr s)) (rEntry.cells (setL d (mbL (lmN s) (nr s))))) [fnT f1 f2 f3, List.isEmpty d.2.2.2.2.1] os
    | _ => none
  | _, _ => none
noncomputable def EMe : Env Tryz.prog := (EDr.addHF 45 selTk melF
  (fun args hp os r' hp' cs os' h hc => by
    unfold melF at h
    split at h
    · split at h
      · rename_i hu
        simp only [retC, Option.some.injEq, Prod.mk.injEq] at h
        obtain ⟨⟨rfl, rfl⟩, rfl, rfl⟩ := h
        obtain ⟨h1, hc⟩ := of_allTc hc
        obtain ⟨h2, _⟩ := of_allTc hc
        obtain ⟨rfl, rfl, rfl⟩ := of_decide_eq_true h1
        exact hMb_pre hu (mel_h _ _ _ h2)
      · cases h
    · cases h)).addT1 17 [.agg rEntry] (fun d => vI (entV d.1)) (fun _ => []) fun d _ => ent_pure d.1
/-- The entry of what was read. -/
def rEntL : List Rd := [mN, mN, wN] ++ rCmdL
def opD (V : List RV) (j : Nat) : rOp.den := (ww V j, tt V (j + 1), tt V (j + 2), tt V (j + 3), ff V (j + 4), tt V (j + 5), ())
def cmdD (V : List RV) (j : Nat) : rCmd.den := (ww V j, ww V (j + 1), nn V (j + 2), nn V (j + 3), opD V (j + 4), nn V (j + 10), ww V (j + 11), tt V (j + 12), tt V (j + 13), ww V (j + 14), (ff V (j + 15), ww V (j + 16), tt V (j + 17), ww V (j + 18), ww V (j + 19), ()), ())
def entD (V : List RV) (M : List Int) : rEntry.den := (nn V 0, nn V 1, ww V 2, cmdD V 3, M, ())
def eS (s : ByteArray) : ByteArray := rdsS rEntL s
def eT (s : ByteArray) : ByteArray := mbS (lmN (eS s)) (nr (eS s))
def eG (s : ByteArray) : Bool := mbG (lmN (eS s)) (lmB (rdsG rEntL true s) (eS s)) (nr (eS s))
def eD (s : ByteArray) : rEntry.den := entD (rdsV rEntL s) (mbL (lmN (eS s)) (nr (eS s)))
abbrev eZ : rEntry.den := rEntry.dflt
open Go Go.Eng

abbrev tupE (d : rEntry.den) (e : Int) : AV := .tup [(true, rEntry.cells d), (false, [.int .i64 e])]
def eB2 (s : ByteArray) : Bool := bif !eG s then true else decide ((((eT s).size : Nat) : Int) > 0)
def eB3 (s : ByteArray) : Bool := bif eB2 s then true else entV (eD s) != 0
/-- The entry of bytes, and whether there is one. -/
def deA (s : ByteArray) : rEntry.den × Int := bif eB3 s then (eZ, 4) else (eD s, 0)
def csEn (s : ByteArray) : List Bool := [true, true] ++ rdsC rEntL true s
theorem csEn_all {s : ByteArray} (h : szk s = true) : (csEn s).all (fun c => c) = true := by
  unfold csEn
  rw [List.all_append, rdsC_all rEntL true h (by decide)]; rfl
theorem de_runT (s : ByteArray) : EMe.pureRun 4 [vS s] [true, true, true, true] =
    some (.tup [(true, (CT.pair cU (.pair cU (.pair cI (.pair rCmd .unit)))).cells (0, 0, 0, eZ.2.2.2.1, ()) ++ [.nils]), (false, [.int .i64 4])], [true, true, true, true, (!eG s) == true, (!eG s) == true, (!eG s) == true] ++ csEn s) := by kernel_rfl
theorem de_runF (s : ByteArray) : EMe.pureRun 4 [vS s] [false, false, false] =
    some (tupE (eD s) 0, [eB3 s == false, (fun q => eB2 s || q) (eB2 s == false), (fun q => !(eB2 s == false) || q) (eB2 s == false), (fun q => !(eB2 s == false) || q) (eB2 s == false), (fun q => !eG s || q) ((!eG s) == false), true, (!eG s) == false, (!eG s) == false] ++ csEn s) := by kernel_rfl
theorem de_runB (s : ByteArray) : EMe.pureRun 4 [vS s] [false, false, true] =
    some (.tup [(true, (CT.pair cU (.pair cU (.pair cI (.pair rCmd .unit)))).cells (0, 0, 0, eZ.2.2.2.1, ()) ++ [.nils]), (false, [.int .i64 4])], [eB3 s == true, (fun q => eB2 s || q) (eB2 s == false), (fun q => !(eB2 s == false) || q) (eB2 s == false), (fun q => !(eB2 s == false) || q) (eB2 s == false), (fun q => !eG s || q) ((!eG s) == false), true, (!eG s) == false, (!eG s) == false] ++ csEn s) := by kernel_rfl
theorem tup_w {X : Ctx} {cs cs2 : List AC} (hw : CW cs cs2) {e : Int} {v : Value} (h : VR X (.tup [(true, cs), (false, [.int .i64 e])]) v) : VR X (.tup [(true, cs2), (false, [.int .i64 e])]) v := by
  obtain ⟨arr, e1, hl, hp⟩ := h
  refine ⟨arr, e1, hl, fun j p y hj hy => ?_⟩
  cases j with
  | zero =>
    simp only [List.getElem?_cons_zero, Option.some.injEq] at hj
    subst hj
    obtain ⟨ar, e2, h2⟩ := hp 0 _ y rfl hy
    exact ⟨ar, e2, hw X _ h2⟩
  | succ j => exact hp (j + 1) p y (by simpa using hj) hy
theorem eZ_w : CW ((CT.pair cU (.pair cU (.pair cI (.pair rCmd .unit)))).cells (0, 0, 0, eZ.2.2.2.1, ()) ++ [.nils]) (rEntry.cells eZ) :=
  CW.un (t := rEntry) (d := eZ) (by kernel_rfl)
theorem dent_any (s : ByteArray) (hs : szk s = true) : PureCall Tryz.prog 4 [vS s] (tupE (deA s).1 (deA s).2) := by
  have hc := csEn_all hs
  unfold deA
  cases hg : eG s with
  | false =>
    have h2 : eB2 s = true := by unfold eB2; rw [hg]; rfl
    have h3 : eB3 s = true := by unfold eB3; rw [h2]; rfl
    rw [h3]
    refine PureCall.resw (EMe.pure_ok (de_runT s) (allI ?_)) fun X v _ hv => tup_w eZ_w hv
    rw [List.all_append, hc, hg]; rfl
  | true =>
    cases h3 : eB3 s with
    | true =>
      refine PureCall.resw (EMe.pure_ok (de_runB s) (allI ?_)) fun X v _ hv => tup_w eZ_w hv
      rw [List.all_append, hc, hg, h3]
      cases eB2 s <;> rfl
    | false =>
      refine EMe.pure_ok (de_runF s) (allI ?_)
      rw [List.all_append, hc, hg, h3]
      cases eB2 s <;> rfl
end Go.Proofs.YtjplobgambnhjaaGreat
