/- Framed entries: the list taken, of any length; no statement. -/
import Derived.Test.YtjplobgambnhjaaGreatFrb
set_option linter.unusedVariables false
set_option linter.unusedSimpArgs false
set_option maxRecDepth 100000
namespace Go.Proofs.YtjplobgambnhjaaGreat
open Go Go.Eng

/-- So many framed entries taken: what is left; is all well; the entries; is one of them none. -/
def frS : Nat → ByteArray → ByteArray
  | 0, s => s
  | k + 1, s => frS k (fr s)
def frG : Nat → Bool → ByteArray → Bool
  | 0, g, _ => g
  | k + 1, g, s => frG k (bif g then tb s 1048576 else false) (fr s)
def frB : Nat → Bool → ByteArray → Bool
  | 0, b, _ => b
  | k + 1, b, s => frB k (bif b then true else (deA (fv s)).2 != 0) (fr s)
def frL : Nat → ByteArray → List rEntry.den
  | 0, _ => []
  | k + 1, s => (deA (fv s)).1 :: frL k (fr s)
theorem frL_len : ∀ k s, (frL k s).length = k
  | 0, _ => rfl
  | k + 1, s => by simp [frL, frL_len k]
theorem szk_fr {s : ByteArray} (h : szk s = true) : szk (fr s) = true := szk_tr h
theorem szk_frS : ∀ k {s : ByteArray}, szk s = true → szk (frS k s) = true
  | 0, _, h => h
  | k + 1, _, h => szk_frS k (szk_fr h)
abbrev aLs : List AV := [wT, .one (.ptr 4 7), .one (.int .u64 8), .one (.fn 64 [(5,0),(6,0)])]
abbrev hLs (s : ByteArray) (g b : Bool) (c : List AC) : List AB := [.cells [.str s], .cells [.bool g], .cells [.ptr 0 0], .cells [.ptr 1 0], .cells c, .cells cW, .cells [.bool b]]
def mA (d : rMsg.den) (c : AC) : List AC := [.int .i64 d.1, .int .i64 d.2.1, .int .u64 d.2.2.1, .int .u64 d.2.2.2.1, .int .u64 d.2.2.2.2.1, .int .u64 d.2.2.2.2.2.1, .bool d.2.2.2.2.2.2.1, c] ++ (CT.pair rBase (.pair .str (.pair rReq (.pair rRep (.pair rAsk (.pair rTold .unit)))))).cells d.2.2.2.2.2.2.2.2
def csI (s : ByteArray) : Nat → List Bool
  | 0 => []
  | j + 1 => true :: szk (frS j s) :: true :: true :: true :: csI s j
theorem csI_all {s : ByteArray} (h : szk s = true) : ∀ k, (csI s k).all (fun c => c) = true
  | 0 => rfl
  | k + 1 => by simp [csI, csI_all h k, szk_frS k h]
/-- Is the number there, and not above 8? -/
def lgK (k : Int) (g : Bool) (s : ByteArray) : Bool := bif bif g then nb s else false then decide (k ≤ 8) else false
theorem lst_run : ∀ k : Nat, 1 ≤ k → k ≤ 8 → ∀ (s : ByteArray) (g b : Bool) (d : rMsg.den), (EFn k).run 63 aLs (hLs s g b (rMsg.cells (setE d []))) ([true, true, false] ++ List.replicate k true ++ [false]) =
    some (.tup [], hLs (frS k (nr s)) (frG k (lgK k g s) (nr s)) (frB k b (nr s)) (mA d (.asl rEntry 10 0 k k)) ++ [.cells cW, .cells [.int .u64 k], .tok 0 0, .arr rEntry (frL k (nr s))], true :: (csI (nr s) k ++ [true, true, true] ++ cs0 k s g)) := by
  intro k h1 h8
  have h : k = 1 ∨ k = 2 ∨ k = 3 ∨ k = 4 ∨ k = 5 ∨ k = 6 ∨ k = 7 ∨ k = 8 := by omega
  rcases h with rfl | rfl | rfl | rfl | rfl | rfl | rfl | rfl
  all_goals (intro s g b d; kernel_rfl)
theorem lst_run0 (s : ByteArray) (g b : Bool) (d : rMsg.den) : (EFn 0).run 63 aLs (hLs s g b (rMsg.cells (setE d []))) [true, false, false] =
    some (.tup [], hLs (nr s) (lgK 0 g s) b (rMsg.cells (setE d [])) ++ [.cells cW, .cells [.int .u64 0], .tok 0 0], true :: true :: cs0 0 s g) := by kernel_rfl
open Go Go.Eng

def lsK (s : ByteArray) : Nat := if numV s ≤ 8 then (numV s).toNat else 0
def lgB (g : Bool) (s : ByteArray) : Bool := lgK (numV s) g s
theorem lst_ice {k : Nat} {s : ByteArray} {g b : Bool} {d : rMsg.den} {s' : ByteArray} {g' b' : Bool} {l : List rEntry.den} {m : Int}
    (hr : HeapCall Tryz.prog 63 aLs (hLs s g b (rMsg.cells (setE d []))) (.tup []) (hLs s' g' b' (mA d (.asl rEntry 10 0 k k)) ++ [.cells cW, .cells [.int .u64 m], .tok 0 0, .arr rEntry l]))
    (hi : iceBs (fun i => (hLs s' g' b' (mA d (.asl rEntry 10 0 k k)) ++ [.cells cW, .cells [.int .u64 m], .tok 0 0, .arr rEntry l])[i]?) 7 (hLs s' g' b' (mA d (.asl rEntry 10 0 k k))) = some (hLs s' g' b' (rMsg.cells (setE d l)))) :
    HeapCall Tryz.prog 63 aLs (hLs s g b (rMsg.cells (setE d []))) (.tup []) (hLs s' g' b' (rMsg.cells (setE d l))) :=
  byRead (HeapCall.ice hr 7 (Nat.le_refl 7) (by kernel_rfl) (hq := hLs s' g' b' (rMsg.cells (setE d l))) (r1 := .tup []) hi (by kernel_rfl) [0, 1, 2, 3, 4, 5, 6] (by kernel_rfl) (by kernel_rfl) (by kernel_rfl)) (by kernel_rfl) (by kernel_rfl)
theorem lst_k : ∀ k : Nat, 1 ≤ k → k ≤ 8 → ∀ (s : ByteArray) (g b : Bool) (d : rMsg.den), szk s = true → numV s = k →
    HeapCall Tryz.prog 63 aLs (hLs s g b (rMsg.cells (setE d []))) (.tup []) (hLs (frS k (nr s)) (frG k (lgK k g s) (nr s)) (frB k b (nr s)) (rMsg.cells (setE d (frL k (nr s))))) := by
  intro k h1 h8 s g b d hs hk
  have hc : ∀ c ∈ true :: (csI (nr s) k ++ [true, true, true] ++ cs0 k s g), c = true := allI (by
    rw [List.all_cons, List.all_append, List.all_append, csI_all (szk_nr hs), cs0_all hk]; rfl)
  have hr := (EFn k).heap_ok (lst_run k h1 h8 s g b d) hc
  have h : k = 1 ∨ k = 2 ∨ k = 3 ∨ k = 4 ∨ k = 5 ∨ k = 6 ∨ k = 7 ∨ k = 8 := by omega
  clear hc h1 h8 hk
  rcases h with rfl | rfl | rfl | rfl | rfl | rfl | rfl | rfl
  all_goals exact lst_ice hr (by kernel_rfl)
theorem lst_run9 (s : ByteArray) (g b : Bool) (d : rMsg.den) : (EFn 0).run 63 aLs (hLs s g b (rMsg.cells (setE d []))) [false, true, true] =
    some (.tup [], hLs (nr s) (lgB g s) b (rMsg.cells (setE d [])) ++ [.cells cW, .cells [.int .u64 (numV s)], .tok 0 0], [(decide (numV s > 8) == true), ((numV s != 0) == true)] ++ numC g s) := by kernel_rfl
/-- The list taken: of any bytes. -/
theorem lst_h (s : ByteArray) (g b : Bool) (d : rMsg.den) (hs : szk s = true) :
    HeapCall Tryz.prog 63 aLs (hLs s g b (rMsg.cells (setE d []))) (.tup []) (hLs (frS (lsK s) (nr s)) (frG (lsK s) (lgB g s) (nr s)) (frB (lsK s) b (nr s)) (rMsg.cells (setE d (frL (lsK s) (nr s))))) := by
  have hv := numV_ge s
  by_cases h8 : numV s ≤ 8
  · have hk : lsK s = (numV s).toNat := if_pos h8
    rcases Nat.eq_zero_or_pos (numV s).toNat with h0 | h0
    · have hz : numV s = 0 := by omega
      rw [hk, h0]
      unfold lgB
      rw [hz]
      exact (EFn 0).heap_cut 7 (hp2 := hLs (nr s) (lgK 0 g s) b (rMsg.cells (setE d []))) (lst_run0 s g b d) (allI (by rw [List.all_cons, List.all_cons, cs0_all hz]; rfl)) (Nat.le_refl 7) (by simp [idsV]) (by kernel_rfl) (by simp [idsB, idsC, setE, CT.cells, cW])
    · have hz : numV s = ((numV s).toNat : Nat) := by omega
      have := lst_k (numV s).toNat (by omega) (by omega) s g b d hs hz
      rw [← hk] at this hz
      unfold lgB
      rw [hz]
      exact this
  · have hk : lsK s = 0 := if_neg h8
    rw [hk]
    refine (EFn 0).heap_cut 7 (hp2 := hLs (nr s) (lgB g s) b (rMsg.cells (setE d []))) (lst_run9 s g b d) (allI ?_) (Nat.le_refl 7) (by simp [idsV]) (by kernel_rfl) (by simp [idsB, idsC, setE, CT.cells, cW])
    have e1 : decide (numV s > 8) = true := decide_eq_true (by omega)
    have e2 : (numV s != 0) = true := bne_iff_ne.2 (by omega)
    rw [List.all_append, numC_all, e1, e2]; rfl
open Go Go.Eng

def setM (d : rMsg.den) (l : List Int) : rMsg.den := (d.1, d.2.1, d.2.2.1, d.2.2.2.1, d.2.2.2.2.1, d.2.2.2.2.2.1, d.2.2.2.2.2.2.1, d.2.2.2.2.2.2.2.1, (d.2.2.2.2.2.2.2.2.1.1, d.2.2.2.2.2.2.2.2.1.2.1, l, ()), d.2.2.2.2.2.2.2.2.2)
def mMA (d : rMsg.den) (c : AC) : List AC := [.int .i64 d.1, .int .i64 d.2.1, .int .u64 d.2.2.1, .int .u64 d.2.2.2.1, .int .u64 d.2.2.2.2.1, .int .u64 d.2.2.2.2.2.1, .bool d.2.2.2.2.2.2.1, .sl rEntry d.2.2.2.2.2.2.2.1 .shared, .int .u64 d.2.2.2.2.2.2.2.2.1.1, .int .u64 d.2.2.2.2.2.2.2.2.1.2.1, c] ++ (CT.pair .str (.pair rReq (.pair rRep (.pair rAsk (.pair rTold .unit))))).cells d.2.2.2.2.2.2.2.2.2
abbrev aMb : List AV := [wT, .one (.ptr 4 10)]
theorem mem_run : ∀ k : Nat, 1 ≤ k → k ≤ 5 → ∀ (s : ByteArray) (g : Bool) (d : rMsg.den), (EFn k).run 45 aMb (hMb s g (rMsg.cells (setM d []))) ([true, true, false] ++ (List.replicate k [true, false]).flatten ++ [false]) =
    some (.tup [], hMb (mbS k (nr s)) (mbG k (lmK k g s) (nr s)) (mMA d (.asl cI 9 0 k k)) ++ [.cells cW, .cells cW, .cells [.int .u64 k], .tok 0 0, .arr cI (mbL k (nr s))], true :: (csM (nr s) (lmK k g s) k ++ [true, true, true] ++ cs0 k s g)) := by
  intro k h1 h8
  have h : k = 1 ∨ k = 2 ∨ k = 3 ∨ k = 4 ∨ k = 5 := by omega
  rcases h with rfl | rfl | rfl | rfl | rfl
  all_goals (intro s g d; kernel_rfl)
theorem mem_run0 (s : ByteArray) (g : Bool) (d : rMsg.den) : (EFn 0).run 45 aMb (hMb s g (rMsg.cells (setM d []))) [true, false, false] =
    some (.tup [], hMb (nr s) (lmK 0 g s) (rMsg.cells (setM d [])) ++ [.cells cW], true :: true :: cs0 0 s g) := by kernel_rfl
theorem mem_run9 (s : ByteArray) (g : Bool) (d : rMsg.den) : (EFn 0).run 45 aMb (hMb s g (rMsg.cells (setM d []))) [false, true, true] =
    some (.tup [], hMb (nr s) (lmB g s) (rMsg.cells (setM d [])) ++ [.cells cW], [(decide (numV s > 5) == true), ((numV s != 0) == true)] ++ numC g s) := by kernel_rfl
theorem mem_ice {k : Nat} {s : ByteArray} {g : Bool} {d : rMsg.den} {s' : ByteArray} {g' : Bool} {l : List Int} {m : Int}
    (hr : HeapCall Tryz.prog 45 aMb (hMb s g (rMsg.cells (setM d []))) (.tup []) (hMb s' g' (mMA d (.asl cI 9 0 k k)) ++ [.cells cW, .cells cW, .cells [.int .u64 m], .tok 0 0, .arr cI l]))
    (hi : iceBs (fun i => (hMb s' g' (mMA d (.asl cI 9 0 k k)) ++ [.cells cW, .cells cW, .cells [.int .u64 m], .tok 0 0, .arr cI l])[i]?) 5 (hMb s' g' (mMA d (.asl cI 9 0 k k))) = some (hMb s' g' (rMsg.cells (setM d l)))) :
    HeapCall Tryz.prog 45 aMb (hMb s g (rMsg.cells (setM d []))) (.tup []) (hMb s' g' (rMsg.cells (setM d l))) :=
  byRead (HeapCall.ice hr 5 (Nat.le_refl 5) (by kernel_rfl) (hq := hMb s' g' (rMsg.cells (setM d l))) (r1 := .tup []) hi (by kernel_rfl) [0, 1, 2, 3, 4] (by kernel_rfl) (by kernel_rfl) (by kernel_rfl)) (by kernel_rfl) (by kernel_rfl)
theorem mem_k : ∀ k : Nat, 1 ≤ k → k ≤ 5 → ∀ (s : ByteArray) (g : Bool) (d : rMsg.den), numV s = k →
    HeapCall Tryz.prog 45 aMb (hMb s g (rMsg.cells (setM d []))) (.tup []) (hMb (mbS k (nr s)) (mbG k (lmK k g s) (nr s)) (rMsg.cells (setM d (mbL k (nr s))))) := by
  intro k h1 h8 s g d hk
  have hc : ∀ c ∈ true :: (csM (nr s) (lmK k g s) k ++ [true, true, true] ++ cs0 k s g), c = true := allI (by
    rw [List.all_cons, List.all_append, List.all_append, csM_all, cs0_all hk]; rfl)
  have hr := (EFn k).heap_ok (mem_run k h1 h8 s g d) hc
  have h : k = 1 ∨ k = 2 ∨ k = 3 ∨ k = 4 ∨ k = 5 := by omega
  clear hc h1 h8 hk
  rcases h with rfl | rfl | rfl | rfl | rfl
  all_goals exact mem_ice hr (by kernel_rfl)
/-- The members taken: of any bytes. -/
theorem mem_h (s : ByteArray) (g : Bool) (d : rMsg.den) :
    HeapCall Tryz.prog 45 aMb (hMb s g (rMsg.cells (setM d []))) (.tup []) (hMb (mbS (lmN s) (nr s)) (mbG (lmN s) (lmB g s) (nr s)) (rMsg.cells (setM d (mbL (lmN s) (nr s))))) := by
  have hv := numV_ge s
  by_cases h8 : numV s ≤ 5
  · have hk : lmN s = (numV s).toNat := if_pos h8
    rcases Nat.eq_zero_or_pos (numV s).toNat with h0 | h0
    · have hz : numV s = 0 := by omega
      rw [hk, h0]
      unfold lmB
      rw [hz]
      exact (EFn 0).heap_cut 5 (hp2 := hMb (nr s) (lmK 0 g s) (rMsg.cells (setM d []))) (mem_run0 s g d) (allI (by rw [List.all_cons, List.all_cons, cs0_all hz]; rfl)) (Nat.le_refl 5) (by simp [idsV]) (by kernel_rfl) (by simp [idsB, idsC, setM, CT.cells])
    · have hz : numV s = ((numV s).toNat : Nat) := by omega
      have := mem_k (numV s).toNat (by omega) (by omega) s g d hz
      rw [← hk] at this hz
      unfold lmB
      rw [hz]
      exact this
  · have hk : lmN s = 0 := if_neg h8
    rw [hk]
    refine (EFn 0).heap_cut 5 (hp2 := hMb (nr s) (lmB g s) (rMsg.cells (setM d []))) (mem_run9 s g d) (allI ?_) (Nat.le_refl 5) (by simp [idsV]) (by kernel_rfl) (by simp [idsB, idsC, setM, CT.cells])
    exact over5 h8
end Go.Proofs.YtjplobgambnhjaaGreat
