/- ClientDeaf: Handle of a packet that is no reply; no statement. -/
import Derived.Test.YtiodkcnponhhgaaGreatDea0
set_option linter.unusedVariables false
set_option linter.unusedSimpArgs false
set_option maxRecDepth 100000
namespace Go.Proofs.YtiodkcnponhhgaaGreat
open Go Go.Eng

abbrev mA' (p : rPacket.den) : rMsg.den := (dmA p.2.2.1).1
def hT (p : rPacket.den) : Bool := p.2.1 != IntKind.i64.wrap (100 + 0)
def h1 (p : rPacket.den) : Bool := (dmA p.2.2.1).2 != 0
def h2 (p : rPacket.den) : Bool := bif h1 p then true else (mA' p).1 != 7
def h3 (p : rPacket.den) : Bool := bif h2 p then true else (aP (mA' p)).1 != 0
def h4 (p : rPacket.den) : Bool := bif h3 p then true else !((aP (mA' p)).2.1 == 2 && ((mA' p).2.1 == 1 && true))
abbrev hB2 (p : rPacket.den) : List AB := [.cells [.ptr 2 0], .cells (rPacket.cells p)]
abbrev hB3 (p : rPacket.den) : List AB := [.cells [.ptr 2 0], .cells (rPacket.cells p), .cells (rMsg.cells (mA' p))]
abbrev aH (p : rPacket.den) : List AV := [.one (.ptr 2 0), .agg (rPacket.cells p)]
abbrev hX (d : rMsg.den) : List AB := hW ++ [.cells (rMsg.cells d)]
def t13 : List Bool := List.replicate 13 true
theorem hd_A (p : rPacket.den) (d : rMsg.den) : EDf.run 12 (aH p) (hX d) (List.replicate 10 false ++ [true]) = some (.one .nils, hX d ++ hB2 p, (hT p == true) :: t13) := by kernel_rfl
def o0 (p : rPacket.den) : List Bool := szk p.2.2.1 :: (hT p == false) :: t13
def o1 (p : rPacket.den) : List Bool := (fun q => h1 p || q) (h1 p == false) :: (h1 p == false) :: (h1 p == false) :: o0 p
def o2 (p : rPacket.den) : List Bool := (fun q => h2 p || q) (h2 p == false) :: (List.replicate 7 (h2 p == false) ++ o1 p)
def o3 (p : rPacket.den) : List Bool := (fun q => h3 p || q) (h3 p == false) :: (fun q => !(h3 p == false) || q) (h3 p == false) :: (List.replicate 9 (h3 p == false) ++ o2 p)
theorem hd_B (p : rPacket.den) (d : rMsg.den) : EDf.run 12 (aH p) (hX d) (List.replicate 11 false ++ List.replicate 30 true) = some (.one .nils, hX d ++ hB3 p, List.replicate 22 true ++ (List.replicate 4 (h1 p == true) ++ o0 p)) := by kernel_rfl
theorem hd_C (p : rPacket.den) (d : rMsg.den) : EDf.run 12 (aH p) (hX d) (List.replicate 13 false ++ List.replicate 30 true) = some (.one .nils, hX d ++ hB3 p, List.replicate 13 true ++ (List.replicate 9 (h2 p == true) ++ o1 p)) := by kernel_rfl
theorem hd_D (p : rPacket.den) (d : rMsg.den) : EDf.run 12 (aH p) (hX d) (List.replicate 20 false ++ List.replicate 30 true) = some (.one .nils, hX d ++ hB3 p, List.replicate 1 true ++ (List.replicate 12 (h3 p == true) ++ o2 p)) := by kernel_rfl
theorem hd_E (p : rPacket.den) (d : rMsg.den) : EDf.run 12 (aH p) (hX d) (List.replicate 29 false ++ [true]) = some (.one .nils, hX d ++ hB3 p, (h4 p == true) :: o3 p) := by kernel_rfl
theorem hW_ids : ∀ b ∈ hW, ∀ i ∈ idsB b, i < 7 := by simp [hW, idsB, idsC]
theorem hX_ids (d : rMsg.den) : ∀ b ∈ hX d, ∀ i ∈ idsB b, i < 7 := fun b hb => by
  rcases List.mem_append.1 hb with hb | hb
  · exact hW_ids b hb
  · rw [List.mem_singleton.1 hb]
    simp [idsB, idsC, CT.cells]
theorem handle_h (p : rPacket.den) (d : rMsg.den) (hs : szk p.2.2.1 = true) (h : hT p = true ∨ h4 p = true) : HeapCall Tryz.prog 12 (aH p) (hX d) (.one .nils) (hX d) := by
  have t : t13.all (fun c => c) = true := rfl
  cases eT : hT p with
  | true => exact EDf.heap_cut 7 (hd_A p d) (allI (by rw [List.all_cons, eT, t]; rfl)) (Nat.le_refl 7) (by simp [idsV, idsC]) (by kernel_rfl) (hX_ids d)
  | false =>
    have e4 : h4 p = true := by
      rcases h with h | h
      · rw [eT] at h; cases h
      · exact h
    have g0 : (o0 p).all (fun c => c) = true := by unfold o0; rw [List.all_cons, List.all_cons, hs, eT, t]; rfl
    cases e1 : h1 p with
    | true => exact EDf.heap_cut 7 (hd_B p d) (allI (by rw [List.all_append, List.all_append, g0, e1]; rfl)) (Nat.le_refl 7) (by simp [idsV, idsC]) (by kernel_rfl) (hX_ids d)
    | false =>
      have g1 : (o1 p).all (fun c => c) = true := by unfold o1; rw [List.all_cons, List.all_cons, List.all_cons, g0, e1]; rfl
      cases e2 : h2 p with
      | true => exact EDf.heap_cut 7 (hd_C p d) (allI (by rw [List.all_append, List.all_append, g1, e2]; rfl)) (Nat.le_refl 7) (by simp [idsV, idsC]) (by kernel_rfl) (hX_ids d)
      | false =>
        have g2 : (o2 p).all (fun c => c) = true := by unfold o2; rw [List.all_cons, List.all_append, g1, e2]; rfl
        cases e3 : h3 p with
        | true => exact EDf.heap_cut 7 (hd_D p d) (allI (by rw [List.all_append, List.all_append, g2, e3]; rfl)) (Nat.le_refl 7) (by simp [idsV, idsC]) (by kernel_rfl) (hX_ids d)
        | false =>
          have g3 : (o3 p).all (fun c => c) = true := by unfold o3; rw [List.all_cons, List.all_cons, List.all_append, g2, e3]; rfl
          exact EDf.heap_cut 7 (hd_E p d) (allI (by rw [List.all_cons, g3, e4]; rfl)) (Nat.le_refl 7) (by simp [idsV, idsC]) (by kernel_rfl) (hX_ids d)
end Go.Proofs.YtiodkcnponhhgaaGreat
