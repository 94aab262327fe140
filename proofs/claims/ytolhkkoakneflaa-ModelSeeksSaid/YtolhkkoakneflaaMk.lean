/- What an operation by small numbers answers and leaves: plain; no statement. -/
import Derived.Test.YtolhkkoakneflaaMj
set_option linter.unusedVariables false
set_option linter.unusedSimpArgs false
namespace Go.Proofs.Ytolhkkoakneflaa
open Go Go.Eng

abbrev e0B : ByteArray := ByteArray.mk #[]
def opP (k : Int) (ρ γ : Nat) (x : ByteArray) (h : Bool) (y : ByteArray) : rOp.den := (k, rowN ρ, colN γ, x, h, y, ())
theorem emp_ne {x : ByteArray} (h : x.size ≠ 0) : (ByteArray.toList x == (ByteArray.mk #[]).toList) = false := by
  rw [bl]; exact beqF (fun e => h (by rw [e]; rfl))
theorem colN_emp (γ : Nat) : (ByteArray.toList (colN γ) == (ByteArray.mk #[]).toList) = false := emp_ne (by rw [colN_size]; decide)
theorem rowN_emp (γ : Nat) : (ByteArray.toList (rowN γ) == (ByteArray.mk #[]).toList) = false := emp_ne (by rw [rowN_size]; decide)
theorem isE_c (γ : Nat) : (colN γ).toList.isEmpty = false := by
  cases h : (colN γ).toList with
  | nil =>
    have := congrArg List.length h
    rw [toList_len, colN_size] at this
    exact absurd this (by decide)
  | cons a r => rfl
theorem isE_r (γ : Nat) : (rowN γ).toList.isEmpty = false := by
  cases h : (rowN γ).toList with
  | nil =>
    have := congrArg List.length h
    rw [toList_len, rowN_size] at this
    exact absurd this (by decide)
  | cons a r => rfl
theorem es0 : e0B.size = 0 := rfl
theorem chk_put (ρ γ : Nat) (x : ByteArray) (hx : x.size ≤ 1) : chkV (opP 1 ρ γ x false e0B) = 0 := by
  have s1 := rowN_size ρ
  have s2 := colN_size γ
  unfold chkV q1 q2 q3 q4 opP
  have hx' : ¬ (256 < ((x.size : Nat) : Int)) := by omega
  have hx2 : ¬ (((x.size : Nat) : Int) < 0) := by omega
  simp [s1, s2, baRfl, isE_c, isE_r, es0, hx', hx2]
theorem chk_get (ρ γ : Nat) : chkV (opP 2 ρ γ e0B false e0B) = 0 := by
  have s1 := rowN_size ρ
  have s2 := colN_size γ
  unfold chkV q1 q2 q3 q4 opP
  simp [s1, s2, baRfl, isE_c, isE_r, es0]
theorem chk_del (ρ γ : Nat) : chkV (opP 3 ρ γ e0B false e0B) = 0 := by
  have s1 := rowN_size ρ
  have s2 := colN_size γ
  unfold chkV q1 q2 q3 q4 opP
  simp [s1, s2, baRfl, isE_c, isE_r, es0]
theorem chk_chk (ρ γ : Nat) (x : ByteArray) (hx : x.size ≤ 1) (h : Bool) (y : ByteArray) (hy : y.size ≤ 1) (hh : h = false → y = e0B) : chkV (opP 4 ρ γ x h y) = 0 := by
  have s1 := rowN_size ρ
  have s2 := colN_size γ
  cases h with
  | true =>
    unfold chkV q1 q2 q3 q4 opP
    have hx' : ¬ (256 < ((x.size : Nat) : Int)) := by omega
    have hy' : ¬ (256 < ((y.size : Nat) : Int)) := by omega
    simp [s1, s2, baRfl, isE_c, isE_r, es0]
    split <;> simp [hx', hy']
  | false =>
    rw [hh rfl]
    unfold chkV q1 q2 q3 q4 opP
    have hx' : ¬ (256 < ((x.size : Nat) : Int)) := by omega
    have hx2 : ¬ (((x.size : Nat) : Int) < 0) := by omega
    simp [s1, s2, baRfl, isE_c, isE_r, es0, hx', hx2]

/-- What is there of a row: its count, and the cell of a column. -/
def two2 (r c : ByteArray) (n w : Int) (g : Bool) (v : ByteArray) (b0 b1 : Bool) : List rCell.den := (bif b0 then [(r, ByteArray.mk #[], n, false, ByteArray.mk #[], ())] else []) ++ (bif b1 then [(r, c, w, g, v, ())] else [])
section
variable (ρ γ : Nat) (n w : Int) (g : Bool) (v x y : ByteArray) (b0 b1 h : Bool)
theorem eff_get : effV (opP 2 ρ γ e0B false e0B) (two2 (rowN ρ) (colN γ) n w g v b0 b1) = (bif b1 && !g then (0, true, e0B, v, w, ()) else (0, false, e0B, e0B, 0, ()), []) := by
  obtain ⟨s1, s2⟩ := nsw_two (rowN ρ) (colN γ) (colN_ne γ) n w g v b0 b1
  have hk := chk_get ρ γ
  unfold effV hereV
  rw [hk]
  simp only [opP, two2] at *
  rw [s1]
  cases b1 <;> cases g <;> simp
theorem eff_put (hx : x.size ≤ 1) (hn : b0 = false → n = 0) (h0 : 0 ≤ n) (h1 : n < 1000) : effV (opP 1 ρ γ x false e0B) (two2 (rowN ρ) (colN γ) n w g v b0 b1) = ((0, false, e0B, e0B, n + 1, ()), [(rowN ρ, e0B, n + 1, false, e0B, ()), (rowN ρ, colN γ, n + 1, false, x, ())]) := by
  obtain ⟨s1, s2⟩ := nsw_two (rowN ρ) (colN γ) (colN_ne γ) n w g v b0 b1
  have hk := chk_put ρ γ x hx
  have hw : IntKind.u64.wrap (n + 1) = n + 1 := wrapU64 (by omega) (by omega)
  unfold effV hereV
  rw [hk]
  simp only [opP, two2] at *
  simp only [s1, s2]
  have hb : (bif b0 then ((rowN ρ, ByteArray.mk #[], n, false, ByteArray.mk #[], ()), true) else (rCell.dflt, false)).1.2.2.1 = n := by
    cases b0 with
    | true => rfl
    | false => rw [hn rfl]; rfl
  simp only [hb, hw]
  have hd : decide (n ≥ 1099511627776) = false := decide_eq_false (by omega)
  simp [hd]
theorem eff_del (hn : b0 = false → n = 0) (h0 : 0 ≤ n) (h1 : n < 1000) : effV (opP 3 ρ γ e0B false e0B) (two2 (rowN ρ) (colN γ) n w g v b0 b1) = (bif b1 && !g then ((0, true, e0B, e0B, n + 1, ()), [(rowN ρ, e0B, n + 1, false, e0B, ()), (rowN ρ, colN γ, n + 1, true, e0B, ())]) else ((0, false, e0B, e0B, 0, ()), [])) := by
  obtain ⟨s1, s2⟩ := nsw_two (rowN ρ) (colN γ) (colN_ne γ) n w g v b0 b1
  have hk := chk_del ρ γ
  have hw : IntKind.u64.wrap (n + 1) = n + 1 := wrapU64 (by omega) (by omega)
  unfold effV hereV
  rw [hk]
  simp only [opP, two2] at *
  simp only [s1, s2]
  have hb : (bif b0 then ((rowN ρ, ByteArray.mk #[], n, false, ByteArray.mk #[], ()), true) else (rCell.dflt, false)).1.2.2.1 = n := by
    cases b0 with
    | true => rfl
    | false => rw [hn rfl]; rfl
  simp only [hb, hw]
  have hd : decide (n ≥ 1099511627776) = false := decide_eq_false (by omega)
  cases b1 <;> cases g <;> simp [hd]
theorem eff_chk (hx : x.size ≤ 1) (hy : y.size ≤ 1) (hh : h = false → y = e0B) (hn : b0 = false → n = 0) (h0 : 0 ≤ n) (h1 : n < 1000) : effV (opP 4 ρ γ x h y) (two2 (rowN ρ) (colN γ) n w g v b0 b1) =
    (bif ((b1 && !g) == h) && (!(b1 && !g) || (v == y)) then ((0, true, e0B, e0B, n + 1, ()), [(rowN ρ, e0B, n + 1, false, e0B, ()), (rowN ρ, colN γ, n + 1, false, x, ())])
    else (bif b1 && !g then (0, false, e0B, v, w, ()) else (0, false, e0B, e0B, 0, ()), [])) := by
  obtain ⟨s1, s2⟩ := nsw_two (rowN ρ) (colN γ) (colN_ne γ) n w g v b0 b1
  have hk := chk_chk ρ γ x hx h y hy hh
  have hw : IntKind.u64.wrap (n + 1) = n + 1 := wrapU64 (by omega) (by omega)
  unfold effV hereV
  rw [hk]
  simp only [opP, two2] at *
  simp only [s1, s2]
  have hb : (bif b0 then ((rowN ρ, ByteArray.mk #[], n, false, ByteArray.mk #[], ()), true) else (rCell.dflt, false)).1.2.2.1 = n := by
    cases b0 with
    | true => rfl
    | false => rw [hn rfl]; rfl
  simp only [hb, hw]
  have hd : decide (n ≥ 1099511627776) = false := decide_eq_false (by omega)
  cases b1 <;> cases g <;> cases h <;> simp [hd] <;> cases hv : (v == y) <;> simp_all
end
end Go.Proofs.Ytolhkkoakneflaa
