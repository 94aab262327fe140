/- SessionPuts, its run; no statement. -/
import Derived.Test.YtkpehdhkhmomoaaPut
set_option linter.unusedVariables false
namespace Go.Proofs.Ytkpehdhkhmomoaa
open Go Go.Eng

def mn (c : Int) (b : ByteArray) : Int := if c < ((b.size : Nat) : Int) then c else ((b.size : Nat) : Int)
theorem mn_ok {c : Int} (hc : 0 ≤ c) (b : ByteArray) : 0 ≤ mn c b ∧ mn c b ≤ ((b.size : Nat) : Int) := by unfold mn; split <;> omega
theorem uOk_of {n : Int} (h : WF cU n) : uOk n = true := by
  have h1 : (0 : Int) ≤ n := h.1
  have h2 : n ≤ 18446744073709551615 := h.2
  rw [uOk, decide_eq_true h1, decide_eq_true (show n < 18446744073709551616 by omega)]; rfl
abbrev sUR : List PT := [.one cU, .agg rRes]
theorem puts_law (d : dens sUR) (h : WFs sUR d) : PureCall Try.prog 3 (encs sUR d) (vB true) := by
  obtain ⟨n, ⟨e, f, row, val, ver, _⟩, _⟩ := d
  have hn := uOk_of h.1
  have hv : uOk ver = true := uOk_of h.2.1.2.2.2.2.1
  have m1 := mn_ok (show (0 : Int) ≤ 100 by decide) row
  have m2 := mn_ok (show (0 : Int) ≤ 131072 by decide) val
  show PureCall Try.prog _ [vU n, .agg [.int .i64 e, .bool f, .str row, .str val, .int .u64 ver]] _
  exact EPutW.pure_ok (os := [true, true, true, true, true, true]) (cs := [((putE n e f (row.extract (Int.toNat 0) (mn 100 row).toNat) (val.extract (Int.toNat 0) (mn 131072 val).toNat) ver == putE n e f (row.extract (Int.toNat 0) (mn 100 row).toNat) (val.extract (Int.toNat 0) (mn 131072 val).toNat) ver) == true), ((putE n e f (row.extract (Int.toNat 0) (mn 100 row).toNat) (val.extract (Int.toNat 0) (mn 131072 val).toNat) ver == putE n e f (row.extract (Int.toNat 0) (mn 100 row).toNat) (val.extract (Int.toNat 0) (mn 131072 val).toNat) ver) == true), (((putV n e f (row.extract (Int.toNat 0) (mn 100 row).toNat) (val.extract (Int.toNat 0) (mn 131072 val).toNat) ver).toList == (putV n e f (row.extract (Int.toNat 0) (mn 100 row).toNat) (val.extract (Int.toNat 0) (mn 131072 val).toNat) ver).toList) == true), (((putV n e f (row.extract (Int.toNat 0) (mn 100 row).toNat) (val.extract (Int.toNat 0) (mn 131072 val).toNat) ver).toList == (putV n e f (row.extract (Int.toNat 0) (mn 100 row).toNat) (val.extract (Int.toNat 0) (mn 131072 val).toNat) ver).toList) == true), (((putV n e f (row.extract (Int.toNat 0) (mn 100 row).toNat) (val.extract (Int.toNat 0) (mn 131072 val).toNat) ver).toList == (putV n e f (row.extract (Int.toNat 0) (mn 100 row).toNat) (val.extract (Int.toNat 0) (mn 131072 val).toNat) ver).toList) == true), (((putV n e f (row.extract (Int.toNat 0) (mn 100 row).toNat) (val.extract (Int.toNat 0) (mn 131072 val).toNat) ver).toList == (putV n e f (row.extract (Int.toNat 0) (mn 100 row).toNat) (val.extract (Int.toNat 0) (mn 131072 val).toNat) ver).toList) == true), (uOk n), (uOk ver), (uOk n), (uOk ver), (decide ((0 : Int) ≤ 0 ∧ ((0 : Int) ≤ mn 100 row) ∧ (mn 100 row) ≤ ((row.size : Nat) : Int))), (decide ((0 : Int) ≤ 0 ∧ ((0 : Int) ≤ mn 131072 val) ∧ (mn 131072 val) ≤ ((val.size : Nat) : Int)))]) (by kernel_rfl) (allI (by simp [hn, hv, m1.1, m1.2, m2.1, m2.2]))
end Go.Proofs.Ytkpehdhkhmomoaa
