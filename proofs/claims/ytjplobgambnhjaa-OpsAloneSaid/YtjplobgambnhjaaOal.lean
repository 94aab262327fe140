/- OpsAlone, its run; no statement. -/
import Derived.Test.YtjplobgambnhjaaOalK123
import Derived.Test.YtjplobgambnhjaaOalK4567
set_option linter.unusedVariables false
namespace Go.Proofs.Ytjplobgambnhjaa
open Go Go.Eng
abbrev sCB : List PT := [.agg rCmd, .one cB]
theorem alone_law (d : dens sCB) (h : WFs sCB d) : PureCall Try.prog 10 (encs sCB d) (vB true) := by
  obtain ⟨⟨k, r⟩, n, _⟩ := d
  have hn : (0 : Int) ≤ n ∧ n ≤ 255 := h.2.1
  have hb : by3 n = 1 ∨ by3 n = 2 ∨ by3 n = 3 := by
    have e : n.tmod 3 = n % 3 := Int.tmod_eq_emod_of_nonneg hn.1
    unfold by3
    rw [e, wrap64 (n := n % 3) (by omega) (by omega), wrap64 (by omega) (by omega)]
    omega
  have z1 : (ByteArray.size r.2.2.2.2.2.2.1) ≤ 0x7ffffffff000 := h.1.2.2.2.2.2.2.2.1
  have z2 : (ByteArray.size r.2.2.2.2.2.2.2.1) ≤ 0x7ffffffff000 := h.1.2.2.2.2.2.2.2.2.1
  have s1 : decide (ByteArray.size r.2.2.2.2.2.2.1 + (ByteArray.mk #[107]).size ≤ 9223372036854775807) = true := decide_eq_true (by have : (ByteArray.mk #[107]).size = 1 := rfl; omega)
  have s0 : decide (ByteArray.size r.2.2.2.2.2.2.2.1 + (ByteArray.mk #[118]).size ≤ 9223372036854775807) = true := decide_eq_true (by have : (ByteArray.mk #[118]).size = 1 := rfl; omega)
  show PureCall Try.prog _ [.agg (rCmd.cells (k, r)), .one (.int .u8 n)] _
  by_cases h0 : cmdV (k, r) = 0
  · rcases kindN (k, r) h0 with hk | hk | hk | hk | hk | hk | hk | hk
    · have hk : k = 0 := hk
      subst hk; exact alone0 (0, r) n hb s0 s1 h0
    · have hk : k = 1 := hk
      subst hk; exact alone1 (1, r) n hb s0 s1 h0
    · have hk : k = 2 := hk
      subst hk; exact alone2 (2, r) n hb s0 s1 h0
    · have hk : k = 3 := hk
      subst hk; exact alone3 (3, r) n hb s0 s1 h0
    · have hk : k = 4 := hk
      subst hk; exact alone4 (4, r) n hb s0 s1 h0
    · have hk : k = 5 := hk
      subst hk; exact alone5 (5, r) n hb s0 s1 h0
    · have hk : k = 6 := hk
      subst hk; exact alone6 (6, r) n hb s0 s1 h0
    · have hk : k = 7 := hk
      subst hk; exact alone7 (7, r) n hb s0 s1 h0
  · exact alone_no (k, r) n (by rw [bne_iff_ne]; exact h0)
end Go.Proofs.Ytjplobgambnhjaa
