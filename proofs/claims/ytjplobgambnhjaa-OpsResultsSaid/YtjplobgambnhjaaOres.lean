/- OpsResults, its run; no statement. -/
import Derived.Test.YtjplobgambnhjaaEnc
import Derived.Test.YtjplobgambnhjaaOworks
set_option linter.unusedVariables false
namespace Go.Proofs.Ytjplobgambnhjaa
open Go Go.Eng
noncomputable def EOw : Env Try.prog := EEnc.addT1 18 [] (fun _ => vB true) (fun _ => []) fun _ _ => works16_pure
theorem uOk_of {n : Int} (h : WF cU n) : uOk n = true := by
  have h1 : (0 : Int) ≤ n := h.1
  have h2 : n ≤ 18446744073709551615 := h.2
  rw [uOk, decide_eq_true h1, decide_eq_true (show n < 18446744073709551616 by omega)]; rfl
abbrev sR : List PT := [.agg rRes]
theorem results_law (d : dens sR) (h : WFs sR d) : PureCall Try.prog 5 (encs sR d) (vB true) := by
  obtain ⟨⟨e, f, row, val, ver, _⟩, _⟩ := d
  have hv : uOk ver = true := uOk_of h.1.2.2.2.2.1
  show PureCall Try.prog _ [.agg [.int .i64 e, .bool f, .str row, .str val, .int .u64 ver]] _
  exact EOw.pure_ok (os := [true, true, true, true, true, true]) (cs := [((encE e row val ver == encE e row val ver) == true), ((encE e row val ver == encE e row val ver) == true), (((encV e f row val ver).toList == (encV e f row val ver).toList) == true), (((encV e f row val ver).toList == (encV e f row val ver).toList) == true), (((encV e f row val ver).toList == (encV e f row val ver).toList) == true), (((encV e f row val ver).toList == (encV e f row val ver).toList) == true), (uOk ver), (uOk ver)]) (by kernel_rfl) (allI (by simp [hv]))
end Go.Proofs.Ytjplobgambnhjaa
