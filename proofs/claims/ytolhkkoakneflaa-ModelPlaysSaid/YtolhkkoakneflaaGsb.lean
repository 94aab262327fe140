/- keys.Cmp as the sort asks for it; no statement. -/
import Derived.Test.YtolhkkoakneflaaGsa
import Derived.Test.YtolhkkoakneflaaEngZ17
import Derived.Shelf.SlSortCmp.InsertionK
set_option linter.unusedVariables false
set_option linter.unusedSimpArgs false
namespace Go.Proofs.Ytolhkkoakneflaa
open Go Go.Eng Go.Sort

/-- A cell's five values. -/
def encC (x : rCell.den) : List Value := rCell.vals x
theorem encC_eq (x : rCell.den) : encC x = [.string x.1, .string x.2.1, .int .u64 x.2.2.1, .bool x.2.2.2.1, .string x.2.2.2.2.1] := rfl
theorem encC_rel (X : Ctx) (x : rCell.den) : VR X (.agg (rCell.cells x)) (.agg (encC x).toArray) :=
  ⟨_, rfl, rel_pw (t := rCell) (v := x) (us := encC x) rfl (flat_rel rCell x rfl)⟩
theorem cmp_grown (x y : rCell.den) (W : World) : Calls Try.prog 33 (#[.agg (encC x).toArray, .agg (encC y).toArray] ++ #[]) W fun e w' => e = .returned (.int .i64 (cmpC x y)) ∧ ∃ q os', w' = grow (W.drewN q) os' := by
  have h := (cmc_pure x.1 x.2.1 x.2.2.2.2.1 y.1 y.2.1 y.2.2.2.2.1 x.2.2.1 y.2.2.1 x.2.2.2.1 y.2.2.2.1).grown W (vs := [.agg (encC x).toArray, .agg (encC y).toArray]) (PW.cons (encC_rel _ x) (PW.cons (encC_rel _ y) PW.nil))
  have e : (#[.agg (encC x).toArray, .agg (encC y).toArray] ++ #[] : Array Value) = [Value.agg (encC x).toArray, .agg (encC y).toArray].toArray := by simp
  rw [e]
  refine h.mono fun e w' ⟨val, X', h1, _, h3, h4⟩ => ⟨?_, h4⟩
  rw [h1, show val = .int .i64 (cmpC x y) from h3]
instance : Inhabited rCell.den := ⟨rCell.dflt⟩
theorem cmp_lays (blk off size : Nat) (w : World) : CmpLays Try.prog 33 #[] encC 5 cmpC blk off size w :=
  fun _ _ _ _ x y => cmp_grown x y _
end Go.Proofs.Ytolhkkoakneflaa
