/- A log in memory; no statement. -/
import Derived.Test.YtmbekpoelkcceaaSam
set_option linter.unusedVariables false
set_option linter.unusedSimpArgs false
namespace Go.Proofs.Ytmbekpoelkcceaa
open Go Go.Eng

/-- The base that was handed to New, and a log whose base is zero. -/
abbrev baB : AB := .cells [.int .u64 0, .int .u64 0, .nils]
abbrev logB (x : List rEntry.den) (m : SM) : AB := .cells [.int .u64 0, .int .u64 0, .sl (.int .i64) [] .shared, .sl rEntry x m, .bool true]
def asE (r : CT) (l : List r.den) : Option (List rEntry.den) := if h : r.eqb rEntry = true then some (castL r rEntry h l) else none
theorem asE_eq {r : CT} {l : List r.den} {x : List rEntry.den} (h : asE r l = some x) : r = rEntry ∧ HEq l x := by
  unfold asE at h
  split at h
  · rename_i h1
    have e := CT.eq_of_eqb _ _ h1
    subst e
    injection h with h
    exact ⟨rfl, heq_of_eq h⟩
  · cases h
end Go.Proofs.Ytmbekpoelkcceaa
