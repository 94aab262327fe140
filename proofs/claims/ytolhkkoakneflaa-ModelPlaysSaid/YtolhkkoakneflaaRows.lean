/-
  No cell of these rows narrows 'for every input' (looked for: loops, veiled, ifaces, maps, wideKeys, modest, calm, conditions, laid).
  DERIVED. THE GIVEN ROWS OF THIS SEAT. 6 by the template 'for every input the law returns true; each argument reads behind the call as it read before'; 0 by the template 'total and deterministic' (their statements: YtolhkkoakneflaaTotals.lean).
  GIVEN WITH THE SEED: the statements are not yours to turn. If you find one false, say at which input.
  Laid BY PROGRAM, IN A SANDBOX (cutbox-rows.mjs): the forced cells as the released guide's own fill.sh prints them over the translation 42eb227cc98dc4ed… (all of the seat's roots in one cut). By AI agents, Wed Nov 11 2026. No macro, syntax, notation, axiom, sorry.
-/
import Derived.Test.YtolhkkoakneflaaChecked
import GoSem.Claim
import GoSem.ClaimJoined
import GoSem.ClaimMapViews
import Derived.JoinedTies
import Derived.KernelRfl
namespace Go.Proofs.Ytolhkkoakneflaa
/- THE CELL 'sum', in the pinned program and in every row, IS THE sha256 OF THE DUMP (.gsa) THAT YtolhkkoakneflaaProg.lean LOADS. Nothing in Lean hashes anything: it is a label: what it is worth is what the hold of that sum in a sandbox is worth. -/
noncomputable def Try.pinned : Pinned := { name := "ytolhkkoakneflaa", sum := "42eb227cc98dc4eda4de7a76b215a0c18e940363cefdb3e786d0ee15d2ed6fb6", checked := Try.checked }
namespace Rows
def none {H : Type} : Left H := { results := [], args := [] }

/-- 'acreagelaw15.ModelEffects': WHATEVER THE INPUT: true; the input reads as it did. -/
def modelEffectsSpec : ChangeSpec := { name := "modelEffects", fn := fun _ => fun
  | [d1, d2] => { results := [.lit (.bool true)], args := [d1, d2] }
  | _ => none }
def modelEffectsRow : OpenClaim := { program := "ytolhkkoakneflaa", sum := "42eb227cc98dc4eda4de7a76b215a0c18e940363cefdb3e786d0ee15d2ed6fb6", func := "acreage/acreagelaw15.ModelEffects", spec := "modelEffects", unfollowed := true, recurses := true, plainKeys := false, apart := false }
def ModelEffectsSaid : Prop := modelEffectsRow.holds Try.pinned (OpenSpec.ofChange modelEffectsSpec)

/-- ITS FALSE NEIGHBOUR: 'it returns false'. Refute it at one input. -/
def modelEffectsWrong : ChangeSpec := { name := "modelEffects", fn := fun _ => fun
  | [d1, d2] => { results := [.lit (.bool false)], args := [d1, d2] }
  | _ => none }
def ModelEffectsWrongFalsely : Prop := modelEffectsRow.holds Try.pinned (OpenSpec.ofChange modelEffectsWrong)

/-- 'acreagelaw15.ModelLast': WHATEVER THE INPUT: true; the input reads as it did. -/
def modelLastSpec : ChangeSpec := { name := "modelLast", fn := fun _ => fun
  | [d] => { results := [.lit (.bool true)], args := [d] }
  | _ => none }
def modelLastRow : OpenClaim := { program := "ytolhkkoakneflaa", sum := "42eb227cc98dc4eda4de7a76b215a0c18e940363cefdb3e786d0ee15d2ed6fb6", func := "acreage/acreagelaw15.ModelLast", spec := "modelLast", unfollowed := true, recurses := true, plainKeys := false, apart := false }
def ModelLastSaid : Prop := modelLastRow.holds Try.pinned (OpenSpec.ofChange modelLastSpec)

/-- ITS FALSE NEIGHBOUR: 'it returns false'. Refute it at one input. -/
def modelLastWrong : ChangeSpec := { name := "modelLast", fn := fun _ => fun
  | [d] => { results := [.lit (.bool false)], args := [d] }
  | _ => none }
def ModelLastWrongFalsely : Prop := modelLastRow.holds Try.pinned (OpenSpec.ofChange modelLastWrong)

/-- 'acreagelaw15.ModelSeeks': WHATEVER THE INPUT: true; the input reads as it did. -/
def modelSeeksSpec : ChangeSpec := { name := "modelSeeks", fn := fun _ => fun
  | [d1, d2] => { results := [.lit (.bool true)], args := [d1, d2] }
  | _ => none }
def modelSeeksRow : OpenClaim := { program := "ytolhkkoakneflaa", sum := "42eb227cc98dc4eda4de7a76b215a0c18e940363cefdb3e786d0ee15d2ed6fb6", func := "acreage/acreagelaw15.ModelSeeks", spec := "modelSeeks", unfollowed := true, recurses := true, plainKeys := false, apart := false }
def ModelSeeksSaid : Prop := modelSeeksRow.holds Try.pinned (OpenSpec.ofChange modelSeeksSpec)

/-- ITS FALSE NEIGHBOUR: 'it returns false'. Refute it at one input. -/
def modelSeeksWrong : ChangeSpec := { name := "modelSeeks", fn := fun _ => fun
  | [d1, d2] => { results := [.lit (.bool false)], args := [d1, d2] }
  | _ => none }
def ModelSeeksWrongFalsely : Prop := modelSeeksRow.holds Try.pinned (OpenSpec.ofChange modelSeeksWrong)

/-- 'acreagelaw15.ModelRows': WHATEVER THE INPUT: true; the input reads as it did. -/
def modelRowsSpec : ChangeSpec := { name := "modelRows", fn := fun _ => fun
  | [d] => { results := [.lit (.bool true)], args := [d] }
  | _ => none }
def modelRowsRow : OpenClaim := { program := "ytolhkkoakneflaa", sum := "42eb227cc98dc4eda4de7a76b215a0c18e940363cefdb3e786d0ee15d2ed6fb6", func := "acreage/acreagelaw15.ModelRows", spec := "modelRows", inPlace := ["internal/bytealg.abigen_runtime_cmpstring"], unfollowed := true, recurses := true, plainKeys := false, apart := false }
def ModelRowsSaid : Prop := modelRowsRow.holds Try.pinned (OpenSpec.ofChange modelRowsSpec)

/-- ITS FALSE NEIGHBOUR: 'it returns false'. Refute it at one input. -/
def modelRowsWrong : ChangeSpec := { name := "modelRows", fn := fun _ => fun
  | [d] => { results := [.lit (.bool false)], args := [d] }
  | _ => none }
def ModelRowsWrongFalsely : Prop := modelRowsRow.holds Try.pinned (OpenSpec.ofChange modelRowsWrong)

/-- 'acreagelaw15.ModelPlays': WHATEVER THE INPUT: true; the input reads as it did. -/
def modelPlaysSpec : ChangeSpec := { name := "modelPlays", fn := fun _ => fun
  | [d] => { results := [.lit (.bool true)], args := [d] }
  | _ => none }
def modelPlaysRow : OpenClaim := { program := "ytolhkkoakneflaa", sum := "42eb227cc98dc4eda4de7a76b215a0c18e940363cefdb3e786d0ee15d2ed6fb6", func := "acreage/acreagelaw15.ModelPlays", spec := "modelPlays", inPlace := ["internal/bytealg.abigen_runtime_cmpstring"], unfollowed := true, recurses := true, plainKeys := false, apart := false }
def ModelPlaysSaid : Prop := modelPlaysRow.holds Try.pinned (OpenSpec.ofChange modelPlaysSpec)

/-- ITS FALSE NEIGHBOUR: 'it returns false'. Refute it at one input. -/
def modelPlaysWrong : ChangeSpec := { name := "modelPlays", fn := fun _ => fun
  | [d] => { results := [.lit (.bool false)], args := [d] }
  | _ => none }
def ModelPlaysWrongFalsely : Prop := modelPlaysRow.holds Try.pinned (OpenSpec.ofChange modelPlaysWrong)

/-- 'acreagelaw15.ModelKnown': WHATEVER THE INPUT: true; the input reads as it did. -/
def modelKnownSpec : ChangeSpec := { name := "modelKnown", fn := fun _ => fun
  | [] => { results := [.lit (.bool true)], args := [] }
  | _ => none }
def modelKnownRow : OpenClaim := { program := "ytolhkkoakneflaa", sum := "42eb227cc98dc4eda4de7a76b215a0c18e940363cefdb3e786d0ee15d2ed6fb6", func := "acreage/acreagelaw15.ModelKnown", spec := "modelKnown", inPlace := ["internal/bytealg.abigen_runtime_cmpstring"], unfollowed := true, recurses := true, plainKeys := false, apart := false }
def ModelKnownSaid : Prop := modelKnownRow.holds Try.pinned (OpenSpec.ofChange modelKnownSpec)

/-- ITS FALSE NEIGHBOUR: 'it returns false'. Refute it at one input. -/
def modelKnownWrong : ChangeSpec := { name := "modelKnown", fn := fun _ => fun
  | [] => { results := [.lit (.bool false)], args := [] }
  | _ => none }
def ModelKnownWrongFalsely : Prop := modelKnownRow.holds Try.pinned (OpenSpec.ofChange modelKnownWrong)

/- THE SECOND FORM. 'bulk': how many values and letters a reading holds, each counted each time it is reached (what is shared counts as often as it is met; a slice's spare places count too). A statement '..UptoSaid' is the law's where the arguments, and the package variables that the reading takes, are together of bulk at most 1048576: NARROWER than '..Said'. Prove '..Said' where nothing that the law and all that it calls make is longer than what came in: it says more and counts as full. Else prove '..UptoSaid'. A law counts once. -/
mutual
def uptoBulk {H : Type} : DataW H → Nat
  | .lit (.string bytes) => bytes.length + 1
  | .lit _ => 1
  | .nil => 1
  | .ptr d => uptoBulk d + 1
  | .slice elems spare => uptoBulkAll elems + uptoBulkAll spare + 1
  | .agg parts => uptoBulkAll parts + 1
  | .iface _ d => uptoBulk d + 1
  | .map entries => uptoBulkEntries entries + 1
  | .held _ => 1
def uptoBulkAll {H : Type} : List (DataW H) → Nat
  | [] => 0
  | d :: r => uptoBulk d + uptoBulkAll r
def uptoBulkEntries {H : Type} : List (Lit × DataW H) → Nat
  | [] => 0
  | x :: r => uptoBulkEntry x + uptoBulkEntries r
def uptoBulkEntry {H : Type} : Lit × DataW H → Nat
  | (.string bytes, d) => bytes.length + uptoBulk d + 1
  | (_, d) => uptoBulk d + 1
 end
def uptoSmall : (H : Type) → List (DataW H) → Bool := fun _ ds => decide (uptoBulkAll ds ≤ 1048576)
def OpenSpec.upto (s : _root_.Go.ChangeSpec) : _root_.Go.OpenSpec := { _root_.Go.OpenSpec.ofChange s with cond := some uptoSmall }

/-- 'acreagelaw15.ModelEffects', WHERE WHAT IT READS IS OF BULK AT MOST 1048576: true; the input reads as it did. -/
def modelEffectsUptoRow : OpenClaim := { program := "ytolhkkoakneflaa", sum := "42eb227cc98dc4eda4de7a76b215a0c18e940363cefdb3e786d0ee15d2ed6fb6", func := "acreage/acreagelaw15.ModelEffects", spec := "modelEffects", unfollowed := true, recurses := true, plainKeys := false, apart := false, narrowed := true }
def ModelEffectsUptoSaid : Prop := modelEffectsUptoRow.holds Try.pinned (OpenSpec.upto modelEffectsSpec)

/-- 'acreagelaw15.ModelLast', WHERE WHAT IT READS IS OF BULK AT MOST 1048576: true; the input reads as it did. -/
def modelLastUptoRow : OpenClaim := { program := "ytolhkkoakneflaa", sum := "42eb227cc98dc4eda4de7a76b215a0c18e940363cefdb3e786d0ee15d2ed6fb6", func := "acreage/acreagelaw15.ModelLast", spec := "modelLast", unfollowed := true, recurses := true, plainKeys := false, apart := false, narrowed := true }
def ModelLastUptoSaid : Prop := modelLastUptoRow.holds Try.pinned (OpenSpec.upto modelLastSpec)

/-- 'acreagelaw15.ModelSeeks', WHERE WHAT IT READS IS OF BULK AT MOST 1048576: true; the input reads as it did. -/
def modelSeeksUptoRow : OpenClaim := { program := "ytolhkkoakneflaa", sum := "42eb227cc98dc4eda4de7a76b215a0c18e940363cefdb3e786d0ee15d2ed6fb6", func := "acreage/acreagelaw15.ModelSeeks", spec := "modelSeeks", unfollowed := true, recurses := true, plainKeys := false, apart := false, narrowed := true }
def ModelSeeksUptoSaid : Prop := modelSeeksUptoRow.holds Try.pinned (OpenSpec.upto modelSeeksSpec)

/-- 'acreagelaw15.ModelRows', WHERE WHAT IT READS IS OF BULK AT MOST 1048576: true; the input reads as it did. -/
def modelRowsUptoRow : OpenClaim := { program := "ytolhkkoakneflaa", sum := "42eb227cc98dc4eda4de7a76b215a0c18e940363cefdb3e786d0ee15d2ed6fb6", func := "acreage/acreagelaw15.ModelRows", spec := "modelRows", inPlace := ["internal/bytealg.abigen_runtime_cmpstring"], unfollowed := true, recurses := true, plainKeys := false, apart := false, narrowed := true }
def ModelRowsUptoSaid : Prop := modelRowsUptoRow.holds Try.pinned (OpenSpec.upto modelRowsSpec)

/-- 'acreagelaw15.ModelPlays', WHERE WHAT IT READS IS OF BULK AT MOST 1048576: true; the input reads as it did. -/
def modelPlaysUptoRow : OpenClaim := { program := "ytolhkkoakneflaa", sum := "42eb227cc98dc4eda4de7a76b215a0c18e940363cefdb3e786d0ee15d2ed6fb6", func := "acreage/acreagelaw15.ModelPlays", spec := "modelPlays", inPlace := ["internal/bytealg.abigen_runtime_cmpstring"], unfollowed := true, recurses := true, plainKeys := false, apart := false, narrowed := true }
def ModelPlaysUptoSaid : Prop := modelPlaysUptoRow.holds Try.pinned (OpenSpec.upto modelPlaysSpec)

/-- 'acreagelaw15.ModelKnown', WHERE WHAT IT READS IS OF BULK AT MOST 1048576: true; the input reads as it did. -/
def modelKnownUptoRow : OpenClaim := { program := "ytolhkkoakneflaa", sum := "42eb227cc98dc4eda4de7a76b215a0c18e940363cefdb3e786d0ee15d2ed6fb6", func := "acreage/acreagelaw15.ModelKnown", spec := "modelKnown", inPlace := ["internal/bytealg.abigen_runtime_cmpstring"], unfollowed := true, recurses := true, plainKeys := false, apart := false, narrowed := true }
def ModelKnownUptoSaid : Prop := modelKnownUptoRow.holds Try.pinned (OpenSpec.upto modelKnownSpec)

end Rows
end Go.Proofs.Ytolhkkoakneflaa
