/-
  No cell of these rows narrows 'for every input' (looked for: loops, veiled, ifaces, maps, wideKeys, modest, calm, conditions, laid).
  DERIVED. THE GIVEN ROWS OF THIS SEAT. 7 by the template 'for every input the law returns true; each argument reads behind the call as it read before'; 0 by the template 'total and deterministic' (their statements: YtcigjehfmiiolaaTotals.lean).
  GIVEN WITH THE SEED: the statements are not yours to turn. If you find one false, say at which input.
  Laid BY PROGRAM, IN A SANDBOX (cutbox-rows.mjs): the forced cells as the released guide's own fill.sh prints them over the translation 222ed4cc6cbeca34… (all of the seat's roots in one cut). By AI agents, Wed Nov 11 2026. No macro, syntax, notation, axiom, sorry.
-/
import Derived.Test.YtcigjehfmiiolaaChecked
import GoSem.Claim
import GoSem.ClaimJoined
import GoSem.ClaimMapViews
import Derived.JoinedTies
import Derived.KernelRfl
namespace Go.Proofs.Ytcigjehfmiiolaa
/- THE CELL 'sum', in the pinned program and in every row, IS THE sha256 OF THE DUMP (.gsa) THAT YtcigjehfmiiolaaProg.lean LOADS. Nothing in Lean hashes anything: it is a label: what it is worth is what the hold of that sum in a sandbox is worth. -/
noncomputable def Try.pinned : Pinned := { name := "ytcigjehfmiiolaa", sum := "222ed4cc6cbeca342ef2fb63e94b7157a25538e37a5d44451f0130cae5fbb25c", checked := Try.checked }
namespace Rows
def none {H : Type} : Left H := { results := [], args := [] }

/-- 'acreagelaw19.QuorumCommits': WHATEVER THE INPUT: true; the input reads as it did. -/
def quorumCommitsSpec : ChangeSpec := { name := "quorumCommits", fn := fun _ => fun
  | [d1, d2] => { results := [.lit (.bool true)], args := [d1, d2] }
  | _ => none }
def quorumCommitsRow : OpenClaim := { program := "ytcigjehfmiiolaa", sum := "222ed4cc6cbeca342ef2fb63e94b7157a25538e37a5d44451f0130cae5fbb25c", func := "acreage/acreagelaw19.QuorumCommits", spec := "quorumCommits", unfollowed := true, recurses := true, apart := false }
def QuorumCommitsSaid : Prop := quorumCommitsRow.holds Try.pinned (OpenSpec.ofChange quorumCommitsSpec)

/-- ITS FALSE NEIGHBOUR: 'it returns false'. Refute it at one input. -/
def quorumCommitsWrong : ChangeSpec := { name := "quorumCommits", fn := fun _ => fun
  | [d1, d2] => { results := [.lit (.bool false)], args := [d1, d2] }
  | _ => none }
def QuorumCommitsWrongFalsely : Prop := quorumCommitsRow.holds Try.pinned (OpenSpec.ofChange quorumCommitsWrong)

/-- 'acreagelaw19.QuorumReached': WHATEVER THE INPUT: true; the input reads as it did. -/
def quorumReachedSpec : ChangeSpec := { name := "quorumReached", fn := fun _ => fun
  | [d1, d2, d3] => { results := [.lit (.bool true)], args := [d1, d2, d3] }
  | _ => none }
def quorumReachedRow : OpenClaim := { program := "ytcigjehfmiiolaa", sum := "222ed4cc6cbeca342ef2fb63e94b7157a25538e37a5d44451f0130cae5fbb25c", func := "acreage/acreagelaw19.QuorumReached", spec := "quorumReached", unfollowed := true, recurses := true, apart := false }
def QuorumReachedSaid : Prop := quorumReachedRow.holds Try.pinned (OpenSpec.ofChange quorumReachedSpec)

/-- ITS FALSE NEIGHBOUR: 'it returns false'. Refute it at one input. -/
def quorumReachedWrong : ChangeSpec := { name := "quorumReached", fn := fun _ => fun
  | [d1, d2, d3] => { results := [.lit (.bool false)], args := [d1, d2, d3] }
  | _ => none }
def QuorumReachedWrongFalsely : Prop := quorumReachedRow.holds Try.pinned (OpenSpec.ofChange quorumReachedWrong)

/-- 'acreagelaw19.QuorumAsks': WHATEVER THE INPUT: true; the input reads as it did. -/
def quorumAsksSpec : ChangeSpec := { name := "quorumAsks", fn := fun _ => fun
  | [d1, d2, d3] => { results := [.lit (.bool true)], args := [d1, d2, d3] }
  | _ => none }
def quorumAsksRow : OpenClaim := { program := "ytcigjehfmiiolaa", sum := "222ed4cc6cbeca342ef2fb63e94b7157a25538e37a5d44451f0130cae5fbb25c", func := "acreage/acreagelaw19.QuorumAsks", spec := "quorumAsks", unfollowed := true, recurses := true, apart := false }
def QuorumAsksSaid : Prop := quorumAsksRow.holds Try.pinned (OpenSpec.ofChange quorumAsksSpec)

/-- ITS FALSE NEIGHBOUR: 'it returns false'. Refute it at one input. -/
def quorumAsksWrong : ChangeSpec := { name := "quorumAsks", fn := fun _ => fun
  | [d1, d2, d3] => { results := [.lit (.bool false)], args := [d1, d2, d3] }
  | _ => none }
def QuorumAsksWrongFalsely : Prop := quorumAsksRow.holds Try.pinned (OpenSpec.ofChange quorumAsksWrong)

/-- 'acreagelaw19.QuorumChanges': WHATEVER THE INPUT: true; the input reads as it did. -/
def quorumChangesSpec : ChangeSpec := { name := "quorumChanges", fn := fun _ => fun
  | [d1, d2, d3] => { results := [.lit (.bool true)], args := [d1, d2, d3] }
  | _ => none }
def quorumChangesRow : OpenClaim := { program := "ytcigjehfmiiolaa", sum := "222ed4cc6cbeca342ef2fb63e94b7157a25538e37a5d44451f0130cae5fbb25c", func := "acreage/acreagelaw19.QuorumChanges", spec := "quorumChanges", unfollowed := true, recurses := true, apart := false }
def QuorumChangesSaid : Prop := quorumChangesRow.holds Try.pinned (OpenSpec.ofChange quorumChangesSpec)

/-- ITS FALSE NEIGHBOUR: 'it returns false'. Refute it at one input. -/
def quorumChangesWrong : ChangeSpec := { name := "quorumChanges", fn := fun _ => fun
  | [d1, d2, d3] => { results := [.lit (.bool false)], args := [d1, d2, d3] }
  | _ => none }
def QuorumChangesWrongFalsely : Prop := quorumChangesRow.holds Try.pinned (OpenSpec.ofChange quorumChangesWrong)

/-- 'acreagelaw19.QuorumBack': WHATEVER THE INPUT: true; the input reads as it did. -/
def quorumBackSpec : ChangeSpec := { name := "quorumBack", fn := fun _ => fun
  | [d1, d2] => { results := [.lit (.bool true)], args := [d1, d2] }
  | _ => none }
def quorumBackRow : OpenClaim := { program := "ytcigjehfmiiolaa", sum := "222ed4cc6cbeca342ef2fb63e94b7157a25538e37a5d44451f0130cae5fbb25c", func := "acreage/acreagelaw19.QuorumBack", spec := "quorumBack", unfollowed := true, recurses := true, apart := false }
def QuorumBackSaid : Prop := quorumBackRow.holds Try.pinned (OpenSpec.ofChange quorumBackSpec)

/-- ITS FALSE NEIGHBOUR: 'it returns false'. Refute it at one input. -/
def quorumBackWrong : ChangeSpec := { name := "quorumBack", fn := fun _ => fun
  | [d1, d2] => { results := [.lit (.bool false)], args := [d1, d2] }
  | _ => none }
def QuorumBackWrongFalsely : Prop := quorumBackRow.holds Try.pinned (OpenSpec.ofChange quorumBackWrong)

/-- 'acreagelaw19.QuorumMeet': WHATEVER THE INPUT: true; the input reads as it did. -/
def quorumMeetSpec : ChangeSpec := { name := "quorumMeet", fn := fun _ => fun
  | [d1, d2, d3] => { results := [.lit (.bool true)], args := [d1, d2, d3] }
  | _ => none }
def quorumMeetRow : OpenClaim := { program := "ytcigjehfmiiolaa", sum := "222ed4cc6cbeca342ef2fb63e94b7157a25538e37a5d44451f0130cae5fbb25c", func := "acreage/acreagelaw19.QuorumMeet", spec := "quorumMeet", unfollowed := true, recurses := true, apart := false }
def QuorumMeetSaid : Prop := quorumMeetRow.holds Try.pinned (OpenSpec.ofChange quorumMeetSpec)

/-- ITS FALSE NEIGHBOUR: 'it returns false'. Refute it at one input. -/
def quorumMeetWrong : ChangeSpec := { name := "quorumMeet", fn := fun _ => fun
  | [d1, d2, d3] => { results := [.lit (.bool false)], args := [d1, d2, d3] }
  | _ => none }
def QuorumMeetWrongFalsely : Prop := quorumMeetRow.holds Try.pinned (OpenSpec.ofChange quorumMeetWrong)

/-- 'acreagelaw19.QuorumKnown': WHATEVER THE INPUT: true; the input reads as it did. -/
def quorumKnownSpec : ChangeSpec := { name := "quorumKnown", fn := fun _ => fun
  | [] => { results := [.lit (.bool true)], args := [] }
  | _ => none }
def quorumKnownRow : OpenClaim := { program := "ytcigjehfmiiolaa", sum := "222ed4cc6cbeca342ef2fb63e94b7157a25538e37a5d44451f0130cae5fbb25c", func := "acreage/acreagelaw19.QuorumKnown", spec := "quorumKnown", unfollowed := true, recurses := true, apart := false }
def QuorumKnownSaid : Prop := quorumKnownRow.holds Try.pinned (OpenSpec.ofChange quorumKnownSpec)

/-- ITS FALSE NEIGHBOUR: 'it returns false'. Refute it at one input. -/
def quorumKnownWrong : ChangeSpec := { name := "quorumKnown", fn := fun _ => fun
  | [] => { results := [.lit (.bool false)], args := [] }
  | _ => none }
def QuorumKnownWrongFalsely : Prop := quorumKnownRow.holds Try.pinned (OpenSpec.ofChange quorumKnownWrong)

/- THE SECOND FORM. 'bulk': how many values and letters a reading holds, each counted each time it is reached (what is shared counts as often as it is met; a slice's spare places count too). A statement '..UptoSaid' is the law's where the arguments, and the package variables that the reading takes, are together of bulk at most 1048576: NARROWER than '..Said'. Prove '..Said' where nothing that the law and all that it calls make is longer than what came in: it says more and counts as full. Else prove '..UptoSaid'. A law counts once. -/
mutual
def uptoBulk {H : Type} : DataW H → Nat
  | .lit (.string bytes) => bytes.length + 1
  | .lit _ => 1
  | .nil => 1
  | .ptr d => uptoBulk d + 1
  | .slice elems spare => uptoBulkAll elems + uptoBulkAll spare + 1
  | .agg parts => uptoBulkAll parts + 1
  | .iface _ d => uptoBulk d + 1
  | .map entries => uptoBulkEntries entries + 1
  | .held _ => 1
def uptoBulkAll {H : Type} : List (DataW H) → Nat
  | [] => 0
  | d :: r => uptoBulk d + uptoBulkAll r
def uptoBulkEntries {H : Type} : List (Lit × DataW H) → Nat
  | [] => 0
  | x :: r => uptoBulkEntry x + uptoBulkEntries r
def uptoBulkEntry {H : Type} : Lit × DataW H → Nat
  | (.string bytes, d) => bytes.length + uptoBulk d + 1
  | (_, d) => uptoBulk d + 1
 end
def uptoSmall : (H : Type) → List (DataW H) → Bool := fun _ ds => decide (uptoBulkAll ds ≤ 1048576)
def OpenSpec.upto (s : _root_.Go.ChangeSpec) : _root_.Go.OpenSpec := { _root_.Go.OpenSpec.ofChange s with cond := some uptoSmall }

/-- 'acreagelaw19.QuorumCommits', WHERE WHAT IT READS IS OF BULK AT MOST 1048576: true; the input reads as it did. -/
def quorumCommitsUptoRow : OpenClaim := { program := "ytcigjehfmiiolaa", sum := "222ed4cc6cbeca342ef2fb63e94b7157a25538e37a5d44451f0130cae5fbb25c", func := "acreage/acreagelaw19.QuorumCommits", spec := "quorumCommits", unfollowed := true, recurses := true, apart := false, narrowed := true }
def QuorumCommitsUptoSaid : Prop := quorumCommitsUptoRow.holds Try.pinned (OpenSpec.upto quorumCommitsSpec)

/-- 'acreagelaw19.QuorumReached', WHERE WHAT IT READS IS OF BULK AT MOST 1048576: true; the input reads as it did. -/
def quorumReachedUptoRow : OpenClaim := { program := "ytcigjehfmiiolaa", sum := "222ed4cc6cbeca342ef2fb63e94b7157a25538e37a5d44451f0130cae5fbb25c", func := "acreage/acreagelaw19.QuorumReached", spec := "quorumReached", unfollowed := true, recurses := true, apart := false, narrowed := true }
def QuorumReachedUptoSaid : Prop := quorumReachedUptoRow.holds Try.pinned (OpenSpec.upto quorumReachedSpec)

/-- 'acreagelaw19.QuorumAsks', WHERE WHAT IT READS IS OF BULK AT MOST 1048576: true; the input reads as it did. -/
def quorumAsksUptoRow : OpenClaim := { program := "ytcigjehfmiiolaa", sum := "222ed4cc6cbeca342ef2fb63e94b7157a25538e37a5d44451f0130cae5fbb25c", func := "acreage/acreagelaw19.QuorumAsks", spec := "quorumAsks", unfollowed := true, recurses := true, apart := false, narrowed := true }
def QuorumAsksUptoSaid : Prop := quorumAsksUptoRow.holds Try.pinned (OpenSpec.upto quorumAsksSpec)

/-- 'acreagelaw19.QuorumChanges', WHERE WHAT IT READS IS OF BULK AT MOST 1048576: true; the input reads as it did. -/
def quorumChangesUptoRow : OpenClaim := { program := "ytcigjehfmiiolaa", sum := "222ed4cc6cbeca342ef2fb63e94b7157a25538e37a5d44451f0130cae5fbb25c", func := "acreage/acreagelaw19.QuorumChanges", spec := "quorumChanges", unfollowed := true, recurses := true, apart := false, narrowed := true }
def QuorumChangesUptoSaid : Prop := quorumChangesUptoRow.holds Try.pinned (OpenSpec.upto quorumChangesSpec)

/-- 'acreagelaw19.QuorumBack', WHERE WHAT IT READS IS OF BULK AT MOST 1048576: true; the input reads as it did. -/
def quorumBackUptoRow : OpenClaim := { program := "ytcigjehfmiiolaa", sum := "222ed4cc6cbeca342ef2fb63e94b7157a25538e37a5d44451f0130cae5fbb25c", func := "acreage/acreagelaw19.QuorumBack", spec := "quorumBack", unfollowed := true, recurses := true, apart := false, narrowed := true }
def QuorumBackUptoSaid : Prop := quorumBackUptoRow.holds Try.pinned (OpenSpec.upto quorumBackSpec)

/-- 'acreagelaw19.QuorumMeet', WHERE WHAT IT READS IS OF BULK AT MOST 1048576: true; the input reads as it did. -/
def quorumMeetUptoRow : OpenClaim := { program := "ytcigjehfmiiolaa", sum := "222ed4cc6cbeca342ef2fb63e94b7157a25538e37a5d44451f0130cae5fbb25c", func := "acreage/acreagelaw19.QuorumMeet", spec := "quorumMeet", unfollowed := true, recurses := true, apart := false, narrowed := true }
def QuorumMeetUptoSaid : Prop := quorumMeetUptoRow.holds Try.pinned (OpenSpec.upto quorumMeetSpec)

/-- 'acreagelaw19.QuorumKnown', WHERE WHAT IT READS IS OF BULK AT MOST 1048576: true; the input reads as it did. -/
def quorumKnownUptoRow : OpenClaim := { program := "ytcigjehfmiiolaa", sum := "222ed4cc6cbeca342ef2fb63e94b7157a25538e37a5d44451f0130cae5fbb25c", func := "acreage/acreagelaw19.QuorumKnown", spec := "quorumKnown", unfollowed := true, recurses := true, apart := false, narrowed := true }
def QuorumKnownUptoSaid : Prop := quorumKnownUptoRow.holds Try.pinned (OpenSpec.upto quorumKnownSpec)

end Rows
end Go.Proofs.Ytcigjehfmiiolaa
