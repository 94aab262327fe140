/-
  No cell of these rows narrows 'for every input' (looked for: loops, veiled, ifaces, maps, wideKeys, modest, calm, conditions, laid).
  DERIVED. THE GIVEN ROWS OF THIS SEAT. 5 by the template 'for every input the law returns true; each argument reads behind the call as it read before'; 0 by the template 'total and deterministic' (their statements: YtmbekpoelkcceaaTotals.lean).
  GIVEN WITH THE SEED: the statements are not yours to turn. If you find one false, say at which input.
  Laid BY PROGRAM, IN A SANDBOX (cutbox-rows.mjs): the forced cells as the released guide's own fill.sh prints them over the translation da9b985f85e3e217… (all of the seat's roots in one cut). By AI agents, Wed Nov 11 2026. No macro, syntax, notation, axiom, sorry.
-/
import Derived.Test.YtmbekpoelkcceaaChecked
import GoSem.Claim
import GoSem.ClaimJoined
import GoSem.ClaimMapViews
import Derived.JoinedTies
import Derived.KernelRfl
namespace Go.Proofs.Ytmbekpoelkcceaa
/- THE CELL 'sum', in the pinned program and in every row, IS THE sha256 OF THE DUMP (.gsa) THAT YtmbekpoelkcceaaProg.lean LOADS. Nothing in Lean hashes anything: it is a label: what it is worth is what the hold of that sum in a sandbox is worth. -/
noncomputable def Try.pinned : Pinned := { name := "ytmbekpoelkcceaa", sum := "da9b985f85e3e217ed46cb580ba0bac382d1fe1ad9d2ea9c8086409b7338fbcb", checked := Try.checked }
namespace Rows
def none {H : Type} : Left H := { results := [], args := [] }

/-- 'acreagelaw20.RlogMatch': WHATEVER THE INPUT: true; the input reads as it did. -/
def rlogMatchSpec : ChangeSpec := { name := "rlogMatch", fn := fun _ => fun
  | [d1, d2, d3] => { results := [.lit (.bool true)], args := [d1, d2, d3] }
  | _ => none }
def rlogMatchRow : OpenClaim := { program := "ytmbekpoelkcceaa", sum := "da9b985f85e3e217ed46cb580ba0bac382d1fe1ad9d2ea9c8086409b7338fbcb", func := "acreage/acreagelaw20.RlogMatch", spec := "rlogMatch", unfollowed := true, recurses := true, apart := false }
def RlogMatchSaid : Prop := rlogMatchRow.holds Try.pinned (OpenSpec.ofChange rlogMatchSpec)

/-- ITS FALSE NEIGHBOUR: 'it returns false'. Refute it at one input. -/
def rlogMatchWrong : ChangeSpec := { name := "rlogMatch", fn := fun _ => fun
  | [d1, d2, d3] => { results := [.lit (.bool false)], args := [d1, d2, d3] }
  | _ => none }
def RlogMatchWrongFalsely : Prop := rlogMatchRow.holds Try.pinned (OpenSpec.ofChange rlogMatchWrong)

/-- 'acreagelaw20.RlogTries': WHATEVER THE INPUT: true; the input reads as it did. -/
def rlogTriesSpec : ChangeSpec := { name := "rlogTries", fn := fun _ => fun
  | [d1, d2, d3] => { results := [.lit (.bool true)], args := [d1, d2, d3] }
  | _ => none }
def rlogTriesRow : OpenClaim := { program := "ytmbekpoelkcceaa", sum := "da9b985f85e3e217ed46cb580ba0bac382d1fe1ad9d2ea9c8086409b7338fbcb", func := "acreage/acreagelaw20.RlogTries", spec := "rlogTries", unfollowed := true, recurses := true, apart := false }
def RlogTriesSaid : Prop := rlogTriesRow.holds Try.pinned (OpenSpec.ofChange rlogTriesSpec)

/-- ITS FALSE NEIGHBOUR: 'it returns false'. Refute it at one input. -/
def rlogTriesWrong : ChangeSpec := { name := "rlogTries", fn := fun _ => fun
  | [d1, d2, d3] => { results := [.lit (.bool false)], args := [d1, d2, d3] }
  | _ => none }
def RlogTriesWrongFalsely : Prop := rlogTriesRow.holds Try.pinned (OpenSpec.ofChange rlogTriesWrong)

/-- 'acreagelaw20.RlogCompacts': WHATEVER THE INPUT: true; the input reads as it did. -/
def rlogCompactsSpec : ChangeSpec := { name := "rlogCompacts", fn := fun _ => fun
  | [d1, d2, d3] => { results := [.lit (.bool true)], args := [d1, d2, d3] }
  | _ => none }
def rlogCompactsRow : OpenClaim := { program := "ytmbekpoelkcceaa", sum := "da9b985f85e3e217ed46cb580ba0bac382d1fe1ad9d2ea9c8086409b7338fbcb", func := "acreage/acreagelaw20.RlogCompacts", spec := "rlogCompacts", unfollowed := true, recurses := true, apart := false }
def RlogCompactsSaid : Prop := rlogCompactsRow.holds Try.pinned (OpenSpec.ofChange rlogCompactsSpec)

/-- ITS FALSE NEIGHBOUR: 'it returns false'. Refute it at one input. -/
def rlogCompactsWrong : ChangeSpec := { name := "rlogCompacts", fn := fun _ => fun
  | [d1, d2, d3] => { results := [.lit (.bool false)], args := [d1, d2, d3] }
  | _ => none }
def RlogCompactsWrongFalsely : Prop := rlogCompactsRow.holds Try.pinned (OpenSpec.ofChange rlogCompactsWrong)

/-- 'acreagelaw20.RlogPlays': WHATEVER THE INPUT: true; the input reads as it did. -/
def rlogPlaysSpec : ChangeSpec := { name := "rlogPlays", fn := fun _ => fun
  | [d1, d2, d3] => { results := [.lit (.bool true)], args := [d1, d2, d3] }
  | _ => none }
def rlogPlaysRow : OpenClaim := { program := "ytmbekpoelkcceaa", sum := "da9b985f85e3e217ed46cb580ba0bac382d1fe1ad9d2ea9c8086409b7338fbcb", func := "acreage/acreagelaw20.RlogPlays", spec := "rlogPlays", unfollowed := true, recurses := true, apart := false }
def RlogPlaysSaid : Prop := rlogPlaysRow.holds Try.pinned (OpenSpec.ofChange rlogPlaysSpec)

/-- ITS FALSE NEIGHBOUR: 'it returns false'. Refute it at one input. -/
def rlogPlaysWrong : ChangeSpec := { name := "rlogPlays", fn := fun _ => fun
  | [d1, d2, d3] => { results := [.lit (.bool false)], args := [d1, d2, d3] }
  | _ => none }
def RlogPlaysWrongFalsely : Prop := rlogPlaysRow.holds Try.pinned (OpenSpec.ofChange rlogPlaysWrong)

/-- 'acreagelaw20.RlogKnown': WHATEVER THE INPUT: true; the input reads as it did. -/
def rlogKnownSpec : ChangeSpec := { name := "rlogKnown", fn := fun _ => fun
  | [] => { results := [.lit (.bool true)], args := [] }
  | _ => none }
def rlogKnownRow : OpenClaim := { program := "ytmbekpoelkcceaa", sum := "da9b985f85e3e217ed46cb580ba0bac382d1fe1ad9d2ea9c8086409b7338fbcb", func := "acreage/acreagelaw20.RlogKnown", spec := "rlogKnown", unfollowed := true, recurses := true, apart := false }
def RlogKnownSaid : Prop := rlogKnownRow.holds Try.pinned (OpenSpec.ofChange rlogKnownSpec)

/-- ITS FALSE NEIGHBOUR: 'it returns false'. Refute it at one input. -/
def rlogKnownWrong : ChangeSpec := { name := "rlogKnown", fn := fun _ => fun
  | [] => { results := [.lit (.bool false)], args := [] }
  | _ => none }
def RlogKnownWrongFalsely : Prop := rlogKnownRow.holds Try.pinned (OpenSpec.ofChange rlogKnownWrong)

/- THE SECOND FORM. 'bulk': how many values and letters a reading holds, each counted each time it is reached (what is shared counts as often as it is met; a slice's spare places count too). A statement '..UptoSaid' is the law's where the arguments, and the package variables that the reading takes, are together of bulk at most 1048576: NARROWER than '..Said'. Prove '..Said' where nothing that the law and all that it calls make is longer than what came in: it says more and counts as full. Else prove '..UptoSaid'. A law counts once. -/
mutual
def uptoBulk {H : Type} : DataW H → Nat
  | .lit (.string bytes) => bytes.length + 1
  | .lit _ => 1
  | .nil => 1
  | .ptr d => uptoBulk d + 1
  | .slice elems spare => uptoBulkAll elems + uptoBulkAll spare + 1
  | .agg parts => uptoBulkAll parts + 1
  | .iface _ d => uptoBulk d + 1
  | .map entries => uptoBulkEntries entries + 1
  | .held _ => 1
def uptoBulkAll {H : Type} : List (DataW H) → Nat
  | [] => 0
  | d :: r => uptoBulk d + uptoBulkAll r
def uptoBulkEntries {H : Type} : List (Lit × DataW H) → Nat
  | [] => 0
  | x :: r => uptoBulkEntry x + uptoBulkEntries r
def uptoBulkEntry {H : Type} : Lit × DataW H → Nat
  | (.string bytes, d) => bytes.length + uptoBulk d + 1
  | (_, d) => uptoBulk d + 1
 end
def uptoSmall : (H : Type) → List (DataW H) → Bool := fun _ ds => decide (uptoBulkAll ds ≤ 1048576)
def OpenSpec.upto (s : _root_.Go.ChangeSpec) : _root_.Go.OpenSpec := { _root_.Go.OpenSpec.ofChange s with cond := some uptoSmall }

/-- 'acreagelaw20.RlogMatch', WHERE WHAT IT READS IS OF BULK AT MOST 1048576: true; the input reads as it did. -/
def rlogMatchUptoRow : OpenClaim := { program := "ytmbekpoelkcceaa", sum := "da9b985f85e3e217ed46cb580ba0bac382d1fe1ad9d2ea9c8086409b7338fbcb", func := "acreage/acreagelaw20.RlogMatch", spec := "rlogMatch", unfollowed := true, recurses := true, apart := false, narrowed := true }
def RlogMatchUptoSaid : Prop := rlogMatchUptoRow.holds Try.pinned (OpenSpec.upto rlogMatchSpec)

/-- 'acreagelaw20.RlogTries', WHERE WHAT IT READS IS OF BULK AT MOST 1048576: true; the input reads as it did. -/
def rlogTriesUptoRow : OpenClaim := { program := "ytmbekpoelkcceaa", sum := "da9b985f85e3e217ed46cb580ba0bac382d1fe1ad9d2ea9c8086409b7338fbcb", func := "acreage/acreagelaw20.RlogTries", spec := "rlogTries", unfollowed := true, recurses := true, apart := false, narrowed := true }
def RlogTriesUptoSaid : Prop := rlogTriesUptoRow.holds Try.pinned (OpenSpec.upto rlogTriesSpec)

/-- 'acreagelaw20.RlogCompacts', WHERE WHAT IT READS IS OF BULK AT MOST 1048576: true; the input reads as it did. -/
def rlogCompactsUptoRow : OpenClaim := { program := "ytmbekpoelkcceaa", sum := "da9b985f85e3e217ed46cb580ba0bac382d1fe1ad9d2ea9c8086409b7338fbcb", func := "acreage/acreagelaw20.RlogCompacts", spec := "rlogCompacts", unfollowed := true, recurses := true, apart := false, narrowed := true }
def RlogCompactsUptoSaid : Prop := rlogCompactsUptoRow.holds Try.pinned (OpenSpec.upto rlogCompactsSpec)

/-- 'acreagelaw20.RlogPlays', WHERE WHAT IT READS IS OF BULK AT MOST 1048576: true; the input reads as it did. -/
def rlogPlaysUptoRow : OpenClaim := { program := "ytmbekpoelkcceaa", sum := "da9b985f85e3e217ed46cb580ba0bac382d1fe1ad9d2ea9c8086409b7338fbcb", func := "acreage/acreagelaw20.RlogPlays", spec := "rlogPlays", unfollowed := true, recurses := true, apart := false, narrowed := true }
def RlogPlaysUptoSaid : Prop := rlogPlaysUptoRow.holds Try.pinned (OpenSpec.upto rlogPlaysSpec)

/-- 'acreagelaw20.RlogKnown', WHERE WHAT IT READS IS OF BULK AT MOST 1048576: true; the input reads as it did. -/
def rlogKnownUptoRow : OpenClaim := { program := "ytmbekpoelkcceaa", sum := "da9b985f85e3e217ed46cb580ba0bac382d1fe1ad9d2ea9c8086409b7338fbcb", func := "acreage/acreagelaw20.RlogKnown", spec := "rlogKnown", unfollowed := true, recurses := true, apart := false, narrowed := true }
def RlogKnownUptoSaid : Prop := rlogKnownUptoRow.holds Try.pinned (OpenSpec.upto rlogKnownSpec)

end Rows
end Go.Proofs.Ytmbekpoelkcceaa
