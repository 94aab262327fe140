/-
  No cell of these rows narrows 'for every input' (looked for: loops, veiled, ifaces, maps, wideKeys, modest, calm, conditions, laid).
  DERIVED. THE GIVEN ROWS OF THIS SEAT. 9 by the template 'for every input the law returns true; each argument reads behind the call as it read before'; 0 by the template 'total and deterministic' (their statements: YtjplobgambnhjaaTotals.lean).
  GIVEN WITH THE SEED: the statements are not yours to turn. If you find one false, say at which input.
  Laid BY PROGRAM, IN A SANDBOX (cutbox-rows.mjs): the forced cells as the released guide's own fill.sh prints them over the translation 9555f15d00d4c1af… (all of the seat's roots in one cut). By AI agents, Wed Nov 11 2026. No macro, syntax, notation, axiom, sorry.
-/
import Derived.Test.YtjplobgambnhjaaChecked
import GoSem.Claim
import GoSem.ClaimJoined
import GoSem.ClaimMapViews
import Derived.JoinedTies
import Derived.KernelRfl
namespace Go.Proofs.Ytjplobgambnhjaa
/- THE CELL 'sum', in the pinned program and in every row, IS THE sha256 OF THE DUMP (.gsa) THAT YtjplobgambnhjaaProg.lean LOADS. Nothing in Lean hashes anything: it is a label: what it is worth is what the hold of that sum in a sandbox is worth. -/
noncomputable def Try.pinned : Pinned := { name := "ytjplobgambnhjaa", sum := "9555f15d00d4c1af4107dbea65c61516896aa44c661c7fd9d34243595555cd81", checked := Try.checked }
namespace Rows
def none {H : Type} : Left H := { results := [], args := [] }

/-- 'acreagelaw16.OpsMay': WHATEVER THE INPUT: true; the input reads as it did. -/
def opsMaySpec : ChangeSpec := { name := "opsMay", fn := fun _ => fun
  | [d1, d2] => { results := [.lit (.bool true)], args := [d1, d2] }
  | _ => none }
def opsMayRow : OpenClaim := { program := "ytjplobgambnhjaa", sum := "9555f15d00d4c1af4107dbea65c61516896aa44c661c7fd9d34243595555cd81", func := "acreage/acreagelaw16.OpsMay", spec := "opsMay", unfollowed := true, recurses := true, apart := false }
def OpsMaySaid : Prop := opsMayRow.holds Try.pinned (OpenSpec.ofChange opsMaySpec)

/-- ITS FALSE NEIGHBOUR: 'it returns false'. Refute it at one input. -/
def opsMayWrong : ChangeSpec := { name := "opsMay", fn := fun _ => fun
  | [d1, d2] => { results := [.lit (.bool false)], args := [d1, d2] }
  | _ => none }
def OpsMayWrongFalsely : Prop := opsMayRow.holds Try.pinned (OpenSpec.ofChange opsMayWrong)

/-- 'acreagelaw16.OpsEntries': WHATEVER THE INPUT: true; the input reads as it did. -/
def opsEntriesSpec : ChangeSpec := { name := "opsEntries", fn := fun _ => fun
  | [d] => { results := [.lit (.bool true)], args := [d] }
  | _ => none }
def opsEntriesRow : OpenClaim := { program := "ytjplobgambnhjaa", sum := "9555f15d00d4c1af4107dbea65c61516896aa44c661c7fd9d34243595555cd81", func := "acreage/acreagelaw16.OpsEntries", spec := "opsEntries", unfollowed := true, recurses := true, apart := false }
def OpsEntriesSaid : Prop := opsEntriesRow.holds Try.pinned (OpenSpec.ofChange opsEntriesSpec)

/-- ITS FALSE NEIGHBOUR: 'it returns false'. Refute it at one input. -/
def opsEntriesWrong : ChangeSpec := { name := "opsEntries", fn := fun _ => fun
  | [d] => { results := [.lit (.bool false)], args := [d] }
  | _ => none }
def OpsEntriesWrongFalsely : Prop := opsEntriesRow.holds Try.pinned (OpenSpec.ofChange opsEntriesWrong)

/-- 'acreagelaw16.OpsResults': WHATEVER THE INPUT: true; the input reads as it did. -/
def opsResultsSpec : ChangeSpec := { name := "opsResults", fn := fun _ => fun
  | [d] => { results := [.lit (.bool true)], args := [d] }
  | _ => none }
def opsResultsRow : OpenClaim := { program := "ytjplobgambnhjaa", sum := "9555f15d00d4c1af4107dbea65c61516896aa44c661c7fd9d34243595555cd81", func := "acreage/acreagelaw16.OpsResults", spec := "opsResults", unfollowed := true, recurses := true, apart := false }
def OpsResultsSaid : Prop := opsResultsRow.holds Try.pinned (OpenSpec.ofChange opsResultsSpec)

/-- ITS FALSE NEIGHBOUR: 'it returns false'. Refute it at one input. -/
def opsResultsWrong : ChangeSpec := { name := "opsResults", fn := fun _ => fun
  | [d] => { results := [.lit (.bool false)], args := [d] }
  | _ => none }
def OpsResultsWrongFalsely : Prop := opsResultsRow.holds Try.pinned (OpenSpec.ofChange opsResultsWrong)

/-- 'acreagelaw16.OpsSame': WHATEVER THE INPUT: true; the input reads as it did. -/
def opsSameSpec : ChangeSpec := { name := "opsSame", fn := fun _ => fun
  | [d1, d2] => { results := [.lit (.bool true)], args := [d1, d2] }
  | _ => none }
def opsSameRow : OpenClaim := { program := "ytjplobgambnhjaa", sum := "9555f15d00d4c1af4107dbea65c61516896aa44c661c7fd9d34243595555cd81", func := "acreage/acreagelaw16.OpsSame", spec := "opsSame", unfollowed := true, recurses := true, apart := false }
def OpsSameSaid : Prop := opsSameRow.holds Try.pinned (OpenSpec.ofChange opsSameSpec)

/-- ITS FALSE NEIGHBOUR: 'it returns false'. Refute it at one input. -/
def opsSameWrong : ChangeSpec := { name := "opsSame", fn := fun _ => fun
  | [d1, d2] => { results := [.lit (.bool false)], args := [d1, d2] }
  | _ => none }
def OpsSameWrongFalsely : Prop := opsSameRow.holds Try.pinned (OpenSpec.ofChange opsSameWrong)

/-- 'acreagelaw16.OpsBack': WHATEVER THE INPUT: true; the input reads as it did. -/
def opsBackSpec : ChangeSpec := { name := "opsBack", fn := fun _ => fun
  | [d] => { results := [.lit (.bool true)], args := [d] }
  | _ => none }
def opsBackRow : OpenClaim := { program := "ytjplobgambnhjaa", sum := "9555f15d00d4c1af4107dbea65c61516896aa44c661c7fd9d34243595555cd81", func := "acreage/acreagelaw16.OpsBack", spec := "opsBack", unfollowed := true, recurses := true, apart := false }
def OpsBackSaid : Prop := opsBackRow.holds Try.pinned (OpenSpec.ofChange opsBackSpec)

/-- ITS FALSE NEIGHBOUR: 'it returns false'. Refute it at one input. -/
def opsBackWrong : ChangeSpec := { name := "opsBack", fn := fun _ => fun
  | [d] => { results := [.lit (.bool false)], args := [d] }
  | _ => none }
def OpsBackWrongFalsely : Prop := opsBackRow.holds Try.pinned (OpenSpec.ofChange opsBackWrong)

/-- 'acreagelaw16.OpsOther': WHATEVER THE INPUT: true; the input reads as it did. -/
def opsOtherSpec : ChangeSpec := { name := "opsOther", fn := fun _ => fun
  | [d1, d2] => { results := [.lit (.bool true)], args := [d1, d2] }
  | _ => none }
def opsOtherRow : OpenClaim := { program := "ytjplobgambnhjaa", sum := "9555f15d00d4c1af4107dbea65c61516896aa44c661c7fd9d34243595555cd81", func := "acreage/acreagelaw16.OpsOther", spec := "opsOther", unfollowed := true, recurses := true, apart := false }
def OpsOtherSaid : Prop := opsOtherRow.holds Try.pinned (OpenSpec.ofChange opsOtherSpec)

/-- ITS FALSE NEIGHBOUR: 'it returns false'. Refute it at one input. -/
def opsOtherWrong : ChangeSpec := { name := "opsOther", fn := fun _ => fun
  | [d1, d2] => { results := [.lit (.bool false)], args := [d1, d2] }
  | _ => none }
def OpsOtherWrongFalsely : Prop := opsOtherRow.holds Try.pinned (OpenSpec.ofChange opsOtherWrong)

/-- 'acreagelaw16.OpsAgain': WHATEVER THE INPUT: true; the input reads as it did. -/
def opsAgainSpec : ChangeSpec := { name := "opsAgain", fn := fun _ => fun
  | [d] => { results := [.lit (.bool true)], args := [d] }
  | _ => none }
def opsAgainRow : OpenClaim := { program := "ytjplobgambnhjaa", sum := "9555f15d00d4c1af4107dbea65c61516896aa44c661c7fd9d34243595555cd81", func := "acreage/acreagelaw16.OpsAgain", spec := "opsAgain", unfollowed := true, recurses := true, apart := false }
def OpsAgainSaid : Prop := opsAgainRow.holds Try.pinned (OpenSpec.ofChange opsAgainSpec)

/-- ITS FALSE NEIGHBOUR: 'it returns false'. Refute it at one input. -/
def opsAgainWrong : ChangeSpec := { name := "opsAgain", fn := fun _ => fun
  | [d] => { results := [.lit (.bool false)], args := [d] }
  | _ => none }
def OpsAgainWrongFalsely : Prop := opsAgainRow.holds Try.pinned (OpenSpec.ofChange opsAgainWrong)

/-- 'acreagelaw16.OpsAlone': WHATEVER THE INPUT: true; the input reads as it did. -/
def opsAloneSpec : ChangeSpec := { name := "opsAlone", fn := fun _ => fun
  | [d1, d2] => { results := [.lit (.bool true)], args := [d1, d2] }
  | _ => none }
def opsAloneRow : OpenClaim := { program := "ytjplobgambnhjaa", sum := "9555f15d00d4c1af4107dbea65c61516896aa44c661c7fd9d34243595555cd81", func := "acreage/acreagelaw16.OpsAlone", spec := "opsAlone", unfollowed := true, recurses := true, apart := false }
def OpsAloneSaid : Prop := opsAloneRow.holds Try.pinned (OpenSpec.ofChange opsAloneSpec)

/-- ITS FALSE NEIGHBOUR: 'it returns false'. Refute it at one input. -/
def opsAloneWrong : ChangeSpec := { name := "opsAlone", fn := fun _ => fun
  | [d1, d2] => { results := [.lit (.bool false)], args := [d1, d2] }
  | _ => none }
def OpsAloneWrongFalsely : Prop := opsAloneRow.holds Try.pinned (OpenSpec.ofChange opsAloneWrong)

/-- 'acreagelaw16.OpsKnown': WHATEVER THE INPUT: true; the input reads as it did. -/
def opsKnownSpec : ChangeSpec := { name := "opsKnown", fn := fun _ => fun
  | [] => { results := [.lit (.bool true)], args := [] }
  | _ => none }
def opsKnownRow : OpenClaim := { program := "ytjplobgambnhjaa", sum := "9555f15d00d4c1af4107dbea65c61516896aa44c661c7fd9d34243595555cd81", func := "acreage/acreagelaw16.OpsKnown", spec := "opsKnown", unfollowed := true, recurses := true, apart := false }
def OpsKnownSaid : Prop := opsKnownRow.holds Try.pinned (OpenSpec.ofChange opsKnownSpec)

/-- ITS FALSE NEIGHBOUR: 'it returns false'. Refute it at one input. -/
def opsKnownWrong : ChangeSpec := { name := "opsKnown", fn := fun _ => fun
  | [] => { results := [.lit (.bool false)], args := [] }
  | _ => none }
def OpsKnownWrongFalsely : Prop := opsKnownRow.holds Try.pinned (OpenSpec.ofChange opsKnownWrong)

/- THE SECOND FORM. 'bulk': how many values and letters a reading holds, each counted each time it is reached (what is shared counts as often as it is met; a slice's spare places count too). A statement '..UptoSaid' is the law's where the arguments, and the package variables that the reading takes, are together of bulk at most 1048576: NARROWER than '..Said'. Prove '..Said' where nothing that the law and all that it calls make is longer than what came in: it says more and counts as full. Else prove '..UptoSaid'. A law counts once. -/
mutual
def uptoBulk {H : Type} : DataW H → Nat
  | .lit (.string bytes) => bytes.length + 1
  | .lit _ => 1
  | .nil => 1
  | .ptr d => uptoBulk d + 1
  | .slice elems spare => uptoBulkAll elems + uptoBulkAll spare + 1
  | .agg parts => uptoBulkAll parts + 1
  | .iface _ d => uptoBulk d + 1
  | .map entries => uptoBulkEntries entries + 1
  | .held _ => 1
def uptoBulkAll {H : Type} : List (DataW H) → Nat
  | [] => 0
  | d :: r => uptoBulk d + uptoBulkAll r
def uptoBulkEntries {H : Type} : List (Lit × DataW H) → Nat
  | [] => 0
  | x :: r => uptoBulkEntry x + uptoBulkEntries r
def uptoBulkEntry {H : Type} : Lit × DataW H → Nat
  | (.string bytes, d) => bytes.length + uptoBulk d + 1
  | (_, d) => uptoBulk d + 1
 end
def uptoSmall : (H : Type) → List (DataW H) → Bool := fun _ ds => decide (uptoBulkAll ds ≤ 1048576)
def OpenSpec.upto (s : _root_.Go.ChangeSpec) : _root_.Go.OpenSpec := { _root_.Go.OpenSpec.ofChange s with cond := some uptoSmall }

/-- 'acreagelaw16.OpsMay', WHERE WHAT IT READS IS OF BULK AT MOST 1048576: true; the input reads as it did. -/
def opsMayUptoRow : OpenClaim := { program := "ytjplobgambnhjaa", sum := "9555f15d00d4c1af4107dbea65c61516896aa44c661c7fd9d34243595555cd81", func := "acreage/acreagelaw16.OpsMay", spec := "opsMay", unfollowed := true, recurses := true, apart := false, narrowed := true }
def OpsMayUptoSaid : Prop := opsMayUptoRow.holds Try.pinned (OpenSpec.upto opsMaySpec)

/-- 'acreagelaw16.OpsEntries', WHERE WHAT IT READS IS OF BULK AT MOST 1048576: true; the input reads as it did. -/
def opsEntriesUptoRow : OpenClaim := { program := "ytjplobgambnhjaa", sum := "9555f15d00d4c1af4107dbea65c61516896aa44c661c7fd9d34243595555cd81", func := "acreage/acreagelaw16.OpsEntries", spec := "opsEntries", unfollowed := true, recurses := true, apart := false, narrowed := true }
def OpsEntriesUptoSaid : Prop := opsEntriesUptoRow.holds Try.pinned (OpenSpec.upto opsEntriesSpec)

/-- 'acreagelaw16.OpsResults', WHERE WHAT IT READS IS OF BULK AT MOST 1048576: true; the input reads as it did. -/
def opsResultsUptoRow : OpenClaim := { program := "ytjplobgambnhjaa", sum := "9555f15d00d4c1af4107dbea65c61516896aa44c661c7fd9d34243595555cd81", func := "acreage/acreagelaw16.OpsResults", spec := "opsResults", unfollowed := true, recurses := true, apart := false, narrowed := true }
def OpsResultsUptoSaid : Prop := opsResultsUptoRow.holds Try.pinned (OpenSpec.upto opsResultsSpec)

/-- 'acreagelaw16.OpsSame', WHERE WHAT IT READS IS OF BULK AT MOST 1048576: true; the input reads as it did. -/
def opsSameUptoRow : OpenClaim := { program := "ytjplobgambnhjaa", sum := "9555f15d00d4c1af4107dbea65c61516896aa44c661c7fd9d34243595555cd81", func := "acreage/acreagelaw16.OpsSame", spec := "opsSame", unfollowed := true, recurses := true, apart := false, narrowed := true }
def OpsSameUptoSaid : Prop := opsSameUptoRow.holds Try.pinned (OpenSpec.upto opsSameSpec)

/-- 'acreagelaw16.OpsBack', WHERE WHAT IT READS IS OF BULK AT MOST 1048576: true; the input reads as it did. -/
def opsBackUptoRow : OpenClaim := { program := "ytjplobgambnhjaa", sum := "9555f15d00d4c1af4107dbea65c61516896aa44c661c7fd9d34243595555cd81", func := "acreage/acreagelaw16.OpsBack", spec := "opsBack", unfollowed := true, recurses := true, apart := false, narrowed := true }
def OpsBackUptoSaid : Prop := opsBackUptoRow.holds Try.pinned (OpenSpec.upto opsBackSpec)

/-- 'acreagelaw16.OpsOther', WHERE WHAT IT READS IS OF BULK AT MOST 1048576: true; the input reads as it did. -/
def opsOtherUptoRow : OpenClaim := { program := "ytjplobgambnhjaa", sum := "9555f15d00d4c1af4107dbea65c61516896aa44c661c7fd9d34243595555cd81", func := "acreage/acreagelaw16.OpsOther", spec := "opsOther", unfollowed := true, recurses := true, apart := false, narrowed := true }
def OpsOtherUptoSaid : Prop := opsOtherUptoRow.holds Try.pinned (OpenSpec.upto opsOtherSpec)

/-- 'acreagelaw16.OpsAgain', WHERE WHAT IT READS IS OF BULK AT MOST 1048576: true; the input reads as it did. -/
def opsAgainUptoRow : OpenClaim := { program := "ytjplobgambnhjaa", sum := "9555f15d00d4c1af4107dbea65c61516896aa44c661c7fd9d34243595555cd81", func := "acreage/acreagelaw16.OpsAgain", spec := "opsAgain", unfollowed := true, recurses := true, apart := false, narrowed := true }
def OpsAgainUptoSaid : Prop := opsAgainUptoRow.holds Try.pinned (OpenSpec.upto opsAgainSpec)

/-- 'acreagelaw16.OpsAlone', WHERE WHAT IT READS IS OF BULK AT MOST 1048576: true; the input reads as it did. -/
def opsAloneUptoRow : OpenClaim := { program := "ytjplobgambnhjaa", sum := "9555f15d00d4c1af4107dbea65c61516896aa44c661c7fd9d34243595555cd81", func := "acreage/acreagelaw16.OpsAlone", spec := "opsAlone", unfollowed := true, recurses := true, apart := false, narrowed := true }
def OpsAloneUptoSaid : Prop := opsAloneUptoRow.holds Try.pinned (OpenSpec.upto opsAloneSpec)

/-- 'acreagelaw16.OpsKnown', WHERE WHAT IT READS IS OF BULK AT MOST 1048576: true; the input reads as it did. -/
def opsKnownUptoRow : OpenClaim := { program := "ytjplobgambnhjaa", sum := "9555f15d00d4c1af4107dbea65c61516896aa44c661c7fd9d34243595555cd81", func := "acreage/acreagelaw16.OpsKnown", spec := "opsKnown", unfollowed := true, recurses := true, apart := false, narrowed := true }
def OpsKnownUptoSaid : Prop := opsKnownUptoRow.holds Try.pinned (OpenSpec.upto opsKnownSpec)

end Rows
end Go.Proofs.Ytjplobgambnhjaa
