/-
  NARROWER THAN 'FOR EVERY INPUT', by the rows' own cells (each row's printed sentence says how): BailPlays: loops.
  DERIVED. THE GIVEN ROWS OF THIS SEAT. 5 by the template 'for every input the law returns true; each argument reads behind the call as it read before'; 0 by the template 'total and deterministic' (their statements: YtdiklblnilmpoaaTotals.lean).
  GIVEN WITH THE SEED: the statements are not yours to turn. If you find one false, say at which input.
  Laid BY PROGRAM, IN A SANDBOX (cutbox-rows.mjs): the forced cells as the released guide's own fill.sh prints them over the translation 9eb46715bc154cf9… (all of the seat's roots in one cut). By AI agents, Wed Nov 11 2026. No macro, syntax, notation, axiom, sorry.
-/
import Derived.Test.YtdiklblnilmpoaaChecked
import GoSem.Claim
import GoSem.ClaimJoined
import GoSem.ClaimMapViews
import Derived.JoinedTies
import Derived.KernelRfl
namespace Go.Proofs.Ytdiklblnilmpoaa
/- THE CELL 'sum', in the pinned program and in every row, IS THE sha256 OF THE DUMP (.gsa) THAT YtdiklblnilmpoaaProg.lean LOADS. Nothing in Lean hashes anything: it is a label: what it is worth is what the hold of that sum in a sandbox is worth. -/
noncomputable def Try.pinned : Pinned := { name := "ytdiklblnilmpoaa", sum := "9eb46715bc154cf9b16178c75e962b95395cd60103051cf2a172964904d021e1", checked := Try.checked }
namespace Rows
def none {H : Type} : Left H := { results := [], args := [] }

/-- 'tansylaw6.BailMeters': WHATEVER THE INPUT: true; the input reads as it did. -/
def bailMetersSpec : ChangeSpec := { name := "bailMeters", fn := fun _ => fun
  | [d1, d2] => { results := [.lit (.bool true)], args := [d1, d2] }
  | _ => none }
def bailMetersRow : OpenClaim := { program := "ytdiklblnilmpoaa", sum := "9eb46715bc154cf9b16178c75e962b95395cd60103051cf2a172964904d021e1", func := "tansy/tansylaw6.BailMeters", spec := "bailMeters", unfollowed := true, recurses := true, apart := false }
def BailMetersSaid : Prop := bailMetersRow.holds Try.pinned (OpenSpec.ofChange bailMetersSpec)

/-- ITS FALSE NEIGHBOUR: 'it returns false'. Refute it at one input. -/
def bailMetersWrong : ChangeSpec := { name := "bailMeters", fn := fun _ => fun
  | [d1, d2] => { results := [.lit (.bool false)], args := [d1, d2] }
  | _ => none }
def BailMetersWrongFalsely : Prop := bailMetersRow.holds Try.pinned (OpenSpec.ofChange bailMetersWrong)

/-- 'tansylaw6.BailNested': WHATEVER THE INPUT: true; the input reads as it did. -/
def bailNestedSpec : ChangeSpec := { name := "bailNested", fn := fun _ => fun
  | [d1, d2] => { results := [.lit (.bool true)], args := [d1, d2] }
  | _ => none }
def bailNestedRow : OpenClaim := { program := "ytdiklblnilmpoaa", sum := "9eb46715bc154cf9b16178c75e962b95395cd60103051cf2a172964904d021e1", func := "tansy/tansylaw6.BailNested", spec := "bailNested", unfollowed := true, recurses := true, apart := false }
def BailNestedSaid : Prop := bailNestedRow.holds Try.pinned (OpenSpec.ofChange bailNestedSpec)

/-- ITS FALSE NEIGHBOUR: 'it returns false'. Refute it at one input. -/
def bailNestedWrong : ChangeSpec := { name := "bailNested", fn := fun _ => fun
  | [d1, d2] => { results := [.lit (.bool false)], args := [d1, d2] }
  | _ => none }
def BailNestedWrongFalsely : Prop := bailNestedRow.holds Try.pinned (OpenSpec.ofChange bailNestedWrong)

/-- 'tansylaw6.BailOther': WHATEVER THE INPUT: true; the input reads as it did. -/
def bailOtherSpec : ChangeSpec := { name := "bailOther", fn := fun _ => fun
  | [d1, d2] => { results := [.lit (.bool true)], args := [d1, d2] }
  | _ => none }
def bailOtherRow : OpenClaim := { program := "ytdiklblnilmpoaa", sum := "9eb46715bc154cf9b16178c75e962b95395cd60103051cf2a172964904d021e1", func := "tansy/tansylaw6.BailOther", spec := "bailOther", unfollowed := true, recurses := true, apart := false }
def BailOtherSaid : Prop := bailOtherRow.holds Try.pinned (OpenSpec.ofChange bailOtherSpec)

/-- ITS FALSE NEIGHBOUR: 'it returns false'. Refute it at one input. -/
def bailOtherWrong : ChangeSpec := { name := "bailOther", fn := fun _ => fun
  | [d1, d2] => { results := [.lit (.bool false)], args := [d1, d2] }
  | _ => none }
def BailOtherWrongFalsely : Prop := bailOtherRow.holds Try.pinned (OpenSpec.ofChange bailOtherWrong)

/-- 'tansylaw6.BailThrough': WHATEVER THE INPUT: true; the input reads as it did. -/
def bailThroughSpec : ChangeSpec := { name := "bailThrough", fn := fun _ => fun
  | [d1, d2, d3, d4] => { results := [.lit (.bool true)], args := [d1, d2, d3, d4] }
  | _ => none }
def bailThroughRow : OpenClaim := { program := "ytdiklblnilmpoaa", sum := "9eb46715bc154cf9b16178c75e962b95395cd60103051cf2a172964904d021e1", func := "tansy/tansylaw6.BailThrough", spec := "bailThrough", unfollowed := true, recurses := true, apart := false }
def BailThroughSaid : Prop := bailThroughRow.holds Try.pinned (OpenSpec.ofChange bailThroughSpec)

/-- ITS FALSE NEIGHBOUR: 'it returns false'. Refute it at one input. -/
def bailThroughWrong : ChangeSpec := { name := "bailThrough", fn := fun _ => fun
  | [d1, d2, d3, d4] => { results := [.lit (.bool false)], args := [d1, d2, d3, d4] }
  | _ => none }
def BailThroughWrongFalsely : Prop := bailThroughRow.holds Try.pinned (OpenSpec.ofChange bailThroughWrong)

/-- 'tansylaw6.BailPlays': WHATEVER THE INPUT: true; the input reads as it did. -/
def bailPlaysSpec : ChangeSpec := { name := "bailPlays", fn := fun _ => fun
  | [d1, d2] => { results := [.lit (.bool true)], args := [d1, d2] }
  | _ => none }
def bailPlaysRow : OpenClaim := { program := "ytdiklblnilmpoaa", sum := "9eb46715bc154cf9b16178c75e962b95395cd60103051cf2a172964904d021e1", func := "tansy/tansylaw6.BailPlays", spec := "bailPlays", unfollowed := true, recurses := true, loops := true, apart := false }
def BailPlaysSaid : Prop := bailPlaysRow.holds Try.pinned (OpenSpec.ofChange bailPlaysSpec)

/-- ITS FALSE NEIGHBOUR: 'it returns false'. Refute it at one input. -/
def bailPlaysWrong : ChangeSpec := { name := "bailPlays", fn := fun _ => fun
  | [d1, d2] => { results := [.lit (.bool false)], args := [d1, d2] }
  | _ => none }
def BailPlaysWrongFalsely : Prop := bailPlaysRow.holds Try.pinned (OpenSpec.ofChange bailPlaysWrong)

/- THE SECOND FORM. 'bulk': how many values and letters a reading holds, each counted each time it is reached (what is shared counts as often as it is met; a slice's spare places count too). A statement '..UptoSaid' is the law's where the arguments, and the package variables that the reading takes, are together of bulk at most 1048576: NARROWER than '..Said'. Prove '..Said' where nothing that the law and all that it calls make is longer than what came in: it says more and counts as full. Else prove '..UptoSaid'. A law counts once. -/
mutual
def uptoBulk {H : Type} : DataW H → Nat
  | .lit (.string bytes) => bytes.length + 1
  | .lit _ => 1
  | .nil => 1
  | .ptr d => uptoBulk d + 1
  | .slice elems spare => uptoBulkAll elems + uptoBulkAll spare + 1
  | .agg parts => uptoBulkAll parts + 1
  | .iface _ d => uptoBulk d + 1
  | .map entries => uptoBulkEntries entries + 1
  | .held _ => 1
def uptoBulkAll {H : Type} : List (DataW H) → Nat
  | [] => 0
  | d :: r => uptoBulk d + uptoBulkAll r
def uptoBulkEntries {H : Type} : List (Lit × DataW H) → Nat
  | [] => 0
  | x :: r => uptoBulkEntry x + uptoBulkEntries r
def uptoBulkEntry {H : Type} : Lit × DataW H → Nat
  | (.string bytes, d) => bytes.length + uptoBulk d + 1
  | (_, d) => uptoBulk d + 1
 end
def uptoSmall : (H : Type) → List (DataW H) → Bool := fun _ ds => decide (uptoBulkAll ds ≤ 1048576)
def OpenSpec.upto (s : _root_.Go.ChangeSpec) : _root_.Go.OpenSpec := { _root_.Go.OpenSpec.ofChange s with cond := some uptoSmall }

/-- 'tansylaw6.BailMeters', WHERE WHAT IT READS IS OF BULK AT MOST 1048576: true; the input reads as it did. -/
def bailMetersUptoRow : OpenClaim := { program := "ytdiklblnilmpoaa", sum := "9eb46715bc154cf9b16178c75e962b95395cd60103051cf2a172964904d021e1", func := "tansy/tansylaw6.BailMeters", spec := "bailMeters", unfollowed := true, recurses := true, apart := false, narrowed := true }
def BailMetersUptoSaid : Prop := bailMetersUptoRow.holds Try.pinned (OpenSpec.upto bailMetersSpec)

/-- 'tansylaw6.BailNested', WHERE WHAT IT READS IS OF BULK AT MOST 1048576: true; the input reads as it did. -/
def bailNestedUptoRow : OpenClaim := { program := "ytdiklblnilmpoaa", sum := "9eb46715bc154cf9b16178c75e962b95395cd60103051cf2a172964904d021e1", func := "tansy/tansylaw6.BailNested", spec := "bailNested", unfollowed := true, recurses := true, apart := false, narrowed := true }
def BailNestedUptoSaid : Prop := bailNestedUptoRow.holds Try.pinned (OpenSpec.upto bailNestedSpec)

/-- 'tansylaw6.BailOther', WHERE WHAT IT READS IS OF BULK AT MOST 1048576: true; the input reads as it did. -/
def bailOtherUptoRow : OpenClaim := { program := "ytdiklblnilmpoaa", sum := "9eb46715bc154cf9b16178c75e962b95395cd60103051cf2a172964904d021e1", func := "tansy/tansylaw6.BailOther", spec := "bailOther", unfollowed := true, recurses := true, apart := false, narrowed := true }
def BailOtherUptoSaid : Prop := bailOtherUptoRow.holds Try.pinned (OpenSpec.upto bailOtherSpec)

/-- 'tansylaw6.BailThrough', WHERE WHAT IT READS IS OF BULK AT MOST 1048576: true; the input reads as it did. -/
def bailThroughUptoRow : OpenClaim := { program := "ytdiklblnilmpoaa", sum := "9eb46715bc154cf9b16178c75e962b95395cd60103051cf2a172964904d021e1", func := "tansy/tansylaw6.BailThrough", spec := "bailThrough", unfollowed := true, recurses := true, apart := false, narrowed := true }
def BailThroughUptoSaid : Prop := bailThroughUptoRow.holds Try.pinned (OpenSpec.upto bailThroughSpec)

/-- 'tansylaw6.BailPlays', WHERE WHAT IT READS IS OF BULK AT MOST 1048576: true; the input reads as it did. -/
def bailPlaysUptoRow : OpenClaim := { program := "ytdiklblnilmpoaa", sum := "9eb46715bc154cf9b16178c75e962b95395cd60103051cf2a172964904d021e1", func := "tansy/tansylaw6.BailPlays", spec := "bailPlays", unfollowed := true, recurses := true, loops := true, apart := false, narrowed := true }
def BailPlaysUptoSaid : Prop := bailPlaysUptoRow.holds Try.pinned (OpenSpec.upto bailPlaysSpec)

end Rows
end Go.Proofs.Ytdiklblnilmpoaa
