/-
  NARROWER THAN 'FOR EVERY INPUT', by the rows' own cells (each row's printed sentence says how): WalkBest: loops · WalkNone: loops · WalkKeeps: loops · WalkSome: loops.
  DERIVED. THE GIVEN ROWS OF THIS SEAT. 6 by the template 'for every input the law returns true; each argument reads behind the call as it read before'; 0 by the template 'total and deterministic' (their statements: YtkhllknahjmciaaGreatTotals.lean).
  GIVEN WITH THE SEED: the statements are not yours to turn. If you find one false, say at which input.
  Laid BY PROGRAM, IN A SANDBOX (cutbox-rows.mjs): the forced cells as the released guide's own fill.sh prints them over the translation 658eb97cc94a6777… (all of the seat's roots in one cut). By AI agents, Wed Nov 11 2026. No macro, syntax, notation, axiom, sorry.
-/
import Derived.Test.YtkhllknahjmciaaGreatChecked
import GoSem.Claim
import GoSem.ClaimJoined
import GoSem.ClaimMapViews
import Derived.JoinedTies
import Derived.KernelRfl
namespace Go.Proofs.YtkhllknahjmciaaGreat
/- THE CELL 'sum', in the pinned program and in every row, IS THE sha256 OF THE DUMP (.gsa) THAT YtkhllknahjmciaaGreatProg.lean LOADS. Nothing in Lean hashes anything: it is a label: what it is worth is what the hold of that sum in a sandbox is worth. -/
noncomputable def Tryz.pinned : Pinned := { name := "ytkhllknahjmciaagreat", sum := "658eb97cc94a677753ba39cae195f85f7c2f14770bd50e650517b733cb270fbd", checked := Tryz.checked }
namespace Rows
def none {H : Type} : Left H := { results := [], args := [] }

/-- 'tansylaw20.WalkBest': WHATEVER THE INPUT: true; the input reads as it did. -/
def walkBestSpec : ChangeSpec := { name := "walkBest", fn := fun _ => fun
  | [d1, d2, d3, d4, d5, d6] => { results := [.lit (.bool true)], args := [d1, d2, d3, d4, d5, d6] }
  | _ => none }
def walkBestRow : OpenClaim := { program := "ytkhllknahjmciaagreat", sum := "658eb97cc94a677753ba39cae195f85f7c2f14770bd50e650517b733cb270fbd", func := "tansy/tansylaw20.WalkBest", spec := "walkBest", inPlace := ["slices.overlaps[tansy/api.Node]", "slices.overlaps[string]", "slices.overlaps[tansy/api.Prop]", "math.Float64frombits", "math.Float64bits", "math.archTrunc"], unfollowed := true, recurses := true, loops := true, plainKeys := false, apart := false }
def WalkBestSaid : Prop := walkBestRow.holds Tryz.pinned (OpenSpec.ofChange walkBestSpec)

/-- ITS FALSE NEIGHBOUR: 'it returns false'. Refute it at one input. -/
def walkBestWrong : ChangeSpec := { name := "walkBest", fn := fun _ => fun
  | [d1, d2, d3, d4, d5, d6] => { results := [.lit (.bool false)], args := [d1, d2, d3, d4, d5, d6] }
  | _ => none }
def WalkBestWrongFalsely : Prop := walkBestRow.holds Tryz.pinned (OpenSpec.ofChange walkBestWrong)

/-- 'tansylaw20.WalkCheap': WHATEVER THE INPUT: true; the input reads as it did. -/
def walkCheapSpec : ChangeSpec := { name := "walkCheap", fn := fun _ => fun
  | [d1, d2, d3, d4] => { results := [.lit (.bool true)], args := [d1, d2, d3, d4] }
  | _ => none }
def walkCheapRow : OpenClaim := { program := "ytkhllknahjmciaagreat", sum := "658eb97cc94a677753ba39cae195f85f7c2f14770bd50e650517b733cb270fbd", func := "tansy/tansylaw20.WalkCheap", spec := "walkCheap", inPlace := ["slices.overlaps[tansy/api.Node]", "slices.overlaps[string]", "slices.overlaps[tansy/api.Prop]", "math.Float64frombits", "math.Float64bits", "math.archTrunc"], unfollowed := true, recurses := true, plainKeys := false, apart := false }
def WalkCheapSaid : Prop := walkCheapRow.holds Tryz.pinned (OpenSpec.ofChange walkCheapSpec)

/-- ITS FALSE NEIGHBOUR: 'it returns false'. Refute it at one input. -/
def walkCheapWrong : ChangeSpec := { name := "walkCheap", fn := fun _ => fun
  | [d1, d2, d3, d4] => { results := [.lit (.bool false)], args := [d1, d2, d3, d4] }
  | _ => none }
def WalkCheapWrongFalsely : Prop := walkCheapRow.holds Tryz.pinned (OpenSpec.ofChange walkCheapWrong)

/-- 'tansylaw20.WalkLevels': WHATEVER THE INPUT: true; the input reads as it did. -/
def walkLevelsSpec : ChangeSpec := { name := "walkLevels", fn := fun _ => fun
  | [d1, d2, d3, d4, d5, d6] => { results := [.lit (.bool true)], args := [d1, d2, d3, d4, d5, d6] }
  | _ => none }
def walkLevelsRow : OpenClaim := { program := "ytkhllknahjmciaagreat", sum := "658eb97cc94a677753ba39cae195f85f7c2f14770bd50e650517b733cb270fbd", func := "tansy/tansylaw20.WalkLevels", spec := "walkLevels", inPlace := ["slices.overlaps[tansy/api.Node]", "slices.overlaps[string]", "slices.overlaps[tansy/api.Prop]", "math.Float64frombits", "math.Float64bits", "math.archTrunc"], unfollowed := true, recurses := true, plainKeys := false, apart := false }
def WalkLevelsSaid : Prop := walkLevelsRow.holds Tryz.pinned (OpenSpec.ofChange walkLevelsSpec)

/-- ITS FALSE NEIGHBOUR: 'it returns false'. Refute it at one input. -/
def walkLevelsWrong : ChangeSpec := { name := "walkLevels", fn := fun _ => fun
  | [d1, d2, d3, d4, d5, d6] => { results := [.lit (.bool false)], args := [d1, d2, d3, d4, d5, d6] }
  | _ => none }
def WalkLevelsWrongFalsely : Prop := walkLevelsRow.holds Tryz.pinned (OpenSpec.ofChange walkLevelsWrong)

/-- 'tansylaw20.WalkNone': WHATEVER THE INPUT: true; the input reads as it did. -/
def walkNoneSpec : ChangeSpec := { name := "walkNone", fn := fun _ => fun
  | [d1, d2, d3] => { results := [.lit (.bool true)], args := [d1, d2, d3] }
  | _ => none }
def walkNoneRow : OpenClaim := { program := "ytkhllknahjmciaagreat", sum := "658eb97cc94a677753ba39cae195f85f7c2f14770bd50e650517b733cb270fbd", func := "tansy/tansylaw20.WalkNone", spec := "walkNone", inPlace := ["slices.overlaps[tansy/api.Node]", "slices.overlaps[string]", "slices.overlaps[tansy/api.Prop]", "math.Float64frombits", "math.Float64bits", "math.archTrunc"], unfollowed := true, recurses := true, loops := true, plainKeys := false, apart := false }
def WalkNoneSaid : Prop := walkNoneRow.holds Tryz.pinned (OpenSpec.ofChange walkNoneSpec)

/-- ITS FALSE NEIGHBOUR: 'it returns false'. Refute it at one input. -/
def walkNoneWrong : ChangeSpec := { name := "walkNone", fn := fun _ => fun
  | [d1, d2, d3] => { results := [.lit (.bool false)], args := [d1, d2, d3] }
  | _ => none }
def WalkNoneWrongFalsely : Prop := walkNoneRow.holds Tryz.pinned (OpenSpec.ofChange walkNoneWrong)

/-- 'tansylaw20.WalkKeeps': WHATEVER THE INPUT: true; the input reads as it did. -/
def walkKeepsSpec : ChangeSpec := { name := "walkKeeps", fn := fun _ => fun
  | [d1, d2, d3, d4] => { results := [.lit (.bool true)], args := [d1, d2, d3, d4] }
  | _ => none }
def walkKeepsRow : OpenClaim := { program := "ytkhllknahjmciaagreat", sum := "658eb97cc94a677753ba39cae195f85f7c2f14770bd50e650517b733cb270fbd", func := "tansy/tansylaw20.WalkKeeps", spec := "walkKeeps", inPlace := ["slices.overlaps[tansy/api.Node]", "slices.overlaps[string]", "slices.overlaps[tansy/api.Prop]", "math.Float64frombits", "math.Float64bits", "math.archTrunc"], unfollowed := true, recurses := true, loops := true, plainKeys := false, apart := false }
def WalkKeepsSaid : Prop := walkKeepsRow.holds Tryz.pinned (OpenSpec.ofChange walkKeepsSpec)

/-- ITS FALSE NEIGHBOUR: 'it returns false'. Refute it at one input. -/
def walkKeepsWrong : ChangeSpec := { name := "walkKeeps", fn := fun _ => fun
  | [d1, d2, d3, d4] => { results := [.lit (.bool false)], args := [d1, d2, d3, d4] }
  | _ => none }
def WalkKeepsWrongFalsely : Prop := walkKeepsRow.holds Tryz.pinned (OpenSpec.ofChange walkKeepsWrong)

/-- 'tansylaw20.WalkSome': WHATEVER THE INPUT: true; the input reads as it did. -/
def walkSomeSpec : ChangeSpec := { name := "walkSome", fn := fun _ => fun
  | [d1, d2, d3, d4, d5] => { results := [.lit (.bool true)], args := [d1, d2, d3, d4, d5] }
  | _ => none }
def walkSomeRow : OpenClaim := { program := "ytkhllknahjmciaagreat", sum := "658eb97cc94a677753ba39cae195f85f7c2f14770bd50e650517b733cb270fbd", func := "tansy/tansylaw20.WalkSome", spec := "walkSome", inPlace := ["slices.overlaps[tansy/api.Node]", "slices.overlaps[string]", "slices.overlaps[tansy/api.Prop]", "math.Float64frombits", "math.Float64bits", "math.archTrunc"], unfollowed := true, recurses := true, loops := true, plainKeys := false, apart := false }
def WalkSomeSaid : Prop := walkSomeRow.holds Tryz.pinned (OpenSpec.ofChange walkSomeSpec)

/-- ITS FALSE NEIGHBOUR: 'it returns false'. Refute it at one input. -/
def walkSomeWrong : ChangeSpec := { name := "walkSome", fn := fun _ => fun
  | [d1, d2, d3, d4, d5] => { results := [.lit (.bool false)], args := [d1, d2, d3, d4, d5] }
  | _ => none }
def WalkSomeWrongFalsely : Prop := walkSomeRow.holds Tryz.pinned (OpenSpec.ofChange walkSomeWrong)

/- THE SECOND FORM. 'bulk': how many values and letters a reading holds, each counted each time it is reached (what is shared counts as often as it is met; a slice's spare places count too). A statement '..UptoSaid' is the law's where the arguments, and the package variables that the reading takes, are together of bulk at most 1048576: NARROWER than '..Said'. Prove '..Said' where nothing that the law and all that it calls make is longer than what came in: it says more and counts as full. Else prove '..UptoSaid'. A law counts once. -/
mutual
def uptoBulk {H : Type} : DataW H → Nat
  | .lit (.string bytes) => bytes.length + 1
  | .lit _ => 1
  | .nil => 1
  | .ptr d => uptoBulk d + 1
  | .slice elems spare => uptoBulkAll elems + uptoBulkAll spare + 1
  | .agg parts => uptoBulkAll parts + 1
  | .iface _ d => uptoBulk d + 1
  | .map entries => uptoBulkEntries entries + 1
  | .held _ => 1
def uptoBulkAll {H : Type} : List (DataW H) → Nat
  | [] => 0
  | d :: r => uptoBulk d + uptoBulkAll r
def uptoBulkEntries {H : Type} : List (Lit × DataW H) → Nat
  | [] => 0
  | x :: r => uptoBulkEntry x + uptoBulkEntries r
def uptoBulkEntry {H : Type} : Lit × DataW H → Nat
  | (.string bytes, d) => bytes.length + uptoBulk d + 1
  | (_, d) => uptoBulk d + 1
 end
def uptoSmall : (H : Type) → List (DataW H) → Bool := fun _ ds => decide (uptoBulkAll ds ≤ 1048576)
def OpenSpec.upto (s : _root_.Go.ChangeSpec) : _root_.Go.OpenSpec := { _root_.Go.OpenSpec.ofChange s with cond := some uptoSmall }

/-- 'tansylaw20.WalkBest', WHERE WHAT IT READS IS OF BULK AT MOST 1048576: true; the input reads as it did. -/
def walkBestUptoRow : OpenClaim := { program := "ytkhllknahjmciaagreat", sum := "658eb97cc94a677753ba39cae195f85f7c2f14770bd50e650517b733cb270fbd", func := "tansy/tansylaw20.WalkBest", spec := "walkBest", inPlace := ["slices.overlaps[tansy/api.Node]", "slices.overlaps[string]", "slices.overlaps[tansy/api.Prop]", "math.Float64frombits", "math.Float64bits", "math.archTrunc"], unfollowed := true, recurses := true, loops := true, plainKeys := false, apart := false, narrowed := true }
def WalkBestUptoSaid : Prop := walkBestUptoRow.holds Tryz.pinned (OpenSpec.upto walkBestSpec)

/-- 'tansylaw20.WalkCheap', WHERE WHAT IT READS IS OF BULK AT MOST 1048576: true; the input reads as it did. -/
def walkCheapUptoRow : OpenClaim := { program := "ytkhllknahjmciaagreat", sum := "658eb97cc94a677753ba39cae195f85f7c2f14770bd50e650517b733cb270fbd", func := "tansy/tansylaw20.WalkCheap", spec := "walkCheap", inPlace := ["slices.overlaps[tansy/api.Node]", "slices.overlaps[string]", "slices.overlaps[tansy/api.Prop]", "math.Float64frombits", "math.Float64bits", "math.archTrunc"], unfollowed := true, recurses := true, plainKeys := false, apart := false, narrowed := true }
def WalkCheapUptoSaid : Prop := walkCheapUptoRow.holds Tryz.pinned (OpenSpec.upto walkCheapSpec)

/-- 'tansylaw20.WalkLevels', WHERE WHAT IT READS IS OF BULK AT MOST 1048576: true; the input reads as it did. -/
def walkLevelsUptoRow : OpenClaim := { program := "ytkhllknahjmciaagreat", sum := "658eb97cc94a677753ba39cae195f85f7c2f14770bd50e650517b733cb270fbd", func := "tansy/tansylaw20.WalkLevels", spec := "walkLevels", inPlace := ["slices.overlaps[tansy/api.Node]", "slices.overlaps[string]", "slices.overlaps[tansy/api.Prop]", "math.Float64frombits", "math.Float64bits", "math.archTrunc"], unfollowed := true, recurses := true, plainKeys := false, apart := false, narrowed := true }
def WalkLevelsUptoSaid : Prop := walkLevelsUptoRow.holds Tryz.pinned (OpenSpec.upto walkLevelsSpec)

/-- 'tansylaw20.WalkNone', WHERE WHAT IT READS IS OF BULK AT MOST 1048576: true; the input reads as it did. -/
def walkNoneUptoRow : OpenClaim := { program := "ytkhllknahjmciaagreat", sum := "658eb97cc94a677753ba39cae195f85f7c2f14770bd50e650517b733cb270fbd", func := "tansy/tansylaw20.WalkNone", spec := "walkNone", inPlace := ["slices.overlaps[tansy/api.Node]", "slices.overlaps[string]", "slices.overlaps[tansy/api.Prop]", "math.Float64frombits", "math.Float64bits", "math.archTrunc"], unfollowed := true, recurses := true, loops := true, plainKeys := false, apart := false, narrowed := true }
def WalkNoneUptoSaid : Prop := walkNoneUptoRow.holds Tryz.pinned (OpenSpec.upto walkNoneSpec)

/-- 'tansylaw20.WalkKeeps', WHERE WHAT IT READS IS OF BULK AT MOST 1048576: true; the input reads as it did. -/
def walkKeepsUptoRow : OpenClaim := { program := "ytkhllknahjmciaagreat", sum := "658eb97cc94a677753ba39cae195f85f7c2f14770bd50e650517b733cb270fbd", func := "tansy/tansylaw20.WalkKeeps", spec := "walkKeeps", inPlace := ["slices.overlaps[tansy/api.Node]", "slices.overlaps[string]", "slices.overlaps[tansy/api.Prop]", "math.Float64frombits", "math.Float64bits", "math.archTrunc"], unfollowed := true, recurses := true, loops := true, plainKeys := false, apart := false, narrowed := true }
def WalkKeepsUptoSaid : Prop := walkKeepsUptoRow.holds Tryz.pinned (OpenSpec.upto walkKeepsSpec)

/-- 'tansylaw20.WalkSome', WHERE WHAT IT READS IS OF BULK AT MOST 1048576: true; the input reads as it did. -/
def walkSomeUptoRow : OpenClaim := { program := "ytkhllknahjmciaagreat", sum := "658eb97cc94a677753ba39cae195f85f7c2f14770bd50e650517b733cb270fbd", func := "tansy/tansylaw20.WalkSome", spec := "walkSome", inPlace := ["slices.overlaps[tansy/api.Node]", "slices.overlaps[string]", "slices.overlaps[tansy/api.Prop]", "math.Float64frombits", "math.Float64bits", "math.archTrunc"], unfollowed := true, recurses := true, loops := true, plainKeys := false, apart := false, narrowed := true }
def WalkSomeUptoSaid : Prop := walkSomeUptoRow.holds Tryz.pinned (OpenSpec.upto walkSomeSpec)

end Rows
end Go.Proofs.YtkhllknahjmciaaGreat
