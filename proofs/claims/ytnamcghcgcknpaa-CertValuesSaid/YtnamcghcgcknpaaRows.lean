/-
  No cell of these rows narrows 'for every input' (looked for: loops, veiled, ifaces, maps, wideKeys, modest, calm, conditions, laid).
  DERIVED. THE GIVEN ROWS OF THIS SEAT. 5 by the template 'for every input the law returns true; each argument reads behind the call as it read before'; 0 by the template 'total and deterministic' (their statements: YtnamcghcgcknpaaTotals.lean).
  GIVEN WITH THE SEED: the statements are not yours to turn. If you find one false, say at which input.
  Laid BY PROGRAM, IN A SANDBOX (cutbox-rows.mjs): the forced cells as the released guide's own fill.sh prints them over the translation c95d137274587983… (all of the seat's roots in one cut). By AI agents, Wed Nov 11 2026. No macro, syntax, notation, axiom, sorry.
-/
import Derived.Test.YtnamcghcgcknpaaChecked
import GoSem.Claim
import GoSem.ClaimJoined
import GoSem.ClaimMapViews
import Derived.JoinedTies
import Derived.KernelRfl
namespace Go.Proofs.Ytnamcghcgcknpaa
/- THE CELL 'sum', in the pinned program and in every row, IS THE sha256 OF THE DUMP (.gsa) THAT YtnamcghcgcknpaaProg.lean LOADS. Nothing in Lean hashes anything: it is a label: what it is worth is what the hold of that sum in a sandbox is worth. -/
noncomputable def Try.pinned : Pinned := { name := "ytnamcghcgcknpaa", sum := "c95d1372745879837a93a70d934bd6ad325e698ffa0b7dc441cde2ce3b4c9742", checked := Try.checked }
namespace Rows
def none {H : Type} : Left H := { results := [], args := [] }

/-- 'tansylaw24.CertBytes': WHATEVER THE INPUT: true; the input reads as it did. -/
def certBytesSpec : ChangeSpec := { name := "certBytes", fn := fun _ => fun
  | [d] => { results := [.lit (.bool true)], args := [d] }
  | _ => none }
def certBytesRow : OpenClaim := { program := "ytnamcghcgcknpaa", sum := "c95d1372745879837a93a70d934bd6ad325e698ffa0b7dc441cde2ce3b4c9742", func := "tansy/tansylaw24.CertBytes", spec := "certBytes", inPlace := ["math.Float64frombits", "math.Float64bits"], unfollowed := true, recurses := true, apart := false }
def CertBytesSaid : Prop := certBytesRow.holds Try.pinned (OpenSpec.ofChange certBytesSpec)

/-- ITS FALSE NEIGHBOUR: 'it returns false'. Refute it at one input. -/
def certBytesWrong : ChangeSpec := { name := "certBytes", fn := fun _ => fun
  | [d] => { results := [.lit (.bool false)], args := [d] }
  | _ => none }
def CertBytesWrongFalsely : Prop := certBytesRow.holds Try.pinned (OpenSpec.ofChange certBytesWrong)

/-- 'tansylaw24.CertValues': WHATEVER THE INPUT: true; the input reads as it did. -/
def certValuesSpec : ChangeSpec := { name := "certValues", fn := fun _ => fun
  | [d1, d2] => { results := [.lit (.bool true)], args := [d1, d2] }
  | _ => none }
def certValuesRow : OpenClaim := { program := "ytnamcghcgcknpaa", sum := "c95d1372745879837a93a70d934bd6ad325e698ffa0b7dc441cde2ce3b4c9742", func := "tansy/tansylaw24.CertValues", spec := "certValues", inPlace := ["math.Float64frombits", "math.Float64bits"], unfollowed := true, recurses := true, apart := false }
def CertValuesSaid : Prop := certValuesRow.holds Try.pinned (OpenSpec.ofChange certValuesSpec)

/-- ITS FALSE NEIGHBOUR: 'it returns false'. Refute it at one input. -/
def certValuesWrong : ChangeSpec := { name := "certValues", fn := fun _ => fun
  | [d1, d2] => { results := [.lit (.bool false)], args := [d1, d2] }
  | _ => none }
def CertValuesWrongFalsely : Prop := certValuesRow.holds Try.pinned (OpenSpec.ofChange certValuesWrong)

/-- 'tansylaw24.CertBack': WHATEVER THE INPUT: true; the input reads as it did. -/
def certBackSpec : ChangeSpec := { name := "certBack", fn := fun _ => fun
  | [d1, d2] => { results := [.lit (.bool true)], args := [d1, d2] }
  | _ => none }
def certBackRow : OpenClaim := { program := "ytnamcghcgcknpaa", sum := "c95d1372745879837a93a70d934bd6ad325e698ffa0b7dc441cde2ce3b4c9742", func := "tansy/tansylaw24.CertBack", spec := "certBack", inPlace := ["math.Float64frombits", "math.Float64bits"], unfollowed := true, recurses := true, apart := false }
def CertBackSaid : Prop := certBackRow.holds Try.pinned (OpenSpec.ofChange certBackSpec)

/-- ITS FALSE NEIGHBOUR: 'it returns false'. Refute it at one input. -/
def certBackWrong : ChangeSpec := { name := "certBack", fn := fun _ => fun
  | [d1, d2] => { results := [.lit (.bool false)], args := [d1, d2] }
  | _ => none }
def CertBackWrongFalsely : Prop := certBackRow.holds Try.pinned (OpenSpec.ofChange certBackWrong)

/-- 'tansylaw24.CertTurns': WHATEVER THE INPUT: true; the input reads as it did. -/
def certTurnsSpec : ChangeSpec := { name := "certTurns", fn := fun _ => fun
  | [d1, d2, d3] => { results := [.lit (.bool true)], args := [d1, d2, d3] }
  | _ => none }
def certTurnsRow : OpenClaim := { program := "ytnamcghcgcknpaa", sum := "c95d1372745879837a93a70d934bd6ad325e698ffa0b7dc441cde2ce3b4c9742", func := "tansy/tansylaw24.CertTurns", spec := "certTurns", inPlace := ["math.Float64frombits", "math.Float64bits"], unfollowed := true, recurses := true, apart := false }
def CertTurnsSaid : Prop := certTurnsRow.holds Try.pinned (OpenSpec.ofChange certTurnsSpec)

/-- ITS FALSE NEIGHBOUR: 'it returns false'. Refute it at one input. -/
def certTurnsWrong : ChangeSpec := { name := "certTurns", fn := fun _ => fun
  | [d1, d2, d3] => { results := [.lit (.bool false)], args := [d1, d2, d3] }
  | _ => none }
def CertTurnsWrongFalsely : Prop := certTurnsRow.holds Try.pinned (OpenSpec.ofChange certTurnsWrong)

/-- 'tansylaw24.CertLimits': WHATEVER THE INPUT: true; the input reads as it did. -/
def certLimitsSpec : ChangeSpec := { name := "certLimits", fn := fun _ => fun
  | [d1, d2, d3, d4, d5] => { results := [.lit (.bool true)], args := [d1, d2, d3, d4, d5] }
  | _ => none }
def certLimitsRow : OpenClaim := { program := "ytnamcghcgcknpaa", sum := "c95d1372745879837a93a70d934bd6ad325e698ffa0b7dc441cde2ce3b4c9742", func := "tansy/tansylaw24.CertLimits", spec := "certLimits", inPlace := ["math.Float64frombits", "math.Float64bits"], unfollowed := true, recurses := true, apart := false }
def CertLimitsSaid : Prop := certLimitsRow.holds Try.pinned (OpenSpec.ofChange certLimitsSpec)

/-- ITS FALSE NEIGHBOUR: 'it returns false'. Refute it at one input. -/
def certLimitsWrong : ChangeSpec := { name := "certLimits", fn := fun _ => fun
  | [d1, d2, d3, d4, d5] => { results := [.lit (.bool false)], args := [d1, d2, d3, d4, d5] }
  | _ => none }
def CertLimitsWrongFalsely : Prop := certLimitsRow.holds Try.pinned (OpenSpec.ofChange certLimitsWrong)

/- THE SECOND FORM. 'bulk': how many values and letters a reading holds, each counted each time it is reached (what is shared counts as often as it is met; a slice's spare places count too). A statement '..UptoSaid' is the law's where the arguments, and the package variables that the reading takes, are together of bulk at most 1048576: NARROWER than '..Said'. Prove '..Said' where nothing that the law and all that it calls make is longer than what came in: it says more and counts as full. Else prove '..UptoSaid'. A law counts once. -/
mutual
def uptoBulk {H : Type} : DataW H → Nat
  | .lit (.string bytes) => bytes.length + 1
  | .lit _ => 1
  | .nil => 1
  | .ptr d => uptoBulk d + 1
  | .slice elems spare => uptoBulkAll elems + uptoBulkAll spare + 1
  | .agg parts => uptoBulkAll parts + 1
  | .iface _ d => uptoBulk d + 1
  | .map entries => uptoBulkEntries entries + 1
  | .held _ => 1
def uptoBulkAll {H : Type} : List (DataW H) → Nat
  | [] => 0
  | d :: r => uptoBulk d + uptoBulkAll r
def uptoBulkEntries {H : Type} : List (Lit × DataW H) → Nat
  | [] => 0
  | x :: r => uptoBulkEntry x + uptoBulkEntries r
def uptoBulkEntry {H : Type} : Lit × DataW H → Nat
  | (.string bytes, d) => bytes.length + uptoBulk d + 1
  | (_, d) => uptoBulk d + 1
 end
def uptoSmall : (H : Type) → List (DataW H) → Bool := fun _ ds => decide (uptoBulkAll ds ≤ 1048576)
def OpenSpec.upto (s : _root_.Go.ChangeSpec) : _root_.Go.OpenSpec := { _root_.Go.OpenSpec.ofChange s with cond := some uptoSmall }

/-- 'tansylaw24.CertBytes', WHERE WHAT IT READS IS OF BULK AT MOST 1048576: true; the input reads as it did. -/
def certBytesUptoRow : OpenClaim := { program := "ytnamcghcgcknpaa", sum := "c95d1372745879837a93a70d934bd6ad325e698ffa0b7dc441cde2ce3b4c9742", func := "tansy/tansylaw24.CertBytes", spec := "certBytes", inPlace := ["math.Float64frombits", "math.Float64bits"], unfollowed := true, recurses := true, apart := false, narrowed := true }
def CertBytesUptoSaid : Prop := certBytesUptoRow.holds Try.pinned (OpenSpec.upto certBytesSpec)

/-- 'tansylaw24.CertValues', WHERE WHAT IT READS IS OF BULK AT MOST 1048576: true; the input reads as it did. -/
def certValuesUptoRow : OpenClaim := { program := "ytnamcghcgcknpaa", sum := "c95d1372745879837a93a70d934bd6ad325e698ffa0b7dc441cde2ce3b4c9742", func := "tansy/tansylaw24.CertValues", spec := "certValues", inPlace := ["math.Float64frombits", "math.Float64bits"], unfollowed := true, recurses := true, apart := false, narrowed := true }
def CertValuesUptoSaid : Prop := certValuesUptoRow.holds Try.pinned (OpenSpec.upto certValuesSpec)

/-- 'tansylaw24.CertBack', WHERE WHAT IT READS IS OF BULK AT MOST 1048576: true; the input reads as it did. -/
def certBackUptoRow : OpenClaim := { program := "ytnamcghcgcknpaa", sum := "c95d1372745879837a93a70d934bd6ad325e698ffa0b7dc441cde2ce3b4c9742", func := "tansy/tansylaw24.CertBack", spec := "certBack", inPlace := ["math.Float64frombits", "math.Float64bits"], unfollowed := true, recurses := true, apart := false, narrowed := true }
def CertBackUptoSaid : Prop := certBackUptoRow.holds Try.pinned (OpenSpec.upto certBackSpec)

/-- 'tansylaw24.CertTurns', WHERE WHAT IT READS IS OF BULK AT MOST 1048576: true; the input reads as it did. -/
def certTurnsUptoRow : OpenClaim := { program := "ytnamcghcgcknpaa", sum := "c95d1372745879837a93a70d934bd6ad325e698ffa0b7dc441cde2ce3b4c9742", func := "tansy/tansylaw24.CertTurns", spec := "certTurns", inPlace := ["math.Float64frombits", "math.Float64bits"], unfollowed := true, recurses := true, apart := false, narrowed := true }
def CertTurnsUptoSaid : Prop := certTurnsUptoRow.holds Try.pinned (OpenSpec.upto certTurnsSpec)

/-- 'tansylaw24.CertLimits', WHERE WHAT IT READS IS OF BULK AT MOST 1048576: true; the input reads as it did. -/
def certLimitsUptoRow : OpenClaim := { program := "ytnamcghcgcknpaa", sum := "c95d1372745879837a93a70d934bd6ad325e698ffa0b7dc441cde2ce3b4c9742", func := "tansy/tansylaw24.CertLimits", spec := "certLimits", inPlace := ["math.Float64frombits", "math.Float64bits"], unfollowed := true, recurses := true, apart := false, narrowed := true }
def CertLimitsUptoSaid : Prop := certLimitsUptoRow.holds Try.pinned (OpenSpec.upto certLimitsSpec)

end Rows
end Go.Proofs.Ytnamcghcgcknpaa
