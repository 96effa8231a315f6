/-
  DERIVED. GIVEN WITH THE SEED: THE CARDS: each row of YtdiklblnilmpoaaDoorRows.lean that lists a variable, with what it lists TIED to the program's text (the seventh form; the later family's looks); each row that meets fmt, with fmt's text TOLD by the authors' own Lean function (tested against real Go, not proved from fmt's source: count such statements apart). THE CARD IS WHAT COUNTS. Prove the row's statement (the work); the ties are given (YtdiklblnilmpoaaDoorTie.lean); close each card by the builder's one call (the guide's Derived/Test/ToyasCard.lean, 'card_holds'). Laid BY PROGRAM, IN A SANDBOX (cutbox-door.mjs). By AI agents, Wed Nov 11 2026. No macro, syntax, notation, axiom, sorry.
-/
import Derived.Test.YtdiklblnilmpoaaDoorRows
import GoSem.ClaimSeven
namespace Go.Proofs.YtdiklblnilmpoaaDoor
namespace Rows

/-- THE TIED CARD OF 'tansylaw6.BailWords'. -/
def bailWordsCard : Claim7 := { stood := { row := bailWordsRow, standIns := [], harness := (true, "fa9182cd59c60934ceacd1c4922eedf61e83b07fac98fe2dc327b521408125a9"), looks := true }, kinds := [], alts := [], laidByText := true, laidKinds := [.data, .data, .data], laidTests := true, laidLooks := .later }
def BailWordsCardSaid : Prop := Claim7.holds Tryd.pinned (.plain (OpenSpec.ofChange bailWordsSpec)) bailWordsCard

/-- THE SECOND FORM's CARD OF 'tansylaw6.BailWords'. -/
def bailWordsUptoCard : Claim7 := { stood := { row := bailWordsUptoRow, standIns := [], harness := (true, "fa9182cd59c60934ceacd1c4922eedf61e83b07fac98fe2dc327b521408125a9"), looks := true }, kinds := [], alts := [], laidByText := true, laidKinds := [.data, .data, .data], laidTests := true, laidLooks := .later }
def BailWordsUptoCardSaid : Prop := Claim7.holds Tryd.pinned (.plain (OpenSpec.upto bailWordsSpec)) bailWordsUptoCard
end Rows
end Go.Proofs.YtdiklblnilmpoaaDoor
