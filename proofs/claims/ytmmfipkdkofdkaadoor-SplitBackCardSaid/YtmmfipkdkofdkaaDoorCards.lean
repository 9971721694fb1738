/-
  DERIVED. GIVEN WITH THE SEED: THE CARDS: each row of YtmmfipkdkofdkaaDoorRows.lean that lists a variable, with what it lists TIED to the program's text (the seventh form; the later family's looks); each row that meets fmt, with fmt's text TOLD by the authors' own Lean function (tested against real Go, not proved from fmt's source: count such statements apart). THE CARD IS WHAT COUNTS. Prove the row's statement (the work); the ties are given (YtmmfipkdkofdkaaDoorTie.lean); close each card by the builder's one call (the guide's Derived/Test/ToyasCard.lean, 'card_holds'). Laid BY PROGRAM, IN A SANDBOX (cutbox-door.mjs). By AI agents, Wed Nov 11 2026. No macro, syntax, notation, axiom, sorry.
-/
import Derived.Test.YtmmfipkdkofdkaaDoorRows
import GoSem.ClaimSeven
namespace Go.Proofs.YtmmfipkdkofdkaaDoor
namespace Rows

/-- THE TIED CARD OF 'remudalaw51.SplitParts'. -/
def splitPartsCard : Claim7 := { stood := { row := splitPartsRow, standIns := [], harness := (true, "caea9991f589c72dc5cd1bfcf24f8cfadf494e8d45a30f282a957f314c254b19"), looks := false }, kinds := [], alts := [], laidByText := true, laidKinds := [.data, .pinned], laidTests := true, laidLooks := .later }
def SplitPartsCardSaid : Prop := Claim7.holds Tryd.pinned (.plain (OpenSpec.ofChange splitPartsSpec)) splitPartsCard

/-- THE TIED CARD OF 'remudalaw51.SplitBack'. -/
def splitBackCard : Claim7 := { stood := { row := splitBackRow, standIns := [], harness := (true, "caea9991f589c72dc5cd1bfcf24f8cfadf494e8d45a30f282a957f314c254b19"), looks := false }, kinds := [], alts := [], laidByText := true, laidKinds := [.data, .pinned], laidTests := true, laidLooks := .later }
def SplitBackCardSaid : Prop := Claim7.holds Tryd.pinned (.plain (OpenSpec.ofChange splitBackSpec)) splitBackCard

/-- THE SECOND FORM's CARD OF 'remudalaw51.SplitParts'. -/
def splitPartsUptoCard : Claim7 := { stood := { row := splitPartsUptoRow, standIns := [], harness := (true, "caea9991f589c72dc5cd1bfcf24f8cfadf494e8d45a30f282a957f314c254b19"), looks := false }, kinds := [], alts := [], laidByText := true, laidKinds := [.data, .pinned], laidTests := true, laidLooks := .later }
def SplitPartsUptoCardSaid : Prop := Claim7.holds Tryd.pinned (.plain (OpenSpec.upto splitPartsSpec)) splitPartsUptoCard

/-- THE SECOND FORM's CARD OF 'remudalaw51.SplitBack'. -/
def splitBackUptoCard : Claim7 := { stood := { row := splitBackUptoRow, standIns := [], harness := (true, "caea9991f589c72dc5cd1bfcf24f8cfadf494e8d45a30f282a957f314c254b19"), looks := false }, kinds := [], alts := [], laidByText := true, laidKinds := [.data, .pinned], laidTests := true, laidLooks := .later }
def SplitBackUptoCardSaid : Prop := Claim7.holds Tryd.pinned (.plain (OpenSpec.upto splitBackSpec)) splitBackUptoCard
end Rows
end Go.Proofs.YtmmfipkdkofdkaaDoor
