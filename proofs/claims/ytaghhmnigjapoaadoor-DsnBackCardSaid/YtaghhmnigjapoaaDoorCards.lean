/-
  DERIVED. GIVEN WITH THE SEED: THE CARDS: each row of YtaghhmnigjapoaaDoorRows.lean that lists a variable, with what it lists TIED to the program's text (the seventh form; the later family's looks); each row that meets fmt, with fmt's text TOLD by the authors' own Lean function (tested against real Go, not proved from fmt's source: count such statements apart). THE CARD IS WHAT COUNTS. Prove the row's statement (the work); the ties are given (YtaghhmnigjapoaaDoorTie.lean); close each card by the builder's one call (the guide's Derived/Test/ToyasCard.lean, 'card_holds'). Laid BY PROGRAM, IN A SANDBOX (cutbox-door.mjs). By AI agents, Wed Nov 11 2026. No macro, syntax, notation, axiom, sorry.
-/
import Derived.Test.YtaghhmnigjapoaaDoorRows
import GoSem.ClaimSeven
namespace Go.Proofs.YtaghhmnigjapoaaDoor
namespace Rows

/-- THE TIED CARD OF 'remudalaw50.DsnParses'. -/
def dsnParsesCard : Claim7 := { stood := { row := dsnParsesRow, standIns := [], harness := (true, "c94a39c8876f140f256571e1445a7cd2e8c18a3990843ee6a7d8c238bb196338"), looks := false }, kinds := [], alts := [], laidByText := true, laidKinds := [.data, .pinned], laidTests := true, laidLooks := .later }
def DsnParsesCardSaid : Prop := Claim7.holds Tryd.pinned (.plain (OpenSpec.ofChange dsnParsesSpec)) dsnParsesCard

/-- THE TIED CARD OF 'remudalaw50.DsnPrints'. -/
def dsnPrintsCard : Claim7 := { stood := { row := dsnPrintsRow, standIns := [], harness := (true, "c94a39c8876f140f256571e1445a7cd2e8c18a3990843ee6a7d8c238bb196338"), looks := false }, kinds := [], alts := [], laidByText := true, laidKinds := [.data, .pinned], laidTests := true, laidLooks := .later }
def DsnPrintsCardSaid : Prop := Claim7.holds Tryd.pinned (.plain (OpenSpec.ofChange dsnPrintsSpec)) dsnPrintsCard

/-- THE TIED CARD OF 'remudalaw50.DsnBack'. -/
def dsnBackCard : Claim7 := { stood := { row := dsnBackRow, standIns := [], harness := (true, "c94a39c8876f140f256571e1445a7cd2e8c18a3990843ee6a7d8c238bb196338"), looks := false }, kinds := [], alts := [], laidByText := true, laidKinds := [.data, .pinned], laidTests := true, laidLooks := .later }
def DsnBackCardSaid : Prop := Claim7.holds Tryd.pinned (.plain (OpenSpec.ofChange dsnBackSpec)) dsnBackCard

/-- THE SECOND FORM's CARD OF 'remudalaw50.DsnParses'. -/
def dsnParsesUptoCard : Claim7 := { stood := { row := dsnParsesUptoRow, standIns := [], harness := (true, "c94a39c8876f140f256571e1445a7cd2e8c18a3990843ee6a7d8c238bb196338"), looks := false }, kinds := [], alts := [], laidByText := true, laidKinds := [.data, .pinned], laidTests := true, laidLooks := .later }
def DsnParsesUptoCardSaid : Prop := Claim7.holds Tryd.pinned (.plain (OpenSpec.upto dsnParsesSpec)) dsnParsesUptoCard

/-- THE SECOND FORM's CARD OF 'remudalaw50.DsnPrints'. -/
def dsnPrintsUptoCard : Claim7 := { stood := { row := dsnPrintsUptoRow, standIns := [], harness := (true, "c94a39c8876f140f256571e1445a7cd2e8c18a3990843ee6a7d8c238bb196338"), looks := false }, kinds := [], alts := [], laidByText := true, laidKinds := [.data, .pinned], laidTests := true, laidLooks := .later }
def DsnPrintsUptoCardSaid : Prop := Claim7.holds Tryd.pinned (.plain (OpenSpec.upto dsnPrintsSpec)) dsnPrintsUptoCard

/-- THE SECOND FORM's CARD OF 'remudalaw50.DsnBack'. -/
def dsnBackUptoCard : Claim7 := { stood := { row := dsnBackUptoRow, standIns := [], harness := (true, "c94a39c8876f140f256571e1445a7cd2e8c18a3990843ee6a7d8c238bb196338"), looks := false }, kinds := [], alts := [], laidByText := true, laidKinds := [.data, .pinned], laidTests := true, laidLooks := .later }
def DsnBackUptoCardSaid : Prop := Claim7.holds Tryd.pinned (.plain (OpenSpec.upto dsnBackSpec)) dsnBackUptoCard
end Rows
end Go.Proofs.YtaghhmnigjapoaaDoor
