/-
  DERIVED. GIVEN WITH THE SEED: THE CARDS: each row of YtlmelbijgckfpaaDoorRows.lean that lists a variable, with what it lists TIED to the program's text (the seventh form; the later family's looks); each row that meets fmt, with fmt's text TOLD by the authors' own Lean function (tested against real Go, not proved from fmt's source: count such statements apart). THE CARD IS WHAT COUNTS. Prove the row's statement (the work); the ties are given (YtlmelbijgckfpaaDoorTie.lean); close each card by the builder's one call (the guide's Derived/Test/ToyasCard.lean, 'card_holds'). Laid BY PROGRAM, IN A SANDBOX (cutbox-door.mjs). By AI agents, Wed Nov 11 2026. No macro, syntax, notation, axiom, sorry.
-/
import Derived.Test.YtlmelbijgckfpaaDoorRows
import GoSem.ClaimSeven
namespace Go.Proofs.YtlmelbijgckfpaaDoor
namespace Rows

/-- THE TIED CARD OF 'remudalaw49.IniParses'. -/
def iniParsesCard : Claim7 := { stood := { row := iniParsesRow, standIns := [], harness := (true, "6fc151b0e06dc3857144dd5213f8789b5019cb1822537c8305f9ed29012092e4"), looks := false }, kinds := [], alts := [], laidByText := true, laidKinds := [.data, .pinned], laidTests := true, laidLooks := .later }
def IniParsesCardSaid : Prop := Claim7.holds Tryd.pinned (.plain (OpenSpec.ofChange iniParsesSpec)) iniParsesCard

/-- THE TIED CARD OF 'remudalaw49.IniPrints'. -/
def iniPrintsCard : Claim7 := { stood := { row := iniPrintsRow, standIns := [], harness := (true, "6fc151b0e06dc3857144dd5213f8789b5019cb1822537c8305f9ed29012092e4"), looks := false }, kinds := [], alts := [], laidByText := true, laidKinds := [.data, .pinned], laidTests := true, laidLooks := .later }
def IniPrintsCardSaid : Prop := Claim7.holds Tryd.pinned (.plain (OpenSpec.ofChange iniPrintsSpec)) iniPrintsCard

/-- THE TIED CARD OF 'remudalaw49.IniBack'. -/
def iniBackCard : Claim7 := { stood := { row := iniBackRow, standIns := [], harness := (true, "6fc151b0e06dc3857144dd5213f8789b5019cb1822537c8305f9ed29012092e4"), looks := false }, kinds := [], alts := [], laidByText := true, laidKinds := [.data, .pinned], laidTests := true, laidLooks := .later }
def IniBackCardSaid : Prop := Claim7.holds Tryd.pinned (.plain (OpenSpec.ofChange iniBackSpec)) iniBackCard

/-- THE TIED CARD OF 'remudalaw49.IniOrdinary'. -/
def iniOrdinaryCard : Claim7 := { stood := { row := iniOrdinaryRow, standIns := [], harness := (true, "6fc151b0e06dc3857144dd5213f8789b5019cb1822537c8305f9ed29012092e4"), looks := false }, kinds := [], alts := [], laidByText := true, laidKinds := [.data, .pinned], laidTests := true, laidLooks := .later }
def IniOrdinaryCardSaid : Prop := Claim7.holds Tryd.pinned (.plain (OpenSpec.ofChange iniOrdinarySpec)) iniOrdinaryCard

/-- THE SECOND FORM's CARD OF 'remudalaw49.IniParses'. -/
def iniParsesUptoCard : Claim7 := { stood := { row := iniParsesUptoRow, standIns := [], harness := (true, "6fc151b0e06dc3857144dd5213f8789b5019cb1822537c8305f9ed29012092e4"), looks := false }, kinds := [], alts := [], laidByText := true, laidKinds := [.data, .pinned], laidTests := true, laidLooks := .later }
def IniParsesUptoCardSaid : Prop := Claim7.holds Tryd.pinned (.plain (OpenSpec.upto iniParsesSpec)) iniParsesUptoCard

/-- THE SECOND FORM's CARD OF 'remudalaw49.IniPrints'. -/
def iniPrintsUptoCard : Claim7 := { stood := { row := iniPrintsUptoRow, standIns := [], harness := (true, "6fc151b0e06dc3857144dd5213f8789b5019cb1822537c8305f9ed29012092e4"), looks := false }, kinds := [], alts := [], laidByText := true, laidKinds := [.data, .pinned], laidTests := true, laidLooks := .later }
def IniPrintsUptoCardSaid : Prop := Claim7.holds Tryd.pinned (.plain (OpenSpec.upto iniPrintsSpec)) iniPrintsUptoCard

/-- THE SECOND FORM's CARD OF 'remudalaw49.IniBack'. -/
def iniBackUptoCard : Claim7 := { stood := { row := iniBackUptoRow, standIns := [], harness := (true, "6fc151b0e06dc3857144dd5213f8789b5019cb1822537c8305f9ed29012092e4"), looks := false }, kinds := [], alts := [], laidByText := true, laidKinds := [.data, .pinned], laidTests := true, laidLooks := .later }
def IniBackUptoCardSaid : Prop := Claim7.holds Tryd.pinned (.plain (OpenSpec.upto iniBackSpec)) iniBackUptoCard

/-- THE SECOND FORM's CARD OF 'remudalaw49.IniOrdinary'. -/
def iniOrdinaryUptoCard : Claim7 := { stood := { row := iniOrdinaryUptoRow, standIns := [], harness := (true, "6fc151b0e06dc3857144dd5213f8789b5019cb1822537c8305f9ed29012092e4"), looks := false }, kinds := [], alts := [], laidByText := true, laidKinds := [.data, .pinned], laidTests := true, laidLooks := .later }
def IniOrdinaryUptoCardSaid : Prop := Claim7.holds Tryd.pinned (.plain (OpenSpec.upto iniOrdinarySpec)) iniOrdinaryUptoCard
end Rows
end Go.Proofs.YtlmelbijgckfpaaDoor
