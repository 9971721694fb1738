/-
  NARROWER THAN 'FOR EVERY INPUT', by the rows' own cells (each row's printed sentence says how): IniParses: laid · IniPrints: laid · IniBack: laid · IniOrdinary: laid.
  DERIVED. THE GIVEN ROWS OF THIS SEAT. 4 by the template 'for every input the law returns true; each argument reads behind the call as it read before'; 0 by the template 'total and deterministic' (their statements: YtlmelbijgckfpaaDoorTotals.lean).
  GIVEN WITH THE SEED: the statements are not yours to turn. If you find one false, say at which input.
  Laid BY PROGRAM, IN A SANDBOX (cutbox-rows.mjs): the forced cells as the released guide's own fill.sh prints them over the translation a45970d8cfa318c0… (all of the seat's roots in one cut). By AI agents, Wed Nov 11 2026. No macro, syntax, notation, axiom, sorry.
-/
import Derived.Test.YtlmelbijgckfpaaDoorChecked
import GoSem.PinnedTables
import GoSem.Claim
import GoSem.ClaimJoined
import GoSem.ClaimMapViews
import Derived.JoinedTies
import Derived.KernelRfl
namespace Go.Proofs.YtlmelbijgckfpaaDoor
/- THE CELL 'sum', in the pinned program and in every row, IS THE sha256 OF THE DUMP (.gsa) THAT YtlmelbijgckfpaaDoorProg.lean LOADS. Nothing in Lean hashes anything: it is a label: what it is worth is what the hold of that sum in a sandbox is worth. -/
noncomputable def Tryd.pinned : Pinned := { name := "ytlmelbijgckfpaadoor", sum := "a45970d8cfa318c03bd76033befe6dc34763963af73d38377f1fe9e2d3d58de6", checked := Tryd.checked }
namespace Rows
def none {H : Type} : Left H := { results := [], args := [] }

/- WHAT THE LISTED PACKAGE-LEVEL VARIABLES READ AS WHEN THE CALL BEGINS. Each datum BY PROGRAM (the guide's laid-datum.mjs) off the statement by which the dump's own 'gosem.cut.vars' lays the variable. In a bare row this is a premise. The card (YtlmelbijgckfpaaDoorCards.lean) ties it to the program's text. -/
def laid_unicode_utf8_acceptRanges {H : Type} : DataW H := .agg [.agg [.lit (.int .u8 128), .lit (.int .u8 191)], .agg [.lit (.int .u8 160), .lit (.int .u8 191)], .agg [.lit (.int .u8 128), .lit (.int .u8 159)], .agg [.lit (.int .u8 144), .lit (.int .u8 191)], .agg [.lit (.int .u8 128), .lit (.int .u8 143)], .agg [.lit (.int .u8 0), .lit (.int .u8 0)], .agg [.lit (.int .u8 0), .lit (.int .u8 0)], .agg [.lit (.int .u8 0), .lit (.int .u8 0)], .agg [.lit (.int .u8 0), .lit (.int .u8 0)], .agg [.lit (.int .u8 0), .lit (.int .u8 0)], .agg [.lit (.int .u8 0), .lit (.int .u8 0)], .agg [.lit (.int .u8 0), .lit (.int .u8 0)], .agg [.lit (.int .u8 0), .lit (.int .u8 0)], .agg [.lit (.int .u8 0), .lit (.int .u8 0)], .agg [.lit (.int .u8 0), .lit (.int .u8 0)], .agg [.lit (.int .u8 0), .lit (.int .u8 0)]]
/-- One of Go's own tables, pinned by name: the form's constant. -/
def laid_unicode_utf8_first : DataW Unit := Go.Pinned.utf8First

/-- 'remudalaw49.IniParses': WHATEVER THE INPUT: true; the input reads as it did. -/
def iniParsesSpec : ChangeSpec := { name := "iniParses", fn := fun _ => fun
  | [d1, d2] => { results := [.lit (.bool true)], args := [d1, d2] }
  | _ => none }
def iniParsesRow : OpenClaim := { program := "ytlmelbijgckfpaadoor", sum := "a45970d8cfa318c03bd76033befe6dc34763963af73d38377f1fe9e2d3d58de6", func := "remuda/remudalaw49.IniParses", spec := "iniParses", inPlace := ["internal/bytealg.IndexByteString", "internal/bytealg.IndexString"], unfollowed := true, recurses := true, named := ["unicode/utf8.first", "unicode/utf8.acceptRanges", "internal/bytealg.MaxLen"], apart := false, laid := [("unicode/utf8.acceptRanges", laid_unicode_utf8_acceptRanges), ("unicode/utf8.first", laid_unicode_utf8_first)] }
def IniParsesSaid : Prop := iniParsesRow.holds Tryd.pinned (OpenSpec.ofChange iniParsesSpec)

/-- ITS FALSE NEIGHBOUR: 'it returns false'. Refute it at one input. -/
def iniParsesWrong : ChangeSpec := { name := "iniParses", fn := fun _ => fun
  | [d1, d2] => { results := [.lit (.bool false)], args := [d1, d2] }
  | _ => none }
def IniParsesWrongFalsely : Prop := iniParsesRow.holds Tryd.pinned (OpenSpec.ofChange iniParsesWrong)

/-- 'remudalaw49.IniPrints': WHATEVER THE INPUT: true; the input reads as it did. -/
def iniPrintsSpec : ChangeSpec := { name := "iniPrints", fn := fun _ => fun
  | [d] => { results := [.lit (.bool true)], args := [d] }
  | _ => none }
def iniPrintsRow : OpenClaim := { program := "ytlmelbijgckfpaadoor", sum := "a45970d8cfa318c03bd76033befe6dc34763963af73d38377f1fe9e2d3d58de6", func := "remuda/remudalaw49.IniPrints", spec := "iniPrints", inPlace := ["internal/bytealg.IndexByteString", "internal/bytealg.IndexString", "internal/abi.NoEscape"], unfollowed := true, recurses := true, named := ["unicode/utf8.first", "unicode/utf8.acceptRanges", "internal/bytealg.MaxLen"], apart := false, laid := [("unicode/utf8.acceptRanges", laid_unicode_utf8_acceptRanges), ("unicode/utf8.first", laid_unicode_utf8_first)] }
def IniPrintsSaid : Prop := iniPrintsRow.holds Tryd.pinned (OpenSpec.ofChange iniPrintsSpec)

/-- ITS FALSE NEIGHBOUR: 'it returns false'. Refute it at one input. -/
def iniPrintsWrong : ChangeSpec := { name := "iniPrints", fn := fun _ => fun
  | [d] => { results := [.lit (.bool false)], args := [d] }
  | _ => none }
def IniPrintsWrongFalsely : Prop := iniPrintsRow.holds Tryd.pinned (OpenSpec.ofChange iniPrintsWrong)

/-- 'remudalaw49.IniBack': WHATEVER THE INPUT: true; the input reads as it did. -/
def iniBackSpec : ChangeSpec := { name := "iniBack", fn := fun _ => fun
  | [d1, d2] => { results := [.lit (.bool true)], args := [d1, d2] }
  | _ => none }
def iniBackRow : OpenClaim := { program := "ytlmelbijgckfpaadoor", sum := "a45970d8cfa318c03bd76033befe6dc34763963af73d38377f1fe9e2d3d58de6", func := "remuda/remudalaw49.IniBack", spec := "iniBack", inPlace := ["internal/bytealg.IndexByteString", "internal/bytealg.IndexString", "internal/abi.NoEscape"], unfollowed := true, recurses := true, named := ["unicode/utf8.first", "unicode/utf8.acceptRanges", "internal/bytealg.MaxLen"], apart := false, laid := [("unicode/utf8.acceptRanges", laid_unicode_utf8_acceptRanges), ("unicode/utf8.first", laid_unicode_utf8_first)] }
def IniBackSaid : Prop := iniBackRow.holds Tryd.pinned (OpenSpec.ofChange iniBackSpec)

/-- ITS FALSE NEIGHBOUR: 'it returns false'. Refute it at one input. -/
def iniBackWrong : ChangeSpec := { name := "iniBack", fn := fun _ => fun
  | [d1, d2] => { results := [.lit (.bool false)], args := [d1, d2] }
  | _ => none }
def IniBackWrongFalsely : Prop := iniBackRow.holds Tryd.pinned (OpenSpec.ofChange iniBackWrong)

/-- 'remudalaw49.IniOrdinary': WHATEVER THE INPUT: true; the input reads as it did. -/
def iniOrdinarySpec : ChangeSpec := { name := "iniOrdinary", fn := fun _ => fun
  | [d] => { results := [.lit (.bool true)], args := [d] }
  | _ => none }
def iniOrdinaryRow : OpenClaim := { program := "ytlmelbijgckfpaadoor", sum := "a45970d8cfa318c03bd76033befe6dc34763963af73d38377f1fe9e2d3d58de6", func := "remuda/remudalaw49.IniOrdinary", spec := "iniOrdinary", inPlace := ["internal/abi.NoEscape", "internal/bytealg.IndexByteString", "internal/bytealg.IndexString"], unfollowed := true, recurses := true, named := ["unicode/utf8.first", "unicode/utf8.acceptRanges", "internal/bytealg.MaxLen"], apart := false, laid := [("unicode/utf8.acceptRanges", laid_unicode_utf8_acceptRanges), ("unicode/utf8.first", laid_unicode_utf8_first)] }
def IniOrdinarySaid : Prop := iniOrdinaryRow.holds Tryd.pinned (OpenSpec.ofChange iniOrdinarySpec)

/-- ITS FALSE NEIGHBOUR: 'it returns false'. Refute it at one input. -/
def iniOrdinaryWrong : ChangeSpec := { name := "iniOrdinary", fn := fun _ => fun
  | [d] => { results := [.lit (.bool false)], args := [d] }
  | _ => none }
def IniOrdinaryWrongFalsely : Prop := iniOrdinaryRow.holds Tryd.pinned (OpenSpec.ofChange iniOrdinaryWrong)

/- THE SECOND FORM. 'bulk': how many values and letters a reading holds, each counted each time it is reached (what is shared counts as often as it is met; a slice's spare places count too). A statement '..UptoSaid' is the law's where the arguments, and the package variables that the reading takes, are together of bulk at most 1048576: NARROWER than '..Said'. Prove '..Said' where nothing that the law and all that it calls make is longer than what came in: it says more and counts as full. Else prove '..UptoSaid'. A law counts once. -/
mutual
def uptoBulk {H : Type} : DataW H → Nat
  | .lit (.string bytes) => bytes.length + 1
  | .lit _ => 1
  | .nil => 1
  | .ptr d => uptoBulk d + 1
  | .slice elems spare => uptoBulkAll elems + uptoBulkAll spare + 1
  | .agg parts => uptoBulkAll parts + 1
  | .iface _ d => uptoBulk d + 1
  | .map entries => uptoBulkEntries entries + 1
  | .held _ => 1
def uptoBulkAll {H : Type} : List (DataW H) → Nat
  | [] => 0
  | d :: r => uptoBulk d + uptoBulkAll r
def uptoBulkEntries {H : Type} : List (Lit × DataW H) → Nat
  | [] => 0
  | x :: r => uptoBulkEntry x + uptoBulkEntries r
def uptoBulkEntry {H : Type} : Lit × DataW H → Nat
  | (.string bytes, d) => bytes.length + uptoBulk d + 1
  | (_, d) => uptoBulk d + 1
 end
def uptoSmall : (H : Type) → List (DataW H) → Bool := fun _ ds => decide (uptoBulkAll ds ≤ 1048576)
def OpenSpec.upto (s : _root_.Go.ChangeSpec) : _root_.Go.OpenSpec := { _root_.Go.OpenSpec.ofChange s with cond := some uptoSmall }

/-- 'remudalaw49.IniParses', WHERE WHAT IT READS IS OF BULK AT MOST 1048576: true; the input reads as it did. -/
def iniParsesUptoRow : OpenClaim := { program := "ytlmelbijgckfpaadoor", sum := "a45970d8cfa318c03bd76033befe6dc34763963af73d38377f1fe9e2d3d58de6", func := "remuda/remudalaw49.IniParses", spec := "iniParses", inPlace := ["internal/bytealg.IndexByteString", "internal/bytealg.IndexString"], unfollowed := true, recurses := true, named := ["unicode/utf8.first", "unicode/utf8.acceptRanges", "internal/bytealg.MaxLen"], apart := false, laid := [("unicode/utf8.acceptRanges", laid_unicode_utf8_acceptRanges), ("unicode/utf8.first", laid_unicode_utf8_first)], narrowed := true }
def IniParsesUptoSaid : Prop := iniParsesUptoRow.holds Tryd.pinned (OpenSpec.upto iniParsesSpec)

/-- 'remudalaw49.IniPrints', WHERE WHAT IT READS IS OF BULK AT MOST 1048576: true; the input reads as it did. -/
def iniPrintsUptoRow : OpenClaim := { program := "ytlmelbijgckfpaadoor", sum := "a45970d8cfa318c03bd76033befe6dc34763963af73d38377f1fe9e2d3d58de6", func := "remuda/remudalaw49.IniPrints", spec := "iniPrints", inPlace := ["internal/bytealg.IndexByteString", "internal/bytealg.IndexString", "internal/abi.NoEscape"], unfollowed := true, recurses := true, named := ["unicode/utf8.first", "unicode/utf8.acceptRanges", "internal/bytealg.MaxLen"], apart := false, laid := [("unicode/utf8.acceptRanges", laid_unicode_utf8_acceptRanges), ("unicode/utf8.first", laid_unicode_utf8_first)], narrowed := true }
def IniPrintsUptoSaid : Prop := iniPrintsUptoRow.holds Tryd.pinned (OpenSpec.upto iniPrintsSpec)

/-- 'remudalaw49.IniBack', WHERE WHAT IT READS IS OF BULK AT MOST 1048576: true; the input reads as it did. -/
def iniBackUptoRow : OpenClaim := { program := "ytlmelbijgckfpaadoor", sum := "a45970d8cfa318c03bd76033befe6dc34763963af73d38377f1fe9e2d3d58de6", func := "remuda/remudalaw49.IniBack", spec := "iniBack", inPlace := ["internal/bytealg.IndexByteString", "internal/bytealg.IndexString", "internal/abi.NoEscape"], unfollowed := true, recurses := true, named := ["unicode/utf8.first", "unicode/utf8.acceptRanges", "internal/bytealg.MaxLen"], apart := false, laid := [("unicode/utf8.acceptRanges", laid_unicode_utf8_acceptRanges), ("unicode/utf8.first", laid_unicode_utf8_first)], narrowed := true }
def IniBackUptoSaid : Prop := iniBackUptoRow.holds Tryd.pinned (OpenSpec.upto iniBackSpec)

/-- 'remudalaw49.IniOrdinary', WHERE WHAT IT READS IS OF BULK AT MOST 1048576: true; the input reads as it did. -/
def iniOrdinaryUptoRow : OpenClaim := { program := "ytlmelbijgckfpaadoor", sum := "a45970d8cfa318c03bd76033befe6dc34763963af73d38377f1fe9e2d3d58de6", func := "remuda/remudalaw49.IniOrdinary", spec := "iniOrdinary", inPlace := ["internal/abi.NoEscape", "internal/bytealg.IndexByteString", "internal/bytealg.IndexString"], unfollowed := true, recurses := true, named := ["unicode/utf8.first", "unicode/utf8.acceptRanges", "internal/bytealg.MaxLen"], apart := false, laid := [("unicode/utf8.acceptRanges", laid_unicode_utf8_acceptRanges), ("unicode/utf8.first", laid_unicode_utf8_first)], narrowed := true }
def IniOrdinaryUptoSaid : Prop := iniOrdinaryUptoRow.holds Tryd.pinned (OpenSpec.upto iniOrdinarySpec)

end Rows
end Go.Proofs.YtlmelbijgckfpaaDoor
