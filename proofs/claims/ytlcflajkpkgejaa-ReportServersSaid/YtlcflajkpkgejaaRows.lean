/-
  No cell of these rows narrows 'for every input' (looked for: loops, veiled, ifaces, maps, wideKeys, modest, calm, conditions, laid).
  DERIVED. THE GIVEN ROWS OF THIS SEAT. 2 by the template 'for every input the law returns true; each argument reads behind the call as it read before'; 0 by the template 'total and deterministic' (their statements: YtlcflajkpkgejaaTotals.lean).
  GIVEN WITH THE SEED: the statements are not yours to turn. If you find one false, say at which input.
  Laid BY PROGRAM, IN A SANDBOX (cutbox-rows.mjs): the forced cells as the released guide's own fill.sh prints them over the translation f090f95799320b74… (all of the seat's roots in one cut). By AI agents, Wed Nov 11 2026. No macro, syntax, notation, axiom, sorry.
-/
import Derived.Test.YtlcflajkpkgejaaChecked
import GoSem.Claim
import GoSem.ClaimJoined
import GoSem.ClaimMapViews
import Derived.JoinedTies
import Derived.KernelRfl
namespace Go.Proofs.Ytlcflajkpkgejaa
/- THE CELL 'sum', in the pinned program and in every row, IS THE sha256 OF THE DUMP (.gsa) THAT YtlcflajkpkgejaaProg.lean LOADS. Nothing in Lean hashes anything: it is a label: what it is worth is what the hold of that sum in a sandbox is worth. -/
noncomputable def Try.pinned : Pinned := { name := "ytlcflajkpkgejaa", sum := "f090f95799320b749a6a4af6c5d3994208c1e7ecf50796b7c677fb6a255888be", checked := Try.checked }
namespace Rows
def none {H : Type} : Left H := { results := [], args := [] }

/-- 'remudalaw48.ReportTells': WHATEVER THE INPUT: true; the input reads as it did. -/
def reportTellsSpec : ChangeSpec := { name := "reportTells", fn := fun _ => fun
  | [d1, d2, d3, d4] => { results := [.lit (.bool true)], args := [d1, d2, d3, d4] }
  | _ => none }
def reportTellsRow : OpenClaim := { program := "ytlcflajkpkgejaa", sum := "f090f95799320b749a6a4af6c5d3994208c1e7ecf50796b7c677fb6a255888be", func := "remuda/remudalaw48.ReportTells", spec := "reportTells", inPlace := ["internal/abi.NoEscape", "internal/bytealg.MakeNoZero"], recurses := true, apart := false }
def ReportTellsSaid : Prop := reportTellsRow.holds Try.pinned (OpenSpec.ofChange reportTellsSpec)

/-- ITS FALSE NEIGHBOUR: 'it returns false'. Refute it at one input. -/
def reportTellsWrong : ChangeSpec := { name := "reportTells", fn := fun _ => fun
  | [d1, d2, d3, d4] => { results := [.lit (.bool false)], args := [d1, d2, d3, d4] }
  | _ => none }
def ReportTellsWrongFalsely : Prop := reportTellsRow.holds Try.pinned (OpenSpec.ofChange reportTellsWrong)

/-- 'remudalaw48.ReportServers': WHATEVER THE INPUT: true; the input reads as it did. -/
def reportServersSpec : ChangeSpec := { name := "reportServers", fn := fun _ => fun
  | [d] => { results := [.lit (.bool true)], args := [d] }
  | _ => none }
def reportServersRow : OpenClaim := { program := "ytlcflajkpkgejaa", sum := "f090f95799320b749a6a4af6c5d3994208c1e7ecf50796b7c677fb6a255888be", func := "remuda/remudalaw48.ReportServers", spec := "reportServers", inPlace := ["internal/abi.NoEscape", "internal/bytealg.MakeNoZero"], apart := false }
def ReportServersSaid : Prop := reportServersRow.holds Try.pinned (OpenSpec.ofChange reportServersSpec)

/-- ITS FALSE NEIGHBOUR: 'it returns false'. Refute it at one input. -/
def reportServersWrong : ChangeSpec := { name := "reportServers", fn := fun _ => fun
  | [d] => { results := [.lit (.bool false)], args := [d] }
  | _ => none }
def ReportServersWrongFalsely : Prop := reportServersRow.holds Try.pinned (OpenSpec.ofChange reportServersWrong)

/- THE SECOND FORM. 'bulk': how many values and letters a reading holds, each counted each time it is reached (what is shared counts as often as it is met; a slice's spare places count too). A statement '..UptoSaid' is the law's where the arguments, and the package variables that the reading takes, are together of bulk at most 1048576: NARROWER than '..Said'. Prove '..Said' where nothing that the law and all that it calls make is longer than what came in: it says more and counts as full. Else prove '..UptoSaid'. A law counts once. -/
mutual
def uptoBulk {H : Type} : DataW H → Nat
  | .lit (.string bytes) => bytes.length + 1
  | .lit _ => 1
  | .nil => 1
  | .ptr d => uptoBulk d + 1
  | .slice elems spare => uptoBulkAll elems + uptoBulkAll spare + 1
  | .agg parts => uptoBulkAll parts + 1
  | .iface _ d => uptoBulk d + 1
  | .map entries => uptoBulkEntries entries + 1
  | .held _ => 1
def uptoBulkAll {H : Type} : List (DataW H) → Nat
  | [] => 0
  | d :: r => uptoBulk d + uptoBulkAll r
def uptoBulkEntries {H : Type} : List (Lit × DataW H) → Nat
  | [] => 0
  | x :: r => uptoBulkEntry x + uptoBulkEntries r
def uptoBulkEntry {H : Type} : Lit × DataW H → Nat
  | (.string bytes, d) => bytes.length + uptoBulk d + 1
  | (_, d) => uptoBulk d + 1
 end
def uptoSmall : (H : Type) → List (DataW H) → Bool := fun _ ds => decide (uptoBulkAll ds ≤ 1048576)
def OpenSpec.upto (s : _root_.Go.ChangeSpec) : _root_.Go.OpenSpec := { _root_.Go.OpenSpec.ofChange s with cond := some uptoSmall }

/-- 'remudalaw48.ReportTells', WHERE WHAT IT READS IS OF BULK AT MOST 1048576: true; the input reads as it did. -/
def reportTellsUptoRow : OpenClaim := { program := "ytlcflajkpkgejaa", sum := "f090f95799320b749a6a4af6c5d3994208c1e7ecf50796b7c677fb6a255888be", func := "remuda/remudalaw48.ReportTells", spec := "reportTells", inPlace := ["internal/abi.NoEscape", "internal/bytealg.MakeNoZero"], recurses := true, apart := false, narrowed := true }
def ReportTellsUptoSaid : Prop := reportTellsUptoRow.holds Try.pinned (OpenSpec.upto reportTellsSpec)

/-- 'remudalaw48.ReportServers', WHERE WHAT IT READS IS OF BULK AT MOST 1048576: true; the input reads as it did. -/
def reportServersUptoRow : OpenClaim := { program := "ytlcflajkpkgejaa", sum := "f090f95799320b749a6a4af6c5d3994208c1e7ecf50796b7c677fb6a255888be", func := "remuda/remudalaw48.ReportServers", spec := "reportServers", inPlace := ["internal/abi.NoEscape", "internal/bytealg.MakeNoZero"], apart := false, narrowed := true }
def ReportServersUptoSaid : Prop := reportServersUptoRow.holds Try.pinned (OpenSpec.upto reportServersSpec)

end Rows
end Go.Proofs.Ytlcflajkpkgejaa
