/-
  NARROWER THAN 'FOR EVERY INPUT', by the rows' own cells (each row's printed sentence says how): DumpChecks: laid · DumpEntries: laid.
  DERIVED. THE GIVEN ROWS OF THIS SEAT. 2 by the template 'for every input the law returns true; each argument reads behind the call as it read before'; 0 by the template 'total and deterministic' (their statements: YtebkaacflocfcaaDoorTotals.lean).
  GIVEN WITH THE SEED: the statements are not yours to turn. If you find one false, say at which input.
  Laid BY PROGRAM, IN A SANDBOX (cutbox-rows.mjs): the forced cells as the released guide's own fill.sh prints them over the translation 8ea3db9e349f66f2… (all of the seat's roots in one cut). By AI agents, Wed Nov 11 2026. No macro, syntax, notation, axiom, sorry.
-/
import Derived.Test.YtebkaacflocfcaaDoorChecked
import GoSem.Claim
import GoSem.ClaimJoined
import GoSem.ClaimMapViews
import Derived.JoinedTies
import Derived.KernelRfl
namespace Go.Proofs.YtebkaacflocfcaaDoor
/- THE CELL 'sum', in the pinned program and in every row, IS THE sha256 OF THE DUMP (.gsa) THAT YtebkaacflocfcaaDoorProg.lean LOADS. Nothing in Lean hashes anything: it is a label: what it is worth is what the hold of that sum in a sandbox is worth. -/
noncomputable def Tryd.pinned : Pinned := { name := "ytebkaacflocfcaadoor", sum := "8ea3db9e349f66f2ca38bbca955cf62c1985f9fd6d094763a989660a307eccd6", checked := Tryd.checked }
namespace Rows
def none {H : Type} : Left H := { results := [], args := [] }

/- WHAT THE LISTED PACKAGE-LEVEL VARIABLES READ AS WHEN THE CALL BEGINS. Each datum BY PROGRAM (the guide's laid-datum.mjs) off the statement by which the dump's own 'gosem.cut.vars' lays the variable. In a bare row this is a premise. The card (YtebkaacflocfcaaDoorCards.lean) ties it to the program's text. -/
def laid_arbor_value_kinds {H : Type} : DataW H := .agg [.agg [.lit (.string []), .lit (.int .i64 0)], .agg [.lit (.string [105, 110, 116]), .lit (.int .i64 10)], .agg [.lit (.string [98, 111, 111, 108]), .lit (.int .i64 1)], .agg [.lit (.string [98, 121, 116, 101, 115]), .lit (.int .i64 21)]]

/-- 'arborlaw22.DumpChecks': WHATEVER THE INPUT: true; the input reads as it did. -/
def dumpChecksSpec : ChangeSpec := { name := "dumpChecks", fn := fun _ => fun
  | [d1, d2] => { results := [.lit (.bool true)], args := [d1, d2] }
  | _ => none }
def dumpChecksRow : OpenClaim := { program := "ytebkaacflocfcaadoor", sum := "8ea3db9e349f66f2ca38bbca955cf62c1985f9fd6d094763a989660a307eccd6", func := "arbor/arborlaw22.DumpChecks", spec := "dumpChecks", inPlace := ["internal/bytealg.IndexByteString", "internal/bytealg.IndexString"], unfollowed := true, recurses := true, named := ["arbor/value.kinds", "internal/bytealg.MaxLen"], apart := false, laid := [("arbor/value.kinds", laid_arbor_value_kinds)] }
def DumpChecksSaid : Prop := dumpChecksRow.holds Tryd.pinned (OpenSpec.ofChange dumpChecksSpec)

/-- ITS FALSE NEIGHBOUR: 'it returns false'. Refute it at one input. -/
def dumpChecksWrong : ChangeSpec := { name := "dumpChecks", fn := fun _ => fun
  | [d1, d2] => { results := [.lit (.bool false)], args := [d1, d2] }
  | _ => none }
def DumpChecksWrongFalsely : Prop := dumpChecksRow.holds Tryd.pinned (OpenSpec.ofChange dumpChecksWrong)

/-- 'arborlaw22.DumpEntries': WHATEVER THE INPUT: true; the input reads as it did. -/
def dumpEntriesSpec : ChangeSpec := { name := "dumpEntries", fn := fun _ => fun
  | [d1, d2, d3] => { results := [.lit (.bool true)], args := [d1, d2, d3] }
  | _ => none }
def dumpEntriesRow : OpenClaim := { program := "ytebkaacflocfcaadoor", sum := "8ea3db9e349f66f2ca38bbca955cf62c1985f9fd6d094763a989660a307eccd6", func := "arbor/arborlaw22.DumpEntries", spec := "dumpEntries", inPlace := ["internal/bytealg.IndexByteString", "internal/bytealg.IndexString"], unfollowed := true, recurses := true, named := ["arbor/value.kinds", "internal/bytealg.MaxLen"], apart := false, laid := [("arbor/value.kinds", laid_arbor_value_kinds)] }
def DumpEntriesSaid : Prop := dumpEntriesRow.holds Tryd.pinned (OpenSpec.ofChange dumpEntriesSpec)

/-- ITS FALSE NEIGHBOUR: 'it returns false'. Refute it at one input. -/
def dumpEntriesWrong : ChangeSpec := { name := "dumpEntries", fn := fun _ => fun
  | [d1, d2, d3] => { results := [.lit (.bool false)], args := [d1, d2, d3] }
  | _ => none }
def DumpEntriesWrongFalsely : Prop := dumpEntriesRow.holds Tryd.pinned (OpenSpec.ofChange dumpEntriesWrong)

/- THE SECOND FORM. 'bulk': how many values and letters a reading holds, each counted each time it is reached (what is shared counts as often as it is met; a slice's spare places count too). A statement '..UptoSaid' is the law's where the arguments, and the package variables that the reading takes, are together of bulk at most 1048576: NARROWER than '..Said'. Prove '..Said' where nothing that the law and all that it calls make is longer than what came in: it says more and counts as full. Else prove '..UptoSaid'. A law counts once. -/
mutual
def uptoBulk {H : Type} : DataW H → Nat
  | .lit (.string bytes) => bytes.length + 1
  | .lit _ => 1
  | .nil => 1
  | .ptr d => uptoBulk d + 1
  | .slice elems spare => uptoBulkAll elems + uptoBulkAll spare + 1
  | .agg parts => uptoBulkAll parts + 1
  | .iface _ d => uptoBulk d + 1
  | .map entries => uptoBulkEntries entries + 1
  | .held _ => 1
def uptoBulkAll {H : Type} : List (DataW H) → Nat
  | [] => 0
  | d :: r => uptoBulk d + uptoBulkAll r
def uptoBulkEntries {H : Type} : List (Lit × DataW H) → Nat
  | [] => 0
  | x :: r => uptoBulkEntry x + uptoBulkEntries r
def uptoBulkEntry {H : Type} : Lit × DataW H → Nat
  | (.string bytes, d) => bytes.length + uptoBulk d + 1
  | (_, d) => uptoBulk d + 1
 end
def uptoSmall : (H : Type) → List (DataW H) → Bool := fun _ ds => decide (uptoBulkAll ds ≤ 1048576)
def OpenSpec.upto (s : _root_.Go.ChangeSpec) : _root_.Go.OpenSpec := { _root_.Go.OpenSpec.ofChange s with cond := some uptoSmall }

/-- 'arborlaw22.DumpChecks', WHERE WHAT IT READS IS OF BULK AT MOST 1048576: true; the input reads as it did. -/
def dumpChecksUptoRow : OpenClaim := { program := "ytebkaacflocfcaadoor", sum := "8ea3db9e349f66f2ca38bbca955cf62c1985f9fd6d094763a989660a307eccd6", func := "arbor/arborlaw22.DumpChecks", spec := "dumpChecks", inPlace := ["internal/bytealg.IndexByteString", "internal/bytealg.IndexString"], unfollowed := true, recurses := true, named := ["arbor/value.kinds", "internal/bytealg.MaxLen"], apart := false, laid := [("arbor/value.kinds", laid_arbor_value_kinds)], narrowed := true }
def DumpChecksUptoSaid : Prop := dumpChecksUptoRow.holds Tryd.pinned (OpenSpec.upto dumpChecksSpec)

/-- 'arborlaw22.DumpEntries', WHERE WHAT IT READS IS OF BULK AT MOST 1048576: true; the input reads as it did. -/
def dumpEntriesUptoRow : OpenClaim := { program := "ytebkaacflocfcaadoor", sum := "8ea3db9e349f66f2ca38bbca955cf62c1985f9fd6d094763a989660a307eccd6", func := "arbor/arborlaw22.DumpEntries", spec := "dumpEntries", inPlace := ["internal/bytealg.IndexByteString", "internal/bytealg.IndexString"], unfollowed := true, recurses := true, named := ["arbor/value.kinds", "internal/bytealg.MaxLen"], apart := false, laid := [("arbor/value.kinds", laid_arbor_value_kinds)], narrowed := true }
def DumpEntriesUptoSaid : Prop := dumpEntriesUptoRow.holds Tryd.pinned (OpenSpec.upto dumpEntriesSpec)

end Rows
end Go.Proofs.YtebkaacflocfcaaDoor
