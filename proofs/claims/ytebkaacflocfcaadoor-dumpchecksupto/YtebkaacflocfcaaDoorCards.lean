/-
  DERIVED. GIVEN WITH THE SEED: THE CARDS: each row of YtebkaacflocfcaaDoorRows.lean that lists a variable, with what it lists TIED to the program's text (the seventh form; the later family's looks); each row that meets fmt, with fmt's text TOLD by the authors' own Lean function (tested against real Go, not proved from fmt's source: count such statements apart). THE CARD IS WHAT COUNTS. Prove the row's statement (the work); the ties are given (YtebkaacflocfcaaDoorTie.lean); close each card by the builder's one call (the guide's Derived/Test/ToyasCard.lean, 'card_holds'). Laid BY PROGRAM, IN A SANDBOX (cutbox-door.mjs). By AI agents, Wed Nov 11 2026. No macro, syntax, notation, axiom, sorry.
-/
import Derived.Test.YtebkaacflocfcaaDoorRows
import GoSem.ClaimSeven
namespace Go.Proofs.YtebkaacflocfcaaDoor
namespace Rows

/-- THE TIED CARD OF 'arborlaw22.DumpChecks'. -/
def dumpChecksCard : Claim7 := { stood := { row := dumpChecksRow, standIns := [], harness := (true, "28b8845c475e2123cf95b96bd6d8071d3581fe2bc3d14b839f8861c38f4c2ada"), looks := false }, kinds := [], alts := [], laidByText := true, laidKinds := [.data], laidTests := true, laidLooks := .later }
def DumpChecksCardSaid : Prop := Claim7.holds Tryd.pinned (.plain (OpenSpec.ofChange dumpChecksSpec)) dumpChecksCard

/-- THE TIED CARD OF 'arborlaw22.DumpEntries'. -/
def dumpEntriesCard : Claim7 := { stood := { row := dumpEntriesRow, standIns := [], harness := (true, "28b8845c475e2123cf95b96bd6d8071d3581fe2bc3d14b839f8861c38f4c2ada"), looks := false }, kinds := [], alts := [], laidByText := true, laidKinds := [.data], laidTests := true, laidLooks := .later }
def DumpEntriesCardSaid : Prop := Claim7.holds Tryd.pinned (.plain (OpenSpec.ofChange dumpEntriesSpec)) dumpEntriesCard

/-- THE SECOND FORM's CARD OF 'arborlaw22.DumpChecks'. -/
def dumpChecksUptoCard : Claim7 := { stood := { row := dumpChecksUptoRow, standIns := [], harness := (true, "28b8845c475e2123cf95b96bd6d8071d3581fe2bc3d14b839f8861c38f4c2ada"), looks := false }, kinds := [], alts := [], laidByText := true, laidKinds := [.data], laidTests := true, laidLooks := .later }
def DumpChecksUptoCardSaid : Prop := Claim7.holds Tryd.pinned (.plain (OpenSpec.upto dumpChecksSpec)) dumpChecksUptoCard

/-- THE SECOND FORM's CARD OF 'arborlaw22.DumpEntries'. -/
def dumpEntriesUptoCard : Claim7 := { stood := { row := dumpEntriesUptoRow, standIns := [], harness := (true, "28b8845c475e2123cf95b96bd6d8071d3581fe2bc3d14b839f8861c38f4c2ada"), looks := false }, kinds := [], alts := [], laidByText := true, laidKinds := [.data], laidTests := true, laidLooks := .later }
def DumpEntriesUptoCardSaid : Prop := Claim7.holds Tryd.pinned (.plain (OpenSpec.upto dumpEntriesSpec)) dumpEntriesUptoCard
end Rows
end Go.Proofs.YtebkaacflocfcaaDoor
