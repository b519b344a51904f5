/-
  DERIVED. GIVEN WITH THE SEED: THE CARDS: each row of YtopplgmooidhhaaDoorRows.lean that lists a variable, with what it lists TIED to the program's text (the seventh form; the later family's looks); each row that meets fmt, with fmt's text TOLD by the authors' own Lean function (tested against real Go, not proved from fmt's source: count such statements apart). THE CARD IS WHAT COUNTS. Prove the row's statement (the work); the ties are given (YtopplgmooidhhaaDoorTie.lean); close each card by the builder's one call (the guide's Derived/Test/ToyasCard.lean, 'card_holds'). Laid BY PROGRAM, IN A SANDBOX (cutbox-door.mjs). By AI agents, Wed Nov 11 2026. No macro, syntax, notation, axiom, sorry.
-/
import Derived.Test.YtopplgmooidhhaaDoorRows
import GoSem.ClaimSeven
namespace Go.Proofs.YtopplgmooidhhaaDoor
namespace Rows

/-- THE TIED CARD OF 'spigotlaw37.PhaseReads'. -/
def phaseReadsCard : Claim7 := { stood := { row := phaseReadsRow, standIns := [], harness := (true, "1b4e34d5b50f67513ea956f7b838d996631cedfdd81a3c96d26fb48e224bdfe3"), looks := false }, kinds := [], alts := [], laidByText := true, laidKinds := [.data, .data, .data, .data, .pinned], laidTests := true, laidLooks := .later }
def PhaseReadsCardSaid : Prop := Claim7.holds Tryd.pinned (.plain (OpenSpec.ofChange phaseReadsSpec)) phaseReadsCard

/-- THE SECOND FORM's CARD OF 'spigotlaw37.PhaseReads'. -/
def phaseReadsUptoCard : Claim7 := { stood := { row := phaseReadsUptoRow, standIns := [], harness := (true, "1b4e34d5b50f67513ea956f7b838d996631cedfdd81a3c96d26fb48e224bdfe3"), looks := false }, kinds := [], alts := [], laidByText := true, laidKinds := [.data, .data, .data, .data, .pinned], laidTests := true, laidLooks := .later }
def PhaseReadsUptoCardSaid : Prop := Claim7.holds Tryd.pinned (.plain (OpenSpec.upto phaseReadsSpec)) phaseReadsUptoCard
end Rows
end Go.Proofs.YtopplgmooidhhaaDoor
