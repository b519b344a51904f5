/-
  DERIVED. GIVEN WITH THE SEED: THE CARDS: each row of YtofgaidlepmcmaaGreatDoorRows.lean that lists a variable, with what it lists TIED to the program's text (the seventh form; the later family's looks); each row that meets fmt, with fmt's text TOLD by the authors' own Lean function (tested against real Go, not proved from fmt's source: count such statements apart). THE CARD IS WHAT COUNTS. Prove the row's statement (the work); the ties are given (YtofgaidlepmcmaaGreatDoorTie.lean); close each card by the builder's one call (the guide's Derived/Test/ToyasCard.lean, 'card_holds'). Laid BY PROGRAM, IN A SANDBOX (cutbox-door.mjs). By AI agents, Wed Nov 11 2026. No macro, syntax, notation, axiom, sorry.
-/
import Derived.Test.YtofgaidlepmcmaaGreatDoorRows
import GoSem.ClaimSeven
namespace Go.Proofs.YtofgaidlepmcmaaGreatDoor
namespace Rows

/-- THE TIED CARD OF 'spigotlaw31.ScriptReports'. -/
def scriptReportsCard : Claim7 := { stood := { row := scriptReportsRow, standIns := [], harness := (true, "17897f39ce31bfa86ff73f81a22ef80bbd7dae713893171fd355c31d309db25b"), looks := true }, kinds := [], alts := [], laidByText := true, laidKinds := [.data, .data, .data, .data, .pinned], laidTests := true, laidLooks := .later }
def ScriptReportsCardSaid : Prop := Claim7.holds Tryz.pinned (.plain (OpenSpec.ofChange scriptReportsSpec)) scriptReportsCard

/-- THE SECOND FORM's CARD OF 'spigotlaw31.ScriptReports'. -/
def scriptReportsUptoCard : Claim7 := { stood := { row := scriptReportsUptoRow, standIns := [], harness := (true, "17897f39ce31bfa86ff73f81a22ef80bbd7dae713893171fd355c31d309db25b"), looks := true }, kinds := [], alts := [], laidByText := true, laidKinds := [.data, .data, .data, .data, .pinned], laidTests := true, laidLooks := .later }
def ScriptReportsUptoCardSaid : Prop := Claim7.holds Tryz.pinned (.plain (OpenSpec.upto scriptReportsSpec)) scriptReportsUptoCard
end Rows
end Go.Proofs.YtofgaidlepmcmaaGreatDoor
