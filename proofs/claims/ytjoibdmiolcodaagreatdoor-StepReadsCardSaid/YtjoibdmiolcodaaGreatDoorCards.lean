/-
  DERIVED. GIVEN WITH THE SEED: THE CARDS: each row of YtjoibdmiolcodaaGreatDoorRows.lean that lists a variable, with what it lists TIED to the program's text (the seventh form; the later family's looks); each row that meets fmt, with fmt's text TOLD by the authors' own Lean function (tested against real Go, not proved from fmt's source: count such statements apart). THE CARD IS WHAT COUNTS. Prove the row's statement (the work); the ties are given (YtjoibdmiolcodaaGreatDoorTie.lean); close each card by the builder's one call (the guide's Derived/Test/ToyasCard.lean, 'card_holds'). Laid BY PROGRAM, IN A SANDBOX (cutbox-door.mjs). By AI agents, Wed Nov 11 2026. No macro, syntax, notation, axiom, sorry.
-/
import Derived.Test.YtjoibdmiolcodaaGreatDoorRows
import GoSem.ClaimSeven
namespace Go.Proofs.YtjoibdmiolcodaaGreatDoor
namespace Rows

/-- THE TIED CARD OF 'quaerelaw17.Steps'. -/
def stepsCard : Claim7 := { stood := { row := stepsRow, standIns := [], harness := (true, "bbf9d42bfdd4afc1b3e9a39a696f48dd281a29fb1773cd9716456fc433057fe4"), looks := true }, kinds := [], alts := [], laidByText := true, laidKinds := [.data, .data, .data, .data, .data, .sentinel, .sentinel, .pinned], laidTests := true, laidLooks := .later }
def StepsCardSaid : Prop := Claim7.holds Tryz.pinned (.plain (OpenSpec.ofChange stepsSpec)) stepsCard

/-- THE TIED CARD OF 'quaerelaw17.StepReads'. -/
def stepReadsCard : Claim7 := { stood := { row := stepReadsRow, standIns := [], harness := (true, "bbf9d42bfdd4afc1b3e9a39a696f48dd281a29fb1773cd9716456fc433057fe4"), looks := true }, kinds := [], alts := [], laidByText := true, laidKinds := [.data, .data, .data, .data, .data, .sentinel, .sentinel, .pinned], laidTests := true, laidLooks := .later }
def StepReadsCardSaid : Prop := Claim7.holds Tryz.pinned (.plain (OpenSpec.ofChange stepReadsSpec)) stepReadsCard

/-- THE SECOND FORM's CARD OF 'quaerelaw17.Steps'. -/
def stepsUptoCard : Claim7 := { stood := { row := stepsUptoRow, standIns := [], harness := (true, "bbf9d42bfdd4afc1b3e9a39a696f48dd281a29fb1773cd9716456fc433057fe4"), looks := true }, kinds := [], alts := [], laidByText := true, laidKinds := [.data, .data, .data, .data, .data, .sentinel, .sentinel, .pinned], laidTests := true, laidLooks := .later }
def StepsUptoCardSaid : Prop := Claim7.holds Tryz.pinned (.plain (OpenSpec.upto stepsSpec)) stepsUptoCard

/-- THE SECOND FORM's CARD OF 'quaerelaw17.StepReads'. -/
def stepReadsUptoCard : Claim7 := { stood := { row := stepReadsUptoRow, standIns := [], harness := (true, "bbf9d42bfdd4afc1b3e9a39a696f48dd281a29fb1773cd9716456fc433057fe4"), looks := true }, kinds := [], alts := [], laidByText := true, laidKinds := [.data, .data, .data, .data, .data, .sentinel, .sentinel, .pinned], laidTests := true, laidLooks := .later }
def StepReadsUptoCardSaid : Prop := Claim7.holds Tryz.pinned (.plain (OpenSpec.upto stepReadsSpec)) stepReadsUptoCard
end Rows
end Go.Proofs.YtjoibdmiolcodaaGreatDoor
