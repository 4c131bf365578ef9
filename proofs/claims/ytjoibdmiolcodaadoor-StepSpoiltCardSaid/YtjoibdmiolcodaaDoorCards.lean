/-
  DERIVED. GIVEN WITH THE SEED: THE CARDS: each row of YtjoibdmiolcodaaDoorRows.lean that lists a variable, with what it lists TIED to the program's text (the seventh form; the later family's looks); each row that meets fmt, with fmt's text TOLD by the authors' own Lean function (tested against real Go, not proved from fmt's source: count such statements apart). THE CARD IS WHAT COUNTS. Prove the row's statement (the work); the ties are given (YtjoibdmiolcodaaDoorTie.lean); close each card by the builder's one call (the guide's Derived/Test/ToyasCard.lean, 'card_holds'). Laid BY PROGRAM, IN A SANDBOX (cutbox-door.mjs). By AI agents, Wed Nov 11 2026. No macro, syntax, notation, axiom, sorry.
-/
import Derived.Test.YtjoibdmiolcodaaDoorRows
import GoSem.ClaimSeven
namespace Go.Proofs.YtjoibdmiolcodaaDoor
namespace Rows

/-- THE TIED CARD OF 'quaerelaw17.StepBack'. -/
def stepBackCard : Claim7 := { stood := { row := stepBackRow, standIns := [], harness := (true, "f762fd7a60a481c679c444a258c1eeae014ddfd713c6e2ab75a1a40ee0f86ee7"), looks := true }, kinds := [], alts := [], laidByText := true, laidKinds := [.data, .data, .data, .data, .data, .sentinel, .sentinel, .pinned], laidTests := true, laidLooks := .later }
def StepBackCardSaid : Prop := Claim7.holds Tryd.pinned (.plain (OpenSpec.ofChange stepBackSpec)) stepBackCard

/-- THE TIED CARD OF 'quaerelaw17.StepApart'. -/
def stepApartCard : Claim7 := { stood := { row := stepApartRow, standIns := [], harness := (true, "f762fd7a60a481c679c444a258c1eeae014ddfd713c6e2ab75a1a40ee0f86ee7"), looks := true }, kinds := [], alts := [], laidByText := true, laidKinds := [.data, .data, .data, .data, .data, .sentinel, .sentinel, .pinned], laidTests := true, laidLooks := .later }
def StepApartCardSaid : Prop := Claim7.holds Tryd.pinned (.plain (OpenSpec.ofChange stepApartSpec)) stepApartCard

/-- THE TIED CARD OF 'quaerelaw17.StepSpoilt'. -/
def stepSpoiltCard : Claim7 := { stood := { row := stepSpoiltRow, standIns := [], harness := (true, "f762fd7a60a481c679c444a258c1eeae014ddfd713c6e2ab75a1a40ee0f86ee7"), looks := true }, kinds := [], alts := [], laidByText := true, laidKinds := [.data, .data, .data, .data, .data, .sentinel, .sentinel, .pinned], laidTests := true, laidLooks := .later }
def StepSpoiltCardSaid : Prop := Claim7.holds Tryd.pinned (.plain (OpenSpec.ofChange stepSpoiltSpec)) stepSpoiltCard

/-- THE TIED CARD OF 'quaerelaw17.StepBounds'. -/
def stepBoundsCard : Claim7 := { stood := { row := stepBoundsRow, standIns := [], harness := (true, "f762fd7a60a481c679c444a258c1eeae014ddfd713c6e2ab75a1a40ee0f86ee7"), looks := true }, kinds := [], alts := [], laidByText := true, laidKinds := [.data, .data, .data, .data, .data, .sentinel, .sentinel, .pinned], laidTests := true, laidLooks := .later }
def StepBoundsCardSaid : Prop := Claim7.holds Tryd.pinned (.plain (OpenSpec.ofChange stepBoundsSpec)) stepBoundsCard

/-- THE SECOND FORM's CARD OF 'quaerelaw17.StepBack'. -/
def stepBackUptoCard : Claim7 := { stood := { row := stepBackUptoRow, standIns := [], harness := (true, "f762fd7a60a481c679c444a258c1eeae014ddfd713c6e2ab75a1a40ee0f86ee7"), looks := true }, kinds := [], alts := [], laidByText := true, laidKinds := [.data, .data, .data, .data, .data, .sentinel, .sentinel, .pinned], laidTests := true, laidLooks := .later }
def StepBackUptoCardSaid : Prop := Claim7.holds Tryd.pinned (.plain (OpenSpec.upto stepBackSpec)) stepBackUptoCard

/-- THE SECOND FORM's CARD OF 'quaerelaw17.StepApart'. -/
def stepApartUptoCard : Claim7 := { stood := { row := stepApartUptoRow, standIns := [], harness := (true, "f762fd7a60a481c679c444a258c1eeae014ddfd713c6e2ab75a1a40ee0f86ee7"), looks := true }, kinds := [], alts := [], laidByText := true, laidKinds := [.data, .data, .data, .data, .data, .sentinel, .sentinel, .pinned], laidTests := true, laidLooks := .later }
def StepApartUptoCardSaid : Prop := Claim7.holds Tryd.pinned (.plain (OpenSpec.upto stepApartSpec)) stepApartUptoCard

/-- THE SECOND FORM's CARD OF 'quaerelaw17.StepSpoilt'. -/
def stepSpoiltUptoCard : Claim7 := { stood := { row := stepSpoiltUptoRow, standIns := [], harness := (true, "f762fd7a60a481c679c444a258c1eeae014ddfd713c6e2ab75a1a40ee0f86ee7"), looks := true }, kinds := [], alts := [], laidByText := true, laidKinds := [.data, .data, .data, .data, .data, .sentinel, .sentinel, .pinned], laidTests := true, laidLooks := .later }
def StepSpoiltUptoCardSaid : Prop := Claim7.holds Tryd.pinned (.plain (OpenSpec.upto stepSpoiltSpec)) stepSpoiltUptoCard

/-- THE SECOND FORM's CARD OF 'quaerelaw17.StepBounds'. -/
def stepBoundsUptoCard : Claim7 := { stood := { row := stepBoundsUptoRow, standIns := [], harness := (true, "f762fd7a60a481c679c444a258c1eeae014ddfd713c6e2ab75a1a40ee0f86ee7"), looks := true }, kinds := [], alts := [], laidByText := true, laidKinds := [.data, .data, .data, .data, .data, .sentinel, .sentinel, .pinned], laidTests := true, laidLooks := .later }
def StepBoundsUptoCardSaid : Prop := Claim7.holds Tryd.pinned (.plain (OpenSpec.upto stepBoundsSpec)) stepBoundsUptoCard
end Rows
end Go.Proofs.YtjoibdmiolcodaaDoor
