/-
  DERIVED. GIVEN WITH THE SEED: THE CARDS: each row of YtckhlalpnginjaaDoorRows.lean that lists a variable, with what it lists TIED to the program's text (the seventh form; the later family's looks); each row that meets fmt, with fmt's text TOLD by the authors' own Lean function (tested against real Go, not proved from fmt's source: count such statements apart). THE CARD IS WHAT COUNTS. Prove the row's statement (the work); the ties are given (YtckhlalpnginjaaDoorTie.lean); close each card by the builder's one call (the guide's Derived/Test/ToyasCard.lean, 'card_holds'). Laid BY PROGRAM, IN A SANDBOX (cutbox-door.mjs). By AI agents, Wed Nov 11 2026. No macro, syntax, notation, axiom, sorry.
-/
import Derived.Test.YtckhlalpnginjaaDoorRows
import GoSem.ClaimSeven
namespace Go.Proofs.YtckhlalpnginjaaDoor
namespace Rows

/-- THE TIED CARD OF 'quaerelaw11.Facts'. -/
def factsCard : Claim7 := { stood := { row := factsRow, standIns := [], harness := (true, "98b0ee6a9cd94975400627e7b731dbcf64fa17e6d85eaba3a9c0c2f242d3cfbe"), looks := false }, kinds := [], alts := [], laidByText := true, laidKinds := [.data], laidTests := true, laidLooks := .later }
def FactsCardSaid : Prop := Claim7.holds Tryd.pinned (.plain (OpenSpec.ofChange factsSpec)) factsCard

/-- THE TIED CARD OF 'quaerelaw11.FactTurns'. -/
def factTurnsCard : Claim7 := { stood := { row := factTurnsRow, standIns := [], harness := (true, "98b0ee6a9cd94975400627e7b731dbcf64fa17e6d85eaba3a9c0c2f242d3cfbe"), looks := false }, kinds := [], alts := [], laidByText := true, laidKinds := [.data], laidTests := true, laidLooks := .later }
def FactTurnsCardSaid : Prop := Claim7.holds Tryd.pinned (.plain (OpenSpec.ofChange factTurnsSpec)) factTurnsCard

/-- THE TIED CARD OF 'quaerelaw11.FactSet'. -/
def factSetCard : Claim7 := { stood := { row := factSetRow, standIns := [], harness := (true, "98b0ee6a9cd94975400627e7b731dbcf64fa17e6d85eaba3a9c0c2f242d3cfbe"), looks := false }, kinds := [], alts := [], laidByText := true, laidKinds := [.data], laidTests := true, laidLooks := .later }
def FactSetCardSaid : Prop := Claim7.holds Tryd.pinned (.plain (OpenSpec.ofChange factSetSpec)) factSetCard

/-- THE TIED CARD OF 'quaerelaw11.FactBack'. -/
def factBackCard : Claim7 := { stood := { row := factBackRow, standIns := [], harness := (true, "98b0ee6a9cd94975400627e7b731dbcf64fa17e6d85eaba3a9c0c2f242d3cfbe"), looks := false }, kinds := [], alts := [], laidByText := true, laidKinds := [.data], laidTests := true, laidLooks := .later }
def FactBackCardSaid : Prop := Claim7.holds Tryd.pinned (.plain (OpenSpec.ofChange factBackSpec)) factBackCard

/-- THE TIED CARD OF 'quaerelaw11.FactFinds'. -/
def factFindsCard : Claim7 := { stood := { row := factFindsRow, standIns := [], harness := (true, "98b0ee6a9cd94975400627e7b731dbcf64fa17e6d85eaba3a9c0c2f242d3cfbe"), looks := false }, kinds := [], alts := [], laidByText := true, laidKinds := [.data], laidTests := true, laidLooks := .later }
def FactFindsCardSaid : Prop := Claim7.holds Tryd.pinned (.plain (OpenSpec.ofChange factFindsSpec)) factFindsCard

/-- THE TIED CARD OF 'quaerelaw11.FactSpoilt'. -/
def factSpoiltCard : Claim7 := { stood := { row := factSpoiltRow, standIns := [], harness := (true, "98b0ee6a9cd94975400627e7b731dbcf64fa17e6d85eaba3a9c0c2f242d3cfbe"), looks := false }, kinds := [], alts := [], laidByText := true, laidKinds := [.data], laidTests := true, laidLooks := .later }
def FactSpoiltCardSaid : Prop := Claim7.holds Tryd.pinned (.plain (OpenSpec.ofChange factSpoiltSpec)) factSpoiltCard

/-- THE SECOND FORM's CARD OF 'quaerelaw11.Facts'. -/
def factsUptoCard : Claim7 := { stood := { row := factsUptoRow, standIns := [], harness := (true, "98b0ee6a9cd94975400627e7b731dbcf64fa17e6d85eaba3a9c0c2f242d3cfbe"), looks := false }, kinds := [], alts := [], laidByText := true, laidKinds := [.data], laidTests := true, laidLooks := .later }
def FactsUptoCardSaid : Prop := Claim7.holds Tryd.pinned (.plain (OpenSpec.upto factsSpec)) factsUptoCard

/-- THE SECOND FORM's CARD OF 'quaerelaw11.FactTurns'. -/
def factTurnsUptoCard : Claim7 := { stood := { row := factTurnsUptoRow, standIns := [], harness := (true, "98b0ee6a9cd94975400627e7b731dbcf64fa17e6d85eaba3a9c0c2f242d3cfbe"), looks := false }, kinds := [], alts := [], laidByText := true, laidKinds := [.data], laidTests := true, laidLooks := .later }
def FactTurnsUptoCardSaid : Prop := Claim7.holds Tryd.pinned (.plain (OpenSpec.upto factTurnsSpec)) factTurnsUptoCard

/-- THE SECOND FORM's CARD OF 'quaerelaw11.FactSet'. -/
def factSetUptoCard : Claim7 := { stood := { row := factSetUptoRow, standIns := [], harness := (true, "98b0ee6a9cd94975400627e7b731dbcf64fa17e6d85eaba3a9c0c2f242d3cfbe"), looks := false }, kinds := [], alts := [], laidByText := true, laidKinds := [.data], laidTests := true, laidLooks := .later }
def FactSetUptoCardSaid : Prop := Claim7.holds Tryd.pinned (.plain (OpenSpec.upto factSetSpec)) factSetUptoCard

/-- THE SECOND FORM's CARD OF 'quaerelaw11.FactBack'. -/
def factBackUptoCard : Claim7 := { stood := { row := factBackUptoRow, standIns := [], harness := (true, "98b0ee6a9cd94975400627e7b731dbcf64fa17e6d85eaba3a9c0c2f242d3cfbe"), looks := false }, kinds := [], alts := [], laidByText := true, laidKinds := [.data], laidTests := true, laidLooks := .later }
def FactBackUptoCardSaid : Prop := Claim7.holds Tryd.pinned (.plain (OpenSpec.upto factBackSpec)) factBackUptoCard

/-- THE SECOND FORM's CARD OF 'quaerelaw11.FactFinds'. -/
def factFindsUptoCard : Claim7 := { stood := { row := factFindsUptoRow, standIns := [], harness := (true, "98b0ee6a9cd94975400627e7b731dbcf64fa17e6d85eaba3a9c0c2f242d3cfbe"), looks := false }, kinds := [], alts := [], laidByText := true, laidKinds := [.data], laidTests := true, laidLooks := .later }
def FactFindsUptoCardSaid : Prop := Claim7.holds Tryd.pinned (.plain (OpenSpec.upto factFindsSpec)) factFindsUptoCard

/-- THE SECOND FORM's CARD OF 'quaerelaw11.FactSpoilt'. -/
def factSpoiltUptoCard : Claim7 := { stood := { row := factSpoiltUptoRow, standIns := [], harness := (true, "98b0ee6a9cd94975400627e7b731dbcf64fa17e6d85eaba3a9c0c2f242d3cfbe"), looks := false }, kinds := [], alts := [], laidByText := true, laidKinds := [.data], laidTests := true, laidLooks := .later }
def FactSpoiltUptoCardSaid : Prop := Claim7.holds Tryd.pinned (.plain (OpenSpec.upto factSpoiltSpec)) factSpoiltUptoCard
end Rows
end Go.Proofs.YtckhlalpnginjaaDoor
