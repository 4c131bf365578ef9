/-
  DERIVED. GIVEN WITH THE SEED: THE CARDS: each row of YthemimhlhjfdaaaDoorRows.lean that lists a variable, with what it lists TIED to the program's text (the seventh form; the later family's looks); each row that meets fmt, with fmt's text TOLD by the authors' own Lean function (tested against real Go, not proved from fmt's source: count such statements apart). THE CARD IS WHAT COUNTS. Prove the row's statement (the work); the ties are given (YthemimhlhjfdaaaDoorTie.lean); close each card by the builder's one call (the guide's Derived/Test/ToyasCard.lean, 'card_holds'). Laid BY PROGRAM, IN A SANDBOX (cutbox-door.mjs). By AI agents, Wed Nov 11 2026. No macro, syntax, notation, axiom, sorry.
-/
import Derived.Test.YthemimhlhjfdaaaDoorRows
import GoSem.ClaimSeven
namespace Go.Proofs.YthemimhlhjfdaaaDoor
namespace Rows

/-- THE TIED CARD OF 'quaerelaw9.Points'. -/
def pointsCard : Claim7 := { stood := { row := pointsRow, standIns := [], harness := (true, "978ab834733cb50715c306d12ba7ff7ed73a93665e02745b2e2c159af9d99852"), looks := false }, kinds := [], alts := [], laidByText := true, laidKinds := [.data], laidTests := true, laidLooks := .later }
def PointsCardSaid : Prop := Claim7.holds Tryd.pinned (.plain (OpenSpec.ofChange pointsSpec)) pointsCard

/-- THE TIED CARD OF 'quaerelaw9.PointClauses'. -/
def pointClausesCard : Claim7 := { stood := { row := pointClausesRow, standIns := [], harness := (true, "978ab834733cb50715c306d12ba7ff7ed73a93665e02745b2e2c159af9d99852"), looks := false }, kinds := [], alts := [], laidByText := true, laidKinds := [.data], laidTests := true, laidLooks := .later }
def PointClausesCardSaid : Prop := Claim7.holds Tryd.pinned (.plain (OpenSpec.ofChange pointClausesSpec)) pointClausesCard

/-- THE TIED CARD OF 'quaerelaw9.PointRing'. -/
def pointRingCard : Claim7 := { stood := { row := pointRingRow, standIns := [], harness := (true, "978ab834733cb50715c306d12ba7ff7ed73a93665e02745b2e2c159af9d99852"), looks := false }, kinds := [], alts := [], laidByText := true, laidKinds := [.data], laidTests := true, laidLooks := .later }
def PointRingCardSaid : Prop := Claim7.holds Tryd.pinned (.plain (OpenSpec.ofChange pointRingSpec)) pointRingCard

/-- THE TIED CARD OF 'quaerelaw9.PointFlips'. -/
def pointFlipsCard : Claim7 := { stood := { row := pointFlipsRow, standIns := [], harness := (true, "978ab834733cb50715c306d12ba7ff7ed73a93665e02745b2e2c159af9d99852"), looks := false }, kinds := [], alts := [], laidByText := true, laidKinds := [.data], laidTests := true, laidLooks := .later }
def PointFlipsCardSaid : Prop := Claim7.holds Tryd.pinned (.plain (OpenSpec.ofChange pointFlipsSpec)) pointFlipsCard

/-- THE TIED CARD OF 'quaerelaw9.PointScores'. -/
def pointScoresCard : Claim7 := { stood := { row := pointScoresRow, standIns := [], harness := (true, "978ab834733cb50715c306d12ba7ff7ed73a93665e02745b2e2c159af9d99852"), looks := false }, kinds := [], alts := [], laidByText := true, laidKinds := [.data], laidTests := true, laidLooks := .later }
def PointScoresCardSaid : Prop := Claim7.holds Tryd.pinned (.plain (OpenSpec.ofChange pointScoresSpec)) pointScoresCard

/-- THE TIED CARD OF 'quaerelaw9.PointDenied'. -/
def pointDeniedCard : Claim7 := { stood := { row := pointDeniedRow, standIns := [], harness := (true, "978ab834733cb50715c306d12ba7ff7ed73a93665e02745b2e2c159af9d99852"), looks := false }, kinds := [], alts := [], laidByText := true, laidKinds := [.data], laidTests := true, laidLooks := .later }
def PointDeniedCardSaid : Prop := Claim7.holds Tryd.pinned (.plain (OpenSpec.ofChange pointDeniedSpec)) pointDeniedCard

/-- THE SECOND FORM's CARD OF 'quaerelaw9.Points'. -/
def pointsUptoCard : Claim7 := { stood := { row := pointsUptoRow, standIns := [], harness := (true, "978ab834733cb50715c306d12ba7ff7ed73a93665e02745b2e2c159af9d99852"), looks := false }, kinds := [], alts := [], laidByText := true, laidKinds := [.data], laidTests := true, laidLooks := .later }
def PointsUptoCardSaid : Prop := Claim7.holds Tryd.pinned (.plain (OpenSpec.upto pointsSpec)) pointsUptoCard

/-- THE SECOND FORM's CARD OF 'quaerelaw9.PointClauses'. -/
def pointClausesUptoCard : Claim7 := { stood := { row := pointClausesUptoRow, standIns := [], harness := (true, "978ab834733cb50715c306d12ba7ff7ed73a93665e02745b2e2c159af9d99852"), looks := false }, kinds := [], alts := [], laidByText := true, laidKinds := [.data], laidTests := true, laidLooks := .later }
def PointClausesUptoCardSaid : Prop := Claim7.holds Tryd.pinned (.plain (OpenSpec.upto pointClausesSpec)) pointClausesUptoCard

/-- THE SECOND FORM's CARD OF 'quaerelaw9.PointRing'. -/
def pointRingUptoCard : Claim7 := { stood := { row := pointRingUptoRow, standIns := [], harness := (true, "978ab834733cb50715c306d12ba7ff7ed73a93665e02745b2e2c159af9d99852"), looks := false }, kinds := [], alts := [], laidByText := true, laidKinds := [.data], laidTests := true, laidLooks := .later }
def PointRingUptoCardSaid : Prop := Claim7.holds Tryd.pinned (.plain (OpenSpec.upto pointRingSpec)) pointRingUptoCard

/-- THE SECOND FORM's CARD OF 'quaerelaw9.PointFlips'. -/
def pointFlipsUptoCard : Claim7 := { stood := { row := pointFlipsUptoRow, standIns := [], harness := (true, "978ab834733cb50715c306d12ba7ff7ed73a93665e02745b2e2c159af9d99852"), looks := false }, kinds := [], alts := [], laidByText := true, laidKinds := [.data], laidTests := true, laidLooks := .later }
def PointFlipsUptoCardSaid : Prop := Claim7.holds Tryd.pinned (.plain (OpenSpec.upto pointFlipsSpec)) pointFlipsUptoCard

/-- THE SECOND FORM's CARD OF 'quaerelaw9.PointScores'. -/
def pointScoresUptoCard : Claim7 := { stood := { row := pointScoresUptoRow, standIns := [], harness := (true, "978ab834733cb50715c306d12ba7ff7ed73a93665e02745b2e2c159af9d99852"), looks := false }, kinds := [], alts := [], laidByText := true, laidKinds := [.data], laidTests := true, laidLooks := .later }
def PointScoresUptoCardSaid : Prop := Claim7.holds Tryd.pinned (.plain (OpenSpec.upto pointScoresSpec)) pointScoresUptoCard

/-- THE SECOND FORM's CARD OF 'quaerelaw9.PointDenied'. -/
def pointDeniedUptoCard : Claim7 := { stood := { row := pointDeniedUptoRow, standIns := [], harness := (true, "978ab834733cb50715c306d12ba7ff7ed73a93665e02745b2e2c159af9d99852"), looks := false }, kinds := [], alts := [], laidByText := true, laidKinds := [.data], laidTests := true, laidLooks := .later }
def PointDeniedUptoCardSaid : Prop := Claim7.holds Tryd.pinned (.plain (OpenSpec.upto pointDeniedSpec)) pointDeniedUptoCard
end Rows
end Go.Proofs.YthemimhlhjfdaaaDoor
