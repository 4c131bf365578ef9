/-
  DERIVED. GIVEN WITH THE SEED: THE CARDS: each row of YtekdlnofmbfdgaaDoorRows.lean that lists a variable, with what it lists TIED to the program's text (the seventh form; the later family's looks); each row that meets fmt, with fmt's text TOLD by the authors' own Lean function (tested against real Go, not proved from fmt's source: count such statements apart). THE CARD IS WHAT COUNTS. Prove the row's statement (the work); the ties are given (YtekdlnofmbfdgaaDoorTie.lean); close each card by the builder's one call (the guide's Derived/Test/ToyasCard.lean, 'card_holds'). Laid BY PROGRAM, IN A SANDBOX (cutbox-door.mjs). By AI agents, Wed Nov 11 2026. No macro, syntax, notation, axiom, sorry.
-/
import Derived.Test.YtekdlnofmbfdgaaDoorRows
import GoSem.ClaimSeven
namespace Go.Proofs.YtekdlnofmbfdgaaDoor
namespace Rows

/-- THE TIED CARD OF 'quaerelaw10.Subsumes'. -/
def subsumesCard : Claim7 := { stood := { row := subsumesRow, standIns := [], harness := (true, "b8cbe45cca47888eb37c997ca1fea31779a36a5174d431ea7ea38eebf862851a"), looks := false }, kinds := [], alts := [], laidByText := true, laidKinds := [.data], laidTests := true, laidLooks := .later }
def SubsumesCardSaid : Prop := Claim7.holds Tryd.pinned (.plain (OpenSpec.ofChange subsumesSpec)) subsumesCard

/-- THE TIED CARD OF 'quaerelaw10.SubsumeRow'. -/
def subsumeRowCard : Claim7 := { stood := { row := subsumeRowRow, standIns := [], harness := (true, "b8cbe45cca47888eb37c997ca1fea31779a36a5174d431ea7ea38eebf862851a"), looks := false }, kinds := [], alts := [], laidByText := true, laidKinds := [.data], laidTests := true, laidLooks := .later }
def SubsumeRowCardSaid : Prop := Claim7.holds Tryd.pinned (.plain (OpenSpec.ofChange subsumeRowSpec)) subsumeRowCard

/-- THE TIED CARD OF 'quaerelaw10.SubsumePoints'. -/
def subsumePointsCard : Claim7 := { stood := { row := subsumePointsRow, standIns := [], harness := (true, "b8cbe45cca47888eb37c997ca1fea31779a36a5174d431ea7ea38eebf862851a"), looks := false }, kinds := [], alts := [], laidByText := true, laidKinds := [.data], laidTests := true, laidLooks := .later }
def SubsumePointsCardSaid : Prop := Claim7.holds Tryd.pinned (.plain (OpenSpec.ofChange subsumePointsSpec)) subsumePointsCard

/-- THE TIED CARD OF 'quaerelaw10.SubsumeMade'. -/
def subsumeMadeCard : Claim7 := { stood := { row := subsumeMadeRow, standIns := [], harness := (true, "b8cbe45cca47888eb37c997ca1fea31779a36a5174d431ea7ea38eebf862851a"), looks := false }, kinds := [], alts := [], laidByText := true, laidKinds := [.data], laidTests := true, laidLooks := .later }
def SubsumeMadeCardSaid : Prop := Claim7.holds Tryd.pinned (.plain (OpenSpec.ofChange subsumeMadeSpec)) subsumeMadeCard

/-- THE TIED CARD OF 'quaerelaw10.SubsumeNormal'. -/
def subsumeNormalCard : Claim7 := { stood := { row := subsumeNormalRow, standIns := [], harness := (true, "b8cbe45cca47888eb37c997ca1fea31779a36a5174d431ea7ea38eebf862851a"), looks := false }, kinds := [], alts := [], laidByText := true, laidKinds := [.data], laidTests := true, laidLooks := .later }
def SubsumeNormalCardSaid : Prop := Claim7.holds Tryd.pinned (.plain (OpenSpec.ofChange subsumeNormalSpec)) subsumeNormalCard

/-- THE TIED CARD OF 'quaerelaw10.SubsumeHolds'. -/
def subsumeHoldsCard : Claim7 := { stood := { row := subsumeHoldsRow, standIns := [], harness := (true, "b8cbe45cca47888eb37c997ca1fea31779a36a5174d431ea7ea38eebf862851a"), looks := false }, kinds := [], alts := [], laidByText := true, laidKinds := [.data], laidTests := true, laidLooks := .later }
def SubsumeHoldsCardSaid : Prop := Claim7.holds Tryd.pinned (.plain (OpenSpec.ofChange subsumeHoldsSpec)) subsumeHoldsCard

/-- THE SECOND FORM's CARD OF 'quaerelaw10.Subsumes'. -/
def subsumesUptoCard : Claim7 := { stood := { row := subsumesUptoRow, standIns := [], harness := (true, "b8cbe45cca47888eb37c997ca1fea31779a36a5174d431ea7ea38eebf862851a"), looks := false }, kinds := [], alts := [], laidByText := true, laidKinds := [.data], laidTests := true, laidLooks := .later }
def SubsumesUptoCardSaid : Prop := Claim7.holds Tryd.pinned (.plain (OpenSpec.upto subsumesSpec)) subsumesUptoCard

/-- THE SECOND FORM's CARD OF 'quaerelaw10.SubsumeRow'. -/
def subsumeRowUptoCard : Claim7 := { stood := { row := subsumeRowUptoRow, standIns := [], harness := (true, "b8cbe45cca47888eb37c997ca1fea31779a36a5174d431ea7ea38eebf862851a"), looks := false }, kinds := [], alts := [], laidByText := true, laidKinds := [.data], laidTests := true, laidLooks := .later }
def SubsumeRowUptoCardSaid : Prop := Claim7.holds Tryd.pinned (.plain (OpenSpec.upto subsumeRowSpec)) subsumeRowUptoCard

/-- THE SECOND FORM's CARD OF 'quaerelaw10.SubsumePoints'. -/
def subsumePointsUptoCard : Claim7 := { stood := { row := subsumePointsUptoRow, standIns := [], harness := (true, "b8cbe45cca47888eb37c997ca1fea31779a36a5174d431ea7ea38eebf862851a"), looks := false }, kinds := [], alts := [], laidByText := true, laidKinds := [.data], laidTests := true, laidLooks := .later }
def SubsumePointsUptoCardSaid : Prop := Claim7.holds Tryd.pinned (.plain (OpenSpec.upto subsumePointsSpec)) subsumePointsUptoCard

/-- THE SECOND FORM's CARD OF 'quaerelaw10.SubsumeMade'. -/
def subsumeMadeUptoCard : Claim7 := { stood := { row := subsumeMadeUptoRow, standIns := [], harness := (true, "b8cbe45cca47888eb37c997ca1fea31779a36a5174d431ea7ea38eebf862851a"), looks := false }, kinds := [], alts := [], laidByText := true, laidKinds := [.data], laidTests := true, laidLooks := .later }
def SubsumeMadeUptoCardSaid : Prop := Claim7.holds Tryd.pinned (.plain (OpenSpec.upto subsumeMadeSpec)) subsumeMadeUptoCard

/-- THE SECOND FORM's CARD OF 'quaerelaw10.SubsumeNormal'. -/
def subsumeNormalUptoCard : Claim7 := { stood := { row := subsumeNormalUptoRow, standIns := [], harness := (true, "b8cbe45cca47888eb37c997ca1fea31779a36a5174d431ea7ea38eebf862851a"), looks := false }, kinds := [], alts := [], laidByText := true, laidKinds := [.data], laidTests := true, laidLooks := .later }
def SubsumeNormalUptoCardSaid : Prop := Claim7.holds Tryd.pinned (.plain (OpenSpec.upto subsumeNormalSpec)) subsumeNormalUptoCard

/-- THE SECOND FORM's CARD OF 'quaerelaw10.SubsumeHolds'. -/
def subsumeHoldsUptoCard : Claim7 := { stood := { row := subsumeHoldsUptoRow, standIns := [], harness := (true, "b8cbe45cca47888eb37c997ca1fea31779a36a5174d431ea7ea38eebf862851a"), looks := false }, kinds := [], alts := [], laidByText := true, laidKinds := [.data], laidTests := true, laidLooks := .later }
def SubsumeHoldsUptoCardSaid : Prop := Claim7.holds Tryd.pinned (.plain (OpenSpec.upto subsumeHoldsSpec)) subsumeHoldsUptoCard
end Rows
end Go.Proofs.YtekdlnofmbfdgaaDoor
