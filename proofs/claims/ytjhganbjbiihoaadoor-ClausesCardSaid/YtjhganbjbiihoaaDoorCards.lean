/-
  DERIVED. GIVEN WITH THE SEED: THE CARDS: each row of YtjhganbjbiihoaaDoorRows.lean that lists a variable, with what it lists TIED to the program's text (the seventh form; the later family's looks); each row that meets fmt, with fmt's text TOLD by the authors' own Lean function (tested against real Go, not proved from fmt's source: count such statements apart). THE CARD IS WHAT COUNTS. Prove the row's statement (the work); the ties are given (YtjhganbjbiihoaaDoorTie.lean); close each card by the builder's one call (the guide's Derived/Test/ToyasCard.lean, 'card_holds'). Laid BY PROGRAM, IN A SANDBOX (cutbox-door.mjs). By AI agents, Wed Nov 11 2026. No macro, syntax, notation, axiom, sorry.
-/
import Derived.Test.YtjhganbjbiihoaaDoorRows
import GoSem.ClaimSeven
namespace Go.Proofs.YtjhganbjbiihoaaDoor
namespace Rows

/-- THE TIED CARD OF 'quaerelaw8.Clauses'. -/
def clausesCard : Claim7 := { stood := { row := clausesRow, standIns := [], harness := (true, "6fb618b8367d5a2b1924d084bdd2f9bf741498a82aca0ae517e858462b5d170e"), looks := false }, kinds := [], alts := [], laidByText := true, laidKinds := [.data], laidTests := true, laidLooks := .later }
def ClausesCardSaid : Prop := Claim7.holds Tryd.pinned (.plain (OpenSpec.ofChange clausesSpec)) clausesCard

/-- THE TIED CARD OF 'quaerelaw8.ClauseNormals'. -/
def clauseNormalsCard : Claim7 := { stood := { row := clauseNormalsRow, standIns := [], harness := (true, "6fb618b8367d5a2b1924d084bdd2f9bf741498a82aca0ae517e858462b5d170e"), looks := false }, kinds := [], alts := [], laidByText := true, laidKinds := [.data], laidTests := true, laidLooks := .later }
def ClauseNormalsCardSaid : Prop := Claim7.holds Tryd.pinned (.plain (OpenSpec.ofChange clauseNormalsSpec)) clauseNormalsCard

/-- THE TIED CARD OF 'quaerelaw8.ClauseAgain'. -/
def clauseAgainCard : Claim7 := { stood := { row := clauseAgainRow, standIns := [], harness := (true, "6fb618b8367d5a2b1924d084bdd2f9bf741498a82aca0ae517e858462b5d170e"), looks := false }, kinds := [], alts := [], laidByText := true, laidKinds := [.data], laidTests := true, laidLooks := .later }
def ClauseAgainCardSaid : Prop := Claim7.holds Tryd.pinned (.plain (OpenSpec.ofChange clauseAgainSpec)) clauseAgainCard

/-- THE TIED CARD OF 'quaerelaw8.ClauseNames'. -/
def clauseNamesCard : Claim7 := { stood := { row := clauseNamesRow, standIns := [], harness := (true, "6fb618b8367d5a2b1924d084bdd2f9bf741498a82aca0ae517e858462b5d170e"), looks := false }, kinds := [], alts := [], laidByText := true, laidKinds := [.data], laidTests := true, laidLooks := .later }
def ClauseNamesCardSaid : Prop := Claim7.holds Tryd.pinned (.plain (OpenSpec.ofChange clauseNamesSpec)) clauseNamesCard

/-- THE TIED CARD OF 'quaerelaw8.ClauseHolds'. -/
def clauseHoldsCard : Claim7 := { stood := { row := clauseHoldsRow, standIns := [], harness := (true, "6fb618b8367d5a2b1924d084bdd2f9bf741498a82aca0ae517e858462b5d170e"), looks := false }, kinds := [], alts := [], laidByText := true, laidKinds := [.data], laidTests := true, laidLooks := .later }
def ClauseHoldsCardSaid : Prop := Claim7.holds Tryd.pinned (.plain (OpenSpec.ofChange clauseHoldsSpec)) clauseHoldsCard

/-- THE TIED CARD OF 'quaerelaw8.ClauseFull'. -/
def clauseFullCard : Claim7 := { stood := { row := clauseFullRow, standIns := [], harness := (true, "6fb618b8367d5a2b1924d084bdd2f9bf741498a82aca0ae517e858462b5d170e"), looks := false }, kinds := [], alts := [], laidByText := true, laidKinds := [.data], laidTests := true, laidLooks := .later }
def ClauseFullCardSaid : Prop := Claim7.holds Tryd.pinned (.plain (OpenSpec.ofChange clauseFullSpec)) clauseFullCard

/-- THE SECOND FORM's CARD OF 'quaerelaw8.Clauses'. -/
def clausesUptoCard : Claim7 := { stood := { row := clausesUptoRow, standIns := [], harness := (true, "6fb618b8367d5a2b1924d084bdd2f9bf741498a82aca0ae517e858462b5d170e"), looks := false }, kinds := [], alts := [], laidByText := true, laidKinds := [.data], laidTests := true, laidLooks := .later }
def ClausesUptoCardSaid : Prop := Claim7.holds Tryd.pinned (.plain (OpenSpec.upto clausesSpec)) clausesUptoCard

/-- THE SECOND FORM's CARD OF 'quaerelaw8.ClauseNormals'. -/
def clauseNormalsUptoCard : Claim7 := { stood := { row := clauseNormalsUptoRow, standIns := [], harness := (true, "6fb618b8367d5a2b1924d084bdd2f9bf741498a82aca0ae517e858462b5d170e"), looks := false }, kinds := [], alts := [], laidByText := true, laidKinds := [.data], laidTests := true, laidLooks := .later }
def ClauseNormalsUptoCardSaid : Prop := Claim7.holds Tryd.pinned (.plain (OpenSpec.upto clauseNormalsSpec)) clauseNormalsUptoCard

/-- THE SECOND FORM's CARD OF 'quaerelaw8.ClauseAgain'. -/
def clauseAgainUptoCard : Claim7 := { stood := { row := clauseAgainUptoRow, standIns := [], harness := (true, "6fb618b8367d5a2b1924d084bdd2f9bf741498a82aca0ae517e858462b5d170e"), looks := false }, kinds := [], alts := [], laidByText := true, laidKinds := [.data], laidTests := true, laidLooks := .later }
def ClauseAgainUptoCardSaid : Prop := Claim7.holds Tryd.pinned (.plain (OpenSpec.upto clauseAgainSpec)) clauseAgainUptoCard

/-- THE SECOND FORM's CARD OF 'quaerelaw8.ClauseNames'. -/
def clauseNamesUptoCard : Claim7 := { stood := { row := clauseNamesUptoRow, standIns := [], harness := (true, "6fb618b8367d5a2b1924d084bdd2f9bf741498a82aca0ae517e858462b5d170e"), looks := false }, kinds := [], alts := [], laidByText := true, laidKinds := [.data], laidTests := true, laidLooks := .later }
def ClauseNamesUptoCardSaid : Prop := Claim7.holds Tryd.pinned (.plain (OpenSpec.upto clauseNamesSpec)) clauseNamesUptoCard

/-- THE SECOND FORM's CARD OF 'quaerelaw8.ClauseHolds'. -/
def clauseHoldsUptoCard : Claim7 := { stood := { row := clauseHoldsUptoRow, standIns := [], harness := (true, "6fb618b8367d5a2b1924d084bdd2f9bf741498a82aca0ae517e858462b5d170e"), looks := false }, kinds := [], alts := [], laidByText := true, laidKinds := [.data], laidTests := true, laidLooks := .later }
def ClauseHoldsUptoCardSaid : Prop := Claim7.holds Tryd.pinned (.plain (OpenSpec.upto clauseHoldsSpec)) clauseHoldsUptoCard

/-- THE SECOND FORM's CARD OF 'quaerelaw8.ClauseFull'. -/
def clauseFullUptoCard : Claim7 := { stood := { row := clauseFullUptoRow, standIns := [], harness := (true, "6fb618b8367d5a2b1924d084bdd2f9bf741498a82aca0ae517e858462b5d170e"), looks := false }, kinds := [], alts := [], laidByText := true, laidKinds := [.data], laidTests := true, laidLooks := .later }
def ClauseFullUptoCardSaid : Prop := Claim7.holds Tryd.pinned (.plain (OpenSpec.upto clauseFullSpec)) clauseFullUptoCard
end Rows
end Go.Proofs.YtjhganbjbiihoaaDoor
