/-
  DERIVED. GIVEN WITH THE SEED: THE CARDS: each row of YtgjgdklnodeinaaDoorRows.lean that lists a variable, with what it lists TIED to the program's text (the seventh form; the later family's looks); each row that meets fmt, with fmt's text TOLD by the authors' own Lean function (tested against real Go, not proved from fmt's source: count such statements apart). THE CARD IS WHAT COUNTS. Prove the row's statement (the work); the ties are given (YtgjgdklnodeinaaDoorTie.lean); close each card by the builder's one call (the guide's Derived/Test/ToyasCard.lean, 'card_holds'). Laid BY PROGRAM, IN A SANDBOX (cutbox-door.mjs). By AI agents, Wed Nov 11 2026. No macro, syntax, notation, axiom, sorry.
-/
import Derived.Test.YtgjgdklnodeinaaDoorRows
import GoSem.ClaimSeven
namespace Go.Proofs.YtgjgdklnodeinaaDoor
namespace Rows

/-- THE TIED CARD OF 'quaerelaw2.TermRows'. -/
def termRowsCard : Claim7 := { stood := { row := termRowsRow, standIns := [], harness := (true, "92762835e1a6cf5ee54d63eba7daa72b879eb3a4ad2992bb110e5083f12c8e4e"), looks := false }, kinds := [], alts := [], laidByText := true, laidKinds := [.data], laidTests := true, laidLooks := .later }
def TermRowsCardSaid : Prop := Claim7.holds Tryd.pinned (.plain (OpenSpec.ofChange termRowsSpec)) termRowsCard

/-- THE TIED CARD OF 'quaerelaw2.TermTells'. -/
def termTellsCard : Claim7 := { stood := { row := termTellsRow, standIns := [], harness := (true, "92762835e1a6cf5ee54d63eba7daa72b879eb3a4ad2992bb110e5083f12c8e4e"), looks := false }, kinds := [], alts := [], laidByText := true, laidKinds := [.data], laidTests := true, laidLooks := .later }
def TermTellsCardSaid : Prop := Claim7.holds Tryd.pinned (.plain (OpenSpec.ofChange termTellsSpec)) termTellsCard

/-- THE TIED CARD OF 'quaerelaw2.TermJoins'. -/
def termJoinsCard : Claim7 := { stood := { row := termJoinsRow, standIns := [], harness := (true, "92762835e1a6cf5ee54d63eba7daa72b879eb3a4ad2992bb110e5083f12c8e4e"), looks := false }, kinds := [], alts := [], laidByText := true, laidKinds := [.data], laidTests := true, laidLooks := .later }
def TermJoinsCardSaid : Prop := Claim7.holds Tryd.pinned (.plain (OpenSpec.ofChange termJoinsSpec)) termJoinsCard

/-- THE TIED CARD OF 'quaerelaw2.TermNests'. -/
def termNestsCard : Claim7 := { stood := { row := termNestsRow, standIns := [], harness := (true, "92762835e1a6cf5ee54d63eba7daa72b879eb3a4ad2992bb110e5083f12c8e4e"), looks := false }, kinds := [], alts := [], laidByText := true, laidKinds := [.data], laidTests := true, laidLooks := .later }
def TermNestsCardSaid : Prop := Claim7.holds Tryd.pinned (.plain (OpenSpec.ofChange termNestsSpec)) termNestsCard

/-- THE TIED CARD OF 'quaerelaw2.TermCut'. -/
def termCutCard : Claim7 := { stood := { row := termCutRow, standIns := [], harness := (true, "92762835e1a6cf5ee54d63eba7daa72b879eb3a4ad2992bb110e5083f12c8e4e"), looks := false }, kinds := [], alts := [], laidByText := true, laidKinds := [.data], laidTests := true, laidLooks := .later }
def TermCutCardSaid : Prop := Claim7.holds Tryd.pinned (.plain (OpenSpec.ofChange termCutSpec)) termCutCard

/-- THE TIED CARD OF 'quaerelaw2.TermForms'. -/
def termFormsCard : Claim7 := { stood := { row := termFormsRow, standIns := [], harness := (true, "92762835e1a6cf5ee54d63eba7daa72b879eb3a4ad2992bb110e5083f12c8e4e"), looks := false }, kinds := [], alts := [], laidByText := true, laidKinds := [.data], laidTests := true, laidLooks := .later }
def TermFormsCardSaid : Prop := Claim7.holds Tryd.pinned (.plain (OpenSpec.ofChange termFormsSpec)) termFormsCard

/-- THE SECOND FORM's CARD OF 'quaerelaw2.TermRows'. -/
def termRowsUptoCard : Claim7 := { stood := { row := termRowsUptoRow, standIns := [], harness := (true, "92762835e1a6cf5ee54d63eba7daa72b879eb3a4ad2992bb110e5083f12c8e4e"), looks := false }, kinds := [], alts := [], laidByText := true, laidKinds := [.data], laidTests := true, laidLooks := .later }
def TermRowsUptoCardSaid : Prop := Claim7.holds Tryd.pinned (.plain (OpenSpec.upto termRowsSpec)) termRowsUptoCard

/-- THE SECOND FORM's CARD OF 'quaerelaw2.TermTells'. -/
def termTellsUptoCard : Claim7 := { stood := { row := termTellsUptoRow, standIns := [], harness := (true, "92762835e1a6cf5ee54d63eba7daa72b879eb3a4ad2992bb110e5083f12c8e4e"), looks := false }, kinds := [], alts := [], laidByText := true, laidKinds := [.data], laidTests := true, laidLooks := .later }
def TermTellsUptoCardSaid : Prop := Claim7.holds Tryd.pinned (.plain (OpenSpec.upto termTellsSpec)) termTellsUptoCard

/-- THE SECOND FORM's CARD OF 'quaerelaw2.TermJoins'. -/
def termJoinsUptoCard : Claim7 := { stood := { row := termJoinsUptoRow, standIns := [], harness := (true, "92762835e1a6cf5ee54d63eba7daa72b879eb3a4ad2992bb110e5083f12c8e4e"), looks := false }, kinds := [], alts := [], laidByText := true, laidKinds := [.data], laidTests := true, laidLooks := .later }
def TermJoinsUptoCardSaid : Prop := Claim7.holds Tryd.pinned (.plain (OpenSpec.upto termJoinsSpec)) termJoinsUptoCard

/-- THE SECOND FORM's CARD OF 'quaerelaw2.TermNests'. -/
def termNestsUptoCard : Claim7 := { stood := { row := termNestsUptoRow, standIns := [], harness := (true, "92762835e1a6cf5ee54d63eba7daa72b879eb3a4ad2992bb110e5083f12c8e4e"), looks := false }, kinds := [], alts := [], laidByText := true, laidKinds := [.data], laidTests := true, laidLooks := .later }
def TermNestsUptoCardSaid : Prop := Claim7.holds Tryd.pinned (.plain (OpenSpec.upto termNestsSpec)) termNestsUptoCard

/-- THE SECOND FORM's CARD OF 'quaerelaw2.TermCut'. -/
def termCutUptoCard : Claim7 := { stood := { row := termCutUptoRow, standIns := [], harness := (true, "92762835e1a6cf5ee54d63eba7daa72b879eb3a4ad2992bb110e5083f12c8e4e"), looks := false }, kinds := [], alts := [], laidByText := true, laidKinds := [.data], laidTests := true, laidLooks := .later }
def TermCutUptoCardSaid : Prop := Claim7.holds Tryd.pinned (.plain (OpenSpec.upto termCutSpec)) termCutUptoCard

/-- THE SECOND FORM's CARD OF 'quaerelaw2.TermForms'. -/
def termFormsUptoCard : Claim7 := { stood := { row := termFormsUptoRow, standIns := [], harness := (true, "92762835e1a6cf5ee54d63eba7daa72b879eb3a4ad2992bb110e5083f12c8e4e"), looks := false }, kinds := [], alts := [], laidByText := true, laidKinds := [.data], laidTests := true, laidLooks := .later }
def TermFormsUptoCardSaid : Prop := Claim7.holds Tryd.pinned (.plain (OpenSpec.upto termFormsSpec)) termFormsUptoCard
end Rows
end Go.Proofs.YtgjgdklnodeinaaDoor
