/-
  DERIVED. GIVEN WITH THE SEED: THE CARDS: each row of YtmldmhbdeejcnaaDoorRows.lean that lists a variable, with what it lists TIED to the program's text (the seventh form; the later family's looks); each row that meets fmt, with fmt's text TOLD by the authors' own Lean function (tested against real Go, not proved from fmt's source: count such statements apart). THE CARD IS WHAT COUNTS. Prove the row's statement (the work); the ties are given (YtmldmhbdeejcnaaDoorTie.lean); close each card by the builder's one call (the guide's Derived/Test/ToyasCard.lean, 'card_holds'). Laid BY PROGRAM, IN A SANDBOX (cutbox-door.mjs). By AI agents, Wed Nov 11 2026. No macro, syntax, notation, axiom, sorry.
-/
import Derived.Test.YtmldmhbdeejcnaaDoorRows
import GoSem.ClaimSeven
namespace Go.Proofs.YtmldmhbdeejcnaaDoor
namespace Rows

/-- THE TIED CARD OF 'quaerelaw16.SimpLess'. -/
def simpLessCard : Claim7 := { stood := { row := simpLessRow, standIns := [], harness := (true, "7722ab359a4397fe096fc2ce556a4a515614e718c547a06445200694569b6efd"), looks := false }, kinds := [], alts := [], laidByText := true, laidKinds := [.data], laidTests := true, laidLooks := .later }
def SimpLessCardSaid : Prop := Claim7.holds Tryd.pinned (.plain (OpenSpec.ofChange simpLessSpec)) simpLessCard

/-- THE TIED CARD OF 'quaerelaw16.SimpRules'. -/
def simpRulesCard : Claim7 := { stood := { row := simpRulesRow, standIns := [], harness := (true, "7722ab359a4397fe096fc2ce556a4a515614e718c547a06445200694569b6efd"), looks := false }, kinds := [], alts := [], laidByText := true, laidKinds := [.data], laidTests := true, laidLooks := .later }
def SimpRulesCardSaid : Prop := Claim7.holds Tryd.pinned (.plain (OpenSpec.ofChange simpRulesSpec)) simpRulesCard

/-- THE TIED CARD OF 'quaerelaw16.SimpDone'. -/
def simpDoneCard : Claim7 := { stood := { row := simpDoneRow, standIns := [], harness := (true, "7722ab359a4397fe096fc2ce556a4a515614e718c547a06445200694569b6efd"), looks := false }, kinds := [], alts := [], laidByText := true, laidKinds := [.data], laidTests := true, laidLooks := .later }
def SimpDoneCardSaid : Prop := Claim7.holds Tryd.pinned (.plain (OpenSpec.ofChange simpDoneSpec)) simpDoneCard

/-- THE TIED CARD OF 'quaerelaw16.SimpCuts'. -/
def simpCutsCard : Claim7 := { stood := { row := simpCutsRow, standIns := [], harness := (true, "7722ab359a4397fe096fc2ce556a4a515614e718c547a06445200694569b6efd"), looks := false }, kinds := [], alts := [], laidByText := true, laidKinds := [.data], laidTests := true, laidLooks := .later }
def SimpCutsCardSaid : Prop := Claim7.holds Tryd.pinned (.plain (OpenSpec.ofChange simpCutsSpec)) simpCutsCard

/-- THE TIED CARD OF 'quaerelaw16.SimpHolds'. -/
def simpHoldsCard : Claim7 := { stood := { row := simpHoldsRow, standIns := [], harness := (true, "7722ab359a4397fe096fc2ce556a4a515614e718c547a06445200694569b6efd"), looks := false }, kinds := [], alts := [], laidByText := true, laidKinds := [.data], laidTests := true, laidLooks := .later }
def SimpHoldsCardSaid : Prop := Claim7.holds Tryd.pinned (.plain (OpenSpec.ofChange simpHoldsSpec)) simpHoldsCard

/-- THE SECOND FORM's CARD OF 'quaerelaw16.SimpLess'. -/
def simpLessUptoCard : Claim7 := { stood := { row := simpLessUptoRow, standIns := [], harness := (true, "7722ab359a4397fe096fc2ce556a4a515614e718c547a06445200694569b6efd"), looks := false }, kinds := [], alts := [], laidByText := true, laidKinds := [.data], laidTests := true, laidLooks := .later }
def SimpLessUptoCardSaid : Prop := Claim7.holds Tryd.pinned (.plain (OpenSpec.upto simpLessSpec)) simpLessUptoCard

/-- THE SECOND FORM's CARD OF 'quaerelaw16.SimpRules'. -/
def simpRulesUptoCard : Claim7 := { stood := { row := simpRulesUptoRow, standIns := [], harness := (true, "7722ab359a4397fe096fc2ce556a4a515614e718c547a06445200694569b6efd"), looks := false }, kinds := [], alts := [], laidByText := true, laidKinds := [.data], laidTests := true, laidLooks := .later }
def SimpRulesUptoCardSaid : Prop := Claim7.holds Tryd.pinned (.plain (OpenSpec.upto simpRulesSpec)) simpRulesUptoCard

/-- THE SECOND FORM's CARD OF 'quaerelaw16.SimpDone'. -/
def simpDoneUptoCard : Claim7 := { stood := { row := simpDoneUptoRow, standIns := [], harness := (true, "7722ab359a4397fe096fc2ce556a4a515614e718c547a06445200694569b6efd"), looks := false }, kinds := [], alts := [], laidByText := true, laidKinds := [.data], laidTests := true, laidLooks := .later }
def SimpDoneUptoCardSaid : Prop := Claim7.holds Tryd.pinned (.plain (OpenSpec.upto simpDoneSpec)) simpDoneUptoCard

/-- THE SECOND FORM's CARD OF 'quaerelaw16.SimpCuts'. -/
def simpCutsUptoCard : Claim7 := { stood := { row := simpCutsUptoRow, standIns := [], harness := (true, "7722ab359a4397fe096fc2ce556a4a515614e718c547a06445200694569b6efd"), looks := false }, kinds := [], alts := [], laidByText := true, laidKinds := [.data], laidTests := true, laidLooks := .later }
def SimpCutsUptoCardSaid : Prop := Claim7.holds Tryd.pinned (.plain (OpenSpec.upto simpCutsSpec)) simpCutsUptoCard

/-- THE SECOND FORM's CARD OF 'quaerelaw16.SimpHolds'. -/
def simpHoldsUptoCard : Claim7 := { stood := { row := simpHoldsUptoRow, standIns := [], harness := (true, "7722ab359a4397fe096fc2ce556a4a515614e718c547a06445200694569b6efd"), looks := false }, kinds := [], alts := [], laidByText := true, laidKinds := [.data], laidTests := true, laidLooks := .later }
def SimpHoldsUptoCardSaid : Prop := Claim7.holds Tryd.pinned (.plain (OpenSpec.upto simpHoldsSpec)) simpHoldsUptoCard
end Rows
end Go.Proofs.YtmldmhbdeejcnaaDoor
