/-
  DERIVED. GIVEN WITH THE SEED: THE CARDS: each row of YtcmpbennibojeaaDoorRows.lean that lists a variable, with what it lists TIED to the program's text (the seventh form; the later family's looks); each row that meets fmt, with fmt's text TOLD by the authors' own Lean function (tested against real Go, not proved from fmt's source: count such statements apart). THE CARD IS WHAT COUNTS. Prove the row's statement (the work); the ties are given (YtcmpbennibojeaaDoorTie.lean); close each card by the builder's one call (the guide's Derived/Test/ToyasCard.lean, 'card_holds'). Laid BY PROGRAM, IN A SANDBOX (cutbox-door.mjs). By AI agents, Wed Nov 11 2026. No macro, syntax, notation, axiom, sorry.
-/
import Derived.Test.YtcmpbennibojeaaDoorRows
import GoSem.ClaimSeven
namespace Go.Proofs.YtcmpbennibojeaaDoor
namespace Rows

/-- THE TIED CARD OF 'quaerelaw3.BindBoth'. -/
def bindBothCard : Claim7 := { stood := { row := bindBothRow, standIns := [], harness := (true, "f8795a9933a3818b0304203684eaf959431d205a3f47d24a45758d63842666ea"), looks := false }, kinds := [], alts := [], laidByText := true, laidKinds := [.data], laidTests := true, laidLooks := .later }
def BindBothCardSaid : Prop := Claim7.holds Tryd.pinned (.plain (OpenSpec.ofChange bindBothSpec)) bindBothCard

/-- THE TIED CARD OF 'quaerelaw3.BindJoins'. -/
def bindJoinsCard : Claim7 := { stood := { row := bindJoinsRow, standIns := [], harness := (true, "f8795a9933a3818b0304203684eaf959431d205a3f47d24a45758d63842666ea"), looks := false }, kinds := [], alts := [], laidByText := true, laidKinds := [.data], laidTests := true, laidLooks := .later }
def BindJoinsCardSaid : Prop := Claim7.holds Tryd.pinned (.plain (OpenSpec.ofChange bindJoinsSpec)) bindJoinsCard

/-- THE TIED CARD OF 'quaerelaw3.BindBack'. -/
def bindBackCard : Claim7 := { stood := { row := bindBackRow, standIns := [], harness := (true, "f8795a9933a3818b0304203684eaf959431d205a3f47d24a45758d63842666ea"), looks := false }, kinds := [], alts := [], laidByText := true, laidKinds := [.data], laidTests := true, laidLooks := .later }
def BindBackCardSaid : Prop := Claim7.holds Tryd.pinned (.plain (OpenSpec.ofChange bindBackSpec)) bindBackCard

/-- THE TIED CARD OF 'quaerelaw3.BindNone'. -/
def bindNoneCard : Claim7 := { stood := { row := bindNoneRow, standIns := [], harness := (true, "f8795a9933a3818b0304203684eaf959431d205a3f47d24a45758d63842666ea"), looks := false }, kinds := [], alts := [], laidByText := true, laidKinds := [.data], laidTests := true, laidLooks := .later }
def BindNoneCardSaid : Prop := Claim7.holds Tryd.pinned (.plain (OpenSpec.ofChange bindNoneSpec)) bindNoneCard

/-- THE TIED CARD OF 'quaerelaw3.BindLongs'. -/
def bindLongsCard : Claim7 := { stood := { row := bindLongsRow, standIns := [], harness := (true, "f8795a9933a3818b0304203684eaf959431d205a3f47d24a45758d63842666ea"), looks := false }, kinds := [], alts := [], laidByText := true, laidKinds := [.data], laidTests := true, laidLooks := .later }
def BindLongsCardSaid : Prop := Claim7.holds Tryd.pinned (.plain (OpenSpec.ofChange bindLongsSpec)) bindLongsCard

/-- THE SECOND FORM's CARD OF 'quaerelaw3.BindBoth'. -/
def bindBothUptoCard : Claim7 := { stood := { row := bindBothUptoRow, standIns := [], harness := (true, "f8795a9933a3818b0304203684eaf959431d205a3f47d24a45758d63842666ea"), looks := false }, kinds := [], alts := [], laidByText := true, laidKinds := [.data], laidTests := true, laidLooks := .later }
def BindBothUptoCardSaid : Prop := Claim7.holds Tryd.pinned (.plain (OpenSpec.upto bindBothSpec)) bindBothUptoCard

/-- THE SECOND FORM's CARD OF 'quaerelaw3.BindJoins'. -/
def bindJoinsUptoCard : Claim7 := { stood := { row := bindJoinsUptoRow, standIns := [], harness := (true, "f8795a9933a3818b0304203684eaf959431d205a3f47d24a45758d63842666ea"), looks := false }, kinds := [], alts := [], laidByText := true, laidKinds := [.data], laidTests := true, laidLooks := .later }
def BindJoinsUptoCardSaid : Prop := Claim7.holds Tryd.pinned (.plain (OpenSpec.upto bindJoinsSpec)) bindJoinsUptoCard

/-- THE SECOND FORM's CARD OF 'quaerelaw3.BindBack'. -/
def bindBackUptoCard : Claim7 := { stood := { row := bindBackUptoRow, standIns := [], harness := (true, "f8795a9933a3818b0304203684eaf959431d205a3f47d24a45758d63842666ea"), looks := false }, kinds := [], alts := [], laidByText := true, laidKinds := [.data], laidTests := true, laidLooks := .later }
def BindBackUptoCardSaid : Prop := Claim7.holds Tryd.pinned (.plain (OpenSpec.upto bindBackSpec)) bindBackUptoCard

/-- THE SECOND FORM's CARD OF 'quaerelaw3.BindNone'. -/
def bindNoneUptoCard : Claim7 := { stood := { row := bindNoneUptoRow, standIns := [], harness := (true, "f8795a9933a3818b0304203684eaf959431d205a3f47d24a45758d63842666ea"), looks := false }, kinds := [], alts := [], laidByText := true, laidKinds := [.data], laidTests := true, laidLooks := .later }
def BindNoneUptoCardSaid : Prop := Claim7.holds Tryd.pinned (.plain (OpenSpec.upto bindNoneSpec)) bindNoneUptoCard

/-- THE SECOND FORM's CARD OF 'quaerelaw3.BindLongs'. -/
def bindLongsUptoCard : Claim7 := { stood := { row := bindLongsUptoRow, standIns := [], harness := (true, "f8795a9933a3818b0304203684eaf959431d205a3f47d24a45758d63842666ea"), looks := false }, kinds := [], alts := [], laidByText := true, laidKinds := [.data], laidTests := true, laidLooks := .later }
def BindLongsUptoCardSaid : Prop := Claim7.holds Tryd.pinned (.plain (OpenSpec.upto bindLongsSpec)) bindLongsUptoCard
end Rows
end Go.Proofs.YtcmpbennibojeaaDoor
