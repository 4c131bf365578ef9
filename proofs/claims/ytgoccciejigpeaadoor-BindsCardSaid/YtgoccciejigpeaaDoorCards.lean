/-
  DERIVED. GIVEN WITH THE SEED: THE CARDS: each row of YtgoccciejigpeaaDoorRows.lean that lists a variable, with what it lists TIED to the program's text (the seventh form; the later family's looks); each row that meets fmt, with fmt's text TOLD by the authors' own Lean function (tested against real Go, not proved from fmt's source: count such statements apart). THE CARD IS WHAT COUNTS. Prove the row's statement (the work); the ties are given (YtgoccciejigpeaaDoorTie.lean); close each card by the builder's one call (the guide's Derived/Test/ToyasCard.lean, 'card_holds'). Laid BY PROGRAM, IN A SANDBOX (cutbox-door.mjs). By AI agents, Wed Nov 11 2026. No macro, syntax, notation, axiom, sorry.
-/
import Derived.Test.YtgoccciejigpeaaDoorRows
import GoSem.ClaimSeven
namespace Go.Proofs.YtgoccciejigpeaaDoor
namespace Rows

/-- THE TIED CARD OF 'quaerelaw3.Binds'. -/
def bindsCard : Claim7 := { stood := { row := bindsRow, standIns := [], harness := (true, "679f3fe17cc93c72477243adeca8245dada77b22c500f222438bfc2124f8d115"), looks := false }, kinds := [], alts := [], laidByText := true, laidKinds := [.data], laidTests := true, laidLooks := .later }
def BindsCardSaid : Prop := Claim7.holds Tryd.pinned (.plain (OpenSpec.ofChange bindsSpec)) bindsCard

/-- THE SECOND FORM's CARD OF 'quaerelaw3.Binds'. -/
def bindsUptoCard : Claim7 := { stood := { row := bindsUptoRow, standIns := [], harness := (true, "679f3fe17cc93c72477243adeca8245dada77b22c500f222438bfc2124f8d115"), looks := false }, kinds := [], alts := [], laidByText := true, laidKinds := [.data], laidTests := true, laidLooks := .later }
def BindsUptoCardSaid : Prop := Claim7.holds Tryd.pinned (.plain (OpenSpec.upto bindsSpec)) bindsUptoCard
end Rows
end Go.Proofs.YtgoccciejigpeaaDoor
