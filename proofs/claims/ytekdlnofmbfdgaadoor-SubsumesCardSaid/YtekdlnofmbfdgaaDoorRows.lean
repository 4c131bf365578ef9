/-
  NARROWER THAN 'FOR EVERY INPUT', by the rows' own cells (each row's printed sentence says how): Subsumes: laid · SubsumeRow: laid · SubsumePoints: laid · SubsumeMade: laid · SubsumeNormal: laid · SubsumeHolds: laid.
  DERIVED. THE GIVEN ROWS OF THIS SEAT. 6 by the template 'for every input the law returns true; each argument reads behind the call as it read before'; 0 by the template 'total and deterministic' (their statements: YtekdlnofmbfdgaaDoorTotals.lean).
  GIVEN WITH THE SEED: the statements are not yours to turn. If you find one false, say at which input.
  Laid BY PROGRAM, IN A SANDBOX (cutbox-rows.mjs): the forced cells as the released guide's own fill.sh prints them over the translation 6977063518b3debe… (all of the seat's roots in one cut). By AI agents, Wed Nov 11 2026. No macro, syntax, notation, axiom, sorry.
-/
import Derived.Test.YtekdlnofmbfdgaaDoorChecked
import GoSem.Claim
import GoSem.ClaimJoined
import GoSem.ClaimMapViews
import Derived.JoinedTies
import Derived.KernelRfl
namespace Go.Proofs.YtekdlnofmbfdgaaDoor
/- THE CELL 'sum', in the pinned program and in every row, IS THE sha256 OF THE DUMP (.gsa) THAT YtekdlnofmbfdgaaDoorProg.lean LOADS. Nothing in Lean hashes anything: it is a label: what it is worth is what the hold of that sum in a sandbox is worth. -/
noncomputable def Tryd.pinned : Pinned := { name := "ytekdlnofmbfdgaadoor", sum := "6977063518b3debe71f80e9a009b4856f908aa651754bad7c6afa16bf503aa3d", checked := Tryd.checked }
namespace Rows
def none {H : Type} : Left H := { results := [], args := [] }

/- WHAT THE LISTED PACKAGE-LEVEL VARIABLES READ AS WHEN THE CALL BEGINS. Each datum BY PROGRAM (the guide's laid-datum.mjs) off the statement by which the dump's own 'gosem.cut.vars' lays the variable. In a bare row this is a premise. The card (YtekdlnofmbfdgaaDoorCards.lean) ties it to the program's text. -/
def laid_quaere_sign_equals {H : Type} : DataW H := .agg [.lit (.string [61]), .lit (.int .i64 0), .lit (.int .i64 2), .lit (.int .i64 1)]

/-- 'quaerelaw10.Subsumes': WHATEVER THE INPUT: true; the input reads as it did. -/
def subsumesSpec : ChangeSpec := { name := "subsumes", fn := fun _ => fun
  | [d1, d2, d3] => { results := [.lit (.bool true)], args := [d1, d2, d3] }
  | _ => none }
def subsumesRow : OpenClaim := { program := "ytekdlnofmbfdgaadoor", sum := "6977063518b3debe71f80e9a009b4856f908aa651754bad7c6afa16bf503aa3d", func := "quaere/quaerelaw10.Subsumes", spec := "subsumes", recurses := true, named := ["quaere/sign.equals"], apart := false, laid := [("quaere/sign.equals", laid_quaere_sign_equals)] }
def SubsumesSaid : Prop := subsumesRow.holds Tryd.pinned (OpenSpec.ofChange subsumesSpec)

/-- ITS FALSE NEIGHBOUR: 'it returns false'. Refute it at one input. -/
def subsumesWrong : ChangeSpec := { name := "subsumes", fn := fun _ => fun
  | [d1, d2, d3] => { results := [.lit (.bool false)], args := [d1, d2, d3] }
  | _ => none }
def SubsumesWrongFalsely : Prop := subsumesRow.holds Tryd.pinned (OpenSpec.ofChange subsumesWrong)

/-- 'quaerelaw10.SubsumeRow': WHATEVER THE INPUT: true; the input reads as it did. -/
def subsumeRowSpec : ChangeSpec := { name := "subsumeRow", fn := fun _ => fun
  | [d1, d2, d3, d4] => { results := [.lit (.bool true)], args := [d1, d2, d3, d4] }
  | _ => none }
def subsumeRowRow : OpenClaim := { program := "ytekdlnofmbfdgaadoor", sum := "6977063518b3debe71f80e9a009b4856f908aa651754bad7c6afa16bf503aa3d", func := "quaere/quaerelaw10.SubsumeRow", spec := "subsumeRow", recurses := true, named := ["quaere/sign.equals"], apart := false, laid := [("quaere/sign.equals", laid_quaere_sign_equals)] }
def SubsumeRowSaid : Prop := subsumeRowRow.holds Tryd.pinned (OpenSpec.ofChange subsumeRowSpec)

/-- ITS FALSE NEIGHBOUR: 'it returns false'. Refute it at one input. -/
def subsumeRowWrong : ChangeSpec := { name := "subsumeRow", fn := fun _ => fun
  | [d1, d2, d3, d4] => { results := [.lit (.bool false)], args := [d1, d2, d3, d4] }
  | _ => none }
def SubsumeRowWrongFalsely : Prop := subsumeRowRow.holds Tryd.pinned (OpenSpec.ofChange subsumeRowWrong)

/-- 'quaerelaw10.SubsumePoints': WHATEVER THE INPUT: true; the input reads as it did. -/
def subsumePointsSpec : ChangeSpec := { name := "subsumePoints", fn := fun _ => fun
  | [d1, d2, d3] => { results := [.lit (.bool true)], args := [d1, d2, d3] }
  | _ => none }
def subsumePointsRow : OpenClaim := { program := "ytekdlnofmbfdgaadoor", sum := "6977063518b3debe71f80e9a009b4856f908aa651754bad7c6afa16bf503aa3d", func := "quaere/quaerelaw10.SubsumePoints", spec := "subsumePoints", recurses := true, named := ["quaere/sign.equals"], apart := false, laid := [("quaere/sign.equals", laid_quaere_sign_equals)] }
def SubsumePointsSaid : Prop := subsumePointsRow.holds Tryd.pinned (OpenSpec.ofChange subsumePointsSpec)

/-- ITS FALSE NEIGHBOUR: 'it returns false'. Refute it at one input. -/
def subsumePointsWrong : ChangeSpec := { name := "subsumePoints", fn := fun _ => fun
  | [d1, d2, d3] => { results := [.lit (.bool false)], args := [d1, d2, d3] }
  | _ => none }
def SubsumePointsWrongFalsely : Prop := subsumePointsRow.holds Tryd.pinned (OpenSpec.ofChange subsumePointsWrong)

/-- 'quaerelaw10.SubsumeMade': WHATEVER THE INPUT: true; the input reads as it did. -/
def subsumeMadeSpec : ChangeSpec := { name := "subsumeMade", fn := fun _ => fun
  | [d1, d2, d3, d4] => { results := [.lit (.bool true)], args := [d1, d2, d3, d4] }
  | _ => none }
def subsumeMadeRow : OpenClaim := { program := "ytekdlnofmbfdgaadoor", sum := "6977063518b3debe71f80e9a009b4856f908aa651754bad7c6afa16bf503aa3d", func := "quaere/quaerelaw10.SubsumeMade", spec := "subsumeMade", recurses := true, named := ["quaere/sign.equals"], apart := false, laid := [("quaere/sign.equals", laid_quaere_sign_equals)] }
def SubsumeMadeSaid : Prop := subsumeMadeRow.holds Tryd.pinned (OpenSpec.ofChange subsumeMadeSpec)

/-- ITS FALSE NEIGHBOUR: 'it returns false'. Refute it at one input. -/
def subsumeMadeWrong : ChangeSpec := { name := "subsumeMade", fn := fun _ => fun
  | [d1, d2, d3, d4] => { results := [.lit (.bool false)], args := [d1, d2, d3, d4] }
  | _ => none }
def SubsumeMadeWrongFalsely : Prop := subsumeMadeRow.holds Tryd.pinned (OpenSpec.ofChange subsumeMadeWrong)

/-- 'quaerelaw10.SubsumeNormal': WHATEVER THE INPUT: true; the input reads as it did. -/
def subsumeNormalSpec : ChangeSpec := { name := "subsumeNormal", fn := fun _ => fun
  | [d1, d2] => { results := [.lit (.bool true)], args := [d1, d2] }
  | _ => none }
def subsumeNormalRow : OpenClaim := { program := "ytekdlnofmbfdgaadoor", sum := "6977063518b3debe71f80e9a009b4856f908aa651754bad7c6afa16bf503aa3d", func := "quaere/quaerelaw10.SubsumeNormal", spec := "subsumeNormal", unfollowed := true, recurses := true, named := ["quaere/sign.equals"], apart := false, laid := [("quaere/sign.equals", laid_quaere_sign_equals)] }
def SubsumeNormalSaid : Prop := subsumeNormalRow.holds Tryd.pinned (OpenSpec.ofChange subsumeNormalSpec)

/-- ITS FALSE NEIGHBOUR: 'it returns false'. Refute it at one input. -/
def subsumeNormalWrong : ChangeSpec := { name := "subsumeNormal", fn := fun _ => fun
  | [d1, d2] => { results := [.lit (.bool false)], args := [d1, d2] }
  | _ => none }
def SubsumeNormalWrongFalsely : Prop := subsumeNormalRow.holds Tryd.pinned (OpenSpec.ofChange subsumeNormalWrong)

/-- 'quaerelaw10.SubsumeHolds': WHATEVER THE INPUT: true; the input reads as it did. -/
def subsumeHoldsSpec : ChangeSpec := { name := "subsumeHolds", fn := fun _ => fun
  | [d1, d2, d3, d4, d5] => { results := [.lit (.bool true)], args := [d1, d2, d3, d4, d5] }
  | _ => none }
def subsumeHoldsRow : OpenClaim := { program := "ytekdlnofmbfdgaadoor", sum := "6977063518b3debe71f80e9a009b4856f908aa651754bad7c6afa16bf503aa3d", func := "quaere/quaerelaw10.SubsumeHolds", spec := "subsumeHolds", inPlace := ["slices.overlaps[int]"], recurses := true, named := ["quaere/sign.equals"], apart := false, laid := [("quaere/sign.equals", laid_quaere_sign_equals)] }
def SubsumeHoldsSaid : Prop := subsumeHoldsRow.holds Tryd.pinned (OpenSpec.ofChange subsumeHoldsSpec)

/-- ITS FALSE NEIGHBOUR: 'it returns false'. Refute it at one input. -/
def subsumeHoldsWrong : ChangeSpec := { name := "subsumeHolds", fn := fun _ => fun
  | [d1, d2, d3, d4, d5] => { results := [.lit (.bool false)], args := [d1, d2, d3, d4, d5] }
  | _ => none }
def SubsumeHoldsWrongFalsely : Prop := subsumeHoldsRow.holds Tryd.pinned (OpenSpec.ofChange subsumeHoldsWrong)

/- THE SECOND FORM. 'bulk': how many values and letters a reading holds, each counted each time it is reached (what is shared counts as often as it is met; a slice's spare places count too). A statement '..UptoSaid' is the law's where the arguments, and the package variables that the reading takes, are together of bulk at most 1048576: NARROWER than '..Said'. Prove '..Said' where nothing that the law and all that it calls make is longer than what came in: it says more and counts as full. Else prove '..UptoSaid'. A law counts once. -/
mutual
def uptoBulk {H : Type} : DataW H → Nat
  | .lit (.string bytes) => bytes.length + 1
  | .lit _ => 1
  | .nil => 1
  | .ptr d => uptoBulk d + 1
  | .slice elems spare => uptoBulkAll elems + uptoBulkAll spare + 1
  | .agg parts => uptoBulkAll parts + 1
  | .iface _ d => uptoBulk d + 1
  | .map entries => uptoBulkEntries entries + 1
  | .held _ => 1
def uptoBulkAll {H : Type} : List (DataW H) → Nat
  | [] => 0
  | d :: r => uptoBulk d + uptoBulkAll r
def uptoBulkEntries {H : Type} : List (Lit × DataW H) → Nat
  | [] => 0
  | x :: r => uptoBulkEntry x + uptoBulkEntries r
def uptoBulkEntry {H : Type} : Lit × DataW H → Nat
  | (.string bytes, d) => bytes.length + uptoBulk d + 1
  | (_, d) => uptoBulk d + 1
 end
def uptoSmall : (H : Type) → List (DataW H) → Bool := fun _ ds => decide (uptoBulkAll ds ≤ 1048576)
def OpenSpec.upto (s : _root_.Go.ChangeSpec) : _root_.Go.OpenSpec := { _root_.Go.OpenSpec.ofChange s with cond := some uptoSmall }

/-- 'quaerelaw10.Subsumes', WHERE WHAT IT READS IS OF BULK AT MOST 1048576: true; the input reads as it did. -/
def subsumesUptoRow : OpenClaim := { program := "ytekdlnofmbfdgaadoor", sum := "6977063518b3debe71f80e9a009b4856f908aa651754bad7c6afa16bf503aa3d", func := "quaere/quaerelaw10.Subsumes", spec := "subsumes", recurses := true, named := ["quaere/sign.equals"], apart := false, laid := [("quaere/sign.equals", laid_quaere_sign_equals)], narrowed := true }
def SubsumesUptoSaid : Prop := subsumesUptoRow.holds Tryd.pinned (OpenSpec.upto subsumesSpec)

/-- 'quaerelaw10.SubsumeRow', WHERE WHAT IT READS IS OF BULK AT MOST 1048576: true; the input reads as it did. -/
def subsumeRowUptoRow : OpenClaim := { program := "ytekdlnofmbfdgaadoor", sum := "6977063518b3debe71f80e9a009b4856f908aa651754bad7c6afa16bf503aa3d", func := "quaere/quaerelaw10.SubsumeRow", spec := "subsumeRow", recurses := true, named := ["quaere/sign.equals"], apart := false, laid := [("quaere/sign.equals", laid_quaere_sign_equals)], narrowed := true }
def SubsumeRowUptoSaid : Prop := subsumeRowUptoRow.holds Tryd.pinned (OpenSpec.upto subsumeRowSpec)

/-- 'quaerelaw10.SubsumePoints', WHERE WHAT IT READS IS OF BULK AT MOST 1048576: true; the input reads as it did. -/
def subsumePointsUptoRow : OpenClaim := { program := "ytekdlnofmbfdgaadoor", sum := "6977063518b3debe71f80e9a009b4856f908aa651754bad7c6afa16bf503aa3d", func := "quaere/quaerelaw10.SubsumePoints", spec := "subsumePoints", recurses := true, named := ["quaere/sign.equals"], apart := false, laid := [("quaere/sign.equals", laid_quaere_sign_equals)], narrowed := true }
def SubsumePointsUptoSaid : Prop := subsumePointsUptoRow.holds Tryd.pinned (OpenSpec.upto subsumePointsSpec)

/-- 'quaerelaw10.SubsumeMade', WHERE WHAT IT READS IS OF BULK AT MOST 1048576: true; the input reads as it did. -/
def subsumeMadeUptoRow : OpenClaim := { program := "ytekdlnofmbfdgaadoor", sum := "6977063518b3debe71f80e9a009b4856f908aa651754bad7c6afa16bf503aa3d", func := "quaere/quaerelaw10.SubsumeMade", spec := "subsumeMade", recurses := true, named := ["quaere/sign.equals"], apart := false, laid := [("quaere/sign.equals", laid_quaere_sign_equals)], narrowed := true }
def SubsumeMadeUptoSaid : Prop := subsumeMadeUptoRow.holds Tryd.pinned (OpenSpec.upto subsumeMadeSpec)

/-- 'quaerelaw10.SubsumeNormal', WHERE WHAT IT READS IS OF BULK AT MOST 1048576: true; the input reads as it did. -/
def subsumeNormalUptoRow : OpenClaim := { program := "ytekdlnofmbfdgaadoor", sum := "6977063518b3debe71f80e9a009b4856f908aa651754bad7c6afa16bf503aa3d", func := "quaere/quaerelaw10.SubsumeNormal", spec := "subsumeNormal", unfollowed := true, recurses := true, named := ["quaere/sign.equals"], apart := false, laid := [("quaere/sign.equals", laid_quaere_sign_equals)], narrowed := true }
def SubsumeNormalUptoSaid : Prop := subsumeNormalUptoRow.holds Tryd.pinned (OpenSpec.upto subsumeNormalSpec)

/-- 'quaerelaw10.SubsumeHolds', WHERE WHAT IT READS IS OF BULK AT MOST 1048576: true; the input reads as it did. -/
def subsumeHoldsUptoRow : OpenClaim := { program := "ytekdlnofmbfdgaadoor", sum := "6977063518b3debe71f80e9a009b4856f908aa651754bad7c6afa16bf503aa3d", func := "quaere/quaerelaw10.SubsumeHolds", spec := "subsumeHolds", inPlace := ["slices.overlaps[int]"], recurses := true, named := ["quaere/sign.equals"], apart := false, laid := [("quaere/sign.equals", laid_quaere_sign_equals)], narrowed := true }
def SubsumeHoldsUptoSaid : Prop := subsumeHoldsUptoRow.holds Tryd.pinned (OpenSpec.upto subsumeHoldsSpec)

end Rows
end Go.Proofs.YtekdlnofmbfdgaaDoor
