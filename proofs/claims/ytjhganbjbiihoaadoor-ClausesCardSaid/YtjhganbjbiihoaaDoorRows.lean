/-
  NARROWER THAN 'FOR EVERY INPUT', by the rows' own cells (each row's printed sentence says how): Clauses: laid · ClauseNormals: laid · ClauseAgain: laid · ClauseNames: laid · ClauseHolds: laid · ClauseFull: laid.
  DERIVED. THE GIVEN ROWS OF THIS SEAT. 6 by the template 'for every input the law returns true; each argument reads behind the call as it read before'; 0 by the template 'total and deterministic' (their statements: YtjhganbjbiihoaaDoorTotals.lean).
  GIVEN WITH THE SEED: the statements are not yours to turn. If you find one false, say at which input.
  Laid BY PROGRAM, IN A SANDBOX (cutbox-rows.mjs): the forced cells as the released guide's own fill.sh prints them over the translation 36b372bb8abcb58f… (all of the seat's roots in one cut). By AI agents, Wed Nov 11 2026. No macro, syntax, notation, axiom, sorry.
-/
import Derived.Test.YtjhganbjbiihoaaDoorChecked
import GoSem.Claim
import GoSem.ClaimJoined
import GoSem.ClaimMapViews
import Derived.JoinedTies
import Derived.KernelRfl
namespace Go.Proofs.YtjhganbjbiihoaaDoor
/- THE CELL 'sum', in the pinned program and in every row, IS THE sha256 OF THE DUMP (.gsa) THAT YtjhganbjbiihoaaDoorProg.lean LOADS. Nothing in Lean hashes anything: it is a label: what it is worth is what the hold of that sum in a sandbox is worth. -/
noncomputable def Tryd.pinned : Pinned := { name := "ytjhganbjbiihoaadoor", sum := "36b372bb8abcb58f4672f9d880934f04c70309dee61f187606729e0d1388ba57", checked := Tryd.checked }
namespace Rows
def none {H : Type} : Left H := { results := [], args := [] }

/- WHAT THE LISTED PACKAGE-LEVEL VARIABLES READ AS WHEN THE CALL BEGINS. Each datum BY PROGRAM (the guide's laid-datum.mjs) off the statement by which the dump's own 'gosem.cut.vars' lays the variable. In a bare row this is a premise. The card (YtjhganbjbiihoaaDoorCards.lean) ties it to the program's text. -/
def laid_quaere_sign_equals {H : Type} : DataW H := .agg [.lit (.string [61]), .lit (.int .i64 0), .lit (.int .i64 2), .lit (.int .i64 1)]

/-- 'quaerelaw8.Clauses': WHATEVER THE INPUT: true; the input reads as it did. -/
def clausesSpec : ChangeSpec := { name := "clauses", fn := fun _ => fun
  | [d1, d2, d3] => { results := [.lit (.bool true)], args := [d1, d2, d3] }
  | _ => none }
def clausesRow : OpenClaim := { program := "ytjhganbjbiihoaadoor", sum := "36b372bb8abcb58f4672f9d880934f04c70309dee61f187606729e0d1388ba57", func := "quaere/quaerelaw8.Clauses", spec := "clauses", inPlace := ["slices.overlaps[int]"], unfollowed := true, recurses := true, named := ["quaere/sign.equals"], apart := false, laid := [("quaere/sign.equals", laid_quaere_sign_equals)] }
def ClausesSaid : Prop := clausesRow.holds Tryd.pinned (OpenSpec.ofChange clausesSpec)

/-- ITS FALSE NEIGHBOUR: 'it returns false'. Refute it at one input. -/
def clausesWrong : ChangeSpec := { name := "clauses", fn := fun _ => fun
  | [d1, d2, d3] => { results := [.lit (.bool false)], args := [d1, d2, d3] }
  | _ => none }
def ClausesWrongFalsely : Prop := clausesRow.holds Tryd.pinned (OpenSpec.ofChange clausesWrong)

/-- 'quaerelaw8.ClauseNormals': WHATEVER THE INPUT: true; the input reads as it did. -/
def clauseNormalsSpec : ChangeSpec := { name := "clauseNormals", fn := fun _ => fun
  | [d1, d2] => { results := [.lit (.bool true)], args := [d1, d2] }
  | _ => none }
def clauseNormalsRow : OpenClaim := { program := "ytjhganbjbiihoaadoor", sum := "36b372bb8abcb58f4672f9d880934f04c70309dee61f187606729e0d1388ba57", func := "quaere/quaerelaw8.ClauseNormals", spec := "clauseNormals", inPlace := ["slices.overlaps[int]"], unfollowed := true, recurses := true, named := ["quaere/sign.equals"], apart := false, laid := [("quaere/sign.equals", laid_quaere_sign_equals)] }
def ClauseNormalsSaid : Prop := clauseNormalsRow.holds Tryd.pinned (OpenSpec.ofChange clauseNormalsSpec)

/-- ITS FALSE NEIGHBOUR: 'it returns false'. Refute it at one input. -/
def clauseNormalsWrong : ChangeSpec := { name := "clauseNormals", fn := fun _ => fun
  | [d1, d2] => { results := [.lit (.bool false)], args := [d1, d2] }
  | _ => none }
def ClauseNormalsWrongFalsely : Prop := clauseNormalsRow.holds Tryd.pinned (OpenSpec.ofChange clauseNormalsWrong)

/-- 'quaerelaw8.ClauseAgain': WHATEVER THE INPUT: true; the input reads as it did. -/
def clauseAgainSpec : ChangeSpec := { name := "clauseAgain", fn := fun _ => fun
  | [d1, d2] => { results := [.lit (.bool true)], args := [d1, d2] }
  | _ => none }
def clauseAgainRow : OpenClaim := { program := "ytjhganbjbiihoaadoor", sum := "36b372bb8abcb58f4672f9d880934f04c70309dee61f187606729e0d1388ba57", func := "quaere/quaerelaw8.ClauseAgain", spec := "clauseAgain", inPlace := ["slices.overlaps[int]"], unfollowed := true, recurses := true, named := ["quaere/sign.equals"], apart := false, laid := [("quaere/sign.equals", laid_quaere_sign_equals)] }
def ClauseAgainSaid : Prop := clauseAgainRow.holds Tryd.pinned (OpenSpec.ofChange clauseAgainSpec)

/-- ITS FALSE NEIGHBOUR: 'it returns false'. Refute it at one input. -/
def clauseAgainWrong : ChangeSpec := { name := "clauseAgain", fn := fun _ => fun
  | [d1, d2] => { results := [.lit (.bool false)], args := [d1, d2] }
  | _ => none }
def ClauseAgainWrongFalsely : Prop := clauseAgainRow.holds Tryd.pinned (OpenSpec.ofChange clauseAgainWrong)

/-- 'quaerelaw8.ClauseNames': WHATEVER THE INPUT: true; the input reads as it did. -/
def clauseNamesSpec : ChangeSpec := { name := "clauseNames", fn := fun _ => fun
  | [d1, d2, d3, d4] => { results := [.lit (.bool true)], args := [d1, d2, d3, d4] }
  | _ => none }
def clauseNamesRow : OpenClaim := { program := "ytjhganbjbiihoaadoor", sum := "36b372bb8abcb58f4672f9d880934f04c70309dee61f187606729e0d1388ba57", func := "quaere/quaerelaw8.ClauseNames", spec := "clauseNames", inPlace := ["slices.overlaps[int]"], unfollowed := true, recurses := true, named := ["quaere/sign.equals"], apart := false, laid := [("quaere/sign.equals", laid_quaere_sign_equals)] }
def ClauseNamesSaid : Prop := clauseNamesRow.holds Tryd.pinned (OpenSpec.ofChange clauseNamesSpec)

/-- ITS FALSE NEIGHBOUR: 'it returns false'. Refute it at one input. -/
def clauseNamesWrong : ChangeSpec := { name := "clauseNames", fn := fun _ => fun
  | [d1, d2, d3, d4] => { results := [.lit (.bool false)], args := [d1, d2, d3, d4] }
  | _ => none }
def ClauseNamesWrongFalsely : Prop := clauseNamesRow.holds Tryd.pinned (OpenSpec.ofChange clauseNamesWrong)

/-- 'quaerelaw8.ClauseHolds': WHATEVER THE INPUT: true; the input reads as it did. -/
def clauseHoldsSpec : ChangeSpec := { name := "clauseHolds", fn := fun _ => fun
  | [d1, d2, d3, d4] => { results := [.lit (.bool true)], args := [d1, d2, d3, d4] }
  | _ => none }
def clauseHoldsRow : OpenClaim := { program := "ytjhganbjbiihoaadoor", sum := "36b372bb8abcb58f4672f9d880934f04c70309dee61f187606729e0d1388ba57", func := "quaere/quaerelaw8.ClauseHolds", spec := "clauseHolds", inPlace := ["slices.overlaps[int]"], unfollowed := true, recurses := true, named := ["quaere/sign.equals"], apart := false, laid := [("quaere/sign.equals", laid_quaere_sign_equals)] }
def ClauseHoldsSaid : Prop := clauseHoldsRow.holds Tryd.pinned (OpenSpec.ofChange clauseHoldsSpec)

/-- ITS FALSE NEIGHBOUR: 'it returns false'. Refute it at one input. -/
def clauseHoldsWrong : ChangeSpec := { name := "clauseHolds", fn := fun _ => fun
  | [d1, d2, d3, d4] => { results := [.lit (.bool false)], args := [d1, d2, d3, d4] }
  | _ => none }
def ClauseHoldsWrongFalsely : Prop := clauseHoldsRow.holds Tryd.pinned (OpenSpec.ofChange clauseHoldsWrong)

/-- 'quaerelaw8.ClauseFull': WHATEVER THE INPUT: true; the input reads as it did. -/
def clauseFullSpec : ChangeSpec := { name := "clauseFull", fn := fun _ => fun
  | [d1, d2, d3] => { results := [.lit (.bool true)], args := [d1, d2, d3] }
  | _ => none }
def clauseFullRow : OpenClaim := { program := "ytjhganbjbiihoaadoor", sum := "36b372bb8abcb58f4672f9d880934f04c70309dee61f187606729e0d1388ba57", func := "quaere/quaerelaw8.ClauseFull", spec := "clauseFull", inPlace := ["slices.overlaps[int]"], unfollowed := true, recurses := true, named := ["quaere/sign.equals"], apart := false, laid := [("quaere/sign.equals", laid_quaere_sign_equals)] }
def ClauseFullSaid : Prop := clauseFullRow.holds Tryd.pinned (OpenSpec.ofChange clauseFullSpec)

/-- ITS FALSE NEIGHBOUR: 'it returns false'. Refute it at one input. -/
def clauseFullWrong : ChangeSpec := { name := "clauseFull", fn := fun _ => fun
  | [d1, d2, d3] => { results := [.lit (.bool false)], args := [d1, d2, d3] }
  | _ => none }
def ClauseFullWrongFalsely : Prop := clauseFullRow.holds Tryd.pinned (OpenSpec.ofChange clauseFullWrong)

/- THE SECOND FORM. 'bulk': how many values and letters a reading holds, each counted each time it is reached (what is shared counts as often as it is met; a slice's spare places count too). A statement '..UptoSaid' is the law's where the arguments, and the package variables that the reading takes, are together of bulk at most 1048576: NARROWER than '..Said'. Prove '..Said' where nothing that the law and all that it calls make is longer than what came in: it says more and counts as full. Else prove '..UptoSaid'. A law counts once. -/
mutual
def uptoBulk {H : Type} : DataW H → Nat
  | .lit (.string bytes) => bytes.length + 1
  | .lit _ => 1
  | .nil => 1
  | .ptr d => uptoBulk d + 1
  | .slice elems spare => uptoBulkAll elems + uptoBulkAll spare + 1
  | .agg parts => uptoBulkAll parts + 1
  | .iface _ d => uptoBulk d + 1
  | .map entries => uptoBulkEntries entries + 1
  | .held _ => 1
def uptoBulkAll {H : Type} : List (DataW H) → Nat
  | [] => 0
  | d :: r => uptoBulk d + uptoBulkAll r
def uptoBulkEntries {H : Type} : List (Lit × DataW H) → Nat
  | [] => 0
  | x :: r => uptoBulkEntry x + uptoBulkEntries r
def uptoBulkEntry {H : Type} : Lit × DataW H → Nat
  | (.string bytes, d) => bytes.length + uptoBulk d + 1
  | (_, d) => uptoBulk d + 1
 end
def uptoSmall : (H : Type) → List (DataW H) → Bool := fun _ ds => decide (uptoBulkAll ds ≤ 1048576)
def OpenSpec.upto (s : _root_.Go.ChangeSpec) : _root_.Go.OpenSpec := { _root_.Go.OpenSpec.ofChange s with cond := some uptoSmall }

/-- 'quaerelaw8.Clauses', WHERE WHAT IT READS IS OF BULK AT MOST 1048576: true; the input reads as it did. -/
def clausesUptoRow : OpenClaim := { program := "ytjhganbjbiihoaadoor", sum := "36b372bb8abcb58f4672f9d880934f04c70309dee61f187606729e0d1388ba57", func := "quaere/quaerelaw8.Clauses", spec := "clauses", inPlace := ["slices.overlaps[int]"], unfollowed := true, recurses := true, named := ["quaere/sign.equals"], apart := false, laid := [("quaere/sign.equals", laid_quaere_sign_equals)], narrowed := true }
def ClausesUptoSaid : Prop := clausesUptoRow.holds Tryd.pinned (OpenSpec.upto clausesSpec)

/-- 'quaerelaw8.ClauseNormals', WHERE WHAT IT READS IS OF BULK AT MOST 1048576: true; the input reads as it did. -/
def clauseNormalsUptoRow : OpenClaim := { program := "ytjhganbjbiihoaadoor", sum := "36b372bb8abcb58f4672f9d880934f04c70309dee61f187606729e0d1388ba57", func := "quaere/quaerelaw8.ClauseNormals", spec := "clauseNormals", inPlace := ["slices.overlaps[int]"], unfollowed := true, recurses := true, named := ["quaere/sign.equals"], apart := false, laid := [("quaere/sign.equals", laid_quaere_sign_equals)], narrowed := true }
def ClauseNormalsUptoSaid : Prop := clauseNormalsUptoRow.holds Tryd.pinned (OpenSpec.upto clauseNormalsSpec)

/-- 'quaerelaw8.ClauseAgain', WHERE WHAT IT READS IS OF BULK AT MOST 1048576: true; the input reads as it did. -/
def clauseAgainUptoRow : OpenClaim := { program := "ytjhganbjbiihoaadoor", sum := "36b372bb8abcb58f4672f9d880934f04c70309dee61f187606729e0d1388ba57", func := "quaere/quaerelaw8.ClauseAgain", spec := "clauseAgain", inPlace := ["slices.overlaps[int]"], unfollowed := true, recurses := true, named := ["quaere/sign.equals"], apart := false, laid := [("quaere/sign.equals", laid_quaere_sign_equals)], narrowed := true }
def ClauseAgainUptoSaid : Prop := clauseAgainUptoRow.holds Tryd.pinned (OpenSpec.upto clauseAgainSpec)

/-- 'quaerelaw8.ClauseNames', WHERE WHAT IT READS IS OF BULK AT MOST 1048576: true; the input reads as it did. -/
def clauseNamesUptoRow : OpenClaim := { program := "ytjhganbjbiihoaadoor", sum := "36b372bb8abcb58f4672f9d880934f04c70309dee61f187606729e0d1388ba57", func := "quaere/quaerelaw8.ClauseNames", spec := "clauseNames", inPlace := ["slices.overlaps[int]"], unfollowed := true, recurses := true, named := ["quaere/sign.equals"], apart := false, laid := [("quaere/sign.equals", laid_quaere_sign_equals)], narrowed := true }
def ClauseNamesUptoSaid : Prop := clauseNamesUptoRow.holds Tryd.pinned (OpenSpec.upto clauseNamesSpec)

/-- 'quaerelaw8.ClauseHolds', WHERE WHAT IT READS IS OF BULK AT MOST 1048576: true; the input reads as it did. -/
def clauseHoldsUptoRow : OpenClaim := { program := "ytjhganbjbiihoaadoor", sum := "36b372bb8abcb58f4672f9d880934f04c70309dee61f187606729e0d1388ba57", func := "quaere/quaerelaw8.ClauseHolds", spec := "clauseHolds", inPlace := ["slices.overlaps[int]"], unfollowed := true, recurses := true, named := ["quaere/sign.equals"], apart := false, laid := [("quaere/sign.equals", laid_quaere_sign_equals)], narrowed := true }
def ClauseHoldsUptoSaid : Prop := clauseHoldsUptoRow.holds Tryd.pinned (OpenSpec.upto clauseHoldsSpec)

/-- 'quaerelaw8.ClauseFull', WHERE WHAT IT READS IS OF BULK AT MOST 1048576: true; the input reads as it did. -/
def clauseFullUptoRow : OpenClaim := { program := "ytjhganbjbiihoaadoor", sum := "36b372bb8abcb58f4672f9d880934f04c70309dee61f187606729e0d1388ba57", func := "quaere/quaerelaw8.ClauseFull", spec := "clauseFull", inPlace := ["slices.overlaps[int]"], unfollowed := true, recurses := true, named := ["quaere/sign.equals"], apart := false, laid := [("quaere/sign.equals", laid_quaere_sign_equals)], narrowed := true }
def ClauseFullUptoSaid : Prop := clauseFullUptoRow.holds Tryd.pinned (OpenSpec.upto clauseFullSpec)

end Rows
end Go.Proofs.YtjhganbjbiihoaaDoor
