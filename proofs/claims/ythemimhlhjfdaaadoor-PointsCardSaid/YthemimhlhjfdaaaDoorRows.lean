/-
  NARROWER THAN 'FOR EVERY INPUT', by the rows' own cells (each row's printed sentence says how): Points: laid · PointClauses: laid · PointRing: laid · PointFlips: laid · PointScores: laid · PointDenied: laid.
  DERIVED. THE GIVEN ROWS OF THIS SEAT. 6 by the template 'for every input the law returns true; each argument reads behind the call as it read before'; 0 by the template 'total and deterministic' (their statements: YthemimhlhjfdaaaDoorTotals.lean).
  GIVEN WITH THE SEED: the statements are not yours to turn. If you find one false, say at which input.
  Laid BY PROGRAM, IN A SANDBOX (cutbox-rows.mjs): the forced cells as the released guide's own fill.sh prints them over the translation dc527c9db1a1b00d… (all of the seat's roots in one cut). By AI agents, Wed Nov 11 2026. No macro, syntax, notation, axiom, sorry.
-/
import Derived.Test.YthemimhlhjfdaaaDoorChecked
import GoSem.Claim
import GoSem.ClaimJoined
import GoSem.ClaimMapViews
import Derived.JoinedTies
import Derived.KernelRfl
namespace Go.Proofs.YthemimhlhjfdaaaDoor
/- THE CELL 'sum', in the pinned program and in every row, IS THE sha256 OF THE DUMP (.gsa) THAT YthemimhlhjfdaaaDoorProg.lean LOADS. Nothing in Lean hashes anything: it is a label: what it is worth is what the hold of that sum in a sandbox is worth. -/
noncomputable def Tryd.pinned : Pinned := { name := "ythemimhlhjfdaaadoor", sum := "dc527c9db1a1b00df0d324162d470b6003e7f671971fa6a210ab582d1392c2cf", checked := Tryd.checked }
namespace Rows
def none {H : Type} : Left H := { results := [], args := [] }

/- WHAT THE LISTED PACKAGE-LEVEL VARIABLES READ AS WHEN THE CALL BEGINS. Each datum BY PROGRAM (the guide's laid-datum.mjs) off the statement by which the dump's own 'gosem.cut.vars' lays the variable. In a bare row this is a premise. The card (YthemimhlhjfdaaaDoorCards.lean) ties it to the program's text. -/
def laid_quaere_sign_equals {H : Type} : DataW H := .agg [.lit (.string [61]), .lit (.int .i64 0), .lit (.int .i64 2), .lit (.int .i64 1)]

/-- 'quaerelaw9.Points': WHATEVER THE INPUT: true; the input reads as it did. -/
def pointsSpec : ChangeSpec := { name := "points", fn := fun _ => fun
  | [d1, d2] => { results := [.lit (.bool true)], args := [d1, d2] }
  | _ => none }
def pointsRow : OpenClaim := { program := "ythemimhlhjfdaaadoor", sum := "dc527c9db1a1b00df0d324162d470b6003e7f671971fa6a210ab582d1392c2cf", func := "quaere/quaerelaw9.Points", spec := "points", named := ["quaere/sign.equals"], apart := false, laid := [("quaere/sign.equals", laid_quaere_sign_equals)] }
def PointsSaid : Prop := pointsRow.holds Tryd.pinned (OpenSpec.ofChange pointsSpec)

/-- ITS FALSE NEIGHBOUR: 'it returns false'. Refute it at one input. -/
def pointsWrong : ChangeSpec := { name := "points", fn := fun _ => fun
  | [d1, d2] => { results := [.lit (.bool false)], args := [d1, d2] }
  | _ => none }
def PointsWrongFalsely : Prop := pointsRow.holds Tryd.pinned (OpenSpec.ofChange pointsWrong)

/-- 'quaerelaw9.PointClauses': WHATEVER THE INPUT: true; the input reads as it did. -/
def pointClausesSpec : ChangeSpec := { name := "pointClauses", fn := fun _ => fun
  | [d1, d2] => { results := [.lit (.bool true)], args := [d1, d2] }
  | _ => none }
def pointClausesRow : OpenClaim := { program := "ythemimhlhjfdaaadoor", sum := "dc527c9db1a1b00df0d324162d470b6003e7f671971fa6a210ab582d1392c2cf", func := "quaere/quaerelaw9.PointClauses", spec := "pointClauses", named := ["quaere/sign.equals"], apart := false, laid := [("quaere/sign.equals", laid_quaere_sign_equals)] }
def PointClausesSaid : Prop := pointClausesRow.holds Tryd.pinned (OpenSpec.ofChange pointClausesSpec)

/-- ITS FALSE NEIGHBOUR: 'it returns false'. Refute it at one input. -/
def pointClausesWrong : ChangeSpec := { name := "pointClauses", fn := fun _ => fun
  | [d1, d2] => { results := [.lit (.bool false)], args := [d1, d2] }
  | _ => none }
def PointClausesWrongFalsely : Prop := pointClausesRow.holds Tryd.pinned (OpenSpec.ofChange pointClausesWrong)

/-- 'quaerelaw9.PointRing': WHATEVER THE INPUT: true; the input reads as it did. -/
def pointRingSpec : ChangeSpec := { name := "pointRing", fn := fun _ => fun
  | [d1, d2, d3, d4] => { results := [.lit (.bool true)], args := [d1, d2, d3, d4] }
  | _ => none }
def pointRingRow : OpenClaim := { program := "ythemimhlhjfdaaadoor", sum := "dc527c9db1a1b00df0d324162d470b6003e7f671971fa6a210ab582d1392c2cf", func := "quaere/quaerelaw9.PointRing", spec := "pointRing", named := ["quaere/sign.equals"], apart := false, laid := [("quaere/sign.equals", laid_quaere_sign_equals)] }
def PointRingSaid : Prop := pointRingRow.holds Tryd.pinned (OpenSpec.ofChange pointRingSpec)

/-- ITS FALSE NEIGHBOUR: 'it returns false'. Refute it at one input. -/
def pointRingWrong : ChangeSpec := { name := "pointRing", fn := fun _ => fun
  | [d1, d2, d3, d4] => { results := [.lit (.bool false)], args := [d1, d2, d3, d4] }
  | _ => none }
def PointRingWrongFalsely : Prop := pointRingRow.holds Tryd.pinned (OpenSpec.ofChange pointRingWrong)

/-- 'quaerelaw9.PointFlips': WHATEVER THE INPUT: true; the input reads as it did. -/
def pointFlipsSpec : ChangeSpec := { name := "pointFlips", fn := fun _ => fun
  | [d1, d2, d3, d4] => { results := [.lit (.bool true)], args := [d1, d2, d3, d4] }
  | _ => none }
def pointFlipsRow : OpenClaim := { program := "ythemimhlhjfdaaadoor", sum := "dc527c9db1a1b00df0d324162d470b6003e7f671971fa6a210ab582d1392c2cf", func := "quaere/quaerelaw9.PointFlips", spec := "pointFlips", named := ["quaere/sign.equals"], apart := false, laid := [("quaere/sign.equals", laid_quaere_sign_equals)] }
def PointFlipsSaid : Prop := pointFlipsRow.holds Tryd.pinned (OpenSpec.ofChange pointFlipsSpec)

/-- ITS FALSE NEIGHBOUR: 'it returns false'. Refute it at one input. -/
def pointFlipsWrong : ChangeSpec := { name := "pointFlips", fn := fun _ => fun
  | [d1, d2, d3, d4] => { results := [.lit (.bool false)], args := [d1, d2, d3, d4] }
  | _ => none }
def PointFlipsWrongFalsely : Prop := pointFlipsRow.holds Tryd.pinned (OpenSpec.ofChange pointFlipsWrong)

/-- 'quaerelaw9.PointScores': WHATEVER THE INPUT: true; the input reads as it did. -/
def pointScoresSpec : ChangeSpec := { name := "pointScores", fn := fun _ => fun
  | [d1, d2] => { results := [.lit (.bool true)], args := [d1, d2] }
  | _ => none }
def pointScoresRow : OpenClaim := { program := "ythemimhlhjfdaaadoor", sum := "dc527c9db1a1b00df0d324162d470b6003e7f671971fa6a210ab582d1392c2cf", func := "quaere/quaerelaw9.PointScores", spec := "pointScores", named := ["quaere/sign.equals"], apart := false, laid := [("quaere/sign.equals", laid_quaere_sign_equals)] }
def PointScoresSaid : Prop := pointScoresRow.holds Tryd.pinned (OpenSpec.ofChange pointScoresSpec)

/-- ITS FALSE NEIGHBOUR: 'it returns false'. Refute it at one input. -/
def pointScoresWrong : ChangeSpec := { name := "pointScores", fn := fun _ => fun
  | [d1, d2] => { results := [.lit (.bool false)], args := [d1, d2] }
  | _ => none }
def PointScoresWrongFalsely : Prop := pointScoresRow.holds Tryd.pinned (OpenSpec.ofChange pointScoresWrong)

/-- 'quaerelaw9.PointDenied': WHATEVER THE INPUT: true; the input reads as it did. -/
def pointDeniedSpec : ChangeSpec := { name := "pointDenied", fn := fun _ => fun
  | [d1, d2] => { results := [.lit (.bool true)], args := [d1, d2] }
  | _ => none }
def pointDeniedRow : OpenClaim := { program := "ythemimhlhjfdaaadoor", sum := "dc527c9db1a1b00df0d324162d470b6003e7f671971fa6a210ab582d1392c2cf", func := "quaere/quaerelaw9.PointDenied", spec := "pointDenied", named := ["quaere/sign.equals"], apart := false, laid := [("quaere/sign.equals", laid_quaere_sign_equals)] }
def PointDeniedSaid : Prop := pointDeniedRow.holds Tryd.pinned (OpenSpec.ofChange pointDeniedSpec)

/-- ITS FALSE NEIGHBOUR: 'it returns false'. Refute it at one input. -/
def pointDeniedWrong : ChangeSpec := { name := "pointDenied", fn := fun _ => fun
  | [d1, d2] => { results := [.lit (.bool false)], args := [d1, d2] }
  | _ => none }
def PointDeniedWrongFalsely : Prop := pointDeniedRow.holds Tryd.pinned (OpenSpec.ofChange pointDeniedWrong)

/- THE SECOND FORM. 'bulk': how many values and letters a reading holds, each counted each time it is reached (what is shared counts as often as it is met; a slice's spare places count too). A statement '..UptoSaid' is the law's where the arguments, and the package variables that the reading takes, are together of bulk at most 1048576: NARROWER than '..Said'. Prove '..Said' where nothing that the law and all that it calls make is longer than what came in: it says more and counts as full. Else prove '..UptoSaid'. A law counts once. -/
mutual
def uptoBulk {H : Type} : DataW H → Nat
  | .lit (.string bytes) => bytes.length + 1
  | .lit _ => 1
  | .nil => 1
  | .ptr d => uptoBulk d + 1
  | .slice elems spare => uptoBulkAll elems + uptoBulkAll spare + 1
  | .agg parts => uptoBulkAll parts + 1
  | .iface _ d => uptoBulk d + 1
  | .map entries => uptoBulkEntries entries + 1
  | .held _ => 1
def uptoBulkAll {H : Type} : List (DataW H) → Nat
  | [] => 0
  | d :: r => uptoBulk d + uptoBulkAll r
def uptoBulkEntries {H : Type} : List (Lit × DataW H) → Nat
  | [] => 0
  | x :: r => uptoBulkEntry x + uptoBulkEntries r
def uptoBulkEntry {H : Type} : Lit × DataW H → Nat
  | (.string bytes, d) => bytes.length + uptoBulk d + 1
  | (_, d) => uptoBulk d + 1
 end
def uptoSmall : (H : Type) → List (DataW H) → Bool := fun _ ds => decide (uptoBulkAll ds ≤ 1048576)
def OpenSpec.upto (s : _root_.Go.ChangeSpec) : _root_.Go.OpenSpec := { _root_.Go.OpenSpec.ofChange s with cond := some uptoSmall }

/-- 'quaerelaw9.Points', WHERE WHAT IT READS IS OF BULK AT MOST 1048576: true; the input reads as it did. -/
def pointsUptoRow : OpenClaim := { program := "ythemimhlhjfdaaadoor", sum := "dc527c9db1a1b00df0d324162d470b6003e7f671971fa6a210ab582d1392c2cf", func := "quaere/quaerelaw9.Points", spec := "points", named := ["quaere/sign.equals"], apart := false, laid := [("quaere/sign.equals", laid_quaere_sign_equals)], narrowed := true }
def PointsUptoSaid : Prop := pointsUptoRow.holds Tryd.pinned (OpenSpec.upto pointsSpec)

/-- 'quaerelaw9.PointClauses', WHERE WHAT IT READS IS OF BULK AT MOST 1048576: true; the input reads as it did. -/
def pointClausesUptoRow : OpenClaim := { program := "ythemimhlhjfdaaadoor", sum := "dc527c9db1a1b00df0d324162d470b6003e7f671971fa6a210ab582d1392c2cf", func := "quaere/quaerelaw9.PointClauses", spec := "pointClauses", named := ["quaere/sign.equals"], apart := false, laid := [("quaere/sign.equals", laid_quaere_sign_equals)], narrowed := true }
def PointClausesUptoSaid : Prop := pointClausesUptoRow.holds Tryd.pinned (OpenSpec.upto pointClausesSpec)

/-- 'quaerelaw9.PointRing', WHERE WHAT IT READS IS OF BULK AT MOST 1048576: true; the input reads as it did. -/
def pointRingUptoRow : OpenClaim := { program := "ythemimhlhjfdaaadoor", sum := "dc527c9db1a1b00df0d324162d470b6003e7f671971fa6a210ab582d1392c2cf", func := "quaere/quaerelaw9.PointRing", spec := "pointRing", named := ["quaere/sign.equals"], apart := false, laid := [("quaere/sign.equals", laid_quaere_sign_equals)], narrowed := true }
def PointRingUptoSaid : Prop := pointRingUptoRow.holds Tryd.pinned (OpenSpec.upto pointRingSpec)

/-- 'quaerelaw9.PointFlips', WHERE WHAT IT READS IS OF BULK AT MOST 1048576: true; the input reads as it did. -/
def pointFlipsUptoRow : OpenClaim := { program := "ythemimhlhjfdaaadoor", sum := "dc527c9db1a1b00df0d324162d470b6003e7f671971fa6a210ab582d1392c2cf", func := "quaere/quaerelaw9.PointFlips", spec := "pointFlips", named := ["quaere/sign.equals"], apart := false, laid := [("quaere/sign.equals", laid_quaere_sign_equals)], narrowed := true }
def PointFlipsUptoSaid : Prop := pointFlipsUptoRow.holds Tryd.pinned (OpenSpec.upto pointFlipsSpec)

/-- 'quaerelaw9.PointScores', WHERE WHAT IT READS IS OF BULK AT MOST 1048576: true; the input reads as it did. -/
def pointScoresUptoRow : OpenClaim := { program := "ythemimhlhjfdaaadoor", sum := "dc527c9db1a1b00df0d324162d470b6003e7f671971fa6a210ab582d1392c2cf", func := "quaere/quaerelaw9.PointScores", spec := "pointScores", named := ["quaere/sign.equals"], apart := false, laid := [("quaere/sign.equals", laid_quaere_sign_equals)], narrowed := true }
def PointScoresUptoSaid : Prop := pointScoresUptoRow.holds Tryd.pinned (OpenSpec.upto pointScoresSpec)

/-- 'quaerelaw9.PointDenied', WHERE WHAT IT READS IS OF BULK AT MOST 1048576: true; the input reads as it did. -/
def pointDeniedUptoRow : OpenClaim := { program := "ythemimhlhjfdaaadoor", sum := "dc527c9db1a1b00df0d324162d470b6003e7f671971fa6a210ab582d1392c2cf", func := "quaere/quaerelaw9.PointDenied", spec := "pointDenied", named := ["quaere/sign.equals"], apart := false, laid := [("quaere/sign.equals", laid_quaere_sign_equals)], narrowed := true }
def PointDeniedUptoSaid : Prop := pointDeniedUptoRow.holds Tryd.pinned (OpenSpec.upto pointDeniedSpec)

end Rows
end Go.Proofs.YthemimhlhjfdaaaDoor
