/-
  NARROWER THAN 'FOR EVERY INPUT', by the rows' own cells (each row's printed sentence says how): SimpLess: laid · SimpRules: laid · SimpDone: laid · SimpCuts: laid · SimpHolds: laid.
  DERIVED. THE GIVEN ROWS OF THIS SEAT. 5 by the template 'for every input the law returns true; each argument reads behind the call as it read before'; 0 by the template 'total and deterministic' (their statements: YtmldmhbdeejcnaaDoorTotals.lean).
  GIVEN WITH THE SEED: the statements are not yours to turn. If you find one false, say at which input.
  Laid BY PROGRAM, IN A SANDBOX (cutbox-rows.mjs): the forced cells as the released guide's own fill.sh prints them over the translation 6f93272b6778cc43… (all of the seat's roots in one cut). By AI agents, Wed Nov 11 2026. No macro, syntax, notation, axiom, sorry.
-/
import Derived.Test.YtmldmhbdeejcnaaDoorChecked
import GoSem.Claim
import GoSem.ClaimJoined
import GoSem.ClaimMapViews
import Derived.JoinedTies
import Derived.KernelRfl
namespace Go.Proofs.YtmldmhbdeejcnaaDoor
/- THE CELL 'sum', in the pinned program and in every row, IS THE sha256 OF THE DUMP (.gsa) THAT YtmldmhbdeejcnaaDoorProg.lean LOADS. Nothing in Lean hashes anything: it is a label: what it is worth is what the hold of that sum in a sandbox is worth. -/
noncomputable def Tryd.pinned : Pinned := { name := "ytmldmhbdeejcnaadoor", sum := "6f93272b6778cc43e1b3c75bf3598dcb328249ee4331c780b11b3a553c30edeb", checked := Tryd.checked }
namespace Rows
def none {H : Type} : Left H := { results := [], args := [] }

/- WHAT THE LISTED PACKAGE-LEVEL VARIABLES READ AS WHEN THE CALL BEGINS. Each datum BY PROGRAM (the guide's laid-datum.mjs) off the statement by which the dump's own 'gosem.cut.vars' lays the variable. In a bare row this is a premise. The card (YtmldmhbdeejcnaaDoorCards.lean) ties it to the program's text. -/
def laid_quaere_sign_equals {H : Type} : DataW H := .agg [.lit (.string [61]), .lit (.int .i64 0), .lit (.int .i64 2), .lit (.int .i64 1)]

/-- 'quaerelaw16.SimpLess': WHATEVER THE INPUT: true; the input reads as it did. -/
def simpLessSpec : ChangeSpec := { name := "simpLess", fn := fun _ => fun
  | [d1, d2, d3] => { results := [.lit (.bool true)], args := [d1, d2, d3] }
  | _ => none }
def simpLessRow : OpenClaim := { program := "ytmldmhbdeejcnaadoor", sum := "6f93272b6778cc43e1b3c75bf3598dcb328249ee4331c780b11b3a553c30edeb", func := "quaere/quaerelaw16.SimpLess", spec := "simpLess", unfollowed := true, recurses := true, named := ["quaere/sign.equals"], apart := false, laid := [("quaere/sign.equals", laid_quaere_sign_equals)] }
def SimpLessSaid : Prop := simpLessRow.holds Tryd.pinned (OpenSpec.ofChange simpLessSpec)

/-- ITS FALSE NEIGHBOUR: 'it returns false'. Refute it at one input. -/
def simpLessWrong : ChangeSpec := { name := "simpLess", fn := fun _ => fun
  | [d1, d2, d3] => { results := [.lit (.bool false)], args := [d1, d2, d3] }
  | _ => none }
def SimpLessWrongFalsely : Prop := simpLessRow.holds Tryd.pinned (OpenSpec.ofChange simpLessWrong)

/-- 'quaerelaw16.SimpRules': WHATEVER THE INPUT: true; the input reads as it did. -/
def simpRulesSpec : ChangeSpec := { name := "simpRules", fn := fun _ => fun
  | [d1, d2, d3] => { results := [.lit (.bool true)], args := [d1, d2, d3] }
  | _ => none }
def simpRulesRow : OpenClaim := { program := "ytmldmhbdeejcnaadoor", sum := "6f93272b6778cc43e1b3c75bf3598dcb328249ee4331c780b11b3a553c30edeb", func := "quaere/quaerelaw16.SimpRules", spec := "simpRules", unfollowed := true, recurses := true, named := ["quaere/sign.equals"], apart := false, laid := [("quaere/sign.equals", laid_quaere_sign_equals)] }
def SimpRulesSaid : Prop := simpRulesRow.holds Tryd.pinned (OpenSpec.ofChange simpRulesSpec)

/-- ITS FALSE NEIGHBOUR: 'it returns false'. Refute it at one input. -/
def simpRulesWrong : ChangeSpec := { name := "simpRules", fn := fun _ => fun
  | [d1, d2, d3] => { results := [.lit (.bool false)], args := [d1, d2, d3] }
  | _ => none }
def SimpRulesWrongFalsely : Prop := simpRulesRow.holds Tryd.pinned (OpenSpec.ofChange simpRulesWrong)

/-- 'quaerelaw16.SimpDone': WHATEVER THE INPUT: true; the input reads as it did. -/
def simpDoneSpec : ChangeSpec := { name := "simpDone", fn := fun _ => fun
  | [d1, d2, d3] => { results := [.lit (.bool true)], args := [d1, d2, d3] }
  | _ => none }
def simpDoneRow : OpenClaim := { program := "ytmldmhbdeejcnaadoor", sum := "6f93272b6778cc43e1b3c75bf3598dcb328249ee4331c780b11b3a553c30edeb", func := "quaere/quaerelaw16.SimpDone", spec := "simpDone", unfollowed := true, recurses := true, named := ["quaere/sign.equals"], apart := false, laid := [("quaere/sign.equals", laid_quaere_sign_equals)] }
def SimpDoneSaid : Prop := simpDoneRow.holds Tryd.pinned (OpenSpec.ofChange simpDoneSpec)

/-- ITS FALSE NEIGHBOUR: 'it returns false'. Refute it at one input. -/
def simpDoneWrong : ChangeSpec := { name := "simpDone", fn := fun _ => fun
  | [d1, d2, d3] => { results := [.lit (.bool false)], args := [d1, d2, d3] }
  | _ => none }
def SimpDoneWrongFalsely : Prop := simpDoneRow.holds Tryd.pinned (OpenSpec.ofChange simpDoneWrong)

/-- 'quaerelaw16.SimpCuts': WHATEVER THE INPUT: true; the input reads as it did. -/
def simpCutsSpec : ChangeSpec := { name := "simpCuts", fn := fun _ => fun
  | [d1, d2, d3] => { results := [.lit (.bool true)], args := [d1, d2, d3] }
  | _ => none }
def simpCutsRow : OpenClaim := { program := "ytmldmhbdeejcnaadoor", sum := "6f93272b6778cc43e1b3c75bf3598dcb328249ee4331c780b11b3a553c30edeb", func := "quaere/quaerelaw16.SimpCuts", spec := "simpCuts", unfollowed := true, recurses := true, named := ["quaere/sign.equals"], apart := false, laid := [("quaere/sign.equals", laid_quaere_sign_equals)] }
def SimpCutsSaid : Prop := simpCutsRow.holds Tryd.pinned (OpenSpec.ofChange simpCutsSpec)

/-- ITS FALSE NEIGHBOUR: 'it returns false'. Refute it at one input. -/
def simpCutsWrong : ChangeSpec := { name := "simpCuts", fn := fun _ => fun
  | [d1, d2, d3] => { results := [.lit (.bool false)], args := [d1, d2, d3] }
  | _ => none }
def SimpCutsWrongFalsely : Prop := simpCutsRow.holds Tryd.pinned (OpenSpec.ofChange simpCutsWrong)

/-- 'quaerelaw16.SimpHolds': WHATEVER THE INPUT: true; the input reads as it did. -/
def simpHoldsSpec : ChangeSpec := { name := "simpHolds", fn := fun _ => fun
  | [d1, d2, d3, d4, d5] => { results := [.lit (.bool true)], args := [d1, d2, d3, d4, d5] }
  | _ => none }
def simpHoldsRow : OpenClaim := { program := "ytmldmhbdeejcnaadoor", sum := "6f93272b6778cc43e1b3c75bf3598dcb328249ee4331c780b11b3a553c30edeb", func := "quaere/quaerelaw16.SimpHolds", spec := "simpHolds", inPlace := ["slices.overlaps[int]"], unfollowed := true, recurses := true, named := ["quaere/sign.equals"], apart := false, laid := [("quaere/sign.equals", laid_quaere_sign_equals)] }
def SimpHoldsSaid : Prop := simpHoldsRow.holds Tryd.pinned (OpenSpec.ofChange simpHoldsSpec)

/-- ITS FALSE NEIGHBOUR: 'it returns false'. Refute it at one input. -/
def simpHoldsWrong : ChangeSpec := { name := "simpHolds", fn := fun _ => fun
  | [d1, d2, d3, d4, d5] => { results := [.lit (.bool false)], args := [d1, d2, d3, d4, d5] }
  | _ => none }
def SimpHoldsWrongFalsely : Prop := simpHoldsRow.holds Tryd.pinned (OpenSpec.ofChange simpHoldsWrong)

/- THE SECOND FORM. 'bulk': how many values and letters a reading holds, each counted each time it is reached (what is shared counts as often as it is met; a slice's spare places count too). A statement '..UptoSaid' is the law's where the arguments, and the package variables that the reading takes, are together of bulk at most 1048576: NARROWER than '..Said'. Prove '..Said' where nothing that the law and all that it calls make is longer than what came in: it says more and counts as full. Else prove '..UptoSaid'. A law counts once. -/
mutual
def uptoBulk {H : Type} : DataW H → Nat
  | .lit (.string bytes) => bytes.length + 1
  | .lit _ => 1
  | .nil => 1
  | .ptr d => uptoBulk d + 1
  | .slice elems spare => uptoBulkAll elems + uptoBulkAll spare + 1
  | .agg parts => uptoBulkAll parts + 1
  | .iface _ d => uptoBulk d + 1
  | .map entries => uptoBulkEntries entries + 1
  | .held _ => 1
def uptoBulkAll {H : Type} : List (DataW H) → Nat
  | [] => 0
  | d :: r => uptoBulk d + uptoBulkAll r
def uptoBulkEntries {H : Type} : List (Lit × DataW H) → Nat
  | [] => 0
  | x :: r => uptoBulkEntry x + uptoBulkEntries r
def uptoBulkEntry {H : Type} : Lit × DataW H → Nat
  | (.string bytes, d) => bytes.length + uptoBulk d + 1
  | (_, d) => uptoBulk d + 1
 end
def uptoSmall : (H : Type) → List (DataW H) → Bool := fun _ ds => decide (uptoBulkAll ds ≤ 1048576)
def OpenSpec.upto (s : _root_.Go.ChangeSpec) : _root_.Go.OpenSpec := { _root_.Go.OpenSpec.ofChange s with cond := some uptoSmall }

/-- 'quaerelaw16.SimpLess', WHERE WHAT IT READS IS OF BULK AT MOST 1048576: true; the input reads as it did. -/
def simpLessUptoRow : OpenClaim := { program := "ytmldmhbdeejcnaadoor", sum := "6f93272b6778cc43e1b3c75bf3598dcb328249ee4331c780b11b3a553c30edeb", func := "quaere/quaerelaw16.SimpLess", spec := "simpLess", unfollowed := true, recurses := true, named := ["quaere/sign.equals"], apart := false, laid := [("quaere/sign.equals", laid_quaere_sign_equals)], narrowed := true }
def SimpLessUptoSaid : Prop := simpLessUptoRow.holds Tryd.pinned (OpenSpec.upto simpLessSpec)

/-- 'quaerelaw16.SimpRules', WHERE WHAT IT READS IS OF BULK AT MOST 1048576: true; the input reads as it did. -/
def simpRulesUptoRow : OpenClaim := { program := "ytmldmhbdeejcnaadoor", sum := "6f93272b6778cc43e1b3c75bf3598dcb328249ee4331c780b11b3a553c30edeb", func := "quaere/quaerelaw16.SimpRules", spec := "simpRules", unfollowed := true, recurses := true, named := ["quaere/sign.equals"], apart := false, laid := [("quaere/sign.equals", laid_quaere_sign_equals)], narrowed := true }
def SimpRulesUptoSaid : Prop := simpRulesUptoRow.holds Tryd.pinned (OpenSpec.upto simpRulesSpec)

/-- 'quaerelaw16.SimpDone', WHERE WHAT IT READS IS OF BULK AT MOST 1048576: true; the input reads as it did. -/
def simpDoneUptoRow : OpenClaim := { program := "ytmldmhbdeejcnaadoor", sum := "6f93272b6778cc43e1b3c75bf3598dcb328249ee4331c780b11b3a553c30edeb", func := "quaere/quaerelaw16.SimpDone", spec := "simpDone", unfollowed := true, recurses := true, named := ["quaere/sign.equals"], apart := false, laid := [("quaere/sign.equals", laid_quaere_sign_equals)], narrowed := true }
def SimpDoneUptoSaid : Prop := simpDoneUptoRow.holds Tryd.pinned (OpenSpec.upto simpDoneSpec)

/-- 'quaerelaw16.SimpCuts', WHERE WHAT IT READS IS OF BULK AT MOST 1048576: true; the input reads as it did. -/
def simpCutsUptoRow : OpenClaim := { program := "ytmldmhbdeejcnaadoor", sum := "6f93272b6778cc43e1b3c75bf3598dcb328249ee4331c780b11b3a553c30edeb", func := "quaere/quaerelaw16.SimpCuts", spec := "simpCuts", unfollowed := true, recurses := true, named := ["quaere/sign.equals"], apart := false, laid := [("quaere/sign.equals", laid_quaere_sign_equals)], narrowed := true }
def SimpCutsUptoSaid : Prop := simpCutsUptoRow.holds Tryd.pinned (OpenSpec.upto simpCutsSpec)

/-- 'quaerelaw16.SimpHolds', WHERE WHAT IT READS IS OF BULK AT MOST 1048576: true; the input reads as it did. -/
def simpHoldsUptoRow : OpenClaim := { program := "ytmldmhbdeejcnaadoor", sum := "6f93272b6778cc43e1b3c75bf3598dcb328249ee4331c780b11b3a553c30edeb", func := "quaere/quaerelaw16.SimpHolds", spec := "simpHolds", inPlace := ["slices.overlaps[int]"], unfollowed := true, recurses := true, named := ["quaere/sign.equals"], apart := false, laid := [("quaere/sign.equals", laid_quaere_sign_equals)], narrowed := true }
def SimpHoldsUptoSaid : Prop := simpHoldsUptoRow.holds Tryd.pinned (OpenSpec.upto simpHoldsSpec)

end Rows
end Go.Proofs.YtmldmhbdeejcnaaDoor
