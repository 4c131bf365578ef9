/-
  NARROWER THAN 'FOR EVERY INPUT', by the rows' own cells (each row's printed sentence says how): Facts: laid · FactTurns: laid · FactSet: laid · FactBack: laid · FactFinds: laid · FactSpoilt: laid.
  DERIVED. THE GIVEN ROWS OF THIS SEAT. 6 by the template 'for every input the law returns true; each argument reads behind the call as it read before'; 0 by the template 'total and deterministic' (their statements: YtckhlalpnginjaaDoorTotals.lean).
  GIVEN WITH THE SEED: the statements are not yours to turn. If you find one false, say at which input.
  Laid BY PROGRAM, IN A SANDBOX (cutbox-rows.mjs): the forced cells as the released guide's own fill.sh prints them over the translation d48314262d5cb8d8… (all of the seat's roots in one cut). By AI agents, Wed Nov 11 2026. No macro, syntax, notation, axiom, sorry.
-/
import Derived.Test.YtckhlalpnginjaaDoorChecked
import GoSem.Claim
import GoSem.ClaimJoined
import GoSem.ClaimMapViews
import Derived.JoinedTies
import Derived.KernelRfl
namespace Go.Proofs.YtckhlalpnginjaaDoor
/- THE CELL 'sum', in the pinned program and in every row, IS THE sha256 OF THE DUMP (.gsa) THAT YtckhlalpnginjaaDoorProg.lean LOADS. Nothing in Lean hashes anything: it is a label: what it is worth is what the hold of that sum in a sandbox is worth. -/
noncomputable def Tryd.pinned : Pinned := { name := "ytckhlalpnginjaadoor", sum := "d48314262d5cb8d87c592085b0eea802ac767112ff2e896668ac89445f37d475", checked := Tryd.checked }
namespace Rows
def none {H : Type} : Left H := { results := [], args := [] }

/- WHAT THE LISTED PACKAGE-LEVEL VARIABLES READ AS WHEN THE CALL BEGINS. Each datum BY PROGRAM (the guide's laid-datum.mjs) off the statement by which the dump's own 'gosem.cut.vars' lays the variable. In a bare row this is a premise. The card (YtckhlalpnginjaaDoorCards.lean) ties it to the program's text. -/
def laid_quaere_sign_equals {H : Type} : DataW H := .agg [.lit (.string [61]), .lit (.int .i64 0), .lit (.int .i64 2), .lit (.int .i64 1)]

/-- 'quaerelaw11.Facts': WHATEVER THE INPUT: true; the input reads as it did. -/
def factsSpec : ChangeSpec := { name := "facts", fn := fun _ => fun
  | [d1, d2, d3] => { results := [.lit (.bool true)], args := [d1, d2, d3] }
  | _ => none }
def factsRow : OpenClaim := { program := "ytckhlalpnginjaadoor", sum := "d48314262d5cb8d87c592085b0eea802ac767112ff2e896668ac89445f37d475", func := "quaere/quaerelaw11.Facts", spec := "facts", named := ["quaere/sign.equals"], apart := false, laid := [("quaere/sign.equals", laid_quaere_sign_equals)] }
def FactsSaid : Prop := factsRow.holds Tryd.pinned (OpenSpec.ofChange factsSpec)

/-- ITS FALSE NEIGHBOUR: 'it returns false'. Refute it at one input. -/
def factsWrong : ChangeSpec := { name := "facts", fn := fun _ => fun
  | [d1, d2, d3] => { results := [.lit (.bool false)], args := [d1, d2, d3] }
  | _ => none }
def FactsWrongFalsely : Prop := factsRow.holds Tryd.pinned (OpenSpec.ofChange factsWrong)

/-- 'quaerelaw11.FactTurns': WHATEVER THE INPUT: true; the input reads as it did. -/
def factTurnsSpec : ChangeSpec := { name := "factTurns", fn := fun _ => fun
  | [d1, d2, d3] => { results := [.lit (.bool true)], args := [d1, d2, d3] }
  | _ => none }
def factTurnsRow : OpenClaim := { program := "ytckhlalpnginjaadoor", sum := "d48314262d5cb8d87c592085b0eea802ac767112ff2e896668ac89445f37d475", func := "quaere/quaerelaw11.FactTurns", spec := "factTurns", named := ["quaere/sign.equals"], apart := false, laid := [("quaere/sign.equals", laid_quaere_sign_equals)] }
def FactTurnsSaid : Prop := factTurnsRow.holds Tryd.pinned (OpenSpec.ofChange factTurnsSpec)

/-- ITS FALSE NEIGHBOUR: 'it returns false'. Refute it at one input. -/
def factTurnsWrong : ChangeSpec := { name := "factTurns", fn := fun _ => fun
  | [d1, d2, d3] => { results := [.lit (.bool false)], args := [d1, d2, d3] }
  | _ => none }
def FactTurnsWrongFalsely : Prop := factTurnsRow.holds Tryd.pinned (OpenSpec.ofChange factTurnsWrong)

/-- 'quaerelaw11.FactSet': WHATEVER THE INPUT: true; the input reads as it did. -/
def factSetSpec : ChangeSpec := { name := "factSet", fn := fun _ => fun
  | [d1, d2, d3] => { results := [.lit (.bool true)], args := [d1, d2, d3] }
  | _ => none }
def factSetRow : OpenClaim := { program := "ytckhlalpnginjaadoor", sum := "d48314262d5cb8d87c592085b0eea802ac767112ff2e896668ac89445f37d475", func := "quaere/quaerelaw11.FactSet", spec := "factSet", named := ["quaere/sign.equals"], apart := false, laid := [("quaere/sign.equals", laid_quaere_sign_equals)] }
def FactSetSaid : Prop := factSetRow.holds Tryd.pinned (OpenSpec.ofChange factSetSpec)

/-- ITS FALSE NEIGHBOUR: 'it returns false'. Refute it at one input. -/
def factSetWrong : ChangeSpec := { name := "factSet", fn := fun _ => fun
  | [d1, d2, d3] => { results := [.lit (.bool false)], args := [d1, d2, d3] }
  | _ => none }
def FactSetWrongFalsely : Prop := factSetRow.holds Tryd.pinned (OpenSpec.ofChange factSetWrong)

/-- 'quaerelaw11.FactBack': WHATEVER THE INPUT: true; the input reads as it did. -/
def factBackSpec : ChangeSpec := { name := "factBack", fn := fun _ => fun
  | [d1, d2, d3] => { results := [.lit (.bool true)], args := [d1, d2, d3] }
  | _ => none }
def factBackRow : OpenClaim := { program := "ytckhlalpnginjaadoor", sum := "d48314262d5cb8d87c592085b0eea802ac767112ff2e896668ac89445f37d475", func := "quaere/quaerelaw11.FactBack", spec := "factBack", named := ["quaere/sign.equals"], apart := false, laid := [("quaere/sign.equals", laid_quaere_sign_equals)] }
def FactBackSaid : Prop := factBackRow.holds Tryd.pinned (OpenSpec.ofChange factBackSpec)

/-- ITS FALSE NEIGHBOUR: 'it returns false'. Refute it at one input. -/
def factBackWrong : ChangeSpec := { name := "factBack", fn := fun _ => fun
  | [d1, d2, d3] => { results := [.lit (.bool false)], args := [d1, d2, d3] }
  | _ => none }
def FactBackWrongFalsely : Prop := factBackRow.holds Tryd.pinned (OpenSpec.ofChange factBackWrong)

/-- 'quaerelaw11.FactFinds': WHATEVER THE INPUT: true; the input reads as it did. -/
def factFindsSpec : ChangeSpec := { name := "factFinds", fn := fun _ => fun
  | [d1, d2, d3] => { results := [.lit (.bool true)], args := [d1, d2, d3] }
  | _ => none }
def factFindsRow : OpenClaim := { program := "ytckhlalpnginjaadoor", sum := "d48314262d5cb8d87c592085b0eea802ac767112ff2e896668ac89445f37d475", func := "quaere/quaerelaw11.FactFinds", spec := "factFinds", named := ["quaere/sign.equals"], apart := false, laid := [("quaere/sign.equals", laid_quaere_sign_equals)] }
def FactFindsSaid : Prop := factFindsRow.holds Tryd.pinned (OpenSpec.ofChange factFindsSpec)

/-- ITS FALSE NEIGHBOUR: 'it returns false'. Refute it at one input. -/
def factFindsWrong : ChangeSpec := { name := "factFinds", fn := fun _ => fun
  | [d1, d2, d3] => { results := [.lit (.bool false)], args := [d1, d2, d3] }
  | _ => none }
def FactFindsWrongFalsely : Prop := factFindsRow.holds Tryd.pinned (OpenSpec.ofChange factFindsWrong)

/-- 'quaerelaw11.FactSpoilt': WHATEVER THE INPUT: true; the input reads as it did. -/
def factSpoiltSpec : ChangeSpec := { name := "factSpoilt", fn := fun _ => fun
  | [d1, d2, d3, d4] => { results := [.lit (.bool true)], args := [d1, d2, d3, d4] }
  | _ => none }
def factSpoiltRow : OpenClaim := { program := "ytckhlalpnginjaadoor", sum := "d48314262d5cb8d87c592085b0eea802ac767112ff2e896668ac89445f37d475", func := "quaere/quaerelaw11.FactSpoilt", spec := "factSpoilt", named := ["quaere/sign.equals"], apart := false, laid := [("quaere/sign.equals", laid_quaere_sign_equals)] }
def FactSpoiltSaid : Prop := factSpoiltRow.holds Tryd.pinned (OpenSpec.ofChange factSpoiltSpec)

/-- ITS FALSE NEIGHBOUR: 'it returns false'. Refute it at one input. -/
def factSpoiltWrong : ChangeSpec := { name := "factSpoilt", fn := fun _ => fun
  | [d1, d2, d3, d4] => { results := [.lit (.bool false)], args := [d1, d2, d3, d4] }
  | _ => none }
def FactSpoiltWrongFalsely : Prop := factSpoiltRow.holds Tryd.pinned (OpenSpec.ofChange factSpoiltWrong)

/- THE SECOND FORM. 'bulk': how many values and letters a reading holds, each counted each time it is reached (what is shared counts as often as it is met; a slice's spare places count too). A statement '..UptoSaid' is the law's where the arguments, and the package variables that the reading takes, are together of bulk at most 1048576: NARROWER than '..Said'. Prove '..Said' where nothing that the law and all that it calls make is longer than what came in: it says more and counts as full. Else prove '..UptoSaid'. A law counts once. -/
mutual
def uptoBulk {H : Type} : DataW H → Nat
  | .lit (.string bytes) => bytes.length + 1
  | .lit _ => 1
  | .nil => 1
  | .ptr d => uptoBulk d + 1
  | .slice elems spare => uptoBulkAll elems + uptoBulkAll spare + 1
  | .agg parts => uptoBulkAll parts + 1
  | .iface _ d => uptoBulk d + 1
  | .map entries => uptoBulkEntries entries + 1
  | .held _ => 1
def uptoBulkAll {H : Type} : List (DataW H) → Nat
  | [] => 0
  | d :: r => uptoBulk d + uptoBulkAll r
def uptoBulkEntries {H : Type} : List (Lit × DataW H) → Nat
  | [] => 0
  | x :: r => uptoBulkEntry x + uptoBulkEntries r
def uptoBulkEntry {H : Type} : Lit × DataW H → Nat
  | (.string bytes, d) => bytes.length + uptoBulk d + 1
  | (_, d) => uptoBulk d + 1
 end
def uptoSmall : (H : Type) → List (DataW H) → Bool := fun _ ds => decide (uptoBulkAll ds ≤ 1048576)
def OpenSpec.upto (s : _root_.Go.ChangeSpec) : _root_.Go.OpenSpec := { _root_.Go.OpenSpec.ofChange s with cond := some uptoSmall }

/-- 'quaerelaw11.Facts', WHERE WHAT IT READS IS OF BULK AT MOST 1048576: true; the input reads as it did. -/
def factsUptoRow : OpenClaim := { program := "ytckhlalpnginjaadoor", sum := "d48314262d5cb8d87c592085b0eea802ac767112ff2e896668ac89445f37d475", func := "quaere/quaerelaw11.Facts", spec := "facts", named := ["quaere/sign.equals"], apart := false, laid := [("quaere/sign.equals", laid_quaere_sign_equals)], narrowed := true }
def FactsUptoSaid : Prop := factsUptoRow.holds Tryd.pinned (OpenSpec.upto factsSpec)

/-- 'quaerelaw11.FactTurns', WHERE WHAT IT READS IS OF BULK AT MOST 1048576: true; the input reads as it did. -/
def factTurnsUptoRow : OpenClaim := { program := "ytckhlalpnginjaadoor", sum := "d48314262d5cb8d87c592085b0eea802ac767112ff2e896668ac89445f37d475", func := "quaere/quaerelaw11.FactTurns", spec := "factTurns", named := ["quaere/sign.equals"], apart := false, laid := [("quaere/sign.equals", laid_quaere_sign_equals)], narrowed := true }
def FactTurnsUptoSaid : Prop := factTurnsUptoRow.holds Tryd.pinned (OpenSpec.upto factTurnsSpec)

/-- 'quaerelaw11.FactSet', WHERE WHAT IT READS IS OF BULK AT MOST 1048576: true; the input reads as it did. -/
def factSetUptoRow : OpenClaim := { program := "ytckhlalpnginjaadoor", sum := "d48314262d5cb8d87c592085b0eea802ac767112ff2e896668ac89445f37d475", func := "quaere/quaerelaw11.FactSet", spec := "factSet", named := ["quaere/sign.equals"], apart := false, laid := [("quaere/sign.equals", laid_quaere_sign_equals)], narrowed := true }
def FactSetUptoSaid : Prop := factSetUptoRow.holds Tryd.pinned (OpenSpec.upto factSetSpec)

/-- 'quaerelaw11.FactBack', WHERE WHAT IT READS IS OF BULK AT MOST 1048576: true; the input reads as it did. -/
def factBackUptoRow : OpenClaim := { program := "ytckhlalpnginjaadoor", sum := "d48314262d5cb8d87c592085b0eea802ac767112ff2e896668ac89445f37d475", func := "quaere/quaerelaw11.FactBack", spec := "factBack", named := ["quaere/sign.equals"], apart := false, laid := [("quaere/sign.equals", laid_quaere_sign_equals)], narrowed := true }
def FactBackUptoSaid : Prop := factBackUptoRow.holds Tryd.pinned (OpenSpec.upto factBackSpec)

/-- 'quaerelaw11.FactFinds', WHERE WHAT IT READS IS OF BULK AT MOST 1048576: true; the input reads as it did. -/
def factFindsUptoRow : OpenClaim := { program := "ytckhlalpnginjaadoor", sum := "d48314262d5cb8d87c592085b0eea802ac767112ff2e896668ac89445f37d475", func := "quaere/quaerelaw11.FactFinds", spec := "factFinds", named := ["quaere/sign.equals"], apart := false, laid := [("quaere/sign.equals", laid_quaere_sign_equals)], narrowed := true }
def FactFindsUptoSaid : Prop := factFindsUptoRow.holds Tryd.pinned (OpenSpec.upto factFindsSpec)

/-- 'quaerelaw11.FactSpoilt', WHERE WHAT IT READS IS OF BULK AT MOST 1048576: true; the input reads as it did. -/
def factSpoiltUptoRow : OpenClaim := { program := "ytckhlalpnginjaadoor", sum := "d48314262d5cb8d87c592085b0eea802ac767112ff2e896668ac89445f37d475", func := "quaere/quaerelaw11.FactSpoilt", spec := "factSpoilt", named := ["quaere/sign.equals"], apart := false, laid := [("quaere/sign.equals", laid_quaere_sign_equals)], narrowed := true }
def FactSpoiltUptoSaid : Prop := factSpoiltUptoRow.holds Tryd.pinned (OpenSpec.upto factSpoiltSpec)

end Rows
end Go.Proofs.YtckhlalpnginjaaDoor
