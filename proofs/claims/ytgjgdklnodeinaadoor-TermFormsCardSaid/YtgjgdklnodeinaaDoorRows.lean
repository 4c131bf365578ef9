/-
  NARROWER THAN 'FOR EVERY INPUT', by the rows' own cells (each row's printed sentence says how): TermRows: laid · TermTells: laid · TermJoins: laid · TermNests: laid · TermCut: laid · TermForms: laid.
  DERIVED. THE GIVEN ROWS OF THIS SEAT. 6 by the template 'for every input the law returns true; each argument reads behind the call as it read before'; 0 by the template 'total and deterministic' (their statements: YtgjgdklnodeinaaDoorTotals.lean).
  GIVEN WITH THE SEED: the statements are not yours to turn. If you find one false, say at which input.
  Laid BY PROGRAM, IN A SANDBOX (cutbox-rows.mjs): the forced cells as the released guide's own fill.sh prints them over the translation 4f9066cb9cce8989… (all of the seat's roots in one cut). By AI agents, Wed Nov 11 2026. No macro, syntax, notation, axiom, sorry.
-/
import Derived.Test.YtgjgdklnodeinaaDoorChecked
import GoSem.Claim
import GoSem.ClaimJoined
import GoSem.ClaimMapViews
import Derived.JoinedTies
import Derived.KernelRfl
namespace Go.Proofs.YtgjgdklnodeinaaDoor
/- THE CELL 'sum', in the pinned program and in every row, IS THE sha256 OF THE DUMP (.gsa) THAT YtgjgdklnodeinaaDoorProg.lean LOADS. Nothing in Lean hashes anything: it is a label: what it is worth is what the hold of that sum in a sandbox is worth. -/
noncomputable def Tryd.pinned : Pinned := { name := "ytgjgdklnodeinaadoor", sum := "4f9066cb9cce89892be9571edefc355b4843bf6183868ac556f033b778cc6b95", checked := Tryd.checked }
namespace Rows
def none {H : Type} : Left H := { results := [], args := [] }

/- WHAT THE LISTED PACKAGE-LEVEL VARIABLES READ AS WHEN THE CALL BEGINS. Each datum BY PROGRAM (the guide's laid-datum.mjs) off the statement by which the dump's own 'gosem.cut.vars' lays the variable. In a bare row this is a premise. The card (YtgjgdklnodeinaaDoorCards.lean) ties it to the program's text. -/
def laid_quaere_sign_equals {H : Type} : DataW H := .agg [.lit (.string [61]), .lit (.int .i64 0), .lit (.int .i64 2), .lit (.int .i64 1)]

/-- 'quaerelaw2.TermRows': WHATEVER THE INPUT: true; the input reads as it did. -/
def termRowsSpec : ChangeSpec := { name := "termRows", fn := fun _ => fun
  | [d1, d2, d3] => { results := [.lit (.bool true)], args := [d1, d2, d3] }
  | _ => none }
def termRowsRow : OpenClaim := { program := "ytgjgdklnodeinaadoor", sum := "4f9066cb9cce89892be9571edefc355b4843bf6183868ac556f033b778cc6b95", func := "quaere/quaerelaw2.TermRows", spec := "termRows", inPlace := ["slices.overlaps[int]"], named := ["quaere/sign.equals"], apart := false, laid := [("quaere/sign.equals", laid_quaere_sign_equals)] }
def TermRowsSaid : Prop := termRowsRow.holds Tryd.pinned (OpenSpec.ofChange termRowsSpec)

/-- ITS FALSE NEIGHBOUR: 'it returns false'. Refute it at one input. -/
def termRowsWrong : ChangeSpec := { name := "termRows", fn := fun _ => fun
  | [d1, d2, d3] => { results := [.lit (.bool false)], args := [d1, d2, d3] }
  | _ => none }
def TermRowsWrongFalsely : Prop := termRowsRow.holds Tryd.pinned (OpenSpec.ofChange termRowsWrong)

/-- 'quaerelaw2.TermTells': WHATEVER THE INPUT: true; the input reads as it did. -/
def termTellsSpec : ChangeSpec := { name := "termTells", fn := fun _ => fun
  | [d1, d2] => { results := [.lit (.bool true)], args := [d1, d2] }
  | _ => none }
def termTellsRow : OpenClaim := { program := "ytgjgdklnodeinaadoor", sum := "4f9066cb9cce89892be9571edefc355b4843bf6183868ac556f033b778cc6b95", func := "quaere/quaerelaw2.TermTells", spec := "termTells", inPlace := ["slices.overlaps[int]"], recurses := true, named := ["quaere/sign.equals"], apart := false, laid := [("quaere/sign.equals", laid_quaere_sign_equals)] }
def TermTellsSaid : Prop := termTellsRow.holds Tryd.pinned (OpenSpec.ofChange termTellsSpec)

/-- ITS FALSE NEIGHBOUR: 'it returns false'. Refute it at one input. -/
def termTellsWrong : ChangeSpec := { name := "termTells", fn := fun _ => fun
  | [d1, d2] => { results := [.lit (.bool false)], args := [d1, d2] }
  | _ => none }
def TermTellsWrongFalsely : Prop := termTellsRow.holds Tryd.pinned (OpenSpec.ofChange termTellsWrong)

/-- 'quaerelaw2.TermJoins': WHATEVER THE INPUT: true; the input reads as it did. -/
def termJoinsSpec : ChangeSpec := { name := "termJoins", fn := fun _ => fun
  | [d1, d2, d3] => { results := [.lit (.bool true)], args := [d1, d2, d3] }
  | _ => none }
def termJoinsRow : OpenClaim := { program := "ytgjgdklnodeinaadoor", sum := "4f9066cb9cce89892be9571edefc355b4843bf6183868ac556f033b778cc6b95", func := "quaere/quaerelaw2.TermJoins", spec := "termJoins", inPlace := ["slices.overlaps[int]"], named := ["quaere/sign.equals"], apart := false, laid := [("quaere/sign.equals", laid_quaere_sign_equals)] }
def TermJoinsSaid : Prop := termJoinsRow.holds Tryd.pinned (OpenSpec.ofChange termJoinsSpec)

/-- ITS FALSE NEIGHBOUR: 'it returns false'. Refute it at one input. -/
def termJoinsWrong : ChangeSpec := { name := "termJoins", fn := fun _ => fun
  | [d1, d2, d3] => { results := [.lit (.bool false)], args := [d1, d2, d3] }
  | _ => none }
def TermJoinsWrongFalsely : Prop := termJoinsRow.holds Tryd.pinned (OpenSpec.ofChange termJoinsWrong)

/-- 'quaerelaw2.TermNests': WHATEVER THE INPUT: true; the input reads as it did. -/
def termNestsSpec : ChangeSpec := { name := "termNests", fn := fun _ => fun
  | [d1, d2] => { results := [.lit (.bool true)], args := [d1, d2] }
  | _ => none }
def termNestsRow : OpenClaim := { program := "ytgjgdklnodeinaadoor", sum := "4f9066cb9cce89892be9571edefc355b4843bf6183868ac556f033b778cc6b95", func := "quaere/quaerelaw2.TermNests", spec := "termNests", inPlace := ["slices.overlaps[int]"], named := ["quaere/sign.equals"], apart := false, laid := [("quaere/sign.equals", laid_quaere_sign_equals)] }
def TermNestsSaid : Prop := termNestsRow.holds Tryd.pinned (OpenSpec.ofChange termNestsSpec)

/-- ITS FALSE NEIGHBOUR: 'it returns false'. Refute it at one input. -/
def termNestsWrong : ChangeSpec := { name := "termNests", fn := fun _ => fun
  | [d1, d2] => { results := [.lit (.bool false)], args := [d1, d2] }
  | _ => none }
def TermNestsWrongFalsely : Prop := termNestsRow.holds Tryd.pinned (OpenSpec.ofChange termNestsWrong)

/-- 'quaerelaw2.TermCut': WHATEVER THE INPUT: true; the input reads as it did. -/
def termCutSpec : ChangeSpec := { name := "termCut", fn := fun _ => fun
  | [d1, d2] => { results := [.lit (.bool true)], args := [d1, d2] }
  | _ => none }
def termCutRow : OpenClaim := { program := "ytgjgdklnodeinaadoor", sum := "4f9066cb9cce89892be9571edefc355b4843bf6183868ac556f033b778cc6b95", func := "quaere/quaerelaw2.TermCut", spec := "termCut", inPlace := ["slices.overlaps[int]"], named := ["quaere/sign.equals"], apart := false, laid := [("quaere/sign.equals", laid_quaere_sign_equals)] }
def TermCutSaid : Prop := termCutRow.holds Tryd.pinned (OpenSpec.ofChange termCutSpec)

/-- ITS FALSE NEIGHBOUR: 'it returns false'. Refute it at one input. -/
def termCutWrong : ChangeSpec := { name := "termCut", fn := fun _ => fun
  | [d1, d2] => { results := [.lit (.bool false)], args := [d1, d2] }
  | _ => none }
def TermCutWrongFalsely : Prop := termCutRow.holds Tryd.pinned (OpenSpec.ofChange termCutWrong)

/-- 'quaerelaw2.TermForms': WHATEVER THE INPUT: true; the input reads as it did. -/
def termFormsSpec : ChangeSpec := { name := "termForms", fn := fun _ => fun
  | [d1, d2] => { results := [.lit (.bool true)], args := [d1, d2] }
  | _ => none }
def termFormsRow : OpenClaim := { program := "ytgjgdklnodeinaadoor", sum := "4f9066cb9cce89892be9571edefc355b4843bf6183868ac556f033b778cc6b95", func := "quaere/quaerelaw2.TermForms", spec := "termForms", inPlace := ["slices.overlaps[int]"], named := ["quaere/sign.equals"], apart := false, laid := [("quaere/sign.equals", laid_quaere_sign_equals)] }
def TermFormsSaid : Prop := termFormsRow.holds Tryd.pinned (OpenSpec.ofChange termFormsSpec)

/-- ITS FALSE NEIGHBOUR: 'it returns false'. Refute it at one input. -/
def termFormsWrong : ChangeSpec := { name := "termForms", fn := fun _ => fun
  | [d1, d2] => { results := [.lit (.bool false)], args := [d1, d2] }
  | _ => none }
def TermFormsWrongFalsely : Prop := termFormsRow.holds Tryd.pinned (OpenSpec.ofChange termFormsWrong)

/- THE SECOND FORM. 'bulk': how many values and letters a reading holds, each counted each time it is reached (what is shared counts as often as it is met; a slice's spare places count too). A statement '..UptoSaid' is the law's where the arguments, and the package variables that the reading takes, are together of bulk at most 1048576: NARROWER than '..Said'. Prove '..Said' where nothing that the law and all that it calls make is longer than what came in: it says more and counts as full. Else prove '..UptoSaid'. A law counts once. -/
mutual
def uptoBulk {H : Type} : DataW H → Nat
  | .lit (.string bytes) => bytes.length + 1
  | .lit _ => 1
  | .nil => 1
  | .ptr d => uptoBulk d + 1
  | .slice elems spare => uptoBulkAll elems + uptoBulkAll spare + 1
  | .agg parts => uptoBulkAll parts + 1
  | .iface _ d => uptoBulk d + 1
  | .map entries => uptoBulkEntries entries + 1
  | .held _ => 1
def uptoBulkAll {H : Type} : List (DataW H) → Nat
  | [] => 0
  | d :: r => uptoBulk d + uptoBulkAll r
def uptoBulkEntries {H : Type} : List (Lit × DataW H) → Nat
  | [] => 0
  | x :: r => uptoBulkEntry x + uptoBulkEntries r
def uptoBulkEntry {H : Type} : Lit × DataW H → Nat
  | (.string bytes, d) => bytes.length + uptoBulk d + 1
  | (_, d) => uptoBulk d + 1
 end
def uptoSmall : (H : Type) → List (DataW H) → Bool := fun _ ds => decide (uptoBulkAll ds ≤ 1048576)
def OpenSpec.upto (s : _root_.Go.ChangeSpec) : _root_.Go.OpenSpec := { _root_.Go.OpenSpec.ofChange s with cond := some uptoSmall }

/-- 'quaerelaw2.TermRows', WHERE WHAT IT READS IS OF BULK AT MOST 1048576: true; the input reads as it did. -/
def termRowsUptoRow : OpenClaim := { program := "ytgjgdklnodeinaadoor", sum := "4f9066cb9cce89892be9571edefc355b4843bf6183868ac556f033b778cc6b95", func := "quaere/quaerelaw2.TermRows", spec := "termRows", inPlace := ["slices.overlaps[int]"], named := ["quaere/sign.equals"], apart := false, laid := [("quaere/sign.equals", laid_quaere_sign_equals)], narrowed := true }
def TermRowsUptoSaid : Prop := termRowsUptoRow.holds Tryd.pinned (OpenSpec.upto termRowsSpec)

/-- 'quaerelaw2.TermTells', WHERE WHAT IT READS IS OF BULK AT MOST 1048576: true; the input reads as it did. -/
def termTellsUptoRow : OpenClaim := { program := "ytgjgdklnodeinaadoor", sum := "4f9066cb9cce89892be9571edefc355b4843bf6183868ac556f033b778cc6b95", func := "quaere/quaerelaw2.TermTells", spec := "termTells", inPlace := ["slices.overlaps[int]"], recurses := true, named := ["quaere/sign.equals"], apart := false, laid := [("quaere/sign.equals", laid_quaere_sign_equals)], narrowed := true }
def TermTellsUptoSaid : Prop := termTellsUptoRow.holds Tryd.pinned (OpenSpec.upto termTellsSpec)

/-- 'quaerelaw2.TermJoins', WHERE WHAT IT READS IS OF BULK AT MOST 1048576: true; the input reads as it did. -/
def termJoinsUptoRow : OpenClaim := { program := "ytgjgdklnodeinaadoor", sum := "4f9066cb9cce89892be9571edefc355b4843bf6183868ac556f033b778cc6b95", func := "quaere/quaerelaw2.TermJoins", spec := "termJoins", inPlace := ["slices.overlaps[int]"], named := ["quaere/sign.equals"], apart := false, laid := [("quaere/sign.equals", laid_quaere_sign_equals)], narrowed := true }
def TermJoinsUptoSaid : Prop := termJoinsUptoRow.holds Tryd.pinned (OpenSpec.upto termJoinsSpec)

/-- 'quaerelaw2.TermNests', WHERE WHAT IT READS IS OF BULK AT MOST 1048576: true; the input reads as it did. -/
def termNestsUptoRow : OpenClaim := { program := "ytgjgdklnodeinaadoor", sum := "4f9066cb9cce89892be9571edefc355b4843bf6183868ac556f033b778cc6b95", func := "quaere/quaerelaw2.TermNests", spec := "termNests", inPlace := ["slices.overlaps[int]"], named := ["quaere/sign.equals"], apart := false, laid := [("quaere/sign.equals", laid_quaere_sign_equals)], narrowed := true }
def TermNestsUptoSaid : Prop := termNestsUptoRow.holds Tryd.pinned (OpenSpec.upto termNestsSpec)

/-- 'quaerelaw2.TermCut', WHERE WHAT IT READS IS OF BULK AT MOST 1048576: true; the input reads as it did. -/
def termCutUptoRow : OpenClaim := { program := "ytgjgdklnodeinaadoor", sum := "4f9066cb9cce89892be9571edefc355b4843bf6183868ac556f033b778cc6b95", func := "quaere/quaerelaw2.TermCut", spec := "termCut", inPlace := ["slices.overlaps[int]"], named := ["quaere/sign.equals"], apart := false, laid := [("quaere/sign.equals", laid_quaere_sign_equals)], narrowed := true }
def TermCutUptoSaid : Prop := termCutUptoRow.holds Tryd.pinned (OpenSpec.upto termCutSpec)

/-- 'quaerelaw2.TermForms', WHERE WHAT IT READS IS OF BULK AT MOST 1048576: true; the input reads as it did. -/
def termFormsUptoRow : OpenClaim := { program := "ytgjgdklnodeinaadoor", sum := "4f9066cb9cce89892be9571edefc355b4843bf6183868ac556f033b778cc6b95", func := "quaere/quaerelaw2.TermForms", spec := "termForms", inPlace := ["slices.overlaps[int]"], named := ["quaere/sign.equals"], apart := false, laid := [("quaere/sign.equals", laid_quaere_sign_equals)], narrowed := true }
def TermFormsUptoSaid : Prop := termFormsUptoRow.holds Tryd.pinned (OpenSpec.upto termFormsSpec)

end Rows
end Go.Proofs.YtgjgdklnodeinaaDoor
