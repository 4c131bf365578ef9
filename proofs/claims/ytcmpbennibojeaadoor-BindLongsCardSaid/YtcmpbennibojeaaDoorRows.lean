/-
  NARROWER THAN 'FOR EVERY INPUT', by the rows' own cells (each row's printed sentence says how): BindBoth: laid · BindJoins: laid · BindBack: laid · BindNone: laid · BindLongs: laid.
  DERIVED. THE GIVEN ROWS OF THIS SEAT. 5 by the template 'for every input the law returns true; each argument reads behind the call as it read before'; 0 by the template 'total and deterministic' (their statements: YtcmpbennibojeaaDoorTotals.lean).
  GIVEN WITH THE SEED: the statements are not yours to turn. If you find one false, say at which input.
  Laid BY PROGRAM, IN A SANDBOX (cutbox-rows.mjs): the forced cells as the released guide's own fill.sh prints them over the translation 490f5301b7299cbd… (all of the seat's roots in one cut). By AI agents, Wed Nov 11 2026. No macro, syntax, notation, axiom, sorry.
-/
import Derived.Test.YtcmpbennibojeaaDoorChecked
import GoSem.Claim
import GoSem.ClaimJoined
import GoSem.ClaimMapViews
import Derived.JoinedTies
import Derived.KernelRfl
namespace Go.Proofs.YtcmpbennibojeaaDoor
/- THE CELL 'sum', in the pinned program and in every row, IS THE sha256 OF THE DUMP (.gsa) THAT YtcmpbennibojeaaDoorProg.lean LOADS. Nothing in Lean hashes anything: it is a label: what it is worth is what the hold of that sum in a sandbox is worth. -/
noncomputable def Tryd.pinned : Pinned := { name := "ytcmpbennibojeaadoor", sum := "490f5301b7299cbd46578d55ede274f23eb26b11b9da04a7789eb6d5536f0b50", checked := Tryd.checked }
namespace Rows
def none {H : Type} : Left H := { results := [], args := [] }

/- WHAT THE LISTED PACKAGE-LEVEL VARIABLES READ AS WHEN THE CALL BEGINS. Each datum BY PROGRAM (the guide's laid-datum.mjs) off the statement by which the dump's own 'gosem.cut.vars' lays the variable. In a bare row this is a premise. The card (YtcmpbennibojeaaDoorCards.lean) ties it to the program's text. -/
def laid_quaere_sign_equals {H : Type} : DataW H := .agg [.lit (.string [61]), .lit (.int .i64 0), .lit (.int .i64 2), .lit (.int .i64 1)]

/-- 'quaerelaw3.BindBoth': WHATEVER THE INPUT: true; the input reads as it did. -/
def bindBothSpec : ChangeSpec := { name := "bindBoth", fn := fun _ => fun
  | [d1, d2, d3, d4] => { results := [.lit (.bool true)], args := [d1, d2, d3, d4] }
  | _ => none }
def bindBothRow : OpenClaim := { program := "ytcmpbennibojeaadoor", sum := "490f5301b7299cbd46578d55ede274f23eb26b11b9da04a7789eb6d5536f0b50", func := "quaere/quaerelaw3.BindBoth", spec := "bindBoth", inPlace := ["slices.overlaps[int]"], named := ["quaere/sign.equals"], apart := false, laid := [("quaere/sign.equals", laid_quaere_sign_equals)] }
def BindBothSaid : Prop := bindBothRow.holds Tryd.pinned (OpenSpec.ofChange bindBothSpec)

/-- ITS FALSE NEIGHBOUR: 'it returns false'. Refute it at one input. -/
def bindBothWrong : ChangeSpec := { name := "bindBoth", fn := fun _ => fun
  | [d1, d2, d3, d4] => { results := [.lit (.bool false)], args := [d1, d2, d3, d4] }
  | _ => none }
def BindBothWrongFalsely : Prop := bindBothRow.holds Tryd.pinned (OpenSpec.ofChange bindBothWrong)

/-- 'quaerelaw3.BindJoins': WHATEVER THE INPUT: true; the input reads as it did. -/
def bindJoinsSpec : ChangeSpec := { name := "bindJoins", fn := fun _ => fun
  | [d1, d2, d3, d4] => { results := [.lit (.bool true)], args := [d1, d2, d3, d4] }
  | _ => none }
def bindJoinsRow : OpenClaim := { program := "ytcmpbennibojeaadoor", sum := "490f5301b7299cbd46578d55ede274f23eb26b11b9da04a7789eb6d5536f0b50", func := "quaere/quaerelaw3.BindJoins", spec := "bindJoins", inPlace := ["slices.overlaps[int]"], named := ["quaere/sign.equals"], apart := false, laid := [("quaere/sign.equals", laid_quaere_sign_equals)] }
def BindJoinsSaid : Prop := bindJoinsRow.holds Tryd.pinned (OpenSpec.ofChange bindJoinsSpec)

/-- ITS FALSE NEIGHBOUR: 'it returns false'. Refute it at one input. -/
def bindJoinsWrong : ChangeSpec := { name := "bindJoins", fn := fun _ => fun
  | [d1, d2, d3, d4] => { results := [.lit (.bool false)], args := [d1, d2, d3, d4] }
  | _ => none }
def BindJoinsWrongFalsely : Prop := bindJoinsRow.holds Tryd.pinned (OpenSpec.ofChange bindJoinsWrong)

/-- 'quaerelaw3.BindBack': WHATEVER THE INPUT: true; the input reads as it did. -/
def bindBackSpec : ChangeSpec := { name := "bindBack", fn := fun _ => fun
  | [d1, d2, d3, d4] => { results := [.lit (.bool true)], args := [d1, d2, d3, d4] }
  | _ => none }
def bindBackRow : OpenClaim := { program := "ytcmpbennibojeaadoor", sum := "490f5301b7299cbd46578d55ede274f23eb26b11b9da04a7789eb6d5536f0b50", func := "quaere/quaerelaw3.BindBack", spec := "bindBack", inPlace := ["slices.overlaps[int]"], named := ["quaere/sign.equals"], apart := false, laid := [("quaere/sign.equals", laid_quaere_sign_equals)] }
def BindBackSaid : Prop := bindBackRow.holds Tryd.pinned (OpenSpec.ofChange bindBackSpec)

/-- ITS FALSE NEIGHBOUR: 'it returns false'. Refute it at one input. -/
def bindBackWrong : ChangeSpec := { name := "bindBack", fn := fun _ => fun
  | [d1, d2, d3, d4] => { results := [.lit (.bool false)], args := [d1, d2, d3, d4] }
  | _ => none }
def BindBackWrongFalsely : Prop := bindBackRow.holds Tryd.pinned (OpenSpec.ofChange bindBackWrong)

/-- 'quaerelaw3.BindNone': WHATEVER THE INPUT: true; the input reads as it did. -/
def bindNoneSpec : ChangeSpec := { name := "bindNone", fn := fun _ => fun
  | [d1, d2, d3] => { results := [.lit (.bool true)], args := [d1, d2, d3] }
  | _ => none }
def bindNoneRow : OpenClaim := { program := "ytcmpbennibojeaadoor", sum := "490f5301b7299cbd46578d55ede274f23eb26b11b9da04a7789eb6d5536f0b50", func := "quaere/quaerelaw3.BindNone", spec := "bindNone", inPlace := ["slices.overlaps[int]"], named := ["quaere/sign.equals"], apart := false, laid := [("quaere/sign.equals", laid_quaere_sign_equals)] }
def BindNoneSaid : Prop := bindNoneRow.holds Tryd.pinned (OpenSpec.ofChange bindNoneSpec)

/-- ITS FALSE NEIGHBOUR: 'it returns false'. Refute it at one input. -/
def bindNoneWrong : ChangeSpec := { name := "bindNone", fn := fun _ => fun
  | [d1, d2, d3] => { results := [.lit (.bool false)], args := [d1, d2, d3] }
  | _ => none }
def BindNoneWrongFalsely : Prop := bindNoneRow.holds Tryd.pinned (OpenSpec.ofChange bindNoneWrong)

/-- 'quaerelaw3.BindLongs': WHATEVER THE INPUT: true; the input reads as it did. -/
def bindLongsSpec : ChangeSpec := { name := "bindLongs", fn := fun _ => fun
  | [d1, d2] => { results := [.lit (.bool true)], args := [d1, d2] }
  | _ => none }
def bindLongsRow : OpenClaim := { program := "ytcmpbennibojeaadoor", sum := "490f5301b7299cbd46578d55ede274f23eb26b11b9da04a7789eb6d5536f0b50", func := "quaere/quaerelaw3.BindLongs", spec := "bindLongs", inPlace := ["slices.overlaps[int]"], named := ["quaere/sign.equals"], apart := false, laid := [("quaere/sign.equals", laid_quaere_sign_equals)] }
def BindLongsSaid : Prop := bindLongsRow.holds Tryd.pinned (OpenSpec.ofChange bindLongsSpec)

/-- ITS FALSE NEIGHBOUR: 'it returns false'. Refute it at one input. -/
def bindLongsWrong : ChangeSpec := { name := "bindLongs", fn := fun _ => fun
  | [d1, d2] => { results := [.lit (.bool false)], args := [d1, d2] }
  | _ => none }
def BindLongsWrongFalsely : Prop := bindLongsRow.holds Tryd.pinned (OpenSpec.ofChange bindLongsWrong)

/- THE SECOND FORM. 'bulk': how many values and letters a reading holds, each counted each time it is reached (what is shared counts as often as it is met; a slice's spare places count too). A statement '..UptoSaid' is the law's where the arguments, and the package variables that the reading takes, are together of bulk at most 1048576: NARROWER than '..Said'. Prove '..Said' where nothing that the law and all that it calls make is longer than what came in: it says more and counts as full. Else prove '..UptoSaid'. A law counts once. -/
mutual
def uptoBulk {H : Type} : DataW H → Nat
  | .lit (.string bytes) => bytes.length + 1
  | .lit _ => 1
  | .nil => 1
  | .ptr d => uptoBulk d + 1
  | .slice elems spare => uptoBulkAll elems + uptoBulkAll spare + 1
  | .agg parts => uptoBulkAll parts + 1
  | .iface _ d => uptoBulk d + 1
  | .map entries => uptoBulkEntries entries + 1
  | .held _ => 1
def uptoBulkAll {H : Type} : List (DataW H) → Nat
  | [] => 0
  | d :: r => uptoBulk d + uptoBulkAll r
def uptoBulkEntries {H : Type} : List (Lit × DataW H) → Nat
  | [] => 0
  | x :: r => uptoBulkEntry x + uptoBulkEntries r
def uptoBulkEntry {H : Type} : Lit × DataW H → Nat
  | (.string bytes, d) => bytes.length + uptoBulk d + 1
  | (_, d) => uptoBulk d + 1
 end
def uptoSmall : (H : Type) → List (DataW H) → Bool := fun _ ds => decide (uptoBulkAll ds ≤ 1048576)
def OpenSpec.upto (s : _root_.Go.ChangeSpec) : _root_.Go.OpenSpec := { _root_.Go.OpenSpec.ofChange s with cond := some uptoSmall }

/-- 'quaerelaw3.BindBoth', WHERE WHAT IT READS IS OF BULK AT MOST 1048576: true; the input reads as it did. -/
def bindBothUptoRow : OpenClaim := { program := "ytcmpbennibojeaadoor", sum := "490f5301b7299cbd46578d55ede274f23eb26b11b9da04a7789eb6d5536f0b50", func := "quaere/quaerelaw3.BindBoth", spec := "bindBoth", inPlace := ["slices.overlaps[int]"], named := ["quaere/sign.equals"], apart := false, laid := [("quaere/sign.equals", laid_quaere_sign_equals)], narrowed := true }
def BindBothUptoSaid : Prop := bindBothUptoRow.holds Tryd.pinned (OpenSpec.upto bindBothSpec)

/-- 'quaerelaw3.BindJoins', WHERE WHAT IT READS IS OF BULK AT MOST 1048576: true; the input reads as it did. -/
def bindJoinsUptoRow : OpenClaim := { program := "ytcmpbennibojeaadoor", sum := "490f5301b7299cbd46578d55ede274f23eb26b11b9da04a7789eb6d5536f0b50", func := "quaere/quaerelaw3.BindJoins", spec := "bindJoins", inPlace := ["slices.overlaps[int]"], named := ["quaere/sign.equals"], apart := false, laid := [("quaere/sign.equals", laid_quaere_sign_equals)], narrowed := true }
def BindJoinsUptoSaid : Prop := bindJoinsUptoRow.holds Tryd.pinned (OpenSpec.upto bindJoinsSpec)

/-- 'quaerelaw3.BindBack', WHERE WHAT IT READS IS OF BULK AT MOST 1048576: true; the input reads as it did. -/
def bindBackUptoRow : OpenClaim := { program := "ytcmpbennibojeaadoor", sum := "490f5301b7299cbd46578d55ede274f23eb26b11b9da04a7789eb6d5536f0b50", func := "quaere/quaerelaw3.BindBack", spec := "bindBack", inPlace := ["slices.overlaps[int]"], named := ["quaere/sign.equals"], apart := false, laid := [("quaere/sign.equals", laid_quaere_sign_equals)], narrowed := true }
def BindBackUptoSaid : Prop := bindBackUptoRow.holds Tryd.pinned (OpenSpec.upto bindBackSpec)

/-- 'quaerelaw3.BindNone', WHERE WHAT IT READS IS OF BULK AT MOST 1048576: true; the input reads as it did. -/
def bindNoneUptoRow : OpenClaim := { program := "ytcmpbennibojeaadoor", sum := "490f5301b7299cbd46578d55ede274f23eb26b11b9da04a7789eb6d5536f0b50", func := "quaere/quaerelaw3.BindNone", spec := "bindNone", inPlace := ["slices.overlaps[int]"], named := ["quaere/sign.equals"], apart := false, laid := [("quaere/sign.equals", laid_quaere_sign_equals)], narrowed := true }
def BindNoneUptoSaid : Prop := bindNoneUptoRow.holds Tryd.pinned (OpenSpec.upto bindNoneSpec)

/-- 'quaerelaw3.BindLongs', WHERE WHAT IT READS IS OF BULK AT MOST 1048576: true; the input reads as it did. -/
def bindLongsUptoRow : OpenClaim := { program := "ytcmpbennibojeaadoor", sum := "490f5301b7299cbd46578d55ede274f23eb26b11b9da04a7789eb6d5536f0b50", func := "quaere/quaerelaw3.BindLongs", spec := "bindLongs", inPlace := ["slices.overlaps[int]"], named := ["quaere/sign.equals"], apart := false, laid := [("quaere/sign.equals", laid_quaere_sign_equals)], narrowed := true }
def BindLongsUptoSaid : Prop := bindLongsUptoRow.holds Tryd.pinned (OpenSpec.upto bindLongsSpec)

end Rows
end Go.Proofs.YtcmpbennibojeaaDoor
