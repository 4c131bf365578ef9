/-
  No cell of these rows narrows 'for every input' (looked for: loops, veiled, ifaces, maps, wideKeys, modest, calm, conditions, laid).
  DERIVED. THE GIVEN ROWS OF THIS SEAT. 4 by the template 'for every input the law returns true; each argument reads behind the call as it read before'; 0 by the template 'total and deterministic' (their statements: YtoghhgceanlkkaaTotals.lean).
  GIVEN WITH THE SEED: the statements are not yours to turn. If you find one false, say at which input.
  Laid BY PROGRAM, IN A SANDBOX (cutbox-rows.mjs): the forced cells as the released guide's own fill.sh prints them over the translation a62a15838f1c6772… (all of the seat's roots in one cut). By AI agents, Wed Nov 11 2026. No macro, syntax, notation, axiom, sorry.
-/
import Derived.Test.YtoghhgceanlkkaaChecked
import GoSem.Claim
import GoSem.ClaimJoined
import GoSem.ClaimMapViews
import Derived.JoinedTies
import Derived.KernelRfl
namespace Go.Proofs.Ytoghhgceanlkkaa
/- THE CELL 'sum', in the pinned program and in every row, IS THE sha256 OF THE DUMP (.gsa) THAT YtoghhgceanlkkaaProg.lean LOADS. Nothing in Lean hashes anything: it is a label: what it is worth is what the hold of that sum in a sandbox is worth. -/
noncomputable def Try.pinned : Pinned := { name := "ytoghhgceanlkkaa", sum := "a62a15838f1c67728858a2cd0dd9922877095bb1c87c4f9f1dabea1ada48f8e0", checked := Try.checked }
namespace Rows
def none {H : Type} : Left H := { results := [], args := [] }

/-- 'quaerelaw19.Picks': WHATEVER THE INPUT: true; the input reads as it did. -/
def picksSpec : ChangeSpec := { name := "picks", fn := fun _ => fun
  | [d1, d2, d3] => { results := [.lit (.bool true)], args := [d1, d2, d3] }
  | _ => none }
def picksRow : OpenClaim := { program := "ytoghhgceanlkkaa", sum := "a62a15838f1c67728858a2cd0dd9922877095bb1c87c4f9f1dabea1ada48f8e0", func := "quaere/quaerelaw19.Picks", spec := "picks", apart := false }
def PicksSaid : Prop := picksRow.holds Try.pinned (OpenSpec.ofChange picksSpec)

/-- ITS FALSE NEIGHBOUR: 'it returns false'. Refute it at one input. -/
def picksWrong : ChangeSpec := { name := "picks", fn := fun _ => fun
  | [d1, d2, d3] => { results := [.lit (.bool false)], args := [d1, d2, d3] }
  | _ => none }
def PicksWrongFalsely : Prop := picksRow.holds Try.pinned (OpenSpec.ofChange picksWrong)

/-- 'quaerelaw19.PickFair': WHATEVER THE INPUT: true; the input reads as it did. -/
def pickFairSpec : ChangeSpec := { name := "pickFair", fn := fun _ => fun
  | [d1, d2, d3] => { results := [.lit (.bool true)], args := [d1, d2, d3] }
  | _ => none }
def pickFairRow : OpenClaim := { program := "ytoghhgceanlkkaa", sum := "a62a15838f1c67728858a2cd0dd9922877095bb1c87c4f9f1dabea1ada48f8e0", func := "quaere/quaerelaw19.PickFair", spec := "pickFair", apart := false }
def PickFairSaid : Prop := pickFairRow.holds Try.pinned (OpenSpec.ofChange pickFairSpec)

/-- ITS FALSE NEIGHBOUR: 'it returns false'. Refute it at one input. -/
def pickFairWrong : ChangeSpec := { name := "pickFair", fn := fun _ => fun
  | [d1, d2, d3] => { results := [.lit (.bool false)], args := [d1, d2, d3] }
  | _ => none }
def PickFairWrongFalsely : Prop := pickFairRow.holds Try.pinned (OpenSpec.ofChange pickFairWrong)

/-- 'quaerelaw19.PickWaits': WHATEVER THE INPUT: true; the input reads as it did. -/
def pickWaitsSpec : ChangeSpec := { name := "pickWaits", fn := fun _ => fun
  | [d1, d2, d3, d4] => { results := [.lit (.bool true)], args := [d1, d2, d3, d4] }
  | _ => none }
def pickWaitsRow : OpenClaim := { program := "ytoghhgceanlkkaa", sum := "a62a15838f1c67728858a2cd0dd9922877095bb1c87c4f9f1dabea1ada48f8e0", func := "quaere/quaerelaw19.PickWaits", spec := "pickWaits", apart := false }
def PickWaitsSaid : Prop := pickWaitsRow.holds Try.pinned (OpenSpec.ofChange pickWaitsSpec)

/-- ITS FALSE NEIGHBOUR: 'it returns false'. Refute it at one input. -/
def pickWaitsWrong : ChangeSpec := { name := "pickWaits", fn := fun _ => fun
  | [d1, d2, d3, d4] => { results := [.lit (.bool false)], args := [d1, d2, d3, d4] }
  | _ => none }
def PickWaitsWrongFalsely : Prop := pickWaitsRow.holds Try.pinned (OpenSpec.ofChange pickWaitsWrong)

/-- 'quaerelaw19.PickLeast': WHATEVER THE INPUT: true; the input reads as it did. -/
def pickLeastSpec : ChangeSpec := { name := "pickLeast", fn := fun _ => fun
  | [d1, d2, d3, d4] => { results := [.lit (.bool true)], args := [d1, d2, d3, d4] }
  | _ => none }
def pickLeastRow : OpenClaim := { program := "ytoghhgceanlkkaa", sum := "a62a15838f1c67728858a2cd0dd9922877095bb1c87c4f9f1dabea1ada48f8e0", func := "quaere/quaerelaw19.PickLeast", spec := "pickLeast", apart := false }
def PickLeastSaid : Prop := pickLeastRow.holds Try.pinned (OpenSpec.ofChange pickLeastSpec)

/-- ITS FALSE NEIGHBOUR: 'it returns false'. Refute it at one input. -/
def pickLeastWrong : ChangeSpec := { name := "pickLeast", fn := fun _ => fun
  | [d1, d2, d3, d4] => { results := [.lit (.bool false)], args := [d1, d2, d3, d4] }
  | _ => none }
def PickLeastWrongFalsely : Prop := pickLeastRow.holds Try.pinned (OpenSpec.ofChange pickLeastWrong)

/- THE SECOND FORM. 'bulk': how many values and letters a reading holds, each counted each time it is reached (what is shared counts as often as it is met; a slice's spare places count too). A statement '..UptoSaid' is the law's where the arguments, and the package variables that the reading takes, are together of bulk at most 1048576: NARROWER than '..Said'. Prove '..Said' where nothing that the law and all that it calls make is longer than what came in: it says more and counts as full. Else prove '..UptoSaid'. A law counts once. -/
mutual
def uptoBulk {H : Type} : DataW H → Nat
  | .lit (.string bytes) => bytes.length + 1
  | .lit _ => 1
  | .nil => 1
  | .ptr d => uptoBulk d + 1
  | .slice elems spare => uptoBulkAll elems + uptoBulkAll spare + 1
  | .agg parts => uptoBulkAll parts + 1
  | .iface _ d => uptoBulk d + 1
  | .map entries => uptoBulkEntries entries + 1
  | .held _ => 1
def uptoBulkAll {H : Type} : List (DataW H) → Nat
  | [] => 0
  | d :: r => uptoBulk d + uptoBulkAll r
def uptoBulkEntries {H : Type} : List (Lit × DataW H) → Nat
  | [] => 0
  | x :: r => uptoBulkEntry x + uptoBulkEntries r
def uptoBulkEntry {H : Type} : Lit × DataW H → Nat
  | (.string bytes, d) => bytes.length + uptoBulk d + 1
  | (_, d) => uptoBulk d + 1
 end
def uptoSmall : (H : Type) → List (DataW H) → Bool := fun _ ds => decide (uptoBulkAll ds ≤ 1048576)
def OpenSpec.upto (s : _root_.Go.ChangeSpec) : _root_.Go.OpenSpec := { _root_.Go.OpenSpec.ofChange s with cond := some uptoSmall }

/-- 'quaerelaw19.Picks', WHERE WHAT IT READS IS OF BULK AT MOST 1048576: true; the input reads as it did. -/
def picksUptoRow : OpenClaim := { program := "ytoghhgceanlkkaa", sum := "a62a15838f1c67728858a2cd0dd9922877095bb1c87c4f9f1dabea1ada48f8e0", func := "quaere/quaerelaw19.Picks", spec := "picks", apart := false, narrowed := true }
def PicksUptoSaid : Prop := picksUptoRow.holds Try.pinned (OpenSpec.upto picksSpec)

/-- 'quaerelaw19.PickFair', WHERE WHAT IT READS IS OF BULK AT MOST 1048576: true; the input reads as it did. -/
def pickFairUptoRow : OpenClaim := { program := "ytoghhgceanlkkaa", sum := "a62a15838f1c67728858a2cd0dd9922877095bb1c87c4f9f1dabea1ada48f8e0", func := "quaere/quaerelaw19.PickFair", spec := "pickFair", apart := false, narrowed := true }
def PickFairUptoSaid : Prop := pickFairUptoRow.holds Try.pinned (OpenSpec.upto pickFairSpec)

/-- 'quaerelaw19.PickWaits', WHERE WHAT IT READS IS OF BULK AT MOST 1048576: true; the input reads as it did. -/
def pickWaitsUptoRow : OpenClaim := { program := "ytoghhgceanlkkaa", sum := "a62a15838f1c67728858a2cd0dd9922877095bb1c87c4f9f1dabea1ada48f8e0", func := "quaere/quaerelaw19.PickWaits", spec := "pickWaits", apart := false, narrowed := true }
def PickWaitsUptoSaid : Prop := pickWaitsUptoRow.holds Try.pinned (OpenSpec.upto pickWaitsSpec)

/-- 'quaerelaw19.PickLeast', WHERE WHAT IT READS IS OF BULK AT MOST 1048576: true; the input reads as it did. -/
def pickLeastUptoRow : OpenClaim := { program := "ytoghhgceanlkkaa", sum := "a62a15838f1c67728858a2cd0dd9922877095bb1c87c4f9f1dabea1ada48f8e0", func := "quaere/quaerelaw19.PickLeast", spec := "pickLeast", apart := false, narrowed := true }
def PickLeastUptoSaid : Prop := pickLeastUptoRow.holds Try.pinned (OpenSpec.upto pickLeastSpec)

end Rows
end Go.Proofs.Ytoghhgceanlkkaa
