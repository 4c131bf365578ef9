/- slices.Insert of one number into a row of the call's own: what is asked of it. No condition. -/
import Derived.Laws.AppendOwn
import Derived.Test.YtjhganbjbiihoaaDoorClauses0
import Derived.Test.YtjhganbjbiihoaaDoorClauses1
set_option linter.unusedVariables false
namespace Go.Ab
open Go
/-- What a call of it is, for an evaluator. -/
def InsOk (P : Program) (f : FuncId) (e : TypeId) : Prop := ∀ (w : World) (u v : Value) (n i : Nat) (xs : List Value) (x : Int),
  w.ownsRow 0 e 1 u n xs → w.ownsRow 0 e 1 v 1 [.int .i64 x] → v.ownBlock ≠ u.ownBlock → i ≤ n → (n + 1) * 8 ≤ 140737488355328 → (∀ y ∈ xs, y.oneCell' = true) →
  Calls P f #[u, .int .i64 i, v] w fun ex w' => ∃ v', ex = .returned v' ∧ w'.ownsRow 0 e 1 v' (n + 1) (xs.take i ++ .int .i64 x :: xs.drop i) ∧ w.grownBy w' u.ownBlock ∧ (v'.ownBlock = u.ownBlock ∨ v'.ownBlock = some w.heap.size) ∧ v'.ownBlock ≠ none
end Go.Ab
