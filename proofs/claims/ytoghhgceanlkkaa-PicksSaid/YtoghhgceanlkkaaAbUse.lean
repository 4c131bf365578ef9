/- Words for the use of the evaluator: rows of whole numbers, wraps. No condition. -/
import Derived.Test.YtoghhgceanlkkaaAbWp
import Derived.IntWalk
set_option linter.unusedVariables false
set_option linter.unusedSimpArgs false
namespace Go.Ab
open Go Go.RowKit

def ints (l : List Int) : List D := l.map (D.int .i64)
def gi (l : List Int) (i : Nat) : Int := l.getD i 0
theorem ints_len (l : List Int) : (ints l).length = l.length := by simp [ints]
theorem ints_at {l : List Int} {i : Nat} (h : i < l.length) : (ints l)[i]? = some (.int .i64 (gi l i)) := by
  simp [ints, gi, h]
theorem ints_int {l : List Int} {i : Nat} (h : i < l.length) : (ints l)[Int.toNat (i : Int)]? = some (.int .i64 (gi l i)) := by
  rw [Int.toNat_natCast]; exact ints_at h
theorem wr (n : Int) (h0 : -9223372036854775808 ≤ n) (h1 : n ≤ 9223372036854775807) : IntKind.wrap .i64 n = n := by
  rw [IntKind.wrap_i64 n]; omega
theorem ints_append (l m : List Int) : ints (l ++ m) = ints l ++ ints m := by simp [ints]
end Go.Ab
