/- Variables of packages that are read: from what the row says of the world to the evaluator's word of them. Conditions: the row's own. -/
import Derived.HandedShaped
import Derived.LaidMore
import Derived.Lib.LaidTab
import Derived.Shelf.Vars
import Derived.Stop.Joined
import Derived.Stop.LaidErr
import Derived.Test.YtjhganbjbiihoaaDoorClauses0
import Derived.Test.YtjhganbjbiihoaaDoorClauses1
import Derived.Test.YtjhganbjbiihoaaDoorClauses2
import Derived.Test.YtjhganbjbiihoaaDoorClauses3
import Derived.Test.YtjhganbjbiihoaaDoorClauses4
import Derived.Test.YtjhganbjbiihoaaDoorClauses5
import Derived.Test.YtjhganbjbiihoaaDoorClauses6
import Derived.Test.YtjhganbjbiihoaaDoorClauses7
import Derived.Test.YtjhganbjbiihoaaDoorClauses8
import Derived.Test.YtjhganbjbiihoaaDoorClauses9
import Derived.Test.YtjhganbjbiihoaaDoorClauses10
import Derived.Test.YtjhganbjbiihoaaDoorClauses11
import Derived.Test.YtjhganbjbiihoaaDoorClauses12
import Derived.Test.YtjhganbjbiihoaaDoorClauses13
import Derived.Test.YtjhganbjbiihoaaDoorClauses14
import Derived.Test.YtjhganbjbiihoaaDoorClauses15
import Derived.Test.YtjhganbjbiihoaaDoorClauses16
set_option linter.unusedVariables false
namespace Go.Ab
open Go

/-- One variable more. -/
theorem globOk_cons {W : World} {G : Globs} {g : Nat} {cs : List D} {arr : Array Value} (hh : ∃ t z, W.heap[g]? = some (.cells arr t z)) (hr : D.RepL (Hw W) cs arr.toList) (ha : ∀ c ∈ cs, c.isAgg = false) (h : GlobOk (Hw W) G) : GlobOk (Hw W) ((g, cs) :: G) := by
  intro g' cs' hg
  simp only [List.map_cons, assoc] at hg
  split at hg
  · rename_i e
    simp only [Option.some.injEq] at hg
    subst e hg
    obtain ⟨t, z, hh⟩ := hh
    refine ⟨arr.toList, hr, fun j u hj => Hw.cell ?_, ha, t, z, ?_⟩
    · have e2 : (⟨g, 0, none⟩ : Addr).add j = ⟨g, j, none⟩ := by unfold Addr.add; split <;> simp_all
      rw [e2]
      unfold World.cell?
      simp only [hh]
      simpa using hj
    · unfold Hw
      rw [Array.toArray_toList]
      exact hh
  · exact h g' cs' hg
theorem heap_of_var {P : Program} {W : World} {n : String} {g : Nat} {arr : Array Value} (hg : P.globalNamed n = some g) (hv : W.var? P n = some arr) : ∃ t z, W.heap[g]? = some (.cells arr t z) := by
  unfold World.var? at hv
  rw [hg] at hv
  simp only [Option.bind_some] at hv
  split at hv
  · rename_i cs t z h
    simp only [Option.some.injEq] at hv
    subst hv
    exact ⟨t, z, h⟩
  · cases hv
end Go.Ab
