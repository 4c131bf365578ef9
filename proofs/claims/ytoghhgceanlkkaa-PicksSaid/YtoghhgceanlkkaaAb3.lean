/- Picks: for every input the law returns true. No condition. -/
import Derived.Test.YtoghhgceanlkkaaAb2
import Derived.Test.YtoghhgceanlkkaaAbLaw
set_option linter.unusedVariables false
set_option maxRecDepth 100000
namespace Go.Proofs.Ytoghhgceanlkkaa.Ab
open Go Go.Ab Go.Proofs Go.RowKit

theorem s3 {l : List Int} (hl : Len l) (z : Bool) (e : List D) (a b t : Int) : evF F (l.length + 43) 3 (args3 z l e a b t) = some (.d (.bool true), args3 z l e a b t) := by
  rw [show l.length + 43 = (l.length + 42) + 1 by omega, at_ (d := d3) (by rfl)]
  have h7 := evF_from (s7 hl z e (l.length + 40)) (m := l.length + 42) (by omega)
  obtain ⟨r1, r2, h8, a8⟩ := s8 hl false [.int .i64 (-7777), .int .i64 (-8888)] a b t (l.length + 40) (by omega)
  obtain ⟨t1, t2, h9, a9⟩ := s9 hl z e a b t (l.length + 40) (by omega)
  obtain ⟨rfl, rfl⟩ := a8.unique a9
  have h10 := s10 r2 (l.length + 41)
  have h11 := s11 hl false z e (l.length + 40) (by omega)
  have h12 := evF_from s12_40 (m := l.length + 42) (by omega)
  exact q3_0 z l e a b t _ _ _ _ _ _ _ _ _ _ _ _ _ _ _ _ _ _ _ _ h7 h8 h9 (by simp) h10 (by simp) h11 rfl h12 rfl
theorem fxOk : FxOk Try.prog F where
  orders := by kernel_rfl
  tab := tab_ok
  code := code_ok.get
  prim := fun f p args r outs h => by cases h
theorem run (A : Option Addr) (len cap : Nat) (zs : List Int) (a b t : Int) (w : World)
    (h : (A = none ∧ len = 0 ∧ cap = 0 ∧ zs = []) ∨ ∃ x, A = some x ∧ len ≤ cap ∧ cap ≤ maxLen ∧ zs.length = cap ∧ (∀ i, i < zs.length → w.cell? (x.add i) = some (.int .i64 (zs.getD i 0)))) (hlen : len * 8 ≤ 140737488351232) :
    Calls Try.prog 3 #[.slice A len cap, .agg #[.int .i64 a, .int .i64 b], .int .i64 t] w fun e w' => e = .returned (.bool true) ∧ Below w.heap.size w w' := by
  have hl : Len (zs.take len) := by unfold Len; rw [List.length_take]; omega
  exact law_run fxOk (s3 hl A.isNone [] a b t) (globOk_nil _) (repL_cons (row_rep h) (repL_cons pair_rep (repL_cons int_rep repL_nil)))
end Go.Proofs.Ytoghhgceanlkkaa.Ab
