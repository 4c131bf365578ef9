/- From what the evaluator tells to the machine's call: a law. No condition. -/
import Derived.Test.YtoghhgceanlkkaaAbMono
import Derived.Test.YtoghhgceanlkkaaAbUse
import Derived.Below
set_option linter.unusedVariables false
set_option linter.unusedSimpArgs false
namespace Go.Ab
open Go Go.RowKit

/-- All that a world holds is taken as never written again. -/
def Hw (w : World) : Fz := fun k => w.heap[k]?
theorem Hw.sub (w : World) : (Hw w).sub w := fun _ _ h => h
theorem Hw.cell {w : World} {a : Addr} {v : Value} (h : w.cell? a = some v) : cellH (Hw w) a = some v := by
  unfold World.cell? at h
  unfold cellH Hw
  exact h
theorem law_run {P : Program} {F : Fx} (hF : FxOk P F) {n : Nat} {f : FuncId} {args outs : List IV} (h : evF F n f args = some (.d (.bool true), outs)) {w : World} {vs : List Value} (hg : GlobOk (Hw w) F.G) (hr : IV.RepL (Hw w) w args vs []) :
    Calls P f vs.toArray w fun e w' => e = .returned (.bool true) ∧ Below w.heap.size w w' := by
  refine ((evF_sound hF n _ _ _ _ h).2 (Hw w) w vs [] hg (Hw.sub w) hr (by simp) (by simp)).mono ?_
  rintro e w' ⟨v, H', b2, rfl, _, _, h3, _, _, h6, _⟩
  unfold IV.Rep at h6
  have hv : v = .bool true := by
    have := h6.1
    simp only [D.RepV] at this
    unfold D.Rep at this
    simpa using this
  subst hv
  exact ⟨rfl, h3.os, h3.tape, h3.output, h3.size, fun k hk => h3.block k hk (by simp)⟩
theorem repL_ints (H : Fz) (l : List Int) : D.RepL H (ints l) (l.map (.int .i64)) := by
  induction l with
  | nil => unfold ints; simp only [List.map_nil]; unfold D.RepL; rfl
  | cons x l ih =>
    unfold ints at *
    simp only [List.map_cons]
    unfold D.RepL
    exact ⟨[.int .i64 x], _, rfl, by unfold D.Rep; rfl, ih⟩
/-- A row of whole numbers that came in. -/
theorem row_rep {w : World} {a : Option Addr} {len cap : Nat} {zs : List Int}
    (h : (a = none ∧ len = 0 ∧ cap = 0 ∧ zs = []) ∨ ∃ x, a = some x ∧ len ≤ cap ∧ cap ≤ maxLen ∧ zs.length = cap ∧ (∀ i, i < zs.length → w.cell? (x.add i) = some (.int .i64 (zs.getD i 0)))) :
    IV.Rep (Hw w) w (.d (.sl 1 a.isNone (ints (zs.take len)) [])) (.slice a len cap) [] := by
  unfold IV.Rep
  refine ⟨?_, rfl⟩
  simp only [D.RepV]
  unfold D.Rep
  rcases h with ⟨rfl, rfl, rfl, rfl⟩ | ⟨x, rfl, h1, h2, h3, h4⟩
  · exact .inl ⟨rfl, by simp [ints], rfl, rfl⟩
  · refine .inr ⟨rfl, x, cap, (zs.take len).map (.int .i64), [], ?_, ?_, h2, ?_, repL_ints _ _, by unfold D.RepL; rfl, ?_, by simp⟩
    · rw [ints_len, List.length_take, Nat.min_eq_left (by omega)]
    · rw [ints_len, List.length_take]; simp; omega
    · intro j u hj
      rw [List.append_nil] at hj
      obtain ⟨hlt, hu⟩ := List.getElem?_eq_some_iff.1 hj
      simp at hlt
      have h5 := Hw.cell (h4 j (by omega))
      rw [h5, ← hu]
      simp [List.getD_eq_getElem?_getD, show j < zs.length by omega]
    · intro y hy
      obtain ⟨z, _, rfl⟩ := List.mem_map.1 hy
      rfl
theorem int_rep {w : World} {k : IntKind} {n : Int} : IV.Rep (Hw w) w (.d (.int k n)) (.int k n) [] := by
  unfold IV.Rep; refine ⟨?_, rfl⟩; simp only [D.RepV]; unfold D.Rep; rfl
theorem pair_rep {w : World} {k k' : IntKind} {a b : Int} : IV.Rep (Hw w) w (.d (.agg [.int k a, .int k' b])) (.agg #[.int k a, .int k' b]) [] := by
  unfold IV.Rep
  refine ⟨?_, rfl⟩
  simp only [D.RepV]
  refine ⟨_, rfl, ?_⟩
  unfold D.Rep
  refine ⟨?_, by simp [D.isAgg]⟩
  unfold D.RepL
  refine ⟨[.int k a], [.int k' b], rfl, by unfold D.Rep; rfl, ?_⟩
  unfold D.RepL
  exact ⟨[.int k' b], [], rfl, by unfold D.Rep; rfl, by unfold D.RepL; rfl⟩
theorem repL_nil {H : Fz} {w : World} : IV.RepL H w [] [] [] := by unfold IV.RepL; exact ⟨rfl, rfl⟩
theorem repL_cons {H : Fz} {w : World} {x : IV} {v : Value} {xs : List IV} {vs : List Value} (h : IV.Rep H w x v []) (h2 : IV.RepL H w xs vs []) : IV.RepL H w (x :: xs) (v :: vs) [] := by
  unfold IV.RepL; exact ⟨v, vs, [], [], rfl, rfl, h, h2⟩
theorem globOk_nil (H : Fz) : GlobOk H [] := fun g cs h => by simp [assoc] at h
end Go.Ab
