/- slices.Grow of the nil slice: a row of the call's own, with room. No condition. -/
import Derived.Shelf.Spec.SlicesGrow
import Derived.Test.YtjhganbjbiihoaaDoorClauseHolds0
import Derived.Test.YtjhganbjbiihoaaDoorClauseHolds1
import Derived.Test.YtjhganbjbiihoaaDoorClauseHolds2
import Derived.Test.YtjhganbjbiihoaaDoorClauseHolds3
import Derived.Test.YtjhganbjbiihoaaDoorClauseHolds4
import Derived.Test.YtjhganbjbiihoaaDoorClauseHolds5
import Derived.Test.YtjhganbjbiihoaaDoorClauseHolds6
import Derived.Test.YtjhganbjbiihoaaDoorClauseHolds7
import Derived.Test.YtjhganbjbiihoaaDoorClauseHolds8
import Derived.Test.YtjhganbjbiihoaaDoorClauseHolds9
import Derived.Test.YtjhganbjbiihoaaDoorClauseHolds10
set_option linter.unusedVariables false
set_option linter.unusedSimpArgs false
namespace Go.Ab
open Go Go.Proofs Go.Shelf

/-- What it tells: of the nil slice alone, of so many elements at most. -/
def growP (e : TypeId) (sz : Nat) (args : List IV) : Option (IV × List IV) :=
  match args with
  | [.d (.sl k true [] []), .d (.int .i64 n)] => if 0 ≤ n ∧ n ≤ 1000000 then some (.own (decide (n = 0)) e sz [], [.d (.sl k true [] []), .d (.int .i64 n)]) else none
  | _ => none
theorem grow_spec {P : Program} {ρ : Ren} {G : Globs} (L : Lays8.n4 P ρ) {sz : Nat} {i0 : TypeInfo} {z : Value} (hi0 : P.info? (ρ.t 25) = some i0) (hz0 : i0.zero = some z) (hs0 : i0.size = sz) (hsz : 0 < sz) (hzs : z.cells.size = sz) (hby : i0.bytes ≤ 1000) {args : List IV} {r : IV} {outs : List IV} (h : growP (ρ.t 25) sz args = some (r, outs)) : CallSpec P G (ρ.f 4) args r outs := by
  unfold growP at h
  split at h
  case h_2 => cases h
  rename_i k n
  split at h
  case isFalse => cases h
  rename_i hn
  simp only [Option.some.injEq, Prod.mk.injEq] at h
  obtain ⟨rfl, rfl⟩ := h
  intro H w vs bs hglob hsub hargs hnd hfree
  unfold IV.RepL at hargs
  obtain ⟨v1, vs, b1, b2, rfl, rfl, h1, h2⟩ := hargs
  unfold IV.RepL at h2
  obtain ⟨v2, vs, b3, b4, rfl, rfl, h2, h3⟩ := h2
  unfold IV.RepL at h3
  obtain ⟨rfl, rfl⟩ := h3
  unfold IV.Rep at h1 h2
  obtain ⟨h1, rfl⟩ := h1
  obtain ⟨h2, rfl⟩ := h2
  have e1 : v1 = .slice none 0 0 := by
    simp only [D.RepV, D.Rep] at h1
    rcases h1 with ⟨_, _, _, h1⟩ | ⟨h1, _⟩
    · simpa using h1
    · cases h1
  have e2 : v2 = .int .i64 n := by
    simp only [D.RepV, D.Rep] at h2
    simpa using h2
  subst e1 e2
  have hout : ∀ w' : World, IV.RepL H w' [.d (.sl k true [] []), .d (.int .i64 n)] [.slice none 0 0, .int .i64 n] [] := fun w' => by
    unfold IV.RepL
    refine ⟨_, _, [], [], rfl, rfl, by unfold IV.Rep; exact ⟨h1, rfl⟩, ?_⟩
    unfold IV.RepL
    refine ⟨_, _, [], [], rfl, rfl, by unfold IV.Rep; exact ⟨h2, rfl⟩, by unfold IV.RepL; exact ⟨rfl, rfl⟩⟩
  obtain ⟨m, rfl⟩ : ∃ m : Nat, n = (m : Int) := ⟨n.toNat, by omega⟩
  by_cases h0 : m = 0
  · subst h0
    have := Any8.slices_Grow_room L none 0 0 0 w (by omega) (by omega) (by omega) (by omega)
    refine this.mono ?_
    rintro e w' ⟨rfl, rfl⟩
    refine ⟨_, H, [], [], rfl, Fz.le_refl H, hsub, Framed.refl w' _, fun _ _ _ => rfl, hout w', ?_, by simp, by simp, by simp⟩
    unfold IV.Rep
    exact ⟨[], ⟨by simp, .inl ⟨rfl, rfl⟩⟩, by unfold D.RepL; rfl, by simp, by simp, rfl⟩
  · have := Any8.slices_Grow_grow L i0 z hi0 hz0 (by omega) none 0 0 m [] w (by omega) (by omega) (by
      have : (0 + m) * i0.bytes ≤ 1000000 * 1000 := Nat.mul_le_mul (by omega) hby
      omega) (by omega) (by simp) (fun _ => rfl) (by simp)
    refine this.mono ?_
    rintro e w' ⟨rfl, rfl⟩
    generalize hw : w.drew.alloc (.cells ((([] : List Value).toArray ++ Builtin.zeroCells z.cells (0 + m - 0)) ++ Builtin.zeroCells z.cells (grownCap w (0 + m) 0 (ρ.t 25) - (0 + m))) (ρ.t 25)) = w'
    have hsz0 : w.drew.heap.size = w.heap.size := rfl
    have hwn : w'.heap[w.heap.size]? = some (.cells ((([] : List Value).toArray ++ Builtin.zeroCells z.cells (0 + m - 0)) ++ Builtin.zeroCells z.cells (grownCap w (0 + m) 0 (ρ.t 25) - (0 + m))) (ρ.t 25)) := by
      rw [← hw]
      have := heap_alloc_new w.drew (.cells ((([] : List Value).toArray ++ Builtin.zeroCells z.cells (0 + m - 0)) ++ Builtin.zeroCells z.cells (grownCap w (0 + m) 0 (ρ.t 25) - (0 + m))) (ρ.t 25))
      rwa [hsz0] at this
    have hold : ∀ k, k < w.heap.size → w'.heap[k]? = w.heap[k]? := fun k hk => by
      rw [← hw]; exact heap_alloc_old w.drew _ hk
    have hH : H.sub w' := fun b ob hb => by
      have h5 := hsub b ob hb
      exact (hold b (Array.getElem?_eq_some_iff.1 h5).1).trans h5
    have hcap := grownCap_ge w (0 + m) 0 (ρ.t 25)
    refine ⟨_, H, [w.heap.size], [], rfl, Fz.le_refl H, hH, ⟨by rw [← hw]; rfl, by rw [← hw]; rfl, by rw [← hw]; rfl, ?_, fun k hk _ => hold k hk⟩, fun _ _ _ => rfl, hout w', ?_, by simp, by simp, fun b hb => ?_⟩
    · have := (Array.getElem?_eq_some_iff.1 hwn).1; omega
    · unfold IV.Rep
      refine ⟨[], ⟨by simp, .inr ⟨w.heap.size, grownCap w (0 + m) 0 (ρ.t 25), _, rfl, Nat.zero_le _, hwn, Nat.zero_le _, grownCap_le_maxLen w _ _ _ (by unfold maxLen; omega), ?_, by simp⟩⟩, by unfold D.RepL; rfl, by simp, ?_, rfl⟩
      · simp only [Array.size_append, List.size_toArray, List.length_nil, size_zeroCells, hzs]
        rw [Nat.zero_add, ← Nat.add_mul]
        congr 1; omega
      · simp [h0]
    · simp at hb
      subst hb
      exact ⟨Fz.none_new hsub (Nat.le_refl _), .inl (Nat.le_refl _)⟩
end Go.Ab

/- Written by a program of this session (wip/tools/AbSym.lean). Not trusted: Lean checks it. -/
set_option maxRecDepth 100000
set_option linter.unusedVariables false
namespace Go.Proofs.YtjhganbjbiihoaaDoor.Ab
open Go Go.Ab Go.Proofs
def k3 : Keep := assoc [] [(0, [0, 4, 5]), (1, [0, 4, 5, 7]), (2, [0, 4, 5, 7, 8, 9]), (3, [0, 4, 5, 7, 8, 9, 10, 11]), (4, [0, 4, 5, 7, 8, 9, 10, 11, 12, 13]), (5, [0, 4, 5, 7, 8, 9, 10, 11, 12, 13, 14, 15]), (6, [0, 4, 5, 7, 8, 9, 10, 11, 12, 13, 14, 15, 16, 17]), (7, [0, 4, 5, 7, 8, 9, 10, 11, 12, 13, 14, 15, 16, 17, 18, 19]), (8, [0, 4, 5, 7, 8, 9, 10, 11, 12, 13, 14, 15, 16, 17, 18, 19, 20, 21]), (9, [0, 4, 7, 8, 9, 10, 11, 12, 13, 14, 15, 16, 17, 18, 19, 20, 21, 22, 23]), (10, [6])]
noncomputable def d3 : FnD := ⟨135, [.tmp 6], Tryd.f3.body.getD .skip, k3, false, []⟩
def k4 : Keep := assoc [] [(0, [0, 3]), (1, [0, 3, 5]), (2, [0, 3, 5, 6, 7]), (3, [3, 5, 6, 7, 8, 9]), (4, [3, 5, 6, 33]), (5, [4]), (6, [3, 5]), (7, [4])]
noncomputable def d4 : FnD := ⟨42, [.tmp 4], Tryd.f4.body.getD .skip, k4, false, []⟩
def k5 : Keep := assoc [] [(0, [0, 3]), (1, [0, 3, 19]), (2, [4]), (3, [0, 3, 5, 6]), (4, [0, 3, 5, 28]), (5, [4]), (6, [0, 3, 5, 7, 8]), (7, [0, 3, 5, 7, 8, 9, 10]), (8, [0, 3, 5, 7, 8, 9, 10, 11, 12]), (9, [0, 3, 5, 7, 8, 9, 10, 11, 12, 13, 14]), (10, [0, 5, 7, 8, 9, 10, 11, 12, 13, 14, 15, 16]), (11, [0, 5, 7, 8, 9, 10, 11, 12, 13, 14, 15, 16, 17]), (12, [0, 5, 7, 8, 9, 10, 11, 12, 13, 14, 15, 16, 17, 66]), (13, [0, 5, 7, 8, 9, 10, 11, 12, 13, 14, 15, 16, 17]), (14, [0, 5, 7, 8, 9, 10, 11, 12, 13, 14, 15, 16, 17, 74]), (15, [4]), (16, [4])]
noncomputable def d5 : FnD := ⟨120, [.tmp 4], Tryd.f5.body.getD .skip, k5, false, []⟩
def k6 : Keep := assoc [] [(0, [0, 2, 3, 5]), (1, [0, 2, 3, 5, 25]), (2, [8]), (3, [0, 2, 3, 5, 41]), (4, [8]), (5, [0, 2, 3, 5, 9, 10]), (6, [0, 3, 5, 9, 10, 11]), (7, [0, 3, 5, 10, 11, 71]), (8, [8]), (9, [0, 3, 5, 11, 12]), (10, [0, 3, 5, 11, 12, 13]), (11, [0, 3, 5, 11, 12, 13, 14]), (12, [0, 3, 5, 11, 12, 13, 14, 82]), (13, [0, 3, 5, 11, 12, 13, 14]), (14, [0, 3, 5, 11, 12, 13, 14]), (15, [0, 3, 5, 11, 12, 13, 15]), (16, [0, 3, 5, 11, 12, 13, 15, 98]), (17, [0, 3, 5, 11, 12, 13, 15]), (18, [0, 3, 5, 11, 12, 13, 15]), (19, [0, 3, 5, 11, 12, 13]), (20, [0, 3, 5, 11, 12, 13, 16]), (21, [0, 3, 5, 11, 12, 13, 16, 117]), (22, [0, 3, 5, 11, 12, 13, 16]), (23, [0, 3, 5, 11, 12, 13, 16, 17]), (24, [0, 3, 5, 11, 12, 13, 16, 17, 126]), (25, [0, 3, 5, 11, 12, 13, 16, 17]), (26, [0, 3, 5, 11, 12, 13, 16, 17, 136]), (27, [0, 3, 5, 11, 12, 13, 16, 17]), (28, [0, 5, 12]), (29, [0, 5, 12, 172]), (30, [8]), (31, [0, 5, 12, 18, 19]), (32, [0, 5, 12, 18, 19, 20, 21]), (33, [18, 19, 20, 21, 22, 23]), (34, [8])]
noncomputable def d6 : FnD := ⟨213, [.tmp 8], Tryd.f6.body.getD .skip, k6, false, []⟩
def k7 : Keep := assoc [] [(0, [0, 2, 3, 5]), (1, [0, 2, 3, 5, 18]), (2, [8]), (3, [0, 2, 3, 5, 9, 10]), (4, [0, 2, 3, 5, 9, 10, 11, 12]), (5, [0, 2, 3, 5, 9, 10, 11, 12, 13, 14]), (6, [0, 2, 3, 5, 9, 11, 12, 13, 14, 39]), (7, [8]), (8, [0, 2, 3, 5, 9, 11, 13, 53]), (9, [8]), (10, [0, 2, 3, 5, 9, 11, 61]), (11, [8]), (12, [0, 5, 9, 11, 15]), (13, [0, 9, 11, 15, 16]), (14, [8])]
noncomputable def d7 : FnD := ⟨82, [.tmp 8], Tryd.f7.body.getD .skip, k7, false, []⟩
def k8 : Keep := assoc [] [(0, [0, 1, 2]), (1, [0, 1, 2, 18]), (2, [6]), (3, [7, 8, 9]), (4, [7, 8, 9, 10]), (5, [7, 8, 9, 10, 11]), (6, [7, 8, 9, 10, 11, 33]), (7, [7, 8, 9, 10, 11]), (8, [7, 8, 9, 10, 11]), (9, [7, 8, 9, 10, 12]), (10, [7, 8, 9, 10, 12, 45]), (11, [7, 8, 9, 10, 12]), (12, [7, 8, 9, 10, 12]), (13, [7, 8, 9, 10, 13]), (14, [7, 8, 9, 10, 13, 56]), (15, [7, 8, 9, 10, 13]), (16, [7, 8, 9, 10, 13]), (17, [7, 8, 9, 10, 14, 15]), (18, [7, 8, 9, 10, 14, 15, 16]), (19, [7, 8, 9, 14, 16, 93]), (20, [6]), (21, [6])]
noncomputable def d8 : FnD := ⟨120, [.tmp 6], Tryd.f8.body.getD .skip, k8, false, []⟩
def k9 : Keep := assoc [] [(0, [1, 2]), (1, [2])]
noncomputable def d9 : FnD := ⟨13, [.cell 2 26], Tryd.f9.body.getD .skip, k9, false, []⟩
def k10 : Keep := assoc [] [(0, [0, 3]), (1, [0, 3, 12]), (2, [4, 5]), (3, [0, 3, 6]), (4, [0, 6, 14, 15, 16]), (5, [0, 6, 14, 15, 16, 17]), (6, [0, 6, 8, 14, 15, 16]), (7, [0, 6, 14, 15, 16]), (8, [0, 6, 14, 15, 16]), (9, [4, 5])]
noncomputable def d10 : FnD := ⟨28, [.tmp 4, .tmp 5], Tryd.f10.body.getD .skip, k10, false, []⟩
def k11 : Keep := assoc [] [(0, [0, 3]), (1, [0, 3, 9]), (2, [4, 5]), (3, [4, 5])]
noncomputable def d11 : FnD := ⟨13, [.tmp 4, .tmp 5], Tryd.f11.body.getD .skip, k11, false, []⟩
def k12 : Keep := assoc [] [(0, [0, 3]), (1, [3, 14]), (2, [4, 5]), (3, [3, 6]), (4, [3, 6, 20, 21, 22]), (5, [3, 6, 20, 21, 22, 23]), (6, [3, 6, 8, 20, 21, 22]), (7, [3, 6, 20, 21, 22]), (8, [3, 6, 20, 21, 22]), (9, [6, 32, 33, 34]), (10, [6, 32, 33, 34, 35]), (11, [6, 10, 32, 33, 34]), (12, [6, 32, 33, 34]), (13, [6, 32, 33, 34]), (14, [4, 5])]
noncomputable def d12 : FnD := ⟨43, [.tmp 4, .tmp 5], Tryd.f12.body.getD .skip, k12, false, [(4, .own 3), (6, .own 3), (4000036, .no)]⟩
def k13 : Keep := assoc [] [(0, [0, 3]), (1, [3, 9]), (2, [4, 5]), (3, [4, 5])]
noncomputable def d13 : FnD := ⟨12, [.tmp 4, .tmp 5], Tryd.f13.body.getD .skip, k13, false, [(4, .own 3)]⟩
def k14 : Keep := assoc [] [(0, [0, 3]), (1, [0, 3, 11]), (2, [4, 5]), (3, [0, 3, 13, 14, 15]), (4, [0, 3, 13, 14, 15, 16]), (5, [0, 3, 7, 13, 14, 15]), (6, [0, 3, 13, 14, 15, 27]), (7, [4, 5]), (8, [0, 3, 13, 14, 15]), (9, [4, 5])]
noncomputable def d14 : FnD := ⟨29, [.tmp 4, .tmp 5], Tryd.f14.body.getD .skip, k14, false, [(5000007, .no)]⟩
def k15 : Keep := assoc [] [(0, [0, 3]), (1, [0, 3, 9]), (2, [4, 5]), (3, [4, 5])]
noncomputable def d15 : FnD := ⟨13, [.tmp 4, .tmp 5], Tryd.f15.body.getD .skip, k15, false, []⟩
def k16 : Keep := assoc [] [(0, [0, 4, 5]), (1, [4, 5, 17]), (2, [6, 7]), (3, [6, 7])]
noncomputable def d16 : FnD := ⟨23, [.tmp 6, .tmp 7], Tryd.f16.body.getD .skip, k16, false, []⟩
def k17 : Keep := assoc [] [(0, [0, 4, 5]), (1, [4, 5, 17]), (2, [6, 7]), (3, [6, 7])]
noncomputable def d17 : FnD := ⟨23, [.tmp 6, .tmp 7], Tryd.f17.body.getD .skip, k17, false, []⟩
def k18 : Keep := assoc [] [(0, [0, 3]), (1, [0, 3, 31]), (2, [4]), (3, [0, 3, 5, 6]), (4, [0, 3, 5, 6, 7, 8]), (5, [5, 6, 7, 8, 9, 10]), (6, [4])]
noncomputable def d18 : FnD := ⟨68, [.tmp 4], Tryd.f18.body.getD .skip, k18, false, []⟩
def k19 : Keep := assoc [] [(0, [0, 3]), (1, [0, 3, 32]), (2, [4]), (3, [0, 3, 5]), (4, [0, 3, 5, 37]), (5, [0, 3, 5]), (6, [0, 3, 5, 47]), (7, [4]), (8, [0, 3, 6]), (9, [0, 3, 6, 52]), (10, [0, 3, 6]), (11, [0, 3, 6, 62]), (12, [4]), (13, [0, 3, 7]), (14, [0, 3, 7, 67]), (15, [0, 3, 7]), (16, [0, 3, 7, 8]), (17, [0, 3, 7, 88]), (18, [4]), (19, [9]), (20, [9, 10]), (21, [9, 10, 11]), (22, [9, 10, 11, 94]), (23, [9, 10, 11]), (24, [9, 10, 11]), (25, [4])]
noncomputable def d19 : FnD := ⟨106, [.tmp 4], Tryd.f19.body.getD .skip, k19, false, []⟩
def k20 : Keep := assoc [] [(0, [0]), (1, [2])]
noncomputable def d20 : FnD := ⟨4, [.tmp 2], Tryd.f20.body.getD .skip, k20, false, []⟩
def k21 : Keep := assoc [] [(0, [0, 1]), (1, [0, 1, 10]), (2, [4]), (3, [0, 1, 5]), (4, [0, 1, 5, 14]), (5, [0, 1, 5]), (6, [0, 1, 5, 25]), (7, [4]), (8, [4])]
noncomputable def d21 : FnD := ⟨26, [.tmp 4], Tryd.f21.body.getD .skip, k21, false, []⟩
def k22 : Keep := assoc [] [(0, [2, 3]), (1, [4])]
noncomputable def d22 : FnD := ⟨24, [.tmp 4], Tryd.f22.body.getD .skip, k22, false, []⟩
def k23 : Keep := assoc [] [(0, []), (1, [1]), (2, [1, 2, 3]), (3, [1, 2, 3, 4, 5]), (4, [1, 2, 3, 4, 5, 6, 7]), (5, [1, 2, 3, 4, 5, 6, 7, 8, 9]), (6, [1, 2, 3, 4, 5, 6, 7, 8, 9, 10, 11]), (7, [1, 2, 3, 4, 5, 6, 7, 8, 9, 10, 11, 13]), (8, [0])]
noncomputable def d23 : FnD := ⟨127, [.tmp 0], Tryd.f23.body.getD .skip, k23, false, []⟩
def k24 : Keep := assoc [] [(0, [0, 3, 4]), (1, [3, 4, 9]), (2, [4, 5]), (3, [4, 5])]
noncomputable def d24 : FnD := ⟨13, [.cell 4 26, .tmp 5], Tryd.f24.body.getD .skip, k24, false, []⟩
def k25 : Keep := assoc [] [(0, [0, 3, 4]), (1, [3, 4, 9]), (2, [4, 5]), (3, [4, 5])]
noncomputable def d25 : FnD := ⟨13, [.cell 4 26, .tmp 5], Tryd.f25.body.getD .skip, k25, false, []⟩
def k26 : Keep := assoc [] [(0, [1]), (1, [1]), (2, [1]), (3, [])]
noncomputable def d26 : FnD := ⟨11, [], Tryd.f26.body.getD .skip, k26, false, []⟩
def k27 : Keep := assoc [] [(0, [0]), (1, [2])]
noncomputable def d27 : FnD := ⟨6, [.tmp 2], Tryd.f27.body.getD .skip, k27, false, []⟩
def k28 : Keep := assoc [] [(0, [0, 1, 4]), (1, [4])]
noncomputable def d28 : FnD := ⟨12, [.cell 4 61], Tryd.f28.body.getD .skip, k28, false, []⟩
def k29 : Keep := assoc [] [(0, [1, 3, 5]), (1, [1, 3, 5, 7]), (2, [1, 3, 5, 7, 8]), (3, [1, 3, 5, 7, 8, 17]), (4, [6]), (5, [1, 3, 5, 7, 8, 22]), (6, [6])]
noncomputable def d29 : FnD := ⟨23, [.tmp 6], Tryd.f29.body.getD .skip, k29, false, [(8000060, .no)]⟩
def k30 : Keep := assoc [] [(0, []), (1, [0])]
noncomputable def d30 : FnD := ⟨9, [.tmp 0], Tryd.f30.body.getD .skip, k30, false, []⟩
def k31 : Keep := assoc [] [(0, [0]), (1, [0, 3]), (2, [0, 3, 4]), (3, [0, 3, 4, 8]), (4, [0, 3, 4]), (5, [0, 3, 4]), (6, [2])]
noncomputable def d31 : FnD := ⟨27, [.tmp 2], Tryd.f31.body.getD .skip, k31, false, [(2, .own 57), (3, .own 57)]⟩
def k32 : Keep := assoc [] [(0, [0]), (1, [0, 3]), (2, [0, 3, 4]), (3, [0, 3, 4, 8]), (4, [0, 3, 4]), (5, [0, 3, 4]), (6, [2])]
noncomputable def d32 : FnD := ⟨20, [.tmp 2], Tryd.f32.body.getD .skip, k32, false, [(2, .own 33), (3, .own 33)]⟩
def k33 : Keep := assoc [] [(0, [0, 1]), (1, [0, 1, 5]), (2, [0, 5, 8, 9, 10]), (3, [0, 5, 8, 9, 10, 11]), (4, [0, 5, 7, 8, 9, 10]), (5, [0, 5, 7, 8, 9, 10, 15]), (6, [0, 5, 8, 9, 10]), (7, [0, 5, 8, 9, 10]), (8, [0, 5, 8, 9, 10]), (9, [4])]
noncomputable def d33 : FnD := ⟨27, [.tmp 4], Tryd.f33.body.getD .skip, k33, false, []⟩
def k34 : Keep := assoc [] [(0, [0, 3]), (1, [0, 3, 5]), (2, [0, 3, 5, 6]), (3, [0, 3, 5, 6, 11]), (4, [0, 3, 5, 6]), (5, [0, 3, 5, 6]), (6, [4])]
noncomputable def d34 : FnD := ⟨25, [.tmp 4], Tryd.f34.body.getD .skip, k34, false, []⟩
def k35 : Keep := assoc [] [(0, [0]), (1, [0, 3]), (2, [0, 3, 9, 10, 11]), (3, [0, 3, 9, 10, 11, 12]), (4, [0, 3, 5, 9, 10, 11]), (5, [0, 3, 9, 10, 11]), (6, [0, 3, 9, 10, 11, 20]), (7, [0, 3, 9, 10, 11]), (8, [0, 3, 9, 10, 11]), (9, [0, 6]), (10, [6, 25, 26, 27]), (11, [6, 25, 26, 27, 28]), (12, [6, 8, 25, 26, 27]), (13, [6, 25, 26, 27]), (14, [6, 25, 26, 27]), (15, [2])]
noncomputable def d35 : FnD := ⟨36, [.tmp 2], Tryd.f35.body.getD .skip, k35, false, []⟩
def k36 : Keep := assoc [] [(0, [0, 1]), (1, [0, 9, 10, 11]), (2, [0, 9, 10, 11, 12]), (3, [0, 6, 9, 10, 11]), (4, [0, 6, 9, 10, 11, 16]), (5, [0, 6, 7, 8, 9, 10, 11]), (6, [0, 6, 7, 9, 10, 11, 25]), (7, [0, 9, 10, 11]), (8, [0, 9, 10, 11]), (9, [4])]
noncomputable def d36 : FnD := ⟨34, [.tmp 4], Tryd.f36.body.getD .skip, k36, false, [(0, .own 3), (1000066, .own 3)]⟩
def k37 : Keep := assoc [] [(0, [1]), (1, [1, 3]), (2, [3, 4]), (3, [3, 4, 5]), (4, [3, 4, 5, 11]), (5, [3, 4, 5]), (6, [3, 4, 5]), (7, [2])]
noncomputable def d37 : FnD := ⟨22, [.tmp 2], Tryd.f37.body.getD .skip, k37, false, [(3, .own 3)]⟩
def k38 : Keep := assoc [] [(0, [0, 3]), (1, [0, 3, 14]), (2, [4]), (3, [5]), (4, [4])]
noncomputable def d38 : FnD := ⟨27, [.tmp 4], Tryd.f38.body.getD .skip, k38, false, []⟩
def k39 : Keep := assoc [] [(0, [0, 1]), (1, [1, 4])]
noncomputable def d39 : FnD := ⟨9, [.tmp 4], Tryd.f39.body.getD .skip, k39, false, []⟩
def k40 : Keep := assoc [] [(0, [1, 2]), (1, [1, 3])]
noncomputable def d40 : FnD := ⟨16, [.tmp 3], Tryd.f40.body.getD .skip, k40, false, []⟩
def k41 : Keep := assoc [] [(0, [0, 1]), (1, [0, 1, 10]), (2, [4]), (3, [0, 1, 12, 13]), (4, [0, 1, 12, 13, 14]), (5, [0, 1, 5, 12, 13]), (6, [0, 1, 12, 13, 24]), (7, [4]), (8, [0, 1, 12, 13]), (9, [4])]
noncomputable def d41 : FnD := ⟨26, [.tmp 4], Tryd.f41.body.getD .skip, k41, false, []⟩
def k42 : Keep := assoc [] [(0, [0, 3]), (1, [0, 3, 5]), (2, [0, 3, 5, 13]), (3, [0, 3, 5]), (4, [0, 3, 5, 6]), (5, [0, 3, 5, 6, 34]), (6, [0, 3, 5, 6, 7]), (7, [0, 3, 5, 6, 45]), (8, [4]), (9, [0, 3, 5, 6, 8]), (10, [0, 3, 5, 6, 8, 48]), (11, [0, 3, 5, 6, 8]), (12, [0, 3, 5, 6, 8, 73]), (13, [4]), (14, [4])]
noncomputable def d42 : FnD := ⟨74, [.tmp 4], Tryd.f42.body.getD .skip, k42, false, []⟩
def k43 : Keep := assoc [] [(0, [2, 3]), (1, [4])]
noncomputable def d43 : FnD := ⟨24, [.tmp 4], Tryd.f43.body.getD .skip, k43, false, []⟩
def k44 : Keep := assoc [] [(0, [1, 2]), (1, [1, 2, 3]), (2, [2, 3, 16, 17, 18]), (3, [2, 3, 16, 17, 18, 19]), (4, [2, 3, 5, 16, 17, 18]), (5, [2, 3, 5, 16, 17, 18, 26]), (6, [2, 3, 16, 17, 18]), (7, [2, 3, 16, 17, 18]), (8, [2, 3, 6]), (9, [2, 3, 6, 7]), (10, [2])]
noncomputable def d44 : FnD := ⟨37, [.cell 2 26], Tryd.f44.body.getD .skip, k44, false, [(3, .agg [.no, .own 33, .no]), (5000005, .no)]⟩
def k45 : Keep := assoc [] [(0, [2, 3]), (1, [2, 3, 5, 6]), (2, [2, 3, 5, 6, 38]), (3, [4]), (4, [2, 3, 5, 6, 7]), (5, [2, 3, 5, 6, 7, 42]), (6, [2, 3, 5, 6, 7]), (7, [2, 3, 5, 6, 7, 54]), (8, [4]), (9, [2, 3, 8]), (10, [2, 3, 8, 59]), (11, [2, 3, 8]), (12, [2, 3, 8, 74]), (13, [4]), (14, [2, 3, 9]), (15, [2, 3, 9, 79]), (16, [2, 3, 9]), (17, [2, 3, 9, 94]), (18, [4]), (19, [4])]
noncomputable def d45 : FnD := ⟨95, [.tmp 4], Tryd.f45.body.getD .skip, k45, false, []⟩
def k46 : Keep := assoc [] [(0, [1, 2]), (1, [1, 2, 3]), (2, [1, 2, 3, 4]), (3, [1, 2, 3, 4, 23]), (4, [1, 2, 3, 4]), (5, [1, 2, 3, 4, 5]), (6, [1, 2, 3, 4, 5, 6]), (7, [1, 2, 3, 4, 5, 6, 30]), (8, [1, 2, 3, 4, 5, 6]), (9, [1, 2, 3, 4, 5, 6]), (10, [1, 2, 3, 4, 48]), (11, [1, 2, 3, 4]), (12, [2, 3, 7]), (13, [2, 3, 7, 8]), (14, [2, 3, 7, 8, 9]), (15, [2, 3, 7, 8, 9, 64]), (16, [2, 3, 7, 8, 9]), (17, [2, 3, 7, 8, 9, 10]), (18, [2, 3, 7, 8, 9, 10, 73]), (19, [2, 3, 7, 8, 9, 10]), (20, [2, 3, 7, 8, 9, 10, 11]), (21, [2, 3, 7, 8, 9, 10, 11, 91]), (22, [2, 3, 7, 8, 9, 10]), (23, [2])]
noncomputable def d46 : FnD := ⟨105, [.cell 2 26], Tryd.f46.body.getD .skip, k46, false, [(3, .agg [.no, .own 33, .no]), (7, .own 106)]⟩
def k47 : Keep := assoc [] [(0, [0]), (1, [0, 18]), (2, [2]), (3, [0, 3]), (4, [0, 3, 22]), (5, [0, 3]), (6, [0, 3, 41]), (7, [2]), (8, [2])]
noncomputable def d47 : FnD := ⟨42, [.tmp 2], Tryd.f47.body.getD .skip, k47, false, []⟩
def k48 : Keep := assoc [] [(0, [0, 1]), (1, [0, 1, 6]), (2, [0, 6, 9, 10, 11]), (3, [0, 6, 9, 10, 11, 12]), (4, [0, 6, 8, 9, 10, 11]), (5, [0, 6, 8, 9, 10, 11, 18]), (6, [4, 5]), (7, [0, 6, 9, 10, 11]), (8, [0, 6, 9, 10, 11]), (9, [4, 5])]
noncomputable def d48 : FnD := ⟨26, [.tmp 4, .tmp 5], Tryd.f48.body.getD .skip, k48, false, []⟩
def k49 : Keep := assoc [] [(0, [0, 1]), (1, [0, 1, 6, 7]), (2, [0, 6, 7, 12, 13, 14]), (3, [0, 6, 7, 12, 13, 14, 15]), (4, [0, 6, 7, 8, 9, 12, 13, 14]), (5, [0, 6, 7, 8, 9, 10, 11, 12, 13, 14]), (6, [0, 6, 7, 9, 10, 11, 12, 13, 14, 26]), (7, [0, 6, 7, 9, 10, 11, 12, 13, 14]), (8, [0, 6, 7, 9, 12, 13, 14, 34]), (9, [4, 5]), (10, [0, 6, 7, 12, 13, 14]), (11, [0, 6, 7, 12, 13, 14]), (12, [4, 5])]
noncomputable def d49 : FnD := ⟨41, [.tmp 4, .tmp 5], Tryd.f49.body.getD .skip, k49, false, []⟩
def k50 : Keep := assoc [] [(0, [0]), (1, [0, 18]), (2, [2]), (3, [0, 3]), (4, [0, 3, 22]), (5, [0, 3]), (6, [0, 3, 41]), (7, [2]), (8, [2])]
noncomputable def d50 : FnD := ⟨42, [.tmp 2], Tryd.f50.body.getD .skip, k50, false, []⟩
def k51 : Keep := assoc [] [(0, [0, 3]), (1, [4])]
noncomputable def d51 : FnD := ⟨13, [.tmp 4], Tryd.f51.body.getD .skip, k51, false, []⟩
def k52 : Keep := assoc [] [(0, [0, 1]), (1, [0, 1, 9]), (2, [4]), (3, [0, 1, 5, 6]), (4, [0, 1, 5, 6, 13]), (5, [0, 1, 5, 6]), (6, [0, 1, 5, 6, 19]), (7, [4]), (8, [0, 1, 5, 6]), (9, [4])]
noncomputable def d52 : FnD := ⟨23, [.tmp 4], Tryd.f52.body.getD .skip, k52, false, []⟩
def k53 : Keep := assoc [] [(0, [1]), (1, [1, 3]), (2, [1, 3, 4]), (3, [1, 3, 4, 11]), (4, [1, 3, 4]), (5, [1, 3, 4]), (6, [1, 3, 5]), (7, [1, 3, 5, 27]), (8, [1, 3, 5]), (9, [1, 3, 5]), (10, [1, 3, 6]), (11, [1, 3, 6, 42]), (12, [1, 3, 6]), (13, [1, 3, 6]), (14, [2])]
noncomputable def d53 : FnD := ⟨55, [.tmp 2], Tryd.f53.body.getD .skip, k53, false, [(2, .own 33), (3, .own 33)]⟩
def k54 : Keep := assoc [] [(0, [0, 1]), (1, [0, 1, 10]), (2, [4]), (3, [0, 1, 5]), (4, [0, 1, 5, 14]), (5, [0, 1, 5]), (6, [0, 1, 5, 41]), (7, [4]), (8, [4])]
noncomputable def d54 : FnD := ⟨42, [.tmp 4], Tryd.f54.body.getD .skip, k54, false, []⟩
def k55 : Keep := assoc [] [(0, [0, 1]), (1, [0, 1, 10]), (2, [4]), (3, [0, 1, 5]), (4, [0, 1, 5, 14]), (5, [0, 1, 5]), (6, [0, 1, 5, 26]), (7, [4]), (8, [4])]
noncomputable def d55 : FnD := ⟨27, [.tmp 4], Tryd.f55.body.getD .skip, k55, false, []⟩
def k56 : Keep := assoc [] [(0, [0, 2]), (1, [0, 2, 6]), (2, [0, 2]), (3, [0, 2])]
noncomputable def d56 : FnD := ⟨15, [], Tryd.f56.body.getD .skip, k56, false, []⟩
def k57 : Keep := assoc [] [(0, [0, 2]), (1, [0, 2, 6]), (2, [0, 2]), (3, [0, 2])]
noncomputable def d57 : FnD := ⟨14, [], Tryd.f57.body.getD .skip, k57, false, []⟩
def k58 : Keep := assoc [] [(0, []), (1, [0])]
noncomputable def d58 : FnD := ⟨2, [.tmp 0], Tryd.f58.body.getD .skip, k58, false, []⟩
def k59 : Keep := assoc [] [(0, [1, 3, 4, 6]), (1, [1, 3, 4, 6, 9]), (2, [1, 3, 4, 6, 9, 16]), (3, [1, 3, 4, 6, 9]), (4, [1, 3, 4, 6, 9, 28]), (5, [8]), (6, [1, 3, 4, 6, 10]), (7, [1, 3, 4, 6, 10, 33]), (8, [1, 3, 4, 6, 10]), (9, [1, 3, 4, 6, 10, 44]), (10, [8]), (11, [1, 3, 4, 6, 11]), (12, [1, 3, 4, 6, 11, 49]), (13, [1, 3, 4, 6, 11]), (14, [1, 3, 4, 6, 11, 60]), (15, [8]), (16, [8])]
noncomputable def d59 : FnD := ⟨61, [.tmp 8], Tryd.f59.body.getD .skip, k59, false, []⟩
def k60 : Keep := assoc [] [(0, [1, 2, 3]), (1, [1, 2, 3, 7]), (2, [1, 2, 3, 7, 11]), (3, [1, 2, 3, 7]), (4, [1, 2, 3, 7]), (5, [1, 2, 3, 7, 32]), (6, [1, 2, 6]), (7, [1, 2, 3, 7]), (8, [1, 2, 6])]
noncomputable def d60 : FnD := ⟨39, [.tmp 6], Tryd.f60.body.getD .skip, k60, false, []⟩
def k61 : Keep := assoc [] [(0, [0]), (1, [2])]
noncomputable def d61 : FnD := ⟨6, [.tmp 2], Tryd.f61.body.getD .skip, k61, false, []⟩
def k62 : Keep := assoc [] [(0, [0, 1]), (1, [0, 1, 5]), (2, [0, 1, 5, 6]), (3, [0, 1, 5, 6, 10]), (4, [0, 1, 5, 6]), (5, [0, 1, 5, 6, 17]), (6, [0, 1, 5, 6]), (7, [0, 1, 5, 6]), (8, [4])]
noncomputable def d62 : FnD := ⟨31, [.tmp 4], Tryd.f62.body.getD .skip, k62, false, []⟩
def k64 : Keep := assoc [] [(0, [0, 1]), (1, [0, 1, 6]), (2, [0, 1, 6, 7, 8]), (3, [0, 1, 6, 7, 8, 15]), (4, [0, 1, 6, 7, 8, 9]), (5, [0, 1, 6, 7, 8, 9, 27]), (6, [0, 1, 6, 7, 8]), (7, [0, 1, 6, 7, 8]), (8, [4, 5])]
noncomputable def d64 : FnD := ⟨54, [.tmp 4, .tmp 5], Tryd.f64.body.getD .skip, k64, false, []⟩
def k65 : Keep := assoc [] [(0, [0]), (1, [2])]
noncomputable def d65 : FnD := ⟨5, [.tmp 2], Tryd.f65.body.getD .skip, k65, false, []⟩
def k67 : Keep := assoc [] [(0, [0]), (1, [0, 3]), (2, [0, 3, 4]), (3, [0, 3, 4, 6]), (4, [0, 3, 4]), (5, [0, 3, 4, 11]), (6, [0, 3, 4]), (7, [2])]
noncomputable def d67 : FnD := ⟨17, [.tmp 2], Tryd.f67.body.getD .skip, k67, false, [(2, .own 3), (3, .own 3)]⟩
def k68 : Keep := assoc [] [(0, [0, 1]), (1, [0, 1, 5]), (2, [0, 1, 5, 6]), (3, [0, 1, 5, 6, 12]), (4, [0, 1, 5, 6, 7, 8]), (5, [0, 1, 5, 6, 7, 21]), (6, [4]), (7, [0, 1, 5, 7]), (8, [0, 1, 5, 6]), (9, [4])]
noncomputable def d68 : FnD := ⟨32, [.tmp 4], Tryd.f68.body.getD .skip, k68, false, [(4, .own 33), (5, .own 33)]⟩
def k69 : Keep := assoc [] [(0, [0, 1]), (1, [0, 1, 7, 8]), (2, [0, 1, 7, 8, 9]), (3, [0, 1, 5, 7, 8]), (4, [0, 1, 5, 7, 8, 16]), (5, [1, 4]), (6, [0, 1, 7, 8]), (7, [1, 4])]
noncomputable def d69 : FnD := ⟨19, [.tmp 4], Tryd.f69.body.getD .skip, k69, false, []⟩
def k70 : Keep := assoc [] [(0, [0, 1]), (1, [0, 1, 5]), (2, [0, 1, 5, 6]), (3, [0, 1, 5, 6, 11]), (4, [0, 1, 5, 6, 7]), (5, [0, 1, 5, 7]), (6, [0, 1, 5, 6]), (7, [4])]
noncomputable def d70 : FnD := ⟨25, [.tmp 4], Tryd.f70.body.getD .skip, k70, false, [(4, .own 33), (5, .own 33)]⟩
def k71 : Keep := assoc [] [(0, [0, 1]), (1, [0, 1, 10]), (2, [4]), (3, [0, 1, 5]), (4, [0, 1, 5, 14]), (5, [0, 1, 5]), (6, [0, 1, 5, 25]), (7, [4]), (8, [4])]
noncomputable def d71 : FnD := ⟨26, [.tmp 4], Tryd.f71.body.getD .skip, k71, false, []⟩
def k72 : Keep := assoc [] [(0, [0, 1, 2]), (1, [0, 1, 2, 14]), (2, [2, 6]), (3, [1, 2, 15, 16, 17]), (4, [1, 2, 15, 16, 17, 18]), (5, [1, 2, 7, 8, 15, 16, 17]), (6, [1, 2, 8, 9, 15, 16, 17]), (7, [1, 2, 15, 16, 17, 30]), (8, [2, 6]), (9, [1, 2, 15, 16, 17]), (10, [2, 6])]
noncomputable def d72 : FnD := ⟨32, [.tmp 6], Tryd.f72.body.getD .skip, k72, false, []⟩
def k73 : Keep := assoc [] [(0, [2, 3]), (1, [4])]
noncomputable def d73 : FnD := ⟨17, [.tmp 4], Tryd.f73.body.getD .skip, k73, false, []⟩
def k74 : Keep := assoc [] [(0, [0, 1, 2]), (1, [0, 1, 2, 14]), (2, [2, 6]), (3, [1, 2, 15, 16, 17]), (4, [1, 2, 15, 16, 17, 18]), (5, [1, 2, 7, 8, 15, 16, 17]), (6, [1, 2, 8, 9, 15, 16, 17]), (7, [1, 2, 15, 16, 17, 30]), (8, [2, 6]), (9, [1, 2, 15, 16, 17]), (10, [2, 6])]
noncomputable def d74 : FnD := ⟨32, [.tmp 6], Tryd.f74.body.getD .skip, k74, false, []⟩
def k75 : Keep := assoc [] [(0, [0]), (1, [0, 3]), (2, [3, 6, 7, 8]), (3, [3, 6, 7, 8, 9]), (4, [3, 5, 6, 7, 8]), (5, [3, 5, 6, 7, 8, 15]), (6, [3, 6, 7, 8]), (7, [3, 6, 7, 8]), (8, [2])]
noncomputable def d75 : FnD := ⟨22, [.tmp 2], Tryd.f75.body.getD .skip, k75, false, [(2, .own 57), (3, .own 57), (5000005, .no)]⟩
def k76 : Keep := assoc [] [(0, [0, 1]), (1, [1, 4])]
noncomputable def d76 : FnD := ⟨9, [.tmp 4], Tryd.f76.body.getD .skip, k76, false, []⟩
def k77 : Keep := assoc [] [(0, [0, 1]), (1, [1, 3])]
noncomputable def d77 : FnD := ⟨7, [.tmp 3], Tryd.f77.body.getD .skip, k77, false, []⟩
def k78 : Keep := assoc [] [(0, [1, 2, 4]), (1, [1, 2, 4, 5]), (2, [1, 2, 4, 5, 13, 14, 15]), (3, [1, 2, 4, 5, 13, 14, 15, 16]), (4, [1, 2, 4, 5, 7, 13, 14, 15]), (5, [1, 2, 4, 5, 13, 14, 15]), (6, [1, 2, 4, 5, 13, 14, 15]), (7, [1, 2, 4, 5, 33, 34, 35]), (8, [1, 2, 4, 5, 33, 34, 35, 36]), (9, [1, 2, 4, 5, 9, 33, 34, 35]), (10, [1, 2, 4, 5, 33, 34, 35]), (11, [1, 2, 4, 5, 33, 34, 35]), (12, [1, 4, 5, 49, 50, 51]), (13, [1, 4, 5, 49, 50, 51, 52]), (14, [1, 4, 5, 11, 49, 50, 51]), (15, [1, 4, 5, 49, 50, 51]), (16, [1, 4, 5, 49, 50, 51]), (17, [1, 4])]
noncomputable def d78 : FnD := ⟨69, [.cell 4 26], Tryd.f78.body.getD .skip, k78, false, [(5, .agg [.own 57, .own 33, .own 57])]⟩
def k79 : Keep := assoc [] [(0, [0, 1, 2]), (1, [1, 2, 5]), (2, [1, 2, 5, 10, 11, 12]), (3, [1, 2, 5, 10, 11, 12, 13]), (4, [1, 2, 5, 6, 7, 10, 11, 12]), (5, [1, 2, 5, 6, 7, 10, 11, 12, 18]), (6, [1, 2, 5, 6, 7, 10, 11, 12, 23]), (7, [1, 2, 5, 6, 7, 10, 11, 12]), (8, [1, 2, 5, 6, 7, 10, 11, 12]), (9, [1, 2, 5, 10, 11, 12]), (10, [1, 2, 5, 10, 11, 12]), (11, [1, 2, 4])]
noncomputable def d79 : FnD := ⟨40, [.tmp 4], Tryd.f79.body.getD .skip, k79, false, [(2008000, .no), (2010005, .no), (2030005, .no), (2039005, .no)]⟩
def k80 : Keep := assoc [] [(0, [0]), (1, [0, 4]), (2, [2]), (3, [2])]
noncomputable def d80 : FnD := ⟨8, [.tmp 2], Tryd.f80.body.getD .skip, k80, false, [(2, .own 3)]⟩
def k81 : Keep := assoc [] [(0, [0]), (1, [0, 3]), (2, [0, 3, 4]), (3, [0, 3, 4, 10]), (4, [0, 3, 4]), (5, [0, 3, 4, 5]), (6, [0, 3, 4, 5, 6]), (7, [0, 3, 4, 5, 6, 16]), (8, [0, 3, 4, 5, 6]), (9, [0, 3, 4, 5, 6]), (10, [0, 3, 4, 32]), (11, [0, 3, 4]), (12, [2])]
noncomputable def d81 : FnD := ⟨41, [.tmp 2], Tryd.f81.body.getD .skip, k81, false, [(2, .own 57), (3, .own 57)]⟩
def k82 : Keep := assoc [] [(0, [0, 1]), (1, [0, 1, 5]), (2, [0, 1, 5, 9]), (3, [0, 1, 5]), (4, [0, 1, 5, 18]), (5, [4]), (6, [4])]
noncomputable def d82 : FnD := ⟨20, [.tmp 4], Tryd.f82.body.getD .skip, k82, false, []⟩
def k83 : Keep := assoc [] [(0, [0, 3, 4]), (1, [0, 3, 4, 5]), (2, [0, 3, 4, 5, 6]), (3, [0, 3, 4, 5, 6, 13]), (4, [0, 3, 4, 5, 6]), (5, [0, 3, 4, 5, 6]), (6, [0, 3, 4, 5, 7]), (7, [0, 3, 4, 5, 7, 40]), (8, [0, 3, 4, 5, 7]), (9, [0, 3, 4, 5, 7]), (10, [0, 3, 4, 5, 8]), (11, [0, 3, 4, 5, 8, 59]), (12, [0, 3, 4, 5, 8]), (13, [0, 3, 4, 5, 8]), (14, [4])]
noncomputable def d83 : FnD := ⟨83, [.cell 4 26], Tryd.f83.body.getD .skip, k83, false, [(5, .agg [.own 57, .own 33, .own 57])]⟩
def k84 : Keep := assoc [] [(0, [1]), (1, [2])]
noncomputable def d84 : FnD := ⟨36, [.tmp 2], Tryd.f84.body.getD .skip, k84, false, []⟩
def k85 : Keep := assoc [] [(0, [0, 1]), (1, [0, 1, 7, 8]), (2, [0, 1, 7, 8, 9]), (3, [0, 1, 5, 7, 8]), (4, [0, 1, 5, 7, 8, 17]), (5, [4]), (6, [0, 1, 7, 8]), (7, [4])]
noncomputable def d85 : FnD := ⟨20, [.tmp 4], Tryd.f85.body.getD .skip, k85, false, []⟩
def k86 : Keep := assoc [] [(0, [0, 3]), (1, [4])]
noncomputable def d86 : FnD := ⟨9, [.tmp 4], Tryd.f86.body.getD .skip, k86, false, []⟩
def k87 : Keep := assoc [] [(0, [0, 1]), (1, [6, 7]), (2, [6, 15]), (3, [4, 5]), (4, [4, 5])]
noncomputable def d87 : FnD := ⟨18, [.tmp 4, .tmp 5], Tryd.f87.body.getD .skip, k87, false, []⟩
def k88 : Keep := assoc [] [(0, [1]), (1, [1, 20]), (2, [2]), (3, [1, 3]), (4, [1, 3, 25]), (5, [1, 3]), (6, [1, 3, 47]), (7, [2]), (8, [2])]
noncomputable def d88 : FnD := ⟨76, [.tmp 2], Tryd.f88.body.getD .skip, k88, false, []⟩
def k89 : Keep := assoc [] [(0, [0, 1]), (1, [0, 1, 5]), (2, [0, 1, 5, 9]), (3, [0, 1, 5]), (4, [0, 1, 5, 18]), (5, [4]), (6, [4])]
noncomputable def d89 : FnD := ⟨20, [.tmp 4], Tryd.f89.body.getD .skip, k89, false, []⟩
def k90 : Keep := assoc [] [(0, [0, 1]), (1, [4])]
noncomputable def d90 : FnD := ⟨46, [.tmp 4], Tryd.f90.body.getD .skip, k90, false, []⟩
def k91 : Keep := assoc [] [(0, [0, 1, 2]), (1, [0, 1, 7, 8]), (2, [0, 1, 7, 8, 11]), (3, [0, 1, 7, 8, 31]), (4, [6]), (5, [0, 1, 7, 8]), (6, [0, 1, 7, 8, 38]), (7, [0, 1, 7, 8, 47]), (8, [6]), (9, [0, 1, 7, 8]), (10, [0, 1, 7, 8]), (11, [6])]
noncomputable def d91 : FnD := ⟨61, [.tmp 6], Tryd.f91.body.getD .skip, k91, false, []⟩
def k92 : Keep := assoc [] [(0, [0, 2]), (1, [0, 2, 6]), (2, [0, 2]), (3, [0, 2])]
noncomputable def d92 : FnD := ⟨18, [], Tryd.f92.body.getD .skip, k92, false, []⟩
def k93 : Keep := assoc [] [(0, [1, 3, 4, 6]), (1, [8])]
noncomputable def d93 : FnD := ⟨18, [.tmp 8], Tryd.f93.body.getD .skip, k93, false, []⟩
def k94 : Keep := assoc [] [(0, [1, 2, 3, 4]), (1, [8])]
noncomputable def d94 : FnD := ⟨18, [.tmp 8], Tryd.f94.body.getD .skip, k94, false, []⟩
def k95 : Keep := assoc [] [(0, [0, 1]), (1, [4])]
noncomputable def d95 : FnD := ⟨17, [.tmp 4], Tryd.f95.body.getD .skip, k95, false, []⟩
def k96 : Keep := assoc [] [(0, [0]), (1, [2])]
noncomputable def d96 : FnD := ⟨6, [.tmp 2], Tryd.f96.body.getD .skip, k96, false, []⟩
def k99 : Keep := assoc [] [(0, [0, 1]), (1, [0, 1, 5]), (2, [0, 1, 5, 9]), (3, [0, 1, 5]), (4, [0, 1, 5, 18]), (5, [4]), (6, [4])]
noncomputable def d99 : FnD := ⟨19, [.tmp 4], Tryd.f99.body.getD .skip, k99, false, []⟩
def k100 : Keep := assoc [] [(0, [0, 1, 2]), (1, [0, 1, 2, 8]), (2, [0, 1, 2, 8, 14]), (3, [6, 7]), (4, [0, 1, 2, 8, 9, 10]), (5, [0, 1, 2, 8, 9, 25]), (6, [6, 7]), (7, [0, 1, 2, 8, 9]), (8, [0, 1, 2, 8]), (9, [0, 1, 2, 8, 33]), (10, [6, 7])]
noncomputable def d100 : FnD := ⟨35, [.tmp 6, .tmp 7], Tryd.f100.body.getD .skip, k100, false, []⟩
def k101 : Keep := assoc [] [(0, [0, 1, 2]), (1, [0, 1, 7, 8]), (2, [0, 1, 7, 8, 11]), (3, [0, 1, 7, 8]), (4, [0, 1, 7, 8, 18]), (5, [0, 1, 7, 8]), (6, [0, 1, 7, 8]), (7, [6])]
noncomputable def d101 : FnD := ⟨32, [.tmp 6], Tryd.f101.body.getD .skip, k101, false, []⟩
def k102 : Keep := assoc [] [(0, [1, 2]), (1, [1, 3])]
noncomputable def d102 : FnD := ⟨7, [.tmp 3], Tryd.f102.body.getD .skip, k102, false, []⟩
def k103 : Keep := assoc [] [(0, [0, 1]), (1, [0, 1, 7, 8]), (2, [0, 1, 7, 8, 9]), (3, [0, 1, 5, 7, 8]), (4, [0, 1, 5, 7, 8, 16]), (5, [1, 4]), (6, [0, 1, 7, 8]), (7, [1, 4])]
noncomputable def d103 : FnD := ⟨19, [.tmp 4], Tryd.f103.body.getD .skip, k103, false, []⟩
def k104 : Keep := assoc [] [(0, [2, 3]), (1, [4])]
noncomputable def d104 : FnD := ⟨17, [.tmp 4], Tryd.f104.body.getD .skip, k104, false, []⟩
def k105 : Keep := assoc [] [(0, [0, 1]), (1, [0, 1, 5]), (2, [0, 1, 5, 6]), (3, [0, 1, 5, 6, 11]), (4, [0, 1, 5, 6]), (5, [0, 1, 5, 6, 7]), (6, [0, 1, 5, 6, 7, 18]), (7, [0, 1, 5, 6, 7]), (8, [0, 1, 5, 6, 7, 27]), (9, [0, 1, 5, 6]), (10, [0, 1, 5, 6]), (11, [4])]
noncomputable def d105 : FnD := ⟨43, [.tmp 4], Tryd.f105.body.getD .skip, k105, false, [(4, .own 3), (5, .own 3)]⟩
def k106 : Keep := assoc [] [(0, [0]), (1, [0, 16]), (2, [2]), (3, [0, 18, 19]), (4, [0, 18, 19, 20]), (5, [0, 3, 18, 19]), (6, [0, 18, 19, 38]), (7, [2]), (8, [0, 18, 19]), (9, [2])]
noncomputable def d106 : FnD := ⟨40, [.tmp 2], Tryd.f106.body.getD .skip, k106, false, []⟩
def k107 : Keep := assoc [] [(0, [0, 1]), (1, [0, 1, 33]), (2, [4]), (3, [0, 1, 5, 6]), (4, [4])]
noncomputable def d107 : FnD := ⟨54, [.tmp 4], Tryd.f107.body.getD .skip, k107, false, []⟩
def k108 : Keep := assoc [] [(0, [0, 1]), (1, [0, 1, 17]), (2, [4, 5]), (3, [0, 1, 6]), (4, [0, 1, 6, 7]), (5, [0, 1, 6, 7, 21]), (6, [4, 5]), (7, [0, 1, 6, 7, 8, 9]), (8, [0, 1, 6, 7, 8, 31]), (9, [4, 5]), (10, [0, 1, 6, 8]), (11, [0, 1, 6, 7])]
noncomputable def d108 : FnD := ⟨37, [.tmp 4, .tmp 5], Tryd.f108.body.getD .skip, k108, false, [(4, .own 3)]⟩
def k109 : Keep := assoc [] [(0, [0]), (1, [2])]
noncomputable def d109 : FnD := ⟨9, [.tmp 2], Tryd.f109.body.getD .skip, k109, false, []⟩
def k110 : Keep := assoc [] [(0, [1, 2, 3, 4]), (1, [2, 4, 9]), (2, [2, 4, 9, 19]), (3, [8]), (4, [8])]
noncomputable def d110 : FnD := ⟨35, [.tmp 8], Tryd.f110.body.getD .skip, k110, false, []⟩
def k111 : Keep := assoc [] [(0, [1, 2, 3]), (1, [1, 2, 3, 12]), (2, [6]), (3, [2, 3, 7]), (4, [2, 3, 7, 8]), (5, [2, 3, 7, 8, 20]), (6, [2, 3, 7, 8]), (7, [2, 3, 7, 8]), (8, [6])]
noncomputable def d111 : FnD := ⟨44, [.tmp 6], Tryd.f111.body.getD .skip, k111, false, []⟩
def k112 : Keep := assoc [] [(0, [1, 2, 3, 4]), (1, [1, 2, 3, 4, 9]), (2, [1, 2, 3, 4, 9, 10]), (3, [1, 2, 3, 4, 9, 10, 16]), (4, [1, 2, 3, 4, 9, 11, 12]), (5, [1, 2, 3, 4, 9, 12]), (6, [1, 2, 3, 4, 9, 10]), (7, [8])]
noncomputable def d112 : FnD := ⟨32, [.tmp 8], Tryd.f112.body.getD .skip, k112, false, [(8, .own 3), (9, .own 3)]⟩
def k113 : Keep := assoc [] [(0, [0]), (1, [2])]
noncomputable def d113 : FnD := ⟨6, [.tmp 2], Tryd.f113.body.getD .skip, k113, false, []⟩
def k115 : Keep := assoc [] [(0, [0, 1]), (1, [0, 1, 6]), (2, [4, 5]), (3, [0, 1, 12]), (4, [4, 5]), (5, [4, 5])]
noncomputable def d115 : FnD := ⟨30, [.tmp 4, .tmp 5], Tryd.f115.body.getD .skip, k115, false, []⟩
def k116 : Keep := assoc [] [(0, [0]), (1, [2])]
noncomputable def d116 : FnD := ⟨9, [.tmp 2], Tryd.f116.body.getD .skip, k116, false, []⟩
def k117 : Keep := assoc [] [(0, [1, 2, 3, 4, 5]), (1, [1, 2, 3, 4, 5, 12]), (2, [1, 2, 3, 4, 5, 12, 22]), (3, [10, 11]), (4, [1, 2, 3, 4, 5, 12, 13]), (5, [1, 2, 3, 4, 5, 12, 13]), (6, [1, 2, 3, 4, 5, 12, 13, 14]), (7, [1, 2, 3, 4, 5, 12, 13, 14, 38]), (8, [1, 2, 3, 4, 5, 12, 13, 14]), (9, [1, 2, 4, 5, 12, 13, 14, 15, 16]), (10, [1, 2, 4, 5, 12, 13, 14, 16]), (11, [1, 2, 3, 4, 5, 12, 13, 14]), (12, [10, 11])]
noncomputable def d117 : FnD := ⟨63, [.tmp 10, .tmp 11], Tryd.f117.body.getD .skip, k117, false, [(13, .own 3)]⟩
noncomputable def code : List (FuncId × FnD) := [(3, d3), (4, d4), (5, d5), (6, d6), (7, d7), (8, d8), (9, d9), (10, d10), (11, d11), (12, d12), (13, d13), (14, d14), (15, d15), (16, d16), (17, d17), (18, d18), (19, d19), (20, d20), (21, d21), (22, d22), (23, d23), (24, d24), (25, d25), (26, d26), (27, d27), (28, d28), (29, d29), (30, d30), (31, d31), (32, d32), (33, d33), (34, d34), (35, d35), (36, d36), (37, d37), (38, d38), (39, d39), (40, d40), (41, d41), (42, d42), (43, d43), (44, d44), (45, d45), (46, d46), (47, d47), (48, d48), (49, d49), (50, d50), (51, d51), (52, d52), (53, d53), (54, d54), (55, d55), (56, d56), (57, d57), (58, d58), (59, d59), (60, d60), (61, d61), (62, d62), (64, d64), (65, d65), (67, d67), (68, d68), (69, d69), (70, d70), (71, d71), (72, d72), (73, d73), (74, d74), (75, d75), (76, d76), (77, d77), (78, d78), (79, d79), (80, d80), (81, d81), (82, d82), (83, d83), (84, d84), (85, d85), (86, d86), (87, d87), (88, d88), (89, d89), (90, d90), (91, d91), (92, d92), (93, d93), (94, d94), (95, d95), (96, d96), (99, d99), (100, d100), (101, d101), (102, d102), (103, d103), (104, d104), (105, d105), (106, d106), (107, d107), (108, d108), (109, d109), (110, d110), (111, d111), (112, d112), (113, d113), (115, d115), (116, d116), (117, d117)]
theorem code_ok : CodeOk Tryd.prog code :=
  .cons Tryd.func3 ⟨rfl, rfl, rfl, by decide +kernel⟩ <|
  .cons Tryd.func4 ⟨rfl, rfl, rfl, by decide +kernel⟩ <|
  .cons Tryd.func5 ⟨rfl, rfl, rfl, by decide +kernel⟩ <|
  .cons Tryd.func6 ⟨rfl, rfl, rfl, by decide +kernel⟩ <|
  .cons Tryd.func7 ⟨rfl, rfl, rfl, by decide +kernel⟩ <|
  .cons Tryd.func8 ⟨rfl, rfl, rfl, by decide +kernel⟩ <|
  .cons Tryd.func9 ⟨rfl, rfl, rfl, by decide +kernel⟩ <|
  .cons Tryd.func10 ⟨rfl, rfl, rfl, by decide +kernel⟩ <|
  .cons Tryd.func11 ⟨rfl, rfl, rfl, by decide +kernel⟩ <|
  .cons Tryd.func12 ⟨rfl, rfl, rfl, by decide +kernel⟩ <|
  .cons Tryd.func13 ⟨rfl, rfl, rfl, by decide +kernel⟩ <|
  .cons Tryd.func14 ⟨rfl, rfl, rfl, by decide +kernel⟩ <|
  .cons Tryd.func15 ⟨rfl, rfl, rfl, by decide +kernel⟩ <|
  .cons Tryd.func16 ⟨rfl, rfl, rfl, by decide +kernel⟩ <|
  .cons Tryd.func17 ⟨rfl, rfl, rfl, by decide +kernel⟩ <|
  .cons Tryd.func18 ⟨rfl, rfl, rfl, by decide +kernel⟩ <|
  .cons Tryd.func19 ⟨rfl, rfl, rfl, by decide +kernel⟩ <|
  .cons Tryd.func20 ⟨rfl, rfl, rfl, by decide +kernel⟩ <|
  .cons Tryd.func21 ⟨rfl, rfl, rfl, by decide +kernel⟩ <|
  .cons Tryd.func22 ⟨rfl, rfl, rfl, by decide +kernel⟩ <|
  .cons Tryd.func23 ⟨rfl, rfl, rfl, by decide +kernel⟩ <|
  .cons Tryd.func24 ⟨rfl, rfl, rfl, by decide +kernel⟩ <|
  .cons Tryd.func25 ⟨rfl, rfl, rfl, by decide +kernel⟩ <|
  .cons Tryd.func26 ⟨rfl, rfl, rfl, by decide +kernel⟩ <|
  .cons Tryd.func27 ⟨rfl, rfl, rfl, by decide +kernel⟩ <|
  .cons Tryd.func28 ⟨rfl, rfl, rfl, by decide +kernel⟩ <|
  .cons Tryd.func29 ⟨rfl, rfl, rfl, by decide +kernel⟩ <|
  .cons Tryd.func30 ⟨rfl, rfl, rfl, by decide +kernel⟩ <|
  .cons Tryd.func31 ⟨rfl, rfl, rfl, by decide +kernel⟩ <|
  .cons Tryd.func32 ⟨rfl, rfl, rfl, by decide +kernel⟩ <|
  .cons Tryd.func33 ⟨rfl, rfl, rfl, by decide +kernel⟩ <|
  .cons Tryd.func34 ⟨rfl, rfl, rfl, by decide +kernel⟩ <|
  .cons Tryd.func35 ⟨rfl, rfl, rfl, by decide +kernel⟩ <|
  .cons Tryd.func36 ⟨rfl, rfl, rfl, by decide +kernel⟩ <|
  .cons Tryd.func37 ⟨rfl, rfl, rfl, by decide +kernel⟩ <|
  .cons Tryd.func38 ⟨rfl, rfl, rfl, by decide +kernel⟩ <|
  .cons Tryd.func39 ⟨rfl, rfl, rfl, by decide +kernel⟩ <|
  .cons Tryd.func40 ⟨rfl, rfl, rfl, by decide +kernel⟩ <|
  .cons Tryd.func41 ⟨rfl, rfl, rfl, by decide +kernel⟩ <|
  .cons Tryd.func42 ⟨rfl, rfl, rfl, by decide +kernel⟩ <|
  .cons Tryd.func43 ⟨rfl, rfl, rfl, by decide +kernel⟩ <|
  .cons Tryd.func44 ⟨rfl, rfl, rfl, by decide +kernel⟩ <|
  .cons Tryd.func45 ⟨rfl, rfl, rfl, by decide +kernel⟩ <|
  .cons Tryd.func46 ⟨rfl, rfl, rfl, by decide +kernel⟩ <|
  .cons Tryd.func47 ⟨rfl, rfl, rfl, by decide +kernel⟩ <|
  .cons Tryd.func48 ⟨rfl, rfl, rfl, by decide +kernel⟩ <|
  .cons Tryd.func49 ⟨rfl, rfl, rfl, by decide +kernel⟩ <|
  .cons Tryd.func50 ⟨rfl, rfl, rfl, by decide +kernel⟩ <|
  .cons Tryd.func51 ⟨rfl, rfl, rfl, by decide +kernel⟩ <|
  .cons Tryd.func52 ⟨rfl, rfl, rfl, by decide +kernel⟩ <|
  .cons Tryd.func53 ⟨rfl, rfl, rfl, by decide +kernel⟩ <|
  .cons Tryd.func54 ⟨rfl, rfl, rfl, by decide +kernel⟩ <|
  .cons Tryd.func55 ⟨rfl, rfl, rfl, by decide +kernel⟩ <|
  .cons Tryd.func56 ⟨rfl, rfl, rfl, by decide +kernel⟩ <|
  .cons Tryd.func57 ⟨rfl, rfl, rfl, by decide +kernel⟩ <|
  .cons Tryd.func58 ⟨rfl, rfl, rfl, by decide +kernel⟩ <|
  .cons Tryd.func59 ⟨rfl, rfl, rfl, by decide +kernel⟩ <|
  .cons Tryd.func60 ⟨rfl, rfl, rfl, by decide +kernel⟩ <|
  .cons Tryd.func61 ⟨rfl, rfl, rfl, by decide +kernel⟩ <|
  .cons Tryd.func62 ⟨rfl, rfl, rfl, by decide +kernel⟩ <|
  .cons Tryd.func64 ⟨rfl, rfl, rfl, by decide +kernel⟩ <|
  .cons Tryd.func65 ⟨rfl, rfl, rfl, by decide +kernel⟩ <|
  .cons Tryd.func67 ⟨rfl, rfl, rfl, by decide +kernel⟩ <|
  .cons Tryd.func68 ⟨rfl, rfl, rfl, by decide +kernel⟩ <|
  .cons Tryd.func69 ⟨rfl, rfl, rfl, by decide +kernel⟩ <|
  .cons Tryd.func70 ⟨rfl, rfl, rfl, by decide +kernel⟩ <|
  .cons Tryd.func71 ⟨rfl, rfl, rfl, by decide +kernel⟩ <|
  .cons Tryd.func72 ⟨rfl, rfl, rfl, by decide +kernel⟩ <|
  .cons Tryd.func73 ⟨rfl, rfl, rfl, by decide +kernel⟩ <|
  .cons Tryd.func74 ⟨rfl, rfl, rfl, by decide +kernel⟩ <|
  .cons Tryd.func75 ⟨rfl, rfl, rfl, by decide +kernel⟩ <|
  .cons Tryd.func76 ⟨rfl, rfl, rfl, by decide +kernel⟩ <|
  .cons Tryd.func77 ⟨rfl, rfl, rfl, by decide +kernel⟩ <|
  .cons Tryd.func78 ⟨rfl, rfl, rfl, by decide +kernel⟩ <|
  .cons Tryd.func79 ⟨rfl, rfl, rfl, by decide +kernel⟩ <|
  .cons Tryd.func80 ⟨rfl, rfl, rfl, by decide +kernel⟩ <|
  .cons Tryd.func81 ⟨rfl, rfl, rfl, by decide +kernel⟩ <|
  .cons Tryd.func82 ⟨rfl, rfl, rfl, by decide +kernel⟩ <|
  .cons Tryd.func83 ⟨rfl, rfl, rfl, by decide +kernel⟩ <|
  .cons Tryd.func84 ⟨rfl, rfl, rfl, by decide +kernel⟩ <|
  .cons Tryd.func85 ⟨rfl, rfl, rfl, by decide +kernel⟩ <|
  .cons Tryd.func86 ⟨rfl, rfl, rfl, by decide +kernel⟩ <|
  .cons Tryd.func87 ⟨rfl, rfl, rfl, by decide +kernel⟩ <|
  .cons Tryd.func88 ⟨rfl, rfl, rfl, by decide +kernel⟩ <|
  .cons Tryd.func89 ⟨rfl, rfl, rfl, by decide +kernel⟩ <|
  .cons Tryd.func90 ⟨rfl, rfl, rfl, by decide +kernel⟩ <|
  .cons Tryd.func91 ⟨rfl, rfl, rfl, by decide +kernel⟩ <|
  .cons Tryd.func92 ⟨rfl, rfl, rfl, by decide +kernel⟩ <|
  .cons Tryd.func93 ⟨rfl, rfl, rfl, by decide +kernel⟩ <|
  .cons Tryd.func94 ⟨rfl, rfl, rfl, by decide +kernel⟩ <|
  .cons Tryd.func95 ⟨rfl, rfl, rfl, by decide +kernel⟩ <|
  .cons Tryd.func96 ⟨rfl, rfl, rfl, by decide +kernel⟩ <|
  .cons Tryd.func99 ⟨rfl, rfl, rfl, by decide +kernel⟩ <|
  .cons Tryd.func100 ⟨rfl, rfl, rfl, by decide +kernel⟩ <|
  .cons Tryd.func101 ⟨rfl, rfl, rfl, by decide +kernel⟩ <|
  .cons Tryd.func102 ⟨rfl, rfl, rfl, by decide +kernel⟩ <|
  .cons Tryd.func103 ⟨rfl, rfl, rfl, by decide +kernel⟩ <|
  .cons Tryd.func104 ⟨rfl, rfl, rfl, by decide +kernel⟩ <|
  .cons Tryd.func105 ⟨rfl, rfl, rfl, by decide +kernel⟩ <|
  .cons Tryd.func106 ⟨rfl, rfl, rfl, by decide +kernel⟩ <|
  .cons Tryd.func107 ⟨rfl, rfl, rfl, by decide +kernel⟩ <|
  .cons Tryd.func108 ⟨rfl, rfl, rfl, by decide +kernel⟩ <|
  .cons Tryd.func109 ⟨rfl, rfl, rfl, by decide +kernel⟩ <|
  .cons Tryd.func110 ⟨rfl, rfl, rfl, by decide +kernel⟩ <|
  .cons Tryd.func111 ⟨rfl, rfl, rfl, by decide +kernel⟩ <|
  .cons Tryd.func112 ⟨rfl, rfl, rfl, by decide +kernel⟩ <|
  .cons Tryd.func113 ⟨rfl, rfl, rfl, by decide +kernel⟩ <|
  .cons Tryd.func115 ⟨rfl, rfl, rfl, by decide +kernel⟩ <|
  .cons Tryd.func116 ⟨rfl, rfl, rfl, by decide +kernel⟩ <|
  .cons Tryd.func117 ⟨rfl, rfl, rfl, by decide +kernel⟩ <|
  .nil _
def R : Rets := fun f => match f with
  | 9 => [(.agg [.own 57 2, .own 33 1, .own 57 2], [.d .any])]
  | 10 => [(.tup [.d (.int .i64), .d (.int .i64)], [.d .any, .d .any])]
  | 11 => [(.tup [.d (.int .i64), .d (.int .i64)], [.d .any, .d .any])]
  | 12 => [(.tup [.own 3 1, .d (.int .i64)], [.d .any, .d .any])]
  | 13 => [(.tup [.own 3 1, .d (.int .i64)], [.d .any, .d .any])]
  | 14 => [(.tup [.d (.bool), .d (.int .i64)], [.d .any, .d .any])]
  | 15 => [(.tup [.d (.bool), .d (.int .i64)], [.d .any, .d .any])]
  | 16 => [(.tup [.d (.bool), .d (.int .i64)], [.d .any, .d .any, .d .any])]
  | 18 => [(.d (.bool), [.d .any, .d .any])]
  | 19 => [(.d (.bool), [.d .any, .d .any])]
  | 20 => [(.d (.int .i64), [.d .any])]
  | 21 => [(.d (.bool), [.d .any, .d .any])]
  | 22 => [(.d (.bool), [.d .any, .d .any])]
  | 23 => [(.d (.bool), [])]
  | 24 => [(.tup [.agg [.own 57 2, .own 33 1, .own 57 2], .d (.int .i64)], [.d .any, .d .any]), (.tup [.d (.agg [.nil 2, .nil 1, .nil 2]), .d (.int .i64)], [.d .any, .d .any])]
  | 27 => [(.d (.bool), [.d .any])]
  | 28 => [(.d (.agg [.int .i64, .sl 1]), [.d .any, .d .any])]
  | 29 => [(.d (.bool), [.d .any, .d .any, .d .any])]
  | 31 => [(.own 57 2, [.d .any])]
  | 32 => [(.own 33 1, [.d .any])]
  | 33 => [(.d (.int .i64), [.d .any, .d .any])]
  | 34 => [(.d (.int .i64), [.d .any, .d .any])]
  | 35 => [(.own 57 2, [.d .any])]
  | 36 => [(.own 3 1, [.dead, .d .any])]
  | 37 => [(.own 3 1, [.d .any])]
  | 38 => [(.d (.bool), [.d .any, .d .any])]
  | 39 => [(.d (.bool), [.d .any, .any]), (.d (.bool), [.d .any, .any])]
  | 40 => [(.d (.bool), [.d .any, .any])]
  | 41 => [(.d (.bool), [.d .any, .d .any])]
  | 42 => [(.d (.bool), [.d .any, .d .any])]
  | 43 => [(.d (.bool), [.d .any, .d .any])]
  | 44 => [(.agg [.own 57 2, .own 33 1, .own 57 2], [.d .any])]
  | 45 => [(.d (.bool), [.d .any, .d .any])]
  | 47 => [(.d (.bool), [.d .any])]
  | 48 => [(.tup [.d (.int .i64), .d (.bool)], [.d .any, .d .any])]
  | 49 => [(.tup [.d (.int .i64), .d (.bool)], [.d .any, .d .any])]
  | 50 => [(.d (.bool), [.d .any])]
  | 51 => [(.d (.bool), [.d .any, .d .any])]
  | 52 => [(.d (.int .i64), [.d .any, .d .any])]
  | 53 => [(.own 33 1, [.d .any])]
  | 54 => [(.d (.bool), [.d .any, .d .any])]
  | 55 => [(.d (.bool), [.d .any, .d .any])]
  | 58 => [(.own 3 1, [])]
  | 59 => [(.d (.bool), [.d .any, .d .any, .d .any, .d .any])]
  | 60 => [(.d (.bool), [.d .any, .own 3 1, .own 3 1])]
  | 61 => [(.own 3 1, [.d .any])]
  | 62 => [(.d (.int .i64), [.d .any, .d .any])]
  | 63 => [(.own 57 2, [.d .any, .d .any])]
  | 64 => [(.tup [.d (.int .i64), .d (.bool)], [.d .any, .d .any])]
  | 65 => [(.d (.int .i64), [.d .any])]
  | 67 => [(.own 3 1, [.d .any])]
  | 68 => [(.own 33 1, [.d .any, .d .any])]
  | 69 => [(.d (.int .i64), [.d .any, .any]), (.d (.int .i64), [.d .any, .any])]
  | 70 => [(.own 33 1, [.d .any, .d .any])]
  | 71 => [(.d (.bool), [.d .any, .d .any])]
  | 72 => [(.d (.bool), [.d .any, .d .any, .d .any])]
  | 73 => [(.d (.bool), [.d .any, .d .any])]
  | 74 => [(.d (.bool), [.d .any, .d .any, .d .any])]
  | 75 => [(.own 57 2, [.d .any])]
  | 76 => [(.d (.bool), [.d .any, .any])]
  | 77 => [(.d (.bool), [.d .any, .any])]
  | 78 => [(.agg [.own 57 2, .own 33 1, .own 57 2], [.d .any, .fn 79 [.dboxv 101 0, .dbox 3 0 [.int .i64]]])]
  | 79 => [(.own 3 1, [.d .any, .dboxv 101 0, .dbox 3 0 [.int .i64]])]
  | 80 => [(.own 3 1, [.d .any])]
  | 81 => [(.own 57 2, [.d .any])]
  | 82 => [(.d (.int .i64), [.d .any, .d .any])]
  | 83 => [(.agg [.own 57 2, .own 33 1, .own 57 2], [.d .any, .d .any])]
  | 84 => [(.d (.bool), [.d .any])]
  | 85 => [(.d (.int .i64), [.d .any, .d .any])]
  | 86 => [(.d (.bool), [.d .any, .d .any])]
  | 87 => [(.tup [.d (.int .i64), .d (.int .i64)], [.d .any, .d .any])]
  | 88 => [(.d (.bool), [.d .any])]
  | 89 => [(.d (.int .i64), [.d .any, .d .any])]
  | 90 => [(.d (.bool), [.d .any, .d .any])]
  | 91 => [(.d (.int .i64), [.d .any, .d .any, .d .any])]
  | 93 => [(.d (.bool), [.d .any, .d .any, .d .any, .d .any])]
  | 94 => [(.d (.bool), [.d .any, .d .any, .d .any, .d .any])]
  | 95 => [(.d (.bool), [.d .any, .d .any])]
  | 96 => [(.d (.bool), [.d .any])]
  | 99 => [(.d (.bool), [.d .any, .d .any])]
  | 100 => [(.tup [.d (.int .i64), .d (.bool)], [.d .any, .d .any, .d .any])]
  | 101 => [(.d (.int .i64), [.d .any, .d .any, .d .any])]
  | 102 => [(.d (.bool), [.d .any, .any])]
  | 103 => [(.d (.int .i64), [.d .any, .any])]
  | 104 => [(.d (.bool), [.d .any, .d .any])]
  | 105 => [(.own 3 1, [.d .any, .d .any])]
  | 106 => [(.d (.bool), [.d .any])]
  | 107 => [(.d (.bool), [.d .any, .d .any])]
  | 108 => [(.tup [.own 3 1, .d (.bool)], [.d .any, .d .any])]
  | 109 => [(.d (.bool), [.d .any])]
  | 110 => [(.d (.bool), [.d .any, .d .any, .d .any, .d .any])]
  | 111 => [(.d (.int .i64), [.d .any, .d .any, .d .any])]
  | 112 => [(.own 3 1, [.d .any, .d .any, .d .any, .d .any])]
  | 113 => [(.d (.bool), [.d .any])]
  | 115 => [(.tup [.d (.int .i64), .d (.bool)], [.d .any, .d .any])]
  | 116 => [(.d (.bool), [.d .any])]
  | 117 => [(.tup [.d (.int .i64), .d (.int .i64)], [.d .any, .d .any, .d .any, .d .any, .d .any])]
  | _ => [(.any, [])]
noncomputable def F : Fx := ⟨T, [(0, [.str "=".toUTF8, .int .i64 0, .int .i64 2, .int .i64 1])], codeOf code, fun f => match f with | 63 => some (growP 57 2) | _ => none⟩
def L9 : Lps := fun b => match b with
  | _ => [.norm []]
def L10 : Lps := fun b => match b with
  | 0 => [.norm [(0, .d (.sl 4)), (6, .d (.int .i64)), (14, .d (.sl 2)), (15, .d (.int .i64)), (16, .d (.int .i64))]]
  | _ => [.norm []]
def L12 : Lps := fun b => match b with
  | 0 => [.norm [(3, .dbox 26 0 [.sl 2, .sl 1, .sl 2]), (6, .own 3 1), (20, .own 57 2), (21, .d (.int .i64)), (22, .d (.int .i64))]]
  | 2 => [.norm [(6, .own 3 1), (32, .d (.sl 1)), (33, .d (.int .i64)), (34, .d (.int .i64))]]
  | _ => [.norm []]
def L14 : Lps := fun b => match b with
  | 0 => [.ret [(4, .d (.bool)), (5, .d (.int .i64))], .norm [(0, .d (.sl 4)), (3, .dbox 26 0 [.sl 2, .sl 1, .sl 2]), (13, .d (.sl 2)), (14, .d (.int .i64)), (15, .d (.int .i64))]]
  | _ => [.norm []]
def L16 : Lps := fun b => match b with
  | _ => [.norm []]
def L18 : Lps := fun b => match b with
  | _ => [.norm []]
def L20 : Lps := fun b => match b with
  | _ => [.norm []]
def L21 : Lps := fun b => match b with
  | 0 => [.ret [(4, .d (.bool))], .norm [(0, .d (.sl 1)), (1, .d (.sl 1)), (5, .d (.int .i64))]]
  | _ => [.norm []]
def L22 : Lps := fun b => match b with
  | _ => [.norm []]
def L24 : Lps := fun b => match b with
  | _ => [.norm []]
def L27 : Lps := fun b => match b with
  | _ => [.norm []]
def L28 : Lps := fun b => match b with
  | _ => [.norm []]
def L29 : Lps := fun b => match b with
  | 0 => [.ret [(6, .d (.bool))]]
  | _ => [.norm []]
def L33 : Lps := fun b => match b with
  | 0 => [.norm [(0, .d (.sl 4)), (5, .d (.int .i64)), (8, .d (.sl 1)), (9, .d (.int .i64)), (10, .d (.int .i64))]]
  | _ => [.norm []]
def L35 : Lps := fun b => match b with
  | 0 => [.norm [(0, .d (.sl 1)), (3, .d (.int .i64)), (9, .d (.sl 1)), (10, .d (.int .i64)), (11, .d (.int .i64))]]
  | 2 => [.norm [(6, .own 57 2), (25, .d (.sl 1)), (26, .d (.int .i64)), (27, .d (.int .i64))]]
  | _ => [.norm []]
def L36 : Lps := fun b => match b with
  | 0 => [.norm [(0, .own 3 1), (9, .d (.sl 1)), (10, .d (.int .i64)), (11, .d (.int .i64))]]
  | _ => [.norm []]
def L37 : Lps := fun b => match b with
  | 0 => [.norm [(3, .own 3 1), (4, .own 33 1), (5, .d (.int .i64))]]
  | _ => [.norm []]
def L38 : Lps := fun b => match b with
  | _ => [.norm []]
def L39 : Lps := fun b => match b with
  | _ => [.norm []]
def L40 : Lps := fun b => match b with
  | _ => [.norm []]
def L41 : Lps := fun b => match b with
  | 0 => [.ret [(4, .d (.bool))], .norm [(0, .d (.sl 1)), (1, .d (.sl 1)), (12, .d (.int .i64)), (13, .d (.int .i64))]]
  | _ => [.norm []]
def L43 : Lps := fun b => match b with
  | _ => [.norm []]
def L44 : Lps := fun b => match b with
  | 0 => [.norm [(2, .dbox 26 0 [.nil 2, .nil 1, .nil 2]), (3, .ptr 26 0 [.own 57 2, .own 33 1, .own 57 2]), (16, .d (.sl 1)), (17, .d (.int .i64)), (18, .d (.int .i64))]]
  | _ => [.norm []]
def L47 : Lps := fun b => match b with
  | 0 => [.ret [(2, .d (.bool))], .norm [(0, .d (.sl 4)), (3, .d (.int .i64))]]
  | _ => [.norm []]
def L48 : Lps := fun b => match b with
  | 0 => [.ret [(4, .d (.int .i64)), (5, .d (.bool))], .norm [(0, .d (.sl 4)), (6, .d (.int .i64)), (9, .d (.sl 2)), (10, .d (.int .i64)), (11, .d (.int .i64))]]
  | _ => [.norm []]
def L49 : Lps := fun b => match b with
  | 0 => [.ret [(4, .d (.int .i64)), (5, .d (.bool))], .norm [(0, .d (.sl 4)), (6, .d (.int .i64)), (7, .d (.int .i64)), (12, .d (.sl 1)), (13, .d (.int .i64)), (14, .d (.int .i64))]]
  | _ => [.norm []]
def L53 : Lps := fun b => match b with
  | 0 => [.norm [(1, .dbox 26 0 [.sl 2, .sl 1, .sl 2]), (3, .own 33 1), (4, .d (.int .i64))]]
  | 2 => [.norm [(1, .dbox 26 0 [.sl 2, .sl 1, .sl 2]), (3, .own 33 1), (5, .d (.int .i64))]]
  | 4 => [.norm [(1, .dbox 26 0 [.sl 2, .sl 1, .sl 2]), (3, .own 33 1), (6, .d (.int .i64))]]
  | _ => [.norm []]
def L54 : Lps := fun b => match b with
  | 0 => [.ret [(4, .d (.bool))], .norm [(0, .d (.sl 2)), (1, .d (.sl 2)), (5, .d (.int .i64))]]
  | _ => [.norm []]
def L55 : Lps := fun b => match b with
  | 0 => [.ret [(4, .d (.bool))], .norm [(0, .d (.sl 1)), (1, .d (.sl 1)), (5, .d (.int .i64))]]
  | _ => [.norm []]
def L58 : Lps := fun b => match b with
  | _ => [.norm []]
def L59 : Lps := fun b => match b with
  | 0 => [.ret [(8, .d (.bool))], .norm [(1, .d (.sl 4)), (3, .d (.sl 1)), (4, .dbox 61 0 [.int .i64, .sl 1]), (6, .dbox 26 0 [.sl 2, .sl 1, .sl 2]), (9, .d (.int .i64))]]
  | 2 => [.ret [(8, .d (.bool))], .norm [(1, .d (.sl 4)), (3, .d (.sl 1)), (4, .dbox 61 0 [.int .i64, .sl 1]), (6, .dbox 26 0 [.sl 2, .sl 1, .sl 2]), (10, .d (.int .i64))]]
  | 4 => [.ret [(8, .d (.bool))], .norm [(1, .d (.sl 4)), (3, .d (.sl 1)), (4, .dbox 61 0 [.int .i64, .sl 1]), (6, .dbox 26 0 [.sl 2, .sl 1, .sl 2]), (11, .d (.int .i64))]]
  | _ => [.norm []]
def L60 : Lps := fun b => match b with
  | 0 => [.ret [(1, .own 3 1), (2, .own 3 1), (6, .d (.bool))], .norm [(1, .own 3 1), (2, .own 3 1), (3, .dbox 61 0 [.int .i64, .sl 1]), (7, .d (.int .i64))]]
  | _ => [.norm []]
def L64 : Lps := fun b => match b with
  | 0 => [.norm [(0, .d (.sl 1)), (1, .d (.int .i64)), (6, .d (.int .i64)), (7, .d (.int .i64)), (8, .d (.int .i64))]]
  | _ => [.norm []]
def L65 : Lps := fun b => match b with
  | _ => [.norm []]
def L67 : Lps := fun b => match b with
  | 0 => [.norm [(0, .d (.sl 1)), (3, .own 3 1), (4, .d (.int .i64))]]
  | _ => [.norm []]
def L68 : Lps := fun b => match b with
  | 0 => [.ret [(4, .own 33 1)], .norm [(0, .d (.sl 4)), (1, .d (.sl 1)), (5, .own 33 1), (6, .d (.int .i64))]]
  | _ => [.norm []]
def L69 : Lps := fun b => match b with
  | 0 => [.ret [(1, .fn 40 [.dptr [.bool, .sl 1]]), (4, .d (.int .i64))], .norm [(0, .d (.sl 2)), (1, .fn 40 [.dptr [.bool, .sl 1]]), (7, .d (.int .i64)), (8, .d (.int .i64))], .ret [(1, .fn 102 [.dptr [.bool, .sl 1]]), (4, .d (.int .i64))], .norm [(0, .d (.sl 2)), (1, .fn 102 [.dptr [.bool, .sl 1]]), (7, .d (.int .i64)), (8, .d (.int .i64))]]
  | _ => [.norm []]
def L72 : Lps := fun b => match b with
  | 0 => [.ret [(2, .d (.fn 73)), (6, .d (.bool))], .norm [(1, .d (.sl 2)), (2, .d (.fn 73)), (15, .d (.sl 2)), (16, .d (.int .i64)), (17, .d (.int .i64))]]
  | _ => [.norm []]
def L73 : Lps := fun b => match b with
  | _ => [.norm []]
def L74 : Lps := fun b => match b with
  | 0 => [.ret [(2, .d (.fn 41)), (6, .d (.bool))], .norm [(1, .d (.sl 1)), (2, .d (.fn 41)), (15, .d (.sl 1)), (16, .d (.int .i64)), (17, .d (.int .i64))]]
  | _ => [.norm []]
def L75 : Lps := fun b => match b with
  | 0 => [.norm [(3, .own 57 2), (6, .d (.sl 2)), (7, .d (.int .i64)), (8, .d (.int .i64))]]
  | _ => [.norm []]
def L76 : Lps := fun b => match b with
  | _ => [.norm []]
def L77 : Lps := fun b => match b with
  | _ => [.norm []]
def L78 : Lps := fun b => match b with
  | 0 => [.norm [(1, .fn 79 [.dboxv 101 0, .dbox 3 0 [.int .i64]]), (2, .dbox 26 0 [.sl 2, .sl 1, .sl 2]), (4, .dbox 26 0 [.nil 2, .nil 1, .nil 2]), (5, .ptr 26 0 [.own 57 2, .own 33 1, .own 57 2]), (13, .d (.sl 2)), (14, .d (.int .i64)), (15, .d (.int .i64))]]
  | 2 => [.norm [(1, .fn 79 [.dboxv 101 0, .dbox 3 0 [.int .i64]]), (2, .dbox 26 0 [.sl 2, .sl 1, .sl 2]), (4, .dbox 26 0 [.nil 2, .nil 1, .nil 2]), (5, .ptr 26 0 [.own 57 2, .own 33 1, .own 57 2]), (33, .d (.sl 1)), (34, .d (.int .i64)), (35, .d (.int .i64))]]
  | 4 => [.norm [(1, .fn 79 [.dboxv 101 0, .dbox 3 0 [.int .i64]]), (4, .dbox 26 0 [.nil 2, .nil 1, .nil 2]), (5, .ptr 26 0 [.own 57 2, .own 33 1, .own 57 2]), (49, .d (.sl 2)), (50, .d (.int .i64)), (51, .d (.int .i64))]]
  | _ => [.norm []]
def L79 : Lps := fun b => match b with
  | 0 => [.norm [(1, .dboxv 101 0), (2, .dbox 3 0 [.int .i64]), (5, .own 3 1), (11, .d (.int .i64)), (12, .d (.int .i64)), (2010045, .dead)]]
  | _ => [.norm []]
def L80 : Lps := fun b => match b with
  | _ => [.norm []]
def L84 : Lps := fun b => match b with
  | _ => [.norm []]
def L85 : Lps := fun b => match b with
  | 0 => [.ret [(4, .d (.int .i64))], .norm [(0, .d (.sl 4)), (1, .d (.str)), (7, .d (.int .i64)), (8, .d (.int .i64))]]
  | _ => [.norm []]
def L86 : Lps := fun b => match b with
  | _ => [.norm []]
def L87 : Lps := fun b => match b with
  | _ => [.norm []]
def L88 : Lps := fun b => match b with
  | 0 => [.ret [(2, .d (.bool))], .norm [(1, .dbox 88 0 [.str, .int .i64, .int .i64, .int .i64]), (3, .d (.int .i64))]]
  | _ => [.norm []]
def L93 : Lps := fun b => match b with
  | _ => [.norm []]
def L94 : Lps := fun b => match b with
  | _ => [.norm []]
def L95 : Lps := fun b => match b with
  | _ => [.norm []]
def L96 : Lps := fun b => match b with
  | _ => [.norm []]
def L99 : Lps := fun b => match b with
  | 0 => [.ret [(4, .d (.bool))], .norm [(0, .d (.sl 1)), (1, .d (.int .i64)), (5, .d (.int .i64))]]
  | _ => [.norm []]
def L100 : Lps := fun b => match b with
  | 1000000 => [.ret [(6, .d (.int .i64)), (7, .d (.bool))]]
  | _ => [.norm []]
def L102 : Lps := fun b => match b with
  | _ => [.norm []]
def L103 : Lps := fun b => match b with
  | 0 => [.ret [(1, .fn 77 [.dptr [.sl 1]]), (4, .d (.int .i64))], .norm [(0, .d (.sl 1)), (1, .fn 77 [.dptr [.sl 1]]), (7, .d (.int .i64)), (8, .d (.int .i64))]]
  | _ => [.norm []]
def L106 : Lps := fun b => match b with
  | 0 => [.ret [(2, .d (.bool))], .norm [(0, .d (.str)), (18, .d (.int .i64)), (19, .d (.int .i64))]]
  | _ => [.norm []]
def L107 : Lps := fun b => match b with
  | _ => [.norm []]
def L108 : Lps := fun b => match b with
  | 1000000 => [.ret [(4, .own 3 1), (5, .d (.bool))]]
  | _ => [.norm []]
def L109 : Lps := fun b => match b with
  | _ => [.norm []]
def L110 : Lps := fun b => match b with
  | _ => [.norm []]
def L111 : Lps := fun b => match b with
  | 0 => [.norm [(2, .d (.sl 1)), (3, .dbox 61 0 [.int .i64, .sl 1]), (7, .d (.int .u64)), (8, .d (.int .i64))]]
  | _ => [.norm []]
def L112 : Lps := fun b => match b with
  | 0 => [.norm [(1, .d (.sl 4)), (2, .d (.sl 1)), (3, .d (.sl 1)), (4, .dbox 61 0 [.int .i64, .sl 1]), (9, .own 3 1), (10, .d (.int .i64))]]
  | _ => [.norm []]
def L113 : Lps := fun b => match b with
  | _ => [.norm []]
def L115 : Lps := fun b => match b with
  | _ => [.norm []]
def L116 : Lps := fun b => match b with
  | _ => [.norm []]
def L117 : Lps := fun b => match b with
  | 0 => [.norm [(1, .d (.sl 4)), (2, .d (.sl 1)), (3, .d (.int .i64)), (4, .d (.sl 1)), (5, .dbox 61 0 [.int .i64, .sl 1]), (12, .d (.int .i64)), (13, .own 3 1), (14, .d (.int .i64))]]
  | _ => [.norm []]
end Go.Proofs.YtjhganbjbiihoaaDoor.Ab

/- Written by a program of this session (wip/tools/AbSym.lean). Not trusted: Lean checks it. -/
set_option maxRecDepth 100000
set_option linter.unusedVariables false
namespace Go.Proofs.YtjhganbjbiihoaaDoor.Ab
open Go Go.Ab Go.Proofs
theorem q9 (C J) (z1 : Bool) (x2 : List D) (e3 : List D) (z4 : Bool) (x5 : List D) (e6 : List D) (z7 : Bool) (x8 : List D) (e9 : List D) (Q) : fnW F C R (L9) J d9 [.d (.agg [.sl 2 z1 x2 e3, .sl 1 z4 x5 e6, .sl 2 z7 x8 e9])] Q = (∃ w0 w1 w2, C 31 [IV.d (D.sl 2 z1 x2 e3)] = some (IV.own w0 57 2 w1, [IV.d w2]) ∧ ∃ w3 w4 w5, C 32 [IV.d (D.sl 1 z4 x5 e6)] = some (IV.own w3 33 1 w4, [IV.d w5]) ∧ ∃ w6 w7 w8, C 31 [IV.d (D.sl 2 z7 x8 e9)] = some (IV.own w6 57 2 w7, [IV.d w8]) ∧ Q (some (IV.agg [IV.own w0 57 2 w1, IV.own w3 33 1 w4, IV.own w6 57 2 w7], [IV.d (D.agg [D.sl 2 z1 x2 e3, D.sl 1 z4 x5 e6, D.sl 2 z7 x8 e9])]))) := by kernel_rfl
theorem q116 (C J) (i1 : Int) (Q) : fnW F C R (L116) J d116 [.d (.int .u8 i1)] Q = (condW (decide (i1 ≥ 97)) (condW (decide (i1 ≤ 122)) (Q (some (IV.d (D.bool true), [IV.d (D.int IntKind.u8 i1)]))) (Q (some (IV.d (D.bool false), [IV.d (D.int IntKind.u8 i1)])))) (Q (some (IV.d (D.bool false), [IV.d (D.int IntKind.u8 i1)])))) := by kernel_rfl
theorem q106 (C J) (s1 : ByteArray) (Q) : fnW F C R (L106) J d106 [.d (.str s1)] Q = (condW (ByteArray.toList s1 == ByteArray.toList { data := #[] }) (Q (some (IV.d (D.bool false), [IV.d (D.str s1)]))) (condW (decide ((↑(ByteArray.size s1) : Int) > 8)) (Q (some (IV.d (D.bool false), [IV.d (D.str s1)]))) (condW (decide (0 < (↑(ByteArray.size s1) : Int))) (∃ w0 w1, C 116 [IV.d (D.int IntKind.u8 (byteAt s1 (Int.toNat 0)))] = some (IV.d (D.bool w0), [IV.d w1]) ∧ condW w0 ((∃ w2, evP F C J d106 [] [1, 1, 0, 1] [(0, IV.d (D.str s1)), (18, IV.d (D.int IntKind.i64 (↑(ByteArray.size s1) : Int))), (19, IV.d (D.int IntKind.i64 0))] = some (Out.ret [(2, IV.d (D.bool w2))]) ∧ Q (some (IV.d (D.bool w2), [IV.d (D.str s1)]))) ∨ ∃ w3 w4 w5, evP F C J d106 [] [1, 1, 0, 1] [(0, IV.d (D.str s1)), (18, IV.d (D.int IntKind.i64 (↑(ByteArray.size s1) : Int))), (19, IV.d (D.int IntKind.i64 0))] = some (Out.norm [(0, IV.d (D.str w3)), (18, IV.d (D.int IntKind.i64 w4)), (19, IV.d (D.int IntKind.i64 w5))]) ∧ Q (some (IV.d (D.bool true), [IV.d (D.str s1)]))) (Q (some (IV.d (D.bool false), [IV.d (D.str s1)])))) False))) := by kernel_rfl
theorem q106_l0a (C J) (s1 : ByteArray) (i2 : Int) (i3 : Int) (Q) : wpQ F C R (L106) J d106 [] [1,1,0,1,0,0] [(0, .d (.str s1)), (18, .d (.int .i64 i2)), (19, .d (.int .i64 i3))] Q = (condW (decide (i3 < i2)) (condW (decide (0 ≤ i3)) (condW (decide (i3 < (↑(ByteArray.size s1) : Int))) (∃ w0 w1, C 116 [IV.d (D.int IntKind.u8 (byteAt s1 (Int.toNat i3)))] = some (IV.d (D.bool w0), [IV.d w1]) ∧ condW w0 (Q (Out.norm [(0, IV.d (D.str s1)), (18, IV.d (D.int IntKind.i64 i2)), (19, IV.d (D.int IntKind.i64 (IntKind.wrap IntKind.i64 (i3 + 1))))])) (condW (decide (0 ≤ i3)) (condW (decide (i3 < (↑(ByteArray.size s1) : Int))) (condW (decide (byteAt s1 (Int.toNat i3) < 48)) (Q (Out.ret [(2, IV.d (D.bool false))])) (condW (decide (0 ≤ i3)) (condW (decide (i3 < (↑(ByteArray.size s1) : Int))) (condW (decide (byteAt s1 (Int.toNat i3) > 57)) (Q (Out.ret [(2, IV.d (D.bool false))])) (Q (Out.norm [(0, IV.d (D.str s1)), (18, IV.d (D.int IntKind.i64 i2)), (19, IV.d (D.int IntKind.i64 (IntKind.wrap IntKind.i64 (i3 + 1))))]))) False) False)) False) False)) False) False) (Q (Out.exit 0 [(0, IV.d (D.str s1)), (18, IV.d (D.int IntKind.i64 i2)), (19, IV.d (D.int IntKind.i64 i3))]))) := by kernel_rfl
theorem q84 (C J) (s1 : ByteArray) (i2 : Int) (i3 : Int) (i4 : Int) (Q) : fnW F C R (L84) J d84 [.d (.agg [.str s1, .int .i64 i2, .int .i64 i3, .int .i64 i4])] Q = (∃ w0 w1, C 106 [IV.d (D.str s1)] = some (IV.d (D.bool w0), [IV.d w1]) ∧ condW w0 (condW (decide (i2 ≥ 0)) (condW (decide (i2 ≤ 2)) (condW (decide (i3 ≥ 0)) (condW (decide (i3 ≤ 3)) (condW (decide (i4 ≥ 1)) (condW (decide (i4 ≤ 20)) (Q (some (IV.d (D.bool true), [IV.d (D.agg [D.str s1, D.int IntKind.i64 i2, D.int IntKind.i64 i3, D.int IntKind.i64 i4])]))) (Q (some (IV.d (D.bool false), [IV.d (D.agg [D.str s1, D.int IntKind.i64 i2, D.int IntKind.i64 i3, D.int IntKind.i64 i4])])))) (Q (some (IV.d (D.bool false), [IV.d (D.agg [D.str s1, D.int IntKind.i64 i2, D.int IntKind.i64 i3, D.int IntKind.i64 i4])])))) (Q (some (IV.d (D.bool false), [IV.d (D.agg [D.str s1, D.int IntKind.i64 i2, D.int IntKind.i64 i3, D.int IntKind.i64 i4])])))) (Q (some (IV.d (D.bool false), [IV.d (D.agg [D.str s1, D.int IntKind.i64 i2, D.int IntKind.i64 i3, D.int IntKind.i64 i4])])))) (Q (some (IV.d (D.bool false), [IV.d (D.agg [D.str s1, D.int IntKind.i64 i2, D.int IntKind.i64 i3, D.int IntKind.i64 i4])])))) (Q (some (IV.d (D.bool false), [IV.d (D.agg [D.str s1, D.int IntKind.i64 i2, D.int IntKind.i64 i3, D.int IntKind.i64 i4])])))) (Q (some (IV.d (D.bool false), [IV.d (D.agg [D.str s1, D.int IntKind.i64 i2, D.int IntKind.i64 i3, D.int IntKind.i64 i4])])))) := by kernel_rfl
theorem q85 (C J) (z1 : Bool) (x2 : List D) (e3 : List D) (s4 : ByteArray) (Q) : fnW F C R (L85) J d85 [.d (.sl 4 z1 x2 e3), .d (.str s4)] Q = ((∃ w0, evP F C J d85 [] [1, 0, 1] [(0, IV.d (D.sl 4 z1 x2 e3)), (1, IV.d (D.str s4)), (7, IV.d (D.int IntKind.i64 (↑(List.length x2) : Int))), (8, IV.d (D.int IntKind.i64 0))] = some (Out.ret [(4, IV.d (D.int IntKind.i64 w0))]) ∧ Q (some (IV.d (D.int IntKind.i64 w0), [IV.d (D.sl 4 z1 x2 e3), IV.d (D.str s4)]))) ∨ ∃ w1 w2 w3 w4 w5 w6, evP F C J d85 [] [1, 0, 1] [(0, IV.d (D.sl 4 z1 x2 e3)), (1, IV.d (D.str s4)), (7, IV.d (D.int IntKind.i64 (↑(List.length x2) : Int))), (8, IV.d (D.int IntKind.i64 0))] = some (Out.norm [(0, IV.d (D.sl 4 w1 w2 w3)), (1, IV.d (D.str w4)), (7, IV.d (D.int IntKind.i64 w5)), (8, IV.d (D.int IntKind.i64 w6))]) ∧ Q (some (IV.d (D.int IntKind.i64 (-1)), [IV.d (D.sl 4 z1 x2 e3), IV.d (D.str s4)]))) := by kernel_rfl
theorem q85_l0a (C J) (z1 : Bool) (x2 : List D) (e3 : List D) (s4 : ByteArray) (i5 : Int) (i6 : Int) (Q) : wpQ F C R (L85) J d85 [] [1,0,1,0,0] [(0, .d (.sl 4 z1 x2 e3)), (1, .d (.str s4)), (7, .d (.int .i64 i5)), (8, .d (.int .i64 i6))] Q = (condW (decide (i6 < i5)) (condW (decide (0 ≤ i6)) (∃ w0 w1 w2 w3, x2[Int.toNat i6]? = some (D.agg [D.str w0, D.int IntKind.i64 w1, D.int IntKind.i64 w2, D.int IntKind.i64 w3]) ∧ condW (ByteArray.toList w0 == ByteArray.toList s4) (Q (Out.ret [(4, IV.d (D.int IntKind.i64 i6))])) (Q (Out.norm [(0, IV.d (D.sl 4 z1 x2 e3)), (1, IV.d (D.str s4)), (7, IV.d (D.int IntKind.i64 i5)), (8, IV.d (D.int IntKind.i64 (IntKind.wrap IntKind.i64 (i6 + 1))))]))) False) (Q (Out.exit 0 [(0, IV.d (D.sl 4 z1 x2 e3)), (1, IV.d (D.str s4)), (7, IV.d (D.int IntKind.i64 i5)), (8, IV.d (D.int IntKind.i64 i6))]))) := by kernel_rfl
theorem q47 (C J) (z1 : Bool) (x2 : List D) (e3 : List D) (Q) : fnW F C R (L47) J d47 [.d (.sl 4 z1 x2 e3)] Q = (condW (decide ((↑(List.length x2) : Int) < 1)) (Q (some (IV.d (D.bool false), [IV.d (D.sl 4 z1 x2 e3)]))) (condW (decide ((↑(List.length x2) : Int) > 20)) (Q (some (IV.d (D.bool false), [IV.d (D.sl 4 z1 x2 e3)]))) (∃ w0 w1 w2 w3, x2[0]? = some (D.agg [D.str w0, D.int IntKind.i64 w1, D.int IntKind.i64 w2, D.int IntKind.i64 w3]) ∧ condW (!(ByteArray.toList w0 == ByteArray.toList (String.toUTF8 "=") && (w1 == 0 && (w2 == 2 && (w3 == 1 && true))))) (Q (some (IV.d (D.bool false), [IV.d (D.sl 4 z1 x2 e3)]))) ((∃ w4, evP F C J d47 [] [1, 1, 0, 1] [(0, IV.d (D.sl 4 z1 x2 e3)), (3, IV.d (D.int IntKind.i64 1))] = some (Out.ret [(2, IV.d (D.bool w4))]) ∧ Q (some (IV.d (D.bool w4), [IV.d (D.sl 4 z1 x2 e3)]))) ∨ ∃ w5 w6 w7 w8, evP F C J d47 [] [1, 1, 0, 1] [(0, IV.d (D.sl 4 z1 x2 e3)), (3, IV.d (D.int IntKind.i64 1))] = some (Out.norm [(0, IV.d (D.sl 4 w5 w6 w7)), (3, IV.d (D.int IntKind.i64 w8))]) ∧ Q (some (IV.d (D.bool true), [IV.d (D.sl 4 z1 x2 e3)])))))) := by kernel_rfl
theorem q47_l0a (C J) (z1 : Bool) (x2 : List D) (e3 : List D) (i4 : Int) (Q) : wpQ F C R (L47) J d47 [] [1,1,0,1,0,0] [(0, .d (.sl 4 z1 x2 e3)), (3, .d (.int .i64 i4))] Q = (condW (decide (i4 < (↑(List.length x2) : Int))) (condW (decide (0 ≤ i4)) (∃ w0 w1 w2 w3, x2[Int.toNat i4]? = some (D.agg [D.str w0, D.int IntKind.i64 w1, D.int IntKind.i64 w2, D.int IntKind.i64 w3]) ∧ ∃ w4 w5, C 84 [IV.d (D.agg [D.str w0, D.int IntKind.i64 w1, D.int IntKind.i64 w2, D.int IntKind.i64 w3])] = some (IV.d (D.bool w4), [IV.d w5]) ∧ condW w4 (condW (decide (0 ≤ i4)) (∃ w6 w7 w8 w9, x2[Int.toNat i4]? = some (D.agg [D.str w6, D.int IntKind.i64 w7, D.int IntKind.i64 w8, D.int IntKind.i64 w9]) ∧ ∃ w10 w11 w12, C 85 [IV.d (D.sl 4 z1 x2 e3), IV.d (D.str w6)] = some (IV.d (D.int IntKind.i64 w10), [IV.d w11, IV.d w12]) ∧ condW (w10 != i4) (Q (Out.ret [(2, IV.d (D.bool false))])) (Q (Out.norm [(0, IV.d (D.sl 4 z1 x2 e3)), (3, IV.d (D.int IntKind.i64 (IntKind.wrap IntKind.i64 (i4 + 1))))]))) False) (Q (Out.ret [(2, IV.d (D.bool false))]))) False) (Q (Out.exit 0 [(0, IV.d (D.sl 4 z1 x2 e3)), (3, IV.d (D.int IntKind.i64 i4))]))) := by kernel_rfl
theorem q65 (C J) (i1 : Int) (Q) : fnW F C R (L65) J d65 [.d (.int .i64 i1)] Q = (Q (some (IV.d (D.int IntKind.i64 (IntKind.wrap IntKind.i64 (-1 - i1))), [IV.d (D.int IntKind.i64 i1)]))) := by kernel_rfl
theorem q115 (C J) (z1 : Bool) (x2 : List D) (e3 : List D) (i4 : Int) (Q) : fnW F C R (L115) J d115 [.d (.sl 4 z1 x2 e3), .d (.int .i64 i4)] Q = (condW (decide (i4 < 0)) (∃ w0 w1, C 65 [IV.d (D.int IntKind.i64 23)] = some (IV.d (D.int IntKind.i64 w0), [IV.d w1]) ∧ condW (decide (i4 ≥ w0)) (Q (some (IV.tup [IV.d (D.int IntKind.i64 0), IV.d (D.bool true)], [IV.d (D.sl 4 z1 x2 e3), IV.d (D.int IntKind.i64 i4)]))) (Q (some (IV.tup [IV.d (D.int IntKind.i64 0), IV.d (D.bool false)], [IV.d (D.sl 4 z1 x2 e3), IV.d (D.int IntKind.i64 i4)])))) (condW (decide (i4 ≥ (↑(List.length x2) : Int))) (Q (some (IV.tup [IV.d (D.int IntKind.i64 0), IV.d (D.bool false)], [IV.d (D.sl 4 z1 x2 e3), IV.d (D.int IntKind.i64 i4)]))) (condW (decide (0 ≤ i4)) (∃ w2 w3 w4 w5, x2[Int.toNat i4]? = some (D.agg [D.str w2, D.int IntKind.i64 w3, D.int IntKind.i64 w4, D.int IntKind.i64 w5]) ∧ condW (w3 == 0) (Q (some (IV.tup [IV.d (D.int IntKind.i64 0), IV.d (D.bool false)], [IV.d (D.sl 4 z1 x2 e3), IV.d (D.int IntKind.i64 i4)]))) (condW (decide (0 ≤ i4)) (∃ w6 w7 w8 w9, x2[Int.toNat i4]? = some (D.agg [D.str w6, D.int IntKind.i64 w7, D.int IntKind.i64 w8, D.int IntKind.i64 w9]) ∧ Q (some (IV.tup [IV.d (D.int IntKind.i64 w8), IV.d (D.bool true)], [IV.d (D.sl 4 z1 x2 e3), IV.d (D.int IntKind.i64 i4)]))) False)) False))) := by kernel_rfl
theorem q100 (C J) (z1 : Bool) (x2 : List D) (e3 : List D) (z4 : Bool) (x5 : List D) (e6 : List D) (i7 : Int) (Q) : fnW F C R (L100) J d100 [.d (.sl 4 z1 x2 e3), .d (.sl 1 z4 x5 e6), .d (.int .i64 i7)] Q = (condW (decide (i7 ≥ (↑(List.length x5) : Int))) (Q (some (IV.tup [IV.d (D.int IntKind.i64 0), IV.d (D.bool false)], [IV.d (D.sl 4 z1 x2 e3), IV.d (D.sl 1 z4 x5 e6), IV.d (D.int IntKind.i64 i7)]))) (condW (decide (0 ≤ i7)) (∃ w0, x5[Int.toNat i7]? = some (D.int IntKind.i64 w0) ∧ ∃ w1 w2 w3 w4, C 115 [IV.d (D.sl 4 z1 x2 e3), IV.d (D.int IntKind.i64 w0)] = some (IV.tup [IV.d (D.int IntKind.i64 w1), IV.d (D.bool w2)], [IV.d w3, IV.d w4]) ∧ condW w2 (condW (decide (IntKind.wrap IntKind.i64 (1 + IntKind.wrap IntKind.i64 (w1 - 1)) > 0)) (∃ w5 w6, evG J d100 [1, 0] 0 [(0, IV.d (D.sl 4 z1 x2 e3)), (1, IV.d (D.sl 1 z4 x5 e6)), (2, IV.d (D.int IntKind.i64 (IntKind.wrap IntKind.i64 (i7 + 1)))), (8, IV.d (D.int IntKind.i64 (IntKind.wrap IntKind.i64 (1 + IntKind.wrap IntKind.i64 (w1 - 1)))))] = some (Out.ret [(6, IV.d (D.int IntKind.i64 w5)), (7, IV.d (D.bool w6))]) ∧ Q (some (IV.tup [IV.d (D.int IntKind.i64 w5), IV.d (D.bool w6)], [IV.d (D.sl 4 z1 x2 e3), IV.d (D.sl 1 z4 x5 e6), IV.d (D.int IntKind.i64 i7)]))) (Q (some (IV.tup [IV.d (D.int IntKind.i64 (IntKind.wrap IntKind.i64 (i7 + 1))), IV.d (D.bool true)], [IV.d (D.sl 4 z1 x2 e3), IV.d (D.sl 1 z4 x5 e6), IV.d (D.int IntKind.i64 i7)])))) (Q (some (IV.tup [IV.d (D.int IntKind.i64 0), IV.d (D.bool false)], [IV.d (D.sl 4 z1 x2 e3), IV.d (D.sl 1 z4 x5 e6), IV.d (D.int IntKind.i64 i7)])))) False)) := by kernel_rfl
theorem q100_l1000000a (C J) (z1 : Bool) (x2 : List D) (e3 : List D) (z4 : Bool) (x5 : List D) (e6 : List D) (i7 : Int) (i8 : Int) (Q) : wpR F C R (L100) J d100 [] [1,0] 0 [(0, .d (.sl 4 z1 x2 e3)), (1, .d (.sl 1 z4 x5 e6)), (2, .d (.int .i64 i7)), (8, .d (.int .i64 i8))] Q = (condW (decide (i7 ≥ (↑(List.length x5) : Int))) (Q (Out.ret [(6, IV.d (D.int IntKind.i64 0)), (7, IV.d (D.bool false))])) (condW (decide (0 ≤ i7)) (∃ w0, x5[Int.toNat i7]? = some (D.int IntKind.i64 w0) ∧ ∃ w1 w2 w3 w4, C 115 [IV.d (D.sl 4 z1 x2 e3), IV.d (D.int IntKind.i64 w0)] = some (IV.tup [IV.d (D.int IntKind.i64 w1), IV.d (D.bool w2)], [IV.d w3, IV.d w4]) ∧ condW w2 (condW (decide (IntKind.wrap IntKind.i64 (i8 + IntKind.wrap IntKind.i64 (w1 - 1)) > 0)) (Q (Out.goto 0 [(0, IV.d (D.sl 4 z1 x2 e3)), (1, IV.d (D.sl 1 z4 x5 e6)), (2, IV.d (D.int IntKind.i64 (IntKind.wrap IntKind.i64 (i7 + 1)))), (8, IV.d (D.int IntKind.i64 (IntKind.wrap IntKind.i64 (i8 + IntKind.wrap IntKind.i64 (w1 - 1)))))])) (Q (Out.ret [(6, IV.d (D.int IntKind.i64 (IntKind.wrap IntKind.i64 (i7 + 1)))), (7, IV.d (D.bool true))]))) (Q (Out.ret [(6, IV.d (D.int IntKind.i64 0)), (7, IV.d (D.bool false))]))) False)) := by kernel_rfl
theorem q108 (C J) (z1 : Bool) (x2 : List D) (e3 : List D) (z4 : Bool) (x5 : List D) (e6 : List D) (Q) : fnW F C R (L108) J d108 [.d (.sl 4 z1 x2 e3), .d (.sl 1 z4 x5 e6)] Q = (∃ w0 w1, C 47 [IV.d (D.sl 4 z1 x2 e3)] = some (IV.d (D.bool w0), [IV.d w1]) ∧ condW w0 (condW (decide ((↑(List.length x5) : Int) > 48)) (Q (some (IV.tup [IV.own true 3 1 [], IV.d (D.bool false)], [IV.d (D.sl 4 z1 x2 e3), IV.d (D.sl 1 z4 x5 e6)]))) (condW (0 == (↑(List.length x5) : Int)) (Q (some (IV.tup [IV.own true 3 1 [], IV.d (D.bool true)], [IV.d (D.sl 4 z1 x2 e3), IV.d (D.sl 1 z4 x5 e6)]))) (∃ w2 w3 w4 w5 w6, C 100 [IV.d (D.sl 4 z1 x2 e3), IV.d (D.sl 1 z4 x5 e6), IV.d (D.int IntKind.i64 0)] = some (IV.tup [IV.d (D.int IntKind.i64 w2), IV.d (D.bool w3)], [IV.d w4, IV.d w5, IV.d w6]) ∧ condW w3 (∃ w7 w8 w9, evG J d108 [1, 0] 0 [(0, IV.d (D.sl 4 z1 x2 e3)), (1, IV.d (D.sl 1 z4 x5 e6)), (6, IV.own false 3 1 [D.int IntKind.i64 0]), (7, IV.d (D.int IntKind.i64 w2))] = some (Out.ret [(4, IV.own w7 3 1 w8), (5, IV.d (D.bool w9))]) ∧ Q (some (IV.tup [IV.own w7 3 1 w8, IV.d (D.bool w9)], [IV.d (D.sl 4 z1 x2 e3), IV.d (D.sl 1 z4 x5 e6)]))) (Q (some (IV.tup [IV.own true 3 1 [], IV.d (D.bool false)], [IV.d (D.sl 4 z1 x2 e3), IV.d (D.sl 1 z4 x5 e6)])))))) (Q (some (IV.tup [IV.own true 3 1 [], IV.d (D.bool false)], [IV.d (D.sl 4 z1 x2 e3), IV.d (D.sl 1 z4 x5 e6)])))) := by kernel_rfl
theorem q108_l1000000a (C J) (z1 : Bool) (x2 : List D) (e3 : List D) (z4 : Bool) (x5 : List D) (e6 : List D) (z7 : Bool) (x8 : List D) (i9 : Int) (Q) : wpR F C R (L108) J d108 [] [1,0] 0 [(0, .d (.sl 4 z1 x2 e3)), (1, .d (.sl 1 z4 x5 e6)), (6, .own z7 3 1 x8), (7, .d (.int .i64 i9))] Q = (condW (i9 == (↑(List.length x5) : Int)) (Q (Out.ret [(4, IV.own z7 3 1 x8), (5, IV.d (D.bool true))])) (∃ w0 w1 w2 w3 w4, C 100 [IV.d (D.sl 4 z1 x2 e3), IV.d (D.sl 1 z4 x5 e6), IV.d (D.int IntKind.i64 i9)] = some (IV.tup [IV.d (D.int IntKind.i64 w0), IV.d (D.bool w1)], [IV.d w2, IV.d w3, IV.d w4]) ∧ condW w1 (condW (decide (List.length x8 + (0 + 1) ≤ 9223372036854775807)) (condW (decide ((List.length x8 + (0 + 1)) * 8 ≤ 140737488355328)) (Q (Out.goto 0 [(0, IV.d (D.sl 4 z1 x2 e3)), (1, IV.d (D.sl 1 z4 x5 e6)), (6, IV.own (z7 && false) 3 1 (x8 ++ [D.int IntKind.i64 i9])), (7, IV.d (D.int IntKind.i64 w0))])) False) False) (Q (Out.ret [(4, IV.own true 3 1 []), (5, IV.d (D.bool false))])))) := by kernel_rfl
theorem q107 (C J) (z1 : Bool) (x2 : List D) (e3 : List D) (z4 : Bool) (x5 : List D) (e6 : List D) (Q) : fnW F C R (L107) J d107 [.d (.sl 4 z1 x2 e3), .d (.sl 1 z4 x5 e6)] Q = (condW ((↑(List.length x5) : Int) == 0) (Q (some (IV.d (D.bool false), [IV.d (D.sl 4 z1 x2 e3), IV.d (D.sl 1 z4 x5 e6)]))) (∃ w0, x5[0]? = some (D.int IntKind.i64 w0) ∧ condW (decide (w0 < 0)) (Q (some (IV.d (D.bool false), [IV.d (D.sl 4 z1 x2 e3), IV.d (D.sl 1 z4 x5 e6)]))) (∃ w1, x5[0]? = some (D.int IntKind.i64 w1) ∧ condW (decide (w1 ≥ (↑(List.length x2) : Int))) (Q (some (IV.d (D.bool false), [IV.d (D.sl 4 z1 x2 e3), IV.d (D.sl 1 z4 x5 e6)]))) (∃ w2, x5[0]? = some (D.int IntKind.i64 w2) ∧ condW (decide (0 ≤ w2)) (∃ w3 w4 w5 w6, x2[Int.toNat w2]? = some (D.agg [D.str w3, D.int IntKind.i64 w4, D.int IntKind.i64 w5, D.int IntKind.i64 w6]) ∧ condW (w4 != 0) (Q (some (IV.d (D.bool false), [IV.d (D.sl 4 z1 x2 e3), IV.d (D.sl 1 z4 x5 e6)]))) (condW (decide (1 ≤ (↑(List.length x5) : Int))) (∃ w7 w8 w9 w10 w11, C 108 [IV.d (D.sl 4 z1 x2 e3), IV.d (D.sl 1 z4 (List.drop (Int.toNat 1) x5) [])] = some (IV.tup [IV.own w7 3 1 w8, IV.d (D.bool w9)], [IV.d w10, IV.d w11]) ∧ condW w9 (∃ w12, x5[0]? = some (D.int IntKind.i64 w12) ∧ condW (decide (0 ≤ w12)) (∃ w13 w14 w15 w16, x2[Int.toNat w12]? = some (D.agg [D.str w13, D.int IntKind.i64 w14, D.int IntKind.i64 w15, D.int IntKind.i64 w16]) ∧ condW ((↑(List.length w8) : Int) == w15) (Q (some (IV.d (D.bool true), [IV.d (D.sl 4 z1 x2 e3), IV.d (D.sl 1 z4 x5 e6)]))) (Q (some (IV.d (D.bool false), [IV.d (D.sl 4 z1 x2 e3), IV.d (D.sl 1 z4 x5 e6)])))) False) (Q (some (IV.d (D.bool false), [IV.d (D.sl 4 z1 x2 e3), IV.d (D.sl 1 z4 x5 e6)])))) False)) False)))) := by kernel_rfl
theorem q86 (C J) (z1 : Bool) (x2 : List D) (e3 : List D) (b4 : Bool) (z5 : Bool) (x6 : List D) (e7 : List D) (Q) : fnW F C R (L86) J d86 [.d (.sl 4 z1 x2 e3), .d (.agg [.bool b4, .sl 1 z5 x6 e7])] Q = (∃ w0 w1 w2, C 107 [IV.d (D.sl 4 z1 x2 e3), IV.d (D.sl 1 z5 x6 e7)] = some (IV.d (D.bool w0), [IV.d w1, IV.d w2]) ∧ condW w0 (Q (some (IV.d (D.bool true), [IV.d (D.sl 4 z1 x2 e3), IV.d (D.agg [D.bool b4, D.sl 1 z5 x6 e7])]))) (Q (some (IV.d (D.bool false), [IV.d (D.sl 4 z1 x2 e3), IV.d (D.agg [D.bool b4, D.sl 1 z5 x6 e7])])))) := by kernel_rfl
theorem q48 (C J) (z1 : Bool) (x2 : List D) (e3 : List D) (z4 : Bool) (x5 : List D) (e6 : List D) (Q) : fnW F C R (L48) J d48 [.d (.sl 4 z1 x2 e3), .d (.sl 2 z4 x5 e6)] Q = ((∃ w0 w1, evP F C J d48 [] [1, 1, 0, 1] [(0, IV.d (D.sl 4 z1 x2 e3)), (6, IV.d (D.int IntKind.i64 0)), (9, IV.d (D.sl 2 z4 x5 e6)), (10, IV.d (D.int IntKind.i64 (↑(List.length x5) : Int))), (11, IV.d (D.int IntKind.i64 0))] = some (Out.ret [(4, IV.d (D.int IntKind.i64 w0)), (5, IV.d (D.bool w1))]) ∧ Q (some (IV.tup [IV.d (D.int IntKind.i64 w0), IV.d (D.bool w1)], [IV.d (D.sl 4 z1 x2 e3), IV.d (D.sl 2 z4 x5 e6)]))) ∨ ∃ w2 w3 w4 w5 w6 w7 w8 w9 w10, evP F C J d48 [] [1, 1, 0, 1] [(0, IV.d (D.sl 4 z1 x2 e3)), (6, IV.d (D.int IntKind.i64 0)), (9, IV.d (D.sl 2 z4 x5 e6)), (10, IV.d (D.int IntKind.i64 (↑(List.length x5) : Int))), (11, IV.d (D.int IntKind.i64 0))] = some (Out.norm [(0, IV.d (D.sl 4 w2 w3 w4)), (6, IV.d (D.int IntKind.i64 w5)), (9, IV.d (D.sl 2 w6 w7 w8)), (10, IV.d (D.int IntKind.i64 w9)), (11, IV.d (D.int IntKind.i64 w10))]) ∧ Q (some (IV.tup [IV.d (D.int IntKind.i64 w5), IV.d (D.bool true)], [IV.d (D.sl 4 z1 x2 e3), IV.d (D.sl 2 z4 x5 e6)]))) := by kernel_rfl
theorem q48_l0a (C J) (z1 : Bool) (x2 : List D) (e3 : List D) (i4 : Int) (z5 : Bool) (x6 : List D) (e7 : List D) (i8 : Int) (i9 : Int) (Q) : wpQ F C R (L48) J d48 [] [1,1,0,1,0,0] [(0, .d (.sl 4 z1 x2 e3)), (6, .d (.int .i64 i4)), (9, .d (.sl 2 z5 x6 e7)), (10, .d (.int .i64 i8)), (11, .d (.int .i64 i9))] Q = (condW (decide (i9 < i8)) (condW (decide (0 ≤ i9)) (∃ w0 w1 w2 w3, x6[Int.toNat i9]? = some (D.agg [D.bool w0, D.sl 1 w1 w2 w3]) ∧ ∃ w4 w5 w6, C 86 [IV.d (D.sl 4 z1 x2 e3), IV.d (D.agg [D.bool w0, D.sl 1 w1 w2 w3])] = some (IV.d (D.bool w4), [IV.d w5, IV.d w6]) ∧ condW w4 (Q (Out.norm [(0, IV.d (D.sl 4 z1 x2 e3)), (6, IV.d (D.int IntKind.i64 (IntKind.wrap IntKind.i64 (i4 + (↑(List.length w2) : Int))))), (9, IV.d (D.sl 2 z5 x6 e7)), (10, IV.d (D.int IntKind.i64 i8)), (11, IV.d (D.int IntKind.i64 (IntKind.wrap IntKind.i64 (i9 + 1))))])) (Q (Out.ret [(4, IV.d (D.int IntKind.i64 0)), (5, IV.d (D.bool false))]))) False) (Q (Out.exit 0 [(0, IV.d (D.sl 4 z1 x2 e3)), (6, IV.d (D.int IntKind.i64 i4)), (9, IV.d (D.sl 2 z5 x6 e7)), (10, IV.d (D.int IntKind.i64 i8)), (11, IV.d (D.int IntKind.i64 i9))]))) := by kernel_rfl
theorem q87 (C J) (z1 : Bool) (x2 : List D) (e3 : List D) (z4 : Bool) (x5 : List D) (e6 : List D) (Q) : fnW F C R (L87) J d87 [.d (.sl 4 z1 x2 e3), .d (.sl 1 z4 x5 e6)] Q = (∃ w0 w1 w2 w3 w4, C 108 [IV.d (D.sl 4 z1 x2 e3), IV.d (D.sl 1 z4 x5 e6)] = some (IV.tup [IV.own w0 3 1 w1, IV.d (D.bool w2)], [IV.d w3, IV.d w4]) ∧ condW w2 (Q (some (IV.tup [IV.d (D.int IntKind.i64 (↑(List.length w1) : Int)), IV.d (D.int IntKind.i64 0)], [IV.d (D.sl 4 z1 x2 e3), IV.d (D.sl 1 z4 x5 e6)]))) (Q (some (IV.tup [IV.d (D.int IntKind.i64 0), IV.d (D.int IntKind.i64 200)], [IV.d (D.sl 4 z1 x2 e3), IV.d (D.sl 1 z4 x5 e6)])))) := by kernel_rfl
theorem q49 (C J) (z1 : Bool) (x2 : List D) (e3 : List D) (z4 : Bool) (x5 : List D) (e6 : List D) (Q) : fnW F C R (L49) J d49 [.d (.sl 4 z1 x2 e3), .d (.sl 1 z4 x5 e6)] Q = ((∃ w0 w1, evP F C J d49 [] [1, 1, 0, 1] [(0, IV.d (D.sl 4 z1 x2 e3)), (6, IV.d (D.int IntKind.i64 0)), (7, IV.d (D.int IntKind.i64 0)), (12, IV.d (D.sl 1 z4 x5 e6)), (13, IV.d (D.int IntKind.i64 (↑(List.length x5) : Int))), (14, IV.d (D.int IntKind.i64 0))] = some (Out.ret [(4, IV.d (D.int IntKind.i64 w0)), (5, IV.d (D.bool w1))]) ∧ Q (some (IV.tup [IV.d (D.int IntKind.i64 w0), IV.d (D.bool w1)], [IV.d (D.sl 4 z1 x2 e3), IV.d (D.sl 1 z4 x5 e6)]))) ∨ ∃ w2 w3 w4 w5 w6 w7 w8 w9 w10 w11, evP F C J d49 [] [1, 1, 0, 1] [(0, IV.d (D.sl 4 z1 x2 e3)), (6, IV.d (D.int IntKind.i64 0)), (7, IV.d (D.int IntKind.i64 0)), (12, IV.d (D.sl 1 z4 x5 e6)), (13, IV.d (D.int IntKind.i64 (↑(List.length x5) : Int))), (14, IV.d (D.int IntKind.i64 0))] = some (Out.norm [(0, IV.d (D.sl 4 w2 w3 w4)), (6, IV.d (D.int IntKind.i64 w5)), (7, IV.d (D.int IntKind.i64 w6)), (12, IV.d (D.sl 1 w7 w8 w9)), (13, IV.d (D.int IntKind.i64 w10)), (14, IV.d (D.int IntKind.i64 w11))]) ∧ Q (some (IV.tup [IV.d (D.int IntKind.i64 w5), IV.d (D.bool true)], [IV.d (D.sl 4 z1 x2 e3), IV.d (D.sl 1 z4 x5 e6)]))) := by kernel_rfl
theorem q49_l0a (C J) (z1 : Bool) (x2 : List D) (e3 : List D) (i4 : Int) (i5 : Int) (z6 : Bool) (x7 : List D) (e8 : List D) (i9 : Int) (i10 : Int) (Q) : wpQ F C R (L49) J d49 [] [1,1,0,1,0,0] [(0, .d (.sl 4 z1 x2 e3)), (6, .d (.int .i64 i4)), (7, .d (.int .i64 i5)), (12, .d (.sl 1 z6 x7 e8)), (13, .d (.int .i64 i9)), (14, .d (.int .i64 i10))] Q = (condW (decide (i10 < i9)) (condW (decide (0 ≤ i10)) (∃ w0 w1 w2, x7[Int.toNat i10]? = some (D.sl 1 w0 w1 w2) ∧ ∃ w3 w4 w5 w6, C 87 [IV.d (D.sl 4 z1 x2 e3), IV.d (D.sl 1 w0 w1 w2)] = some (IV.tup [IV.d (D.int IntKind.i64 w3), IV.d (D.int IntKind.i64 w4)], [IV.d w5, IV.d w6]) ∧ condW (i10 == 0) (condW (w4 != 0) (Q (Out.ret [(4, IV.d (D.int IntKind.i64 0)), (5, IV.d (D.bool false))])) (condW (w3 != w3) (Q (Out.ret [(4, IV.d (D.int IntKind.i64 0)), (5, IV.d (D.bool false))])) (Q (Out.norm [(0, IV.d (D.sl 4 z1 x2 e3)), (6, IV.d (D.int IntKind.i64 (IntKind.wrap IntKind.i64 (i4 + (↑(List.length w1) : Int))))), (7, IV.d (D.int IntKind.i64 w3)), (12, IV.d (D.sl 1 z6 x7 e8)), (13, IV.d (D.int IntKind.i64 i9)), (14, IV.d (D.int IntKind.i64 (IntKind.wrap IntKind.i64 (i10 + 1))))])))) (condW (w4 != 0) (Q (Out.ret [(4, IV.d (D.int IntKind.i64 0)), (5, IV.d (D.bool false))])) (condW (w3 != i5) (Q (Out.ret [(4, IV.d (D.int IntKind.i64 0)), (5, IV.d (D.bool false))])) (Q (Out.norm [(0, IV.d (D.sl 4 z1 x2 e3)), (6, IV.d (D.int IntKind.i64 (IntKind.wrap IntKind.i64 (i4 + (↑(List.length w1) : Int))))), (7, IV.d (D.int IntKind.i64 i5)), (12, IV.d (D.sl 1 z6 x7 e8)), (13, IV.d (D.int IntKind.i64 i9)), (14, IV.d (D.int IntKind.i64 (IntKind.wrap IntKind.i64 (i10 + 1))))]))))) False) (Q (Out.exit 0 [(0, IV.d (D.sl 4 z1 x2 e3)), (6, IV.d (D.int IntKind.i64 i4)), (7, IV.d (D.int IntKind.i64 i5)), (12, IV.d (D.sl 1 z6 x7 e8)), (13, IV.d (D.int IntKind.i64 i9)), (14, IV.d (D.int IntKind.i64 i10))]))) := by kernel_rfl
theorem q18 (C J) (z1 : Bool) (x2 : List D) (e3 : List D) (z4 : Bool) (x5 : List D) (e6 : List D) (z7 : Bool) (x8 : List D) (e9 : List D) (z10 : Bool) (x11 : List D) (e12 : List D) (Q) : fnW F C R (L18) J d18 [.d (.sl 4 z1 x2 e3), .d (.agg [.sl 2 z4 x5 e6, .sl 1 z7 x8 e9, .sl 2 z10 x11 e12])] Q = (∃ w0 w1, C 47 [IV.d (D.sl 4 z1 x2 e3)] = some (IV.d (D.bool w0), [IV.d w1]) ∧ condW w0 (condW (decide ((↑(List.length x5) : Int) > 5)) (Q (some (IV.d (D.bool false), [IV.d (D.sl 4 z1 x2 e3), IV.d (D.agg [D.sl 2 z4 x5 e6, D.sl 1 z7 x8 e9, D.sl 2 z10 x11 e12])]))) (condW (decide ((↑(List.length x8) : Int) > 3)) (Q (some (IV.d (D.bool false), [IV.d (D.sl 4 z1 x2 e3), IV.d (D.agg [D.sl 2 z4 x5 e6, D.sl 1 z7 x8 e9, D.sl 2 z10 x11 e12])]))) (condW (decide ((↑(List.length x11) : Int) > 3)) (Q (some (IV.d (D.bool false), [IV.d (D.sl 4 z1 x2 e3), IV.d (D.agg [D.sl 2 z4 x5 e6, D.sl 1 z7 x8 e9, D.sl 2 z10 x11 e12])]))) (∃ w2 w3 w4 w5, C 48 [IV.d (D.sl 4 z1 x2 e3), IV.d (D.sl 2 z4 x5 e6)] = some (IV.tup [IV.d (D.int IntKind.i64 w2), IV.d (D.bool w3)], [IV.d w4, IV.d w5]) ∧ condW w3 (∃ w6 w7 w8 w9, C 49 [IV.d (D.sl 4 z1 x2 e3), IV.d (D.sl 1 z7 x8 e9)] = some (IV.tup [IV.d (D.int IntKind.i64 w6), IV.d (D.bool w7)], [IV.d w8, IV.d w9]) ∧ condW w7 (∃ w10 w11 w12 w13, C 48 [IV.d (D.sl 4 z1 x2 e3), IV.d (D.sl 2 z10 x11 e12)] = some (IV.tup [IV.d (D.int IntKind.i64 w10), IV.d (D.bool w11)], [IV.d w12, IV.d w13]) ∧ condW w11 (condW (decide (IntKind.wrap IntKind.i64 (IntKind.wrap IntKind.i64 (w2 + w6) + w10) ≤ 240)) (Q (some (IV.d (D.bool true), [IV.d (D.sl 4 z1 x2 e3), IV.d (D.agg [D.sl 2 z4 x5 e6, D.sl 1 z7 x8 e9, D.sl 2 z10 x11 e12])]))) (Q (some (IV.d (D.bool false), [IV.d (D.sl 4 z1 x2 e3), IV.d (D.agg [D.sl 2 z4 x5 e6, D.sl 1 z7 x8 e9, D.sl 2 z10 x11 e12])])))) (Q (some (IV.d (D.bool false), [IV.d (D.sl 4 z1 x2 e3), IV.d (D.agg [D.sl 2 z4 x5 e6, D.sl 1 z7 x8 e9, D.sl 2 z10 x11 e12])])))) (∃ w14 w15 w16 w17, C 48 [IV.d (D.sl 4 z1 x2 e3), IV.d (D.sl 2 z10 x11 e12)] = some (IV.tup [IV.d (D.int IntKind.i64 w14), IV.d (D.bool w15)], [IV.d w16, IV.d w17]) ∧ condW w15 (Q (some (IV.d (D.bool false), [IV.d (D.sl 4 z1 x2 e3), IV.d (D.agg [D.sl 2 z4 x5 e6, D.sl 1 z7 x8 e9, D.sl 2 z10 x11 e12])]))) (Q (some (IV.d (D.bool false), [IV.d (D.sl 4 z1 x2 e3), IV.d (D.agg [D.sl 2 z4 x5 e6, D.sl 1 z7 x8 e9, D.sl 2 z10 x11 e12])]))))) (∃ w18 w19 w20 w21, C 49 [IV.d (D.sl 4 z1 x2 e3), IV.d (D.sl 1 z7 x8 e9)] = some (IV.tup [IV.d (D.int IntKind.i64 w18), IV.d (D.bool w19)], [IV.d w20, IV.d w21]) ∧ condW w19 (∃ w22 w23 w24 w25, C 48 [IV.d (D.sl 4 z1 x2 e3), IV.d (D.sl 2 z10 x11 e12)] = some (IV.tup [IV.d (D.int IntKind.i64 w22), IV.d (D.bool w23)], [IV.d w24, IV.d w25]) ∧ condW w23 (Q (some (IV.d (D.bool false), [IV.d (D.sl 4 z1 x2 e3), IV.d (D.agg [D.sl 2 z4 x5 e6, D.sl 1 z7 x8 e9, D.sl 2 z10 x11 e12])]))) (Q (some (IV.d (D.bool false), [IV.d (D.sl 4 z1 x2 e3), IV.d (D.agg [D.sl 2 z4 x5 e6, D.sl 1 z7 x8 e9, D.sl 2 z10 x11 e12])])))) (∃ w26 w27 w28 w29, C 48 [IV.d (D.sl 4 z1 x2 e3), IV.d (D.sl 2 z10 x11 e12)] = some (IV.tup [IV.d (D.int IntKind.i64 w26), IV.d (D.bool w27)], [IV.d w28, IV.d w29]) ∧ condW w27 (Q (some (IV.d (D.bool false), [IV.d (D.sl 4 z1 x2 e3), IV.d (D.agg [D.sl 2 z4 x5 e6, D.sl 1 z7 x8 e9, D.sl 2 z10 x11 e12])]))) (Q (some (IV.d (D.bool false), [IV.d (D.sl 4 z1 x2 e3), IV.d (D.agg [D.sl 2 z4 x5 e6, D.sl 1 z7 x8 e9, D.sl 2 z10 x11 e12])]))))))))) (Q (some (IV.d (D.bool false), [IV.d (D.sl 4 z1 x2 e3), IV.d (D.agg [D.sl 2 z4 x5 e6, D.sl 1 z7 x8 e9, D.sl 2 z10 x11 e12])])))) := by kernel_rfl
theorem q33 (C J) (z1 : Bool) (x2 : List D) (e3 : List D) (z4 : Bool) (x5 : List D) (e6 : List D) (Q) : fnW F C R (L33) J d33 [.d (.sl 4 z1 x2 e3), .d (.sl 1 z4 x5 e6)] Q = (∃ w0 w1 w2 w3 w4 w5 w6 w7 w8, evP F C J d33 [] [1, 1, 0, 1] [(0, IV.d (D.sl 4 z1 x2 e3)), (5, IV.d (D.int IntKind.i64 0)), (8, IV.d (D.sl 1 z4 x5 e6)), (9, IV.d (D.int IntKind.i64 (↑(List.length x5) : Int))), (10, IV.d (D.int IntKind.i64 0))] = some (Out.norm [(0, IV.d (D.sl 4 w0 w1 w2)), (5, IV.d (D.int IntKind.i64 w3)), (8, IV.d (D.sl 1 w4 w5 w6)), (9, IV.d (D.int IntKind.i64 w7)), (10, IV.d (D.int IntKind.i64 w8))]) ∧ Q (some (IV.d (D.int IntKind.i64 w3), [IV.d (D.sl 4 z1 x2 e3), IV.d (D.sl 1 z4 x5 e6)]))) := by kernel_rfl
theorem q33_l0a (C J) (z1 : Bool) (x2 : List D) (e3 : List D) (i4 : Int) (z5 : Bool) (x6 : List D) (e7 : List D) (i8 : Int) (i9 : Int) (Q) : wpQ F C R (L33) J d33 [] [1,1,0,1,0,0] [(0, .d (.sl 4 z1 x2 e3)), (5, .d (.int .i64 i4)), (8, .d (.sl 1 z5 x6 e7)), (9, .d (.int .i64 i8)), (10, .d (.int .i64 i9))] Q = (condW (decide (i9 < i8)) (condW (decide (0 ≤ i9)) (∃ w0, x6[Int.toNat i9]? = some (D.int IntKind.i64 w0) ∧ condW (decide (w0 < 0)) (Q (Out.norm [(0, IV.d (D.sl 4 z1 x2 e3)), (5, IV.d (D.int IntKind.i64 (IntKind.wrap IntKind.i64 (i4 + 1)))), (8, IV.d (D.sl 1 z5 x6 e7)), (9, IV.d (D.int IntKind.i64 i8)), (10, IV.d (D.int IntKind.i64 (IntKind.wrap IntKind.i64 (i9 + 1))))])) (condW (decide (0 ≤ w0)) (∃ w1 w2 w3 w4, x2[Int.toNat w0]? = some (D.agg [D.str w1, D.int IntKind.i64 w2, D.int IntKind.i64 w3, D.int IntKind.i64 w4]) ∧ Q (Out.norm [(0, IV.d (D.sl 4 z1 x2 e3)), (5, IV.d (D.int IntKind.i64 (IntKind.wrap IntKind.i64 (i4 + w4)))), (8, IV.d (D.sl 1 z5 x6 e7)), (9, IV.d (D.int IntKind.i64 i8)), (10, IV.d (D.int IntKind.i64 (IntKind.wrap IntKind.i64 (i9 + 1))))])) False)) False) (Q (Out.exit 0 [(0, IV.d (D.sl 4 z1 x2 e3)), (5, IV.d (D.int IntKind.i64 i4)), (8, IV.d (D.sl 1 z5 x6 e7)), (9, IV.d (D.int IntKind.i64 i8)), (10, IV.d (D.int IntKind.i64 i9))]))) := by kernel_rfl
theorem q10 (C J) (z1 : Bool) (x2 : List D) (e3 : List D) (z4 : Bool) (x5 : List D) (e6 : List D) (z7 : Bool) (x8 : List D) (e9 : List D) (z10 : Bool) (x11 : List D) (e12 : List D) (Q) : fnW F C R (L10) J d10 [.d (.sl 4 z1 x2 e3), .d (.agg [.sl 2 z4 x5 e6, .sl 1 z7 x8 e9, .sl 2 z10 x11 e12])] Q = (∃ w0 w1 w2, C 18 [IV.d (D.sl 4 z1 x2 e3), IV.d (D.agg [D.sl 2 z4 x5 e6, D.sl 1 z7 x8 e9, D.sl 2 z10 x11 e12])] = some (IV.d (D.bool w0), [IV.d w1, IV.d w2]) ∧ condW w0 (∃ w3 w4 w5 w6 w7 w8 w9 w10 w11, evP F C J d10 [] [1, 1, 1, 0, 1] [(0, IV.d (D.sl 4 z1 x2 e3)), (6, IV.d (D.int IntKind.i64 0)), (14, IV.d (D.sl 2 z4 x5 e6)), (15, IV.d (D.int IntKind.i64 (↑(List.length x5) : Int))), (16, IV.d (D.int IntKind.i64 0))] = some (Out.norm [(0, IV.d (D.sl 4 w3 w4 w5)), (6, IV.d (D.int IntKind.i64 w6)), (14, IV.d (D.sl 2 w7 w8 w9)), (15, IV.d (D.int IntKind.i64 w10)), (16, IV.d (D.int IntKind.i64 w11))]) ∧ Q (some (IV.tup [IV.d (D.int IntKind.i64 w6), IV.d (D.int IntKind.i64 0)], [IV.d (D.sl 4 z1 x2 e3), IV.d (D.agg [D.sl 2 z4 x5 e6, D.sl 1 z7 x8 e9, D.sl 2 z10 x11 e12])]))) (Q (some (IV.tup [IV.d (D.int IntKind.i64 0), IV.d (D.int IntKind.i64 800)], [IV.d (D.sl 4 z1 x2 e3), IV.d (D.agg [D.sl 2 z4 x5 e6, D.sl 1 z7 x8 e9, D.sl 2 z10 x11 e12])])))) := by kernel_rfl
theorem q10_l0a (C J) (z1 : Bool) (x2 : List D) (e3 : List D) (i4 : Int) (z5 : Bool) (x6 : List D) (e7 : List D) (i8 : Int) (i9 : Int) (Q) : wpQ F C R (L10) J d10 [] [1,1,1,0,1,0,0] [(0, .d (.sl 4 z1 x2 e3)), (6, .d (.int .i64 i4)), (14, .d (.sl 2 z5 x6 e7)), (15, .d (.int .i64 i8)), (16, .d (.int .i64 i9))] Q = (condW (decide (i9 < i8)) (condW (decide (0 ≤ i9)) (∃ w0 w1 w2 w3, x6[Int.toNat i9]? = some (D.agg [D.bool w0, D.sl 1 w1 w2 w3]) ∧ ∃ w4 w5 w6, C 33 [IV.d (D.sl 4 z1 x2 e3), IV.d (D.sl 1 w1 w2 w3)] = some (IV.d (D.int IntKind.i64 w4), [IV.d w5, IV.d w6]) ∧ Q (Out.norm [(0, IV.d (D.sl 4 z1 x2 e3)), (6, IV.d (D.int IntKind.i64 (IntKind.wrap IntKind.i64 (i4 + w4)))), (14, IV.d (D.sl 2 z5 x6 e7)), (15, IV.d (D.int IntKind.i64 i8)), (16, IV.d (D.int IntKind.i64 (IntKind.wrap IntKind.i64 (i9 + 1))))])) False) (Q (Out.exit 0 [(0, IV.d (D.sl 4 z1 x2 e3)), (6, IV.d (D.int IntKind.i64 i4)), (14, IV.d (D.sl 2 z5 x6 e7)), (15, IV.d (D.int IntKind.i64 i8)), (16, IV.d (D.int IntKind.i64 i9))]))) := by kernel_rfl
theorem q109 (C J) (i1 : Int) (Q) : fnW F C R (L109) J d109 [.d (.int .u8 i1)] Q = (condW (decide (i1 ≥ 97)) (condW (decide (i1 ≤ 122)) (Q (some (IV.d (D.bool true), [IV.d (D.int IntKind.u8 i1)]))) (Q (some (IV.d (D.bool false), [IV.d (D.int IntKind.u8 i1)])))) (Q (some (IV.d (D.bool false), [IV.d (D.int IntKind.u8 i1)])))) := by kernel_rfl
theorem q88 (C J) (s1 : ByteArray) (i2 : Int) (i3 : Int) (i4 : Int) (Q) : fnW F C R (L88) J d88 [.d (.agg [.str s1, .int .i64 i2, .int .i64 i3, .int .i64 i4])] Q = (condW (decide ((↑(ByteArray.size s1) : Int) < 1)) (Q (some (IV.d (D.bool false), [IV.d (D.agg [D.str s1, D.int IntKind.i64 i2, D.int IntKind.i64 i3, D.int IntKind.i64 i4])]))) (condW (decide ((↑(ByteArray.size s1) : Int) > 8)) (Q (some (IV.d (D.bool false), [IV.d (D.agg [D.str s1, D.int IntKind.i64 i2, D.int IntKind.i64 i3, D.int IntKind.i64 i4])]))) (condW (decide (0 < (↑(ByteArray.size s1) : Int))) (∃ w0 w1, C 109 [IV.d (D.int IntKind.u8 (byteAt s1 (Int.toNat 0)))] = some (IV.d (D.bool w0), [IV.d w1]) ∧ condW w0 ((∃ w2, evP F C J d88 [] [1, 1, 0, 1] [(1, IV.dbox 88 0 [D.str s1, D.int IntKind.i64 i2, D.int IntKind.i64 i3, D.int IntKind.i64 i4]), (3, IV.d (D.int IntKind.i64 0))] = some (Out.ret [(2, IV.d (D.bool w2))]) ∧ Q (some (IV.d (D.bool w2), [IV.d (D.agg [D.str s1, D.int IntKind.i64 i2, D.int IntKind.i64 i3, D.int IntKind.i64 i4])]))) ∨ ∃ w3 w4 w5 w6 w7, evP F C J d88 [] [1, 1, 0, 1] [(1, IV.dbox 88 0 [D.str s1, D.int IntKind.i64 i2, D.int IntKind.i64 i3, D.int IntKind.i64 i4]), (3, IV.d (D.int IntKind.i64 0))] = some (Out.norm [(1, IV.dbox 88 0 [D.str w3, D.int IntKind.i64 w4, D.int IntKind.i64 w5, D.int IntKind.i64 w6]), (3, IV.d (D.int IntKind.i64 w7))]) ∧ condW (decide (w4 ≥ 0)) (condW (decide (w4 ≤ 2)) (condW (decide (w5 ≥ 0)) (condW (decide (w5 ≤ 3)) (condW (decide (w6 ≥ 1)) (condW (decide (w6 ≤ 20)) (Q (some (IV.d (D.bool true), [IV.d (D.agg [D.str s1, D.int IntKind.i64 i2, D.int IntKind.i64 i3, D.int IntKind.i64 i4])]))) (Q (some (IV.d (D.bool false), [IV.d (D.agg [D.str s1, D.int IntKind.i64 i2, D.int IntKind.i64 i3, D.int IntKind.i64 i4])])))) (Q (some (IV.d (D.bool false), [IV.d (D.agg [D.str s1, D.int IntKind.i64 i2, D.int IntKind.i64 i3, D.int IntKind.i64 i4])])))) (Q (some (IV.d (D.bool false), [IV.d (D.agg [D.str s1, D.int IntKind.i64 i2, D.int IntKind.i64 i3, D.int IntKind.i64 i4])])))) (Q (some (IV.d (D.bool false), [IV.d (D.agg [D.str s1, D.int IntKind.i64 i2, D.int IntKind.i64 i3, D.int IntKind.i64 i4])])))) (Q (some (IV.d (D.bool false), [IV.d (D.agg [D.str s1, D.int IntKind.i64 i2, D.int IntKind.i64 i3, D.int IntKind.i64 i4])])))) (Q (some (IV.d (D.bool false), [IV.d (D.agg [D.str s1, D.int IntKind.i64 i2, D.int IntKind.i64 i3, D.int IntKind.i64 i4])])))) (Q (some (IV.d (D.bool false), [IV.d (D.agg [D.str s1, D.int IntKind.i64 i2, D.int IntKind.i64 i3, D.int IntKind.i64 i4])])))) False))) := by kernel_rfl
theorem q88_l0a (C J) (s1 : ByteArray) (i2 : Int) (i3 : Int) (i4 : Int) (i5 : Int) (Q) : wpQ F C R (L88) J d88 [] [1,1,0,1,0,0] [(1, .dbox 88 0 [.str s1, .int .i64 i2, .int .i64 i3, .int .i64 i4]), (3, .d (.int .i64 i5))] Q = (condW (decide (i5 < (↑(ByteArray.size s1) : Int))) (condW (decide (0 ≤ i5)) (condW (decide (i5 < (↑(ByteArray.size s1) : Int))) (∃ w0 w1, C 109 [IV.d (D.int IntKind.u8 (byteAt s1 (Int.toNat i5)))] = some (IV.d (D.bool w0), [IV.d w1]) ∧ condW w0 (Q (Out.norm [(1, IV.dbox 88 0 [D.str s1, D.int IntKind.i64 i2, D.int IntKind.i64 i3, D.int IntKind.i64 i4]), (3, IV.d (D.int IntKind.i64 (IntKind.wrap IntKind.i64 (i5 + 1))))])) (condW (decide (0 ≤ i5)) (condW (decide (i5 < (↑(ByteArray.size s1) : Int))) (condW (decide (byteAt s1 (Int.toNat i5) < 48)) (Q (Out.ret [(2, IV.d (D.bool false))])) (condW (decide (0 ≤ i5)) (condW (decide (i5 < (↑(ByteArray.size s1) : Int))) (condW (decide (byteAt s1 (Int.toNat i5) > 57)) (Q (Out.ret [(2, IV.d (D.bool false))])) (Q (Out.norm [(1, IV.dbox 88 0 [D.str s1, D.int IntKind.i64 i2, D.int IntKind.i64 i3, D.int IntKind.i64 i4]), (3, IV.d (D.int IntKind.i64 (IntKind.wrap IntKind.i64 (i5 + 1))))]))) False) False)) False) False)) False) False) (Q (Out.exit 0 [(1, IV.dbox 88 0 [D.str s1, D.int IntKind.i64 i2, D.int IntKind.i64 i3, D.int IntKind.i64 i4]), (3, IV.d (D.int IntKind.i64 i5))]))) := by kernel_rfl
theorem q53 (C J) (z1 : Bool) (x2 : List D) (e3 : List D) (z4 : Bool) (x5 : List D) (e6 : List D) (z7 : Bool) (x8 : List D) (e9 : List D) (Q) : fnW F C R (L53) J d53 [.d (.agg [.sl 2 z1 x2 e3, .sl 1 z4 x5 e6, .sl 2 z7 x8 e9])] Q = (∃ w0 w1 w2 w3 w4 w5 w6 w7 w8 w9 w10 w11, evP F C J d53 [] [1, 1, 0, 1] [(1, IV.dbox 26 0 [D.sl 2 z1 x2 e3, D.sl 1 z4 x5 e6, D.sl 2 z7 x8 e9]), (3, IV.own true 33 1 []), (4, IV.d (D.int IntKind.i64 0))] = some (Out.norm [(1, IV.dbox 26 0 [D.sl 2 w0 w1 w2, D.sl 1 w3 w4 w5, D.sl 2 w6 w7 w8]), (3, IV.own w9 33 1 w10), (4, IV.d (D.int IntKind.i64 w11))]) ∧ ∃ w12 w13 w14 w15 w16 w17 w18 w19 w20 w21 w22 w23, evP F C J d53 [] [1, 1, 1, 0, 1] [(1, IV.dbox 26 0 [D.sl 2 w0 w1 w2, D.sl 1 w3 w4 w5, D.sl 2 w6 w7 w8]), (3, IV.own w9 33 1 w10), (5, IV.d (D.int IntKind.i64 0))] = some (Out.norm [(1, IV.dbox 26 0 [D.sl 2 w12 w13 w14, D.sl 1 w15 w16 w17, D.sl 2 w18 w19 w20]), (3, IV.own w21 33 1 w22), (5, IV.d (D.int IntKind.i64 w23))]) ∧ ∃ w24 w25 w26 w27 w28 w29 w30 w31 w32 w33 w34 w35, evP F C J d53 [] [1, 1, 1, 1, 0, 1] [(1, IV.dbox 26 0 [D.sl 2 w12 w13 w14, D.sl 1 w15 w16 w17, D.sl 2 w18 w19 w20]), (3, IV.own w21 33 1 w22), (6, IV.d (D.int IntKind.i64 0))] = some (Out.norm [(1, IV.dbox 26 0 [D.sl 2 w24 w25 w26, D.sl 1 w27 w28 w29, D.sl 2 w30 w31 w32]), (3, IV.own w33 33 1 w34), (6, IV.d (D.int IntKind.i64 w35))]) ∧ Q (some (IV.own w33 33 1 w34, [IV.d (D.agg [D.sl 2 z1 x2 e3, D.sl 1 z4 x5 e6, D.sl 2 z7 x8 e9])]))) := by kernel_rfl
theorem q53_l0a (C J) (z1 : Bool) (x2 : List D) (e3 : List D) (z4 : Bool) (x5 : List D) (e6 : List D) (z7 : Bool) (x8 : List D) (e9 : List D) (z10 : Bool) (x11 : List D) (i12 : Int) (Q) : wpQ F C R (L53) J d53 [] [1,1,0,1,0,0] [(1, .dbox 26 0 [.sl 2 z1 x2 e3, .sl 1 z4 x5 e6, .sl 2 z7 x8 e9]), (3, .own z10 33 1 x11), (4, .d (.int .i64 i12))] Q = (condW (decide (i12 < (↑(List.length x2) : Int))) (condW (decide (0 ≤ i12)) (∃ w0 w1 w2 w3, x2[Int.toNat i12]? = some (D.agg [D.bool w0, D.sl 1 w1 w2 w3]) ∧ condW (decide (List.length x11 + (0 + 1) ≤ 9223372036854775807)) (condW (decide ((List.length x11 + (0 + 1)) * 24 ≤ 140737488355328)) (Q (Out.norm [(1, IV.dbox 26 0 [D.sl 2 z1 x2 e3, D.sl 1 z4 x5 e6, D.sl 2 z7 x8 e9]), (3, IV.own (z10 && false) 33 1 (x11 ++ [D.sl 1 w1 w2 w3])), (4, IV.d (D.int IntKind.i64 (IntKind.wrap IntKind.i64 (i12 + 1))))])) False) False) False) (Q (Out.exit 0 [(1, IV.dbox 26 0 [D.sl 2 z1 x2 e3, D.sl 1 z4 x5 e6, D.sl 2 z7 x8 e9]), (3, IV.own z10 33 1 x11), (4, IV.d (D.int IntKind.i64 i12))]))) := by kernel_rfl
theorem q53_l2b (C J) (z1 : Bool) (x2 : List D) (e3 : List D) (z4 : Bool) (x5 : List D) (e6 : List D) (z7 : Bool) (x8 : List D) (e9 : List D) (z10 : Bool) (x11 : List D) (i12 : Int) (Q) : wpQ F C R (L53) J d53 [] [1,1,1,0,1,0,0] [(1, .dbox 26 0 [.sl 2 z1 x2 e3, .sl 1 z4 x5 e6, .sl 2 z7 x8 e9]), (3, .own z10 33 1 x11), (5, .d (.int .i64 i12))] Q = (condW (decide (i12 < (↑(List.length x5) : Int))) (condW (decide (0 ≤ i12)) (∃ w0 w1 w2, x5[Int.toNat i12]? = some (D.sl 1 w0 w1 w2) ∧ condW (decide (List.length x11 + (0 + 1) ≤ 9223372036854775807)) (condW (decide ((List.length x11 + (0 + 1)) * 24 ≤ 140737488355328)) (Q (Out.norm [(1, IV.dbox 26 0 [D.sl 2 z1 x2 e3, D.sl 1 z4 x5 e6, D.sl 2 z7 x8 e9]), (3, IV.own (z10 && false) 33 1 (x11 ++ [D.sl 1 w0 w1 w2])), (5, IV.d (D.int IntKind.i64 (IntKind.wrap IntKind.i64 (i12 + 1))))])) False) False) False) (Q (Out.exit 2 [(1, IV.dbox 26 0 [D.sl 2 z1 x2 e3, D.sl 1 z4 x5 e6, D.sl 2 z7 x8 e9]), (3, IV.own z10 33 1 x11), (5, IV.d (D.int IntKind.i64 i12))]))) := by kernel_rfl
theorem q53_l4b (C J) (z1 : Bool) (x2 : List D) (e3 : List D) (z4 : Bool) (x5 : List D) (e6 : List D) (z7 : Bool) (x8 : List D) (e9 : List D) (z10 : Bool) (x11 : List D) (i12 : Int) (Q) : wpQ F C R (L53) J d53 [] [1,1,1,1,0,1,0,0] [(1, .dbox 26 0 [.sl 2 z1 x2 e3, .sl 1 z4 x5 e6, .sl 2 z7 x8 e9]), (3, .own z10 33 1 x11), (6, .d (.int .i64 i12))] Q = (condW (decide (i12 < (↑(List.length x8) : Int))) (condW (decide (0 ≤ i12)) (∃ w0 w1 w2 w3, x8[Int.toNat i12]? = some (D.agg [D.bool w0, D.sl 1 w1 w2 w3]) ∧ condW (decide (List.length x11 + (0 + 1) ≤ 9223372036854775807)) (condW (decide ((List.length x11 + (0 + 1)) * 24 ≤ 140737488355328)) (Q (Out.norm [(1, IV.dbox 26 0 [D.sl 2 z1 x2 e3, D.sl 1 z4 x5 e6, D.sl 2 z7 x8 e9]), (3, IV.own (z10 && false) 33 1 (x11 ++ [D.sl 1 w1 w2 w3])), (6, IV.d (D.int IntKind.i64 (IntKind.wrap IntKind.i64 (i12 + 1))))])) False) False) False) (Q (Out.exit 4 [(1, IV.dbox 26 0 [D.sl 2 z1 x2 e3, D.sl 1 z4 x5 e6, D.sl 2 z7 x8 e9]), (3, IV.own z10 33 1 x11), (6, IV.d (D.int IntKind.i64 i12))]))) := by kernel_rfl
theorem q35 (C J) (z1 : Bool) (x2 : List D) (e3 : List D) (Q) : fnW F C R (L35) J d35 [.d (.sl 1 z1 x2 e3)] Q = (∃ w0 w1 w2 w3 w4 w5 w6 w7 w8, evP F C J d35 [] [1, 1, 0, 1] [(0, IV.d (D.sl 1 z1 x2 e3)), (3, IV.d (D.int IntKind.i64 0)), (9, IV.d (D.sl 1 z1 x2 e3)), (10, IV.d (D.int IntKind.i64 (↑(List.length x2) : Int))), (11, IV.d (D.int IntKind.i64 0))] = some (Out.norm [(0, IV.d (D.sl 1 w0 w1 w2)), (3, IV.d (D.int IntKind.i64 w3)), (9, IV.d (D.sl 1 w4 w5 w6)), (10, IV.d (D.int IntKind.i64 w7)), (11, IV.d (D.int IntKind.i64 w8))]) ∧ ∃ w9 w10 w11 w12, C 63 [IV.d (D.sl 2 true [] []), IV.d (D.int IntKind.i64 w3)] = some (IV.own w9 57 2 w10, [IV.d w11, IV.d w12]) ∧ ∃ w13 w14 w15 w16 w17 w18 w19, evP F C J d35 [] [1, 1, 1, 1, 0, 1] [(6, IV.own w9 57 2 w10), (25, IV.d (D.sl 1 w0 w1 w2)), (26, IV.d (D.int IntKind.i64 (↑(List.length w1) : Int))), (27, IV.d (D.int IntKind.i64 0))] = some (Out.norm [(6, IV.own w13 57 2 w14), (25, IV.d (D.sl 1 w15 w16 w17)), (26, IV.d (D.int IntKind.i64 w18)), (27, IV.d (D.int IntKind.i64 w19))]) ∧ Q (some (IV.own w13 57 2 w14, [IV.d (D.sl 1 z1 x2 e3)]))) := by kernel_rfl
theorem q35_l0a (C J) (z1 : Bool) (x2 : List D) (e3 : List D) (i4 : Int) (z5 : Bool) (x6 : List D) (e7 : List D) (i8 : Int) (i9 : Int) (Q) : wpQ F C R (L35) J d35 [] [1,1,0,1,0,0] [(0, .d (.sl 1 z1 x2 e3)), (3, .d (.int .i64 i4)), (9, .d (.sl 1 z5 x6 e7)), (10, .d (.int .i64 i8)), (11, .d (.int .i64 i9))] Q = (condW (decide (i9 < i8)) (condW (decide (0 ≤ i9)) (∃ w0 w1 w2, x6[Int.toNat i9]? = some (D.sl 2 w0 w1 w2) ∧ condW (decide (IntKind.wrap IntKind.i64 (i4 + (↑(List.length w1) : Int)) < 0)) False (Q (Out.norm [(0, IV.d (D.sl 1 z1 x2 e3)), (3, IV.d (D.int IntKind.i64 (IntKind.wrap IntKind.i64 (i4 + (↑(List.length w1) : Int))))), (9, IV.d (D.sl 1 z5 x6 e7)), (10, IV.d (D.int IntKind.i64 i8)), (11, IV.d (D.int IntKind.i64 (IntKind.wrap IntKind.i64 (i9 + 1))))]))) False) (Q (Out.exit 0 [(0, IV.d (D.sl 1 z1 x2 e3)), (3, IV.d (D.int IntKind.i64 i4)), (9, IV.d (D.sl 1 z5 x6 e7)), (10, IV.d (D.int IntKind.i64 i8)), (11, IV.d (D.int IntKind.i64 i9))]))) := by kernel_rfl
theorem q35_l2a (C J) (z1 : Bool) (x2 : List D) (z3 : Bool) (x4 : List D) (e5 : List D) (i6 : Int) (i7 : Int) (Q) : wpQ F C R (L35) J d35 [] [1,1,1,1,0,1,0,0] [(6, .own z1 57 2 x2), (25, .d (.sl 1 z3 x4 e5)), (26, .d (.int .i64 i6)), (27, .d (.int .i64 i7))] Q = (condW (decide (i7 < i6)) (condW (decide (0 ≤ i7)) (∃ w0 w1 w2, x4[Int.toNat i7]? = some (D.sl 2 w0 w1 w2) ∧ condW (decide (List.length x2 + List.length w1 ≤ 9223372036854775807)) (condW (decide ((List.length x2 + List.length w1) * 32 ≤ 140737488355328)) (Q (Out.norm [(6, IV.own (z1 && List.isEmpty w1) 57 2 (x2 ++ w1)), (25, IV.d (D.sl 1 z3 x4 e5)), (26, IV.d (D.int IntKind.i64 i6)), (27, IV.d (D.int IntKind.i64 (IntKind.wrap IntKind.i64 (i7 + 1))))])) False) False) False) (Q (Out.exit 2 [(6, IV.own z1 57 2 x2), (25, IV.d (D.sl 1 z3 x4 e5)), (26, IV.d (D.int IntKind.i64 i6)), (27, IV.d (D.int IntKind.i64 i7))]))) := by kernel_rfl
theorem q113 (C J) (i1 : Int) (Q) : fnW F C R (L113) J d113 [.d (.int .i64 i1)] Q = (condW (i1 != i1) (Q (some (IV.d (D.bool true), [IV.d (D.int IntKind.i64 i1)]))) (Q (some (IV.d (D.bool false), [IV.d (D.int IntKind.i64 i1)])))) := by kernel_rfl
theorem q95 (C J) (i1 : Int) (i2 : Int) (Q) : fnW F C R (L95) J d95 [.d (.int .i64 i1), .d (.int .i64 i2)] Q = (∃ w0 w1, C 113 [IV.d (D.int IntKind.i64 i1)] = some (IV.d (D.bool w0), [IV.d w1]) ∧ condW w0 (∃ w2 w3, C 113 [IV.d (D.int IntKind.i64 i2)] = some (IV.d (D.bool w2), [IV.d w3]) ∧ condW w2 (condW (decide (i1 < i2)) (Q (some (IV.d (D.bool true), [IV.d (D.int IntKind.i64 i1), IV.d (D.int IntKind.i64 i2)]))) (Q (some (IV.d (D.bool false), [IV.d (D.int IntKind.i64 i1), IV.d (D.int IntKind.i64 i2)])))) (Q (some (IV.d (D.bool true), [IV.d (D.int IntKind.i64 i1), IV.d (D.int IntKind.i64 i2)])))) (condW (decide (i1 < i2)) (Q (some (IV.d (D.bool true), [IV.d (D.int IntKind.i64 i1), IV.d (D.int IntKind.i64 i2)]))) (Q (some (IV.d (D.bool false), [IV.d (D.int IntKind.i64 i1), IV.d (D.int IntKind.i64 i2)]))))) := by kernel_rfl
theorem q96 (C J) (i1 : Int) (Q) : fnW F C R (L96) J d96 [.d (.int .i64 i1)] Q = (condW (i1 != i1) (Q (some (IV.d (D.bool true), [IV.d (D.int IntKind.i64 i1)]))) (Q (some (IV.d (D.bool false), [IV.d (D.int IntKind.i64 i1)])))) := by kernel_rfl
theorem q64 (C J) (z1 : Bool) (x2 : List D) (e3 : List D) (i4 : Int) (Q) : fnW F C R (L64) J d64 [.d (.sl 1 z1 x2 e3), .d (.int .i64 i4)] Q = (∃ w0 w1 w2 w3 w4 w5 w6, evP F C J d64 [] [1, 1, 1, 0] [(0, IV.d (D.sl 1 z1 x2 e3)), (1, IV.d (D.int IntKind.i64 i4)), (6, IV.d (D.int IntKind.i64 (↑(List.length x2) : Int))), (7, IV.d (D.int IntKind.i64 0)), (8, IV.d (D.int IntKind.i64 (↑(List.length x2) : Int)))] = some (Out.norm [(0, IV.d (D.sl 1 w0 w1 w2)), (1, IV.d (D.int IntKind.i64 w3)), (6, IV.d (D.int IntKind.i64 w4)), (7, IV.d (D.int IntKind.i64 w5)), (8, IV.d (D.int IntKind.i64 w6))]) ∧ condW (decide (w5 < w4)) (condW (decide (0 ≤ w5)) (∃ w7, w1[Int.toNat w5]? = some (D.int IntKind.i64 w7) ∧ condW (w7 == w3) (Q (some (IV.tup [IV.d (D.int IntKind.i64 w5), IV.d (D.bool true)], [IV.d (D.sl 1 z1 x2 e3), IV.d (D.int IntKind.i64 i4)]))) (condW (decide (0 ≤ w5)) (∃ w8, w1[Int.toNat w5]? = some (D.int IntKind.i64 w8) ∧ ∃ w9 w10, C 96 [IV.d (D.int IntKind.i64 w8)] = some (IV.d (D.bool w9), [IV.d w10]) ∧ condW w9 (∃ w11 w12, C 96 [IV.d (D.int IntKind.i64 w3)] = some (IV.d (D.bool w11), [IV.d w12]) ∧ condW w11 (Q (some (IV.tup [IV.d (D.int IntKind.i64 w5), IV.d (D.bool true)], [IV.d (D.sl 1 z1 x2 e3), IV.d (D.int IntKind.i64 i4)]))) (Q (some (IV.tup [IV.d (D.int IntKind.i64 w5), IV.d (D.bool false)], [IV.d (D.sl 1 z1 x2 e3), IV.d (D.int IntKind.i64 i4)])))) (Q (some (IV.tup [IV.d (D.int IntKind.i64 w5), IV.d (D.bool false)], [IV.d (D.sl 1 z1 x2 e3), IV.d (D.int IntKind.i64 i4)])))) False)) False) (Q (some (IV.tup [IV.d (D.int IntKind.i64 w5), IV.d (D.bool false)], [IV.d (D.sl 1 z1 x2 e3), IV.d (D.int IntKind.i64 i4)])))) := by kernel_rfl
theorem q64_l0a (C J) (z1 : Bool) (x2 : List D) (e3 : List D) (i4 : Int) (i5 : Int) (i6 : Int) (i7 : Int) (Q) : wpQ F C R (L64) J d64 [] [1,1,1,0,0,0] [(0, .d (.sl 1 z1 x2 e3)), (1, .d (.int .i64 i4)), (6, .d (.int .i64 i5)), (7, .d (.int .i64 i6)), (8, .d (.int .i64 i7))] Q = (condW (decide (i6 < i7)) (condW (decide (0 ≤ IntKind.wrap IntKind.i64 (IntKind.wrap IntKind.u64 (IntKind.wrap IntKind.i64 (i6 + i7)) / 2 ^ min (Int.toNat 1) (IntKind.bits IntKind.u64)))) (∃ w0, x2[Int.toNat (IntKind.wrap IntKind.i64 (IntKind.wrap IntKind.u64 (IntKind.wrap IntKind.i64 (i6 + i7)) / 2 ^ min (Int.toNat 1) (IntKind.bits IntKind.u64)))]? = some (D.int IntKind.i64 w0) ∧ ∃ w1 w2 w3, C 95 [IV.d (D.int IntKind.i64 w0), IV.d (D.int IntKind.i64 i4)] = some (IV.d (D.bool w1), [IV.d w2, IV.d w3]) ∧ condW w1 (Q (Out.norm [(0, IV.d (D.sl 1 z1 x2 e3)), (1, IV.d (D.int IntKind.i64 i4)), (6, IV.d (D.int IntKind.i64 i5)), (7, IV.d (D.int IntKind.i64 (IntKind.wrap IntKind.i64 (IntKind.wrap IntKind.i64 (IntKind.wrap IntKind.u64 (IntKind.wrap IntKind.i64 (i6 + i7)) / 2 ^ min (Int.toNat 1) (IntKind.bits IntKind.u64)) + 1)))), (8, IV.d (D.int IntKind.i64 i7))])) (Q (Out.norm [(0, IV.d (D.sl 1 z1 x2 e3)), (1, IV.d (D.int IntKind.i64 i4)), (6, IV.d (D.int IntKind.i64 i5)), (7, IV.d (D.int IntKind.i64 i6)), (8, IV.d (D.int IntKind.i64 (IntKind.wrap IntKind.i64 (IntKind.wrap IntKind.u64 (IntKind.wrap IntKind.i64 (i6 + i7)) / 2 ^ min (Int.toNat 1) (IntKind.bits IntKind.u64)))))]))) False) (Q (Out.exit 0 [(0, IV.d (D.sl 1 z1 x2 e3)), (1, IV.d (D.int IntKind.i64 i4)), (6, IV.d (D.int IntKind.i64 i5)), (7, IV.d (D.int IntKind.i64 i6)), (8, IV.d (D.int IntKind.i64 i7))]))) := by kernel_rfl
theorem q36 (C J) (z1 : Bool) (x2 : List D) (z3 : Bool) (x4 : List D) (e5 : List D) (Q) : fnW F C R (L36) J d36 [.own z1 3 1 x2, .d (.sl 1 z3 x4 e5)] Q = (∃ w0 w1 w2 w3 w4 w5 w6, evP F C J d36 [] [1, 0, 1] [(0, IV.own z1 3 1 x2), (9, IV.d (D.sl 1 z3 x4 e5)), (10, IV.d (D.int IntKind.i64 (↑(List.length x4) : Int))), (11, IV.d (D.int IntKind.i64 0))] = some (Out.norm [(0, IV.own w0 3 1 w1), (9, IV.d (D.sl 1 w2 w3 w4)), (10, IV.d (D.int IntKind.i64 w5)), (11, IV.d (D.int IntKind.i64 w6))]) ∧ Q (some (IV.own w0 3 1 w1, [IV.dead, IV.d (D.sl 1 z3 x4 e5)]))) := by kernel_rfl
theorem q36_l0a (C J) (z1 : Bool) (x2 : List D) (z3 : Bool) (x4 : List D) (e5 : List D) (i6 : Int) (i7 : Int) (Q) : wpQ F C R (L36) J d36 [] [1,0,1,0,0] [(0, .own z1 3 1 x2), (9, .d (.sl 1 z3 x4 e5)), (10, .d (.int .i64 i6)), (11, .d (.int .i64 i7))] Q = (condW (decide (i7 < i6)) (condW (decide (0 ≤ i7)) (∃ w0, x4[Int.toNat i7]? = some (D.int IntKind.i64 w0) ∧ condW (decide (w0 ≥ 0)) (Q (Out.norm [(0, IV.own z1 3 1 x2), (9, IV.d (D.sl 1 z3 x4 e5)), (10, IV.d (D.int IntKind.i64 i6)), (11, IV.d (D.int IntKind.i64 (IntKind.wrap IntKind.i64 (i7 + 1))))])) (∃ w1 w2, C 65 [IV.d (D.int IntKind.i64 w0)] = some (IV.d (D.int IntKind.i64 w1), [IV.d w2]) ∧ ∃ w3 w4 w5 w6, C 64 [IV.d (D.sl 1 z1 x2 []), IV.d (D.int IntKind.i64 w1)] = some (IV.tup [IV.d (D.int IntKind.i64 w3), IV.d (D.bool w4)], [IV.d w5, IV.d w6]) ∧ condW w4 (Q (Out.norm [(0, IV.own z1 3 1 x2), (9, IV.d (D.sl 1 z3 x4 e5)), (10, IV.d (D.int IntKind.i64 i6)), (11, IV.d (D.int IntKind.i64 (IntKind.wrap IntKind.i64 (i7 + 1))))])) (∃ w7 w8, C 65 [IV.d (D.int IntKind.i64 w0)] = some (IV.d (D.int IntKind.i64 w7), [IV.d w8]) ∧ condW (decide (0 ≤ w3)) (condW (decide (w3 ≤ (↑(List.length x2) : Int))) (condW (decide ((List.length x2 + 1) * 8 ≤ 140737488355328)) (Q (Out.norm [(0, IV.own false 3 1 (List.take (Int.toNat w3) x2 ++ D.int IntKind.i64 w7 :: List.drop (Int.toNat w3) x2)), (9, IV.d (D.sl 1 z3 x4 e5)), (10, IV.d (D.int IntKind.i64 i6)), (11, IV.d (D.int IntKind.i64 (IntKind.wrap IntKind.i64 (i7 + 1))))])) False) False) False))) False) (Q (Out.exit 0 [(0, IV.own z1 3 1 x2), (9, IV.d (D.sl 1 z3 x4 e5)), (10, IV.d (D.int IntKind.i64 i6)), (11, IV.d (D.int IntKind.i64 i7))]))) := by kernel_rfl
theorem q12 (C J) (z1 : Bool) (x2 : List D) (e3 : List D) (z4 : Bool) (x5 : List D) (e6 : List D) (z7 : Bool) (x8 : List D) (e9 : List D) (z10 : Bool) (x11 : List D) (e12 : List D) (Q) : fnW F C R (L12) J d12 [.d (.sl 4 z1 x2 e3), .d (.agg [.sl 2 z4 x5 e6, .sl 1 z7 x8 e9, .sl 2 z10 x11 e12])] Q = (∃ w0 w1 w2, C 18 [IV.d (D.sl 4 z1 x2 e3), IV.d (D.agg [D.sl 2 z4 x5 e6, D.sl 1 z7 x8 e9, D.sl 2 z10 x11 e12])] = some (IV.d (D.bool w0), [IV.d w1, IV.d w2]) ∧ condW w0 (∃ w3 w4 w5, C 35 [IV.d (D.sl 1 false [D.sl 2 z4 x5 e6, D.sl 2 z10 x11 e12] [])] = some (IV.own w3 57 2 w4, [IV.d w5]) ∧ ∃ w6 w7 w8 w9 w10 w11 w12 w13 w14 w15 w16 w17 w18 w19 w20, evP F C J d12 [] [1, 1, 1, 0, 1] [(3, IV.dbox 26 0 [D.sl 2 z4 x5 e6, D.sl 1 z7 x8 e9, D.sl 2 z10 x11 e12]), (6, IV.own true 3 1 []), (20, IV.own w3 57 2 w4), (21, IV.d (D.int IntKind.i64 (↑(List.length w4) : Int))), (22, IV.d (D.int IntKind.i64 0))] = some (Out.norm [(3, IV.dbox 26 0 [D.sl 2 w6 w7 w8, D.sl 1 w9 w10 w11, D.sl 2 w12 w13 w14]), (6, IV.own w15 3 1 w16), (20, IV.own w17 57 2 w18), (21, IV.d (D.int IntKind.i64 w19)), (22, IV.d (D.int IntKind.i64 w20))]) ∧ ∃ w21 w22 w23 w24 w25 w26 w27, evP F C J d12 [] [1, 1, 1, 1, 0, 1] [(6, IV.own w15 3 1 w16), (32, IV.d (D.sl 1 w9 w10 w11)), (33, IV.d (D.int IntKind.i64 (↑(List.length w10) : Int))), (34, IV.d (D.int IntKind.i64 0))] = some (Out.norm [(6, IV.own w21 3 1 w22), (32, IV.d (D.sl 1 w23 w24 w25)), (33, IV.d (D.int IntKind.i64 w26)), (34, IV.d (D.int IntKind.i64 w27))]) ∧ Q (some (IV.tup [IV.own w21 3 1 w22, IV.d (D.int IntKind.i64 0)], [IV.d (D.sl 4 z1 x2 e3), IV.d (D.agg [D.sl 2 z4 x5 e6, D.sl 1 z7 x8 e9, D.sl 2 z10 x11 e12])]))) (Q (some (IV.tup [IV.own true 3 1 [], IV.d (D.int IntKind.i64 800)], [IV.d (D.sl 4 z1 x2 e3), IV.d (D.agg [D.sl 2 z4 x5 e6, D.sl 1 z7 x8 e9, D.sl 2 z10 x11 e12])])))) := by kernel_rfl
theorem q12_l0a (C J) (z1 : Bool) (x2 : List D) (e3 : List D) (z4 : Bool) (x5 : List D) (e6 : List D) (z7 : Bool) (x8 : List D) (e9 : List D) (z10 : Bool) (x11 : List D) (z12 : Bool) (x13 : List D) (i14 : Int) (i15 : Int) (Q) : wpQ F C R (L12) J d12 [] [1,1,1,0,1,0,0] [(3, .dbox 26 0 [.sl 2 z1 x2 e3, .sl 1 z4 x5 e6, .sl 2 z7 x8 e9]), (6, .own z10 3 1 x11), (20, .own z12 57 2 x13), (21, .d (.int .i64 i14)), (22, .d (.int .i64 i15))] Q = (condW (decide (i15 < i14)) (condW (decide (0 ≤ i15)) (∃ w0, x13[Int.toNat i15]? = some w0 ∧ ∃ w1 w2 w3 w4, x13[Int.toNat i15]? = some (D.agg [D.bool w1, D.sl 1 w2 w3 w4]) ∧ ∃ w5 w6 w7, C 36 [IV.own z10 3 1 x11, IV.d (D.sl 1 w2 w3 w4)] = some (IV.own w5 3 1 w6, [IV.dead, IV.d w7]) ∧ Q (Out.norm [(3, IV.dbox 26 0 [D.sl 2 z1 x2 e3, D.sl 1 z4 x5 e6, D.sl 2 z7 x8 e9]), (6, IV.own w5 3 1 w6), (20, IV.own z12 57 2 x13), (21, IV.d (D.int IntKind.i64 i14)), (22, IV.d (D.int IntKind.i64 (IntKind.wrap IntKind.i64 (i15 + 1))))])) False) (Q (Out.exit 0 [(3, IV.dbox 26 0 [D.sl 2 z1 x2 e3, D.sl 1 z4 x5 e6, D.sl 2 z7 x8 e9]), (6, IV.own z10 3 1 x11), (20, IV.own z12 57 2 x13), (21, IV.d (D.int IntKind.i64 i14)), (22, IV.d (D.int IntKind.i64 i15))]))) := by kernel_rfl
theorem q12_l2a (C J) (z1 : Bool) (x2 : List D) (z3 : Bool) (x4 : List D) (e5 : List D) (i6 : Int) (i7 : Int) (Q) : wpQ F C R (L12) J d12 [] [1,1,1,1,0,1,0,0] [(6, .own z1 3 1 x2), (32, .d (.sl 1 z3 x4 e5)), (33, .d (.int .i64 i6)), (34, .d (.int .i64 i7))] Q = (condW (decide (i7 < i6)) (condW (decide (0 ≤ i7)) (∃ w0 w1 w2, x4[Int.toNat i7]? = some (D.sl 1 w0 w1 w2) ∧ ∃ w3 w4 w5, C 36 [IV.own z1 3 1 x2, IV.d (D.sl 1 w0 w1 w2)] = some (IV.own w3 3 1 w4, [IV.dead, IV.d w5]) ∧ Q (Out.norm [(6, IV.own w3 3 1 w4), (32, IV.d (D.sl 1 z3 x4 e5)), (33, IV.d (D.int IntKind.i64 i6)), (34, IV.d (D.int IntKind.i64 (IntKind.wrap IntKind.i64 (i7 + 1))))])) False) (Q (Out.exit 2 [(6, IV.own z1 3 1 x2), (32, IV.d (D.sl 1 z3 x4 e5)), (33, IV.d (D.int IntKind.i64 i6)), (34, IV.d (D.int IntKind.i64 i7))]))) := by kernel_rfl
theorem q99 (C J) (z1 : Bool) (x2 : List D) (e3 : List D) (i4 : Int) (Q) : fnW F C R (L99) J d99 [.d (.sl 1 z1 x2 e3), .d (.int .i64 i4)] Q = ((∃ w0, evP F C J d99 [] [1, 0, 1] [(0, IV.d (D.sl 1 z1 x2 e3)), (1, IV.d (D.int IntKind.i64 i4)), (5, IV.d (D.int IntKind.i64 0))] = some (Out.ret [(4, IV.d (D.bool w0))]) ∧ Q (some (IV.d (D.bool w0), [IV.d (D.sl 1 z1 x2 e3), IV.d (D.int IntKind.i64 i4)]))) ∨ ∃ w1 w2 w3 w4 w5, evP F C J d99 [] [1, 0, 1] [(0, IV.d (D.sl 1 z1 x2 e3)), (1, IV.d (D.int IntKind.i64 i4)), (5, IV.d (D.int IntKind.i64 0))] = some (Out.norm [(0, IV.d (D.sl 1 w1 w2 w3)), (1, IV.d (D.int IntKind.i64 w4)), (5, IV.d (D.int IntKind.i64 w5))]) ∧ Q (some (IV.d (D.bool false), [IV.d (D.sl 1 z1 x2 e3), IV.d (D.int IntKind.i64 i4)]))) := by kernel_rfl
theorem q99_l0a (C J) (z1 : Bool) (x2 : List D) (e3 : List D) (i4 : Int) (i5 : Int) (Q) : wpQ F C R (L99) J d99 [] [1,0,1,0,0] [(0, .d (.sl 1 z1 x2 e3)), (1, .d (.int .i64 i4)), (5, .d (.int .i64 i5))] Q = (condW (decide (i5 < (↑(List.length x2) : Int))) (condW (decide (0 ≤ i5)) (∃ w0, x2[Int.toNat i5]? = some (D.int IntKind.i64 w0) ∧ condW (w0 == IntKind.wrap IntKind.i64 (-1 - i4)) (Q (Out.ret [(4, IV.d (D.bool true))])) (Q (Out.norm [(0, IV.d (D.sl 1 z1 x2 e3)), (1, IV.d (D.int IntKind.i64 i4)), (5, IV.d (D.int IntKind.i64 (IntKind.wrap IntKind.i64 (i5 + 1))))]))) False) (Q (Out.exit 0 [(0, IV.d (D.sl 1 z1 x2 e3)), (1, IV.d (D.int IntKind.i64 i4)), (5, IV.d (D.int IntKind.i64 i5))]))) := by kernel_rfl
theorem q67 (C J) (z1 : Bool) (x2 : List D) (e3 : List D) (Q) : fnW F C R (L67) J d67 [.d (.sl 1 z1 x2 e3)] Q = (∃ w0 w1 w2 w3 w4 w5, evP F C J d67 [] [1, 1, 0, 1] [(0, IV.d (D.sl 1 z1 x2 e3)), (3, IV.own true 3 1 []), (4, IV.d (D.int IntKind.i64 0))] = some (Out.norm [(0, IV.d (D.sl 1 w0 w1 w2)), (3, IV.own w3 3 1 w4), (4, IV.d (D.int IntKind.i64 w5))]) ∧ Q (some (IV.own w3 3 1 w4, [IV.d (D.sl 1 z1 x2 e3)]))) := by kernel_rfl
theorem q67_l0a (C J) (z1 : Bool) (x2 : List D) (e3 : List D) (z4 : Bool) (x5 : List D) (i6 : Int) (Q) : wpQ F C R (L67) J d67 [] [1,1,0,1,0,0] [(0, .d (.sl 1 z1 x2 e3)), (3, .own z4 3 1 x5), (4, .d (.int .i64 i6))] Q = (condW (decide (i6 ≤ 23)) (∃ w0 w1 w2, C 99 [IV.d (D.sl 1 z1 x2 e3), IV.d (D.int IntKind.i64 i6)] = some (IV.d (D.bool w0), [IV.d w1, IV.d w2]) ∧ condW w0 (condW (decide (List.length x5 + (0 + 1) ≤ 9223372036854775807)) (condW (decide ((List.length x5 + (0 + 1)) * 8 ≤ 140737488355328)) (Q (Out.norm [(0, IV.d (D.sl 1 z1 x2 e3)), (3, IV.own (z4 && false) 3 1 (x5 ++ [D.int IntKind.i64 i6])), (4, IV.d (D.int IntKind.i64 (IntKind.wrap IntKind.i64 (i6 + 1))))])) False) False) (Q (Out.norm [(0, IV.d (D.sl 1 z1 x2 e3)), (3, IV.own z4 3 1 x5), (4, IV.d (D.int IntKind.i64 (IntKind.wrap IntKind.i64 (i6 + 1))))]))) (Q (Out.exit 0 [(0, IV.d (D.sl 1 z1 x2 e3)), (3, IV.own z4 3 1 x5), (4, IV.d (D.int IntKind.i64 i6))]))) := by kernel_rfl
theorem q37 (C J) (z1 : Bool) (x2 : List D) (e3 : List D) (z4 : Bool) (x5 : List D) (e6 : List D) (z7 : Bool) (x8 : List D) (e9 : List D) (Q) : fnW F C R (L37) J d37 [.d (.agg [.sl 2 z1 x2 e3, .sl 1 z4 x5 e6, .sl 2 z7 x8 e9])] Q = (∃ w0 w1 w2, C 53 [IV.d (D.agg [D.sl 2 z1 x2 e3, D.sl 1 z4 x5 e6, D.sl 2 z7 x8 e9])] = some (IV.own w0 33 1 w1, [IV.d w2]) ∧ ∃ w3 w4 w5 w6 w7, evP F C J d37 [] [1, 1, 1, 0, 1] [(3, IV.own true 3 1 []), (4, IV.own w0 33 1 w1), (5, IV.d (D.int IntKind.i64 0))] = some (Out.norm [(3, IV.own w3 3 1 w4), (4, IV.own w5 33 1 w6), (5, IV.d (D.int IntKind.i64 w7))]) ∧ ∃ w8 w9 w10, C 67 [IV.d (D.sl 1 w3 w4 [])] = some (IV.own w8 3 1 w9, [IV.d w10]) ∧ Q (some (IV.own w8 3 1 w9, [IV.d (D.agg [D.sl 2 z1 x2 e3, D.sl 1 z4 x5 e6, D.sl 2 z7 x8 e9])]))) := by kernel_rfl
theorem q37_l0a (C J) (z1 : Bool) (x2 : List D) (z3 : Bool) (x4 : List D) (i5 : Int) (Q) : wpQ F C R (L37) J d37 [] [1,1,1,0,1,0,0] [(3, .own z1 3 1 x2), (4, .own z3 33 1 x4), (5, .d (.int .i64 i5))] Q = (condW (decide (i5 < (↑(List.length x4) : Int))) (condW (decide (0 ≤ i5)) (∃ w0, x4[Int.toNat i5]? = some w0 ∧ ∃ w1 w2 w3, x4[Int.toNat i5]? = some (D.sl 1 w1 w2 w3) ∧ condW (decide (List.length x2 + List.length w2 ≤ 9223372036854775807)) (condW (decide ((List.length x2 + List.length w2) * 8 ≤ 140737488355328)) (Q (Out.norm [(3, IV.own (z1 && List.isEmpty w2) 3 1 (x2 ++ w2)), (4, IV.own z3 33 1 x4), (5, IV.d (D.int IntKind.i64 (IntKind.wrap IntKind.i64 (i5 + 1))))])) False) False) False) (Q (Out.exit 0 [(3, IV.own z1 3 1 x2), (4, IV.own z3 33 1 x4), (5, IV.d (D.int IntKind.i64 i5))]))) := by kernel_rfl
theorem q41 (C J) (z1 : Bool) (x2 : List D) (e3 : List D) (z4 : Bool) (x5 : List D) (e6 : List D) (Q) : fnW F C R (L41) J d41 [.d (.sl 1 z1 x2 e3), .d (.sl 1 z4 x5 e6)] Q = (condW ((↑(List.length x2) : Int) != (↑(List.length x5) : Int)) (Q (some (IV.d (D.bool false), [IV.d (D.sl 1 z1 x2 e3), IV.d (D.sl 1 z4 x5 e6)]))) ((∃ w0, evP F C J d41 [] [1, 1, 0, 1] [(0, IV.d (D.sl 1 z1 x2 e3)), (1, IV.d (D.sl 1 z4 x5 e6)), (12, IV.d (D.int IntKind.i64 (↑(List.length x2) : Int))), (13, IV.d (D.int IntKind.i64 0))] = some (Out.ret [(4, IV.d (D.bool w0))]) ∧ Q (some (IV.d (D.bool w0), [IV.d (D.sl 1 z1 x2 e3), IV.d (D.sl 1 z4 x5 e6)]))) ∨ ∃ w1 w2 w3 w4 w5 w6 w7 w8, evP F C J d41 [] [1, 1, 0, 1] [(0, IV.d (D.sl 1 z1 x2 e3)), (1, IV.d (D.sl 1 z4 x5 e6)), (12, IV.d (D.int IntKind.i64 (↑(List.length x2) : Int))), (13, IV.d (D.int IntKind.i64 0))] = some (Out.norm [(0, IV.d (D.sl 1 w1 w2 w3)), (1, IV.d (D.sl 1 w4 w5 w6)), (12, IV.d (D.int IntKind.i64 w7)), (13, IV.d (D.int IntKind.i64 w8))]) ∧ Q (some (IV.d (D.bool true), [IV.d (D.sl 1 z1 x2 e3), IV.d (D.sl 1 z4 x5 e6)])))) := by kernel_rfl
theorem q41_l0a (C J) (z1 : Bool) (x2 : List D) (e3 : List D) (z4 : Bool) (x5 : List D) (e6 : List D) (i7 : Int) (i8 : Int) (Q) : wpQ F C R (L41) J d41 [] [1,1,0,1,0,0] [(0, .d (.sl 1 z1 x2 e3)), (1, .d (.sl 1 z4 x5 e6)), (12, .d (.int .i64 i7)), (13, .d (.int .i64 i8))] Q = (condW (decide (i8 < i7)) (condW (decide (0 ≤ i8)) (∃ w0, x2[Int.toNat i8]? = some (D.int IntKind.i64 w0) ∧ condW (decide (0 ≤ i8)) (∃ w1, x5[Int.toNat i8]? = some (D.int IntKind.i64 w1) ∧ condW (w0 != w1) (Q (Out.ret [(4, IV.d (D.bool false))])) (Q (Out.norm [(0, IV.d (D.sl 1 z1 x2 e3)), (1, IV.d (D.sl 1 z4 x5 e6)), (12, IV.d (D.int IntKind.i64 i7)), (13, IV.d (D.int IntKind.i64 (IntKind.wrap IntKind.i64 (i8 + 1))))]))) False) False) (Q (Out.exit 0 [(0, IV.d (D.sl 1 z1 x2 e3)), (1, IV.d (D.sl 1 z4 x5 e6)), (12, IV.d (D.int IntKind.i64 i7)), (13, IV.d (D.int IntKind.i64 i8))]))) := by kernel_rfl
theorem q68 (C J) (z1 : Bool) (x2 : List D) (e3 : List D) (z4 : Bool) (x5 : List D) (e6 : List D) (Q) : fnW F C R (L68) J d68 [.d (.sl 4 z1 x2 e3), .d (.sl 1 z4 x5 e6)] Q = ((∃ w0 w1, evP F C J d68 [] [1, 1, 0, 1] [(0, IV.d (D.sl 4 z1 x2 e3)), (1, IV.d (D.sl 1 z4 x5 e6)), (5, IV.own true 33 1 []), (6, IV.d (D.int IntKind.i64 0))] = some (Out.ret [(4, IV.own w0 33 1 w1)]) ∧ Q (some (IV.own w0 33 1 w1, [IV.d (D.sl 4 z1 x2 e3), IV.d (D.sl 1 z4 x5 e6)]))) ∨ ∃ w2 w3 w4 w5 w6 w7 w8 w9 w10, evP F C J d68 [] [1, 1, 0, 1] [(0, IV.d (D.sl 4 z1 x2 e3)), (1, IV.d (D.sl 1 z4 x5 e6)), (5, IV.own true 33 1 []), (6, IV.d (D.int IntKind.i64 0))] = some (Out.norm [(0, IV.d (D.sl 4 w2 w3 w4)), (1, IV.d (D.sl 1 w5 w6 w7)), (5, IV.own w8 33 1 w9), (6, IV.d (D.int IntKind.i64 w10))]) ∧ Q (some (IV.own w8 33 1 w9, [IV.d (D.sl 4 z1 x2 e3), IV.d (D.sl 1 z4 x5 e6)]))) := by kernel_rfl
theorem q68_l0a (C J) (z1 : Bool) (x2 : List D) (e3 : List D) (z4 : Bool) (x5 : List D) (e6 : List D) (z7 : Bool) (x8 : List D) (i9 : Int) (Q) : wpQ F C R (L68) J d68 [] [1,1,0,1,0,0] [(0, .d (.sl 4 z1 x2 e3)), (1, .d (.sl 1 z4 x5 e6)), (5, .own z7 33 1 x8), (6, .d (.int .i64 i9))] Q = (condW (decide (i9 < (↑(List.length x5) : Int)))   (∃ w0 w1 w2 w3 w4,     C 100 [IV.d (D.sl 4 z1 x2 e3), IV.d (D.sl 1 z4 x5 e6), IV.d (D.int IntKind.i64 i9)] = some (IV.tup [IV.d (D.int IntKind.i64 w0), IV.d (D.bool w1)], [IV.d w2, IV.d w3, IV.d w4]) ∧       condW w1         (condW (decide (0 ≤ i9))           (condW (decide (i9 ≤ w0))             (condW (decide (w0 ≤ (↑(List.length x5 + List.length e6) : Int)))               (condW (decide (List.length x8 + (0 + 1) ≤ 9223372036854775807))                 (condW (decide ((List.length x8 + (0 + 1)) * 24 ≤ 140737488355328))                   (Q                     (Out.norm                       [(0, IV.d (D.sl 4 z1 x2 e3)), (1, IV.d (D.sl 1 z4 x5 e6)),                         (5,                           IV.own (z7 && false) 33 1                             (x8 ++                               [D.sl 1 z4                                   (List.drop (Int.toNat i9)                                     (tkX (Int.toNat w0) x5 e6))                                   []])),                         (6, IV.d (D.int IntKind.i64 w0))]))                   False)                 False)               False)             False)           False)         (Q (Out.ret [(4, IV.own z7 33 1 x8)])))   (Q (Out.exit 0 [(0, IV.d (D.sl 4 z1 x2 e3)), (1, IV.d (D.sl 1 z4 x5 e6)), (5, IV.own z7 33 1 x8), (6, IV.d (D.int IntKind.i64 i9))]))) := by kernel_rfl
theorem q38 (C J) (z1 : Bool) (x2 : List D) (e3 : List D) (b4 : Bool) (z5 : Bool) (x6 : List D) (e7 : List D) (Q) : fnW F C R (L38) J d38 [.d (.sl 4 z1 x2 e3), .d (.agg [.bool b4, .sl 1 z5 x6 e7])] Q = (condW b4 (Q (some (IV.d (D.bool false), [IV.d (D.sl 4 z1 x2 e3), IV.d (D.agg [D.bool b4, D.sl 1 z5 x6 e7])]))) (∃ w0, x6[0]? = some (D.int IntKind.i64 w0) ∧ condW (w0 != 0) (Q (some (IV.d (D.bool false), [IV.d (D.sl 4 z1 x2 e3), IV.d (D.agg [D.bool b4, D.sl 1 z5 x6 e7])]))) (condW (decide (1 ≤ (↑(List.length x6) : Int))) (∃ w1 w2 w3 w4, C 68 [IV.d (D.sl 4 z1 x2 e3), IV.d (D.sl 1 z5 (List.drop (Int.toNat 1) x6) [])] = some (IV.own w1 33 1 w2, [IV.d w3, IV.d w4]) ∧ ∃ w5, w2[0]? = some w5 ∧ ∃ w6 w7 w8, w2[0]? = some (D.sl 1 w6 w7 w8) ∧ ∃ w9, w2[1]? = some w9 ∧ ∃ w10 w11 w12, w2[1]? = some (D.sl 1 w10 w11 w12) ∧ ∃ w13 w14 w15, C 41 [IV.d (D.sl 1 w6 w7 w8), IV.d (D.sl 1 w10 w11 w12)] = some (IV.d (D.bool w13), [IV.d w14, IV.d w15]) ∧ condW w13 (Q (some (IV.d (D.bool true), [IV.d (D.sl 4 z1 x2 e3), IV.d (D.agg [D.bool b4, D.sl 1 z5 x6 e7])]))) (Q (some (IV.d (D.bool false), [IV.d (D.sl 4 z1 x2 e3), IV.d (D.agg [D.bool b4, D.sl 1 z5 x6 e7])])))) False))) := by kernel_rfl
theorem q40 (C J) (b1 : Bool) (z2 : Bool) (x3 : List D) (e4 : List D) (b5 : Bool) (z6 : Bool) (x7 : List D) (e8 : List D) (Q) : fnW F C R (L40) J d40 [.d (.agg [.bool b1, .sl 1 z2 x3 e4]), .dptr [.bool b5, .sl 1 z6 x7 e8]] Q = (condW b5 (condW b1 (Q (some (IV.d (D.bool false), [IV.d (D.agg [D.bool b1, D.sl 1 z2 x3 e4]), IV.dptr [D.bool b5, D.sl 1 z6 x7 e8]]))) (∃ w0 w1 w2, C 41 [IV.d (D.sl 1 z6 x7 e8), IV.d (D.sl 1 z2 x3 e4)] = some (IV.d (D.bool w0), [IV.d w1, IV.d w2]) ∧ condW w0 (Q (some (IV.d (D.bool true), [IV.d (D.agg [D.bool b1, D.sl 1 z2 x3 e4]), IV.dptr [D.bool b5, D.sl 1 z6 x7 e8]]))) (Q (some (IV.d (D.bool false), [IV.d (D.agg [D.bool b1, D.sl 1 z2 x3 e4]), IV.dptr [D.bool b5, D.sl 1 z6 x7 e8]]))))) (condW b1 (∃ w3 w4 w5, C 41 [IV.d (D.sl 1 z6 x7 e8), IV.d (D.sl 1 z2 x3 e4)] = some (IV.d (D.bool w3), [IV.d w4, IV.d w5]) ∧ condW w3 (Q (some (IV.d (D.bool true), [IV.d (D.agg [D.bool b1, D.sl 1 z2 x3 e4]), IV.dptr [D.bool b5, D.sl 1 z6 x7 e8]]))) (Q (some (IV.d (D.bool false), [IV.d (D.agg [D.bool b1, D.sl 1 z2 x3 e4]), IV.dptr [D.bool b5, D.sl 1 z6 x7 e8]])))) (Q (some (IV.d (D.bool false), [IV.d (D.agg [D.bool b1, D.sl 1 z2 x3 e4]), IV.dptr [D.bool b5, D.sl 1 z6 x7 e8]]))))) := by kernel_rfl
theorem q73 (C J) (b1 : Bool) (z2 : Bool) (x3 : List D) (e4 : List D) (b5 : Bool) (z6 : Bool) (x7 : List D) (e8 : List D) (Q) : fnW F C R (L73) J d73 [.d (.agg [.bool b1, .sl 1 z2 x3 e4]), .d (.agg [.bool b5, .sl 1 z6 x7 e8])] Q = (condW b1 (condW b5 (∃ w0 w1 w2, C 41 [IV.d (D.sl 1 z2 x3 e4), IV.d (D.sl 1 z6 x7 e8)] = some (IV.d (D.bool w0), [IV.d w1, IV.d w2]) ∧ condW w0 (Q (some (IV.d (D.bool true), [IV.d (D.agg [D.bool b1, D.sl 1 z2 x3 e4]), IV.d (D.agg [D.bool b5, D.sl 1 z6 x7 e8])]))) (Q (some (IV.d (D.bool false), [IV.d (D.agg [D.bool b1, D.sl 1 z2 x3 e4]), IV.d (D.agg [D.bool b5, D.sl 1 z6 x7 e8])])))) (Q (some (IV.d (D.bool false), [IV.d (D.agg [D.bool b1, D.sl 1 z2 x3 e4]), IV.d (D.agg [D.bool b5, D.sl 1 z6 x7 e8])])))) (condW b5 (Q (some (IV.d (D.bool false), [IV.d (D.agg [D.bool b1, D.sl 1 z2 x3 e4]), IV.d (D.agg [D.bool b5, D.sl 1 z6 x7 e8])]))) (∃ w3 w4 w5, C 41 [IV.d (D.sl 1 z2 x3 e4), IV.d (D.sl 1 z6 x7 e8)] = some (IV.d (D.bool w3), [IV.d w4, IV.d w5]) ∧ condW w3 (Q (some (IV.d (D.bool true), [IV.d (D.agg [D.bool b1, D.sl 1 z2 x3 e4]), IV.d (D.agg [D.bool b5, D.sl 1 z6 x7 e8])]))) (Q (some (IV.d (D.bool false), [IV.d (D.agg [D.bool b1, D.sl 1 z2 x3 e4]), IV.d (D.agg [D.bool b5, D.sl 1 z6 x7 e8])])))))) := by kernel_rfl
theorem q102 (C J) (b1 : Bool) (z2 : Bool) (x3 : List D) (e4 : List D) (b5 : Bool) (z6 : Bool) (x7 : List D) (e8 : List D) (Q) : fnW F C R (L102) J d102 [.d (.agg [.bool b1, .sl 1 z2 x3 e4]), .dptr [.bool b5, .sl 1 z6 x7 e8]] Q = (∃ w0 w1 w2, C 73 [IV.d (D.agg [D.bool b5, D.sl 1 z6 x7 e8]), IV.d (D.agg [D.bool b1, D.sl 1 z2 x3 e4])] = some (IV.d (D.bool w0), [IV.d w1, IV.d w2]) ∧ condW w0 (Q (some (IV.d (D.bool true), [IV.d (D.agg [D.bool b1, D.sl 1 z2 x3 e4]), IV.dptr [D.bool b5, D.sl 1 z6 x7 e8]]))) (Q (some (IV.d (D.bool false), [IV.d (D.agg [D.bool b1, D.sl 1 z2 x3 e4]), IV.dptr [D.bool b5, D.sl 1 z6 x7 e8]])))) := by kernel_rfl
theorem q69 (C J) (z1 : Bool) (x2 : List D) (e3 : List D) (b4 : Bool) (z5 : Bool) (x6 : List D) (e7 : List D) (Q) : fnW F C R (L69) J d69 [.d (.sl 2 z1 x2 e3), .fn 40 [.dptr [.bool b4, .sl 1 z5 x6 e7]]] Q = ((∃ w0 w1 w2 w3 w4, evP F C J d69 [1] [1, 0, 1] [(0, IV.d (D.sl 2 z1 x2 e3)), (1, IV.fn 40 [IV.dptr [D.bool b4, D.sl 1 z5 x6 e7]]), (7, IV.d (D.int IntKind.i64 (↑(List.length x2) : Int))), (8, IV.d (D.int IntKind.i64 0))] = some (Out.ret [(1, IV.fn 40 [IV.dptr [D.bool w0, D.sl 1 w1 w2 w3]]), (4, IV.d (D.int IntKind.i64 w4))]) ∧ Q (some (IV.d (D.int IntKind.i64 w4), [IV.d (D.sl 2 z1 x2 e3), IV.fn 40 [IV.dptr [D.bool w0, D.sl 1 w1 w2 w3]]]))) ∨ (∃ w5 w6 w7 w8 w9 w10 w11 w12 w13, evP F C J d69 [1] [1, 0, 1] [(0, IV.d (D.sl 2 z1 x2 e3)), (1, IV.fn 40 [IV.dptr [D.bool b4, D.sl 1 z5 x6 e7]]), (7, IV.d (D.int IntKind.i64 (↑(List.length x2) : Int))), (8, IV.d (D.int IntKind.i64 0))] = some (Out.norm [(0, IV.d (D.sl 2 w5 w6 w7)), (1, IV.fn 40 [IV.dptr [D.bool w8, D.sl 1 w9 w10 w11]]), (7, IV.d (D.int IntKind.i64 w12)), (8, IV.d (D.int IntKind.i64 w13))]) ∧ Q (some (IV.d (D.int IntKind.i64 (-1)), [IV.d (D.sl 2 z1 x2 e3), IV.fn 40 [IV.dptr [D.bool w8, D.sl 1 w9 w10 w11]]]))) ∨ (∃ w14 w15 w16 w17 w18, evP F C J d69 [1] [1, 0, 1] [(0, IV.d (D.sl 2 z1 x2 e3)), (1, IV.fn 40 [IV.dptr [D.bool b4, D.sl 1 z5 x6 e7]]), (7, IV.d (D.int IntKind.i64 (↑(List.length x2) : Int))), (8, IV.d (D.int IntKind.i64 0))] = some (Out.ret [(1, IV.fn 102 [IV.dptr [D.bool w14, D.sl 1 w15 w16 w17]]), (4, IV.d (D.int IntKind.i64 w18))]) ∧ Q (some (IV.d (D.int IntKind.i64 w18), [IV.d (D.sl 2 z1 x2 e3), IV.fn 102 [IV.dptr [D.bool w14, D.sl 1 w15 w16 w17]]]))) ∨ ∃ w19 w20 w21 w22 w23 w24 w25 w26 w27, evP F C J d69 [1] [1, 0, 1] [(0, IV.d (D.sl 2 z1 x2 e3)), (1, IV.fn 40 [IV.dptr [D.bool b4, D.sl 1 z5 x6 e7]]), (7, IV.d (D.int IntKind.i64 (↑(List.length x2) : Int))), (8, IV.d (D.int IntKind.i64 0))] = some (Out.norm [(0, IV.d (D.sl 2 w19 w20 w21)), (1, IV.fn 102 [IV.dptr [D.bool w22, D.sl 1 w23 w24 w25]]), (7, IV.d (D.int IntKind.i64 w26)), (8, IV.d (D.int IntKind.i64 w27))]) ∧ Q (some (IV.d (D.int IntKind.i64 (-1)), [IV.d (D.sl 2 z1 x2 e3), IV.fn 102 [IV.dptr [D.bool w22, D.sl 1 w23 w24 w25]]]))) := by kernel_rfl
theorem q69v1 (C J) (z1 : Bool) (x2 : List D) (e3 : List D) (b4 : Bool) (z5 : Bool) (x6 : List D) (e7 : List D) (Q) : fnW F C R (L69) J d69 [.d (.sl 2 z1 x2 e3), .fn 102 [.dptr [.bool b4, .sl 1 z5 x6 e7]]] Q = ((∃ w0 w1 w2 w3 w4, evP F C J d69 [1] [1, 0, 1] [(0, IV.d (D.sl 2 z1 x2 e3)), (1, IV.fn 102 [IV.dptr [D.bool b4, D.sl 1 z5 x6 e7]]), (7, IV.d (D.int IntKind.i64 (↑(List.length x2) : Int))), (8, IV.d (D.int IntKind.i64 0))] = some (Out.ret [(1, IV.fn 40 [IV.dptr [D.bool w0, D.sl 1 w1 w2 w3]]), (4, IV.d (D.int IntKind.i64 w4))]) ∧ Q (some (IV.d (D.int IntKind.i64 w4), [IV.d (D.sl 2 z1 x2 e3), IV.fn 40 [IV.dptr [D.bool w0, D.sl 1 w1 w2 w3]]]))) ∨ (∃ w5 w6 w7 w8 w9 w10 w11 w12 w13, evP F C J d69 [1] [1, 0, 1] [(0, IV.d (D.sl 2 z1 x2 e3)), (1, IV.fn 102 [IV.dptr [D.bool b4, D.sl 1 z5 x6 e7]]), (7, IV.d (D.int IntKind.i64 (↑(List.length x2) : Int))), (8, IV.d (D.int IntKind.i64 0))] = some (Out.norm [(0, IV.d (D.sl 2 w5 w6 w7)), (1, IV.fn 40 [IV.dptr [D.bool w8, D.sl 1 w9 w10 w11]]), (7, IV.d (D.int IntKind.i64 w12)), (8, IV.d (D.int IntKind.i64 w13))]) ∧ Q (some (IV.d (D.int IntKind.i64 (-1)), [IV.d (D.sl 2 z1 x2 e3), IV.fn 40 [IV.dptr [D.bool w8, D.sl 1 w9 w10 w11]]]))) ∨ (∃ w14 w15 w16 w17 w18, evP F C J d69 [1] [1, 0, 1] [(0, IV.d (D.sl 2 z1 x2 e3)), (1, IV.fn 102 [IV.dptr [D.bool b4, D.sl 1 z5 x6 e7]]), (7, IV.d (D.int IntKind.i64 (↑(List.length x2) : Int))), (8, IV.d (D.int IntKind.i64 0))] = some (Out.ret [(1, IV.fn 102 [IV.dptr [D.bool w14, D.sl 1 w15 w16 w17]]), (4, IV.d (D.int IntKind.i64 w18))]) ∧ Q (some (IV.d (D.int IntKind.i64 w18), [IV.d (D.sl 2 z1 x2 e3), IV.fn 102 [IV.dptr [D.bool w14, D.sl 1 w15 w16 w17]]]))) ∨ ∃ w19 w20 w21 w22 w23 w24 w25 w26 w27, evP F C J d69 [1] [1, 0, 1] [(0, IV.d (D.sl 2 z1 x2 e3)), (1, IV.fn 102 [IV.dptr [D.bool b4, D.sl 1 z5 x6 e7]]), (7, IV.d (D.int IntKind.i64 (↑(List.length x2) : Int))), (8, IV.d (D.int IntKind.i64 0))] = some (Out.norm [(0, IV.d (D.sl 2 w19 w20 w21)), (1, IV.fn 102 [IV.dptr [D.bool w22, D.sl 1 w23 w24 w25]]), (7, IV.d (D.int IntKind.i64 w26)), (8, IV.d (D.int IntKind.i64 w27))]) ∧ Q (some (IV.d (D.int IntKind.i64 (-1)), [IV.d (D.sl 2 z1 x2 e3), IV.fn 102 [IV.dptr [D.bool w22, D.sl 1 w23 w24 w25]]]))) := by kernel_rfl
theorem q69_l0a (C J) (z1 : Bool) (x2 : List D) (e3 : List D) (b4 : Bool) (z5 : Bool) (x6 : List D) (e7 : List D) (i8 : Int) (i9 : Int) (Q) : wpQ F C R (L69) J d69 [1] [1,0,1,0,0] [(0, .d (.sl 2 z1 x2 e3)), (1, .fn 40 [.dptr [.bool b4, .sl 1 z5 x6 e7]]), (7, .d (.int .i64 i8)), (8, .d (.int .i64 i9))] Q = (condW (decide (i9 < i8)) (condW (decide (0 ≤ i9)) (∃ w0 w1 w2 w3, x2[Int.toNat i9]? = some (D.agg [D.bool w0, D.sl 1 w1 w2 w3]) ∧ ∃ w4 w5 w6, C 40 [IV.d (D.agg [D.bool w0, D.sl 1 w1 w2 w3]), IV.dptr [D.bool b4, D.sl 1 z5 x6 e7]] = some (IV.d (D.bool w4), [IV.d w5, w6]) ∧ condW w4 (Q (Out.ret [(1, IV.fn 40 [IV.dptr [D.bool b4, D.sl 1 z5 x6 e7]]), (4, IV.d (D.int IntKind.i64 i9))])) (Q (Out.norm [(0, IV.d (D.sl 2 z1 x2 e3)), (1, IV.fn 40 [IV.dptr [D.bool b4, D.sl 1 z5 x6 e7]]), (7, IV.d (D.int IntKind.i64 i8)), (8, IV.d (D.int IntKind.i64 (IntKind.wrap IntKind.i64 (i9 + 1))))]))) False) (Q (Out.exit 0 [(0, IV.d (D.sl 2 z1 x2 e3)), (1, IV.fn 40 [IV.dptr [D.bool b4, D.sl 1 z5 x6 e7]]), (7, IV.d (D.int IntKind.i64 i8)), (8, IV.d (D.int IntKind.i64 i9))]))) := by kernel_rfl
theorem q69_l0b (C J) (z1 : Bool) (x2 : List D) (e3 : List D) (b4 : Bool) (z5 : Bool) (x6 : List D) (e7 : List D) (i8 : Int) (i9 : Int) (Q) : wpQ F C R (L69) J d69 [1] [1,0,1,0,0] [(0, .d (.sl 2 z1 x2 e3)), (1, .fn 102 [.dptr [.bool b4, .sl 1 z5 x6 e7]]), (7, .d (.int .i64 i8)), (8, .d (.int .i64 i9))] Q = (condW (decide (i9 < i8)) (condW (decide (0 ≤ i9)) (∃ w0 w1 w2 w3, x2[Int.toNat i9]? = some (D.agg [D.bool w0, D.sl 1 w1 w2 w3]) ∧ ∃ w4 w5 w6, C 102 [IV.d (D.agg [D.bool w0, D.sl 1 w1 w2 w3]), IV.dptr [D.bool b4, D.sl 1 z5 x6 e7]] = some (IV.d (D.bool w4), [IV.d w5, w6]) ∧ condW w4 (Q (Out.ret [(1, IV.fn 102 [IV.dptr [D.bool b4, D.sl 1 z5 x6 e7]]), (4, IV.d (D.int IntKind.i64 i9))])) (Q (Out.norm [(0, IV.d (D.sl 2 z1 x2 e3)), (1, IV.fn 102 [IV.dptr [D.bool b4, D.sl 1 z5 x6 e7]]), (7, IV.d (D.int IntKind.i64 i8)), (8, IV.d (D.int IntKind.i64 (IntKind.wrap IntKind.i64 (i9 + 1))))]))) False) (Q (Out.exit 0 [(0, IV.d (D.sl 2 z1 x2 e3)), (1, IV.fn 102 [IV.dptr [D.bool b4, D.sl 1 z5 x6 e7]]), (7, IV.d (D.int IntKind.i64 i8)), (8, IV.d (D.int IntKind.i64 i9))]))) := by kernel_rfl
theorem q39 (C J) (z1 : Bool) (x2 : List D) (e3 : List D) (b4 : Bool) (z5 : Bool) (x6 : List D) (e7 : List D) (Q) : fnW F C R (L39) J d39 [.d (.sl 2 z1 x2 e3), .fn 40 [.dptr [.bool b4, .sl 1 z5 x6 e7]]] Q = ((∃ w0 w1 w2, C 69 [IV.d (D.sl 2 z1 x2 e3), IV.fn 40 [IV.dptr [D.bool b4, D.sl 1 z5 x6 e7]]] = some (IV.d (D.int IntKind.i64 w0), [IV.d w1, w2]) ∧ condW (decide (w0 ≥ 0)) (Q (some (IV.d (D.bool true), [IV.d (D.sl 2 z1 x2 e3), IV.fn 40 [IV.dptr [D.bool b4, D.sl 1 z5 x6 e7]]]))) (Q (some (IV.d (D.bool false), [IV.d (D.sl 2 z1 x2 e3), IV.fn 40 [IV.dptr [D.bool b4, D.sl 1 z5 x6 e7]]])))) ∨ ∃ w3 w4 w5, C 69 [IV.d (D.sl 2 z1 x2 e3), IV.fn 40 [IV.dptr [D.bool b4, D.sl 1 z5 x6 e7]]] = some (IV.d (D.int IntKind.i64 w3), [IV.d w4, w5]) ∧ condW (decide (w3 ≥ 0)) (Q (some (IV.d (D.bool true), [IV.d (D.sl 2 z1 x2 e3), IV.fn 40 [IV.dptr [D.bool b4, D.sl 1 z5 x6 e7]]]))) (Q (some (IV.d (D.bool false), [IV.d (D.sl 2 z1 x2 e3), IV.fn 40 [IV.dptr [D.bool b4, D.sl 1 z5 x6 e7]]])))) := by kernel_rfl
theorem q39v1 (C J) (z1 : Bool) (x2 : List D) (e3 : List D) (b4 : Bool) (z5 : Bool) (x6 : List D) (e7 : List D) (Q) : fnW F C R (L39) J d39 [.d (.sl 2 z1 x2 e3), .fn 102 [.dptr [.bool b4, .sl 1 z5 x6 e7]]] Q = ((∃ w0 w1 w2, C 69 [IV.d (D.sl 2 z1 x2 e3), IV.fn 102 [IV.dptr [D.bool b4, D.sl 1 z5 x6 e7]]] = some (IV.d (D.int IntKind.i64 w0), [IV.d w1, w2]) ∧ condW (decide (w0 ≥ 0)) (Q (some (IV.d (D.bool true), [IV.d (D.sl 2 z1 x2 e3), IV.fn 102 [IV.dptr [D.bool b4, D.sl 1 z5 x6 e7]]]))) (Q (some (IV.d (D.bool false), [IV.d (D.sl 2 z1 x2 e3), IV.fn 102 [IV.dptr [D.bool b4, D.sl 1 z5 x6 e7]]])))) ∨ ∃ w3 w4 w5, C 69 [IV.d (D.sl 2 z1 x2 e3), IV.fn 102 [IV.dptr [D.bool b4, D.sl 1 z5 x6 e7]]] = some (IV.d (D.int IntKind.i64 w3), [IV.d w4, w5]) ∧ condW (decide (w3 ≥ 0)) (Q (some (IV.d (D.bool true), [IV.d (D.sl 2 z1 x2 e3), IV.fn 102 [IV.dptr [D.bool b4, D.sl 1 z5 x6 e7]]]))) (Q (some (IV.d (D.bool false), [IV.d (D.sl 2 z1 x2 e3), IV.fn 102 [IV.dptr [D.bool b4, D.sl 1 z5 x6 e7]]])))) := by kernel_rfl
theorem q14 (C J) (z1 : Bool) (x2 : List D) (e3 : List D) (z4 : Bool) (x5 : List D) (e6 : List D) (z7 : Bool) (x8 : List D) (e9 : List D) (z10 : Bool) (x11 : List D) (e12 : List D) (Q) : fnW F C R (L14) J d14 [.d (.sl 4 z1 x2 e3), .d (.agg [.sl 2 z4 x5 e6, .sl 1 z7 x8 e9, .sl 2 z10 x11 e12])] Q = (∃ w0 w1 w2, C 18 [IV.d (D.sl 4 z1 x2 e3), IV.d (D.agg [D.sl 2 z4 x5 e6, D.sl 1 z7 x8 e9, D.sl 2 z10 x11 e12])] = some (IV.d (D.bool w0), [IV.d w1, IV.d w2]) ∧ condW w0 ((∃ w3 w4, evP F C J d14 [] [1, 1, 0, 1] [(0, IV.d (D.sl 4 z1 x2 e3)), (3, IV.dbox 26 0 [D.sl 2 z4 x5 e6, D.sl 1 z7 x8 e9, D.sl 2 z10 x11 e12]), (13, IV.d (D.sl 2 z4 x5 e6)), (14, IV.d (D.int IntKind.i64 (↑(List.length x5) : Int))), (15, IV.d (D.int IntKind.i64 0))] = some (Out.ret [(4, IV.d (D.bool w3)), (5, IV.d (D.int IntKind.i64 w4))]) ∧ Q (some (IV.tup [IV.d (D.bool w3), IV.d (D.int IntKind.i64 w4)], [IV.d (D.sl 4 z1 x2 e3), IV.d (D.agg [D.sl 2 z4 x5 e6, D.sl 1 z7 x8 e9, D.sl 2 z10 x11 e12])]))) ∨ ∃ w5 w6 w7 w8 w9 w10 w11 w12 w13 w14 w15 w16 w17 w18 w19 w20 w21, evP F C J d14 [] [1, 1, 0, 1] [(0, IV.d (D.sl 4 z1 x2 e3)), (3, IV.dbox 26 0 [D.sl 2 z4 x5 e6, D.sl 1 z7 x8 e9, D.sl 2 z10 x11 e12]), (13, IV.d (D.sl 2 z4 x5 e6)), (14, IV.d (D.int IntKind.i64 (↑(List.length x5) : Int))), (15, IV.d (D.int IntKind.i64 0))] = some (Out.norm [(0, IV.d (D.sl 4 w5 w6 w7)), (3, IV.dbox 26 0 [D.sl 2 w8 w9 w10, D.sl 1 w11 w12 w13, D.sl 2 w14 w15 w16]), (13, IV.d (D.sl 2 w17 w18 w19)), (14, IV.d (D.int IntKind.i64 w20)), (15, IV.d (D.int IntKind.i64 w21))]) ∧ Q (some (IV.tup [IV.d (D.bool false), IV.d (D.int IntKind.i64 0)], [IV.d (D.sl 4 z1 x2 e3), IV.d (D.agg [D.sl 2 z4 x5 e6, D.sl 1 z7 x8 e9, D.sl 2 z10 x11 e12])]))) (Q (some (IV.tup [IV.d (D.bool false), IV.d (D.int IntKind.i64 800)], [IV.d (D.sl 4 z1 x2 e3), IV.d (D.agg [D.sl 2 z4 x5 e6, D.sl 1 z7 x8 e9, D.sl 2 z10 x11 e12])])))) := by kernel_rfl
theorem q14_l0a (C J) (z1 : Bool) (x2 : List D) (e3 : List D) (z4 : Bool) (x5 : List D) (e6 : List D) (z7 : Bool) (x8 : List D) (e9 : List D) (z10 : Bool) (x11 : List D) (e12 : List D) (z13 : Bool) (x14 : List D) (e15 : List D) (i16 : Int) (i17 : Int) (Q) : wpQ F C R (L14) J d14 [] [1,1,0,1,0,0] [(0, .d (.sl 4 z1 x2 e3)), (3, .dbox 26 0 [.sl 2 z4 x5 e6, .sl 1 z7 x8 e9, .sl 2 z10 x11 e12]), (13, .d (.sl 2 z13 x14 e15)), (14, .d (.int .i64 i16)), (15, .d (.int .i64 i17))] Q = (condW (decide (i17 < i16)) (condW (decide (0 ≤ i17)) (∃ w0 w1 w2 w3, x14[Int.toNat i17]? = some (D.agg [D.bool w0, D.sl 1 w1 w2 w3]) ∧ ∃ w4 w5 w6, C 38 [IV.d (D.sl 4 z1 x2 e3), IV.d (D.agg [D.bool w0, D.sl 1 w1 w2 w3])] = some (IV.d (D.bool w4), [IV.d w5, IV.d w6]) ∧ condW w4 (Q (Out.ret [(4, IV.d (D.bool true)), (5, IV.d (D.int IntKind.i64 0))])) ((∃ w7 w8 w9, C 39 [IV.d (D.sl 2 z4 x5 e6), IV.fn 40 [IV.dptr [D.bool w0, D.sl 1 w1 w2 w3]]] = some (IV.d (D.bool w7), [IV.d w8, w9]) ∧ condW w7 (Q (Out.ret [(4, IV.d (D.bool true)), (5, IV.d (D.int IntKind.i64 0))])) (Q (Out.norm [(0, IV.d (D.sl 4 z1 x2 e3)), (3, IV.dbox 26 0 [D.sl 2 z4 x5 e6, D.sl 1 z7 x8 e9, D.sl 2 z10 x11 e12]), (13, IV.d (D.sl 2 z13 x14 e15)), (14, IV.d (D.int IntKind.i64 i16)), (15, IV.d (D.int IntKind.i64 (IntKind.wrap IntKind.i64 (i17 + 1))))]))) ∨ ∃ w10 w11 w12, C 39 [IV.d (D.sl 2 z4 x5 e6), IV.fn 40 [IV.dptr [D.bool w0, D.sl 1 w1 w2 w3]]] = some (IV.d (D.bool w10), [IV.d w11, w12]) ∧ condW w10 (Q (Out.ret [(4, IV.d (D.bool true)), (5, IV.d (D.int IntKind.i64 0))])) (Q (Out.norm [(0, IV.d (D.sl 4 z1 x2 e3)), (3, IV.dbox 26 0 [D.sl 2 z4 x5 e6, D.sl 1 z7 x8 e9, D.sl 2 z10 x11 e12]), (13, IV.d (D.sl 2 z13 x14 e15)), (14, IV.d (D.int IntKind.i64 i16)), (15, IV.d (D.int IntKind.i64 (IntKind.wrap IntKind.i64 (i17 + 1))))])))) False) (Q (Out.exit 0 [(0, IV.d (D.sl 4 z1 x2 e3)), (3, IV.dbox 26 0 [D.sl 2 z4 x5 e6, D.sl 1 z7 x8 e9, D.sl 2 z10 x11 e12]), (13, IV.d (D.sl 2 z13 x14 e15)), (14, IV.d (D.int IntKind.i64 i16)), (15, IV.d (D.int IntKind.i64 i17))]))) := by kernel_rfl
theorem q72 (C J) (z1 : Bool) (x2 : List D) (e3 : List D) (z4 : Bool) (x5 : List D) (e6 : List D) (Q) : fnW F C R (L72) J d72 [.d (.sl 2 z1 x2 e3), .d (.sl 2 z4 x5 e6), .d (.fn 73)] Q = (condW ((↑(List.length x2) : Int) != (↑(List.length x5) : Int)) (Q (some (IV.d (D.bool false), [IV.d (D.sl 2 z1 x2 e3), IV.d (D.sl 2 z4 x5 e6), IV.d (D.fn 73)]))) ((∃ w0, evP F C J d72 [] [1, 1, 0, 1] [(1, IV.d (D.sl 2 z4 x5 e6)), (2, IV.d (D.fn 73)), (15, IV.d (D.sl 2 z1 x2 e3)), (16, IV.d (D.int IntKind.i64 (↑(List.length x2) : Int))), (17, IV.d (D.int IntKind.i64 0))] = some (Out.ret [(2, IV.d (D.fn 73)), (6, IV.d (D.bool w0))]) ∧ Q (some (IV.d (D.bool w0), [IV.d (D.sl 2 z1 x2 e3), IV.d (D.sl 2 z4 x5 e6), IV.d (D.fn 73)]))) ∨ ∃ w1 w2 w3 w4 w5 w6 w7 w8, evP F C J d72 [] [1, 1, 0, 1] [(1, IV.d (D.sl 2 z4 x5 e6)), (2, IV.d (D.fn 73)), (15, IV.d (D.sl 2 z1 x2 e3)), (16, IV.d (D.int IntKind.i64 (↑(List.length x2) : Int))), (17, IV.d (D.int IntKind.i64 0))] = some (Out.norm [(1, IV.d (D.sl 2 w1 w2 w3)), (2, IV.d (D.fn 73)), (15, IV.d (D.sl 2 w4 w5 w6)), (16, IV.d (D.int IntKind.i64 w7)), (17, IV.d (D.int IntKind.i64 w8))]) ∧ Q (some (IV.d (D.bool true), [IV.d (D.sl 2 z1 x2 e3), IV.d (D.sl 2 z4 x5 e6), IV.d (D.fn 73)])))) := by kernel_rfl
theorem q72_l0a (C J) (z1 : Bool) (x2 : List D) (e3 : List D) (z4 : Bool) (x5 : List D) (e6 : List D) (i7 : Int) (i8 : Int) (Q) : wpQ F C R (L72) J d72 [] [1,1,0,1,0,0] [(1, .d (.sl 2 z1 x2 e3)), (2, .d (.fn 73)), (15, .d (.sl 2 z4 x5 e6)), (16, .d (.int .i64 i7)), (17, .d (.int .i64 i8))] Q = (condW (decide (i8 < i7)) (condW (decide (0 ≤ i8)) (∃ w0 w1 w2 w3, x5[Int.toNat i8]? = some (D.agg [D.bool w0, D.sl 1 w1 w2 w3]) ∧ condW (decide (0 ≤ i8)) (∃ w4 w5 w6 w7, x2[Int.toNat i8]? = some (D.agg [D.bool w4, D.sl 1 w5 w6 w7]) ∧ ∃ w8 w9 w10, C 73 [IV.d (D.agg [D.bool w0, D.sl 1 w1 w2 w3]), IV.d (D.agg [D.bool w4, D.sl 1 w5 w6 w7])] = some (IV.d (D.bool w8), [IV.d w9, IV.d w10]) ∧ condW w8 (Q (Out.norm [(1, IV.d (D.sl 2 z1 x2 e3)), (2, IV.d (D.fn 73)), (15, IV.d (D.sl 2 z4 x5 e6)), (16, IV.d (D.int IntKind.i64 i7)), (17, IV.d (D.int IntKind.i64 (IntKind.wrap IntKind.i64 (i8 + 1))))])) (Q (Out.ret [(2, IV.d (D.fn 73)), (6, IV.d (D.bool false))]))) False) False) (Q (Out.exit 0 [(1, IV.d (D.sl 2 z1 x2 e3)), (2, IV.d (D.fn 73)), (15, IV.d (D.sl 2 z4 x5 e6)), (16, IV.d (D.int IntKind.i64 i7)), (17, IV.d (D.int IntKind.i64 i8))]))) := by kernel_rfl
theorem q74 (C J) (z1 : Bool) (x2 : List D) (e3 : List D) (z4 : Bool) (x5 : List D) (e6 : List D) (Q) : fnW F C R (L74) J d74 [.d (.sl 1 z1 x2 e3), .d (.sl 1 z4 x5 e6), .d (.fn 41)] Q = (condW ((↑(List.length x2) : Int) != (↑(List.length x5) : Int)) (Q (some (IV.d (D.bool false), [IV.d (D.sl 1 z1 x2 e3), IV.d (D.sl 1 z4 x5 e6), IV.d (D.fn 41)]))) ((∃ w0, evP F C J d74 [] [1, 1, 0, 1] [(1, IV.d (D.sl 1 z4 x5 e6)), (2, IV.d (D.fn 41)), (15, IV.d (D.sl 1 z1 x2 e3)), (16, IV.d (D.int IntKind.i64 (↑(List.length x2) : Int))), (17, IV.d (D.int IntKind.i64 0))] = some (Out.ret [(2, IV.d (D.fn 41)), (6, IV.d (D.bool w0))]) ∧ Q (some (IV.d (D.bool w0), [IV.d (D.sl 1 z1 x2 e3), IV.d (D.sl 1 z4 x5 e6), IV.d (D.fn 41)]))) ∨ ∃ w1 w2 w3 w4 w5 w6 w7 w8, evP F C J d74 [] [1, 1, 0, 1] [(1, IV.d (D.sl 1 z4 x5 e6)), (2, IV.d (D.fn 41)), (15, IV.d (D.sl 1 z1 x2 e3)), (16, IV.d (D.int IntKind.i64 (↑(List.length x2) : Int))), (17, IV.d (D.int IntKind.i64 0))] = some (Out.norm [(1, IV.d (D.sl 1 w1 w2 w3)), (2, IV.d (D.fn 41)), (15, IV.d (D.sl 1 w4 w5 w6)), (16, IV.d (D.int IntKind.i64 w7)), (17, IV.d (D.int IntKind.i64 w8))]) ∧ Q (some (IV.d (D.bool true), [IV.d (D.sl 1 z1 x2 e3), IV.d (D.sl 1 z4 x5 e6), IV.d (D.fn 41)])))) := by kernel_rfl
theorem q74_l0a (C J) (z1 : Bool) (x2 : List D) (e3 : List D) (z4 : Bool) (x5 : List D) (e6 : List D) (i7 : Int) (i8 : Int) (Q) : wpQ F C R (L74) J d74 [] [1,1,0,1,0,0] [(1, .d (.sl 1 z1 x2 e3)), (2, .d (.fn 41)), (15, .d (.sl 1 z4 x5 e6)), (16, .d (.int .i64 i7)), (17, .d (.int .i64 i8))] Q = (condW (decide (i8 < i7)) (condW (decide (0 ≤ i8)) (∃ w0 w1 w2, x5[Int.toNat i8]? = some (D.sl 1 w0 w1 w2) ∧ condW (decide (0 ≤ i8)) (∃ w3 w4 w5, x2[Int.toNat i8]? = some (D.sl 1 w3 w4 w5) ∧ ∃ w6 w7 w8, C 41 [IV.d (D.sl 1 w0 w1 w2), IV.d (D.sl 1 w3 w4 w5)] = some (IV.d (D.bool w6), [IV.d w7, IV.d w8]) ∧ condW w6 (Q (Out.norm [(1, IV.d (D.sl 1 z1 x2 e3)), (2, IV.d (D.fn 41)), (15, IV.d (D.sl 1 z4 x5 e6)), (16, IV.d (D.int IntKind.i64 i7)), (17, IV.d (D.int IntKind.i64 (IntKind.wrap IntKind.i64 (i8 + 1))))])) (Q (Out.ret [(2, IV.d (D.fn 41)), (6, IV.d (D.bool false))]))) False) False) (Q (Out.exit 0 [(1, IV.d (D.sl 1 z1 x2 e3)), (2, IV.d (D.fn 41)), (15, IV.d (D.sl 1 z4 x5 e6)), (16, IV.d (D.int IntKind.i64 i7)), (17, IV.d (D.int IntKind.i64 i8))]))) := by kernel_rfl
theorem q43 (C J) (z1 : Bool) (x2 : List D) (e3 : List D) (z4 : Bool) (x5 : List D) (e6 : List D) (z7 : Bool) (x8 : List D) (e9 : List D) (z10 : Bool) (x11 : List D) (e12 : List D) (z13 : Bool) (x14 : List D) (e15 : List D) (z16 : Bool) (x17 : List D) (e18 : List D) (Q) : fnW F C R (L43) J d43 [.d (.agg [.sl 2 z1 x2 e3, .sl 1 z4 x5 e6, .sl 2 z7 x8 e9]), .d (.agg [.sl 2 z10 x11 e12, .sl 1 z13 x14 e15, .sl 2 z16 x17 e18])] Q = (∃ w0 w1 w2 w3, C 72 [IV.d (D.sl 2 z1 x2 e3), IV.d (D.sl 2 z10 x11 e12), IV.d (D.fn 73)] = some (IV.d (D.bool w0), [IV.d w1, IV.d w2, IV.d w3]) ∧ condW w0 (∃ w4 w5 w6 w7, C 74 [IV.d (D.sl 1 z4 x5 e6), IV.d (D.sl 1 z13 x14 e15), IV.d (D.fn 41)] = some (IV.d (D.bool w4), [IV.d w5, IV.d w6, IV.d w7]) ∧ condW w4 (∃ w8 w9 w10 w11, C 72 [IV.d (D.sl 2 z7 x8 e9), IV.d (D.sl 2 z16 x17 e18), IV.d (D.fn 73)] = some (IV.d (D.bool w8), [IV.d w9, IV.d w10, IV.d w11]) ∧ condW w8 (Q (some (IV.d (D.bool true), [IV.d (D.agg [D.sl 2 z1 x2 e3, D.sl 1 z4 x5 e6, D.sl 2 z7 x8 e9]), IV.d (D.agg [D.sl 2 z10 x11 e12, D.sl 1 z13 x14 e15, D.sl 2 z16 x17 e18])]))) (Q (some (IV.d (D.bool false), [IV.d (D.agg [D.sl 2 z1 x2 e3, D.sl 1 z4 x5 e6, D.sl 2 z7 x8 e9]), IV.d (D.agg [D.sl 2 z10 x11 e12, D.sl 1 z13 x14 e15, D.sl 2 z16 x17 e18])])))) (Q (some (IV.d (D.bool false), [IV.d (D.agg [D.sl 2 z1 x2 e3, D.sl 1 z4 x5 e6, D.sl 2 z7 x8 e9]), IV.d (D.agg [D.sl 2 z10 x11 e12, D.sl 1 z13 x14 e15, D.sl 2 z16 x17 e18])])))) (Q (some (IV.d (D.bool false), [IV.d (D.agg [D.sl 2 z1 x2 e3, D.sl 1 z4 x5 e6, D.sl 2 z7 x8 e9]), IV.d (D.agg [D.sl 2 z10 x11 e12, D.sl 1 z13 x14 e15, D.sl 2 z16 x17 e18])])))) := by kernel_rfl
theorem q75 (C J) (z1 : Bool) (x2 : List D) (e3 : List D) (Q) : fnW F C R (L75) J d75 [.d (.sl 2 z1 x2 e3)] Q = (∃ w0 w1 w2 w3 w4 w5 w6, evP F C J d75 [] [1, 1, 0, 1] [(3, IV.own true 57 2 []), (6, IV.d (D.sl 2 z1 x2 e3)), (7, IV.d (D.int IntKind.i64 (↑(List.length x2) : Int))), (8, IV.d (D.int IntKind.i64 0))] = some (Out.norm [(3, IV.own w0 57 2 w1), (6, IV.d (D.sl 2 w2 w3 w4)), (7, IV.d (D.int IntKind.i64 w5)), (8, IV.d (D.int IntKind.i64 w6))]) ∧ Q (some (IV.own w0 57 2 w1, [IV.d (D.sl 2 z1 x2 e3)]))) := by kernel_rfl
theorem q75_l0a (C J) (z1 : Bool) (x2 : List D) (z3 : Bool) (x4 : List D) (e5 : List D) (i6 : Int) (i7 : Int) (Q) : wpQ F C R (L75) J d75 [] [1,1,0,1,0,0] [(3, .own z1 57 2 x2), (6, .d (.sl 2 z3 x4 e5)), (7, .d (.int .i64 i6)), (8, .d (.int .i64 i7))] Q = (condW (decide (i7 < i6)) (condW (decide (0 ≤ i7)) (∃ w0 w1 w2 w3, x4[Int.toNat i7]? = some (D.agg [D.bool w0, D.sl 1 w1 w2 w3]) ∧ ((∃ w4 w5 w6, C 39 [IV.d (D.sl 2 z1 x2 []), IV.fn 102 [IV.dptr [D.bool w0, D.sl 1 w1 w2 w3]]] = some (IV.d (D.bool w4), [IV.d w5, w6]) ∧ condW w4 (Q (Out.norm [(3, IV.own z1 57 2 x2), (6, IV.d (D.sl 2 z3 x4 e5)), (7, IV.d (D.int IntKind.i64 i6)), (8, IV.d (D.int IntKind.i64 (IntKind.wrap IntKind.i64 (i7 + 1))))])) (condW (decide (List.length x2 + (0 + 1) ≤ 9223372036854775807)) (condW (decide ((List.length x2 + (0 + 1)) * 32 ≤ 140737488355328)) (Q (Out.norm [(3, IV.own (z1 && false) 57 2 (x2 ++ [D.agg (List.take 2 (List.drop 0 (D.cells (D.agg (List.take 2 (List.drop 0 (D.cells (D.agg [D.bool w0, D.sl 1 w1 w2 w3]))))))))])), (6, IV.d (D.sl 2 z3 x4 e5)), (7, IV.d (D.int IntKind.i64 i6)), (8, IV.d (D.int IntKind.i64 (IntKind.wrap IntKind.i64 (i7 + 1))))])) False) False)) ∨ ∃ w7 w8 w9, C 39 [IV.d (D.sl 2 z1 x2 []), IV.fn 102 [IV.dptr [D.bool w0, D.sl 1 w1 w2 w3]]] = some (IV.d (D.bool w7), [IV.d w8, w9]) ∧ condW w7 (Q (Out.norm [(3, IV.own z1 57 2 x2), (6, IV.d (D.sl 2 z3 x4 e5)), (7, IV.d (D.int IntKind.i64 i6)), (8, IV.d (D.int IntKind.i64 (IntKind.wrap IntKind.i64 (i7 + 1))))])) (condW (decide (List.length x2 + (0 + 1) ≤ 9223372036854775807)) (condW (decide ((List.length x2 + (0 + 1)) * 32 ≤ 140737488355328)) (Q (Out.norm [(3, IV.own (z1 && false) 57 2 (x2 ++ [D.agg (List.take 2 (List.drop 0 (D.cells (D.agg (List.take 2 (List.drop 0 (D.cells (D.agg [D.bool w0, D.sl 1 w1 w2 w3]))))))))])), (6, IV.d (D.sl 2 z3 x4 e5)), (7, IV.d (D.int IntKind.i64 i6)), (8, IV.d (D.int IntKind.i64 (IntKind.wrap IntKind.i64 (i7 + 1))))])) False) False))) False) (Q (Out.exit 0 [(3, IV.own z1 57 2 x2), (6, IV.d (D.sl 2 z3 x4 e5)), (7, IV.d (D.int IntKind.i64 i6)), (8, IV.d (D.int IntKind.i64 i7))]))) := by kernel_rfl
theorem q77 (C J) (z1 : Bool) (x2 : List D) (e3 : List D) (z4 : Bool) (x5 : List D) (e6 : List D) (Q) : fnW F C R (L77) J d77 [.d (.sl 1 z1 x2 e3), .dptr [.sl 1 z4 x5 e6]] Q = (∃ w0 w1 w2, C 41 [IV.d (D.sl 1 z4 x5 e6), IV.d (D.sl 1 z1 x2 e3)] = some (IV.d (D.bool w0), [IV.d w1, IV.d w2]) ∧ condW w0 (Q (some (IV.d (D.bool true), [IV.d (D.sl 1 z1 x2 e3), IV.dptr [D.sl 1 z4 x5 e6]]))) (Q (some (IV.d (D.bool false), [IV.d (D.sl 1 z1 x2 e3), IV.dptr [D.sl 1 z4 x5 e6]])))) := by kernel_rfl
theorem q103 (C J) (z1 : Bool) (x2 : List D) (e3 : List D) (z4 : Bool) (x5 : List D) (e6 : List D) (Q) : fnW F C R (L103) J d103 [.d (.sl 1 z1 x2 e3), .fn 77 [.dptr [.sl 1 z4 x5 e6]]] Q = ((∃ w0 w1 w2 w3, evP F C J d103 [1] [1, 0, 1] [(0, IV.d (D.sl 1 z1 x2 e3)), (1, IV.fn 77 [IV.dptr [D.sl 1 z4 x5 e6]]), (7, IV.d (D.int IntKind.i64 (↑(List.length x2) : Int))), (8, IV.d (D.int IntKind.i64 0))] = some (Out.ret [(1, IV.fn 77 [IV.dptr [D.sl 1 w0 w1 w2]]), (4, IV.d (D.int IntKind.i64 w3))]) ∧ Q (some (IV.d (D.int IntKind.i64 w3), [IV.d (D.sl 1 z1 x2 e3), IV.fn 77 [IV.dptr [D.sl 1 w0 w1 w2]]]))) ∨ ∃ w4 w5 w6 w7 w8 w9 w10 w11, evP F C J d103 [1] [1, 0, 1] [(0, IV.d (D.sl 1 z1 x2 e3)), (1, IV.fn 77 [IV.dptr [D.sl 1 z4 x5 e6]]), (7, IV.d (D.int IntKind.i64 (↑(List.length x2) : Int))), (8, IV.d (D.int IntKind.i64 0))] = some (Out.norm [(0, IV.d (D.sl 1 w4 w5 w6)), (1, IV.fn 77 [IV.dptr [D.sl 1 w7 w8 w9]]), (7, IV.d (D.int IntKind.i64 w10)), (8, IV.d (D.int IntKind.i64 w11))]) ∧ Q (some (IV.d (D.int IntKind.i64 (-1)), [IV.d (D.sl 1 z1 x2 e3), IV.fn 77 [IV.dptr [D.sl 1 w7 w8 w9]]]))) := by kernel_rfl
theorem q103_l0a (C J) (z1 : Bool) (x2 : List D) (e3 : List D) (z4 : Bool) (x5 : List D) (e6 : List D) (i7 : Int) (i8 : Int) (Q) : wpQ F C R (L103) J d103 [1] [1,0,1,0,0] [(0, .d (.sl 1 z1 x2 e3)), (1, .fn 77 [.dptr [.sl 1 z4 x5 e6]]), (7, .d (.int .i64 i7)), (8, .d (.int .i64 i8))] Q = (condW (decide (i8 < i7)) (condW (decide (0 ≤ i8)) (∃ w0 w1 w2, x2[Int.toNat i8]? = some (D.sl 1 w0 w1 w2) ∧ ∃ w3 w4 w5, C 77 [IV.d (D.sl 1 w0 w1 w2), IV.dptr [D.sl 1 z4 x5 e6]] = some (IV.d (D.bool w3), [IV.d w4, w5]) ∧ condW w3 (Q (Out.ret [(1, IV.fn 77 [IV.dptr [D.sl 1 z4 x5 e6]]), (4, IV.d (D.int IntKind.i64 i8))])) (Q (Out.norm [(0, IV.d (D.sl 1 z1 x2 e3)), (1, IV.fn 77 [IV.dptr [D.sl 1 z4 x5 e6]]), (7, IV.d (D.int IntKind.i64 i7)), (8, IV.d (D.int IntKind.i64 (IntKind.wrap IntKind.i64 (i8 + 1))))]))) False) (Q (Out.exit 0 [(0, IV.d (D.sl 1 z1 x2 e3)), (1, IV.fn 77 [IV.dptr [D.sl 1 z4 x5 e6]]), (7, IV.d (D.int IntKind.i64 i7)), (8, IV.d (D.int IntKind.i64 i8))]))) := by kernel_rfl
theorem q76 (C J) (z1 : Bool) (x2 : List D) (e3 : List D) (z4 : Bool) (x5 : List D) (e6 : List D) (Q) : fnW F C R (L76) J d76 [.d (.sl 1 z1 x2 e3), .fn 77 [.dptr [.sl 1 z4 x5 e6]]] Q = (∃ w0 w1 w2, C 103 [IV.d (D.sl 1 z1 x2 e3), IV.fn 77 [IV.dptr [D.sl 1 z4 x5 e6]]] = some (IV.d (D.int IntKind.i64 w0), [IV.d w1, w2]) ∧ condW (decide (w0 ≥ 0)) (Q (some (IV.d (D.bool true), [IV.d (D.sl 1 z1 x2 e3), IV.fn 77 [IV.dptr [D.sl 1 z4 x5 e6]]]))) (Q (some (IV.d (D.bool false), [IV.d (D.sl 1 z1 x2 e3), IV.fn 77 [IV.dptr [D.sl 1 z4 x5 e6]]])))) := by kernel_rfl
theorem q80 (C J) (z1 : Bool) (x2 : List D) (e3 : List D) (Q) : fnW F C R (L80) J d80 [.d (.sl 1 z1 x2 e3)] Q = (condW z1 (Q (some (IV.own true 3 1 [], [IV.d (D.sl 1 z1 x2 e3)]))) (condW (decide (0 + List.length x2 ≤ 9223372036854775807)) (condW (decide ((0 + List.length x2) * 8 ≤ 140737488355328)) (Q (some (IV.own false 3 1 x2, [IV.d (D.sl 1 z1 x2 e3)]))) False) False)) := by kernel_rfl
theorem q79 (C J) (z1 : Bool) (x2 : List D) (e3 : List D) (x4 : List D) (i5 : Int) (Q) : fnW F C R (L79) J d79 [.d (.sl 1 z1 x2 e3), .dbox 101 0 x4, .dbox 3 0 [.int .i64 i5]] Q = (∃ w0 w1 w2, C 80 [IV.d (D.sl 1 z1 x2 e3)] = some (IV.own w0 3 1 w1, [IV.d w2]) ∧ ∃ w3 w4 w5 w6 w7 w8, evP F C J d79 [1, 2] [1, 1, 0, 1] [(1, IV.dbox 101 0 x4), (2, IV.dbox 3 0 [D.int IntKind.i64 i5]), (5, IV.own w0 3 1 w1), (11, IV.d (D.int IntKind.i64 (↑(List.length w1) : Int))), (12, IV.d (D.int IntKind.i64 0)), (2000000 + d79.ntmps + (1000 * ((2010005 - 2000000) / 1000) + (2010005 - 2000000) % 1000), IV.dead)] = some (Out.norm [(1, IV.dbox 101 0 w3), (2, IV.dbox 3 0 [D.int IntKind.i64 w4]), (5, IV.own w5 3 1 w6), (11, IV.d (D.int IntKind.i64 w7)), (12, IV.d (D.int IntKind.i64 w8)), (2010045, IV.dead)]) ∧ Q (some (IV.own w5 3 1 w6, [IV.d (D.sl 1 z1 x2 e3), IV.dbox 101 0 w3, IV.dbox 3 0 [D.int IntKind.i64 w4]]))) := by kernel_rfl
theorem q79_l0a (C J) (x1 : List D) (i2 : Int) (z3 : Bool) (x4 : List D) (i5 : Int) (i6 : Int) (Q) : wpQ F C R (L79) J d79 [1,2] [1,1,0,1,0,0] [(1, .dbox 101 0 x1), (2, .dbox 3 0 [.int .i64 i2]), (5, .own z3 3 1 x4), (11, .d (.int .i64 i5)), (12, .d (.int .i64 i6)), (2010045, .dead)] Q = (condW (decide (i6 < i5)) (condW (decide (0 ≤ i6)) (∃ w0, x4[Int.toNat i6]? = some w0 ∧ ∃ w1, x4[Int.toNat i6]? = some (D.int IntKind.i64 w1) ∧ condW (decide (w1 ≥ 0)) (Q (Out.norm [(1, IV.dbox 101 0 x1), (2, IV.dbox 3 0 [D.int IntKind.i64 i2]), (5, IV.own z3 3 1 x4), (11, IV.d (D.int IntKind.i64 i5)), (12, IV.d (D.int IntKind.i64 (IntKind.wrap IntKind.i64 (i6 + 1)))), (2010045, IV.dead)])) (∃ w2 w3, C 65 [IV.d (D.int IntKind.i64 w1)] = some (IV.d (D.int IntKind.i64 w2), [IV.d w3]) ∧ condW (decide (0 ≤ w2)) (condW (decide (w2 < (↑24 : Int))) (∃ w4, x1[0 + Int.toNat w2 * 1]? = some (D.int IntKind.i64 w4) ∧ condW (w4 == 0) (∃ w5 w6, C 65 [IV.d (D.int IntKind.i64 w1)] = some (IV.d (D.int IntKind.i64 w5), [IV.d w6]) ∧ condW (decide (0 ≤ w5)) (condW (decide (w5 < (↑24 : Int))) (condW (decide (0 + Int.toNat w5 * 1 + List.length (D.cells (D.int IntKind.i64 (IntKind.wrap IntKind.i64 (i2 + 1)))) ≤ List.length x1)) (∃ w7 w8, C 65 [IV.d (D.int IntKind.i64 w1)] = some (IV.d (D.int IntKind.i64 w7), [IV.d w8]) ∧ condW (decide (0 ≤ w7)) (condW (decide (w7 < (↑24 : Int))) (∃ w9, (setR x1 (0 + Int.toNat w5 * 1) (D.cells (D.int IntKind.i64 (IntKind.wrap IntKind.i64 (i2 + 1)))))[0 + Int.toNat w7 * 1]? = some (D.int IntKind.i64 w9) ∧ condW (decide (0 ≤ i6)) (∃ w10, x4[Int.toNat i6]? = some w10 ∧ ∃ w11, x4[Int.toNat i6]? = some (D.int IntKind.i64 w11) ∧ Q (Out.norm [(1, IV.dbox 101 0 (setR x1 (0 + Int.toNat w5 * 1) (D.cells (D.int IntKind.i64 (IntKind.wrap IntKind.i64 (i2 + 1)))))), (2, IV.dbox 3 0 [D.int IntKind.i64 (IntKind.wrap IntKind.i64 (i2 + 1))]), (5, IV.own z3 3 1 (List.set x4 (Int.toNat i6) (D.int IntKind.i64 (IntKind.wrap IntKind.i64 (0 - w9))))), (11, IV.d (D.int IntKind.i64 i5)), (12, IV.d (D.int IntKind.i64 (IntKind.wrap IntKind.i64 (i6 + 1)))), (2010045, IV.dead)])) False) False) False) False) False) False) (∃ w12 w13, C 65 [IV.d (D.int IntKind.i64 w1)] = some (IV.d (D.int IntKind.i64 w12), [IV.d w13]) ∧ condW (decide (0 ≤ w12)) (condW (decide (w12 < (↑24 : Int))) (∃ w14, x1[0 + Int.toNat w12 * 1]? = some (D.int IntKind.i64 w14) ∧ condW (decide (0 ≤ i6)) (∃ w15, x4[Int.toNat i6]? = some w15 ∧ ∃ w16, x4[Int.toNat i6]? = some (D.int IntKind.i64 w16) ∧ Q (Out.norm [(1, IV.dbox 101 0 x1), (2, IV.dbox 3 0 [D.int IntKind.i64 i2]), (5, IV.own z3 3 1 (List.set x4 (Int.toNat i6) (D.int IntKind.i64 (IntKind.wrap IntKind.i64 (0 - w14))))), (11, IV.d (D.int IntKind.i64 i5)), (12, IV.d (D.int IntKind.i64 (IntKind.wrap IntKind.i64 (i6 + 1)))), (2010045, IV.dead)])) False) False) False)) False) False)) False) (Q (Out.exit 0 [(1, IV.dbox 101 0 x1), (2, IV.dbox 3 0 [D.int IntKind.i64 i2]), (5, IV.own z3 3 1 x4), (11, IV.d (D.int IntKind.i64 i5)), (12, IV.d (D.int IntKind.i64 i6)), (2010045, IV.dead)]))) := by kernel_rfl
theorem q78 (C J) (z1 : Bool) (x2 : List D) (e3 : List D) (z4 : Bool) (x5 : List D) (e6 : List D) (z7 : Bool) (x8 : List D) (e9 : List D) (x10 : List D) (i11 : Int) (Q) : fnW F C R (L78) J d78 [.d (.agg [.sl 2 z1 x2 e3, .sl 1 z4 x5 e6, .sl 2 z7 x8 e9]), .fn 79 [.dbox 101 0 x10, .dbox 3 0 [.int .i64 i11]]] Q = (∃ w0 w1 w2 w3 w4 w5 w6 w7 w8 w9 w10 w11 w12 w13 w14 w15 w16 w17 w18 w19 w20 w21, evP F C J d78 [1] [1, 1, 0, 1] [(1, IV.fn 79 [IV.dbox 101 0 x10, IV.dbox 3 0 [D.int IntKind.i64 i11]]), (2, IV.dbox 26 0 [D.sl 2 z1 x2 e3, D.sl 1 z4 x5 e6, D.sl 2 z7 x8 e9]), (4, IV.dbox 26 0 [D.sl 2 true [] [], D.sl 1 true [] [], D.sl 2 true [] []]), (5, IV.ptr 26 0 [IV.own true 57 2 [], IV.own true 33 1 [], IV.own true 57 2 []]), (13, IV.d (D.sl 2 z1 x2 e3)), (14, IV.d (D.int IntKind.i64 (↑(List.length x2) : Int))), (15, IV.d (D.int IntKind.i64 0))] = some (Out.norm [(1, IV.fn 79 [IV.dbox 101 0 w0, IV.dbox 3 0 [D.int IntKind.i64 w1]]), (2, IV.dbox 26 0 [D.sl 2 w2 w3 w4, D.sl 1 w5 w6 w7, D.sl 2 w8 w9 w10]), (4, IV.dbox 26 0 [D.sl 2 true [] [], D.sl 1 true [] [], D.sl 2 true [] []]), (5, IV.ptr 26 0 [IV.own w11 57 2 w12, IV.own w13 33 1 w14, IV.own w15 57 2 w16]), (13, IV.d (D.sl 2 w17 w18 w19)), (14, IV.d (D.int IntKind.i64 w20)), (15, IV.d (D.int IntKind.i64 w21))]) ∧ ∃ w22 w23 w24 w25 w26 w27 w28 w29 w30 w31 w32 w33 w34 w35 w36 w37 w38 w39 w40 w41 w42 w43, evP F C J d78 [1] [1, 1, 1, 0, 1] [(1, IV.fn 79 [IV.dbox 101 0 w0, IV.dbox 3 0 [D.int IntKind.i64 w1]]), (2, IV.dbox 26 0 [D.sl 2 w2 w3 w4, D.sl 1 w5 w6 w7, D.sl 2 w8 w9 w10]), (4, IV.dbox 26 0 [D.sl 2 true [] [], D.sl 1 true [] [], D.sl 2 true [] []]), (5, IV.ptr 26 0 [IV.own w11 57 2 w12, IV.own w13 33 1 w14, IV.own w15 57 2 w16]), (33, IV.d (D.sl 1 w5 w6 w7)), (34, IV.d (D.int IntKind.i64 (↑(List.length w6) : Int))), (35, IV.d (D.int IntKind.i64 0))] = some (Out.norm [(1, IV.fn 79 [IV.dbox 101 0 w22, IV.dbox 3 0 [D.int IntKind.i64 w23]]), (2, IV.dbox 26 0 [D.sl 2 w24 w25 w26, D.sl 1 w27 w28 w29, D.sl 2 w30 w31 w32]), (4, IV.dbox 26 0 [D.sl 2 true [] [], D.sl 1 true [] [], D.sl 2 true [] []]), (5, IV.ptr 26 0 [IV.own w33 57 2 w34, IV.own w35 33 1 w36, IV.own w37 57 2 w38]), (33, IV.d (D.sl 1 w39 w40 w41)), (34, IV.d (D.int IntKind.i64 w42)), (35, IV.d (D.int IntKind.i64 w43))]) ∧ ∃ w44 w45 w46 w47 w48 w49 w50 w51 w52 w53 w54 w55 w56, evP F C J d78 [1] [1, 1, 1, 1, 0, 1] [(1, IV.fn 79 [IV.dbox 101 0 w22, IV.dbox 3 0 [D.int IntKind.i64 w23]]), (4, IV.dbox 26 0 [D.sl 2 true [] [], D.sl 1 true [] [], D.sl 2 true [] []]), (5, IV.ptr 26 0 [IV.own w33 57 2 w34, IV.own w35 33 1 w36, IV.own w37 57 2 w38]), (49, IV.d (D.sl 2 w30 w31 w32)), (50, IV.d (D.int IntKind.i64 (↑(List.length w31) : Int))), (51, IV.d (D.int IntKind.i64 0))] = some (Out.norm [(1, IV.fn 79 [IV.dbox 101 0 w44, IV.dbox 3 0 [D.int IntKind.i64 w45]]), (4, IV.dbox 26 0 [D.sl 2 true [] [], D.sl 1 true [] [], D.sl 2 true [] []]), (5, IV.ptr 26 0 [IV.own w46 57 2 w47, IV.own w48 33 1 w49, IV.own w50 57 2 w51]), (49, IV.d (D.sl 2 w52 w53 w54)), (50, IV.d (D.int IntKind.i64 w55)), (51, IV.d (D.int IntKind.i64 w56))]) ∧ Q (some (IV.agg [IV.own w46 57 2 w47, IV.own w48 33 1 w49, IV.own w50 57 2 w51], [IV.d (D.agg [D.sl 2 z1 x2 e3, D.sl 1 z4 x5 e6, D.sl 2 z7 x8 e9]), IV.fn 79 [IV.dbox 101 0 w44, IV.dbox 3 0 [D.int IntKind.i64 w45]]]))) := by kernel_rfl
theorem q78_l0a (C J) (x1 : List D) (i2 : Int) (z3 : Bool) (x4 : List D) (e5 : List D) (z6 : Bool) (x7 : List D) (e8 : List D) (z9 : Bool) (x10 : List D) (e11 : List D) (z12 : Bool) (x13 : List D) (z14 : Bool) (x15 : List D) (z16 : Bool) (x17 : List D) (z18 : Bool) (x19 : List D) (e20 : List D) (i21 : Int) (i22 : Int) (Q) : wpQ F C R (L78) J d78 [1] [1,1,0,1,0,0] [(1, .fn 79 [.dbox 101 0 x1, .dbox 3 0 [.int .i64 i2]]), (2, .dbox 26 0 [.sl 2 z3 x4 e5, .sl 1 z6 x7 e8, .sl 2 z9 x10 e11]), (4, .dbox 26 0 [.sl 2 true [] [], .sl 1 true [] [], .sl 2 true [] []]), (5, .ptr 26 0 [.own z12 57 2 x13, .own z14 33 1 x15, .own z16 57 2 x17]), (13, .d (.sl 2 z18 x19 e20)), (14, .d (.int .i64 i21)), (15, .d (.int .i64 i22))] Q = (condW (decide (i22 < i21)) (condW (decide (0 ≤ i22)) (∃ w0 w1 w2 w3, x19[Int.toNat i22]? = some (D.agg [D.bool w0, D.sl 1 w1 w2 w3]) ∧ condW w0 (∃ w4 w5 w6 w7 w8, C 79 [IV.d (D.sl 1 w1 w2 w3), IV.dbox 101 0 x1, IV.dbox 3 0 [D.int IntKind.i64 i2]] = some (IV.own w4 3 1 w5, [IV.d w6, IV.dbox 101 0 w7, IV.dbox 3 0 [D.int IntKind.i64 w8]]) ∧ condW (decide (List.length x13 + (0 + 1) ≤ 9223372036854775807)) (condW (decide ((List.length x13 + (0 + 1)) * 32 ≤ 140737488355328)) (Q (Out.norm [(1, IV.fn 79 [IV.dbox 101 0 w7, IV.dbox 3 0 [D.int IntKind.i64 w8]]), (2, IV.dbox 26 0 [D.sl 2 z3 x4 e5, D.sl 1 z6 x7 e8, D.sl 2 z9 x10 e11]), (4, IV.dbox 26 0 [D.sl 2 true [] [], D.sl 1 true [] [], D.sl 2 true [] []]), (5, IV.ptr 26 0 [IV.own (z12 && false) 57 2 (x13 ++ [D.agg [D.bool true, D.sl 1 w4 w5 []]]), IV.own z14 33 1 x15, IV.own z16 57 2 x17]), (13, IV.d (D.sl 2 z18 x19 e20)), (14, IV.d (D.int IntKind.i64 i21)), (15, IV.d (D.int IntKind.i64 (IntKind.wrap IntKind.i64 (i22 + 1))))])) False) False) (∃ w9 w10 w11 w12 w13, C 79 [IV.d (D.sl 1 w1 w2 w3), IV.dbox 101 0 x1, IV.dbox 3 0 [D.int IntKind.i64 i2]] = some (IV.own w9 3 1 w10, [IV.d w11, IV.dbox 101 0 w12, IV.dbox 3 0 [D.int IntKind.i64 w13]]) ∧ condW (decide (List.length x13 + (0 + 1) ≤ 9223372036854775807)) (condW (decide ((List.length x13 + (0 + 1)) * 32 ≤ 140737488355328)) (Q (Out.norm [(1, IV.fn 79 [IV.dbox 101 0 w12, IV.dbox 3 0 [D.int IntKind.i64 w13]]), (2, IV.dbox 26 0 [D.sl 2 z3 x4 e5, D.sl 1 z6 x7 e8, D.sl 2 z9 x10 e11]), (4, IV.dbox 26 0 [D.sl 2 true [] [], D.sl 1 true [] [], D.sl 2 true [] []]), (5, IV.ptr 26 0 [IV.own (z12 && false) 57 2 (x13 ++ [D.agg [D.bool false, D.sl 1 w9 w10 []]]), IV.own z14 33 1 x15, IV.own z16 57 2 x17]), (13, IV.d (D.sl 2 z18 x19 e20)), (14, IV.d (D.int IntKind.i64 i21)), (15, IV.d (D.int IntKind.i64 (IntKind.wrap IntKind.i64 (i22 + 1))))])) False) False)) False) (Q (Out.exit 0 [(1, IV.fn 79 [IV.dbox 101 0 x1, IV.dbox 3 0 [D.int IntKind.i64 i2]]), (2, IV.dbox 26 0 [D.sl 2 z3 x4 e5, D.sl 1 z6 x7 e8, D.sl 2 z9 x10 e11]), (4, IV.dbox 26 0 [D.sl 2 true [] [], D.sl 1 true [] [], D.sl 2 true [] []]), (5, IV.ptr 26 0 [IV.own z12 57 2 x13, IV.own z14 33 1 x15, IV.own z16 57 2 x17]), (13, IV.d (D.sl 2 z18 x19 e20)), (14, IV.d (D.int IntKind.i64 i21)), (15, IV.d (D.int IntKind.i64 i22))]))) := by kernel_rfl
theorem q78_l2a (C J) (x1 : List D) (i2 : Int) (z3 : Bool) (x4 : List D) (e5 : List D) (z6 : Bool) (x7 : List D) (e8 : List D) (z9 : Bool) (x10 : List D) (e11 : List D) (z12 : Bool) (x13 : List D) (z14 : Bool) (x15 : List D) (z16 : Bool) (x17 : List D) (z18 : Bool) (x19 : List D) (e20 : List D) (i21 : Int) (i22 : Int) (Q) : wpQ F C R (L78) J d78 [1] [1,1,1,0,1,0,0] [(1, .fn 79 [.dbox 101 0 x1, .dbox 3 0 [.int .i64 i2]]), (2, .dbox 26 0 [.sl 2 z3 x4 e5, .sl 1 z6 x7 e8, .sl 2 z9 x10 e11]), (4, .dbox 26 0 [.sl 2 true [] [], .sl 1 true [] [], .sl 2 true [] []]), (5, .ptr 26 0 [.own z12 57 2 x13, .own z14 33 1 x15, .own z16 57 2 x17]), (33, .d (.sl 1 z18 x19 e20)), (34, .d (.int .i64 i21)), (35, .d (.int .i64 i22))] Q = (condW (decide (i22 < i21)) (condW (decide (0 ≤ i22)) (∃ w0 w1 w2, x19[Int.toNat i22]? = some (D.sl 1 w0 w1 w2) ∧ ∃ w3 w4 w5 w6 w7, C 79 [IV.d (D.sl 1 w0 w1 w2), IV.dbox 101 0 x1, IV.dbox 3 0 [D.int IntKind.i64 i2]] = some (IV.own w3 3 1 w4, [IV.d w5, IV.dbox 101 0 w6, IV.dbox 3 0 [D.int IntKind.i64 w7]]) ∧ condW (decide (List.length x15 + (0 + 1) ≤ 9223372036854775807)) (condW (decide ((List.length x15 + (0 + 1)) * 24 ≤ 140737488355328)) (Q (Out.norm [(1, IV.fn 79 [IV.dbox 101 0 w6, IV.dbox 3 0 [D.int IntKind.i64 w7]]), (2, IV.dbox 26 0 [D.sl 2 z3 x4 e5, D.sl 1 z6 x7 e8, D.sl 2 z9 x10 e11]), (4, IV.dbox 26 0 [D.sl 2 true [] [], D.sl 1 true [] [], D.sl 2 true [] []]), (5, IV.ptr 26 0 [IV.own z12 57 2 x13, IV.own (z14 && false) 33 1 (x15 ++ [D.sl 1 w3 w4 []]), IV.own z16 57 2 x17]), (33, IV.d (D.sl 1 z18 x19 e20)), (34, IV.d (D.int IntKind.i64 i21)), (35, IV.d (D.int IntKind.i64 (IntKind.wrap IntKind.i64 (i22 + 1))))])) False) False) False) (Q (Out.exit 2 [(1, IV.fn 79 [IV.dbox 101 0 x1, IV.dbox 3 0 [D.int IntKind.i64 i2]]), (2, IV.dbox 26 0 [D.sl 2 z3 x4 e5, D.sl 1 z6 x7 e8, D.sl 2 z9 x10 e11]), (4, IV.dbox 26 0 [D.sl 2 true [] [], D.sl 1 true [] [], D.sl 2 true [] []]), (5, IV.ptr 26 0 [IV.own z12 57 2 x13, IV.own z14 33 1 x15, IV.own z16 57 2 x17]), (33, IV.d (D.sl 1 z18 x19 e20)), (34, IV.d (D.int IntKind.i64 i21)), (35, IV.d (D.int IntKind.i64 i22))]))) := by kernel_rfl
theorem q78_l4a (C J) (x1 : List D) (i2 : Int) (z3 : Bool) (x4 : List D) (z5 : Bool) (x6 : List D) (z7 : Bool) (x8 : List D) (z9 : Bool) (x10 : List D) (e11 : List D) (i12 : Int) (i13 : Int) (Q) : wpQ F C R (L78) J d78 [1] [1,1,1,1,0,1,0,0] [(1, .fn 79 [.dbox 101 0 x1, .dbox 3 0 [.int .i64 i2]]), (4, .dbox 26 0 [.sl 2 true [] [], .sl 1 true [] [], .sl 2 true [] []]), (5, .ptr 26 0 [.own z3 57 2 x4, .own z5 33 1 x6, .own z7 57 2 x8]), (49, .d (.sl 2 z9 x10 e11)), (50, .d (.int .i64 i12)), (51, .d (.int .i64 i13))] Q = (condW (decide (i13 < i12)) (condW (decide (0 ≤ i13)) (∃ w0 w1 w2 w3, x10[Int.toNat i13]? = some (D.agg [D.bool w0, D.sl 1 w1 w2 w3]) ∧ condW w0 (∃ w4 w5 w6 w7 w8, C 79 [IV.d (D.sl 1 w1 w2 w3), IV.dbox 101 0 x1, IV.dbox 3 0 [D.int IntKind.i64 i2]] = some (IV.own w4 3 1 w5, [IV.d w6, IV.dbox 101 0 w7, IV.dbox 3 0 [D.int IntKind.i64 w8]]) ∧ condW (decide (List.length x8 + (0 + 1) ≤ 9223372036854775807)) (condW (decide ((List.length x8 + (0 + 1)) * 32 ≤ 140737488355328)) (Q (Out.norm [(1, IV.fn 79 [IV.dbox 101 0 w7, IV.dbox 3 0 [D.int IntKind.i64 w8]]), (4, IV.dbox 26 0 [D.sl 2 true [] [], D.sl 1 true [] [], D.sl 2 true [] []]), (5, IV.ptr 26 0 [IV.own z3 57 2 x4, IV.own z5 33 1 x6, IV.own (z7 && false) 57 2 (x8 ++ [D.agg [D.bool true, D.sl 1 w4 w5 []]])]), (49, IV.d (D.sl 2 z9 x10 e11)), (50, IV.d (D.int IntKind.i64 i12)), (51, IV.d (D.int IntKind.i64 (IntKind.wrap IntKind.i64 (i13 + 1))))])) False) False) (∃ w9 w10 w11 w12 w13, C 79 [IV.d (D.sl 1 w1 w2 w3), IV.dbox 101 0 x1, IV.dbox 3 0 [D.int IntKind.i64 i2]] = some (IV.own w9 3 1 w10, [IV.d w11, IV.dbox 101 0 w12, IV.dbox 3 0 [D.int IntKind.i64 w13]]) ∧ condW (decide (List.length x8 + (0 + 1) ≤ 9223372036854775807)) (condW (decide ((List.length x8 + (0 + 1)) * 32 ≤ 140737488355328)) (Q (Out.norm [(1, IV.fn 79 [IV.dbox 101 0 w12, IV.dbox 3 0 [D.int IntKind.i64 w13]]), (4, IV.dbox 26 0 [D.sl 2 true [] [], D.sl 1 true [] [], D.sl 2 true [] []]), (5, IV.ptr 26 0 [IV.own z3 57 2 x4, IV.own z5 33 1 x6, IV.own (z7 && false) 57 2 (x8 ++ [D.agg [D.bool false, D.sl 1 w9 w10 []]])]), (49, IV.d (D.sl 2 z9 x10 e11)), (50, IV.d (D.int IntKind.i64 i12)), (51, IV.d (D.int IntKind.i64 (IntKind.wrap IntKind.i64 (i13 + 1))))])) False) False)) False) (Q (Out.exit 4 [(1, IV.fn 79 [IV.dbox 101 0 x1, IV.dbox 3 0 [D.int IntKind.i64 i2]]), (4, IV.dbox 26 0 [D.sl 2 true [] [], D.sl 1 true [] [], D.sl 2 true [] []]), (5, IV.ptr 26 0 [IV.own z3 57 2 x4, IV.own z5 33 1 x6, IV.own z7 57 2 x8]), (49, IV.d (D.sl 2 z9 x10 e11)), (50, IV.d (D.int IntKind.i64 i12)), (51, IV.d (D.int IntKind.i64 i13))]))) := by kernel_rfl
theorem q44 (C J) (z1 : Bool) (x2 : List D) (e3 : List D) (z4 : Bool) (x5 : List D) (e6 : List D) (z7 : Bool) (x8 : List D) (e9 : List D) (Q) : fnW F C R (L44) J d44 [.d (.agg [.sl 2 z1 x2 e3, .sl 1 z4 x5 e6, .sl 2 z7 x8 e9])] Q = (∃ w0 w1 w2, C 75 [IV.d (D.sl 2 z1 x2 e3)] = some (IV.own w0 57 2 w1, [IV.d w2]) ∧ ∃ w3 w4 w5, C 75 [IV.d (D.sl 2 z7 x8 e9)] = some (IV.own w3 57 2 w4, [IV.d w5]) ∧ ∃ w6 w7 w8 w9 w10 w11 w12 w13 w14 w15 w16, evP F C J d44 [] [1, 1, 0, 1] [(2, IV.dbox 26 0 [D.sl 2 true [] [], D.sl 1 true [] [], D.sl 2 true [] []]), (3, IV.ptr 26 0 [IV.own w0 57 2 w1, IV.own true 33 1 [], IV.own w3 57 2 w4]), (16, IV.d (D.sl 1 z4 x5 e6)), (17, IV.d (D.int IntKind.i64 (↑(List.length x5) : Int))), (18, IV.d (D.int IntKind.i64 0))] = some (Out.norm [(2, IV.dbox 26 0 [D.sl 2 true [] [], D.sl 1 true [] [], D.sl 2 true [] []]), (3, IV.ptr 26 0 [IV.own w6 57 2 w7, IV.own w8 33 1 w9, IV.own w10 57 2 w11]), (16, IV.d (D.sl 1 w12 w13 w14)), (17, IV.d (D.int IntKind.i64 w15)), (18, IV.d (D.int IntKind.i64 w16))]) ∧ ∃ w17 w18 w19 w20 w21 w22 w23 w24 w25, C 78 [IV.d (D.agg [D.sl 2 w6 w7 [], D.sl 1 w8 w9 [], D.sl 2 w10 w11 []]), IV.fn 79 [IV.dbox 101 0 [D.int IntKind.i64 0, D.int IntKind.i64 0, D.int IntKind.i64 0, D.int IntKind.i64 0, D.int IntKind.i64 0, D.int IntKind.i64 0, D.int IntKind.i64 0, D.int IntKind.i64 0, D.int IntKind.i64 0, D.int IntKind.i64 0, D.int IntKind.i64 0, D.int IntKind.i64 0, D.int IntKind.i64 0, D.int IntKind.i64 0, D.int IntKind.i64 0, D.int IntKind.i64 0, D.int IntKind.i64 0, D.int IntKind.i64 0, D.int IntKind.i64 0, D.int IntKind.i64 0, D.int IntKind.i64 0, D.int IntKind.i64 0, D.int IntKind.i64 0, D.int IntKind.i64 0], IV.dbox 3 0 [D.int IntKind.i64 0]]] = some (IV.agg [IV.own w17 57 2 w18, IV.own w19 33 1 w20, IV.own w21 57 2 w22], [IV.d w23, IV.fn 79 [IV.dbox 101 0 w24, IV.dbox 3 0 [D.int IntKind.i64 w25]]]) ∧ Q (some (IV.agg [IV.own w17 57 2 w18, IV.own w19 33 1 w20, IV.own w21 57 2 w22], [IV.d (D.agg [D.sl 2 z1 x2 e3, D.sl 1 z4 x5 e6, D.sl 2 z7 x8 e9])]))) := by kernel_rfl
theorem q44_l0a (C J) (z1 : Bool) (x2 : List D) (z3 : Bool) (x4 : List D) (z5 : Bool) (x6 : List D) (z7 : Bool) (x8 : List D) (e9 : List D) (i10 : Int) (i11 : Int) (Q) : wpQ F C R (L44) J d44 [] [1,1,0,1,0,0] [(2, .dbox 26 0 [.sl 2 true [] [], .sl 1 true [] [], .sl 2 true [] []]), (3, .ptr 26 0 [.own z1 57 2 x2, .own z3 33 1 x4, .own z5 57 2 x6]), (16, .d (.sl 1 z7 x8 e9)), (17, .d (.int .i64 i10)), (18, .d (.int .i64 i11))] Q = (condW (decide (i11 < i10)) (condW (decide (0 ≤ i11)) (∃ w0 w1 w2, x8[Int.toNat i11]? = some (D.sl 1 w0 w1 w2) ∧ ∃ w3 w4 w5, C 76 [IV.d (D.sl 1 z3 x4 []), IV.fn 77 [IV.dptr [D.sl 1 w0 w1 w2]]] = some (IV.d (D.bool w3), [IV.d w4, w5]) ∧ condW w3 (Q (Out.norm [(2, IV.dbox 26 0 [D.sl 2 true [] [], D.sl 1 true [] [], D.sl 2 true [] []]), (3, IV.ptr 26 0 [IV.own z1 57 2 x2, IV.own z3 33 1 x4, IV.own z5 57 2 x6]), (16, IV.d (D.sl 1 z7 x8 e9)), (17, IV.d (D.int IntKind.i64 i10)), (18, IV.d (D.int IntKind.i64 (IntKind.wrap IntKind.i64 (i11 + 1))))])) (condW (decide (List.length x4 + (0 + 1) ≤ 9223372036854775807)) (condW (decide ((List.length x4 + (0 + 1)) * 24 ≤ 140737488355328)) (Q (Out.norm [(2, IV.dbox 26 0 [D.sl 2 true [] [], D.sl 1 true [] [], D.sl 2 true [] []]), (3, IV.ptr 26 0 [IV.own z1 57 2 x2, IV.own (z3 && false) 33 1 (x4 ++ [D.sl 1 w0 w1 w2]), IV.own z5 57 2 x6]), (16, IV.d (D.sl 1 z7 x8 e9)), (17, IV.d (D.int IntKind.i64 i10)), (18, IV.d (D.int IntKind.i64 (IntKind.wrap IntKind.i64 (i11 + 1))))])) False) False)) False) (Q (Out.exit 0 [(2, IV.dbox 26 0 [D.sl 2 true [] [], D.sl 1 true [] [], D.sl 2 true [] []]), (3, IV.ptr 26 0 [IV.own z1 57 2 x2, IV.own z3 33 1 x4, IV.own z5 57 2 x6]), (16, IV.d (D.sl 1 z7 x8 e9)), (17, IV.d (D.int IntKind.i64 i10)), (18, IV.d (D.int IntKind.i64 i11))]))) := by kernel_rfl
theorem q16 (C J) (z1 : Bool) (x2 : List D) (e3 : List D) (z4 : Bool) (x5 : List D) (e6 : List D) (z7 : Bool) (x8 : List D) (e9 : List D) (z10 : Bool) (x11 : List D) (e12 : List D) (z13 : Bool) (x14 : List D) (e15 : List D) (z16 : Bool) (x17 : List D) (e18 : List D) (z19 : Bool) (x20 : List D) (e21 : List D) (Q) : fnW F C R (L16) J d16 [.d (.sl 4 z1 x2 e3), .d (.agg [.sl 2 z4 x5 e6, .sl 1 z7 x8 e9, .sl 2 z10 x11 e12]), .d (.agg [.sl 2 z13 x14 e15, .sl 1 z16 x17 e18, .sl 2 z19 x20 e21])] Q = (∃ w0 w1 w2, C 18 [IV.d (D.sl 4 z1 x2 e3), IV.d (D.agg [D.sl 2 z4 x5 e6, D.sl 1 z7 x8 e9, D.sl 2 z10 x11 e12])] = some (IV.d (D.bool w0), [IV.d w1, IV.d w2]) ∧ condW w0 (∃ w3 w4 w5, C 18 [IV.d (D.sl 4 z1 x2 e3), IV.d (D.agg [D.sl 2 z13 x14 e15, D.sl 1 z16 x17 e18, D.sl 2 z19 x20 e21])] = some (IV.d (D.bool w3), [IV.d w4, IV.d w5]) ∧ condW w3 (∃ w6 w7 w8 w9 w10 w11 w12, C 44 [IV.d (D.agg [D.sl 2 z4 x5 e6, D.sl 1 z7 x8 e9, D.sl 2 z10 x11 e12])] = some (IV.agg [IV.own w6 57 2 w7, IV.own w8 33 1 w9, IV.own w10 57 2 w11], [IV.d w12]) ∧ ∃ w13 w14 w15 w16 w17 w18 w19, C 44 [IV.d (D.agg [D.sl 2 z13 x14 e15, D.sl 1 z16 x17 e18, D.sl 2 z19 x20 e21])] = some (IV.agg [IV.own w13 57 2 w14, IV.own w15 33 1 w16, IV.own w17 57 2 w18], [IV.d w19]) ∧ ∃ w20 w21 w22, C 43 [IV.d (D.agg [D.sl 2 w6 w7 [], D.sl 1 w8 w9 [], D.sl 2 w10 w11 []]), IV.d (D.agg [D.sl 2 w13 w14 [], D.sl 1 w15 w16 [], D.sl 2 w17 w18 []])] = some (IV.d (D.bool w20), [IV.d w21, IV.d w22]) ∧ condW w20 (Q (some (IV.tup [IV.d (D.bool true), IV.d (D.int IntKind.i64 0)], [IV.d (D.sl 4 z1 x2 e3), IV.d (D.agg [D.sl 2 z4 x5 e6, D.sl 1 z7 x8 e9, D.sl 2 z10 x11 e12]), IV.d (D.agg [D.sl 2 z13 x14 e15, D.sl 1 z16 x17 e18, D.sl 2 z19 x20 e21])]))) (Q (some (IV.tup [IV.d (D.bool false), IV.d (D.int IntKind.i64 0)], [IV.d (D.sl 4 z1 x2 e3), IV.d (D.agg [D.sl 2 z4 x5 e6, D.sl 1 z7 x8 e9, D.sl 2 z10 x11 e12]), IV.d (D.agg [D.sl 2 z13 x14 e15, D.sl 1 z16 x17 e18, D.sl 2 z19 x20 e21])])))) (Q (some (IV.tup [IV.d (D.bool false), IV.d (D.int IntKind.i64 800)], [IV.d (D.sl 4 z1 x2 e3), IV.d (D.agg [D.sl 2 z4 x5 e6, D.sl 1 z7 x8 e9, D.sl 2 z10 x11 e12]), IV.d (D.agg [D.sl 2 z13 x14 e15, D.sl 1 z16 x17 e18, D.sl 2 z19 x20 e21])])))) (Q (some (IV.tup [IV.d (D.bool false), IV.d (D.int IntKind.i64 800)], [IV.d (D.sl 4 z1 x2 e3), IV.d (D.agg [D.sl 2 z4 x5 e6, D.sl 1 z7 x8 e9, D.sl 2 z10 x11 e12]), IV.d (D.agg [D.sl 2 z13 x14 e15, D.sl 1 z16 x17 e18, D.sl 2 z19 x20 e21])])))) := by kernel_rfl
theorem q20 (C J) (i1 : Int) (Q) : fnW F C R (L20) J d20 [.d (.int .i64 i1)] Q = (Q (some (IV.d (D.int IntKind.i64 i1), [IV.d (D.int IntKind.i64 i1)]))) := by kernel_rfl
theorem q21 (C J) (z1 : Bool) (x2 : List D) (e3 : List D) (z4 : Bool) (x5 : List D) (e6 : List D) (Q) : fnW F C R (L21) J d21 [.d (.sl 1 z1 x2 e3), .d (.sl 1 z4 x5 e6)] Q = (condW ((↑(List.length x2) : Int) != (↑(List.length x5) : Int)) (Q (some (IV.d (D.bool false), [IV.d (D.sl 1 z1 x2 e3), IV.d (D.sl 1 z4 x5 e6)]))) ((∃ w0, evP F C J d21 [] [1, 1, 0, 1] [(0, IV.d (D.sl 1 z1 x2 e3)), (1, IV.d (D.sl 1 z4 x5 e6)), (5, IV.d (D.int IntKind.i64 0))] = some (Out.ret [(4, IV.d (D.bool w0))]) ∧ Q (some (IV.d (D.bool w0), [IV.d (D.sl 1 z1 x2 e3), IV.d (D.sl 1 z4 x5 e6)]))) ∨ ∃ w1 w2 w3 w4 w5 w6 w7, evP F C J d21 [] [1, 1, 0, 1] [(0, IV.d (D.sl 1 z1 x2 e3)), (1, IV.d (D.sl 1 z4 x5 e6)), (5, IV.d (D.int IntKind.i64 0))] = some (Out.norm [(0, IV.d (D.sl 1 w1 w2 w3)), (1, IV.d (D.sl 1 w4 w5 w6)), (5, IV.d (D.int IntKind.i64 w7))]) ∧ Q (some (IV.d (D.bool true), [IV.d (D.sl 1 z1 x2 e3), IV.d (D.sl 1 z4 x5 e6)])))) := by kernel_rfl
theorem q21_l0a (C J) (z1 : Bool) (x2 : List D) (e3 : List D) (z4 : Bool) (x5 : List D) (e6 : List D) (i7 : Int) (Q) : wpQ F C R (L21) J d21 [] [1,1,0,1,0,0] [(0, .d (.sl 1 z1 x2 e3)), (1, .d (.sl 1 z4 x5 e6)), (5, .d (.int .i64 i7))] Q = (condW (decide (i7 < (↑(List.length x2) : Int))) (condW (decide (0 ≤ i7)) (∃ w0, x2[Int.toNat i7]? = some (D.int IntKind.i64 w0) ∧ condW (decide (0 ≤ i7)) (∃ w1, x5[Int.toNat i7]? = some (D.int IntKind.i64 w1) ∧ condW (w0 != w1) (Q (Out.ret [(4, IV.d (D.bool false))])) (Q (Out.norm [(0, IV.d (D.sl 1 z1 x2 e3)), (1, IV.d (D.sl 1 z4 x5 e6)), (5, IV.d (D.int IntKind.i64 (IntKind.wrap IntKind.i64 (i7 + 1))))]))) False) False) (Q (Out.exit 0 [(0, IV.d (D.sl 1 z1 x2 e3)), (1, IV.d (D.sl 1 z4 x5 e6)), (5, IV.d (D.int IntKind.i64 i7))]))) := by kernel_rfl
theorem q54 (C J) (z1 : Bool) (x2 : List D) (e3 : List D) (z4 : Bool) (x5 : List D) (e6 : List D) (Q) : fnW F C R (L54) J d54 [.d (.sl 2 z1 x2 e3), .d (.sl 2 z4 x5 e6)] Q = (condW ((↑(List.length x2) : Int) != (↑(List.length x5) : Int)) (Q (some (IV.d (D.bool false), [IV.d (D.sl 2 z1 x2 e3), IV.d (D.sl 2 z4 x5 e6)]))) ((∃ w0, evP F C J d54 [] [1, 1, 0, 1] [(0, IV.d (D.sl 2 z1 x2 e3)), (1, IV.d (D.sl 2 z4 x5 e6)), (5, IV.d (D.int IntKind.i64 0))] = some (Out.ret [(4, IV.d (D.bool w0))]) ∧ Q (some (IV.d (D.bool w0), [IV.d (D.sl 2 z1 x2 e3), IV.d (D.sl 2 z4 x5 e6)]))) ∨ ∃ w1 w2 w3 w4 w5 w6 w7, evP F C J d54 [] [1, 1, 0, 1] [(0, IV.d (D.sl 2 z1 x2 e3)), (1, IV.d (D.sl 2 z4 x5 e6)), (5, IV.d (D.int IntKind.i64 0))] = some (Out.norm [(0, IV.d (D.sl 2 w1 w2 w3)), (1, IV.d (D.sl 2 w4 w5 w6)), (5, IV.d (D.int IntKind.i64 w7))]) ∧ Q (some (IV.d (D.bool true), [IV.d (D.sl 2 z1 x2 e3), IV.d (D.sl 2 z4 x5 e6)])))) := by kernel_rfl
theorem q54_l0a (C J) (z1 : Bool) (x2 : List D) (e3 : List D) (z4 : Bool) (x5 : List D) (e6 : List D) (i7 : Int) (Q) : wpQ F C R (L54) J d54 [] [1,1,0,1,0,0] [(0, .d (.sl 2 z1 x2 e3)), (1, .d (.sl 2 z4 x5 e6)), (5, .d (.int .i64 i7))] Q = (condW (decide (i7 < (↑(List.length x2) : Int))) (condW (decide (0 ≤ i7)) (∃ w0 w1 w2 w3, x2[Int.toNat i7]? = some (D.agg [D.bool w0, D.sl 1 w1 w2 w3]) ∧ condW w0 (condW (decide (0 ≤ i7)) (∃ w4 w5 w6 w7, x5[Int.toNat i7]? = some (D.agg [D.bool w4, D.sl 1 w5 w6 w7]) ∧ condW w4 (condW (decide (0 ≤ i7)) (∃ w8 w9 w10 w11, x2[Int.toNat i7]? = some (D.agg [D.bool w8, D.sl 1 w9 w10 w11]) ∧ condW (decide (0 ≤ i7)) (∃ w12 w13 w14 w15, x5[Int.toNat i7]? = some (D.agg [D.bool w12, D.sl 1 w13 w14 w15]) ∧ ∃ w16 w17 w18, C 21 [IV.d (D.sl 1 w9 w10 w11), IV.d (D.sl 1 w13 w14 w15)] = some (IV.d (D.bool w16), [IV.d w17, IV.d w18]) ∧ condW w16 (Q (Out.norm [(0, IV.d (D.sl 2 z1 x2 e3)), (1, IV.d (D.sl 2 z4 x5 e6)), (5, IV.d (D.int IntKind.i64 (IntKind.wrap IntKind.i64 (i7 + 1))))])) (Q (Out.ret [(4, IV.d (D.bool false))]))) False) False) (Q (Out.ret [(4, IV.d (D.bool false))]))) False) (condW (decide (0 ≤ i7)) (∃ w19 w20 w21 w22, x5[Int.toNat i7]? = some (D.agg [D.bool w19, D.sl 1 w20 w21 w22]) ∧ condW w19 (Q (Out.ret [(4, IV.d (D.bool false))])) (condW (decide (0 ≤ i7)) (∃ w23 w24 w25 w26, x2[Int.toNat i7]? = some (D.agg [D.bool w23, D.sl 1 w24 w25 w26]) ∧ condW (decide (0 ≤ i7)) (∃ w27 w28 w29 w30, x5[Int.toNat i7]? = some (D.agg [D.bool w27, D.sl 1 w28 w29 w30]) ∧ ∃ w31 w32 w33, C 21 [IV.d (D.sl 1 w24 w25 w26), IV.d (D.sl 1 w28 w29 w30)] = some (IV.d (D.bool w31), [IV.d w32, IV.d w33]) ∧ condW w31 (Q (Out.norm [(0, IV.d (D.sl 2 z1 x2 e3)), (1, IV.d (D.sl 2 z4 x5 e6)), (5, IV.d (D.int IntKind.i64 (IntKind.wrap IntKind.i64 (i7 + 1))))])) (Q (Out.ret [(4, IV.d (D.bool false))]))) False) False)) False)) False) (Q (Out.exit 0 [(0, IV.d (D.sl 2 z1 x2 e3)), (1, IV.d (D.sl 2 z4 x5 e6)), (5, IV.d (D.int IntKind.i64 i7))]))) := by kernel_rfl
theorem q55 (C J) (z1 : Bool) (x2 : List D) (e3 : List D) (z4 : Bool) (x5 : List D) (e6 : List D) (Q) : fnW F C R (L55) J d55 [.d (.sl 1 z1 x2 e3), .d (.sl 1 z4 x5 e6)] Q = (condW ((↑(List.length x2) : Int) != (↑(List.length x5) : Int)) (Q (some (IV.d (D.bool false), [IV.d (D.sl 1 z1 x2 e3), IV.d (D.sl 1 z4 x5 e6)]))) ((∃ w0, evP F C J d55 [] [1, 1, 0, 1] [(0, IV.d (D.sl 1 z1 x2 e3)), (1, IV.d (D.sl 1 z4 x5 e6)), (5, IV.d (D.int IntKind.i64 0))] = some (Out.ret [(4, IV.d (D.bool w0))]) ∧ Q (some (IV.d (D.bool w0), [IV.d (D.sl 1 z1 x2 e3), IV.d (D.sl 1 z4 x5 e6)]))) ∨ ∃ w1 w2 w3 w4 w5 w6 w7, evP F C J d55 [] [1, 1, 0, 1] [(0, IV.d (D.sl 1 z1 x2 e3)), (1, IV.d (D.sl 1 z4 x5 e6)), (5, IV.d (D.int IntKind.i64 0))] = some (Out.norm [(0, IV.d (D.sl 1 w1 w2 w3)), (1, IV.d (D.sl 1 w4 w5 w6)), (5, IV.d (D.int IntKind.i64 w7))]) ∧ Q (some (IV.d (D.bool true), [IV.d (D.sl 1 z1 x2 e3), IV.d (D.sl 1 z4 x5 e6)])))) := by kernel_rfl
theorem q55_l0a (C J) (z1 : Bool) (x2 : List D) (e3 : List D) (z4 : Bool) (x5 : List D) (e6 : List D) (i7 : Int) (Q) : wpQ F C R (L55) J d55 [] [1,1,0,1,0,0] [(0, .d (.sl 1 z1 x2 e3)), (1, .d (.sl 1 z4 x5 e6)), (5, .d (.int .i64 i7))] Q = (condW (decide (i7 < (↑(List.length x2) : Int))) (condW (decide (0 ≤ i7)) (∃ w0 w1 w2, x2[Int.toNat i7]? = some (D.sl 1 w0 w1 w2) ∧ condW (decide (0 ≤ i7)) (∃ w3 w4 w5, x5[Int.toNat i7]? = some (D.sl 1 w3 w4 w5) ∧ ∃ w6 w7 w8, C 21 [IV.d (D.sl 1 w0 w1 w2), IV.d (D.sl 1 w3 w4 w5)] = some (IV.d (D.bool w6), [IV.d w7, IV.d w8]) ∧ condW w6 (Q (Out.norm [(0, IV.d (D.sl 1 z1 x2 e3)), (1, IV.d (D.sl 1 z4 x5 e6)), (5, IV.d (D.int IntKind.i64 (IntKind.wrap IntKind.i64 (i7 + 1))))])) (Q (Out.ret [(4, IV.d (D.bool false))]))) False) False) (Q (Out.exit 0 [(0, IV.d (D.sl 1 z1 x2 e3)), (1, IV.d (D.sl 1 z4 x5 e6)), (5, IV.d (D.int IntKind.i64 i7))]))) := by kernel_rfl
theorem q22 (C J) (z1 : Bool) (x2 : List D) (e3 : List D) (z4 : Bool) (x5 : List D) (e6 : List D) (z7 : Bool) (x8 : List D) (e9 : List D) (z10 : Bool) (x11 : List D) (e12 : List D) (z13 : Bool) (x14 : List D) (e15 : List D) (z16 : Bool) (x17 : List D) (e18 : List D) (Q) : fnW F C R (L22) J d22 [.d (.agg [.sl 2 z1 x2 e3, .sl 1 z4 x5 e6, .sl 2 z7 x8 e9]), .d (.agg [.sl 2 z10 x11 e12, .sl 1 z13 x14 e15, .sl 2 z16 x17 e18])] Q = (∃ w0 w1 w2, C 54 [IV.d (D.sl 2 z1 x2 e3), IV.d (D.sl 2 z10 x11 e12)] = some (IV.d (D.bool w0), [IV.d w1, IV.d w2]) ∧ condW w0 (∃ w3 w4 w5, C 55 [IV.d (D.sl 1 z4 x5 e6), IV.d (D.sl 1 z13 x14 e15)] = some (IV.d (D.bool w3), [IV.d w4, IV.d w5]) ∧ condW w3 (∃ w6 w7 w8, C 54 [IV.d (D.sl 2 z7 x8 e9), IV.d (D.sl 2 z16 x17 e18)] = some (IV.d (D.bool w6), [IV.d w7, IV.d w8]) ∧ condW w6 (Q (some (IV.d (D.bool true), [IV.d (D.agg [D.sl 2 z1 x2 e3, D.sl 1 z4 x5 e6, D.sl 2 z7 x8 e9]), IV.d (D.agg [D.sl 2 z10 x11 e12, D.sl 1 z13 x14 e15, D.sl 2 z16 x17 e18])]))) (Q (some (IV.d (D.bool false), [IV.d (D.agg [D.sl 2 z1 x2 e3, D.sl 1 z4 x5 e6, D.sl 2 z7 x8 e9]), IV.d (D.agg [D.sl 2 z10 x11 e12, D.sl 1 z13 x14 e15, D.sl 2 z16 x17 e18])])))) (Q (some (IV.d (D.bool false), [IV.d (D.agg [D.sl 2 z1 x2 e3, D.sl 1 z4 x5 e6, D.sl 2 z7 x8 e9]), IV.d (D.agg [D.sl 2 z10 x11 e12, D.sl 1 z13 x14 e15, D.sl 2 z16 x17 e18])])))) (Q (some (IV.d (D.bool false), [IV.d (D.agg [D.sl 2 z1 x2 e3, D.sl 1 z4 x5 e6, D.sl 2 z7 x8 e9]), IV.d (D.agg [D.sl 2 z10 x11 e12, D.sl 1 z13 x14 e15, D.sl 2 z16 x17 e18])])))) := by kernel_rfl
theorem q24 (C J) (z1 : Bool) (x2 : List D) (e3 : List D) (z4 : Bool) (x5 : List D) (e6 : List D) (z7 : Bool) (x8 : List D) (e9 : List D) (z10 : Bool) (x11 : List D) (e12 : List D) (Q) : fnW F C R (L24) J d24 [.d (.sl 4 z1 x2 e3), .d (.agg [.sl 2 z4 x5 e6, .sl 1 z7 x8 e9, .sl 2 z10 x11 e12])] Q = (∃ w0 w1 w2, C 18 [IV.d (D.sl 4 z1 x2 e3), IV.d (D.agg [D.sl 2 z4 x5 e6, D.sl 1 z7 x8 e9, D.sl 2 z10 x11 e12])] = some (IV.d (D.bool w0), [IV.d w1, IV.d w2]) ∧ condW w0 (∃ w3 w4 w5 w6 w7 w8 w9, C 44 [IV.d (D.agg [D.sl 2 z4 x5 e6, D.sl 1 z7 x8 e9, D.sl 2 z10 x11 e12])] = some (IV.agg [IV.own w3 57 2 w4, IV.own w5 33 1 w6, IV.own w7 57 2 w8], [IV.d w9]) ∧ Q (some (IV.tup [IV.agg [IV.own w3 57 2 w4, IV.own w5 33 1 w6, IV.own w7 57 2 w8], IV.d (D.int IntKind.i64 0)], [IV.d (D.sl 4 z1 x2 e3), IV.d (D.agg [D.sl 2 z4 x5 e6, D.sl 1 z7 x8 e9, D.sl 2 z10 x11 e12])]))) (Q (some (IV.tup [IV.d (D.agg [D.sl 2 true [] [], D.sl 1 true [] [], D.sl 2 true [] []]), IV.d (D.int IntKind.i64 800)], [IV.d (D.sl 4 z1 x2 e3), IV.d (D.agg [D.sl 2 z4 x5 e6, D.sl 1 z7 x8 e9, D.sl 2 z10 x11 e12])])))) := by kernel_rfl
theorem q27 (C J) (z1 : Bool) (x2 : List D) (e3 : List D) (Q) : fnW F C R (L27) J d27 [.d (.sl 1 z1 x2 e3)] Q = (condW (decide ((↑(List.length x2) : Int) ≤ 6)) (Q (some (IV.d (D.bool true), [IV.d (D.sl 1 z1 x2 e3)]))) (Q (some (IV.d (D.bool false), [IV.d (D.sl 1 z1 x2 e3)])))) := by kernel_rfl
theorem q28 (C J) (i1 : Int) (z2 : Bool) (x3 : List D) (e4 : List D) (Q) : fnW F C R (L28) J d28 [.d (.int .i64 i1), .d (.sl 1 z2 x3 e4)] Q = (Q (some (IV.d (D.agg [D.int IntKind.i64 (IntKind.wrap IntKind.i64 (1 + IntKind.wrap IntKind.i64 (Int.tmod (IntKind.wrap IntKind.u64 i1) 3))), D.sl 1 z2 x3 e4]), [IV.d (D.int IntKind.i64 i1), IV.d (D.sl 1 z2 x3 e4)]))) := by kernel_rfl
theorem q58 (C J)  (Q) : fnW F C R (L58) J d58 [] Q = (Q (some (IV.own false 3 1 [D.int IntKind.i64 0, D.int IntKind.i64 0, D.int IntKind.i64 0, D.int IntKind.i64 0, D.int IntKind.i64 0, D.int IntKind.i64 0, D.int IntKind.i64 0, D.int IntKind.i64 0, D.int IntKind.i64 0, D.int IntKind.i64 0, D.int IntKind.i64 0, D.int IntKind.i64 0, D.int IntKind.i64 0, D.int IntKind.i64 0, D.int IntKind.i64 0, D.int IntKind.i64 0, D.int IntKind.i64 0, D.int IntKind.i64 0, D.int IntKind.i64 0, D.int IntKind.i64 0, D.int IntKind.i64 0, D.int IntKind.i64 0, D.int IntKind.i64 0, D.int IntKind.i64 0], []))) := by kernel_rfl
theorem q111 (C J) (i1 : Int) (z2 : Bool) (x3 : List D) (e4 : List D) (i5 : Int) (z6 : Bool) (x7 : List D) (e8 : List D) (Q) : fnW F C R (L111) J d111 [.d (.agg [.int .i64 i1, .sl 1 z2 x3 e4]), .d (.int .i64 i5), .d (.sl 1 z6 x7 e8)] Q = (condW ((↑(List.length x3) : Int) == 0) (Q (some (IV.d (D.int IntKind.i64 0), [IV.d (D.agg [D.int IntKind.i64 i1, D.sl 1 z2 x3 e4]), IV.d (D.int IntKind.i64 i5), IV.d (D.sl 1 z6 x7 e8)]))) (∃ w0 w1 w2 w3 w4 w5 w6 w7 w8, evP F C J d111 [] [1, 1, 1, 0, 1] [(2, IV.d (D.sl 1 z6 x7 e8)), (3, IV.dbox 61 0 [D.int IntKind.i64 i1, D.sl 1 z2 x3 e4]), (7, IV.d (D.int IntKind.u64 (IntKind.wrap IntKind.u64 (IntKind.wrap IntKind.i64 (IntKind.wrap IntKind.i64 (i5 * 7) + 1))))), (8, IV.d (D.int IntKind.i64 0))] = some (Out.norm [(2, IV.d (D.sl 1 w0 w1 w2)), (3, IV.dbox 61 0 [D.int IntKind.i64 w3, D.sl 1 w4 w5 w6]), (7, IV.d (D.int IntKind.u64 w7)), (8, IV.d (D.int IntKind.i64 w8))]) ∧ condW (!IntKind.wrap IntKind.u64 (↑(List.length w5) : Int) == 0) (condW (decide (0 ≤ IntKind.wrap IntKind.i64 (Int.tmod w7 (IntKind.wrap IntKind.u64 (↑(List.length w5) : Int))))) (∃ w9, w5[Int.toNat (IntKind.wrap IntKind.i64 (Int.tmod w7 (IntKind.wrap IntKind.u64 (↑(List.length w5) : Int))))]? = some (D.int IntKind.i64 w9) ∧ Q (some (IV.d (D.int IntKind.i64 (IntKind.wrap IntKind.i64 (↑(BitVec.toNat (BitVec.ofInt (IntKind.bits IntKind.i64) w9 &&& BitVec.ofInt (IntKind.bits IntKind.i64) 255)) : Int))), [IV.d (D.agg [D.int IntKind.i64 i1, D.sl 1 z2 x3 e4]), IV.d (D.int IntKind.i64 i5), IV.d (D.sl 1 z6 x7 e8)]))) False) False)) := by kernel_rfl
theorem q111_l0a (C J) (z1 : Bool) (x2 : List D) (e3 : List D) (i4 : Int) (z5 : Bool) (x6 : List D) (e7 : List D) (i8 : Int) (i9 : Int) (Q) : wpQ F C R (L111) J d111 [] [1,1,1,0,1,0,0] [(2, .d (.sl 1 z1 x2 e3)), (3, .dbox 61 0 [.int .i64 i4, .sl 1 z5 x6 e7]), (7, .d (.int .u64 i8)), (8, .d (.int .i64 i9))] Q = (condW (decide (i9 < (↑(List.length x2) : Int))) (condW (decide (0 ≤ i9)) (∃ w0, x2[Int.toNat i9]? = some (D.int IntKind.i64 w0) ∧ Q (Out.norm [(2, IV.d (D.sl 1 z1 x2 e3)), (3, IV.dbox 61 0 [D.int IntKind.i64 i4, D.sl 1 z5 x6 e7]), (7, IV.d (D.int IntKind.u64 (IntKind.wrap IntKind.u64 (IntKind.wrap IntKind.u64 (IntKind.wrap IntKind.u64 (i8 * 5) + IntKind.wrap IntKind.u64 w0) + 3)))), (8, IV.d (D.int IntKind.i64 (IntKind.wrap IntKind.i64 (i9 + 1))))])) False) (Q (Out.exit 0 [(2, IV.d (D.sl 1 z1 x2 e3)), (3, IV.dbox 61 0 [D.int IntKind.i64 i4, D.sl 1 z5 x6 e7]), (7, IV.d (D.int IntKind.u64 i8)), (8, IV.d (D.int IntKind.i64 i9))]))) := by kernel_rfl
theorem q117 (C J) (i1 : Int) (z2 : Bool) (x3 : List D) (e4 : List D) (z5 : Bool) (x6 : List D) (e7 : List D) (z8 : Bool) (x9 : List D) (e10 : List D) (i11 : Int) (z12 : Bool) (x13 : List D) (e14 : List D) (Q) : fnW F C R (L117) J d117 [.d (.agg [.int .i64 i1, .sl 1 z2 x3 e4]), .d (.sl 4 z5 x6 e7), .d (.sl 1 z8 x9 e10), .d (.int .i64 i11), .d (.sl 1 z12 x13 e14)] Q = (condW (decide (0 ≤ i11)) (∃ w0, x9[Int.toNat i11]? = some (D.int IntKind.i64 w0) ∧ condW (decide (w0 < 0)) (condW (decide (0 ≤ IntKind.wrap IntKind.i64 (-1 - w0))) (∃ w1, x13[Int.toNat (IntKind.wrap IntKind.i64 (-1 - w0))]? = some (D.int IntKind.i64 w1) ∧ Q (some (IV.tup [IV.d (D.int IntKind.i64 w1), IV.d (D.int IntKind.i64 (IntKind.wrap IntKind.i64 (i11 + 1)))], [IV.d (D.agg [D.int IntKind.i64 i1, D.sl 1 z2 x3 e4]), IV.d (D.sl 4 z5 x6 e7), IV.d (D.sl 1 z8 x9 e10), IV.d (D.int IntKind.i64 i11), IV.d (D.sl 1 z12 x13 e14)]))) False) (∃ w2 w3 w4 w5 w6 w7 w8 w9 w10 w11 w12 w13 w14 w15 w16 w17 w18 w19, evP F C J d117 [] [1, 1, 1, 1, 1, 0, 1] [(1, IV.d (D.sl 4 z5 x6 e7)), (2, IV.d (D.sl 1 z8 x9 e10)), (3, IV.d (D.int IntKind.i64 (IntKind.wrap IntKind.i64 (i11 + 1)))), (4, IV.d (D.sl 1 z12 x13 e14)), (5, IV.dbox 61 0 [D.int IntKind.i64 i1, D.sl 1 z2 x3 e4]), (12, IV.d (D.int IntKind.i64 w0)), (13, IV.own true 3 1 []), (14, IV.d (D.int IntKind.i64 0))] = some (Out.norm [(1, IV.d (D.sl 4 w2 w3 w4)), (2, IV.d (D.sl 1 w5 w6 w7)), (3, IV.d (D.int IntKind.i64 w8)), (4, IV.d (D.sl 1 w9 w10 w11)), (5, IV.dbox 61 0 [D.int IntKind.i64 w12, D.sl 1 w13 w14 w15]), (12, IV.d (D.int IntKind.i64 w16)), (13, IV.own w17 3 1 w18), (14, IV.d (D.int IntKind.i64 w19))]) ∧ ∃ w20 w21 w22 w23, C 111 [IV.d (D.agg [D.int IntKind.i64 w12, D.sl 1 w13 w14 w15]), IV.d (D.int IntKind.i64 w16), IV.d (D.sl 1 w17 w18 [])] = some (IV.d (D.int IntKind.i64 w20), [IV.d w21, IV.d w22, IV.d w23]) ∧ condW (!w12 == 0) (Q (some (IV.tup [IV.d (D.int IntKind.i64 (Int.tmod w20 w12)), IV.d (D.int IntKind.i64 w8)], [IV.d (D.agg [D.int IntKind.i64 i1, D.sl 1 z2 x3 e4]), IV.d (D.sl 4 z5 x6 e7), IV.d (D.sl 1 z8 x9 e10), IV.d (D.int IntKind.i64 i11), IV.d (D.sl 1 z12 x13 e14)]))) False)) False) := by kernel_rfl
theorem q117_l0a (C J) (z1 : Bool) (x2 : List D) (e3 : List D) (z4 : Bool) (x5 : List D) (e6 : List D) (i7 : Int) (z8 : Bool) (x9 : List D) (e10 : List D) (i11 : Int) (z12 : Bool) (x13 : List D) (e14 : List D) (i15 : Int) (z16 : Bool) (x17 : List D) (i18 : Int) (Q) : wpQ F C R (L117) J d117 [] [1,1,1,1,1,0,1,0,0] [(1, .d (.sl 4 z1 x2 e3)), (2, .d (.sl 1 z4 x5 e6)), (3, .d (.int .i64 i7)), (4, .d (.sl 1 z8 x9 e10)), (5, .dbox 61 0 [.int .i64 i11, .sl 1 z12 x13 e14]), (12, .d (.int .i64 i15)), (13, .own z16 3 1 x17), (14, .d (.int .i64 i18))] Q = (condW (decide (0 ≤ i15)) (∃ w0 w1 w2 w3, x2[Int.toNat i15]? = some (D.agg [D.str w0, D.int IntKind.i64 w1, D.int IntKind.i64 w2, D.int IntKind.i64 w3]) ∧ condW (decide (i18 < w2)) (∃ w4 w5 w6 w7 w8 w9 w10, C 117 [IV.d (D.agg [D.int IntKind.i64 i11, D.sl 1 z12 x13 e14]), IV.d (D.sl 4 z1 x2 e3), IV.d (D.sl 1 z4 x5 e6), IV.d (D.int IntKind.i64 i7), IV.d (D.sl 1 z8 x9 e10)] = some (IV.tup [IV.d (D.int IntKind.i64 w4), IV.d (D.int IntKind.i64 w5)], [IV.d w6, IV.d w7, IV.d w8, IV.d w9, IV.d w10]) ∧ condW (decide (List.length x17 + (0 + 1) ≤ 9223372036854775807)) (condW (decide ((List.length x17 + (0 + 1)) * 8 ≤ 140737488355328)) (Q (Out.norm [(1, IV.d (D.sl 4 z1 x2 e3)), (2, IV.d (D.sl 1 z4 x5 e6)), (3, IV.d (D.int IntKind.i64 w5)), (4, IV.d (D.sl 1 z8 x9 e10)), (5, IV.dbox 61 0 [D.int IntKind.i64 i11, D.sl 1 z12 x13 e14]), (12, IV.d (D.int IntKind.i64 i15)), (13, IV.own (z16 && false) 3 1 (x17 ++ [D.int IntKind.i64 w4])), (14, IV.d (D.int IntKind.i64 (IntKind.wrap IntKind.i64 (i18 + 1))))])) False) False) (Q (Out.exit 0 [(1, IV.d (D.sl 4 z1 x2 e3)), (2, IV.d (D.sl 1 z4 x5 e6)), (3, IV.d (D.int IntKind.i64 i7)), (4, IV.d (D.sl 1 z8 x9 e10)), (5, IV.dbox 61 0 [D.int IntKind.i64 i11, D.sl 1 z12 x13 e14]), (12, IV.d (D.int IntKind.i64 i15)), (13, IV.own z16 3 1 x17), (14, IV.d (D.int IntKind.i64 i18))]))) False) := by kernel_rfl
theorem q112 (C J) (i1 : Int) (z2 : Bool) (x3 : List D) (e4 : List D) (z5 : Bool) (x6 : List D) (e7 : List D) (z8 : Bool) (x9 : List D) (e10 : List D) (z11 : Bool) (x12 : List D) (e13 : List D) (Q) : fnW F C R (L112) J d112 [.d (.agg [.int .i64 i1, .sl 1 z2 x3 e4]), .d (.sl 4 z5 x6 e7), .d (.sl 1 z8 x9 e10), .d (.sl 1 z11 x12 e13)] Q = (∃ w0 w1 w2 w3 w4 w5 w6 w7 w8 w9 w10 w11 w12 w13 w14 w15, evP F C J d112 [] [1, 1, 1, 0] [(1, IV.d (D.sl 4 z5 x6 e7)), (2, IV.d (D.sl 1 z8 x9 e10)), (3, IV.d (D.sl 1 z11 x12 e13)), (4, IV.dbox 61 0 [D.int IntKind.i64 i1, D.sl 1 z2 x3 e4]), (9, IV.own true 3 1 []), (10, IV.d (D.int IntKind.i64 0))] = some (Out.norm [(1, IV.d (D.sl 4 w0 w1 w2)), (2, IV.d (D.sl 1 w3 w4 w5)), (3, IV.d (D.sl 1 w6 w7 w8)), (4, IV.dbox 61 0 [D.int IntKind.i64 w9, D.sl 1 w10 w11 w12]), (9, IV.own w13 3 1 w14), (10, IV.d (D.int IntKind.i64 w15))]) ∧ Q (some (IV.own w13 3 1 w14, [IV.d (D.agg [D.int IntKind.i64 i1, D.sl 1 z2 x3 e4]), IV.d (D.sl 4 z5 x6 e7), IV.d (D.sl 1 z8 x9 e10), IV.d (D.sl 1 z11 x12 e13)]))) := by kernel_rfl
theorem q112_l0a (C J) (z1 : Bool) (x2 : List D) (e3 : List D) (z4 : Bool) (x5 : List D) (e6 : List D) (z7 : Bool) (x8 : List D) (e9 : List D) (i10 : Int) (z11 : Bool) (x12 : List D) (e13 : List D) (z14 : Bool) (x15 : List D) (i16 : Int) (Q) : wpQ F C R (L112) J d112 [] [1,1,1,0,0,0] [(1, .d (.sl 4 z1 x2 e3)), (2, .d (.sl 1 z4 x5 e6)), (3, .d (.sl 1 z7 x8 e9)), (4, .dbox 61 0 [.int .i64 i10, .sl 1 z11 x12 e13]), (9, .own z14 3 1 x15), (10, .d (.int .i64 i16))] Q = (condW (decide (i16 < (↑(List.length x5) : Int))) (∃ w0 w1 w2 w3 w4 w5 w6, C 117 [IV.d (D.agg [D.int IntKind.i64 i10, D.sl 1 z11 x12 e13]), IV.d (D.sl 4 z1 x2 e3), IV.d (D.sl 1 z4 x5 e6), IV.d (D.int IntKind.i64 i16), IV.d (D.sl 1 z7 x8 e9)] = some (IV.tup [IV.d (D.int IntKind.i64 w0), IV.d (D.int IntKind.i64 w1)], [IV.d w2, IV.d w3, IV.d w4, IV.d w5, IV.d w6]) ∧ condW (decide (List.length x15 + (0 + 1) ≤ 9223372036854775807)) (condW (decide ((List.length x15 + (0 + 1)) * 8 ≤ 140737488355328)) (Q (Out.norm [(1, IV.d (D.sl 4 z1 x2 e3)), (2, IV.d (D.sl 1 z4 x5 e6)), (3, IV.d (D.sl 1 z7 x8 e9)), (4, IV.dbox 61 0 [D.int IntKind.i64 i10, D.sl 1 z11 x12 e13]), (9, IV.own (z14 && false) 3 1 (x15 ++ [D.int IntKind.i64 w0])), (10, IV.d (D.int IntKind.i64 w1))])) False) False) (Q (Out.exit 0 [(1, IV.d (D.sl 4 z1 x2 e3)), (2, IV.d (D.sl 1 z4 x5 e6)), (3, IV.d (D.sl 1 z7 x8 e9)), (4, IV.dbox 61 0 [D.int IntKind.i64 i10, D.sl 1 z11 x12 e13]), (9, IV.own z14 3 1 x15), (10, IV.d (D.int IntKind.i64 i16))]))) := by kernel_rfl
theorem q110 (C J) (i1 : Int) (z2 : Bool) (x3 : List D) (e4 : List D) (z5 : Bool) (x6 : List D) (e7 : List D) (z8 : Bool) (x9 : List D) (e10 : List D) (z11 : Bool) (x12 : List D) (e13 : List D) (Q) : fnW F C R (L110) J d110 [.d (.agg [.int .i64 i1, .sl 1 z2 x3 e4]), .d (.sl 4 z5 x6 e7), .d (.sl 1 z8 x9 e10), .d (.sl 1 z11 x12 e13)] Q = (condW (decide (1 ≤ (↑(List.length x9) : Int))) (∃ w0 w1 w2 w3 w4 w5, C 112 [IV.d (D.agg [D.int IntKind.i64 i1, D.sl 1 z2 x3 e4]), IV.d (D.sl 4 z5 x6 e7), IV.d (D.sl 1 z8 (List.drop (Int.toNat 1) x9) []), IV.d (D.sl 1 z11 x12 e13)] = some (IV.own w0 3 1 w1, [IV.d w2, IV.d w3, IV.d w4, IV.d w5]) ∧ ∃ w6, x9[0]? = some (D.int IntKind.i64 w6) ∧ condW (w6 == 0) (∃ w7, w1[0]? = some w7 ∧ ∃ w8, w1[0]? = some (D.int IntKind.i64 w8) ∧ ∃ w9, w1[1]? = some w9 ∧ ∃ w10, w1[1]? = some (D.int IntKind.i64 w10) ∧ condW (w8 == w10) (Q (some (IV.d (D.bool true), [IV.d (D.agg [D.int IntKind.i64 i1, D.sl 1 z2 x3 e4]), IV.d (D.sl 4 z5 x6 e7), IV.d (D.sl 1 z8 x9 e10), IV.d (D.sl 1 z11 x12 e13)]))) (Q (some (IV.d (D.bool false), [IV.d (D.agg [D.int IntKind.i64 i1, D.sl 1 z2 x3 e4]), IV.d (D.sl 4 z5 x6 e7), IV.d (D.sl 1 z8 x9 e10), IV.d (D.sl 1 z11 x12 e13)])))) (∃ w11, x9[0]? = some (D.int IntKind.i64 w11) ∧ ∃ w12 w13 w14 w15, C 111 [IV.d (D.agg [D.int IntKind.i64 i1, D.sl 1 z2 x3 e4]), IV.d (D.int IntKind.i64 w11), IV.d (D.sl 1 w0 w1 [])] = some (IV.d (D.int IntKind.i64 w12), [IV.d w13, IV.d w14, IV.d w15]) ∧ condW (IntKind.wrap IntKind.i64 (↑(BitVec.toNat (BitVec.ofInt (IntKind.bits IntKind.i64) w12 &&& BitVec.ofInt (IntKind.bits IntKind.i64) 1)) : Int) == 1) (Q (some (IV.d (D.bool true), [IV.d (D.agg [D.int IntKind.i64 i1, D.sl 1 z2 x3 e4]), IV.d (D.sl 4 z5 x6 e7), IV.d (D.sl 1 z8 x9 e10), IV.d (D.sl 1 z11 x12 e13)]))) (Q (some (IV.d (D.bool false), [IV.d (D.agg [D.int IntKind.i64 i1, D.sl 1 z2 x3 e4]), IV.d (D.sl 4 z5 x6 e7), IV.d (D.sl 1 z8 x9 e10), IV.d (D.sl 1 z11 x12 e13)]))))) False) := by kernel_rfl
theorem q93 (C J) (i1 : Int) (z2 : Bool) (x3 : List D) (e4 : List D) (z5 : Bool) (x6 : List D) (e7 : List D) (b8 : Bool) (z9 : Bool) (x10 : List D) (e11 : List D) (z12 : Bool) (x13 : List D) (e14 : List D) (Q) : fnW F C R (L93) J d93 [.d (.agg [.int .i64 i1, .sl 1 z2 x3 e4]), .d (.sl 4 z5 x6 e7), .d (.agg [.bool b8, .sl 1 z9 x10 e11]), .d (.sl 1 z12 x13 e14)] Q = (∃ w0 w1 w2 w3 w4, C 110 [IV.d (D.agg [D.int IntKind.i64 i1, D.sl 1 z2 x3 e4]), IV.d (D.sl 4 z5 x6 e7), IV.d (D.sl 1 z9 x10 e11), IV.d (D.sl 1 z12 x13 e14)] = some (IV.d (D.bool w0), [IV.d w1, IV.d w2, IV.d w3, IV.d w4]) ∧ condW w0 (condW b8 (Q (some (IV.d (D.bool false), [IV.d (D.agg [D.int IntKind.i64 i1, D.sl 1 z2 x3 e4]), IV.d (D.sl 4 z5 x6 e7), IV.d (D.agg [D.bool b8, D.sl 1 z9 x10 e11]), IV.d (D.sl 1 z12 x13 e14)]))) (Q (some (IV.d (D.bool true), [IV.d (D.agg [D.int IntKind.i64 i1, D.sl 1 z2 x3 e4]), IV.d (D.sl 4 z5 x6 e7), IV.d (D.agg [D.bool b8, D.sl 1 z9 x10 e11]), IV.d (D.sl 1 z12 x13 e14)])))) (condW b8 (Q (some (IV.d (D.bool true), [IV.d (D.agg [D.int IntKind.i64 i1, D.sl 1 z2 x3 e4]), IV.d (D.sl 4 z5 x6 e7), IV.d (D.agg [D.bool b8, D.sl 1 z9 x10 e11]), IV.d (D.sl 1 z12 x13 e14)]))) (Q (some (IV.d (D.bool false), [IV.d (D.agg [D.int IntKind.i64 i1, D.sl 1 z2 x3 e4]), IV.d (D.sl 4 z5 x6 e7), IV.d (D.agg [D.bool b8, D.sl 1 z9 x10 e11]), IV.d (D.sl 1 z12 x13 e14)]))))) := by kernel_rfl
theorem q94 (C J) (i1 : Int) (z2 : Bool) (x3 : List D) (e4 : List D) (z5 : Bool) (x6 : List D) (e7 : List D) (z8 : Bool) (x9 : List D) (e10 : List D) (z11 : Bool) (x12 : List D) (e13 : List D) (Q) : fnW F C R (L94) J d94 [.d (.agg [.int .i64 i1, .sl 1 z2 x3 e4]), .d (.sl 4 z5 x6 e7), .d (.sl 1 z8 x9 e10), .d (.sl 1 z11 x12 e13)] Q = (∃ w0 w1 w2 w3 w4 w5, C 112 [IV.d (D.agg [D.int IntKind.i64 i1, D.sl 1 z2 x3 e4]), IV.d (D.sl 4 z5 x6 e7), IV.d (D.sl 1 z8 x9 e10), IV.d (D.sl 1 z11 x12 e13)] = some (IV.own w0 3 1 w1, [IV.d w2, IV.d w3, IV.d w4, IV.d w5]) ∧ ∃ w6 w7 w8 w9, C 111 [IV.d (D.agg [D.int IntKind.i64 i1, D.sl 1 z2 x3 e4]), IV.d (D.int IntKind.i64 101), IV.d (D.sl 1 w0 w1 [])] = some (IV.d (D.int IntKind.i64 w6), [IV.d w7, IV.d w8, IV.d w9]) ∧ condW (IntKind.wrap IntKind.i64 (↑(BitVec.toNat (BitVec.ofInt (IntKind.bits IntKind.i64) w6 &&& BitVec.ofInt (IntKind.bits IntKind.i64) 2)) : Int) == 2) (Q (some (IV.d (D.bool true), [IV.d (D.agg [D.int IntKind.i64 i1, D.sl 1 z2 x3 e4]), IV.d (D.sl 4 z5 x6 e7), IV.d (D.sl 1 z8 x9 e10), IV.d (D.sl 1 z11 x12 e13)]))) (Q (some (IV.d (D.bool false), [IV.d (D.agg [D.int IntKind.i64 i1, D.sl 1 z2 x3 e4]), IV.d (D.sl 4 z5 x6 e7), IV.d (D.sl 1 z8 x9 e10), IV.d (D.sl 1 z11 x12 e13)])))) := by kernel_rfl
theorem q59 (C J) (i1 : Int) (z2 : Bool) (x3 : List D) (e4 : List D) (z5 : Bool) (x6 : List D) (e7 : List D) (z8 : Bool) (x9 : List D) (e10 : List D) (z11 : Bool) (x12 : List D) (e13 : List D) (z14 : Bool) (x15 : List D) (e16 : List D) (z17 : Bool) (x18 : List D) (e19 : List D) (Q) : fnW F C R (L59) J d59 [.d (.agg [.int .i64 i1, .sl 1 z2 x3 e4]), .d (.sl 4 z5 x6 e7), .d (.agg [.sl 2 z8 x9 e10, .sl 1 z11 x12 e13, .sl 2 z14 x15 e16]), .d (.sl 1 z17 x18 e19)] Q = ((∃ w0, evP F C J d59 [] [1, 0, 1] [(1, IV.d (D.sl 4 z5 x6 e7)), (3, IV.d (D.sl 1 z17 x18 e19)), (4, IV.dbox 61 0 [D.int IntKind.i64 i1, D.sl 1 z2 x3 e4]), (6, IV.dbox 26 0 [D.sl 2 z8 x9 e10, D.sl 1 z11 x12 e13, D.sl 2 z14 x15 e16]), (9, IV.d (D.int IntKind.i64 0))] = some (Out.ret [(8, IV.d (D.bool w0))]) ∧ Q (some (IV.d (D.bool w0), [IV.d (D.agg [D.int IntKind.i64 i1, D.sl 1 z2 x3 e4]), IV.d (D.sl 4 z5 x6 e7), IV.d (D.agg [D.sl 2 z8 x9 e10, D.sl 1 z11 x12 e13, D.sl 2 z14 x15 e16]), IV.d (D.sl 1 z17 x18 e19)]))) ∨ ∃ w1 w2 w3 w4 w5 w6 w7 w8 w9 w10 w11 w12 w13 w14 w15 w16 w17 w18 w19 w20, evP F C J d59 [] [1, 0, 1] [(1, IV.d (D.sl 4 z5 x6 e7)), (3, IV.d (D.sl 1 z17 x18 e19)), (4, IV.dbox 61 0 [D.int IntKind.i64 i1, D.sl 1 z2 x3 e4]), (6, IV.dbox 26 0 [D.sl 2 z8 x9 e10, D.sl 1 z11 x12 e13, D.sl 2 z14 x15 e16]), (9, IV.d (D.int IntKind.i64 0))] = some (Out.norm [(1, IV.d (D.sl 4 w1 w2 w3)), (3, IV.d (D.sl 1 w4 w5 w6)), (4, IV.dbox 61 0 [D.int IntKind.i64 w7, D.sl 1 w8 w9 w10]), (6, IV.dbox 26 0 [D.sl 2 w11 w12 w13, D.sl 1 w14 w15 w16, D.sl 2 w17 w18 w19]), (9, IV.d (D.int IntKind.i64 w20))]) ∧ ((∃ w21, evP F C J d59 [] [1, 1, 0, 1] [(1, IV.d (D.sl 4 w1 w2 w3)), (3, IV.d (D.sl 1 w4 w5 w6)), (4, IV.dbox 61 0 [D.int IntKind.i64 w7, D.sl 1 w8 w9 w10]), (6, IV.dbox 26 0 [D.sl 2 w11 w12 w13, D.sl 1 w14 w15 w16, D.sl 2 w17 w18 w19]), (10, IV.d (D.int IntKind.i64 0))] = some (Out.ret [(8, IV.d (D.bool w21))]) ∧ Q (some (IV.d (D.bool w21), [IV.d (D.agg [D.int IntKind.i64 i1, D.sl 1 z2 x3 e4]), IV.d (D.sl 4 z5 x6 e7), IV.d (D.agg [D.sl 2 z8 x9 e10, D.sl 1 z11 x12 e13, D.sl 2 z14 x15 e16]), IV.d (D.sl 1 z17 x18 e19)]))) ∨ ∃ w22 w23 w24 w25 w26 w27 w28 w29 w30 w31 w32 w33 w34 w35 w36 w37 w38 w39 w40 w41, evP F C J d59 [] [1, 1, 0, 1] [(1, IV.d (D.sl 4 w1 w2 w3)), (3, IV.d (D.sl 1 w4 w5 w6)), (4, IV.dbox 61 0 [D.int IntKind.i64 w7, D.sl 1 w8 w9 w10]), (6, IV.dbox 26 0 [D.sl 2 w11 w12 w13, D.sl 1 w14 w15 w16, D.sl 2 w17 w18 w19]), (10, IV.d (D.int IntKind.i64 0))] = some (Out.norm [(1, IV.d (D.sl 4 w22 w23 w24)), (3, IV.d (D.sl 1 w25 w26 w27)), (4, IV.dbox 61 0 [D.int IntKind.i64 w28, D.sl 1 w29 w30 w31]), (6, IV.dbox 26 0 [D.sl 2 w32 w33 w34, D.sl 1 w35 w36 w37, D.sl 2 w38 w39 w40]), (10, IV.d (D.int IntKind.i64 w41))]) ∧ ((∃ w42, evP F C J d59 [] [1, 1, 1, 0, 1] [(1, IV.d (D.sl 4 w22 w23 w24)), (3, IV.d (D.sl 1 w25 w26 w27)), (4, IV.dbox 61 0 [D.int IntKind.i64 w28, D.sl 1 w29 w30 w31]), (6, IV.dbox 26 0 [D.sl 2 w32 w33 w34, D.sl 1 w35 w36 w37, D.sl 2 w38 w39 w40]), (11, IV.d (D.int IntKind.i64 0))] = some (Out.ret [(8, IV.d (D.bool w42))]) ∧ Q (some (IV.d (D.bool w42), [IV.d (D.agg [D.int IntKind.i64 i1, D.sl 1 z2 x3 e4]), IV.d (D.sl 4 z5 x6 e7), IV.d (D.agg [D.sl 2 z8 x9 e10, D.sl 1 z11 x12 e13, D.sl 2 z14 x15 e16]), IV.d (D.sl 1 z17 x18 e19)]))) ∨ ∃ w43 w44 w45 w46 w47 w48 w49 w50 w51 w52 w53 w54 w55 w56 w57 w58 w59 w60 w61 w62, evP F C J d59 [] [1, 1, 1, 0, 1] [(1, IV.d (D.sl 4 w22 w23 w24)), (3, IV.d (D.sl 1 w25 w26 w27)), (4, IV.dbox 61 0 [D.int IntKind.i64 w28, D.sl 1 w29 w30 w31]), (6, IV.dbox 26 0 [D.sl 2 w32 w33 w34, D.sl 1 w35 w36 w37, D.sl 2 w38 w39 w40]), (11, IV.d (D.int IntKind.i64 0))] = some (Out.norm [(1, IV.d (D.sl 4 w43 w44 w45)), (3, IV.d (D.sl 1 w46 w47 w48)), (4, IV.dbox 61 0 [D.int IntKind.i64 w49, D.sl 1 w50 w51 w52]), (6, IV.dbox 26 0 [D.sl 2 w53 w54 w55, D.sl 1 w56 w57 w58, D.sl 2 w59 w60 w61]), (11, IV.d (D.int IntKind.i64 w62))]) ∧ Q (some (IV.d (D.bool false), [IV.d (D.agg [D.int IntKind.i64 i1, D.sl 1 z2 x3 e4]), IV.d (D.sl 4 z5 x6 e7), IV.d (D.agg [D.sl 2 z8 x9 e10, D.sl 1 z11 x12 e13, D.sl 2 z14 x15 e16]), IV.d (D.sl 1 z17 x18 e19)]))))) := by kernel_rfl
theorem q59_l0a (C J) (z1 : Bool) (x2 : List D) (e3 : List D) (z4 : Bool) (x5 : List D) (e6 : List D) (i7 : Int) (z8 : Bool) (x9 : List D) (e10 : List D) (z11 : Bool) (x12 : List D) (e13 : List D) (z14 : Bool) (x15 : List D) (e16 : List D) (z17 : Bool) (x18 : List D) (e19 : List D) (i20 : Int) (Q) : wpQ F C R (L59) J d59 [] [1,0,1,0,0] [(1, .d (.sl 4 z1 x2 e3)), (3, .d (.sl 1 z4 x5 e6)), (4, .dbox 61 0 [.int .i64 i7, .sl 1 z8 x9 e10]), (6, .dbox 26 0 [.sl 2 z11 x12 e13, .sl 1 z14 x15 e16, .sl 2 z17 x18 e19]), (9, .d (.int .i64 i20))] Q = (condW (decide (i20 < (↑(List.length x18) : Int))) (condW (decide (0 ≤ i20)) (∃ w0 w1 w2 w3, x18[Int.toNat i20]? = some (D.agg [D.bool w0, D.sl 1 w1 w2 w3]) ∧ ∃ w4 w5 w6 w7 w8, C 93 [IV.d (D.agg [D.int IntKind.i64 i7, D.sl 1 z8 x9 e10]), IV.d (D.sl 4 z1 x2 e3), IV.d (D.agg [D.bool w0, D.sl 1 w1 w2 w3]), IV.d (D.sl 1 z4 x5 e6)] = some (IV.d (D.bool w4), [IV.d w5, IV.d w6, IV.d w7, IV.d w8]) ∧ condW w4 (Q (Out.norm [(1, IV.d (D.sl 4 z1 x2 e3)), (3, IV.d (D.sl 1 z4 x5 e6)), (4, IV.dbox 61 0 [D.int IntKind.i64 i7, D.sl 1 z8 x9 e10]), (6, IV.dbox 26 0 [D.sl 2 z11 x12 e13, D.sl 1 z14 x15 e16, D.sl 2 z17 x18 e19]), (9, IV.d (D.int IntKind.i64 (IntKind.wrap IntKind.i64 (i20 + 1))))])) (Q (Out.ret [(8, IV.d (D.bool true))]))) False) (Q (Out.exit 0 [(1, IV.d (D.sl 4 z1 x2 e3)), (3, IV.d (D.sl 1 z4 x5 e6)), (4, IV.dbox 61 0 [D.int IntKind.i64 i7, D.sl 1 z8 x9 e10]), (6, IV.dbox 26 0 [D.sl 2 z11 x12 e13, D.sl 1 z14 x15 e16, D.sl 2 z17 x18 e19]), (9, IV.d (D.int IntKind.i64 i20))]))) := by kernel_rfl
theorem q59_l2b (C J) (z1 : Bool) (x2 : List D) (e3 : List D) (z4 : Bool) (x5 : List D) (e6 : List D) (i7 : Int) (z8 : Bool) (x9 : List D) (e10 : List D) (z11 : Bool) (x12 : List D) (e13 : List D) (z14 : Bool) (x15 : List D) (e16 : List D) (z17 : Bool) (x18 : List D) (e19 : List D) (i20 : Int) (Q) : wpQ F C R (L59) J d59 [] [1,1,0,1,0,0] [(1, .d (.sl 4 z1 x2 e3)), (3, .d (.sl 1 z4 x5 e6)), (4, .dbox 61 0 [.int .i64 i7, .sl 1 z8 x9 e10]), (6, .dbox 26 0 [.sl 2 z11 x12 e13, .sl 1 z14 x15 e16, .sl 2 z17 x18 e19]), (10, .d (.int .i64 i20))] Q = (condW (decide (i20 < (↑(List.length x12) : Int))) (condW (decide (0 ≤ i20)) (∃ w0 w1 w2 w3, x12[Int.toNat i20]? = some (D.agg [D.bool w0, D.sl 1 w1 w2 w3]) ∧ ∃ w4 w5 w6 w7 w8, C 93 [IV.d (D.agg [D.int IntKind.i64 i7, D.sl 1 z8 x9 e10]), IV.d (D.sl 4 z1 x2 e3), IV.d (D.agg [D.bool w0, D.sl 1 w1 w2 w3]), IV.d (D.sl 1 z4 x5 e6)] = some (IV.d (D.bool w4), [IV.d w5, IV.d w6, IV.d w7, IV.d w8]) ∧ condW w4 (Q (Out.ret [(8, IV.d (D.bool true))])) (Q (Out.norm [(1, IV.d (D.sl 4 z1 x2 e3)), (3, IV.d (D.sl 1 z4 x5 e6)), (4, IV.dbox 61 0 [D.int IntKind.i64 i7, D.sl 1 z8 x9 e10]), (6, IV.dbox 26 0 [D.sl 2 z11 x12 e13, D.sl 1 z14 x15 e16, D.sl 2 z17 x18 e19]), (10, IV.d (D.int IntKind.i64 (IntKind.wrap IntKind.i64 (i20 + 1))))]))) False) (Q (Out.exit 2 [(1, IV.d (D.sl 4 z1 x2 e3)), (3, IV.d (D.sl 1 z4 x5 e6)), (4, IV.dbox 61 0 [D.int IntKind.i64 i7, D.sl 1 z8 x9 e10]), (6, IV.dbox 26 0 [D.sl 2 z11 x12 e13, D.sl 1 z14 x15 e16, D.sl 2 z17 x18 e19]), (10, IV.d (D.int IntKind.i64 i20))]))) := by kernel_rfl
theorem q59_l4b (C J) (z1 : Bool) (x2 : List D) (e3 : List D) (z4 : Bool) (x5 : List D) (e6 : List D) (i7 : Int) (z8 : Bool) (x9 : List D) (e10 : List D) (z11 : Bool) (x12 : List D) (e13 : List D) (z14 : Bool) (x15 : List D) (e16 : List D) (z17 : Bool) (x18 : List D) (e19 : List D) (i20 : Int) (Q) : wpQ F C R (L59) J d59 [] [1,1,1,0,1,0,0] [(1, .d (.sl 4 z1 x2 e3)), (3, .d (.sl 1 z4 x5 e6)), (4, .dbox 61 0 [.int .i64 i7, .sl 1 z8 x9 e10]), (6, .dbox 26 0 [.sl 2 z11 x12 e13, .sl 1 z14 x15 e16, .sl 2 z17 x18 e19]), (11, .d (.int .i64 i20))] Q = (condW (decide (i20 < (↑(List.length x15) : Int))) (condW (decide (0 ≤ i20)) (∃ w0 w1 w2, x15[Int.toNat i20]? = some (D.sl 1 w0 w1 w2) ∧ ∃ w3 w4 w5 w6 w7, C 94 [IV.d (D.agg [D.int IntKind.i64 i7, D.sl 1 z8 x9 e10]), IV.d (D.sl 4 z1 x2 e3), IV.d (D.sl 1 w0 w1 w2), IV.d (D.sl 1 z4 x5 e6)] = some (IV.d (D.bool w3), [IV.d w4, IV.d w5, IV.d w6, IV.d w7]) ∧ condW w3 (Q (Out.ret [(8, IV.d (D.bool true))])) (Q (Out.norm [(1, IV.d (D.sl 4 z1 x2 e3)), (3, IV.d (D.sl 1 z4 x5 e6)), (4, IV.dbox 61 0 [D.int IntKind.i64 i7, D.sl 1 z8 x9 e10]), (6, IV.dbox 26 0 [D.sl 2 z11 x12 e13, D.sl 1 z14 x15 e16, D.sl 2 z17 x18 e19]), (11, IV.d (D.int IntKind.i64 (IntKind.wrap IntKind.i64 (i20 + 1))))]))) False) (Q (Out.exit 4 [(1, IV.d (D.sl 4 z1 x2 e3)), (3, IV.d (D.sl 1 z4 x5 e6)), (4, IV.dbox 61 0 [D.int IntKind.i64 i7, D.sl 1 z8 x9 e10]), (6, IV.dbox 26 0 [D.sl 2 z11 x12 e13, D.sl 1 z14 x15 e16, D.sl 2 z17 x18 e19]), (11, IV.d (D.int IntKind.i64 i20))]))) := by kernel_rfl
theorem q60 (C J) (i1 : Int) (z2 : Bool) (x3 : List D) (e4 : List D) (z5 : Bool) (x6 : List D) (z7 : Bool) (x8 : List D) (Q) : fnW F C R (L60) J d60 [.d (.agg [.int .i64 i1, .sl 1 z2 x3 e4]), .lrow z5 3 1 x6, .lrow z7 3 1 x8] Q = ((∃ w0 w1 w2 w3 w4, evP F C J d60 [1, 2] [1, 0, 1] [(1, IV.own z5 3 1 x6), (2, IV.own z7 3 1 x8), (3, IV.dbox 61 0 [D.int IntKind.i64 i1, D.sl 1 z2 x3 e4]), (7, IV.d (D.int IntKind.i64 0))] = some (Out.ret [(1, IV.own w0 3 1 w1), (2, IV.own w2 3 1 w3), (6, IV.d (D.bool w4))]) ∧ Q (some (IV.d (D.bool w4), [IV.d (D.agg [D.int IntKind.i64 i1, D.sl 1 z2 x3 e4]), IV.own w0 3 1 w1, IV.own w2 3 1 w3]))) ∨ ∃ w5 w6 w7 w8 w9 w10 w11 w12 w13, evP F C J d60 [1, 2] [1, 0, 1] [(1, IV.own z5 3 1 x6), (2, IV.own z7 3 1 x8), (3, IV.dbox 61 0 [D.int IntKind.i64 i1, D.sl 1 z2 x3 e4]), (7, IV.d (D.int IntKind.i64 0))] = some (Out.norm [(1, IV.own w5 3 1 w6), (2, IV.own w7 3 1 w8), (3, IV.dbox 61 0 [D.int IntKind.i64 w9, D.sl 1 w10 w11 w12]), (7, IV.d (D.int IntKind.i64 w13))]) ∧ Q (some (IV.d (D.bool false), [IV.d (D.agg [D.int IntKind.i64 i1, D.sl 1 z2 x3 e4]), IV.own w5 3 1 w6, IV.own w7 3 1 w8]))) := by kernel_rfl
theorem q60_l0a (C J) (z1 : Bool) (x2 : List D) (z3 : Bool) (x4 : List D) (i5 : Int) (z6 : Bool) (x7 : List D) (e8 : List D) (i9 : Int) (Q) : wpQ F C R (L60) J d60 [1,2] [1,0,1,0,0] [(1, .own z1 3 1 x2), (2, .own z3 3 1 x4), (3, .dbox 61 0 [.int .i64 i5, .sl 1 z6 x7 e8]), (7, .d (.int .i64 i9))] Q = (condW (decide (i9 < (↑(List.length x4) : Int))) (condW (decide (0 ≤ i9)) (∃ w0, x4[Int.toNat i9]? = some w0 ∧ ∃ w1, x4[Int.toNat i9]? = some (D.int IntKind.i64 w1) ∧ condW (decide (0 ≤ w1)) (∃ w2, x2[Int.toNat w1]? = some w2 ∧ ∃ w3, x2[Int.toNat w1]? = some (D.int IntKind.i64 w3) ∧ condW (decide (0 ≤ w1)) (∃ w4, x2[Int.toNat w1]? = some w4 ∧ ∃ w5, x2[Int.toNat w1]? = some (D.int IntKind.i64 w5) ∧ condW (decide (0 ≤ i9)) (∃ w6, x4[Int.toNat i9]? = some w6 ∧ ∃ w7, x4[Int.toNat i9]? = some (D.int IntKind.i64 w7) ∧ condW (decide (0 ≤ w7)) (∃ w8, (List.set x2 (Int.toNat w1) (D.int IntKind.i64 (IntKind.wrap IntKind.i64 (w3 + 1))))[Int.toNat w7]? = some w8 ∧ ∃ w9, (List.set x2 (Int.toNat w1) (D.int IntKind.i64 (IntKind.wrap IntKind.i64 (w3 + 1))))[Int.toNat w7]? = some (D.int IntKind.i64 w9) ∧ condW (decide (w9 < i5)) (Q (Out.ret [(1, IV.own z1 3 1 (List.set x2 (Int.toNat w1) (D.int IntKind.i64 (IntKind.wrap IntKind.i64 (w3 + 1))))), (2, IV.own z3 3 1 x4), (6, IV.d (D.bool true))])) (condW (decide (0 ≤ i9)) (∃ w10, x4[Int.toNat i9]? = some w10 ∧ ∃ w11, x4[Int.toNat i9]? = some (D.int IntKind.i64 w11) ∧ condW (decide (0 ≤ w11)) (∃ w12, (List.set x2 (Int.toNat w1) (D.int IntKind.i64 (IntKind.wrap IntKind.i64 (w3 + 1))))[Int.toNat w11]? = some w12 ∧ ∃ w13, (List.set x2 (Int.toNat w1) (D.int IntKind.i64 (IntKind.wrap IntKind.i64 (w3 + 1))))[Int.toNat w11]? = some (D.int IntKind.i64 w13) ∧ Q (Out.norm [(1, IV.own z1 3 1 (List.set (List.set x2 (Int.toNat w1) (D.int IntKind.i64 (IntKind.wrap IntKind.i64 (w3 + 1)))) (Int.toNat w11) (D.int IntKind.i64 0))), (2, IV.own z3 3 1 x4), (3, IV.dbox 61 0 [D.int IntKind.i64 i5, D.sl 1 z6 x7 e8]), (7, IV.d (D.int IntKind.i64 (IntKind.wrap IntKind.i64 (i9 + 1))))])) False) False)) False) False) False) False) False) (Q (Out.exit 0 [(1, IV.own z1 3 1 x2), (2, IV.own z3 3 1 x4), (3, IV.dbox 61 0 [D.int IntKind.i64 i5, D.sl 1 z6 x7 e8]), (7, IV.d (D.int IntKind.i64 i9))]))) := by kernel_rfl
theorem q29 (C J) (i1 : Int) (z2 : Bool) (x3 : List D) (e4 : List D) (z5 : Bool) (x6 : List D) (e7 : List D) (z8 : Bool) (x9 : List D) (e10 : List D) (z11 : Bool) (x12 : List D) (e13 : List D) (z14 : Bool) (x15 : List D) (e16 : List D) (Q) : fnW F C R (L29) J d29 [.d (.agg [.int .i64 i1, .sl 1 z2 x3 e4]), .d (.sl 4 z5 x6 e7), .d (.agg [.sl 2 z8 x9 e10, .sl 1 z11 x12 e13, .sl 2 z14 x15 e16])] Q = (∃ w0 w1 w2, C 37 [IV.d (D.agg [D.sl 2 z8 x9 e10, D.sl 1 z11 x12 e13, D.sl 2 z14 x15 e16])] = some (IV.own w0 3 1 w1, [IV.d w2]) ∧ ∃ w3 w4, C 58 [] = some (IV.own w3 3 1 w4, []) ∧ ∃ w5, evP F C J d29 [] [1, 1, 1] [(1, IV.d (D.sl 4 z5 x6 e7)), (3, IV.dbox 61 0 [D.int IntKind.i64 i1, D.sl 1 z2 x3 e4]), (5, IV.dbox 26 0 [D.sl 2 z8 x9 e10, D.sl 1 z11 x12 e13, D.sl 2 z14 x15 e16]), (7, IV.own w0 3 1 w1), (8, IV.own w3 3 1 w4)] = some (Out.ret [(6, IV.d (D.bool w5))]) ∧ Q (some (IV.d (D.bool w5), [IV.d (D.agg [D.int IntKind.i64 i1, D.sl 1 z2 x3 e4]), IV.d (D.sl 4 z5 x6 e7), IV.d (D.agg [D.sl 2 z8 x9 e10, D.sl 1 z11 x12 e13, D.sl 2 z14 x15 e16])]))) := by kernel_rfl
theorem q29_l0a (C J) (z1 : Bool) (x2 : List D) (e3 : List D) (i4 : Int) (z5 : Bool) (x6 : List D) (e7 : List D) (z8 : Bool) (x9 : List D) (e10 : List D) (z11 : Bool) (x12 : List D) (e13 : List D) (z14 : Bool) (x15 : List D) (e16 : List D) (z17 : Bool) (x18 : List D) (z19 : Bool) (x20 : List D) (Q) : wpQ F C R (L29) J d29 [] [1,1,1,0,0] [(1, .d (.sl 4 z1 x2 e3)), (3, .dbox 61 0 [.int .i64 i4, .sl 1 z5 x6 e7]), (5, .dbox 26 0 [.sl 2 z8 x9 e10, .sl 1 z11 x12 e13, .sl 2 z14 x15 e16]), (7, .own z17 3 1 x18), (8, .own z19 3 1 x20)] Q = (∃ w0 w1 w2 w3 w4, C 59 [IV.d (D.agg [D.int IntKind.i64 i4, D.sl 1 z5 x6 e7]), IV.d (D.sl 4 z1 x2 e3), IV.d (D.agg [D.sl 2 z8 x9 e10, D.sl 1 z11 x12 e13, D.sl 2 z14 x15 e16]), IV.d (D.sl 1 z19 x20 [])] = some (IV.d (D.bool w0), [IV.d w1, IV.d w2, IV.d w3, IV.d w4]) ∧ condW w0 (∃ w5 w6 w7 w8 w9 w10, C 60 [IV.d (D.agg [D.int IntKind.i64 i4, D.sl 1 z5 x6 e7]), IV.lrow z19 3 1 x20, IV.lrow z17 3 1 x18] = some (IV.d (D.bool w5), [IV.d w6, IV.own w7 3 1 w8, IV.own w9 3 1 w10]) ∧ condW w5 (Q (Out.norm [(1, IV.d (D.sl 4 z1 x2 e3)), (3, IV.dbox 61 0 [D.int IntKind.i64 i4, D.sl 1 z5 x6 e7]), (5, IV.dbox 26 0 [D.sl 2 z8 x9 e10, D.sl 1 z11 x12 e13, D.sl 2 z14 x15 e16]), (7, IV.own w9 3 1 w10), (8, IV.own w7 3 1 w8)])) (Q (Out.ret [(6, IV.d (D.bool true))]))) (Q (Out.ret [(6, IV.d (D.bool false))]))) := by kernel_rfl
end Go.Proofs.YtjhganbjbiihoaaDoor.Ab

/- Signatures, rows of terms, atoms: what may be, in plain lists. No program in sight; no condition. -/
set_option linter.unusedVariables false
set_option linter.unusedSimpArgs false
namespace Go.Qu
open Go Go.Ab

abbrev iI (n : Int) : IV := .d (.int .i64 n)
abbrev iB (b : Bool) : IV := .d (.bool b)
abbrev iS (z : Bool) (l : List Int) (e : List D) : IV := .d (.sl 1 z (ints l) e)

structure Sym where
  name : ByteArray
  kind : Int
  ar : Int
  wt : Int
def Sym.d (s : Sym) : D := .agg [.str s.name, .int .i64 s.kind, .int .i64 s.ar, .int .i64 s.wt]
def syms (l : List Sym) : List D := l.map Sym.d
abbrev iG (z : Bool) (l : List Sym) (e : List D) : IV := .d (.sl 4 z (syms l) e)
theorem syms_len (l : List Sym) : (syms l).length = l.length := by simp [syms]
theorem syms_at {l : List Sym} {i : Nat} {s : Sym} (h : l[i]? = some s) : (syms l)[i]? = some (.agg [.str s.name, .int .i64 s.kind, .int .i64 s.ar, .int .i64 s.wt]) := by
  simp [syms, h, Sym.d]
theorem bytes_len (b : ByteArray) : b.toList.length = b.size := by
  have h : ∀ (k i : Nat) (acc : List UInt8), b.size - i = k → (ByteArray.toList.loop b i acc).length = acc.length + k := by
    intro k
    induction k with
    | zero => intro i acc hk; unfold ByteArray.toList.loop; rw [if_neg (by omega)]; simp
    | succ k ih => intro i acc hk; unfold ByteArray.toList.loop; rw [if_pos (by omega), ih (i + 1) _ (by omega)]; simp; omega
  have := h b.size 0 [] rfl
  unfold ByteArray.toList
  rw [this]; simp
theorem wr1 {i n : Nat} (h : i < n) (hn : n ≤ 9223372036854775807) : IntKind.wrap .i64 ((i : Int) + 1) = ((i + 1 : Nat) : Int) := by
  rw [wr _ (by omega) (by omega)]; omega
theorem at_lt {α : Type} {l : List α} {i : Nat} (h : i < l.length) : ∃ s, l[i]? = some s := ⟨l[i], by simp [h]⟩
theorem lt_at {α : Type} {l : List α} {i : Nat} {s : α} (h : l[i]? = some s) : i < l.length := (List.getElem?_eq_some_iff.1 h).1

def smallB (c : Int) : Bool := decide (97 ≤ c) && decide (c ≤ 122)
def charB (c : Int) : Bool := smallB c || (decide (48 ≤ c) && decide (c ≤ 57))
def nameB (b : ByteArray) : Bool := decide (1 ≤ b.size) && decide (b.size ≤ 8) && smallB (byteAt b 0) && (List.range b.size).all fun i => charB (byteAt b i)
def numsB (s : Sym) : Bool := decide (0 ≤ s.kind) && decide (s.kind ≤ 2) && decide (0 ≤ s.ar) && decide (s.ar ≤ 3) && decide (1 ≤ s.wt) && decide (s.wt ≤ 20)
def symB (s : Sym) : Bool := nameB s.name && numsB s
def isN (n : ByteArray) (s : Sym) : Bool := s.name.toList == n.toList
def findN (l : List Sym) (n : ByteArray) : Int := match l.findIdx? (isN n) with | some i => i | none => -1
def eqSym (s : Sym) : Bool := (s.name.toList == [61]) && (s.kind == 0 && (s.ar == 2 && (s.wt == 1 && true)))
def sigAt (l : List Sym) (i : Nat) : Bool := match l[i]? with | some s => symB s && (findN l s.name == (i : Int)) | none => true
def sigB (l : List Sym) : Bool := decide (1 ≤ l.length) && decide (l.length ≤ 20) && (match l[0]? with | some s => eqSym s | none => false) && (List.range' 1 (l.length - 1)).all (sigAt l)
/-- What may be a signature. -/
structure SigOk (l : List Sym) : Prop where
  lo : 1 ≤ l.length
  hi : l.length ≤ 20
  nums : ∀ (i : Nat) s, l[i]? = some s → 0 ≤ s.kind ∧ s.kind ≤ 2 ∧ 0 ≤ s.ar ∧ s.ar ≤ 3 ∧ 1 ≤ s.wt ∧ s.wt ≤ 20
theorem sigOk {l : List Sym} (h : sigB l = true) : SigOk l := by
  unfold sigB at h
  simp only [Bool.and_eq_true, decide_eq_true_eq] at h
  obtain ⟨⟨⟨h1, h2⟩, h3⟩, h4⟩ := h
  refine ⟨h1, h2, fun i s hs => ?_⟩
  cases i with
  | zero =>
    rw [hs] at h3
    simp only [eqSym, Bool.and_eq_true, beq_iff_eq] at h3
    omega
  | succ i =>
    have hl := lt_at hs
    have h5 := List.all_eq_true.1 h4 (i + 1) (by rw [List.mem_range'_1]; omega)
    unfold sigAt at h5
    rw [hs] at h5
    simp only [symB, numsB, Bool.and_eq_true, decide_eq_true_eq] at h5
    omega
theorem findN_some {l : List Sym} {n : ByteArray} {j : Nat} {s : Sym} (hs : l[j]? = some s) (hq : isN n s = true) (hk : ∀ k, k < j → ∀ t, l[k]? = some t → isN n t = false) : findN l n = (j : Int) := by
  unfold findN
  have : l.findIdx? (isN n) = some j := by
    rw [List.findIdx?_eq_some_iff_getElem]
    have hl := lt_at hs
    refine ⟨hl, ?_, fun k hkj => ?_⟩
    · rw [List.getElem?_eq_getElem hl] at hs; simp at hs; rw [hs]; exact hq
    · have := hk k hkj l[k] (by simp)
      simpa using this
  rw [this]
theorem findN_none {l : List Sym} {n : ByteArray} (hk : ∀ k, k < l.length → ∀ t, l[k]? = some t → isN n t = false) : findN l n = -1 := by
  unfold findN
  have : l.findIdx? (isN n) = none := by
    rw [List.findIdx?_eq_none_iff]
    intro x hx
    obtain ⟨k, hk1, hk2⟩ := List.getElem_of_mem hx
    exact hk k hk1 x (by rw [List.getElem?_eq_getElem hk1, hk2])
  rw [this]

/-! ### Terms -/
/-- How many terms stand behind a code; none: it may not begin a term. -/
def arOf (g : List Sym) (c : Int) : Option Nat :=
  if c < 0 then (if -24 ≤ c then some 0 else none) else match g[c.toNat]? with
    | none => none
    | some s => if s.kind = 0 then none else some s.ar.toNat
/-- How many codes so many terms have. -/
def lenN (g : List Sym) : List Int → Nat → Option Nat
  | _, 0 => some 0
  | [], _ + 1 => none
  | c :: r, n + 1 => match arOf g c with
    | none => none
    | some k => (lenN g r (n + k)).map (· + 1)
theorem lenN_le {g : List Sym} : ∀ {r : List Int} {n k : Nat}, lenN g r n = some k → k ≤ r.length ∧ n ≤ k
  | r, 0, k, h => by cases r <;> (simp [lenN] at h; subst h; simp)
  | [], n + 1, k, h => by simp [lenN] at h
  | c :: r, n + 1, k, h => by
    unfold lenN at h
    split at h
    · cases h
    · rename_i a ha
      obtain ⟨m, hm, rfl⟩ := Option.map_eq_some_iff.1 h
      have := lenN_le hm
      simp; omega
theorem gi_drop {r : List Int} {i : Nat} (h : i < r.length) : r.drop i = gi r i :: r.drop (i + 1) := by
  rw [List.drop_eq_getElem_cons h]; simp [gi, h]
theorem drop_ge {r : List Int} {i : Nat} (h : ¬ i < r.length) : r.drop i = [] := List.drop_of_length_le (by omega)
theorem arOf_le {g : List Sym} (hg : SigOk g) {c : Int} {k : Nat} (h : arOf g c = some k) : k ≤ 3 := by
  unfold arOf at h
  split at h
  · split at h <;> simp at h; omega
  · split at h
    · cases h
    · rename_i s hs
      have := hg.nums _ _ hs
      split at h <;> simp at h; omega
def arV (g : List Sym) (c : Int) : Int := ((arOf g c).getD 0 : Nat)
theorem lenN_end {g : List Sym} {r : List Int} {i n : Nat} (h : ¬ i < r.length) (hn : 1 ≤ n) : lenN g (r.drop i) n = none := by
  rw [drop_ge h]
  obtain ⟨m, rfl⟩ : ∃ m, n = m + 1 := ⟨n - 1, by omega⟩
  rfl
theorem lenN_no {g : List Sym} {r : List Int} {i n : Nat} (h : i < r.length) (hn : 1 ≤ n) (ha : arOf g (gi r i) = none) : lenN g (r.drop i) n = none := by
  rw [gi_drop h]
  obtain ⟨m, rfl⟩ : ∃ m, n = m + 1 := ⟨n - 1, by omega⟩
  simp [lenN, ha]
theorem lenN_go {g : List Sym} {r : List Int} {i n k : Nat} (h : i < r.length) (hn : 1 ≤ n) (ha : arOf g (gi r i) = some k) : lenN g (r.drop i) n = (lenN g (r.drop (i + 1)) (n + k - 1)).map (· + 1) := by
  rw [gi_drop h]
  obtain ⟨m, rfl⟩ : ∃ m, n = m + 1 := ⟨n - 1, by omega⟩
  simp only [lenN, ha]
  rw [show m + 1 + k - 1 = m + k by omega]
/-- The place behind so many terms from a place on. -/
def skV (g : List Sym) (r : List Int) (i n : Nat) : Int := match lenN g (r.drop i) n with | some k => ((i + k : Nat) : Int) | none => 0
def skB (g : List Sym) (r : List Int) (i n : Nat) : Bool := (lenN g (r.drop i) n).isSome
/-- The terms of a row; none: it is no row of terms. -/
def parts (g : List Sym) (r : List Int) : Option (List (List Int)) :=
  if hr : r = [] then some [] else match h : lenN g r 1 with
    | none => none
    | some k => (parts g (r.drop k)).map (r.take k :: ·)
termination_by r.length
decreasing_by
  have := lenN_le h
  have : r.length ≠ 0 := fun e => hr (List.length_eq_zero_iff.1 e)
  simp; omega
theorem parts_nil (g : List Sym) : parts g [] = some [] := by rw [parts]; simp
theorem parts_none {g : List Sym} {r : List Int} (hr : r ≠ []) (h : lenN g r 1 = none) : parts g r = none := by
  rw [parts]; rw [dif_neg hr]; split
  · rfl
  · rename_i k hk; rw [h] at hk; cases hk
theorem parts_some {g : List Sym} {r : List Int} {k : Nat} (hr : r ≠ []) (h : lenN g r 1 = some k) : parts g r = (parts g (r.drop k)).map (r.take k :: ·) := by
  rw [parts]; rw [dif_neg hr]; split
  · rename_i hk; rw [h] at hk; cases hk
  · rename_i k' hk; rw [h] at hk; cases hk; rfl
/-- Where the terms begin, from a place on. -/
def begs (at_ : Nat) : List (List Int) → List Int
  | [] => []
  | t :: ts => (at_ : Int) :: begs (at_ + t.length) ts
/-- The terms of a row that may be (P2.1). -/
def rowP (g : List Sym) (r : List Int) : Option (List (List Int)) := if r.length ≤ 48 then parts g r else none
def atomB (g : List Sym) (a : List Int) : Bool :=
  match a with
  | [] => false
  | p :: r => if p < 0 then false else match g[p.toNat]? with
    | none => false
    | some s => s.kind == 0 && sigB g && (match rowP g r with | some ts => (ts.length : Int) == s.ar | none => false)
def rowB (g : List Sym) (r : List Int) : Bool := sigB g && (rowP g r).isSome
def begsM (g : List Sym) (r : List Int) : List Int := if sigB g = true then (match rowP g r with | some ts => begs 0 ts | none => []) else []
theorem begs_len : ∀ (ts : List (List Int)) (i : Nat), (begs i ts).length = ts.length
  | [], i => rfl
  | t :: ts, i => by simp [begs, begs_len ts]
theorem ints_nil : ints [] = [] := rfl
theorem ints_cons (x : Int) (l : List Int) : ints (x :: l) = .int .i64 x :: ints l := rfl
/-- Numbers that are not too many. -/
def Len (l : List Int) : Prop := l.length * 8 ≤ 140737488351232
theorem Len.lt {l : List Int} (h : Len l) : l.length < 20000000000000 := by unfold Len at h; omega

/-! ### Rows of rows -/
structure Row where
  z : Bool
  l : List Int
  e : List D
def Row.d (r : Row) : D := .sl 1 r.z (ints r.l) r.e
def rws (rs : List Row) : List D := rs.map Row.d
abbrev iR (z : Bool) (rs : List Row) (e : List D) : IV := .d (.sl 1 z (rws rs) e)
theorem rws_len (l : List Row) : (rws l).length = l.length := by simp [rws]
theorem rws_at {l : List Row} {i : Nat} {s : Row} (h : l[i]? = some s) : (rws l)[i]? = some (.sl 1 s.z (ints s.l) s.e) := by
  simp [rws, h, Row.d]
theorem rws_nil : rws [] = [] := rfl
theorem rws_cons (x : Row) (l : List Row) : rws (x :: l) = .sl 1 x.z (ints x.l) x.e :: rws l := rfl
theorem rws_append (l m : List Row) : rws (l ++ m) = rws l ++ rws m := by simp [rws]
theorem ints_ext {l m : List Int} (h : l.length = m.length) (h2 : ∀ i, i < l.length → gi l i = gi m i) : l = m := by
  refine List.ext_getElem h (fun i h3 h4 => ?_)
  have := h2 i h3
  simpa [gi, h3, h4] using this
/-- Which variables stand among codes. -/
def varsFrom (l : List Int) : Nat → Nat → List Int
  | 0, _ => []
  | k + 1, v => if l.contains (-1 - (v : Int)) then (v : Int) :: varsFrom l k (v + 1) else varsFrom l k (v + 1)
def varsM (l : List Int) : List Int := varsFrom l 24 0
end Go.Qu

/- Signatures, rows of terms, atoms: what the program's and the reference's functions hand back. For every input; no condition. -/
set_option linter.unusedVariables false
set_option linter.unusedSimpArgs false
set_option maxRecDepth 100000
namespace Go.Proofs.YtjhganbjbiihoaaDoor.Ab
open Go Go.Ab Go.Qu Go.Proofs
attribute [local simp] and_assoc
noncomputable abbrev C : Caller := Go.Ab.W F
theorem wfn {f : FuncId} {d : FnD} {args : List IV} {r : IV × List IV} {lk : List Nat} (h : codeOf code f = some d) (hl : lkFrom 0 args = lk) (h2 : evFnJ F (Go.Ab.W F) (JW F d lk) d args = some r) (hp : F.prim f = none := by rfl) : C f args = some r := W_fn hp h (by rw [hl]; exact h2)
/-! ### Signatures -/
@[simp] theorem w_small (c : Int) : C 116 [.d (.int .u8 c)] = some (iB (smallB c), [.d (.int .u8 c)]) := by
  refine wfn (lk := []) rfl rfl (fnW_way (q116 _ _ c _) ?_)
  by_cases h1 : 97 ≤ c <;> by_cases h2 : c ≤ 122 <;> simp [h1, h2, smallB]
@[simp] theorem w_called (s : ByteArray) : C 106 [.d (.str s)] = some (iB (nameB s), [.d (.str s)]) := by
  refine wfn (lk := []) rfl rfl (fnW_way (q106 _ _ s _) ?_)
  have hl := fun (h8 : s.size ≤ 8) => blk_all (F := F) (d := d106) (lk := []) (p := [1,1,0,1,0,0]) (p0 := [1,1,0,1]) (by kernel_rfl) (n := s.size) (id := 0) (st := fun i => [(0, .d (.str s)), (18, iI s.size), (19, iI i)]) (q := fun i => charB (byteAt s i)) (rt := [(2, iB false)]) (e := [(0, .d (.str s)), (18, iI s.size), (19, iI s.size)])
    (fun i hi hq => by
      refine wpQ_way (q106_l0a _ _ s _ i _) ?_
      simp only [charB, Bool.or_eq_true, Bool.and_eq_true, decide_eq_true_eq] at hq
      simp [wr1 hi (by omega), hi]
      intro h; simpa [h] using hq)
    (fun i hi hq => by
      refine wpQ_way (q106_l0a _ _ s _ i _) ?_
      simp [charB] at hq
      simp [-getElem?_pos, and_assoc, wr1 hi (by omega), hi, hq.1]
      omega)
    (wpQ_way (q106_l0a _ _ s _ s.size _) (by simp)) 0 (Nat.zero_le _)
  by_cases h0 : s.size = 0
  · have : s.toList = [] := List.length_eq_zero_iff.1 (by rw [bytes_len, h0])
    simp [this, nameB, h0]
  have h1 : ¬ s.toList = [] := fun e => h0 (by rw [← bytes_len, e]; rfl)
  by_cases h8 : s.size ≤ 8
  rotate_left
  · simp [h1, nameB, h8]; omega
  by_cases hs : smallB (byteAt s 0) = true
  rotate_left
  · have hs' : smallB (byteAt s 0) = false := by simpa using hs
    simp [h1, nameB, hs']; omega
  rcases hl h8 with ⟨h2, h3⟩ | ⟨⟨j, h2, h4, h5⟩, h3⟩
  · have h6 : nameB s = true := by
      simp only [nameB, Bool.and_eq_true, decide_eq_true_eq, hs, and_true, List.all_eq_true, List.mem_range]
      exact ⟨⟨by omega, h8⟩, fun j hj => h2 j (Nat.zero_le _) hj⟩
    simp at h3
    simp [h1, hs, h3, h6]
    omega
  · have h6 : nameB s = false := by
      simp only [nameB, Bool.and_eq_false_iff]
      right
      rw [List.all_eq_false]
      exact ⟨j, List.mem_range.2 h4, by simp [h5]⟩
    simp at h3
    simp [h1, hs, h3, h6]
    omega
@[simp] theorem w_symmay (s : Sym) : C 84 [.d (.agg [.str s.name, .int .i64 s.kind, .int .i64 s.ar, .int .i64 s.wt])] = some (iB (symB s), [.d (.agg [.str s.name, .int .i64 s.kind, .int .i64 s.ar, .int .i64 s.wt])]) := by
  refine wfn (lk := []) rfl rfl (fnW_way (q84 _ _ s.name s.kind s.ar s.wt _) ?_)
  cases hn : nameB s.name <;> simp [hn, symB, numsB]
  by_cases h1 : 0 ≤ s.kind <;> by_cases h2 : s.kind ≤ 2 <;> by_cases h3 : 0 ≤ s.ar <;> by_cases h4 : s.ar ≤ 3 <;> by_cases h5 : 1 ≤ s.wt <;> by_cases h6 : s.wt ≤ 20 <;> simp [h1, h2, h3, h4, h5, h6] <;> omega
theorem w_find {g : List Sym} (hg : g.length ≤ 20) (z : Bool) (e : List D) (n : ByteArray) : C 85 [iG z g e, .d (.str n)] = some (iI (findN g n), [iG z g e, .d (.str n)]) := by
  refine wfn (lk := []) rfl rfl (fnW_way (q85 _ _ z (syms g) e n _) ?_)
  have hl := blk_find (F := F) (d := d85) (lk := []) (p := [1,0,1,0,0]) (p0 := [1,0,1]) (by kernel_rfl) (n := g.length) (id := 0) (st := fun i => [(0, iG z g e), (1, .d (.str n)), (7, iI g.length), (8, iI i)]) (q := fun i => match g[i]? with | some s => isN n s | none => false) (rt := fun i => [(4, iI i)]) (e := [(0, iG z g e), (1, .d (.str n)), (7, iI g.length), (8, iI g.length)])
    (fun i hi hq => by
      refine wpQ_way (q85_l0a _ _ z (syms g) e n _ i _) ?_
      obtain ⟨s, hs⟩ := at_lt hi
      simp [hs, isN] at hq
      simp [-getElem?_pos, and_assoc, wr1 hi (by omega), hi, syms_at hs, hq])
    (fun i hi hq => by
      refine wpQ_way (q85_l0a _ _ z (syms g) e n _ i _) ?_
      obtain ⟨s, hs⟩ := at_lt hi
      simp [hs, isN] at hq
      simp [-getElem?_pos, and_assoc, wr1 hi (by omega), hi, syms_at hs, hq])
    (wpQ_way (q85_l0a _ _ z (syms g) e n _ g.length _) (by simp)) 0 (Nat.zero_le _)
  rcases hl with ⟨h2, h3⟩ | ⟨j, h1, h2, h4, h5, h3⟩
  · rw [findN_none (fun k hk t ht => by have := h2 k (Nat.zero_le _) hk; rw [ht] at this; exact this)]
    simp at h3
    simp [syms_len, h3]
  · obtain ⟨s, hs⟩ := at_lt h2
    rw [findN_some hs (by rw [hs] at h4; exact h4) (fun k hk t ht => by have := h5 k (Nat.zero_le _) hk; rw [ht] at this; exact this)]
    simp at h3
    simp [syms_len, h3]
theorem w_may (z : Bool) (g : List Sym) (e : List D) : C 47 [iG z g e] = some (iB (sigB g), [iG z g e]) := by
  refine wfn (lk := []) rfl rfl (fnW_way (q47 _ _ z (syms g) e _) ?_)
  by_cases h1 : 1 ≤ g.length
  rotate_left
  · simp [syms_len, sigB, h1]; omega
  by_cases h20 : g.length ≤ 20
  rotate_left
  · simp [syms_len, sigB, h20]; omega
  obtain ⟨s0, hs0⟩ := at_lt (show 0 < g.length by omega)
  have e1 : ¬ ((g.length : Int) < 1) := by omega
  have e2 : ¬ (20 < (g.length : Int)) := by omega
  have hl := blk_all (F := F) (d := d47) (lk := []) (p := [1,1,0,1,0,0]) (p0 := [1,1,0,1]) (by kernel_rfl) (n := g.length) (id := 0) (st := fun i => [(0, iG z g e), (3, iI i)]) (q := sigAt g) (rt := [(2, iB false)]) (e := [(0, iG z g e), (3, iI g.length)])
    (fun i hi hq => by
      refine wpQ_way (q47_l0a _ _ z (syms g) e i _) ?_
      obtain ⟨s, hs⟩ := at_lt hi
      simp [sigAt, hs] at hq
      simp [-getElem?_pos, and_assoc, wr1 hi (by omega), hi, syms_len, syms_at hs, hq, w_find h20])
    (fun i hi hq => by
      refine wpQ_way (q47_l0a _ _ z (syms g) e i _) ?_
      obtain ⟨s, hs⟩ := at_lt hi
      simp [sigAt, hs] at hq
      cases hm : symB s
      · simp [-getElem?_pos, and_assoc, wr1 hi (by omega), hi, syms_len, syms_at hs, hm]
      · simp [-getElem?_pos, and_assoc, wr1 hi (by omega), hi, syms_len, syms_at hs, hm, w_find h20, hq hm])
    (wpQ_way (q47_l0a _ _ z (syms g) e g.length _) (by simp [syms_len])) 1 h1
  have e0 : "=".toUTF8.toList = [61] := by decide +kernel
  have hq : (s0.name.toList == "=".toUTF8.toList && (s0.kind == 0 && (s0.ar == 2 && (s0.wt == 1 && true)))) = eqSym s0 := by rw [e0]; rfl
  simp only [syms_len, syms_at hs0, condW_d, e1, e2, if_false, gt_iff_lt]
  simp only [Option.some.injEq, D.agg.injEq, List.cons.injEq, D.str.injEq, D.int.injEq, true_and, and_true]
  refine ⟨s0.name, s0.kind, s0.ar, s0.wt, ⟨rfl, rfl, rfl, rfl⟩, ?_⟩
  rw [hq]
  cases h0 : eqSym s0
  · simp [sigB, h1, h20, hs0, h0]
  rcases hl with ⟨h2, h3⟩ | ⟨⟨j, h2, h4, h5⟩, h3⟩
  · have h6 : sigB g = true := by
      simp only [sigB, h1, h20, hs0, h0, Bool.and_eq_true, decide_eq_true_eq, List.all_eq_true, List.mem_range'_1, true_and]
      exact fun j hj => h2 j hj.1 (by omega)
    simp at h3
    simp [h3, h6]
  · have h6 : sigB g = false := by
      simp only [sigB, Bool.and_eq_false_iff]
      right
      rw [List.all_eq_false]
      exact ⟨j, by rw [List.mem_range'_1]; omega, by simp [h5]⟩
    simp at h3
    simp [h3, h6]
/-! ### The reference's -/
@[simp] theorem w_rsmall (c : Int) : C 109 [.d (.int .u8 c)] = some (iB (smallB c), [.d (.int .u8 c)]) := by
  refine wfn (lk := []) rfl rfl (fnW_way (q109 _ _ c _) ?_)
  by_cases h1 : 97 ≤ c <;> by_cases h2 : c ≤ 122 <;> simp [h1, h2, smallB]
@[simp] theorem w_rsymmay (s : Sym) : C 88 [.d (.agg [.str s.name, .int .i64 s.kind, .int .i64 s.ar, .int .i64 s.wt])] = some (iB (symB s), [.d (.agg [.str s.name, .int .i64 s.kind, .int .i64 s.ar, .int .i64 s.wt])]) := by
  refine wfn (lk := []) rfl rfl (fnW_way (q88 _ _ s.name s.kind s.ar s.wt _) ?_)
  have hl := fun (h8 : s.name.size ≤ 8) => blk_all (F := F) (d := d88) (lk := []) (p := [1,1,0,1,0,0]) (p0 := [1,1,0,1]) (by kernel_rfl) (n := s.name.size) (id := 0) (st := fun i => [(1, .dbox 88 0 [.str s.name, .int .i64 s.kind, .int .i64 s.ar, .int .i64 s.wt]), (3, iI i)]) (q := fun i => charB (byteAt s.name i)) (rt := [(2, iB false)]) (e := [(1, .dbox 88 0 [.str s.name, .int .i64 s.kind, .int .i64 s.ar, .int .i64 s.wt]), (3, iI s.name.size)])
    (fun i hi hq => by
      refine wpQ_way (q88_l0a _ _ s.name s.kind s.ar s.wt i _) ?_
      simp only [charB, Bool.or_eq_true, Bool.and_eq_true, decide_eq_true_eq] at hq
      simp [wr1 hi (by omega), hi]
      intro h; simpa [h] using hq)
    (fun i hi hq => by
      refine wpQ_way (q88_l0a _ _ s.name s.kind s.ar s.wt i _) ?_
      simp [charB] at hq
      simp [-getElem?_pos, and_assoc, wr1 hi (by omega), hi, hq.1]
      omega)
    (wpQ_way (q88_l0a _ _ s.name s.kind s.ar s.wt s.name.size _) (by simp)) 0 (Nat.zero_le _)
  by_cases h0 : s.name.size = 0
  · simp [symB, nameB, h0]
  by_cases h8 : s.name.size ≤ 8
  rotate_left
  · simp [symB, nameB, h8]; omega
  by_cases hs : smallB (byteAt s.name 0) = true
  rotate_left
  · have hs' : smallB (byteAt s.name 0) = false := by simpa using hs
    simp [symB, nameB, hs']; omega
  have e1 : ¬ ((s.name.size : Int) < 1) := by omega
  have e2 : ¬ (8 < (s.name.size : Int)) := by omega
  have e3 : 0 < s.name.size := by omega
  rcases hl h8 with ⟨h2, h3⟩ | ⟨⟨j, h2, h4, h5⟩, h3⟩
  · have h6 : nameB s.name = true := by
      simp only [nameB, Bool.and_eq_true, decide_eq_true_eq, hs, and_true, List.all_eq_true, List.mem_range]
      exact ⟨⟨by omega, h8⟩, fun j hj => h2 j (Nat.zero_le _) hj⟩
    simp at h3
    simp [e1, e2, e3, hs, h3, h6, symB, numsB]
    by_cases h1 : 0 ≤ s.kind <;> by_cases h2 : s.kind ≤ 2 <;> by_cases h3 : 0 ≤ s.ar <;> by_cases h4 : s.ar ≤ 3 <;> by_cases h5 : 1 ≤ s.wt <;> by_cases h6 : s.wt ≤ 20 <;> simp [h1, h2, h3, h4, h5, h6] <;> omega
  · have h6 : nameB s.name = false := by
      simp only [nameB, Bool.and_eq_false_iff]
      right
      rw [List.all_eq_false]
      exact ⟨j, List.mem_range.2 h4, by simp [h5]⟩
    simp at h3
    simp [e1, e2, e3, hs, h3, h6, symB]
end Go.Proofs.YtjhganbjbiihoaaDoor.Ab

/- Rows of terms, atoms: what the program's and the reference's functions hand back. For every input; no condition. -/
set_option linter.unusedVariables false
set_option linter.unusedSimpArgs false
set_option maxRecDepth 100000
namespace Go.Proofs.YtjhganbjbiihoaaDoor.Ab
open Go Go.Ab Go.Qu Go.Proofs
attribute [local simp] and_assoc
theorem w_number (c : Int) : C 65 [iI c] = some (iI (IntKind.wrap .i64 (-1 - c)), [iI c]) :=
  wfn (lk := []) rfl rfl (fnW_way (q65 _ _ c _) (by simp))
theorem w_number23 : C 65 [iI 23] = some (iI (-24), [iI 23]) := by rw [w_number, wr _ (by omega) (by omega)]; rfl
theorem w_args {g : List Sym} (hg : SigOk g) (z : Bool) (e : List D) (c : Int) : C 115 [iG z g e, iI c] = some (.tup [iI (arV g c), iB (arOf g c).isSome], [iG z g e, iI c]) := by
  refine wfn (lk := []) rfl rfl (fnW_way (q115 _ _ z (syms g) e c _) ?_)
  by_cases h0 : c < 0
  · by_cases h1 : -24 ≤ c
    · simp [h0, h1, arV, arOf, w_number23]
    · simp [h0, h1, arV, arOf, w_number23]; omega
  by_cases h2 : c < g.length
  · obtain ⟨s, hs⟩ := at_lt (l := g) (i := c.toNat) (by omega)
    have hn := hg.nums _ _ hs
    have h3 : 0 ≤ c := by omega
    have h4 : ¬ (g.length : Int) ≤ c := by omega
    by_cases hk : s.kind = 0
    · simp [-getElem?_pos, h0, h2, h3, h4, syms_len, syms_at hs, arV, arOf, hs, hk]
    · simp [-getElem?_pos, h0, h2, h3, h4, syms_len, syms_at hs, arV, arOf, hs, hk]; omega
  · have hs : g[c.toNat]? = none := List.getElem?_eq_none (by omega)
    have h4 : (g.length : Int) ≤ c := by omega
    simp [h0, h4, syms_len, arV, arOf, hs]
theorem l_skip {g : List Sym} (hg : SigOk g) (z z' : Bool) (e e' : List D) {r : List Int} (hr : r.length < 20000000000000) : ∀ x : Nat × Nat, (1 ≤ x.2 ∧ x.2 ≤ 3 * x.1 + 1 ∧ x.1 ≤ r.length) →
    ∃ o, evG (JW F d100 []) d100 [1, 0] 0 [(0, iG z g e), (1, iS z' r e'), (2, iI x.1), (8, iI x.2)] = some o ∧ o = .ret [(6, iI (skV g r x.1 x.2)), (7, iB (skB g r x.1 x.2))] :=
  label_rule (F := F) (d := d100) (lk := []) (p := [1, 0]) (fun _ => 0) (fun (x : Nat × Nat) => [(0, iG z g e), (1, iS z' r e'), (2, iI x.1), (8, iI x.2)]) _ (fun x => r.length - x.1) (fun x o => o = .ret [(6, iI (skV g r x.1 x.2)), (7, iB (skB g r x.1 x.2))]) (fun _ _ => by decide +kernel) (fun x hx => by
    obtain ⟨i, n⟩ := x
    obtain ⟨h1, h2, h3⟩ := hx
    dsimp only at h1 h2 h3 ⊢
    by_cases hi : i < r.length
    · have hi' : ¬ (r.length : Int) ≤ i := by omega
      cases ha : arOf g (gi r i) with
      | none =>
        refine .inr ⟨_, wpR_way (q100_l1000000a _ _ z (syms g) e z' (ints r) e' i n _) ?_, rfl, rfl⟩
        simp [-getElem?_pos, ints_len, hi', Go.Ab.ints_at hi, w_args hg, ha, skV, skB, lenN_no hi h1 ha]
      | some k =>
        have hk := arOf_le hg ha
        have hw1 : IntKind.wrap .i64 ((k : Int) - 1) = (k : Int) - 1 := wr _ (by omega) (by omega)
        have hw2 : IntKind.wrap .i64 ((n : Int) + ((k : Int) - 1)) = ((n + k - 1 : Nat) : Int) := by rw [wr _ (by omega) (by omega)]; omega
        have hw3 := wr1 hi (by omega)
        by_cases hn : 0 < n + k - 1
        · refine .inl ⟨(i + 1, n + k - 1), wpR_way (q100_l1000000a _ _ z (syms g) e z' (ints r) e' i n _) ?_, ⟨by dsimp only; omega, by dsimp only; omega, by dsimp only; omega⟩, by dsimp only; omega, fun o ho => ?_⟩
          · simp [-getElem?_pos, -Int.natCast_add, ints_len, hi', Go.Ab.ints_at hi, w_args hg, ha, arV, hw1, hw2, hw3, hn]
          · rw [ho]
            simp only [skV, skB, lenN_go hi h1 ha]
            cases lenN g (r.drop (i + 1)) (n + k - 1) <;> simp; omega
        · refine .inr ⟨_, wpR_way (q100_l1000000a _ _ z (syms g) e z' (ints r) e' i n _) ?_, rfl, rfl⟩
          have hz : n + k - 1 = 0 := by omega
          have hl : lenN g (r.drop i) n = some 1 := by rw [lenN_go hi h1 ha, hz]; simp [lenN]
          simp [-getElem?_pos, -Int.natCast_add, ints_len, hi', Go.Ab.ints_at hi, w_args hg, ha, arV, hw1, hw2, hw3, hz, skV, skB, hl]
    · have hi' : (r.length : Int) ≤ i := by omega
      refine .inr ⟨_, wpR_way (q100_l1000000a _ _ z (syms g) e z' (ints r) e' i n _) ?_, rfl, rfl⟩
      simp [ints_len, hi', skV, skB, lenN_end hi h1])
theorem w_skip {g : List Sym} (hg : SigOk g) (z z' : Bool) (e e' : List D) {r : List Int} (hr : r.length < 20000000000000) (i : Nat) : C 100 [iG z g e, iS z' r e', iI i] = some (.tup [iI (skV g r i 1), iB (skB g r i 1)], [iG z g e, iS z' r e', iI i]) := by
  refine wfn (lk := []) rfl rfl (fnW_way (q100 _ _ z (syms g) e z' (ints r) e' i _) ?_)
  by_cases hi : i < r.length
  · have hi' : ¬ (r.length : Int) ≤ i := by omega
    cases ha : arOf g (gi r i) with
    | none => simp [-getElem?_pos, ints_len, hi', Go.Ab.ints_at hi, w_args hg, ha, skV, skB, lenN_no hi (Nat.le_refl 1) ha]
    | some k =>
      have hk := arOf_le hg ha
      have hw1 : IntKind.wrap .i64 ((k : Int) - 1) = (k : Int) - 1 := wr _ (by omega) (by omega)
      have hw2 : IntKind.wrap .i64 (1 + ((k : Int) - 1)) = (k : Int) := by rw [wr _ (by omega) (by omega)]; omega
      have hw3 := wr1 hi (by omega)
      by_cases hn : 0 < k
      · obtain ⟨o, h1, rfl⟩ := l_skip hg z z' e e' hr (i + 1, k) ⟨hn, by dsimp only; omega, hi⟩
        have hl := lenN_go hi (Nat.le_refl 1) ha
        rw [show 1 + k - 1 = k by omega] at hl
        have e1 : skV g r i 1 = skV g r (i + 1) k := by
          simp only [skV, hl]
          cases lenN g (r.drop (i + 1)) k <;> simp; omega
        have e2 : skB g r i 1 = skB g r (i + 1) k := by simp [skB, hl]
        simp [-getElem?_pos, -Int.natCast_add, ints_len, hi', Go.Ab.ints_at hi, w_args hg, ha, arV, hw1, hw2, hw3, hn, h1, e1, e2]
      · have hz : k = 0 := by omega
        subst hz
        have hl : lenN g (r.drop i) 1 = some 1 := by rw [lenN_go hi (Nat.le_refl 1) ha]; simp [lenN]
        have hw0 : IntKind.wrap .i64 (-1) = -1 := wr _ (by omega) (by omega)
        have hw4 : IntKind.wrap .i64 0 = 0 := wr _ (by omega) (by omega)
        simp [-getElem?_pos, -Int.natCast_add, ints_len, hi', Go.Ab.ints_at hi, w_args hg, ha, arV, hw0, hw4, hw3, skV, skB, hl]
  · have hi' : (r.length : Int) ≤ i := by omega
    simp [ints_len, hi', skV, skB, lenN_end hi (Nat.le_refl 1)]
theorem l_begins {g : List Sym} (hg : sigB g = true) (z z' : Bool) (e e' : List D) {r : List Int} (hr : r.length ≤ 48) : ∀ x : List Int × Nat, (x.1.length ≤ x.2 ∧ x.2 ≤ r.length ∧ x.1 ≠ []) →
    ∃ o, evG (JW F d108 []) d108 [1, 0] 0 [(0, iG z g e), (1, iS z' r e'), (6, .own false 3 1 (ints x.1)), (7, iI x.2)] = some o ∧
      match parts g (r.drop x.2) with | some ts => o = .ret [(4, .own false 3 1 (ints (x.1 ++ begs x.2 ts))), (5, iB true)] | none => o = .ret [(4, .own true 3 1 []), (5, iB false)] :=
  label_rule (F := F) (d := d108) (lk := []) (p := [1, 0]) (fun _ => 0) (fun (x : List Int × Nat) => [(0, iG z g e), (1, iS z' r e'), (6, .own false 3 1 (ints x.1)), (7, iI x.2)]) _ (fun x => r.length - x.2) (fun x o => match parts g (r.drop x.2) with | some ts => o = .ret [(4, .own false 3 1 (ints (x.1 ++ begs x.2 ts))), (5, iB true)] | none => o = .ret [(4, .own true 3 1 []), (5, iB false)]) (fun _ _ => by decide +kernel) (fun x hx => by
    obtain ⟨acc, i⟩ := x
    obtain ⟨h1, h2, h3⟩ := hx
    dsimp only at h1 h2 h3 ⊢
    by_cases hi : i = r.length
    · refine .inr ⟨.ret [(4, .own false 3 1 (ints acc)), (5, iB true)], wpR_way (q108_l1000000a _ _ z (syms g) e z' (ints r) e' false (ints acc) i _) ?_, rfl, ?_⟩
      · simp [ints_len, hi]
      · rw [List.drop_of_length_le (by omega), parts_nil]; simp [begs]
    · have hne : r.drop i ≠ [] := by simp; omega
      have hsk := w_skip (sigOk hg) z z' e e' (r := r) (by omega) i
      have hi' : ¬ ((i : Int) = r.length) := by omega
      cases hl : lenN g (r.drop i) 1 with
      | none =>
        refine .inr ⟨.ret [(4, .own true 3 1 []), (5, iB false)], wpR_way (q108_l1000000a _ _ z (syms g) e z' (ints r) e' false (ints acc) i _) ?_, rfl, ?_⟩
        · simp [ints_len, hi', hsk, skV, skB, hl]
        · rw [parts_none hne hl]
      | some k =>
        have hle := lenN_le hl
        simp at hle
        refine .inl ⟨(acc ++ [(i : Int)], i + k), wpR_way (q108_l1000000a _ _ z (syms g) e z' (ints r) e' false (ints acc) i _) ?_, ⟨by simp; omega, by dsimp only; omega, by simp⟩, by dsimp only; omega, fun o ho => ?_⟩
        · simp [ints_len, hi', hsk, skV, skB, hl, ints_append, ints_cons, ints_nil]
          omega
        · rw [parts_some hne hl]
          rw [List.drop_drop]
          dsimp only at ho
          cases hp : parts g (r.drop (i + k)) with
          | none => rw [hp] at ho; exact ho
          | some ts =>
            rw [hp] at ho
            simp only [Option.map_some] at ho ⊢
            rw [ho]
            simp [begs, List.length_take]
            rw [show min k (r.length - i) = k by omega])
theorem w_begins (z z' : Bool) (g : List Sym) (e e' : List D) (r : List Int) : C 108 [iG z g e, iS z' r e'] = some (.tup [.own (begsM g r).isEmpty 3 1 (ints (begsM g r)), iB (rowB g r)], [iG z g e, iS z' r e']) := by
  refine wfn (lk := []) rfl rfl (fnW_way (q108 _ _ z (syms g) e z' (ints r) e' _) ?_)
  have hm := w_may z g e
  cases hg : sigB g
  · simp [hm, hg, begsM, rowB, ints_nil]
  by_cases hr : r.length ≤ 48
  rotate_left
  · have e1 : 48 < (r.length : Int) := by omega
    simp [hm, hg, begsM, rowB, ints_nil, rowP, hr, e1, ints_len]
  have e1 : ¬ 48 < (r.length : Int) := by omega
  by_cases h0 : r = []
  · subst h0
    simp [hm, hg, begsM, rowB, ints_nil, rowP, parts_nil, begs]
  have h0' : ¬ r.length = 0 := fun e => h0 (List.length_eq_zero_iff.1 e)
  have h0'' : ¬ ((0 : Int) = r.length) := by omega
  have hsk : C 100 [iG z g e, iS z' r e', iI 0] = some (.tup [iI (skV g r 0 1), iB (skB g r 0 1)], [iG z g e, iS z' r e', iI 0]) := w_skip (sigOk hg) z z' e e' (r := r) (by omega) 0
  cases hl : lenN g r 1 with
  | none =>
    simp [hm, hg, begsM, rowB, ints_nil, rowP, hr, e1, ints_len, h0'', hsk, skV, skB, hl, parts_none h0 hl]
  | some k =>
    have hle := lenN_le hl
    obtain ⟨o, h1, h2⟩ := l_begins hg z z' e e' hr ([0], k) ⟨by simp; omega, hle.1, by simp⟩
    dsimp only at h2
    simp only [ints_cons, ints_nil] at h1
    have hp := parts_some h0 hl
    cases hq : parts g (r.drop k) with
    | none =>
      rw [hq] at h2 hp
      subst h2
      simp [hm, hg, begsM, rowB, ints_nil, rowP, hr, e1, ints_len, h0'', hsk, skV, skB, hl, hp, h1]
    | some ts =>
      rw [hq] at h2 hp
      subst h2
      simp [hm, hg, begsM, rowB, ints_nil, rowP, hr, e1, ints_len, h0'', hsk, skV, skB, hl, hp, h1, begs, Nat.min_eq_left hle.1]
theorem w_isatom (z z' : Bool) (g : List Sym) (e e' : List D) (a : List Int) : C 107 [iG z g e, iS z' a e'] = some (iB (atomB g a), [iG z g e, iS z' a e']) := by
  refine wfn (lk := []) rfl rfl (fnW_way (q107 _ _ z (syms g) e z' (ints a) e' _) ?_)
  cases a with
  | nil => simp [ints_nil, atomB]
  | cons p r =>
    have e0 : ¬ ((r.length : Int) + 1 = 0) := by omega
    by_cases h0 : p < 0
    · have h3 : ¬ 0 ≤ p := by omega
      simp [ints_cons, ints_len, atomB, h0, e0, h3]
    by_cases h2 : p < g.length
    · obtain ⟨s, hs⟩ := at_lt (l := g) (i := p.toNat) (by omega)
      have h3 : 0 ≤ p := by omega
      have h4 : ¬ (g.length : Int) ≤ p := by omega
      have e1 : (1 : Int) ≤ (r.length : Int) + 1 := by omega
      have hb := w_begins z z' g e [] r
      by_cases hk : s.kind = 0
      · cases hg : sigB g
        · simp [-getElem?_pos, List.getElem?_cons_zero, ints_cons, ints_len, atomB, h0, e0, e1, h2, h3, h4, syms_len, syms_at hs, hs, hk, hb, hg, rowB]
        · cases hp : rowP g r with
          | none => simp [-getElem?_pos, List.getElem?_cons_zero, ints_cons, ints_len, atomB, h0, e0, e1, h2, h3, h4, syms_len, syms_at hs, hs, hk, hb, hg, rowB, hp]
          | some ts =>
            by_cases hc : (ts.length : Int) = s.ar
            · simp [-getElem?_pos, List.getElem?_cons_zero, ints_cons, ints_len, atomB, h0, e0, e1, h2, h3, h4, syms_len, syms_at hs, hs, hk, hb, hg, rowB, hp, begsM, begs_len, hc]
            · simp [-getElem?_pos, List.getElem?_cons_zero, ints_cons, ints_len, atomB, h0, e0, e1, h2, h3, h4, syms_len, syms_at hs, hs, hk, hb, hg, rowB, hp, begsM, begs_len, hc]
      · simp [-getElem?_pos, List.getElem?_cons_zero, ints_cons, ints_len, atomB, h0, e0, e1, h2, h3, h4, syms_len, syms_at hs, hs, hk]
    · have hs : g[p.toNat]? = none := List.getElem?_eq_none (by omega)
      have h4 : (g.length : Int) ≤ p := by omega
      simp [ints_cons, ints_len, atomB, h0, h2, e0, h4, syms_len, hs]
end Go.Proofs.YtjhganbjbiihoaaDoor.Ab

/- Rows of numbers: the same, copied, their least, their variables. For every input; no condition. -/
set_option linter.unusedVariables false
set_option linter.unusedSimpArgs false
set_option maxRecDepth 100000
namespace Go.Proofs.YtjhganbjbiihoaaDoor.Ab
open Go Go.Ab Go.Qu Go.Proofs
attribute [local simp] and_assoc
@[simp] theorem w_num (c : Int) : C 20 [iI c] = some (iI c, [iI c]) :=
  wfn (lk := []) rfl rfl (fnW_way (q20 _ _ c _) (by simp))
theorem w_equal {a : List Int} (ha : Len a) (b : List Int) (z z' : Bool) (e e' : List D) : C 41 [iS z a e, iS z' b e'] = some (iB (decide (a = b)), [iS z a e, iS z' b e']) := by
  refine wfn (lk := []) rfl rfl (fnW_way (q41 _ _ z (ints a) e z' (ints b) e' _) ?_)
  have hal := ha.lt
  by_cases hl : a.length = b.length
  rotate_left
  · have e1 : ¬ (a.length : Int) = b.length := by omega
    have e2 : ¬ a = b := fun h => hl (by rw [h])
    simp [ints_len, e1, e2]
  rcases blk_all (F := F) (d := d41) (lk := []) (p := [1,1,0,1,0,0]) (p0 := [1,1,0,1]) (by kernel_rfl) (n := a.length) (id := 0) (st := fun i => [(0, iS z a e), (1, iS z' b e'), (12, iI a.length), (13, iI i)]) (q := fun i => gi a i == gi b i) (rt := [(4, iB false)]) (e := [(0, iS z a e), (1, iS z' b e'), (12, iI a.length), (13, iI a.length)])
    (fun i hi hq => wpQ_way (q41_l0a _ _ z (ints a) e z' (ints b) e' _ i _) (by simp at hq; simp [-getElem?_pos, wr1 hi (by omega), hi, Go.Ab.ints_at hi, Go.Ab.ints_at (hl ▸ hi), hq]))
    (fun i hi hq => wpQ_way (q41_l0a _ _ z (ints a) e z' (ints b) e' _ i _) (by simp at hq; simp [-getElem?_pos, hi, Go.Ab.ints_at hi, Go.Ab.ints_at (hl ▸ hi), hq]))
    (wpQ_way (q41_l0a _ _ z (ints a) e z' (ints b) e' _ a.length _) (by simp)) 0 (Nat.zero_le _) with ⟨h2, h3⟩ | ⟨⟨j, h2, h4, h5⟩, h3⟩
  · have hab : a = b := ints_ext hl (fun i hi => by simpa using h2 i (Nat.zero_le _) hi)
    simp at h3
    simp [-Bool.exists_bool, ints_len, hab]
    rw [hab] at h3
    simp [-Bool.exists_bool, h3]
  · have hab : ¬ a = b := fun h => by rw [h] at h5; simp at h5
    simp at h3
    simp [ints_len, hl, hab]
    rw [hl] at h3
    simp [h3]
theorem w_sameints {a : List Int} (ha : Len a) (b : List Int) (z z' : Bool) (e e' : List D) : C 21 [iS z a e, iS z' b e'] = some (iB (decide (a = b)), [iS z a e, iS z' b e']) := by
  refine wfn (lk := []) rfl rfl (fnW_way (q21 _ _ z (ints a) e z' (ints b) e' _) ?_)
  have hal := ha.lt
  by_cases hl : a.length = b.length
  rotate_left
  · have e1 : ¬ (a.length : Int) = b.length := by omega
    have e2 : ¬ a = b := fun h => hl (by rw [h])
    simp [ints_len, e1, e2]
  rcases blk_all (F := F) (d := d21) (lk := []) (p := [1,1,0,1,0,0]) (p0 := [1,1,0,1]) (by kernel_rfl) (n := a.length) (id := 0) (st := fun i => [(0, iS z a e), (1, iS z' b e'), (5, iI i)]) (q := fun i => gi a i == gi b i) (rt := [(4, iB false)]) (e := [(0, iS z a e), (1, iS z' b e'), (5, iI a.length)])
    (fun i hi hq => wpQ_way (q21_l0a _ _ z (ints a) e z' (ints b) e' i _) (by simp at hq; simp [-getElem?_pos, ints_len, wr1 hi (by omega), hi, Go.Ab.ints_at hi, Go.Ab.ints_at (hl ▸ hi), hq]))
    (fun i hi hq => wpQ_way (q21_l0a _ _ z (ints a) e z' (ints b) e' i _) (by simp at hq; simp [-getElem?_pos, ints_len, hi, Go.Ab.ints_at hi, Go.Ab.ints_at (hl ▸ hi), hq]))
    (wpQ_way (q21_l0a _ _ z (ints a) e z' (ints b) e' a.length _) (by simp [ints_len])) 0 (Nat.zero_le _) with ⟨h2, h3⟩ | ⟨⟨j, h2, h4, h5⟩, h3⟩
  · have hab : a = b := ints_ext hl (fun i hi => by simpa using h2 i (Nat.zero_le _) hi)
    simp at h3
    simp [-Bool.exists_bool, ints_len, hab]
    rw [hab] at h3
    simp [-Bool.exists_bool, h3]
  · have hab : ¬ a = b := fun h => by rw [h] at h5; simp at h5
    simp at h3
    simp [ints_len, hl, hab]
    simp [h3]
/-- Rows that are new. -/
def fresh (r : Row) : Row := ⟨false, r.l, []⟩
theorem w_samerows {a : List Row} (hn : a.length * 24 ≤ 140737488351232) (ha : ∀ r ∈ a, Len r.l) (b : List Row) (z z' : Bool) (e e' : List D) : C 55 [iR z a e, iR z' b e'] = some (iB (decide (a.map (·.l) = b.map (·.l))), [iR z a e, iR z' b e']) := by
  refine wfn (lk := []) rfl rfl (fnW_way (q55 _ _ z (rws a) e z' (rws b) e' _) ?_)
  by_cases hl : a.length = b.length
  rotate_left
  · have e1 : ¬ (a.length : Int) = b.length := by omega
    have e2 : ¬ a.map (·.l) = b.map (·.l) := fun h => hl (by have := congrArg List.length h; simpa using this)
    simp [rws_len, e1, e2]
  rcases blk_all (F := F) (d := d55) (lk := []) (p := [1,1,0,1,0,0]) (p0 := [1,1,0,1]) (by kernel_rfl) (n := a.length) (id := 0) (st := fun i => [(0, iR z a e), (1, iR z' b e'), (5, iI i)]) (q := fun i => (a[i]?.map (·.l)) == (b[i]?.map (·.l))) (rt := [(4, iB false)]) (e := [(0, iR z a e), (1, iR z' b e'), (5, iI a.length)])
    (fun i hi hq => by
      obtain ⟨x, hx⟩ := at_lt hi
      obtain ⟨y, hy⟩ := at_lt (show i < b.length by omega)
      simp [hx, hy] at hq
      exact wpQ_way (q55_l0a _ _ z (rws a) e z' (rws b) e' i _) (by simp [-getElem?_pos, rws_len, wr1 hi (by omega), hi, rws_at hx, rws_at hy, w_sameints (ha x (List.mem_of_getElem? hx)), hq.symm]))
    (fun i hi hq => by
      obtain ⟨x, hx⟩ := at_lt hi
      obtain ⟨y, hy⟩ := at_lt (show i < b.length by omega)
      simp [hx, hy] at hq
      exact wpQ_way (q55_l0a _ _ z (rws a) e z' (rws b) e' i _) (by simp [-getElem?_pos, rws_len, hi, rws_at hx, rws_at hy, w_sameints (ha x (List.mem_of_getElem? hx)), hq]))
    (wpQ_way (q55_l0a _ _ z (rws a) e z' (rws b) e' a.length _) (by simp [rws_len])) 0 (Nat.zero_le _) with ⟨h2, h3⟩ | ⟨⟨j, h2, h4, h5⟩, h3⟩
  · have hab : a.map (·.l) = b.map (·.l) := by
      refine List.ext_getElem? (fun i => ?_)
      by_cases hi : i < a.length
      · have := h2 i (Nat.zero_le _) hi
        simpa using this
      · rw [List.getElem?_eq_none (by simpa using hi), List.getElem?_eq_none (by simp; omega)]
    simp at h3
    simp [rws_len, hl, hab, h3]
  · have hab : ¬ a.map (·.l) = b.map (·.l) := fun h => by
      have := congrArg (·[j]?) h
      simp at this h5
      exact h5 this
    simp at h3
    simp [rws_len, hl, hab, h3]
theorem w_in {a : List Int} (ha : Len a) (z : Bool) (e : List D) (v : Nat) (hv : v ≤ 1000000) : C 99 [iS z a e, iI v] = some (iB (a.contains (-1 - (v : Int))), [iS z a e, iI v]) := by
  have hal := ha.lt
  have hw : IntKind.wrap .i64 (-1 - (v : Int)) = -1 - (v : Int) := wr _ (by omega) (by omega)
  refine wfn (lk := []) rfl rfl (fnW_way (q99 _ _ z (ints a) e v _) ?_)
  rcases blk_find (F := F) (d := d99) (lk := []) (p := [1,0,1,0,0]) (p0 := [1,0,1]) (by kernel_rfl) (n := a.length) (id := 0) (st := fun i => [(0, iS z a e), (1, iI v), (5, iI i)]) (q := fun i => gi a i == -1 - (v : Int)) (rt := fun _ => [(4, iB true)]) (e := [(0, iS z a e), (1, iI v), (5, iI a.length)])
    (fun i hi hq => wpQ_way (q99_l0a _ _ z (ints a) e v i _) (by simp at hq; simp [-getElem?_pos, ints_len, wr1 hi (by omega), hi, Go.Ab.ints_at hi, hw, hq]))
    (fun i hi hq => wpQ_way (q99_l0a _ _ z (ints a) e v i _) (by simp at hq; simp [-getElem?_pos, ints_len, hi, Go.Ab.ints_at hi, hw, hq]))
    (wpQ_way (q99_l0a _ _ z (ints a) e v a.length _) (by simp [ints_len])) 0 (Nat.zero_le _) with ⟨h2, h3⟩ | ⟨j, h1, h2, h4, h5, h3⟩
  · have hc : a.contains (-1 - (v : Int)) = false := by
      rw [List.contains_eq_mem, decide_eq_false_iff_not]
      intro hm
      obtain ⟨i, hi, he⟩ := List.getElem_of_mem hm
      have := h2 i (Nat.zero_le _) hi
      simp [gi, hi] at this
      exact this he
    simp at h3
    simp only [hc]
    simp [h3]
  · have hc : a.contains (-1 - (v : Int)) = true := by
      rw [List.contains_eq_mem, decide_eq_true_iff]
      simp [gi, h2] at h4
      rw [← h4]
      exact List.getElem_mem h2
    simp at h3
    simp only [hc]
    simp [h3]
theorem w_varsof {a : List Int} (ha : Len a) (z : Bool) (e : List D) : C 67 [iS z a e] = some (.own (varsM a).isEmpty 3 1 (ints (varsM a)), [iS z a e]) := by
  refine wfn (lk := []) rfl rfl (fnW_way (q67 _ _ z (ints a) e _) ?_)
  have h1 := fun x hx => blk_fun (F := F) (d := d67) (lk := []) (p := [1,1,0,1,0,0]) (p0 := [1,1,0,1]) (id := 0) (by kernel_rfl) (st := fun (x : List Int × Nat) => [(0, iS z a e), (3, .own x.1.isEmpty 3 1 (ints x.1)), (4, iI x.2)]) (I := fun x => x.2 ≤ 24 ∧ x.1.length ≤ x.2) (μ := fun x => 24 - x.2)
    (res := fun x => .norm [(0, iS z a e), (3, .own (x.1 ++ varsFrom a (24 - x.2) x.2).isEmpty 3 1 (ints (x.1 ++ varsFrom a (24 - x.2) x.2))), (4, iI 24)])
    (fun x hx => by
      obtain ⟨acc, i⟩ := x
      obtain ⟨hx1, hx2⟩ := hx
      dsimp only at hx1 hx2
      by_cases h : i ≤ 23
      · have h' : (i : Int) ≤ 23 := by omega
        have hw : IntKind.wrap .i64 ((i : Int) + 1) = ((i + 1 : Nat) : Int) := by rw [wr _ (by omega) (by omega)]; omega
        have hin := w_in ha z e i (by omega)
        have e1 : 24 - i = (24 - (i + 1)) + 1 := by omega
        cases hc : a.contains (-1 - (i : Int)) with
        | true =>
          rw [hc] at hin
          refine .go (acc ++ [(i : Int)], i + 1) (wpQ_way (q67_l0a _ _ z (ints a) e _ _ i _) ?_) ⟨by dsimp only; omega, by simp; omega⟩ (by dsimp only; omega) ?_
          · simp [-Int.natCast_add, ints_len, h', hin, hw, ints_append, ints_cons, ints_nil]
            omega
          · dsimp only
            rw [e1, varsFrom, hc]; simp
        | false =>
          rw [hc] at hin
          refine .go (acc, i + 1) (wpQ_way (q67_l0a _ _ z (ints a) e _ _ i _) ?_) ⟨by dsimp only; omega, by dsimp only; omega⟩ (by dsimp only; omega) ?_
          · simp [-Int.natCast_add, ints_len, h', hin, hw]
          · dsimp only
            rw [e1, varsFrom, hc]; simp
      · have e1 : i = 24 := by omega
        subst e1
        refine .stop (.exit 0 [(0, iS z a e), (3, .own acc.isEmpty 3 1 (ints acc)), (4, iI 24)]) (wpQ_way (q67_l0a _ _ z (ints a) e _ _ _ _) ?_) rfl ?_
        · simp
        · simp [blkO, varsFrom]) x hx
  have h2 : evP F (Go.Ab.W F) (JW F d67 []) d67 [] [1,1,0,1] [(0, iS z a e), (3, .own true 3 1 []), (4, iI 0)] = _ := h1 ([], 0) ⟨Nat.zero_le _, Nat.le_refl _⟩
  simp only [List.nil_append, Nat.sub_zero] at h2
  simp [h2, varsM]
end Go.Proofs.YtjhganbjbiihoaaDoor.Ab

/- Tables of facts: what may be one, where a fact stands. Plain lists; no condition. -/
set_option linter.unusedVariables false
set_option linter.unusedSimpArgs false
namespace Go.Qu
open Go Go.Ab

def hashF (h : Int) : List Int → Int
  | [] => h
  | c :: a => hashF ((h * 31 + c + 1) % 1009) a
theorem gi_mem {a : List Int} {i : Nat} (h : i < a.length) : gi a i ∈ a := by
  simp only [gi, List.getD_eq_getElem?_getD, List.getElem?_eq_getElem h, Option.getD_some]; exact List.getElem_mem h
theorem lenN_codes {g : List Sym} : ∀ {r : List Int} {n k : Nat}, lenN g r n = some k → ∀ c ∈ r.take k, (arOf g c).isSome = true
  | r, 0, k, h, c, hc => by cases r <;> (simp [lenN] at h; subst h; simp at hc)
  | [], n + 1, k, h, c, hc => by simp [lenN] at h
  | x :: r, n + 1, k, h, c, hc => by
    unfold lenN at h
    split at h
    · cases h
    · rename_i a ha
      obtain ⟨m, hm, rfl⟩ := Option.map_eq_some_iff.1 h
      rw [List.take_succ_cons] at hc
      rcases List.mem_cons.1 hc with rfl | hc
      · rw [ha]; rfl
      · exact lenN_codes hm c hc
theorem parts_codes {g : List Sym} : ∀ (n : Nat) (r : List Int) {ts : List (List Int)}, r.length ≤ n → parts g r = some ts → ∀ c ∈ r, (arOf g c).isSome = true
  | n, [], ts, hn, h, c, hc => by simp at hc
  | 0, x :: r, ts, hn, h, c, hc => by simp at hn
  | n + 1, x :: r, ts, hn, h, c, hc => by
    cases hl : lenN g (x :: r) 1 with
    | none => rw [parts_none (by simp) hl] at h; cases h
    | some k =>
      rw [parts_some (by simp) hl] at h
      obtain ⟨us, h1, rfl⟩ := Option.map_eq_some_iff.1 h
      have h2 := lenN_le hl
      have hsplit : c ∈ (x :: r).take k ∨ c ∈ (x :: r).drop k := by
        rw [← List.mem_append, List.take_append_drop]; exact hc
      rcases hsplit with hc | hc
      · exact lenN_codes hl c hc
      · exact parts_codes n _ (by simp at hn ⊢; omega) h1 c hc
theorem arOf_lt {g : List Sym} {c : Int} (h : (arOf g c).isSome = true) : -24 ≤ c ∧ c < g.length := by
  unfold arOf at h
  split at h
  · split at h
    · omega
    · cases h
  · split at h
    · cases h
    · rename_i s hs
      have := lt_at hs
      omega
/-- The codes of an atom. -/
theorem atom_codes {g : List Sym} {a : List Int} (h : atomB g a = true) : a.length ≤ 49 ∧ (∀ c ∈ a, -24 ≤ c ∧ c < g.length) ∧ g.length ≤ 20 := by
  cases a with
  | nil => simp [atomB] at h
  | cons p r =>
    simp only [atomB] at h
    split at h
    · cases h
    · rename_i hp
      split at h
      · cases h
      · rename_i s hs
        simp only [Bool.and_eq_true] at h
        obtain ⟨⟨h1, h2⟩, h3⟩ := h
        have hl := lt_at hs
        have hg := sigOk h2
        unfold rowP at h3
        by_cases hr : r.length ≤ 48
        · rw [if_pos hr] at h3
          cases hps : parts g r with
          | none => rw [hps] at h3; cases h3
          | some ts =>
            refine ⟨by simp; omega, fun c hc => ?_, hg.hi⟩
            rcases List.mem_cons.1 hc with rfl | hc
            · omega
            · exact arOf_lt (parts_codes _ r (Nat.le_refl _) hps c hc)
        · rw [if_neg hr] at h3; cases h3
/-! ### Where a fact stands -/
/-! ### The reference's words -/
/-! ### For the walks -/
def bls (l : List Bool) : List D := l.map D.bool
end Go.Qu

/- Literals, clauses: what may be, what they weigh. Plain lists; no condition. -/
set_option linter.unusedVariables false
set_option linter.unusedSimpArgs false
namespace Go.Qu
open Go Go.Ab

structure LitR where
  neg : Bool
  r : Row
def LitR.d (l : LitR) : D := .agg [.bool l.neg, .sl 1 l.r.z (ints l.r.l) l.r.e]
def lits (ls : List LitR) : List D := ls.map LitR.d
abbrev iL (z : Bool) (ls : List LitR) (e : List D) : IV := .d (.sl 2 z (lits ls) e)
abbrev iLit (b : Bool) (z : Bool) (l : List Int) (e : List D) : IV := .d (.agg [.bool b, .sl 1 z (ints l) e])
theorem lits_len (l : List LitR) : (lits l).length = l.length := by simp [lits]
theorem lits_at {l : List LitR} {i : Nat} {s : LitR} (h : l[i]? = some s) : (lits l)[i]? = some (.agg [.bool s.neg, .sl 1 s.r.z (ints s.r.l) s.r.e]) := by simp [lits, h, LitR.d]
theorem lits_nil : lits [] = [] := rfl
theorem lits_cons (x : LitR) (l : List LitR) : lits (x :: l) = .agg [.bool x.neg, .sl 1 x.r.z (ints x.r.l) x.r.e] :: lits l := rfl
theorem lits_append (l m : List LitR) : lits (l ++ m) = lits l ++ lits m := by simp [lits]
/-- A clause as it lies in memory. -/
structure Cl where
  lz : Bool
  ls : List LitR
  le : List D
  tz : Bool
  ts : List Row
  te : List D
  cz : Bool
  cs : List LitR
  ce : List D
abbrev Cl.d (c : Cl) : D := .agg [.sl 2 c.lz (lits c.ls) c.le, .sl 1 c.tz (rws c.ts) c.te, .sl 2 c.cz (lits c.cs) c.ce]
abbrev iC (c : Cl) : IV := .d (.agg [.sl 2 c.lz (lits c.ls) c.le, .sl 1 c.tz (rws c.ts) c.te, .sl 2 c.cz (lits c.cs) c.ce])
/-! ### What may be -/
def litsB (g : List Sym) (ls : List LitR) : Bool := ls.all fun l => atomB g l.r.l
def lenL : List LitR → Nat
  | [] => 0
  | l :: ls => l.r.l.length + lenL ls
def lenR : List Row → Nat
  | [] => 0
  | r :: rs => r.l.length + lenR rs
def termsN (g : List Sym) (r : List Int) : Nat := (begsM g r).length
def rowsF (g : List Sym) (k : Nat) (ts : List Row) : Bool := ts.all fun r => rowB g r.l && (termsN g r.l == k)
def rowsB (g : List Sym) (ts : List Row) : Bool := match ts with
  | [] => true
  | r :: _ => rowsF g (termsN g r.l) ts
def clB (g : List Sym) (c : Cl) : Bool := sigB g && (decide (c.ls.length ≤ 5) && (decide (c.ts.length ≤ 3) && (decide (c.cs.length ≤ 3) && (litsB g c.ls && (rowsB g c.ts && (litsB g c.cs && decide (lenL c.ls + lenR c.ts + lenL c.cs ≤ 240)))))))
theorem lenL_le {g : List Sym} : ∀ {ls : List LitR}, litsB g ls = true → lenL ls ≤ 49 * ls.length
  | [], h => by simp [lenL]
  | l :: ls, h => by
    simp only [litsB, List.all_cons, Bool.and_eq_true] at h
    have h1 := (atom_codes h.1).1
    have h2 := lenL_le (ls := ls) h.2
    simp [lenL]; omega
theorem rowB_len {g : List Sym} {r : List Int} (h : rowB g r = true) : r.length ≤ 48 := by
  simp only [rowB, Bool.and_eq_true, rowP] at h
  by_cases h1 : r.length ≤ 48
  · exact h1
  · rw [if_neg h1] at h; simp at h
theorem lenR_le {g : List Sym} {k : Nat} : ∀ {ts : List Row}, rowsF g k ts = true → lenR ts ≤ 48 * ts.length
  | [], h => by simp [lenR]
  | r :: ts, h => by
    simp only [rowsF, List.all_cons, Bool.and_eq_true] at h
    have h1 := rowB_len h.1.1
    have h2 := lenR_le (ts := ts) (k := k) h.2
    simp [lenR]; omega
/-! ### What they weigh -/
def codeW (g : List Sym) (c : Int) : Int := if c < 0 then 1 else match g[c.toNat]? with | some s => s.wt | none => 0
def sumW (g : List Sym) : List Int → Int
  | [] => 0
  | c :: r => codeW g c + sumW g r
/-- Codes that a signature knows. -/
def Known (g : List Sym) (r : List Int) : Prop := ∀ c ∈ r, c < g.length
theorem atom_known {g : List Sym} {a : List Int} (h : atomB g a = true) : Known g a := fun c hc => ((atom_codes h).2.1 c hc).2
theorem codeW_le {g : List Sym} (hg : SigOk g) (c : Int) (h : c < g.length) : 1 ≤ codeW g c ∧ codeW g c ≤ 20 := by
  unfold codeW
  split
  · omega
  · obtain ⟨s, hs⟩ := at_lt (l := g) (i := c.toNat) (by omega)
    rw [hs]
    have := hg.nums _ _ hs
    dsimp only; omega
theorem sumW_le {g : List Sym} (hg : SigOk g) : ∀ (r : List Int), Known g r → (r.length : Int) ≤ sumW g r ∧ sumW g r ≤ 20 * r.length
  | [], h => by simp [sumW]
  | c :: r, h => by
    have h1 := codeW_le hg c (h c (by simp))
    have h2 := sumW_le hg r (fun x hx => h x (by simp [hx]))
    simp only [sumW, List.length_cons]; omega
end Go.Qu

/- Rows of terms: how deep they are, which variables they have, what joining and cutting does. Plain lists, no program in sight; no condition. -/
set_option linter.unusedVariables false
set_option linter.unusedSimpArgs false
namespace Go.Qu
open Go Go.Ab
theorem lenN_cons {g : List Sym} {c : Int} {r : List Int} {n a : Nat} (ha : arOf g c = some a) : lenN g (c :: r) (n + 1) = (lenN g r (n + a)).map (· + 1) := by
  simp [lenN, ha]
theorem lenN_some {g : List Sym} {c : Int} {r : List Int} {n k : Nat} (h : lenN g (c :: r) (n + 1) = some k) : ∃ a m, arOf g c = some a ∧ lenN g r (n + a) = some m ∧ k = m + 1 := by
  unfold lenN at h
  split at h
  · cases h
  · rename_i a ha
    obtain ⟨m, hm, rfl⟩ := Option.map_eq_some_iff.1 h
    exact ⟨a, m, ha, hm, rfl⟩
theorem lenN_app {g : List Sym} : ∀ {r : List Int} {n k : Nat} (s : List Int), lenN g r n = some k → lenN g (r ++ s) n = some k
  | r, 0, k, s, h => by
    have e : k = 0 := by cases r <;> simp [lenN] at h <;> omega
    subst e
    cases r ++ s <;> simp [lenN]
  | [], n + 1, k, s, h => by simp [lenN] at h
  | c :: r, n + 1, k, s, h => by
    obtain ⟨a, m, ha, hm, rfl⟩ := lenN_some h
    rw [List.cons_append, lenN_cons ha, lenN_app s hm]; rfl
theorem lenN_take {g : List Sym} : ∀ {r : List Int} {n k : Nat}, lenN g r n = some k → lenN g (r.take k) n = some k
  | r, 0, k, h => by
    have e : k = 0 := by cases r <;> simp [lenN] at h <;> omega
    subst e
    cases r <;> simp [lenN]
  | [], n + 1, k, h => by simp [lenN] at h
  | c :: r, n + 1, k, h => by
    obtain ⟨a, m, ha, hm, rfl⟩ := lenN_some h
    rw [List.take_succ_cons, lenN_cons ha, lenN_take hm]; rfl
theorem lenN_split {g : List Sym} : ∀ {r : List Int} {n k : Nat} (m : Nat), lenN g r n = some k → lenN g r (n + m) = (lenN g (r.drop k) m).map (k + ·)
  | r, 0, k, m, h => by
    have e : k = 0 := by cases r <;> simp [lenN] at h <;> omega
    subst e
    simp
  | [], n + 1, k, m, h => by simp [lenN] at h
  | c :: r, n + 1, k, m, h => by
    obtain ⟨a, j, ha, hm, rfl⟩ := lenN_some h
    rw [show n + 1 + m = (n + m) + 1 by omega, lenN_cons ha, show n + m + a = (n + a) + m by omega, lenN_split m hm, List.drop_succ_cons]
    cases lenN g (r.drop j) m <;> simp; omega
theorem lenN_first {g : List Sym} {r : List Int} {n k : Nat} (h : lenN g r (n + 1) = some k) : ∃ k1 k2, lenN g r 1 = some k1 ∧ lenN g (r.drop k1) n = some k2 ∧ k = k1 + k2 := by
  have : ∃ k1, lenN g r 1 = some k1 := by
    have hgen : ∀ (r : List Int) (i j : Nat) {k : Nat}, lenN g r (i + j) = some k → ∃ k1, lenN g r i = some k1 := by
      intro r
      induction r with
      | nil =>
        intro i j k h
        cases i with
        | zero => exact ⟨0, rfl⟩
        | succ i => rw [show i + 1 + j = (i + j) + 1 by omega] at h; simp [lenN] at h
      | cons c r ih =>
        intro i j k h
        cases i with
        | zero => exact ⟨0, rfl⟩
        | succ i =>
          rw [show i + 1 + j = (i + j) + 1 by omega] at h
          obtain ⟨a, m, ha, hm, rfl⟩ := lenN_some h
          rw [show i + j + a = (i + a) + j by omega] at hm
          obtain ⟨k1, hk⟩ := ih (i + a) j hm
          exact ⟨k1 + 1, by rw [lenN_cons ha, hk]; rfl⟩
    exact hgen r 1 n (by rw [Nat.add_comm]; exact h)
  obtain ⟨k1, h1⟩ := this
  have h2 := lenN_split n h1
  rw [Nat.add_comm 1 n, h] at h2
  cases h3 : lenN g (r.drop k1) n with
  | none => rw [h3] at h2; cases h2
  | some k2 => rw [h3] at h2; simp at h2; exact ⟨k1, k2, h1, h3, h2⟩
/-! ### Rows -/
theorem parts_one {g : List Sym} {r : List Int} {k : Nat} (h : lenN g r 1 = some k) : parts g (r.take k) = some [r.take k] := by
  have hle := lenN_le h
  have hne : r.take k ≠ [] := by
    intro e
    have := congrArg List.length e
    rw [List.length_take] at this; simp only [List.length_nil] at this; omega
  rw [parts_some hne (lenN_take h)]
  have e1 : (r.take k).drop k = [] := List.drop_of_length_le (by simp; omega)
  have e2 : (r.take k).take k = r.take k := List.take_of_length_le (by simp; omega)
  rw [e1, e2, parts_nil]; rfl
/-- A row begins with a term, and the others follow. -/
theorem parts_cases {g : List Sym} {r : List Int} {ts : List (List Int)} (h : parts g r = some ts) : (r = [] ∧ ts = []) ∨ ∃ k us, lenN g r 1 = some k ∧ parts g (r.drop k) = some us ∧ ts = r.take k :: us ∧ r ≠ [] := by
  by_cases hr : r = []
  · subst hr; rw [parts_nil] at h; cases h; exact Or.inl ⟨rfl, rfl⟩
  · cases hl : lenN g r 1 with
    | none => rw [parts_none hr hl] at h; cases h
    | some k =>
      rw [parts_some hr hl] at h
      obtain ⟨us, h1, rfl⟩ := Option.map_eq_some_iff.1 h
      exact Or.inr ⟨k, us, rfl, h1, rfl, hr⟩
theorem parts_all {g : List Sym} : ∀ (n : Nat) {r : List Int} {ts : List (List Int)}, r.length ≤ n → parts g r = some ts → lenN g r ts.length = some r.length
  | n, r, ts, hn, h => by
    rcases parts_cases h with ⟨rfl, rfl⟩ | ⟨k, vs, hl, hv, rfl, hne⟩
    · rfl
    · have hle := lenN_le hl
      match n, hn with
      | 0, hn => exact absurd (List.length_eq_zero_iff.1 (Nat.le_zero.1 hn)) hne
      | n + 1, hn =>
        have h1 := parts_all n (r := r.drop k) (by simp; omega) hv
        have h2 := lenN_split vs.length hl
        rw [h1] at h2
        rw [List.length_cons, Nat.add_comm, h2]
        simp; omega
theorem rowB_parts {g : List Sym} {r : List Int} (h : rowB g r = true) : sigB g = true ∧ r.length ≤ 48 ∧ ∃ ts, parts g r = some ts ∧ rowP g r = some ts := by
  simp only [rowB, Bool.and_eq_true, rowP] at h
  by_cases h1 : r.length ≤ 48
  · rw [if_pos h1] at h
    obtain ⟨ts, hts⟩ := Option.isSome_iff_exists.1 h.2
    exact ⟨h.1, h1, ts, hts, by simp [rowP, h1, hts]⟩
  · rw [if_neg h1] at h; simp at h
theorem termsN_of {g : List Sym} {r : List Int} {ts : List (List Int)} (hg : sigB g = true) (hr : r.length ≤ 48) (h : parts g r = some ts) : termsN g r = ts.length := by
  simp [termsN, begsM, hg, rowP, hr, h, begs_len]
theorem termsN_no {g : List Sym} {r : List Int} (h : rowB g r = false) : termsN g r = 0 := by
  simp only [rowB, Bool.and_eq_false_iff] at h
  unfold termsN begsM
  rcases h with h | h
  · simp [h]
  · cases hp : rowP g r with
    | none => simp
    | some ts => rw [hp] at h; simp at h
theorem row_codes {g : List Sym} {r : List Int} (h : rowB g r = true) : ∀ c ∈ r, -24 ≤ c ∧ c < g.length := by
  obtain ⟨hg, hr, ts, hts, _⟩ := rowB_parts h
  intro c hc
  exact arOf_lt (parts_codes _ r (Nat.le_refl _) hts c hc)
theorem row_len {g : List Sym} {r : List Int} (h : rowB g r = true) : Len r := by
  have := (rowB_parts h).2.1
  unfold Len; omega
/-! ### How deep -/
theorem tkX_ints {n : Nat} {r : List Int} (h : n ≤ r.length) (e : List D) : tkX n (ints r) e = ints (r.take n) := by
  rw [tkX_eq _ _ _ (.inr (by rw [ints_len]; exact h)), List.take_append_of_le_length (by rw [ints_len]; exact h)]
  simp [ints]
theorem ints_drop (n : Nat) (r : List Int) : (ints r).drop n = ints (r.drop n) := by simp [ints]
/-! ### Which variables -/
abbrev Up (l : List Int) : Prop := l.Pairwise (· < ·)
def lowS (vs : List Int) (v : Int) : Nat := (vs.takeWhile (fun x => decide (x < v))).length
def insS (vs : List Int) (v : Int) : List Int := if v ∈ vs then vs else vs.take (lowS vs v) ++ v :: vs.drop (lowS vs v)
def seenF : List Int → List Int → List Int
  | vs, [] => vs
  | vs, c :: r => seenF (if c < 0 then insS vs (-1 - c) else vs) r
theorem low_spec : ∀ {vs : List Int} (v : Int), Up vs → (∀ x ∈ vs.take (lowS vs v), x < v) ∧ (∀ x ∈ vs.drop (lowS vs v), v ≤ x) ∧ lowS vs v ≤ vs.length
  | [], v, h => by simp [lowS]
  | x :: vs, v, h => by
    obtain ⟨h1, h2⟩ := List.pairwise_cons.1 h
    obtain ⟨i1, i2, i3⟩ := low_spec (vs := vs) v h2
    by_cases hx : x < v
    · have e : lowS (x :: vs) v = lowS vs v + 1 := by simp [lowS, hx]
      rw [e, List.take_succ_cons, List.drop_succ_cons]
      refine ⟨fun y hy => ?_, i2, by simp; omega⟩
      rcases List.mem_cons.1 hy with rfl | hy
      · exact hx
      · exact i1 y hy
    · have e : lowS (x :: vs) v = 0 := by simp [lowS, hx]
      rw [e]
      refine ⟨by simp, fun y hy => ?_, by simp⟩
      rcases List.mem_cons.1 (by simpa using hy) with rfl | hy
      · omega
      · have := h1 y hy; omega
theorem mem_ins {vs : List Int} {v x : Int} : x ∈ insS vs v ↔ x ∈ vs ∨ x = v := by
  unfold insS
  split
  · rename_i h
    constructor
    · exact Or.inl
    · rintro (h1 | rfl)
      · exact h1
      · exact h
  · constructor
    · intro h
      rcases List.mem_append.1 h with h | h
      · exact Or.inl (List.mem_of_mem_take h)
      · rcases List.mem_cons.1 h with rfl | h
        · exact Or.inr rfl
        · exact Or.inl (List.mem_of_mem_drop h)
    · rintro (h | rfl)
      · rw [← List.take_append_drop (lowS vs v) vs] at h
        rcases List.mem_append.1 h with h | h
        · exact List.mem_append_left _ h
        · exact List.mem_append_right _ (List.mem_cons_of_mem _ h)
      · exact List.mem_append_right _ (List.mem_cons_self ..)
theorem up_ins {vs : List Int} {v : Int} (h : Up vs) : Up (insS vs v) := by
  unfold insS
  split
  · exact h
  · rename_i hv
    obtain ⟨h1, h2, h3⟩ := low_spec v h
    have h0 := h
    rw [← List.take_append_drop (lowS vs v) vs, Up, List.pairwise_append] at h0
    obtain ⟨a1, a2, a3⟩ := h0
    rw [Up, List.pairwise_append]
    refine ⟨a1, List.pairwise_cons.2 ⟨fun x hx => ?_, a2⟩, fun x hx y hy => ?_⟩
    · have hx2 := h2 x hx
      have : x ≠ v := fun e => hv (e ▸ List.mem_of_mem_drop hx)
      omega
    · rcases List.mem_cons.1 hy with rfl | hy
      · exact h1 x hx
      · exact a3 x hx y hy
theorem mem_seen : ∀ {r vs : List Int} {x : Int}, x ∈ seenF vs r ↔ x ∈ vs ∨ (0 ≤ x ∧ (-1 - x) ∈ r)
  | [], vs, x => by simp [seenF]
  | c :: r, vs, x => by
    rw [seenF, mem_seen (r := r)]
    by_cases hc : c < 0
    · rw [if_pos hc, mem_ins, List.mem_cons]
      constructor
      · rintro ((h | rfl) | ⟨h1, h2⟩)
        · exact Or.inl h
        · exact Or.inr ⟨by omega, Or.inl (by omega)⟩
        · exact Or.inr ⟨h1, Or.inr h2⟩
      · rintro (h | ⟨h1, h2 | h2⟩)
        · exact Or.inl (Or.inl h)
        · exact Or.inl (Or.inr (by omega))
        · exact Or.inr ⟨h1, h2⟩
    · rw [if_neg hc, List.mem_cons]
      constructor
      · rintro (h | ⟨h1, h2⟩)
        · exact Or.inl h
        · exact Or.inr ⟨h1, Or.inr h2⟩
      · rintro (h | ⟨h1, h2 | h2⟩)
        · exact Or.inl h
        · omega
        · exact Or.inr ⟨h1, h2⟩
theorem up_seen : ∀ {r vs : List Int}, Up vs → Up (seenF vs r)
  | [], vs, h => h
  | c :: r, vs, h => by
    rw [seenF]
    refine up_seen (r := r) ?_
    split
    · exact up_ins h
    · exact h
theorem mem_varsFrom {r : List Int} : ∀ {k v : Nat} {x : Int}, x ∈ varsFrom r k v ↔ (v : Int) ≤ x ∧ x < ((v + k : Nat) : Int) ∧ (-1 - x) ∈ r
  | 0, v, x => by
    simp only [varsFrom, List.not_mem_nil, false_iff]
    rintro ⟨h1, h2, h3⟩; omega
  | k + 1, v, x => by
    rw [varsFrom]
    have ih := mem_varsFrom (r := r) (k := k) (v := v + 1) (x := x)
    split
    · rename_i h
      simp at h
      rw [List.mem_cons, ih]
      constructor
      · rintro (rfl | ⟨h1, h2, h3⟩)
        · exact ⟨by omega, by omega, h⟩
        · exact ⟨by omega, by omega, h3⟩
      · rintro ⟨h1, h2, h3⟩
        by_cases e : x = v
        · exact Or.inl e
        · exact Or.inr ⟨by omega, by omega, h3⟩
    · rename_i h
      simp at h
      rw [ih]
      constructor
      · rintro ⟨h1, h2, h3⟩; exact ⟨by omega, by omega, h3⟩
      · rintro ⟨h1, h2, h3⟩
        have e : x ≠ v := by rintro rfl; exact h h3
        exact ⟨by omega, by omega, h3⟩
theorem up_varsFrom {r : List Int} : ∀ {k v : Nat}, Up (varsFrom r k v)
  | 0, v => List.Pairwise.nil
  | k + 1, v => by
    rw [varsFrom]
    split
    · refine List.pairwise_cons.2 ⟨fun x hx => ?_, up_varsFrom⟩
      have := (mem_varsFrom.1 hx).1
      omega
    · exact up_varsFrom
theorem up_ext : ∀ {a b : List Int}, Up a → Up b → (∀ x, x ∈ a ↔ x ∈ b) → a = b
  | [], [], _, _, _ => rfl
  | [], y :: b, _, _, h => by have := (h y).2 (by simp); simp at this
  | x :: a, [], _, _, h => by have := (h x).1 (by simp); simp at this
  | x :: a, y :: b, ha, hb, h => by
    obtain ⟨a1, a2⟩ := List.pairwise_cons.1 ha
    obtain ⟨b1, b2⟩ := List.pairwise_cons.1 hb
    have e : x = y := by
      have h1 := (h x).1 (by simp)
      have h2 := (h y).2 (by simp)
      rcases List.mem_cons.1 h1 with h1 | h1
      · exact h1
      · rcases List.mem_cons.1 h2 with h2 | h2
        · exact h2.symm
        · have := a1 y h2; have := b1 x h1; omega
    subst e
    rw [up_ext a2 b2 (fun z => ?_)]
    constructor
    · intro hz
      rcases List.mem_cons.1 ((h z).1 (by simp [hz])) with rfl | h1
      · have := a1 z hz; omega
      · exact h1
    · intro hz
      rcases List.mem_cons.1 ((h z).2 (by simp [hz])) with rfl | h1
      · have := b1 z hz; omega
      · exact h1
theorem seen_vars {r : List Int} (h : ∀ c ∈ r, -24 ≤ c) : seenF [] r = varsM r := by
  refine up_ext (up_seen List.Pairwise.nil) up_varsFrom (fun x => ?_)
  rw [mem_seen, varsM, mem_varsFrom]
  constructor
  · rintro (h1 | ⟨h1, h2⟩)
    · simp at h1
    · exact ⟨by omega, by have := h _ h2; omega, h2⟩
  · rintro ⟨h1, h2, h3⟩
    exact Or.inr ⟨by omega, h3⟩
theorem up_gi : ∀ {vs : List Int}, Up vs → ∀ {i j : Nat}, i < j → j < vs.length → gi vs i < gi vs j
  | vs, h, i, j, hij, hj => by
    have h1 := List.pairwise_iff_getElem.1 h i j (by omega) hj hij
    simpa [gi, hj, show i < vs.length by omega] using h1
theorem low_of : ∀ {vs : List Int} {v : Int} (i : Nat), i ≤ vs.length → (∀ k, k < i → gi vs k < v) → (∀ k, i ≤ k → k < vs.length → v ≤ gi vs k) → lowS vs v = i
  | [], v, i, h, h1, h2 => by simp at h; simp [lowS, h]
  | x :: vs, v, 0, h, h1, h2 => by
    have h3 := h2 0 (Nat.le_refl _) (by simp)
    simp [gi] at h3
    have h4 : ¬ x < v := by omega
    simp [lowS, h4]
  | x :: vs, v, i + 1, h, h1, h2 => by
    have h3 := h1 0 (by omega)
    simp [gi] at h3
    have e : lowS (x :: vs) v = lowS vs v + 1 := by simp [lowS, h3]
    rw [e, low_of (vs := vs) (v := v) i (by simpa using h) (fun k hk => by simpa [gi] using h1 (k + 1) (by omega)) (fun k hk hk2 => by simpa [gi] using h2 (k + 1) (by omega) (by simp; omega))]
theorem low_le : ∀ {vs : List Int} {v : Int}, lowS vs v ≤ vs.length
  | vs, v => (List.takeWhile_sublist _).length_le
theorem low_mem {vs : List Int} {v : Int} (h : Up vs) : v ∈ vs ↔ lowS vs v < vs.length ∧ gi vs (lowS vs v) = v := by
  obtain ⟨h1, h2, h3⟩ := low_spec v h
  constructor
  · intro hv
    rw [← List.take_append_drop (lowS vs v) vs] at hv
    rcases List.mem_append.1 hv with hv | hv
    · have := h1 v hv; omega
    · have hlt : lowS vs v < vs.length := by
        rcases Nat.lt_or_ge (lowS vs v) vs.length with hl | hl
        · exact hl
        · rw [List.drop_of_length_le hl] at hv; simp at hv
      refine ⟨hlt, ?_⟩
      rw [gi_drop hlt] at hv h2
      rcases List.mem_cons.1 hv with hv | hv
      · exact hv.symm
      · have h4 := h2 _ (List.mem_cons_self ..)
        obtain ⟨j, hj, he⟩ := List.getElem_of_mem hv
        simp at hj
        have h5 := up_gi h (i := lowS vs v) (j := lowS vs v + 1 + j) (by omega) (by omega)
        have h6 : gi vs (lowS vs v + 1 + j) = v := by
          rw [List.getElem_drop] at he
          simp [gi, show lowS vs v + 1 + j < vs.length by omega, he]
        omega
  · rintro ⟨h4, h5⟩
    rw [← h5]
    exact gi_mem h4
theorem ins_len {vs : List Int} {v : Int} : (insS vs v).length ≤ vs.length + 1 := by
  unfold insS
  split
  · omega
  · simp; omega
end Go.Qu
