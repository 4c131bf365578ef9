/- slices.Grow of the nil slice: a row of the call's own, with room. No condition. -/
import Derived.Shelf.Spec.SlicesGrow
import Derived.Test.YtekdlnofmbfdgaaDoorSubsumes0
import Derived.Test.YtekdlnofmbfdgaaDoorSubsumes1
import Derived.Test.YtekdlnofmbfdgaaDoorSubsumes2
import Derived.Test.YtekdlnofmbfdgaaDoorSubsumes3
import Derived.Test.YtekdlnofmbfdgaaDoorSubsumes4
import Derived.Test.YtekdlnofmbfdgaaDoorSubsumes5
import Derived.Test.YtekdlnofmbfdgaaDoorSubsumes6
import Derived.Test.YtekdlnofmbfdgaaDoorSubsumes7
import Derived.Test.YtekdlnofmbfdgaaDoorSubsumes8
import Derived.Test.YtekdlnofmbfdgaaDoorSubsumes9
import Derived.Test.YtekdlnofmbfdgaaDoorSubsumes10
set_option linter.unusedVariables false
set_option linter.unusedSimpArgs false
namespace Go.Ab
open Go Go.Proofs Go.Shelf

/-- What it tells: of the nil slice alone, of so many elements at most. -/
def growP (e : TypeId) (sz : Nat) (args : List IV) : Option (IV × List IV) :=
  match args with
  | [.d (.sl k true [] []), .d (.int .i64 n)] => if 0 ≤ n ∧ n ≤ 1000000 then some (.own (decide (n = 0)) e sz [], [.d (.sl k true [] []), .d (.int .i64 n)]) else none
  | _ => none
theorem grow_spec {P : Program} {ρ : Ren} {G : Globs} (L : Lays8.n4 P ρ) {sz : Nat} {i0 : TypeInfo} {z : Value} (hi0 : P.info? (ρ.t 25) = some i0) (hz0 : i0.zero = some z) (hs0 : i0.size = sz) (hsz : 0 < sz) (hzs : z.cells.size = sz) (hby : i0.bytes ≤ 1000) {args : List IV} {r : IV} {outs : List IV} (h : growP (ρ.t 25) sz args = some (r, outs)) : CallSpec P G (ρ.f 4) args r outs := by
  unfold growP at h
  split at h
  case h_2 => cases h
  rename_i k n
  split at h
  case isFalse => cases h
  rename_i hn
  simp only [Option.some.injEq, Prod.mk.injEq] at h
  obtain ⟨rfl, rfl⟩ := h
  intro H w vs bs hglob hsub hargs hnd hfree
  unfold IV.RepL at hargs
  obtain ⟨v1, vs, b1, b2, rfl, rfl, h1, h2⟩ := hargs
  unfold IV.RepL at h2
  obtain ⟨v2, vs, b3, b4, rfl, rfl, h2, h3⟩ := h2
  unfold IV.RepL at h3
  obtain ⟨rfl, rfl⟩ := h3
  unfold IV.Rep at h1 h2
  obtain ⟨h1, rfl⟩ := h1
  obtain ⟨h2, rfl⟩ := h2
  have e1 : v1 = .slice none 0 0 := by
    simp only [D.RepV, D.Rep] at h1
    rcases h1 with ⟨_, _, _, h1⟩ | ⟨h1, _⟩
    · simpa using h1
    · cases h1
  have e2 : v2 = .int .i64 n := by
    simp only [D.RepV, D.Rep] at h2
    simpa using h2
  subst e1 e2
  have hout : ∀ w' : World, IV.RepL H w' [.d (.sl k true [] []), .d (.int .i64 n)] [.slice none 0 0, .int .i64 n] [] := fun w' => by
    unfold IV.RepL
    refine ⟨_, _, [], [], rfl, rfl, by unfold IV.Rep; exact ⟨h1, rfl⟩, ?_⟩
    unfold IV.RepL
    refine ⟨_, _, [], [], rfl, rfl, by unfold IV.Rep; exact ⟨h2, rfl⟩, by unfold IV.RepL; exact ⟨rfl, rfl⟩⟩
  obtain ⟨m, rfl⟩ : ∃ m : Nat, n = (m : Int) := ⟨n.toNat, by omega⟩
  by_cases h0 : m = 0
  · subst h0
    have := Any8.slices_Grow_room L none 0 0 0 w (by omega) (by omega) (by omega) (by omega)
    refine this.mono ?_
    rintro e w' ⟨rfl, rfl⟩
    refine ⟨_, H, [], [], rfl, Fz.le_refl H, hsub, Framed.refl w' _, fun _ _ _ => rfl, hout w', ?_, by simp, by simp, by simp⟩
    unfold IV.Rep
    exact ⟨[], ⟨by simp, .inl ⟨rfl, rfl⟩⟩, by unfold D.RepL; rfl, by simp, by simp, rfl⟩
  · have := Any8.slices_Grow_grow L i0 z hi0 hz0 (by omega) none 0 0 m [] w (by omega) (by omega) (by
      have : (0 + m) * i0.bytes ≤ 1000000 * 1000 := Nat.mul_le_mul (by omega) hby
      omega) (by omega) (by simp) (fun _ => rfl) (by simp)
    refine this.mono ?_
    rintro e w' ⟨rfl, rfl⟩
    generalize hw : w.drew.alloc (.cells ((([] : List Value).toArray ++ Builtin.zeroCells z.cells (0 + m - 0)) ++ Builtin.zeroCells z.cells (grownCap w (0 + m) 0 (ρ.t 25) - (0 + m))) (ρ.t 25)) = w'
    have hsz0 : w.drew.heap.size = w.heap.size := rfl
    have hwn : w'.heap[w.heap.size]? = some (.cells ((([] : List Value).toArray ++ Builtin.zeroCells z.cells (0 + m - 0)) ++ Builtin.zeroCells z.cells (grownCap w (0 + m) 0 (ρ.t 25) - (0 + m))) (ρ.t 25)) := by
      rw [← hw]
      have := heap_alloc_new w.drew (.cells ((([] : List Value).toArray ++ Builtin.zeroCells z.cells (0 + m - 0)) ++ Builtin.zeroCells z.cells (grownCap w (0 + m) 0 (ρ.t 25) - (0 + m))) (ρ.t 25))
      rwa [hsz0] at this
    have hold : ∀ k, k < w.heap.size → w'.heap[k]? = w.heap[k]? := fun k hk => by
      rw [← hw]; exact heap_alloc_old w.drew _ hk
    have hH : H.sub w' := fun b ob hb => by
      have h5 := hsub b ob hb
      exact (hold b (Array.getElem?_eq_some_iff.1 h5).1).trans h5
    have hcap := grownCap_ge w (0 + m) 0 (ρ.t 25)
    refine ⟨_, H, [w.heap.size], [], rfl, Fz.le_refl H, hH, ⟨by rw [← hw]; rfl, by rw [← hw]; rfl, by rw [← hw]; rfl, ?_, fun k hk _ => hold k hk⟩, fun _ _ _ => rfl, hout w', ?_, by simp, by simp, fun b hb => ?_⟩
    · have := (Array.getElem?_eq_some_iff.1 hwn).1; omega
    · unfold IV.Rep
      refine ⟨[], ⟨by simp, .inr ⟨w.heap.size, grownCap w (0 + m) 0 (ρ.t 25), _, rfl, Nat.zero_le _, hwn, Nat.zero_le _, grownCap_le_maxLen w _ _ _ (by unfold maxLen; omega), ?_, by simp⟩⟩, by unfold D.RepL; rfl, by simp, ?_, rfl⟩
      · simp only [Array.size_append, List.size_toArray, List.length_nil, size_zeroCells, hzs]
        rw [Nat.zero_add, ← Nat.add_mul]
        congr 1; omega
      · simp [h0]
    · simp at hb
      subst hb
      exact ⟨Fz.none_new hsub (Nat.le_refl _), .inl (Nat.le_refl _)⟩
end Go.Ab

/- Written by a program of this session (wip/tools/AbSym.lean). Not trusted: Lean checks it. -/
set_option maxRecDepth 100000
set_option linter.unusedVariables false
namespace Go.Proofs.YtekdlnofmbfdgaaDoor.Ab
open Go Go.Ab Go.Proofs
def k3 : Keep := assoc [] [(0, [0, 4, 5]), (1, [0, 4, 5, 7, 8]), (2, [0, 4, 5, 7, 8, 9, 10, 11]), (3, [0, 4, 5, 7, 8, 9, 10, 11, 12, 13, 14]), (4, [4, 5, 7, 8, 9, 10, 11, 12, 13, 14, 15, 16]), (5, [6])]
noncomputable def d3 : FnD := ⟨82, [.tmp 6], Tryd.f3.body.getD .skip, k3, false, []⟩
def k4 : Keep := assoc [] [(0, [0, 5, 6, 7]), (1, [0, 5, 6, 7, 18]), (2, [8]), (3, [0, 5, 6, 7, 9, 10]), (4, [0, 5, 6, 7, 9, 10, 11, 12]), (5, [0, 5, 7, 9, 10, 11, 12, 13, 14]), (6, [0, 5, 7, 9, 11, 12, 13, 14, 42]), (7, [8]), (8, [0, 5, 7, 9, 60]), (9, [8]), (10, [9, 15, 16]), (11, [8])]
noncomputable def d4 : FnD := ⟨78, [.tmp 8], Tryd.f4.body.getD .skip, k4, false, []⟩
def k5 : Keep := assoc [] [(0, [0, 4, 5]), (1, [0, 4, 5, 16]), (2, [6]), (3, [0, 4, 5, 7, 8]), (4, [0, 4, 5, 7, 30]), (5, [6]), (6, [0, 5, 9, 10]), (7, [9, 10, 11, 12]), (8, [10, 12, 13, 14]), (9, [6])]
noncomputable def d5 : FnD := ⟨67, [.tmp 6], Tryd.f5.body.getD .skip, k5, false, []⟩
def k6 : Keep := assoc [] [(0, [0, 1, 3, 6]), (1, [0, 1, 3, 6, 18]), (2, [8]), (3, [0, 3, 6, 9, 10]), (4, [0, 3, 6, 9, 46]), (5, [8]), (6, [0, 3, 6, 9, 11]), (7, [0, 6, 9, 11]), (8, [0, 6, 9, 11, 58]), (9, [8]), (10, [0, 9, 11, 12]), (11, [0, 11, 12, 13, 14]), (12, [13, 14, 15, 16]), (13, [8])]
noncomputable def d6 : FnD := ⟨92, [.tmp 8], Tryd.f6.body.getD .skip, k6, false, []⟩
def k7 : Keep := assoc [] [(0, [0, 3]), (1, [0, 3, 12]), (2, [4]), (3, [0, 3, 5, 6]), (4, [0, 3, 5, 21]), (5, [4]), (6, [0, 3, 5, 7, 8]), (7, [7, 8, 9, 10]), (8, [4])]
noncomputable def d7 : FnD := ⟨50, [.tmp 4], Tryd.f7.body.getD .skip, k7, false, []⟩
def k8 : Keep := assoc [] [(0, [0, 3, 4, 6, 7]), (1, [0, 3, 4, 6, 7, 19]), (2, [10]), (3, [0, 3, 4, 6, 7, 11, 12]), (4, [0, 3, 4, 6, 7, 38]), (5, [10]), (6, [0, 3, 4, 6, 7, 13, 14]), (7, [0, 3, 4, 6, 7, 13, 14, 15, 16]), (8, [0, 3, 4, 6, 7, 13, 15, 58]), (9, [10]), (10, [0, 3, 4, 6, 7, 66]), (11, [10]), (12, [0, 6, 7, 17]), (13, [10])]
noncomputable def d8 : FnD := ⟨81, [.tmp 10], Tryd.f8.body.getD .skip, k8, false, []⟩
def k9 : Keep := assoc [] [(0, [1, 2]), (1, [2])]
noncomputable def d9 : FnD := ⟨13, [.cell 2 26], Tryd.f9.body.getD .skip, k9, false, []⟩
def k10 : Keep := assoc [] [(0, [0, 4, 5]), (1, [0, 4, 5, 20]), (2, [6, 7, 8]), (3, [9, 10]), (4, [6, 7, 8])]
noncomputable def d10 : FnD := ⟨30, [.tmp 6, .tmp 7, .tmp 8], Tryd.f10.body.getD .skip, k10, false, [(6, .own 3)]⟩
def k11 : Keep := assoc [] [(0, [0, 4, 5]), (1, [0, 4, 5, 20]), (2, [6, 7, 8]), (3, [9, 10]), (4, [6, 7, 8])]
noncomputable def d11 : FnD := ⟨30, [.tmp 6, .tmp 7, .tmp 8], Tryd.f11.body.getD .skip, k11, false, [(6, .own 3)]⟩
def k12 : Keep := assoc [] [(0, [0, 4, 5]), (1, [9, 10]), (2, [6, 7])]
noncomputable def d12 : FnD := ⟨21, [.tmp 6, .tmp 7], Tryd.f12.body.getD .skip, k12, false, []⟩
def k13 : Keep := assoc [] [(0, [0, 1]), (1, [0, 1, 10]), (2, [4]), (3, [0, 1, 5]), (4, [0, 1, 5, 14]), (5, [0, 1, 5]), (6, [0, 1, 5, 25]), (7, [4]), (8, [4])]
noncomputable def d13 : FnD := ⟨26, [.tmp 4], Tryd.f13.body.getD .skip, k13, false, []⟩
def k14 : Keep := assoc [] [(0, [0]), (1, [2])]
noncomputable def d14 : FnD := ⟨4, [.tmp 2], Tryd.f14.body.getD .skip, k14, false, []⟩
def k15 : Keep := assoc [] [(0, [2, 3]), (1, [4])]
noncomputable def d15 : FnD := ⟨24, [.tmp 4], Tryd.f15.body.getD .skip, k15, false, []⟩
def k16 : Keep := assoc [] [(0, []), (1, [1]), (2, [1, 2]), (3, [1, 2, 3, 4, 5]), (4, [1, 3, 4, 5, 6, 7]), (5, [3, 4, 5, 6, 7, 9]), (6, [0])]
noncomputable def d16 : FnD := ⟨73, [.tmp 0], Tryd.f16.body.getD .skip, k16, false, []⟩
def k17 : Keep := assoc [] [(0, [0, 3, 4]), (1, [0, 3, 4, 13]), (2, [4, 5]), (3, [0, 3, 4, 6]), (4, [0, 4, 6, 16, 17, 18]), (5, [0, 4, 6, 16, 17, 18, 19]), (6, [0, 4, 6, 8, 16, 17, 18]), (7, [0, 4, 6, 9, 16, 17, 18]), (8, [0, 4, 6, 16, 17, 18]), (9, [0, 4, 6, 16, 17, 18]), (10, [4, 5])]
noncomputable def d17 : FnD := ⟨39, [.cell 4 43, .tmp 5], Tryd.f17.body.getD .skip, k17, false, []⟩
def k18 : Keep := assoc [] [(0, [2, 3]), (1, [2, 3, 14]), (2, [4, 5]), (3, [6]), (4, [4, 5])]
noncomputable def d18 : FnD := ⟨28, [.tmp 4, .tmp 5], Tryd.f18.body.getD .skip, k18, false, []⟩
def k19 : Keep := assoc [] [(0, [0, 1, 5, 6]), (1, [0, 1, 5, 6, 8]), (2, [0, 1, 5, 6, 8, 9]), (3, [0, 1, 5, 6, 8, 9, 20]), (4, [0, 1, 5, 6, 8, 9]), (5, [0, 1, 5, 6, 8, 9, 30]), (6, [6, 7]), (7, [0, 1, 5, 6, 8, 9, 10, 11]), (8, [0, 1, 5, 6, 8, 9, 11, 12]), (9, [0, 1, 5, 6, 8, 9, 12, 58]), (10, [6, 7]), (11, [0, 1, 5, 6, 8, 9]), (12, [0, 1, 5, 6, 8, 13]), (13, [0, 1, 5, 6, 8, 13, 77]), (14, [0, 1, 5, 6, 8, 13]), (15, [0, 1, 5, 6, 8, 13, 14, 15]), (16, [0, 1, 5, 6, 8, 13, 14, 93]), (17, [6, 7]), (18, [0, 1, 5, 6, 8, 13]), (19, [6, 7])]
noncomputable def d19 : FnD := ⟨105, [.cell 6 26, .tmp 7], Tryd.f19.body.getD .skip, k19, false, [(6, .agg [.own 68, .own 28, .no]), (8, .agg [.own 68, .own 28, .no])]⟩
def k20 : Keep := assoc [] [(0, [0, 3]), (1, [0, 3, 31]), (2, [4]), (3, [0, 3, 5, 6]), (4, [0, 3, 5, 6, 7, 8]), (5, [5, 6, 7, 8, 9, 10]), (6, [4])]
noncomputable def d20 : FnD := ⟨68, [.tmp 4], Tryd.f20.body.getD .skip, k20, false, []⟩
def k21 : Keep := assoc [] [(0, [0]), (1, [0, 3]), (2, [0, 3, 4]), (3, [0, 3, 4, 8]), (4, [0, 3, 4]), (5, [0, 3, 4]), (6, [2])]
noncomputable def d21 : FnD := ⟨27, [.tmp 2], Tryd.f21.body.getD .skip, k21, false, [(2, .own 68), (3, .own 68)]⟩
def k22 : Keep := assoc [] [(0, [0, 3, 4]), (1, [3, 4, 9]), (2, [4, 5]), (3, [4, 5])]
noncomputable def d22 : FnD := ⟨13, [.cell 4 26, .tmp 5], Tryd.f22.body.getD .skip, k22, false, []⟩
def k23 : Keep := assoc [] [(0, [0, 3]), (1, [3, 14]), (2, [4, 5]), (3, [3, 6]), (4, [3, 6, 20, 21, 22]), (5, [3, 6, 20, 21, 22, 23]), (6, [3, 6, 8, 20, 21, 22]), (7, [3, 6, 20, 21, 22]), (8, [3, 6, 20, 21, 22]), (9, [6, 32, 33, 34]), (10, [6, 32, 33, 34, 35]), (11, [6, 10, 32, 33, 34]), (12, [6, 32, 33, 34]), (13, [6, 32, 33, 34]), (14, [4, 5])]
noncomputable def d23 : FnD := ⟨43, [.tmp 4, .tmp 5], Tryd.f23.body.getD .skip, k23, false, [(4, .own 3), (6, .own 3), (4000045, .no)]⟩
def k24 : Keep := assoc [] [(0, [0]), (1, [2])]
noncomputable def d24 : FnD := ⟨6, [.tmp 2], Tryd.f24.body.getD .skip, k24, false, []⟩
def k25 : Keep := assoc [] [(0, [0, 1, 4]), (1, [4])]
noncomputable def d25 : FnD := ⟨12, [.cell 4 59], Tryd.f25.body.getD .skip, k25, false, []⟩
def k26 : Keep := assoc [] [(0, [1, 3, 5]), (1, [1, 3, 5, 7]), (2, [1, 3, 5, 7, 8]), (3, [1, 3, 5, 7, 8, 17]), (4, [6]), (5, [1, 3, 5, 7, 8, 22]), (6, [6])]
noncomputable def d26 : FnD := ⟨23, [.tmp 6], Tryd.f26.body.getD .skip, k26, false, [(8000049, .no)]⟩
def k27 : Keep := assoc [] [(0, [0]), (1, [0, 3]), (2, [0, 3, 4]), (3, [0, 3, 4, 8]), (4, [0, 3, 4]), (5, [0, 3, 4]), (6, [2])]
noncomputable def d27 : FnD := ⟨20, [.tmp 2], Tryd.f27.body.getD .skip, k27, false, [(2, .own 28), (3, .own 28)]⟩
def k28 : Keep := assoc [] [(0, [0, 4, 5]), (1, [0, 4, 5, 13]), (2, [6, 7]), (3, [0, 8]), (4, [0, 8, 22]), (5, [6, 7]), (6, [6, 7])]
noncomputable def d28 : FnD := ⟨29, [.tmp 6, .tmp 7], Tryd.f28.body.getD .skip, k28, false, [(6, .own 3)]⟩
def k29 : Keep := assoc [] [(0, [0, 3]), (1, [0, 3, 32]), (2, [4]), (3, [0, 3, 5]), (4, [0, 3, 5, 37]), (5, [0, 3, 5]), (6, [0, 3, 5, 47]), (7, [4]), (8, [0, 3, 6]), (9, [0, 3, 6, 52]), (10, [0, 3, 6]), (11, [0, 3, 6, 62]), (12, [4]), (13, [0, 3, 7]), (14, [0, 3, 7, 67]), (15, [0, 3, 7]), (16, [0, 3, 7, 8]), (17, [0, 3, 7, 88]), (18, [4]), (19, [9]), (20, [9, 10]), (21, [9, 10, 11]), (22, [9, 10, 11, 94]), (23, [9, 10, 11]), (24, [9, 10, 11]), (25, [4])]
noncomputable def d29 : FnD := ⟨106, [.tmp 4], Tryd.f29.body.getD .skip, k29, false, []⟩
def k30 : Keep := assoc [] [(0, [0, 4, 5]), (1, [0, 4, 5, 8]), (2, [0, 4, 5, 8]), (3, [0, 4, 5, 8]), (4, [0, 4, 5, 8, 9]), (5, [0, 4, 5, 8, 9, 10]), (6, [0, 4, 5, 8, 9, 10, 27]), (7, [0, 4, 5, 8, 9, 10]), (8, [0, 4, 5, 8, 9, 10]), (9, [0, 4, 5, 8, 9, 10, 36]), (10, [0, 4, 5, 8, 9, 10]), (11, [0, 4, 5, 8, 9, 10, 48]), (12, [0, 4, 5, 8, 9, 10]), (13, [6, 7])]
noncomputable def d30 : FnD := ⟨70, [.tmp 6, .tmp 7], Tryd.f30.body.getD .skip, k30, false, [(9, .own 97)]⟩
def k31 : Keep := assoc [] [(0, [0, 1]), (1, [0, 1, 10]), (2, [4]), (3, [0, 1, 5]), (4, [0, 1, 5, 14]), (5, [0, 1, 5]), (6, [0, 1, 5, 41]), (7, [4]), (8, [4])]
noncomputable def d31 : FnD := ⟨42, [.tmp 4], Tryd.f31.body.getD .skip, k31, false, []⟩
def k32 : Keep := assoc [] [(0, [0, 1]), (1, [0, 1, 10]), (2, [4]), (3, [0, 1, 5]), (4, [0, 1, 5, 14]), (5, [0, 1, 5]), (6, [0, 1, 5, 26]), (7, [4]), (8, [4])]
noncomputable def d32 : FnD := ⟨27, [.tmp 4], Tryd.f32.body.getD .skip, k32, false, []⟩
def k33 : Keep := assoc [] [(0, []), (1, [0])]
noncomputable def d33 : FnD := ⟨9, [.tmp 0], Tryd.f33.body.getD .skip, k33, false, []⟩
def k34 : Keep := assoc [] [(0, [0, 3]), (1, [3, 5]), (2, [5, 13]), (3, [5]), (4, [4])]
noncomputable def d34 : FnD := ⟨17, [.tmp 4], Tryd.f34.body.getD .skip, k34, false, []⟩
def k35 : Keep := assoc [] [(0, [0, 2]), (1, [2])]
noncomputable def d35 : FnD := ⟨10, [.cell 2 43], Tryd.f35.body.getD .skip, k35, false, []⟩
def k36 : Keep := assoc [] [(0, [1]), (1, [2])]
noncomputable def d36 : FnD := ⟨11, [.tmp 2], Tryd.f36.body.getD .skip, k36, false, []⟩
def k37 : Keep := assoc [] [(0, [1]), (1, [2])]
noncomputable def d37 : FnD := ⟨10, [.tmp 2], Tryd.f37.body.getD .skip, k37, false, []⟩
def k38 : Keep := assoc [] [(0, [0, 1, 2]), (1, [1, 2, 18]), (2, [6, 7]), (3, [8]), (4, [8, 24]), (5, [6, 7]), (6, [6, 7])]
noncomputable def d38 : FnD := ⟨26, [.tmp 6, .tmp 7], Tryd.f38.body.getD .skip, k38, false, [(6, .own 3)]⟩
def k39 : Keep := assoc [] [(0, [0]), (1, [0, 18]), (2, [2]), (3, [0, 3]), (4, [0, 3, 22]), (5, [0, 3]), (6, [0, 3, 41]), (7, [2]), (8, [2])]
noncomputable def d39 : FnD := ⟨42, [.tmp 2], Tryd.f39.body.getD .skip, k39, false, []⟩
def k40 : Keep := assoc [] [(0, [0, 1]), (1, [0, 1, 6]), (2, [0, 6, 9, 10, 11]), (3, [0, 6, 9, 10, 11, 12]), (4, [0, 6, 8, 9, 10, 11]), (5, [0, 6, 8, 9, 10, 11, 18]), (6, [4, 5]), (7, [0, 6, 9, 10, 11]), (8, [0, 6, 9, 10, 11]), (9, [4, 5])]
noncomputable def d40 : FnD := ⟨26, [.tmp 4, .tmp 5], Tryd.f40.body.getD .skip, k40, false, []⟩
def k41 : Keep := assoc [] [(0, [0, 1]), (1, [0, 1, 6, 7]), (2, [0, 6, 7, 12, 13, 14]), (3, [0, 6, 7, 12, 13, 14, 15]), (4, [0, 6, 7, 8, 9, 12, 13, 14]), (5, [0, 6, 7, 8, 9, 10, 11, 12, 13, 14]), (6, [0, 6, 7, 9, 10, 11, 12, 13, 14, 26]), (7, [0, 6, 7, 9, 10, 11, 12, 13, 14]), (8, [0, 6, 7, 9, 12, 13, 14, 34]), (9, [4, 5]), (10, [0, 6, 7, 12, 13, 14]), (11, [0, 6, 7, 12, 13, 14]), (12, [4, 5])]
noncomputable def d41 : FnD := ⟨41, [.tmp 4, .tmp 5], Tryd.f41.body.getD .skip, k41, false, []⟩
def k42 : Keep := assoc [] [(0, [0]), (1, [2])]
noncomputable def d42 : FnD := ⟨6, [.tmp 2], Tryd.f42.body.getD .skip, k42, false, []⟩
def k43 : Keep := assoc [] [(0, [1, 2]), (1, [1, 2, 3]), (2, [2, 3, 16, 17, 18]), (3, [2, 3, 16, 17, 18, 19]), (4, [2, 3, 5, 16, 17, 18]), (5, [2, 3, 5, 16, 17, 18, 26]), (6, [2, 3, 16, 17, 18]), (7, [2, 3, 16, 17, 18]), (8, [2, 3, 6]), (9, [2, 3, 6, 7]), (10, [2])]
noncomputable def d43 : FnD := ⟨37, [.cell 2 26], Tryd.f43.body.getD .skip, k43, false, [(3, .agg [.no, .own 28, .no]), (5000005, .no)]⟩
def k44 : Keep := assoc [] [(0, [0]), (1, [0, 3]), (2, [0, 3, 9, 10, 11]), (3, [0, 3, 9, 10, 11, 12]), (4, [0, 3, 5, 9, 10, 11]), (5, [0, 3, 9, 10, 11]), (6, [0, 3, 9, 10, 11, 20]), (7, [0, 3, 9, 10, 11]), (8, [0, 3, 9, 10, 11]), (9, [0, 6]), (10, [6, 25, 26, 27]), (11, [6, 25, 26, 27, 28]), (12, [6, 8, 25, 26, 27]), (13, [6, 25, 26, 27]), (14, [6, 25, 26, 27]), (15, [2])]
noncomputable def d44 : FnD := ⟨36, [.tmp 2], Tryd.f44.body.getD .skip, k44, false, []⟩
def k45 : Keep := assoc [] [(0, [0, 1]), (1, [0, 9, 10, 11]), (2, [0, 9, 10, 11, 12]), (3, [0, 6, 9, 10, 11]), (4, [0, 6, 9, 10, 11, 16]), (5, [0, 6, 7, 8, 9, 10, 11]), (6, [0, 6, 7, 9, 10, 11, 25]), (7, [0, 9, 10, 11]), (8, [0, 9, 10, 11]), (9, [4])]
noncomputable def d45 : FnD := ⟨34, [.tmp 4], Tryd.f45.body.getD .skip, k45, false, [(0, .own 3), (1000080, .own 3)]⟩
def k46 : Keep := assoc [] [(0, [1]), (1, [1, 3]), (2, [3, 4]), (3, [3, 4, 5]), (4, [3, 4, 5, 11]), (5, [3, 4, 5]), (6, [3, 4, 5]), (7, [2])]
noncomputable def d46 : FnD := ⟨22, [.tmp 2], Tryd.f46.body.getD .skip, k46, false, [(3, .own 3)]⟩
def k47 : Keep := assoc [] [(0, []), (1, [0])]
noncomputable def d47 : FnD := ⟨2, [.tmp 0], Tryd.f47.body.getD .skip, k47, false, []⟩
def k48 : Keep := assoc [] [(0, [1, 3, 4, 6]), (1, [1, 3, 4, 6, 9]), (2, [1, 3, 4, 6, 9, 16]), (3, [1, 3, 4, 6, 9]), (4, [1, 3, 4, 6, 9, 28]), (5, [8]), (6, [1, 3, 4, 6, 10]), (7, [1, 3, 4, 6, 10, 33]), (8, [1, 3, 4, 6, 10]), (9, [1, 3, 4, 6, 10, 44]), (10, [8]), (11, [1, 3, 4, 6, 11]), (12, [1, 3, 4, 6, 11, 49]), (13, [1, 3, 4, 6, 11]), (14, [1, 3, 4, 6, 11, 60]), (15, [8]), (16, [8])]
noncomputable def d48 : FnD := ⟨61, [.tmp 8], Tryd.f48.body.getD .skip, k48, false, []⟩
def k49 : Keep := assoc [] [(0, [1, 2, 3]), (1, [1, 2, 3, 7]), (2, [1, 2, 3, 7, 11]), (3, [1, 2, 3, 7]), (4, [1, 2, 3, 7]), (5, [1, 2, 3, 7, 32]), (6, [1, 2, 6]), (7, [1, 2, 3, 7]), (8, [1, 2, 6])]
noncomputable def d49 : FnD := ⟨39, [.tmp 6], Tryd.f49.body.getD .skip, k49, false, []⟩
def k50 : Keep := assoc [] [(0, [0, 4, 5]), (1, [0, 5, 7]), (2, [7, 9]), (3, [11]), (4, [6])]
noncomputable def d50 : FnD := ⟨32, [.tmp 6], Tryd.f50.body.getD .skip, k50, false, []⟩
def k51 : Keep := assoc [] [(0, [0, 4, 5]), (1, [0, 4, 5, 7]), (2, [0, 4, 5, 7, 20, 21, 22]), (3, [0, 4, 5, 7, 20, 21, 22, 23]), (4, [0, 4, 5, 7, 9, 20, 21, 22]), (5, [0, 4, 5, 7, 10, 20, 21, 22]), (6, [0, 4, 5, 7, 10, 20, 21, 22, 29, 30, 31]), (7, [0, 4, 5, 7, 10, 20, 21, 22, 29, 30, 31, 32]), (8, [0, 4, 5, 7, 10, 11, 12, 20, 21, 22, 29, 30, 31]), (9, [0, 4, 5, 7, 10, 20, 21, 22, 29, 30, 31]), (10, [0, 4, 5, 7, 10, 20, 21, 22, 29, 30, 31]), (11, [0, 4, 5, 7, 20, 21, 22]), (12, [0, 4, 5, 7, 20, 21, 22]), (13, [6])]
noncomputable def d51 : FnD := ⟨53, [.tmp 6], Tryd.f51.body.getD .skip, k51, false, [(10, .agg [.no, .own 3, .own 28]), (4000084, .no), (4000085, .no)]⟩
def k52 : Keep := assoc [] [(0, [0, 1, 5]), (1, [0, 1, 5, 13, 14]), (2, [0, 1, 5, 13, 14, 15]), (3, [0, 1, 5, 7, 13, 14]), (4, [0, 1, 5, 7, 8, 13, 14]), (5, [0, 1, 5, 7, 8, 13, 14, 21, 22, 23]), (6, [0, 1, 5, 7, 8, 13, 14, 21, 22, 23, 24]), (7, [0, 1, 5, 7, 10, 13, 14, 21, 22, 23]), (8, [0, 1, 5, 7, 10, 11, 13, 14, 21, 22, 23]), (9, [0, 1, 5, 7, 8, 13, 14, 21, 22, 23]), (10, [0, 1, 5, 7, 8, 13, 14, 21, 22, 23, 36]), (11, [0, 1, 5, 7, 8, 13, 14, 21, 22, 23]), (12, [0, 1, 5, 13, 14, 39]), (13, [6]), (14, [0, 1, 5, 13, 14]), (15, [6])]
noncomputable def d52 : FnD := ⟨41, [.tmp 6], Tryd.f52.body.getD .skip, k52, false, []⟩
def k53 : Keep := assoc [] [(0, [0, 1, 5]), (1, [0, 1, 5, 15]), (2, [6, 7]), (3, [0, 1, 5, 19, 20, 21]), (4, [0, 1, 5, 19, 20, 21, 22]), (5, [0, 1, 5, 8, 9, 19, 20, 21]), (6, [0, 1, 5, 8, 9, 10, 19, 20, 21]), (7, [0, 1, 5, 8, 10, 19, 20, 21, 42]), (8, [0, 1, 5, 8, 11, 12, 19, 20, 21]), (9, [0, 1, 5, 8, 11, 19, 20, 21, 51]), (10, [6, 7]), (11, [0, 1, 5, 19, 20, 21]), (12, [6, 7])]
noncomputable def d53 : FnD := ⟨63, [.tmp 6, .tmp 7], Tryd.f53.body.getD .skip, k53, false, [(6, .own 3)]⟩
def k54 : Keep := assoc [] [(0, [0]), (1, [0, 18]), (2, [2]), (3, [0, 3]), (4, [0, 3, 22]), (5, [0, 3]), (6, [0, 3, 41]), (7, [2]), (8, [2])]
noncomputable def d54 : FnD := ⟨42, [.tmp 2], Tryd.f54.body.getD .skip, k54, false, []⟩
def k55 : Keep := assoc [] [(0, [0, 3]), (1, [4])]
noncomputable def d55 : FnD := ⟨13, [.tmp 4], Tryd.f55.body.getD .skip, k55, false, []⟩
def k56 : Keep := assoc [] [(0, [0, 1]), (1, [0, 1, 9]), (2, [4]), (3, [0, 1, 5, 6]), (4, [0, 1, 5, 6, 13]), (5, [0, 1, 5, 6]), (6, [0, 1, 5, 6, 19]), (7, [4]), (8, [0, 1, 5, 6]), (9, [4])]
noncomputable def d56 : FnD := ⟨23, [.tmp 4], Tryd.f56.body.getD .skip, k56, false, []⟩
def k57 : Keep := assoc [] [(0, [1]), (1, [1, 3]), (2, [1, 3, 4]), (3, [1, 3, 4, 11]), (4, [1, 3, 4]), (5, [1, 3, 4]), (6, [1, 3, 5]), (7, [1, 3, 5, 27]), (8, [1, 3, 5]), (9, [1, 3, 5]), (10, [1, 3, 6]), (11, [1, 3, 6, 42]), (12, [1, 3, 6]), (13, [1, 3, 6]), (14, [2])]
noncomputable def d57 : FnD := ⟨55, [.tmp 2], Tryd.f57.body.getD .skip, k57, false, [(2, .own 28), (3, .own 28)]⟩
def k58 : Keep := assoc [] [(0, [0]), (1, [0, 3]), (2, [0, 3, 4]), (3, [0, 3, 4, 8]), (4, [0, 3, 4]), (5, [0, 3, 4]), (6, [2])]
noncomputable def d58 : FnD := ⟨26, [.tmp 2], Tryd.f58.body.getD .skip, k58, false, [(2, .own 128), (3, .own 128)]⟩
def k59 : Keep := assoc [] [(0, [0]), (1, [0, 3]), (2, [0, 3, 4]), (3, [0, 3, 4, 8]), (4, [0, 3, 4]), (5, [0, 3, 4]), (6, [2])]
noncomputable def d59 : FnD := ⟨20, [.tmp 2], Tryd.f59.body.getD .skip, k59, false, [(2, .own 128), (3, .own 128)]⟩
def k60 : Keep := assoc [] [(0, [0, 1, 2, 3, 4]), (1, [0, 1, 2, 3, 4, 21]), (2, [10, 11]), (3, [0, 1, 2, 3, 4, 12]), (4, [0, 1, 2, 3, 4, 12, 28]), (5, [0, 1, 2, 3, 4, 12]), (6, [0, 1, 2, 3, 4, 12, 44]), (7, [0, 1, 2, 3, 4, 12, 13, 14]), (8, [0, 1, 2, 3, 4, 12, 13, 65]), (9, [0, 1, 2, 3, 4, 12, 15, 16]), (10, [0, 1, 2, 3, 4, 12, 15, 76]), (11, [17]), (12, [10, 11]), (13, [10, 11])]
noncomputable def d60 : FnD := ⟨82, [.tmp 10, .tmp 11], Tryd.f60.body.getD .skip, k60, false, [(10, .own 3)]⟩
def k61 : Keep := assoc [] [(0, [0, 1]), (1, [0, 1, 5]), (2, [0, 5, 8, 9, 10]), (3, [0, 5, 8, 9, 10, 11]), (4, [0, 5, 7, 8, 9, 10]), (5, [0, 5, 7, 8, 9, 10, 15]), (6, [0, 5, 8, 9, 10]), (7, [0, 5, 8, 9, 10]), (8, [0, 5, 8, 9, 10]), (9, [4])]
noncomputable def d61 : FnD := ⟨27, [.tmp 4], Tryd.f61.body.getD .skip, k61, false, []⟩
def k62 : Keep := assoc [] [(0, [0]), (1, [2])]
noncomputable def d62 : FnD := ⟨9, [.tmp 2], Tryd.f62.body.getD .skip, k62, false, []⟩
def k63 : Keep := assoc [] [(0, [0, 1]), (1, [0, 1, 9]), (2, [4]), (3, [0, 1, 10, 11, 12]), (4, [0, 1, 10, 11, 12, 13]), (5, [0, 1, 5, 6, 10, 11, 12]), (6, [0, 1, 10, 11, 12, 53]), (7, [4]), (8, [0, 1, 10, 11, 12]), (9, [4])]
noncomputable def d63 : FnD := ⟨55, [.tmp 4], Tryd.f63.body.getD .skip, k63, false, []⟩
def k64 : Keep := assoc [] [(0, [0, 1]), (1, [6]), (2, [4])]
noncomputable def d64 : FnD := ⟨14, [.tmp 4], Tryd.f64.body.getD .skip, k64, false, []⟩
def k65 : Keep := assoc [] [(0, [0, 1]), (1, [0, 1, 5]), (2, [0, 5, 9, 10, 11]), (3, [0, 5, 9, 10, 11, 12]), (4, [0, 5, 7, 9, 10, 11]), (5, [0, 5, 7, 8, 9, 10, 11]), (6, [0, 5, 7, 8, 9, 10, 11, 24]), (7, [0, 5, 9, 10, 11]), (8, [0, 5, 9, 10, 11]), (9, [0, 5, 9, 10, 11]), (10, [4])]
noncomputable def d65 : FnD := ⟨34, [.tmp 4], Tryd.f65.body.getD .skip, k65, false, [(4, .own 3), (5, .own 3)]⟩
def k66 : Keep := assoc [] [(0, [1]), (1, [2])]
noncomputable def d66 : FnD := ⟨36, [.tmp 2], Tryd.f66.body.getD .skip, k66, false, []⟩
def k67 : Keep := assoc [] [(0, [0, 1]), (1, [0, 1, 7, 8]), (2, [0, 1, 7, 8, 9]), (3, [0, 1, 5, 7, 8]), (4, [0, 1, 5, 7, 8, 17]), (5, [4]), (6, [0, 1, 7, 8]), (7, [4])]
noncomputable def d67 : FnD := ⟨20, [.tmp 4], Tryd.f67.body.getD .skip, k67, false, []⟩
def k68 : Keep := assoc [] [(0, [0, 3]), (1, [4])]
noncomputable def d68 : FnD := ⟨9, [.tmp 4], Tryd.f68.body.getD .skip, k68, false, []⟩
def k69 : Keep := assoc [] [(0, [0, 1]), (1, [6, 7]), (2, [6, 15]), (3, [4, 5]), (4, [4, 5])]
noncomputable def d69 : FnD := ⟨18, [.tmp 4, .tmp 5], Tryd.f69.body.getD .skip, k69, false, []⟩
def k70 : Keep := assoc [] [(0, [0]), (1, [0, 3]), (2, [3, 6, 7, 8]), (3, [3, 6, 7, 8, 9]), (4, [3, 5, 6, 7, 8]), (5, [3, 5, 6, 7, 8, 15]), (6, [3, 6, 7, 8]), (7, [3, 6, 7, 8]), (8, [2])]
noncomputable def d70 : FnD := ⟨22, [.tmp 2], Tryd.f70.body.getD .skip, k70, false, [(2, .own 68), (3, .own 68), (5000005, .no)]⟩
def k71 : Keep := assoc [] [(0, [0, 1]), (1, [1, 4])]
noncomputable def d71 : FnD := ⟨9, [.tmp 4], Tryd.f71.body.getD .skip, k71, false, []⟩
def k72 : Keep := assoc [] [(0, [0, 1]), (1, [1, 3])]
noncomputable def d72 : FnD := ⟨7, [.tmp 3], Tryd.f72.body.getD .skip, k72, false, []⟩
def k73 : Keep := assoc [] [(0, [0, 1]), (1, [0, 1, 10]), (2, [4]), (3, [0, 1, 12, 13]), (4, [0, 1, 12, 13, 14]), (5, [0, 1, 5, 12, 13]), (6, [0, 1, 12, 13, 24]), (7, [4]), (8, [0, 1, 12, 13]), (9, [4])]
noncomputable def d73 : FnD := ⟨26, [.tmp 4], Tryd.f73.body.getD .skip, k73, false, []⟩
def k74 : Keep := assoc [] [(0, [1, 2, 4]), (1, [1, 2, 4, 5]), (2, [1, 2, 4, 5, 13, 14, 15]), (3, [1, 2, 4, 5, 13, 14, 15, 16]), (4, [1, 2, 4, 5, 7, 13, 14, 15]), (5, [1, 2, 4, 5, 13, 14, 15]), (6, [1, 2, 4, 5, 13, 14, 15]), (7, [1, 2, 4, 5, 33, 34, 35]), (8, [1, 2, 4, 5, 33, 34, 35, 36]), (9, [1, 2, 4, 5, 9, 33, 34, 35]), (10, [1, 2, 4, 5, 33, 34, 35]), (11, [1, 2, 4, 5, 33, 34, 35]), (12, [1, 4, 5, 49, 50, 51]), (13, [1, 4, 5, 49, 50, 51, 52]), (14, [1, 4, 5, 11, 49, 50, 51]), (15, [1, 4, 5, 49, 50, 51]), (16, [1, 4, 5, 49, 50, 51]), (17, [1, 4])]
noncomputable def d74 : FnD := ⟨69, [.cell 4 26], Tryd.f74.body.getD .skip, k74, false, [(5, .agg [.own 68, .own 28, .own 68])]⟩
def k75 : Keep := assoc [] [(0, [0, 1, 2]), (1, [1, 2, 5]), (2, [1, 2, 5, 10, 11, 12]), (3, [1, 2, 5, 10, 11, 12, 13]), (4, [1, 2, 5, 6, 7, 10, 11, 12]), (5, [1, 2, 5, 6, 7, 10, 11, 12, 18]), (6, [1, 2, 5, 6, 7, 10, 11, 12, 23]), (7, [1, 2, 5, 6, 7, 10, 11, 12]), (8, [1, 2, 5, 6, 7, 10, 11, 12]), (9, [1, 2, 5, 10, 11, 12]), (10, [1, 2, 5, 10, 11, 12]), (11, [1, 2, 4])]
noncomputable def d75 : FnD := ⟨40, [.tmp 4], Tryd.f75.body.getD .skip, k75, false, [(2008000, .no), (2010005, .no), (2030005, .no), (2039005, .no)]⟩
def k76 : Keep := assoc [] [(0, [0]), (1, [0, 4]), (2, [2]), (3, [2])]
noncomputable def d76 : FnD := ⟨8, [.tmp 2], Tryd.f76.body.getD .skip, k76, false, [(2, .own 3)]⟩
def k77 : Keep := assoc [] [(0, [0]), (1, [2])]
noncomputable def d77 : FnD := ⟨5, [.tmp 2], Tryd.f77.body.getD .skip, k77, false, []⟩
def k79 : Keep := assoc [] [(0, [0, 1]), (1, [0, 1, 6]), (2, [0, 1, 6, 7, 8]), (3, [0, 1, 6, 7, 8, 15]), (4, [0, 1, 6, 7, 8, 9]), (5, [0, 1, 6, 7, 8, 9, 27]), (6, [0, 1, 6, 7, 8]), (7, [0, 1, 6, 7, 8]), (8, [4, 5])]
noncomputable def d79 : FnD := ⟨54, [.tmp 4, .tmp 5], Tryd.f79.body.getD .skip, k79, false, []⟩
def k81 : Keep := assoc [] [(0, [0]), (1, [0, 3]), (2, [0, 3, 4]), (3, [0, 3, 4, 6]), (4, [0, 3, 4]), (5, [0, 3, 4, 11]), (6, [0, 3, 4]), (7, [2])]
noncomputable def d81 : FnD := ⟨17, [.tmp 2], Tryd.f81.body.getD .skip, k81, false, [(2, .own 3), (3, .own 3)]⟩
def k82 : Keep := assoc [] [(0, [1, 3, 4, 6]), (1, [8])]
noncomputable def d82 : FnD := ⟨18, [.tmp 8], Tryd.f82.body.getD .skip, k82, false, []⟩
def k83 : Keep := assoc [] [(0, [1, 2, 3, 4]), (1, [8])]
noncomputable def d83 : FnD := ⟨18, [.tmp 8], Tryd.f83.body.getD .skip, k83, false, []⟩
def k84 : Keep := assoc [] [(0, [0, 1, 2, 3]), (1, [0, 1, 3, 14, 15, 16]), (2, [0, 1, 3, 14, 15, 16, 17]), (3, [0, 1, 3, 10, 14, 15, 16]), (4, [0, 1, 3, 10, 11, 14, 15, 16]), (5, [0, 1, 3, 10, 11, 14, 15, 16, 23, 24, 25]), (6, [0, 1, 3, 10, 11, 14, 15, 16, 23, 24, 25, 26]), (7, [0, 1, 3, 10, 11, 12, 13, 14, 15, 16, 23, 24, 25]), (8, [0, 1, 3, 10, 11, 12, 13, 14, 15, 16, 23, 24, 25, 34]), (9, [0, 1, 3, 10, 11, 14, 15, 16, 23, 24, 25]), (10, [0, 1, 3, 10, 11, 14, 15, 16, 23, 24, 25]), (11, [0, 1, 3, 14, 15, 16]), (12, [0, 1, 3, 14, 15, 16]), (13, [8])]
noncomputable def d84 : FnD := ⟨47, [.tmp 8], Tryd.f84.body.getD .skip, k84, false, [(1, .own 124), (8, .own 124), (11, .agg [.no, .own 3, .own 28]), (4000085, .no)]⟩
def k85 : Keep := assoc [] [(0, [0, 1, 2, 3, 8]), (1, [0, 2, 3, 15]), (2, [0, 3]), (3, [0])]
noncomputable def d85 : FnD := ⟨36, [], Tryd.f85.body.getD .skip, k85, false, []⟩
def k86 : Keep := assoc [] [(0, [0, 1, 2, 3]), (1, [0, 1, 2, 3, 9]), (2, [0, 1, 3, 9, 16, 17, 18]), (3, [0, 1, 3, 9, 16, 17, 18, 19]), (4, [0, 1, 3, 9, 11, 16, 17, 18]), (5, [0, 1, 3, 9, 11, 16, 17, 18, 25]), (6, [0, 8]), (7, [0, 1, 3, 9, 11, 16, 17, 18, 27]), (8, [0, 1, 3, 9, 16, 17, 18, 33]), (9, [0, 8]), (10, [0, 1, 3, 9, 16, 17, 18]), (11, [0, 1, 3, 9, 11, 12, 13, 16, 17, 18]), (12, [0, 1, 3, 9, 11, 12, 16, 17, 18, 44]), (13, [0, 8]), (14, [0, 1, 3, 12, 14, 15, 16, 17, 18]), (15, [0, 1, 3, 12, 14, 15, 16, 17, 18, 56]), (16, [0, 1, 3, 12, 14, 15, 16, 17, 18]), (17, [0, 1, 3, 12, 16, 17, 18, 69]), (18, [0, 8]), (19, [0, 1, 3, 9, 16, 17, 18]), (20, [0, 1, 3, 9, 16, 17, 18]), (21, [0, 8])]
noncomputable def d86 : FnD := ⟨76, [.tmp 8], Tryd.f86.body.getD .skip, k86, false, []⟩
def k87 : Keep := assoc [] [(0, [1]), (1, [1, 20]), (2, [2]), (3, [1, 3]), (4, [1, 3, 25]), (5, [1, 3]), (6, [1, 3, 47]), (7, [2]), (8, [2])]
noncomputable def d87 : FnD := ⟨76, [.tmp 2], Tryd.f87.body.getD .skip, k87, false, []⟩
def k88 : Keep := assoc [] [(0, [0, 1]), (1, [0, 1, 5]), (2, [0, 1, 5, 9]), (3, [0, 1, 5]), (4, [0, 1, 5, 18]), (5, [4]), (6, [4])]
noncomputable def d88 : FnD := ⟨20, [.tmp 4], Tryd.f88.body.getD .skip, k88, false, []⟩
def k89 : Keep := assoc [] [(0, [0, 1]), (1, [4])]
noncomputable def d89 : FnD := ⟨46, [.tmp 4], Tryd.f89.body.getD .skip, k89, false, []⟩
def k90 : Keep := assoc [] [(0, [0, 1, 2]), (1, [0, 1, 7, 8]), (2, [0, 1, 7, 8, 11]), (3, [0, 1, 7, 8, 31]), (4, [6]), (5, [0, 1, 7, 8]), (6, [0, 1, 7, 8, 38]), (7, [0, 1, 7, 8, 47]), (8, [6]), (9, [0, 1, 7, 8]), (10, [0, 1, 7, 8]), (11, [6])]
noncomputable def d90 : FnD := ⟨61, [.tmp 6], Tryd.f90.body.getD .skip, k90, false, []⟩
def k91 : Keep := assoc [] [(0, [0, 1, 2, 3]), (1, [0, 2, 3, 10]), (2, [0, 2, 3, 10, 11]), (3, [0, 2, 3, 10, 11, 12]), (4, [0, 2, 3, 10, 11, 12, 21]), (5, [0, 2, 3, 10, 11, 12]), (6, [0, 2, 3, 10, 11, 12, 27]), (7, [8, 9]), (8, [0, 2, 3, 10, 11, 12, 32]), (9, [0, 2, 3, 10, 11, 12, 41]), (10, [8, 9]), (11, [0, 2, 3, 10, 11, 12]), (12, [0, 2, 3, 10, 11, 12, 13]), (13, [0, 2, 3, 10, 11, 12, 13, 14]), (14, [0, 2, 3, 10, 11, 12, 13, 14, 69]), (15, [8, 9]), (16, [0, 2, 3, 10, 11, 12, 13, 71]), (17, [0, 2, 3, 10, 12, 13]), (18, [0, 2, 3, 10, 11, 12]), (19, [8, 9])]
noncomputable def d91 : FnD := ⟨91, [.tmp 8, .tmp 9], Tryd.f91.body.getD .skip, k91, false, [(8, .own 132)]⟩
def k92 : Keep := assoc [] [(0, [0, 1]), (1, [5, 6]), (2, [4])]
noncomputable def d92 : FnD := ⟨19, [.tmp 4], Tryd.f92.body.getD .skip, k92, false, []⟩
def k93 : Keep := assoc [] [(0, [0, 1]), (1, [4])]
noncomputable def d93 : FnD := ⟨16, [.tmp 4], Tryd.f93.body.getD .skip, k93, false, []⟩
def k94 : Keep := assoc [] [(0, [0, 1]), (1, [0, 1, 17]), (2, [4, 5]), (3, [0, 1, 6]), (4, [0, 1, 6, 7]), (5, [0, 1, 6, 7, 21]), (6, [4, 5]), (7, [0, 1, 6, 7, 8, 9]), (8, [0, 1, 6, 7, 8, 31]), (9, [4, 5]), (10, [0, 1, 6, 8]), (11, [0, 1, 6, 7])]
noncomputable def d94 : FnD := ⟨37, [.tmp 4, .tmp 5], Tryd.f94.body.getD .skip, k94, false, [(4, .own 3)]⟩
def k95 : Keep := assoc [] [(0, [0, 1]), (1, [1, 7, 8, 9]), (2, [1, 7, 8, 9, 10]), (3, [1, 6, 7, 8, 9]), (4, [1, 6, 7, 8, 9, 16]), (5, [4]), (6, [1, 7, 8, 9]), (7, [4])]
noncomputable def d95 : FnD := ⟨20, [.tmp 4], Tryd.f95.body.getD .skip, k95, false, []⟩
def k96 : Keep := assoc [] [(0, [0]), (1, [0, 16]), (2, [2]), (3, [0, 18, 19]), (4, [0, 18, 19, 20]), (5, [0, 3, 18, 19]), (6, [0, 18, 19, 38]), (7, [2]), (8, [0, 18, 19]), (9, [2])]
noncomputable def d96 : FnD := ⟨40, [.tmp 2], Tryd.f96.body.getD .skip, k96, false, []⟩
def k97 : Keep := assoc [] [(0, [0, 1]), (1, [0, 1, 33]), (2, [4]), (3, [0, 1, 5, 6]), (4, [4])]
noncomputable def d97 : FnD := ⟨54, [.tmp 4], Tryd.f97.body.getD .skip, k97, false, []⟩
def k98 : Keep := assoc [] [(0, [0, 1]), (1, [1, 4])]
noncomputable def d98 : FnD := ⟨9, [.tmp 4], Tryd.f98.body.getD .skip, k98, false, []⟩
def k99 : Keep := assoc [] [(0, [1, 2]), (1, [1, 3])]
noncomputable def d99 : FnD := ⟨7, [.tmp 3], Tryd.f99.body.getD .skip, k99, false, []⟩
def k100 : Keep := assoc [] [(0, [2, 3]), (1, [4])]
noncomputable def d100 : FnD := ⟨17, [.tmp 4], Tryd.f100.body.getD .skip, k100, false, []⟩
def k101 : Keep := assoc [] [(0, [0, 1]), (1, [0, 1, 7, 8]), (2, [0, 1, 7, 8, 9]), (3, [0, 1, 5, 7, 8]), (4, [0, 1, 5, 7, 8, 16]), (5, [1, 4]), (6, [0, 1, 7, 8]), (7, [1, 4])]
noncomputable def d101 : FnD := ⟨19, [.tmp 4], Tryd.f101.body.getD .skip, k101, false, []⟩
def k102 : Keep := assoc [] [(0, [0, 1]), (1, [4])]
noncomputable def d102 : FnD := ⟨17, [.tmp 4], Tryd.f102.body.getD .skip, k102, false, []⟩
def k103 : Keep := assoc [] [(0, [0]), (1, [2])]
noncomputable def d103 : FnD := ⟨6, [.tmp 2], Tryd.f103.body.getD .skip, k103, false, []⟩
def k106 : Keep := assoc [] [(0, [0, 1]), (1, [0, 1, 5]), (2, [0, 1, 5, 9]), (3, [0, 1, 5]), (4, [0, 1, 5, 18]), (5, [4]), (6, [4])]
noncomputable def d106 : FnD := ⟨19, [.tmp 4], Tryd.f106.body.getD .skip, k106, false, []⟩
def k107 : Keep := assoc [] [(0, [1, 2, 3, 4]), (1, [2, 4, 9]), (2, [2, 4, 9, 19]), (3, [8]), (4, [8])]
noncomputable def d107 : FnD := ⟨35, [.tmp 8], Tryd.f107.body.getD .skip, k107, false, []⟩
def k108 : Keep := assoc [] [(0, [1, 2, 3]), (1, [1, 2, 3, 12]), (2, [6]), (3, [2, 3, 7]), (4, [2, 3, 7, 8]), (5, [2, 3, 7, 8, 20]), (6, [2, 3, 7, 8]), (7, [2, 3, 7, 8]), (8, [6])]
noncomputable def d108 : FnD := ⟨44, [.tmp 6], Tryd.f108.body.getD .skip, k108, false, []⟩
def k109 : Keep := assoc [] [(0, [1, 2, 3, 4]), (1, [1, 2, 3, 4, 9]), (2, [1, 2, 3, 4, 9, 10]), (3, [1, 2, 3, 4, 9, 10, 16]), (4, [1, 2, 3, 4, 9, 11, 12]), (5, [1, 2, 3, 4, 9, 12]), (6, [1, 2, 3, 4, 9, 10]), (7, [8])]
noncomputable def d109 : FnD := ⟨32, [.tmp 8], Tryd.f109.body.getD .skip, k109, false, [(8, .own 3), (9, .own 3)]⟩
def k110 : Keep := assoc [] [(0, [0, 1, 2]), (1, [0, 1, 2, 8]), (2, [0, 1, 2, 8, 14]), (3, [6, 7]), (4, [0, 1, 2, 8, 9, 10]), (5, [0, 1, 2, 8, 9, 25]), (6, [6, 7]), (7, [0, 1, 2, 8, 9]), (8, [0, 1, 2, 8]), (9, [0, 1, 2, 8, 33]), (10, [6, 7])]
noncomputable def d110 : FnD := ⟨35, [.tmp 6, .tmp 7], Tryd.f110.body.getD .skip, k110, false, []⟩
def k111 : Keep := assoc [] [(0, [0]), (1, [2])]
noncomputable def d111 : FnD := ⟨9, [.tmp 2], Tryd.f111.body.getD .skip, k111, false, []⟩
def k112 : Keep := assoc [] [(0, [0, 1]), (1, [0, 1, 5]), (2, [0, 1, 5, 9]), (3, [0, 1, 5]), (4, [0, 1, 5, 18]), (5, [4]), (6, [4])]
noncomputable def d112 : FnD := ⟨20, [.tmp 4], Tryd.f112.body.getD .skip, k112, false, []⟩
def k113 : Keep := assoc [] [(0, [0, 1]), (1, [0, 1, 10]), (2, [4]), (3, [0, 1, 5]), (4, [0, 1, 5, 14]), (5, [0, 1, 5]), (6, [0, 1, 5, 25]), (7, [4]), (8, [4])]
noncomputable def d113 : FnD := ⟨26, [.tmp 4], Tryd.f113.body.getD .skip, k113, false, []⟩
def k114 : Keep := assoc [] [(0, [0]), (1, [2])]
noncomputable def d114 : FnD := ⟨9, [.tmp 2], Tryd.f114.body.getD .skip, k114, false, []⟩
def k115 : Keep := assoc [] [(0, [0, 1]), (1, [0, 1, 7, 8]), (2, [0, 1, 7, 8, 9]), (3, [0, 1, 5, 7, 8]), (4, [0, 1, 5, 7, 8, 16]), (5, [1, 4]), (6, [0, 1, 7, 8]), (7, [1, 4])]
noncomputable def d115 : FnD := ⟨19, [.tmp 4], Tryd.f115.body.getD .skip, k115, false, []⟩
def k116 : Keep := assoc [] [(0, [0]), (1, [2])]
noncomputable def d116 : FnD := ⟨6, [.tmp 2], Tryd.f116.body.getD .skip, k116, false, []⟩
def k118 : Keep := assoc [] [(0, [1, 2, 3, 4, 5]), (1, [1, 2, 3, 4, 5, 12]), (2, [1, 2, 3, 4, 5, 12, 22]), (3, [10, 11]), (4, [1, 2, 3, 4, 5, 12, 13]), (5, [1, 2, 3, 4, 5, 12, 13]), (6, [1, 2, 3, 4, 5, 12, 13, 14]), (7, [1, 2, 3, 4, 5, 12, 13, 14, 38]), (8, [1, 2, 3, 4, 5, 12, 13, 14]), (9, [1, 2, 4, 5, 12, 13, 14, 15, 16]), (10, [1, 2, 4, 5, 12, 13, 14, 16]), (11, [1, 2, 3, 4, 5, 12, 13, 14]), (12, [10, 11])]
noncomputable def d118 : FnD := ⟨63, [.tmp 10, .tmp 11], Tryd.f118.body.getD .skip, k118, false, [(13, .own 3)]⟩
def k119 : Keep := assoc [] [(0, [0, 1]), (1, [0, 1, 6]), (2, [4, 5]), (3, [0, 1, 12]), (4, [4, 5]), (5, [4, 5])]
noncomputable def d119 : FnD := ⟨30, [.tmp 4, .tmp 5], Tryd.f119.body.getD .skip, k119, false, []⟩
noncomputable def code : List (FuncId × FnD) := [(3, d3), (4, d4), (5, d5), (6, d6), (7, d7), (8, d8), (9, d9), (10, d10), (11, d11), (12, d12), (13, d13), (14, d14), (15, d15), (16, d16), (17, d17), (18, d18), (19, d19), (20, d20), (21, d21), (22, d22), (23, d23), (24, d24), (25, d25), (26, d26), (27, d27), (28, d28), (29, d29), (30, d30), (31, d31), (32, d32), (33, d33), (34, d34), (35, d35), (36, d36), (37, d37), (38, d38), (39, d39), (40, d40), (41, d41), (42, d42), (43, d43), (44, d44), (45, d45), (46, d46), (47, d47), (48, d48), (49, d49), (50, d50), (51, d51), (52, d52), (53, d53), (54, d54), (55, d55), (56, d56), (57, d57), (58, d58), (59, d59), (60, d60), (61, d61), (62, d62), (63, d63), (64, d64), (65, d65), (66, d66), (67, d67), (68, d68), (69, d69), (70, d70), (71, d71), (72, d72), (73, d73), (74, d74), (75, d75), (76, d76), (77, d77), (79, d79), (81, d81), (82, d82), (83, d83), (84, d84), (85, d85), (86, d86), (87, d87), (88, d88), (89, d89), (90, d90), (91, d91), (92, d92), (93, d93), (94, d94), (95, d95), (96, d96), (97, d97), (98, d98), (99, d99), (100, d100), (101, d101), (102, d102), (103, d103), (106, d106), (107, d107), (108, d108), (109, d109), (110, d110), (111, d111), (112, d112), (113, d113), (114, d114), (115, d115), (116, d116), (118, d118), (119, d119)]
theorem code_ok : CodeOk Tryd.prog code :=
  .cons Tryd.func3 ⟨rfl, rfl, rfl, by decide +kernel⟩ <|
  .cons Tryd.func4 ⟨rfl, rfl, rfl, by decide +kernel⟩ <|
  .cons Tryd.func5 ⟨rfl, rfl, rfl, by decide +kernel⟩ <|
  .cons Tryd.func6 ⟨rfl, rfl, rfl, by decide +kernel⟩ <|
  .cons Tryd.func7 ⟨rfl, rfl, rfl, by decide +kernel⟩ <|
  .cons Tryd.func8 ⟨rfl, rfl, rfl, by decide +kernel⟩ <|
  .cons Tryd.func9 ⟨rfl, rfl, rfl, by decide +kernel⟩ <|
  .cons Tryd.func10 ⟨rfl, rfl, rfl, by decide +kernel⟩ <|
  .cons Tryd.func11 ⟨rfl, rfl, rfl, by decide +kernel⟩ <|
  .cons Tryd.func12 ⟨rfl, rfl, rfl, by decide +kernel⟩ <|
  .cons Tryd.func13 ⟨rfl, rfl, rfl, by decide +kernel⟩ <|
  .cons Tryd.func14 ⟨rfl, rfl, rfl, by decide +kernel⟩ <|
  .cons Tryd.func15 ⟨rfl, rfl, rfl, by decide +kernel⟩ <|
  .cons Tryd.func16 ⟨rfl, rfl, rfl, by decide +kernel⟩ <|
  .cons Tryd.func17 ⟨rfl, rfl, rfl, by decide +kernel⟩ <|
  .cons Tryd.func18 ⟨rfl, rfl, rfl, by decide +kernel⟩ <|
  .cons Tryd.func19 ⟨rfl, rfl, rfl, by decide +kernel⟩ <|
  .cons Tryd.func20 ⟨rfl, rfl, rfl, by decide +kernel⟩ <|
  .cons Tryd.func21 ⟨rfl, rfl, rfl, by decide +kernel⟩ <|
  .cons Tryd.func22 ⟨rfl, rfl, rfl, by decide +kernel⟩ <|
  .cons Tryd.func23 ⟨rfl, rfl, rfl, by decide +kernel⟩ <|
  .cons Tryd.func24 ⟨rfl, rfl, rfl, by decide +kernel⟩ <|
  .cons Tryd.func25 ⟨rfl, rfl, rfl, by decide +kernel⟩ <|
  .cons Tryd.func26 ⟨rfl, rfl, rfl, by decide +kernel⟩ <|
  .cons Tryd.func27 ⟨rfl, rfl, rfl, by decide +kernel⟩ <|
  .cons Tryd.func28 ⟨rfl, rfl, rfl, by decide +kernel⟩ <|
  .cons Tryd.func29 ⟨rfl, rfl, rfl, by decide +kernel⟩ <|
  .cons Tryd.func30 ⟨rfl, rfl, rfl, by decide +kernel⟩ <|
  .cons Tryd.func31 ⟨rfl, rfl, rfl, by decide +kernel⟩ <|
  .cons Tryd.func32 ⟨rfl, rfl, rfl, by decide +kernel⟩ <|
  .cons Tryd.func33 ⟨rfl, rfl, rfl, by decide +kernel⟩ <|
  .cons Tryd.func34 ⟨rfl, rfl, rfl, by decide +kernel⟩ <|
  .cons Tryd.func35 ⟨rfl, rfl, rfl, by decide +kernel⟩ <|
  .cons Tryd.func36 ⟨rfl, rfl, rfl, by decide +kernel⟩ <|
  .cons Tryd.func37 ⟨rfl, rfl, rfl, by decide +kernel⟩ <|
  .cons Tryd.func38 ⟨rfl, rfl, rfl, by decide +kernel⟩ <|
  .cons Tryd.func39 ⟨rfl, rfl, rfl, by decide +kernel⟩ <|
  .cons Tryd.func40 ⟨rfl, rfl, rfl, by decide +kernel⟩ <|
  .cons Tryd.func41 ⟨rfl, rfl, rfl, by decide +kernel⟩ <|
  .cons Tryd.func42 ⟨rfl, rfl, rfl, by decide +kernel⟩ <|
  .cons Tryd.func43 ⟨rfl, rfl, rfl, by decide +kernel⟩ <|
  .cons Tryd.func44 ⟨rfl, rfl, rfl, by decide +kernel⟩ <|
  .cons Tryd.func45 ⟨rfl, rfl, rfl, by decide +kernel⟩ <|
  .cons Tryd.func46 ⟨rfl, rfl, rfl, by decide +kernel⟩ <|
  .cons Tryd.func47 ⟨rfl, rfl, rfl, by decide +kernel⟩ <|
  .cons Tryd.func48 ⟨rfl, rfl, rfl, by decide +kernel⟩ <|
  .cons Tryd.func49 ⟨rfl, rfl, rfl, by decide +kernel⟩ <|
  .cons Tryd.func50 ⟨rfl, rfl, rfl, by decide +kernel⟩ <|
  .cons Tryd.func51 ⟨rfl, rfl, rfl, by decide +kernel⟩ <|
  .cons Tryd.func52 ⟨rfl, rfl, rfl, by decide +kernel⟩ <|
  .cons Tryd.func53 ⟨rfl, rfl, rfl, by decide +kernel⟩ <|
  .cons Tryd.func54 ⟨rfl, rfl, rfl, by decide +kernel⟩ <|
  .cons Tryd.func55 ⟨rfl, rfl, rfl, by decide +kernel⟩ <|
  .cons Tryd.func56 ⟨rfl, rfl, rfl, by decide +kernel⟩ <|
  .cons Tryd.func57 ⟨rfl, rfl, rfl, by decide +kernel⟩ <|
  .cons Tryd.func58 ⟨rfl, rfl, rfl, by decide +kernel⟩ <|
  .cons Tryd.func59 ⟨rfl, rfl, rfl, by decide +kernel⟩ <|
  .cons Tryd.func60 ⟨rfl, rfl, rfl, by decide +kernel⟩ <|
  .cons Tryd.func61 ⟨rfl, rfl, rfl, by decide +kernel⟩ <|
  .cons Tryd.func62 ⟨rfl, rfl, rfl, by decide +kernel⟩ <|
  .cons Tryd.func63 ⟨rfl, rfl, rfl, by decide +kernel⟩ <|
  .cons Tryd.func64 ⟨rfl, rfl, rfl, by decide +kernel⟩ <|
  .cons Tryd.func65 ⟨rfl, rfl, rfl, by decide +kernel⟩ <|
  .cons Tryd.func66 ⟨rfl, rfl, rfl, by decide +kernel⟩ <|
  .cons Tryd.func67 ⟨rfl, rfl, rfl, by decide +kernel⟩ <|
  .cons Tryd.func68 ⟨rfl, rfl, rfl, by decide +kernel⟩ <|
  .cons Tryd.func69 ⟨rfl, rfl, rfl, by decide +kernel⟩ <|
  .cons Tryd.func70 ⟨rfl, rfl, rfl, by decide +kernel⟩ <|
  .cons Tryd.func71 ⟨rfl, rfl, rfl, by decide +kernel⟩ <|
  .cons Tryd.func72 ⟨rfl, rfl, rfl, by decide +kernel⟩ <|
  .cons Tryd.func73 ⟨rfl, rfl, rfl, by decide +kernel⟩ <|
  .cons Tryd.func74 ⟨rfl, rfl, rfl, by decide +kernel⟩ <|
  .cons Tryd.func75 ⟨rfl, rfl, rfl, by decide +kernel⟩ <|
  .cons Tryd.func76 ⟨rfl, rfl, rfl, by decide +kernel⟩ <|
  .cons Tryd.func77 ⟨rfl, rfl, rfl, by decide +kernel⟩ <|
  .cons Tryd.func79 ⟨rfl, rfl, rfl, by decide +kernel⟩ <|
  .cons Tryd.func81 ⟨rfl, rfl, rfl, by decide +kernel⟩ <|
  .cons Tryd.func82 ⟨rfl, rfl, rfl, by decide +kernel⟩ <|
  .cons Tryd.func83 ⟨rfl, rfl, rfl, by decide +kernel⟩ <|
  .cons Tryd.func84 ⟨rfl, rfl, rfl, by decide +kernel⟩ <|
  .cons Tryd.func85 ⟨rfl, rfl, rfl, by decide +kernel⟩ <|
  .cons Tryd.func86 ⟨rfl, rfl, rfl, by decide +kernel⟩ <|
  .cons Tryd.func87 ⟨rfl, rfl, rfl, by decide +kernel⟩ <|
  .cons Tryd.func88 ⟨rfl, rfl, rfl, by decide +kernel⟩ <|
  .cons Tryd.func89 ⟨rfl, rfl, rfl, by decide +kernel⟩ <|
  .cons Tryd.func90 ⟨rfl, rfl, rfl, by decide +kernel⟩ <|
  .cons Tryd.func91 ⟨rfl, rfl, rfl, by decide +kernel⟩ <|
  .cons Tryd.func92 ⟨rfl, rfl, rfl, by decide +kernel⟩ <|
  .cons Tryd.func93 ⟨rfl, rfl, rfl, by decide +kernel⟩ <|
  .cons Tryd.func94 ⟨rfl, rfl, rfl, by decide +kernel⟩ <|
  .cons Tryd.func95 ⟨rfl, rfl, rfl, by decide +kernel⟩ <|
  .cons Tryd.func96 ⟨rfl, rfl, rfl, by decide +kernel⟩ <|
  .cons Tryd.func97 ⟨rfl, rfl, rfl, by decide +kernel⟩ <|
  .cons Tryd.func98 ⟨rfl, rfl, rfl, by decide +kernel⟩ <|
  .cons Tryd.func99 ⟨rfl, rfl, rfl, by decide +kernel⟩ <|
  .cons Tryd.func100 ⟨rfl, rfl, rfl, by decide +kernel⟩ <|
  .cons Tryd.func101 ⟨rfl, rfl, rfl, by decide +kernel⟩ <|
  .cons Tryd.func102 ⟨rfl, rfl, rfl, by decide +kernel⟩ <|
  .cons Tryd.func103 ⟨rfl, rfl, rfl, by decide +kernel⟩ <|
  .cons Tryd.func106 ⟨rfl, rfl, rfl, by decide +kernel⟩ <|
  .cons Tryd.func107 ⟨rfl, rfl, rfl, by decide +kernel⟩ <|
  .cons Tryd.func108 ⟨rfl, rfl, rfl, by decide +kernel⟩ <|
  .cons Tryd.func109 ⟨rfl, rfl, rfl, by decide +kernel⟩ <|
  .cons Tryd.func110 ⟨rfl, rfl, rfl, by decide +kernel⟩ <|
  .cons Tryd.func111 ⟨rfl, rfl, rfl, by decide +kernel⟩ <|
  .cons Tryd.func112 ⟨rfl, rfl, rfl, by decide +kernel⟩ <|
  .cons Tryd.func113 ⟨rfl, rfl, rfl, by decide +kernel⟩ <|
  .cons Tryd.func114 ⟨rfl, rfl, rfl, by decide +kernel⟩ <|
  .cons Tryd.func115 ⟨rfl, rfl, rfl, by decide +kernel⟩ <|
  .cons Tryd.func116 ⟨rfl, rfl, rfl, by decide +kernel⟩ <|
  .cons Tryd.func118 ⟨rfl, rfl, rfl, by decide +kernel⟩ <|
  .cons Tryd.func119 ⟨rfl, rfl, rfl, by decide +kernel⟩ <|
  .nil _
def R : Rets := fun f => match f with
  | 9 => [(.agg [.own 68 2, .own 28 1, .own 68 2], [.d .any])]
  | 10 => [(.tup [.own 3 1, .d (.bool), .d (.int .i64)], [.d .any, .d .any, .d .any])]
  | 11 => [(.tup [.own 3 1, .d (.bool), .d (.int .i64)], [.d .any, .d .any, .d .any])]
  | 12 => [(.tup [.d (.bool), .d (.int .i64)], [.d .any, .d .any, .d .any])]
  | 13 => [(.d (.bool), [.d .any, .d .any])]
  | 14 => [(.d (.int .i64), [.d .any])]
  | 15 => [(.d (.bool), [.d .any, .d .any])]
  | 16 => [(.d (.bool), [])]
  | 17 => [(.tup [.d (.agg [.int .i64, .int .i64]), .d (.int .i64)], [.d .any, .d .any])]
  | 18 => [(.tup [.d (.bool), .d (.int .i64)], [.d .any, .d .any])]
  | 19 => [(.tup [.agg [.own 68 2, .own 28 1, .d (.nil 2)], .d (.bool)], [.d .any, .d .any, .d .any])]
  | 20 => [(.d (.bool), [.d .any, .d .any])]
  | 21 => [(.own 68 2, [.d .any])]
  | 22 => [(.tup [.agg [.own 68 2, .own 28 1, .own 68 2], .d (.int .i64)], [.d .any, .d .any]), (.tup [.d (.agg [.nil 2, .nil 1, .nil 2]), .d (.int .i64)], [.d .any, .d .any])]
  | 23 => [(.tup [.own 3 1, .d (.int .i64)], [.d .any, .d .any])]
  | 24 => [(.d (.bool), [.d .any])]
  | 25 => [(.d (.agg [.int .i64, .sl 1]), [.d .any, .d .any])]
  | 26 => [(.d (.bool), [.d .any, .d .any, .d .any])]
  | 27 => [(.own 28 1, [.d .any])]
  | 28 => [(.tup [.own 3 1, .d (.bool)], [.d .any, .d .any, .d .any])]
  | 29 => [(.d (.bool), [.d .any, .d .any])]
  | 30 => [(.tup [.own 3 1, .d (.bool)], [.d .any, .d .any, .d .any])]
  | 31 => [(.d (.bool), [.d .any, .d .any])]
  | 32 => [(.d (.bool), [.d .any, .d .any])]
  | 33 => [(.own 103 4, [])]
  | 34 => [(.d (.cpx .f64), [.d .any, .d .any])]
  | 35 => [(.d (.agg [.int .i64, .int .i64]), [.d .any]), (.agg [.d (.int .i64), .dead], [.d .any]), (.agg [.dead, .d (.int .i64)], [.d .any]), (.agg [.dead, .dead], [.d .any])]
  | 36 => [(.d (.bool), [.d .any])]
  | 37 => [(.d (.cpx .f64), [.d .any])]
  | 38 => [(.tup [.own 3 1, .d (.int .i64)], [.d .any, .d .any, .d .any])]
  | 39 => [(.d (.bool), [.d .any])]
  | 40 => [(.tup [.d (.int .i64), .d (.bool)], [.d .any, .d .any])]
  | 41 => [(.tup [.d (.int .i64), .d (.bool)], [.d .any, .d .any])]
  | 42 => [(.own 3 1, [.d .any])]
  | 43 => [(.agg [.own 68 2, .own 28 1, .own 68 2], [.d .any])]
  | 44 => [(.own 68 2, [.d .any])]
  | 45 => [(.own 3 1, [.dead, .d .any])]
  | 46 => [(.own 3 1, [.d .any])]
  | 47 => [(.own 3 1, [])]
  | 48 => [(.d (.bool), [.d .any, .d .any, .d .any, .d .any])]
  | 49 => [(.d (.bool), [.d .any, .own 3 1, .own 3 1])]
  | 50 => [(.d (.bool), [.d .any, .d .any, .d .any])]
  | 51 => [(.own 124 3, [.d .any, .d .any, .d .any])]
  | 52 => [(.d (.bool), [.d .any, .d .any, .d .any])]
  | 53 => [(.tup [.own 3 1, .d (.bool)], [.d .any, .d .any, .d .any])]
  | 54 => [(.d (.bool), [.d .any])]
  | 55 => [(.d (.bool), [.d .any, .d .any])]
  | 56 => [(.d (.int .i64), [.d .any, .d .any])]
  | 57 => [(.own 28 1, [.d .any])]
  | 58 => [(.own 128 2, [.d .any])]
  | 59 => [(.own 128 2, [.d .any])]
  | 60 => [(.tup [.own 3 1, .d (.bool)], [.d .any, .d .any, .d .any, .d .any, .d .any])]
  | 61 => [(.d (.int .i64), [.d .any, .d .any])]
  | 62 => [(.d (.bool), [.d .any])]
  | 63 => [(.d (.bool), [.d .any, .d .any])]
  | 64 => [(.d (.bool), [.d .any, .d .any])]
  | 65 => [(.own 3 1, [.d .any, .d .any])]
  | 66 => [(.d (.bool), [.d .any])]
  | 67 => [(.d (.int .i64), [.d .any, .d .any])]
  | 68 => [(.d (.bool), [.d .any, .d .any])]
  | 69 => [(.tup [.d (.int .i64), .d (.int .i64)], [.d .any, .d .any])]
  | 70 => [(.own 68 2, [.d .any])]
  | 71 => [(.d (.bool), [.d .any, .any])]
  | 72 => [(.d (.bool), [.d .any, .any])]
  | 73 => [(.d (.bool), [.d .any, .d .any])]
  | 74 => [(.agg [.own 68 2, .own 28 1, .own 68 2], [.d .any, .fn 75 [.dboxv 113 0, .dbox 3 0 [.int .i64]]])]
  | 75 => [(.own 3 1, [.d .any, .dboxv 113 0, .dbox 3 0 [.int .i64]])]
  | 76 => [(.own 3 1, [.d .any])]
  | 77 => [(.d (.int .i64), [.d .any])]
  | 78 => [(.own 68 2, [.d .any, .d .any])]
  | 79 => [(.tup [.d (.int .i64), .d (.bool)], [.d .any, .d .any])]
  | 81 => [(.own 3 1, [.d .any])]
  | 82 => [(.d (.bool), [.d .any, .d .any, .d .any, .d .any])]
  | 83 => [(.d (.bool), [.d .any, .d .any, .d .any, .d .any])]
  | 84 => [(.own 124 3, [.d .any, .dead, .d .any, .d .any]), (.own 124 3, [.d .any, .d .any, .d .any, .d .any])]
  | 85 => [(.tup [], [.ptr 124 0 [.d (.sl 1), .own 3 1, .own 28 1], .d .any, .d .any, .d .any])]
  | 86 => [(.d (.bool), [.dboxv 92 0, .d .any, .d .any, .d .any])]
  | 87 => [(.d (.bool), [.d .any])]
  | 88 => [(.d (.int .i64), [.d .any, .d .any])]
  | 89 => [(.d (.bool), [.d .any, .d .any])]
  | 90 => [(.d (.int .i64), [.d .any, .d .any, .d .any])]
  | 91 => [(.tup [.own 132 2, .d (.bool)], [.d .any, .d .any, .d .any, .d .any])]
  | 92 => [(.d (.bool), [.d .any, .d .any])]
  | 93 => [(.d (.bool), [.d .any, .d .any])]
  | 94 => [(.tup [.own 3 1, .d (.bool)], [.d .any, .d .any])]
  | 95 => [(.d (.sl 1), [.d .any, .d .any])]
  | 96 => [(.d (.bool), [.d .any])]
  | 97 => [(.d (.bool), [.d .any, .d .any])]
  | 98 => [(.d (.bool), [.d .any, .any])]
  | 99 => [(.d (.bool), [.d .any, .any])]
  | 100 => [(.d (.bool), [.d .any, .d .any])]
  | 101 => [(.d (.int .i64), [.d .any, .any])]
  | 102 => [(.d (.bool), [.d .any, .d .any])]
  | 103 => [(.d (.bool), [.d .any])]
  | 106 => [(.d (.bool), [.d .any, .d .any])]
  | 107 => [(.d (.bool), [.d .any, .d .any, .d .any, .d .any])]
  | 108 => [(.d (.int .i64), [.d .any, .d .any, .d .any])]
  | 109 => [(.own 3 1, [.d .any, .d .any, .d .any, .d .any])]
  | 110 => [(.tup [.d (.int .i64), .d (.bool)], [.d .any, .d .any, .d .any])]
  | 111 => [(.d (.bool), [.d .any])]
  | 112 => [(.d (.int .i64), [.d .any, .d .any])]
  | 113 => [(.d (.bool), [.d .any, .d .any])]
  | 114 => [(.d (.bool), [.d .any])]
  | 115 => [(.d (.int .i64), [.d .any, .any])]
  | 116 => [(.d (.bool), [.d .any])]
  | 118 => [(.tup [.d (.int .i64), .d (.int .i64)], [.d .any, .d .any, .d .any, .d .any, .d .any])]
  | 119 => [(.tup [.d (.int .i64), .d (.bool)], [.d .any, .d .any])]
  | _ => [(.any, [])]
noncomputable def F : Fx := ⟨T, [(0, [.str "=".toUTF8, .int .i64 0, .int .i64 2, .int .i64 1])], codeOf code, fun f => match f with | 78 => some (growP 68 2) | _ => none⟩
def L9 : Lps := fun b => match b with
  | _ => [.norm []]
def L10 : Lps := fun b => match b with
  | _ => [.norm []]
def L11 : Lps := fun b => match b with
  | _ => [.norm []]
def L12 : Lps := fun b => match b with
  | _ => [.norm []]
def L13 : Lps := fun b => match b with
  | 0 => [.ret [(4, .d (.bool))], .norm [(0, .d (.sl 1)), (1, .d (.sl 1)), (5, .d (.int .i64))]]
  | _ => [.norm []]
def L14 : Lps := fun b => match b with
  | _ => [.norm []]
def L15 : Lps := fun b => match b with
  | _ => [.norm []]
def L17 : Lps := fun b => match b with
  | 0 => [.norm [(0, .d (.sl 4)), (4, .dbox 43 0 [.int .i64, .int .i64]), (6, .d (.cpx .f64)), (16, .d (.sl 2)), (17, .d (.int .i64)), (18, .d (.int .i64))]]
  | _ => [.norm []]
def L18 : Lps := fun b => match b with
  | _ => [.norm []]
def L19 : Lps := fun b => match b with
  | 0 => [.ret [(6, .ptr 26 0 [.own 68 2, .own 28 1, .d (.nil 2)]), (7, .d (.bool))], .norm [(0, .d (.sl 4)), (1, .d (.sl 2)), (5, .dbox 26 0 [.sl 2, .sl 1, .sl 2]), (6, .ptr 26 0 [.own 68 2, .own 28 1, .d (.nil 2)]), (8, .ptr 26 0 [.own 68 2, .own 28 1, .d (.nil 2)]), (9, .d (.int .i64))]]
  | 2 => [.ret [(6, .ptr 26 0 [.own 68 2, .own 28 1, .d (.nil 2)]), (7, .d (.bool))], .norm [(0, .d (.sl 4)), (1, .d (.sl 2)), (5, .dbox 26 0 [.sl 2, .sl 1, .sl 2]), (6, .ptr 26 0 [.own 68 2, .own 28 1, .d (.nil 2)]), (8, .ptr 26 0 [.own 68 2, .own 28 1, .d (.nil 2)]), (13, .d (.int .i64))]]
  | _ => [.norm []]
def L20 : Lps := fun b => match b with
  | _ => [.norm []]
def L21 : Lps := fun b => match b with
  | 0 => [.norm [(0, .d (.sl 2)), (3, .own 68 2), (4, .d (.int .i64))]]
  | _ => [.norm []]
def L22 : Lps := fun b => match b with
  | _ => [.norm []]
def L23 : Lps := fun b => match b with
  | 0 => [.norm [(3, .dbox 26 0 [.sl 2, .sl 1, .sl 2]), (6, .own 3 1), (20, .own 68 2), (21, .d (.int .i64)), (22, .d (.int .i64))]]
  | 2 => [.norm [(6, .own 3 1), (32, .d (.sl 1)), (33, .d (.int .i64)), (34, .d (.int .i64))]]
  | _ => [.norm []]
def L24 : Lps := fun b => match b with
  | _ => [.norm []]
def L25 : Lps := fun b => match b with
  | _ => [.norm []]
def L26 : Lps := fun b => match b with
  | 0 => [.ret [(6, .d (.bool))]]
  | _ => [.norm []]
def L27 : Lps := fun b => match b with
  | 0 => [.norm [(0, .d (.sl 1)), (3, .own 28 1), (4, .d (.int .i64))]]
  | _ => [.norm []]
def L28 : Lps := fun b => match b with
  | _ => [.norm []]
def L29 : Lps := fun b => match b with
  | 0 => [.ret [(4, .d (.bool))], .norm [(0, .d (.sl 4)), (3, .dbox 26 0 [.sl 2, .sl 1, .sl 2]), (5, .d (.int .i64))]]
  | 2 => [.ret [(4, .d (.bool))], .norm [(0, .d (.sl 4)), (3, .dbox 26 0 [.sl 2, .sl 1, .sl 2]), (6, .d (.int .i64))]]
  | 4 => [.ret [(4, .d (.bool))], .norm [(0, .d (.sl 4)), (3, .dbox 26 0 [.sl 2, .sl 1, .sl 2]), (7, .d (.int .i64))]]
  | 6 => [.norm [(9, .own 28 1), (10, .d (.int .i64)), (11, .d (.int .i64))]]
  | _ => [.norm []]
def L30 : Lps := fun b => match b with
  | 0 => [.norm [(0, .d (.sl 4)), (4, .dbox 26 0 [.sl 2, .sl 1, .sl 2]), (5, .dbox 26 0 [.sl 2, .sl 1, .sl 2]), (8, .own 128 2), (9, .own 97 1), (10, .d (.int .i64))]]
  | _ => [.norm []]
def L31 : Lps := fun b => match b with
  | 0 => [.ret [(4, .d (.bool))], .norm [(0, .d (.sl 2)), (1, .d (.sl 2)), (5, .d (.int .i64))]]
  | _ => [.norm []]
def L32 : Lps := fun b => match b with
  | 0 => [.ret [(4, .d (.bool))], .norm [(0, .d (.sl 1)), (1, .d (.sl 1)), (5, .d (.int .i64))]]
  | _ => [.norm []]
def L33 : Lps := fun b => match b with
  | _ => [.norm []]
def L34 : Lps := fun b => match b with
  | _ => [.norm []]
def L35 : Lps := fun b => match b with
  | _ => [.norm []]
def L36 : Lps := fun b => match b with
  | _ => [.norm []]
def L37 : Lps := fun b => match b with
  | _ => [.norm []]
def L38 : Lps := fun b => match b with
  | _ => [.norm []]
def L39 : Lps := fun b => match b with
  | 0 => [.ret [(2, .d (.bool))], .norm [(0, .d (.sl 4)), (3, .d (.int .i64))]]
  | _ => [.norm []]
def L40 : Lps := fun b => match b with
  | 0 => [.ret [(4, .d (.int .i64)), (5, .d (.bool))], .norm [(0, .d (.sl 4)), (6, .d (.int .i64)), (9, .d (.sl 2)), (10, .d (.int .i64)), (11, .d (.int .i64))]]
  | _ => [.norm []]
def L41 : Lps := fun b => match b with
  | 0 => [.ret [(4, .d (.int .i64)), (5, .d (.bool))], .norm [(0, .d (.sl 4)), (6, .d (.int .i64)), (7, .d (.int .i64)), (12, .d (.sl 1)), (13, .d (.int .i64)), (14, .d (.int .i64))]]
  | _ => [.norm []]
def L42 : Lps := fun b => match b with
  | _ => [.norm []]
def L43 : Lps := fun b => match b with
  | 0 => [.norm [(2, .dbox 26 0 [.nil 2, .nil 1, .nil 2]), (3, .ptr 26 0 [.own 68 2, .own 28 1, .own 68 2]), (16, .d (.sl 1)), (17, .d (.int .i64)), (18, .d (.int .i64))]]
  | _ => [.norm []]
def L44 : Lps := fun b => match b with
  | 0 => [.norm [(0, .d (.sl 1)), (3, .d (.int .i64)), (9, .d (.sl 1)), (10, .d (.int .i64)), (11, .d (.int .i64))]]
  | 2 => [.norm [(6, .own 68 2), (25, .d (.sl 1)), (26, .d (.int .i64)), (27, .d (.int .i64))]]
  | _ => [.norm []]
def L45 : Lps := fun b => match b with
  | 0 => [.norm [(0, .own 3 1), (9, .d (.sl 1)), (10, .d (.int .i64)), (11, .d (.int .i64))]]
  | _ => [.norm []]
def L46 : Lps := fun b => match b with
  | 0 => [.norm [(3, .own 3 1), (4, .own 28 1), (5, .d (.int .i64))]]
  | _ => [.norm []]
def L47 : Lps := fun b => match b with
  | _ => [.norm []]
def L48 : Lps := fun b => match b with
  | 0 => [.ret [(8, .d (.bool))], .norm [(1, .d (.sl 4)), (3, .d (.sl 1)), (4, .dbox 59 0 [.int .i64, .sl 1]), (6, .dbox 26 0 [.sl 2, .sl 1, .sl 2]), (9, .d (.int .i64))]]
  | 2 => [.ret [(8, .d (.bool))], .norm [(1, .d (.sl 4)), (3, .d (.sl 1)), (4, .dbox 59 0 [.int .i64, .sl 1]), (6, .dbox 26 0 [.sl 2, .sl 1, .sl 2]), (10, .d (.int .i64))]]
  | 4 => [.ret [(8, .d (.bool))], .norm [(1, .d (.sl 4)), (3, .d (.sl 1)), (4, .dbox 59 0 [.int .i64, .sl 1]), (6, .dbox 26 0 [.sl 2, .sl 1, .sl 2]), (11, .d (.int .i64))]]
  | _ => [.norm []]
def L49 : Lps := fun b => match b with
  | 0 => [.ret [(1, .own 3 1), (2, .own 3 1), (6, .d (.bool))], .norm [(1, .own 3 1), (2, .own 3 1), (3, .dbox 59 0 [.int .i64, .sl 1]), (7, .d (.int .i64))]]
  | _ => [.norm []]
def L50 : Lps := fun b => match b with
  | _ => [.norm []]
def L51 : Lps := fun b => match b with
  | 0 => [.norm [(0, .d (.sl 4)), (4, .dbox 26 0 [.sl 2, .sl 1, .sl 2]), (5, .dbox 26 0 [.sl 2, .sl 1, .sl 2]), (7, .own 124 3), (20, .d (.sl 1)), (21, .d (.int .i64)), (22, .d (.int .i64))]]
  | 2 => [.norm [(0, .d (.sl 4)), (4, .dbox 26 0 [.sl 2, .sl 1, .sl 2]), (5, .dbox 26 0 [.sl 2, .sl 1, .sl 2]), (7, .own 124 3), (10, .ptr 124 0 [.d (.sl 1), .own 3 1, .own 28 1]), (20, .d (.sl 1)), (21, .d (.int .i64)), (22, .d (.int .i64)), (29, .d (.sl 1)), (30, .d (.int .i64)), (31, .d (.int .i64))]]
  | _ => [.norm []]
def L52 : Lps := fun b => match b with
  | 0 => [.ret [(6, .d (.bool))], .norm [(0, .d (.sl 4)), (1, .d (.sl 3)), (5, .dboxv 92 0), (13, .d (.int .i64)), (14, .d (.int .i64))]]
  | 2 => [.norm [(0, .d (.sl 4)), (1, .d (.sl 3)), (5, .dboxv 92 0), (7, .d (.int .i64)), (8, .d (.bool)), (13, .d (.int .i64)), (14, .d (.int .i64)), (21, .d (.sl 1)), (22, .d (.int .i64)), (23, .d (.int .i64))]]
  | _ => [.norm []]
def L53 : Lps := fun b => match b with
  | 0 => [.ret [(6, .own 3 1), (7, .d (.bool))], .norm [(0, .d (.sl 4)), (1, .d (.sl 3)), (5, .dboxv 92 0), (19, .d (.sl 1)), (20, .d (.int .i64)), (21, .d (.int .i64))]]
  | _ => [.norm []]
def L54 : Lps := fun b => match b with
  | 0 => [.ret [(2, .d (.bool))], .norm [(0, .d (.sl 4)), (3, .d (.int .i64))]]
  | _ => [.norm []]
def L55 : Lps := fun b => match b with
  | _ => [.norm []]
def L56 : Lps := fun b => match b with
  | 0 => [.ret [(4, .d (.int .i64))], .norm [(0, .d (.sl 4)), (1, .d (.sl 1)), (5, .d (.int .i64)), (6, .d (.int .i64))]]
  | _ => [.norm []]
def L57 : Lps := fun b => match b with
  | 0 => [.norm [(1, .dbox 26 0 [.sl 2, .sl 1, .sl 2]), (3, .own 28 1), (4, .d (.int .i64))]]
  | 2 => [.norm [(1, .dbox 26 0 [.sl 2, .sl 1, .sl 2]), (3, .own 28 1), (5, .d (.int .i64))]]
  | 4 => [.norm [(1, .dbox 26 0 [.sl 2, .sl 1, .sl 2]), (3, .own 28 1), (6, .d (.int .i64))]]
  | _ => [.norm []]
def L58 : Lps := fun b => match b with
  | 0 => [.norm [(0, .d (.sl 2)), (3, .own 128 2), (4, .d (.int .i64))]]
  | _ => [.norm []]
def L59 : Lps := fun b => match b with
  | 0 => [.norm [(0, .d (.sl 1)), (3, .own 128 2), (4, .d (.int .i64))]]
  | _ => [.norm []]
def L60 : Lps := fun b => match b with
  | 0 => [.ret [(10, .own 3 1), (11, .d (.bool))], .norm [(0, .d (.sl 4)), (1, .d (.sl 2)), (2, .d (.sl 1)), (3, .d (.int .i64)), (4, .d (.sl 2)), (12, .d (.int .i64))]]
  | _ => [.norm []]
def L61 : Lps := fun b => match b with
  | 0 => [.norm [(0, .d (.sl 4)), (5, .d (.int .i64)), (8, .d (.sl 1)), (9, .d (.int .i64)), (10, .d (.int .i64))]]
  | _ => [.norm []]
def L62 : Lps := fun b => match b with
  | _ => [.norm []]
def L63 : Lps := fun b => match b with
  | 0 => [.ret [(4, .d (.bool))], .norm [(0, .d (.sl 4)), (1, .d (.sl 2)), (10, .d (.sl 2)), (11, .d (.int .i64)), (12, .d (.int .i64))]]
  | _ => [.norm []]
def L64 : Lps := fun b => match b with
  | _ => [.norm []]
def L65 : Lps := fun b => match b with
  | 0 => [.norm [(0, .d (.sl 2)), (5, .own 3 1), (9, .d (.sl 1)), (10, .d (.int .i64)), (11, .d (.int .i64))]]
  | _ => [.norm []]
def L66 : Lps := fun b => match b with
  | _ => [.norm []]
def L67 : Lps := fun b => match b with
  | 0 => [.ret [(4, .d (.int .i64))], .norm [(0, .d (.sl 4)), (1, .d (.str)), (7, .d (.int .i64)), (8, .d (.int .i64))]]
  | _ => [.norm []]
def L68 : Lps := fun b => match b with
  | _ => [.norm []]
def L69 : Lps := fun b => match b with
  | _ => [.norm []]
def L70 : Lps := fun b => match b with
  | 0 => [.norm [(3, .own 68 2), (6, .d (.sl 2)), (7, .d (.int .i64)), (8, .d (.int .i64))]]
  | _ => [.norm []]
def L71 : Lps := fun b => match b with
  | _ => [.norm []]
def L72 : Lps := fun b => match b with
  | _ => [.norm []]
def L73 : Lps := fun b => match b with
  | 0 => [.ret [(4, .d (.bool))], .norm [(0, .d (.sl 1)), (1, .d (.sl 1)), (12, .d (.int .i64)), (13, .d (.int .i64))]]
  | _ => [.norm []]
def L74 : Lps := fun b => match b with
  | 0 => [.norm [(1, .fn 75 [.dboxv 113 0, .dbox 3 0 [.int .i64]]), (2, .dbox 26 0 [.sl 2, .sl 1, .sl 2]), (4, .dbox 26 0 [.nil 2, .nil 1, .nil 2]), (5, .ptr 26 0 [.own 68 2, .own 28 1, .own 68 2]), (13, .d (.sl 2)), (14, .d (.int .i64)), (15, .d (.int .i64))]]
  | 2 => [.norm [(1, .fn 75 [.dboxv 113 0, .dbox 3 0 [.int .i64]]), (2, .dbox 26 0 [.sl 2, .sl 1, .sl 2]), (4, .dbox 26 0 [.nil 2, .nil 1, .nil 2]), (5, .ptr 26 0 [.own 68 2, .own 28 1, .own 68 2]), (33, .d (.sl 1)), (34, .d (.int .i64)), (35, .d (.int .i64))]]
  | 4 => [.norm [(1, .fn 75 [.dboxv 113 0, .dbox 3 0 [.int .i64]]), (4, .dbox 26 0 [.nil 2, .nil 1, .nil 2]), (5, .ptr 26 0 [.own 68 2, .own 28 1, .own 68 2]), (49, .d (.sl 2)), (50, .d (.int .i64)), (51, .d (.int .i64))]]
  | _ => [.norm []]
def L75 : Lps := fun b => match b with
  | 0 => [.norm [(1, .dboxv 113 0), (2, .dbox 3 0 [.int .i64]), (5, .own 3 1), (11, .d (.int .i64)), (12, .d (.int .i64)), (2010045, .dead)]]
  | _ => [.norm []]
def L76 : Lps := fun b => match b with
  | _ => [.norm []]
def L77 : Lps := fun b => match b with
  | _ => [.norm []]
def L79 : Lps := fun b => match b with
  | 0 => [.norm [(0, .d (.sl 1)), (1, .d (.int .i64)), (6, .d (.int .i64)), (7, .d (.int .i64)), (8, .d (.int .i64))]]
  | _ => [.norm []]
def L81 : Lps := fun b => match b with
  | 0 => [.norm [(0, .d (.sl 1)), (3, .own 3 1), (4, .d (.int .i64))]]
  | _ => [.norm []]
def L82 : Lps := fun b => match b with
  | _ => [.norm []]
def L83 : Lps := fun b => match b with
  | _ => [.norm []]
def L84 : Lps := fun b => match b with
  | 0 => [.norm [(0, .d (.sl 4)), (1, .own 124 3), (3, .d (.sl 2)), (14, .d (.sl 2)), (15, .d (.int .i64)), (16, .d (.int .i64))]]
  | 2 => [.norm [(0, .d (.sl 4)), (1, .own 124 3), (3, .d (.sl 2)), (10, .dbox 68 0 [.bool, .sl 1]), (11, .ptr 124 0 [.d (.sl 1), .own 3 1, .own 28 1]), (14, .d (.sl 2)), (15, .d (.int .i64)), (16, .d (.int .i64)), (23, .d (.sl 2)), (24, .d (.int .i64)), (25, .d (.int .i64))]]
  | _ => [.norm []]
def L85 : Lps := fun b => match b with
  | _ => [.norm []]
def L86 : Lps := fun b => match b with
  | 0 => [.ret [(0, .dboxv 92 0), (8, .d (.bool))], .norm [(0, .dboxv 92 0), (1, .d (.sl 4)), (3, .d (.sl 1)), (9, .d (.int .i64)), (16, .d (.sl 1)), (17, .d (.int .i64)), (18, .d (.int .i64))]]
  | _ => [.norm []]
def L87 : Lps := fun b => match b with
  | 0 => [.ret [(2, .d (.bool))], .norm [(1, .dbox 103 0 [.str, .int .i64, .int .i64, .int .i64]), (3, .d (.int .i64))]]
  | _ => [.norm []]
def L88 : Lps := fun b => match b with
  | 0 => [.ret [(4, .d (.int .i64))], .norm [(0, .d (.sl 4)), (1, .d (.str)), (5, .d (.int .i64))]]
  | _ => [.norm []]
def L89 : Lps := fun b => match b with
  | _ => [.norm []]
def L90 : Lps := fun b => match b with
  | 0 => [.ret [(6, .d (.int .i64))], .norm [(0, .d (.sl 4)), (1, .d (.sl 1)), (7, .d (.int .i64)), (8, .d (.int .i64))]]
  | _ => [.norm []]
def L91 : Lps := fun b => match b with
  | 0 => [.ret [(8, .own 132 2), (9, .d (.bool))], .norm [(0, .d (.sl 4)), (2, .d (.sl 1)), (3, .d (.sl 1)), (10, .own 132 2), (11, .d (.int .i64)), (12, .d (.int .i64))]]
  | _ => [.norm []]
def L92 : Lps := fun b => match b with
  | _ => [.norm []]
def L93 : Lps := fun b => match b with
  | _ => [.norm []]
def L94 : Lps := fun b => match b with
  | 1000000 => [.ret [(4, .own 3 1), (5, .d (.bool))]]
  | _ => [.norm []]
def L95 : Lps := fun b => match b with
  | 0 => [.ret [(4, .d (.sl 1))], .norm [(1, .d (.int .i64)), (7, .d (.sl 2)), (8, .d (.int .i64)), (9, .d (.int .i64))]]
  | _ => [.norm []]
def L96 : Lps := fun b => match b with
  | 0 => [.ret [(2, .d (.bool))], .norm [(0, .d (.str)), (18, .d (.int .i64)), (19, .d (.int .i64))]]
  | _ => [.norm []]
def L97 : Lps := fun b => match b with
  | _ => [.norm []]
def L98 : Lps := fun b => match b with
  | _ => [.norm []]
def L99 : Lps := fun b => match b with
  | _ => [.norm []]
def L100 : Lps := fun b => match b with
  | _ => [.norm []]
def L101 : Lps := fun b => match b with
  | 0 => [.ret [(1, .fn 72 [.dptr [.sl 1]]), (4, .d (.int .i64))], .norm [(0, .d (.sl 1)), (1, .fn 72 [.dptr [.sl 1]]), (7, .d (.int .i64)), (8, .d (.int .i64))]]
  | _ => [.norm []]
def L102 : Lps := fun b => match b with
  | _ => [.norm []]
def L103 : Lps := fun b => match b with
  | _ => [.norm []]
def L106 : Lps := fun b => match b with
  | 0 => [.ret [(4, .d (.bool))], .norm [(0, .d (.sl 1)), (1, .d (.int .i64)), (5, .d (.int .i64))]]
  | _ => [.norm []]
def L107 : Lps := fun b => match b with
  | _ => [.norm []]
def L108 : Lps := fun b => match b with
  | 0 => [.norm [(2, .d (.sl 1)), (3, .dbox 59 0 [.int .i64, .sl 1]), (7, .d (.int .u64)), (8, .d (.int .i64))]]
  | _ => [.norm []]
def L109 : Lps := fun b => match b with
  | 0 => [.norm [(1, .d (.sl 4)), (2, .d (.sl 1)), (3, .d (.sl 1)), (4, .dbox 59 0 [.int .i64, .sl 1]), (9, .own 3 1), (10, .d (.int .i64))]]
  | _ => [.norm []]
def L110 : Lps := fun b => match b with
  | 1000000 => [.ret [(6, .d (.int .i64)), (7, .d (.bool))]]
  | _ => [.norm []]
def L111 : Lps := fun b => match b with
  | _ => [.norm []]
def L112 : Lps := fun b => match b with
  | 0 => [.ret [(4, .d (.int .i64))], .norm [(0, .d (.sl 2)), (1, .d (.int .i64)), (5, .d (.int .i64))]]
  | _ => [.norm []]
def L113 : Lps := fun b => match b with
  | 0 => [.ret [(4, .d (.bool))], .norm [(0, .d (.sl 1)), (1, .d (.sl 1)), (5, .d (.int .i64))]]
  | _ => [.norm []]
def L114 : Lps := fun b => match b with
  | _ => [.norm []]
def L115 : Lps := fun b => match b with
  | 0 => [.ret [(1, .fn 99 [.dptr [.bool, .sl 1]]), (4, .d (.int .i64))], .norm [(0, .d (.sl 2)), (1, .fn 99 [.dptr [.bool, .sl 1]]), (7, .d (.int .i64)), (8, .d (.int .i64))]]
  | _ => [.norm []]
def L116 : Lps := fun b => match b with
  | _ => [.norm []]
def L118 : Lps := fun b => match b with
  | 0 => [.norm [(1, .d (.sl 4)), (2, .d (.sl 1)), (3, .d (.int .i64)), (4, .d (.sl 1)), (5, .dbox 59 0 [.int .i64, .sl 1]), (12, .d (.int .i64)), (13, .own 3 1), (14, .d (.int .i64))]]
  | _ => [.norm []]
def L119 : Lps := fun b => match b with
  | _ => [.norm []]
end Go.Proofs.YtekdlnofmbfdgaaDoor.Ab
