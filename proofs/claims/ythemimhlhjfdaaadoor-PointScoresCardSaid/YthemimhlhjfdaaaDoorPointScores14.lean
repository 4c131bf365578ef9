/- What the rows of this seat share: the variable that is laid, the world in which it is so. No condition. -/
import Derived.Below
import Derived.ChangeOld
import Derived.LaidMore
import Derived.Lib.SmallJoins
import Derived.OpenShut
import Derived.ProofKit
import Derived.SevenTiedAt
import Derived.ShutString
import Derived.SizedLaws
import Derived.Stop.Joined
import Derived.Test.YthemimhlhjfdaaaDoorCards
import Derived.Test.YthemimhlhjfdaaaDoorRows
import Derived.Test.YthemimhlhjfdaaaDoorTie
import Derived.WalkKit
import Derived.Test.YthemimhlhjfdaaaDoorPointScores0
import Derived.Test.YthemimhlhjfdaaaDoorPointScores1
import Derived.Test.YthemimhlhjfdaaaDoorPointScores2
import Derived.Test.YthemimhlhjfdaaaDoorPointScores3
import Derived.Test.YthemimhlhjfdaaaDoorPointScores4
import Derived.Test.YthemimhlhjfdaaaDoorPointScores5
import Derived.Test.YthemimhlhjfdaaaDoorPointScores6
import Derived.Test.YthemimhlhjfdaaaDoorPointScores7
import Derived.Test.YthemimhlhjfdaaaDoorPointScores8
import Derived.Test.YthemimhlhjfdaaaDoorPointScores9
import Derived.Test.YthemimhlhjfdaaaDoorPointScores10
import Derived.Test.YthemimhlhjfdaaaDoorPointScores11
import Derived.Test.YthemimhlhjfdaaaDoorPointScores12
import Derived.Test.YthemimhlhjfdaaaDoorPointScores13
namespace Go.Proofs.YthemimhlhjfdaaaDoor.Ab
open Go Go.Ab Go.Qu Go.Proofs Go.ChangeShapes Go.WideShapes Go.ChangeAt Go.RowKit Go.Joins
set_option linter.unusedVariables false
set_option maxRecDepth 100000
theorem own : ownKnob Tryd.prog.godebug = none := by kernel_rfl
theorem laidOut : laidOutB Tryd.prog = true := by kernel_rfl
abbrev laid1 : List (String × DataW Unit) := [("quaere/sign.equals", Rows.laid_quaere_sign_equals)]
theorem gEq : Tryd.prog.globalNamed "quaere/sign.equals" = some 0 := by kernel_rfl
theorem tEq : (Tryd.prog.globals[0]?).map (·.type) = some 77 := by kernel_rfl
theorem door_met (os : Os) (args : Array Value) : laidMetH Tryd.prog laid1 ((World.doorLaid Tryd.prog 400 os).forCall (fun _ _ => 0) ⟨#[], args, []⟩).memory :=
  laidMetH_of_parts3 (fuel := 8) (laidMet_of_run' 8 (by kernel_rfl) (by kernel_rfl)) (by kernel_rfl) (by kernel_rfl)
theorem globs {W : World} (h : laidMetH Tryd.prog laid1 W) : GlobOk (Hw W) F.G := by
  rw [MakeChecks.laidMetH_plain _ _ _ (by kernel_rfl)] at h
  obtain ⟨ps, ⟨g0, t0, cs0, f0, p0, q0, hg0, ht0, hv0, hd0, _, _⟩, _, _⟩ := h
  obtain rfl := Option.some.inj (gEq.symm.trans hg0)
  obtain rfl := Option.some.inj (tEq.symm.trans ht0)
  obtain ⟨xs, n, _, hx, hlen, hxl, hf⟩ := DataW.trod_struct Tryd.underlying77 hd0
  have c1 : Tryd.prog.cellsOf 77 = 4 := by kernel_rfl
  have cs : Tryd.prog.cellsOf 9 = 1 := by kernel_rfl
  have ci : Tryd.prog.cellsOf 3 = 1 := by kernel_rfl
  rw [c1] at hlen
  have hx1 : xs.map (·.1) = [.lit (.string [61]), .lit (.int .i64 0), .lit (.int .i64 2), .lit (.int .i64 1)] := by
    simp only [Prod.mk.injEq] at hx
    have h9 := hx.1
    unfold Rows.laid_quaere_sign_equals at h9
    simp only [DataW.agg.injEq] at h9
    exact h9.symm
  have hcs : ∃ a b c d, cs0.toList = [a, b, c, d] := by
    match h : cs0.toList, hlen with
    | [a, b, c, d], _ => exact ⟨a, b, c, d, rfl⟩
  obtain ⟨a, b, c, d, hcs⟩ := hcs
  have hxs : ∃ x0 x1 x2 x3, xs = [x0, x1, x2, x3] := by
    match xs, hxl with
    | [x0, x1, x2, x3], _ => exact ⟨x0, x1, x2, x3, rfl⟩
  obtain ⟨x0, x1, x2, x3, rfl⟩ := hxs
  simp only [List.map_cons, List.map_nil, List.cons.injEq, and_true] at hx1
  obtain ⟨e0, e1, e2, e3⟩ := hx1
  have h0 : DataW.trod (fun _ => ()) Tryd.prog W 0 (fun _ => true) false n 9 ((cs0.toList.drop 0).take (Tryd.prog.cellsOf 9)) = some x0 := hf 0 _ rfl
  have h1 : DataW.trod (fun _ => ()) Tryd.prog W 0 (fun _ => true) false n 3 ((cs0.toList.drop 1).take (Tryd.prog.cellsOf 3)) = some x1 := hf 1 _ rfl
  have h2 : DataW.trod (fun _ => ()) Tryd.prog W 0 (fun _ => true) false n 3 ((cs0.toList.drop 2).take (Tryd.prog.cellsOf 3)) = some x2 := hf 2 _ rfl
  have h3 : DataW.trod (fun _ => ()) Tryd.prog W 0 (fun _ => true) false n 3 ((cs0.toList.drop 3).take (Tryd.prog.cellsOf 3)) = some x3 := hf 3 _ rfl
  rw [hcs, cs] at h0
  rw [hcs, ci] at h1 h2 h3
  obtain ⟨s, ha, hs, _⟩ := DataW.trod_string Tryd.underlying9 h0
  obtain ⟨n1, hb, hn1, _⟩ := DataW.trod_int Tryd.underlying3 h1
  obtain ⟨n2, hc, hn2, _⟩ := DataW.trod_int Tryd.underlying3 h2
  obtain ⟨n3, hd, hn3, _⟩ := DataW.trod_int Tryd.underlying3 h3
  simp at ha hb hc hd
  rw [hs] at e0; rw [hn1] at e1; rw [hn2] at e2; rw [hn3] at e3
  simp at e0 e1 e2 e3
  subst ha hb hc hd e1 e2 e3
  have hse : s = "=".toUTF8 := by
    have h5 : "=".toUTF8.data.toList = [61] := by decide +kernel
    have h6 : s.data = "=".toUTF8.data := Array.toList_inj.1 (e0.trans h5.symm)
    exact (show ∀ (x y : ByteArray), x.data = y.data → x = y by intro ⟨_⟩ ⟨_⟩ h; exact congrArg _ h) _ _ h6
  subst hse
  have hcell : ∀ (j : Nat) u, [Value.string "=".toUTF8, .int .i64 0, .int .i64 2, .int .i64 1][j]? = some u → W.cell? ⟨0, j, none⟩ = some u := fun j u hj => by
    have h7 := World.var?_cell hg0 hv0 j
    have h8 : cs0[j]? = some u := by rw [← Array.getElem?_toList, hcs]; exact hj
    rw [h8] at h7
    simpa using h7
  intro g cs hg
  simp only [F, List.map_cons, List.map_nil, assoc] at hg
  split at hg
  · rename_i hg0
    subst hg0
    simp only [Option.some.injEq] at hg
    subst hg
    refine ⟨[.string "=".toUTF8, .int .i64 0, .int .i64 2, .int .i64 1], ?_, fun j u hj => ?_, by simp [D.isAgg]⟩
    · unfold D.RepL; refine ⟨[_], _, rfl, by unfold D.Rep; rfl, ?_⟩
      unfold D.RepL; refine ⟨[_], _, rfl, by unfold D.Rep; rfl, ?_⟩
      unfold D.RepL; refine ⟨[_], _, rfl, by unfold D.Rep; rfl, ?_⟩
      unfold D.RepL; refine ⟨[_], [], rfl, by unfold D.Rep; rfl, ?_⟩
      unfold D.RepL; rfl
    · refine Hw.cell ?_
      have h9 := hcell j u hj
      unfold Addr.add
      split
      · rename_i hj0; subst hj0; exact h9
      · simpa using h9
  · simp at hg
theorem fxOk : FxOk Tryd.prog F where
  orders := by kernel_rfl
  tab := tab_ok
  code := code_ok.get
  prim := fun f p args r outs h => by cases h
/-! ### Arguments -/
theorem good_sym {n : Nat} {x : D} (h : Go.Ab.Good Tryd.prog (n + 2) 77 x) : ∃ s : Sym, x = s.d := by
  unfold Go.Ab.Good at h
  rw [Tryd.underlying77] at h
  obtain ⟨ys, rfl, y0, r0, rfl, h0, y1, r1, rfl, h1, y2, r2, rfl, h2, y3, r3, rfl, h3, rfl⟩ := h
  unfold Go.Ab.Good at h0 h1 h2 h3
  simp only [Tryd.underlying9, Tryd.underlying3] at h0 h1 h2 h3
  obtain ⟨s, rfl, _⟩ := h0
  obtain ⟨a, rfl, _⟩ := h1
  obtain ⟨b, rfl, _⟩ := h2
  obtain ⟨c, rfl, _⟩ := h3
  exact ⟨⟨s, a, b, c⟩, rfl⟩
theorem good_sig {n : Nat} {x : D} (h : Go.Ab.Good Tryd.prog (n + 3) 43 x) : ∃ z g, x = .sl 4 z (syms g) [] := by
  unfold Go.Ab.Good at h
  rw [Tryd.underlying43] at h
  obtain ⟨z, xs, rfl, _, h2, _⟩ := h
  have hc : Tryd.prog.cellsOf 77 = 4 := by kernel_rfl
  rw [hc]
  obtain ⟨g, rfl, _⟩ := all_map (f := Sym.d) (Q := fun _ => True) (fun y hy => by obtain ⟨s, hs⟩ := good_sym (h2 y hy); exact ⟨s, hs, trivial⟩)
  exact ⟨z, g, rfl⟩
theorem good_int {n : Nat} {x : D} (h : Go.Ab.Good Tryd.prog (n + 1) 3 x) : ∃ a : Int, x = .int .i64 a ∧ -9223372036854775808 ≤ a ∧ a ≤ 9223372036854775807 := by
  unfold Go.Ab.Good at h
  rw [Tryd.underlying3] at h
  obtain ⟨a, rfl, hw⟩ := h
  refine ⟨a, rfl, ?_⟩
  simp [Lit.wf, IntKind.min, IntKind.max, IntKind.bits, IntKind.signed] at hw
  omega
theorem good_ints {n : Nat} {x : D} (h : Go.Ab.Good Tryd.prog (n + 2) 56 x) : ∃ z l, x = .sl 1 z (ints l) [] ∧ Len l := by
  unfold Go.Ab.Good at h
  rw [Tryd.underlying56] at h
  obtain ⟨z, xs, rfl, h1, h2, _⟩ := h
  have hc : Tryd.prog.cellsOf 3 = 1 := by kernel_rfl
  have hb : Tryd.prog.bytesOf 3 = 8 := by kernel_rfl
  rw [hb] at h1
  rw [hc]
  obtain ⟨l, rfl, _⟩ := all_map (f := D.int .i64) (Q := fun _ => True) (fun y hy => by obtain ⟨a, ha, _⟩ := good_int (h2 y hy); exact ⟨a, ha, trivial⟩)
  rw [List.length_map] at h1
  exact ⟨z, l, rfl, by unfold Len; simpa [reachBytes] using h1⟩
theorem good_rows {n : Nat} {x : D} (h : Go.Ab.Good Tryd.prog (n + 3) 45 x) : ∃ z rs, x = .sl 1 z (rws rs) [] ∧ rs.length * 24 ≤ 140737488351232 ∧ ∀ r ∈ rs, Len r.l := by
  unfold Go.Ab.Good at h
  rw [Tryd.underlying45] at h
  obtain ⟨z, xs, rfl, h1, h2, _⟩ := h
  have hc : Tryd.prog.cellsOf 56 = 1 := by kernel_rfl
  have hb : Tryd.prog.bytesOf 56 = 24 := by kernel_rfl
  rw [hb] at h1
  rw [hc]
  obtain ⟨rs, rfl, h4⟩ := all_map (f := Row.d) (Q := fun r => Len r.l) (fun y hy => by obtain ⟨z, l, h, hl⟩ := good_ints (h2 y hy); exact ⟨⟨z, l, []⟩, h, hl⟩)
  rw [List.length_map] at h1
  exact ⟨z, rs, rfl, by simpa [reachBytes] using h1, h4⟩
end Go.Proofs.YthemimhlhjfdaaaDoor.Ab

/- Sums, products, flips, scores of points: for every input the laws return true. No condition. -/
set_option linter.unusedVariables false
set_option linter.unusedSimpArgs false
set_option maxRecDepth 100000
namespace Go.Proofs.YthemimhlhjfdaaaDoor.Ab
open Go Go.Ab Go.Qu Go.Proofs
attribute [local simp] and_assoc
theorem w_awake : C 22 [] = some (iB true, []) := W_ev (n := 60) (by kernel_rfl)
@[simp] theorem w_num (c : Int) : C 21 [iI c] = some (iI c, [iI c]) :=
  wfn (lk := []) rfl rfl (fnW_way (q21 _ _ c _) (by simp))
theorem sm_lt (i : Int) : ∃ k : Int, IntKind.wrap .i64 (IntKind.wrap .i64 (Int.tmod (IntKind.wrap .u64 i) 601) - 300) = k ∧ k.natAbs ≤ 300 := by
  have h0 : 0 ≤ IntKind.wrap .u64 i := by rw [IntKind.wrap_u64]; exact Int.emod_nonneg _ (by decide)
  generalize IntKind.wrap .u64 i = y at h0
  rw [Int.tmod_eq_emod_of_nonneg h0]
  have h1 := Int.emod_nonneg y (show (601 : Int) ≠ 0 by decide)
  have h2 := Int.emod_lt_of_pos y (show (0 : Int) < 601 by decide)
  rw [wr (y % 601) (by omega) (by omega), wr (y % 601 - 300) (by omega) (by omega)]
  exact ⟨_, rfl, by omega⟩
theorem w_psmall (i j : Int) : ∃ p q : Int, p.natAbs ≤ 300 ∧ q.natAbs ≤ 300 ∧ C 27 [iI i, iI j] = some (iP p q, [iI i, iI j]) := by
  obtain ⟨p, hp, hp2⟩ := sm_lt i
  obtain ⟨q, hq, hq2⟩ := sm_lt j
  refine ⟨p, q, hp2, hq2, wfn (lk := []) rfl rfl (fnW_way (q27 _ _ i j _) ?_)⟩
  rw [hp, hq]
theorem w_add' {a b c d : Int} (hp : nearP a b = true) (hq : nearP c d = true) (hr : nearP (a + c) (b + d) = true) : C 9 [iP a b, iP c d] = some (.tup [iP (a + c) (b + d), iI 0], [iP a b, iP c d]) := by
  have h := w_add hp hq
  simpa only [toldV, toldE, hp, hq, hr, Bool.and_self, if_true] using h
theorem w_mul' {a b c d : Int} (hp : nearP a b = true) (hq : nearP c d = true) (hr : nearP (a * c - b * d) (a * d + b * c) = true) : C 11 [iP a b, iP c d] = some (.tup [iP (a * c - b * d) (a * d + b * c), iI 0], [iP a b, iP c d]) := by
  have h := w_mul hp hq
  simpa only [toldV, toldE, hp, hq, hr, Bool.and_self, if_true] using h
theorem nr {a b : Int} (ha : a.natAbs ≤ 1000000) (hb : b.natAbs ≤ 1000000) : nearP a b = true := by
  rw [nearP_iff, near_iff, near_iff]; omega
theorem bd (a b : Int) {A B : Nat} (ha : a.natAbs ≤ A) (hb : b.natAbs ≤ B) : (a * b).natAbs ≤ A * B := by rw [Int.natAbs_mul]; exact Nat.mul_le_mul ha hb
theorem nr2 {a b c d : Int} (ha : a.natAbs ≤ 300 * 300) (hb : b.natAbs ≤ 300 * 300) (hc : c.natAbs ≤ 300 * 300) (hd : d.natAbs ≤ 300 * 300) : nearP (a - b) (c + d) = true := nr (by omega) (by omega)
theorem nr4 {a b c d a' b' c' d' : Int} (ha : a.natAbs ≤ 300 * 300) (hb : b.natAbs ≤ 300 * 300) (hc : c.natAbs ≤ 300 * 300) (hd : d.natAbs ≤ 300 * 300) (ha' : a'.natAbs ≤ 300 * 300) (hb' : b'.natAbs ≤ 300 * 300) (hc' : c'.natAbs ≤ 300 * 300) (hd' : d'.natAbs ≤ 300 * 300) : nearP (a - b + (a' - b')) (c + d + (c' + d')) = true := nr (by omega) (by omega)
theorem nr3 {a b c d : Int} (ha : a.natAbs ≤ 300) (hb : b.natAbs ≤ 300) (hc : c.natAbs ≤ 300) (hd : d.natAbs ≤ 300) : nearP (a + b) (c + d) = true := nr (by omega) (by omega)
theorem nr1 {a b : Int} (ha : a.natAbs ≤ 300) (hb : b.natAbs ≤ 300) : nearP a b = true := nr (by omega) (by omega)
theorem ring_sw {p1 p2 q1 q2 : Int} (np : nearP p1 p2 = true) (nq : nearP q1 q2 = true) (n1 : nearP (p1 * q1 - p2 * q2) (p1 * q2 + p2 * q1) = true) : C 11 [iP q1 q2, iP p1 p2] = some (.tup [iP (p1 * q1 - p2 * q2) (p1 * q2 + p2 * q1), iI 0], [iP q1 q2, iP p1 p2]) := by
  have e1 : q1 * p1 - q2 * p2 = p1 * q1 - p2 * q2 := by rw [Int.mul_comm q1, Int.mul_comm q2]
  have e2 : q1 * p2 + q2 * p1 = p1 * q2 + p2 * q1 := by rw [Int.mul_comm q1, Int.mul_comm q2]; exact Int.add_comm _ _
  rw [← e1, ← e2] at n1 ⊢
  exact w_mul' nq np n1
theorem ring_di {p1 p2 q1 q2 r1 r2 : Int} (np : nearP p1 p2 = true) (n3 : nearP (q1 + r1) (q2 + r2) = true) (n6 : nearP (p1 * q1 - p2 * q2 + (p1 * r1 - p2 * r2)) (p1 * q2 + p2 * q1 + (p1 * r2 + p2 * r1)) = true) : C 11 [iP p1 p2, iP (q1 + r1) (q2 + r2)] = some (.tup [iP (p1 * q1 - p2 * q2 + (p1 * r1 - p2 * r2)) (p1 * q2 + p2 * q1 + (p1 * r2 + p2 * r1)), iI 0], [iP p1 p2, iP (q1 + r1) (q2 + r2)]) := by
  have e3 : p1 * (q1 + r1) - p2 * (q2 + r2) = p1 * q1 - p2 * q2 + (p1 * r1 - p2 * r2) := by
    rw [Int.mul_add, Int.mul_add]; generalize p1 * q1 = a; generalize p1 * r1 = b; generalize p2 * q2 = c; generalize p2 * r2 = d; omega
  have e4 : p1 * (q2 + r2) + p2 * (q1 + r1) = p1 * q2 + p2 * q1 + (p1 * r2 + p2 * r1) := by
    rw [Int.mul_add, Int.mul_add]; generalize p1 * q2 = a; generalize p1 * r2 = b; generalize p2 * q1 = c; generalize p2 * r1 = d; omega
  rw [← e3, ← e4] at n6 ⊢
  exact w_mul' np n3 n6
theorem law_ring (i j k l : Int) : C 5 [iI i, iI j, iI k, iI l] = some (iB true, [iI i, iI j, iI k, iI l]) := by
  refine wfn (lk := []) rfl rfl (fnW_way (q5 _ _ i j k l _) ?_)
  obtain ⟨p1, p2, hp1, hp2, hp⟩ := w_psmall i j
  obtain ⟨q1, q2, hq1, hq2, hq⟩ := w_psmall j k
  obtain ⟨r1, r2, hr1, hr2, hr⟩ := w_psmall k l
  have b1 := bd p1 q1 hp1 hq1; have b2 := bd p2 q2 hp2 hq2; have b3 := bd p1 q2 hp1 hq2; have b4 := bd p2 q1 hp2 hq1
  have b5 := bd p1 r1 hp1 hr1; have b6 := bd p2 r2 hp2 hr2; have b7 := bd p1 r2 hp1 hr2; have b8 := bd p2 r1 hp2 hr1
  have np := nr1 hp1 hp2
  have nq := nr1 hq1 hq2
  have nr' := nr1 hr1 hr2
  have n1 := nr2 b1 b2 b3 b4
  have n3 := nr3 hq1 hr1 hq2 hr2
  have n5 := nr2 b5 b6 b7 b8
  have n6 := nr4 b1 b2 b3 b4 b5 b6 b7 b8
  have h1 := w_mul' np nq n1
  have h2 := ring_sw np nq n1
  have h3 := w_add' nq nr' n3
  have h4 := ring_di (r1 := r1) (r2 := r2) np n3 n6
  have h5 := w_mul' np nr' n5
  have h6 := w_add' n1 n5 n6
  simp [w_awake, hp, hq, hr, h1, h2, h3, h4, h5, h6]
theorem law_flips (i j k l : Int) : C 6 [iI i, iI j, iI k, iI l] = some (iB true, [iI i, iI j, iI k, iI l]) := by
  refine wfn (lk := []) rfl rfl (fnW_way (q6 _ _ i j k l _) ?_)
  obtain ⟨p1, p2, hp1, hp2, hp⟩ := w_psmall i j
  obtain ⟨q1, q2, hq1, hq2, hq⟩ := w_psmall k l
  have np : nearP p1 p2 = true := nr (by omega) (by omega)
  have nq : nearP q1 q2 = true := nr (by omega) (by omega)
  have np' : nearP p2 p1 = true := nr (by omega) (by omega)
  have nq' : nearP q2 q1 = true := nr (by omega) (by omega)
  have h1 := w_flip np
  have h2 := w_flip nq
  have h3 := w_flip np'
  have h4 := w_add' np nq (nr (by omega) (by omega))
  have h5 := w_flip (a := p1 + q1) (b := p2 + q2) (nr (by omega) (by omega))
  have h6 := w_add' np' nq' (nr (by omega) (by omega))
  have h7 := w_score np nq
  have h8 := w_score np' nq'
  rw [Int.add_comm (p2 * q2)] at h8
  simp [w_awake, hp, hq, h1, h2, h3, h4, h5, h6, h7, h8]
theorem law_scores (i j : Int) : C 7 [iI i, iI j] = some (iB true, [iI i, iI j]) := by
  refine wfn (lk := []) rfl rfl (fnW_way (q7 _ _ i j _) ?_)
  obtain ⟨p1, p2, hp1, hp2, hp⟩ := w_psmall i j
  have np : nearP p1 p2 = true := nr (by omega) (by omega)
  have n01 : nearP 0 1 = true := nr (by omega) (by omega)
  have b1 := bd p1 p1 hp1 hp1; have b2 := bd p2 p2 hp2 hp2
  have e1 : p1 * 0 - p2 * 1 = -p2 := by omega
  have e2 : p1 * 1 + p2 * 0 = p1 := by omega
  have h1 := w_mul' np n01 (by rw [e1, e2]; exact nr (by omega) (by omega))
  rw [e1, e2] at h1
  have h2 := w_score np np
  have h3 := w_score (a := p1) (b := p2) (c := -p2) (d := p1) np (nr (by omega) (by omega))
  have e3 : p1 * -p2 + p2 * p1 = 0 := by rw [Int.mul_neg, Int.mul_comm p2]; omega
  rw [e3] at h3
  have w1 : IntKind.wrap .i64 (p1 * p1) = p1 * p1 := wr _ (by omega) (by omega)
  have w2 : IntKind.wrap .i64 (p2 * p2) = p2 * p2 := wr _ (by omega) (by omega)
  have w3 : IntKind.wrap .i64 (p1 * p1 + p2 * p2) = p1 * p1 + p2 * p2 := wr _ (by omega) (by omega)
  have w4 : IntKind.wrap .i64 (0 - p2) = -p2 := by rw [wr _ (by omega) (by omega)]; omega
  have w5 : IntKind.wrap .i64 (-p2) = -p2 := wr _ (by omega) (by omega)
  simp [w_awake, hp, h1, h2, h3, w1, w2, w3, w4, w5]
theorem call_ring (y0 y1 y2 y3 : D) (g0 : Go.Ab.Good Tryd.prog 12 3 y0) (g1 : Go.Ab.Good Tryd.prog 12 3 y1) (g2 : Go.Ab.Good Tryd.prog 12 3 y2) (g3 : Go.Ab.Good Tryd.prog 12 3 y3) : ∃ outs, C 5 [.d y0, .d y1, .d y2, .d y3] = some (iB true, outs) := by
  obtain ⟨i, rfl, _⟩ := good_int g0
  obtain ⟨j, rfl, _⟩ := good_int g1
  obtain ⟨k, rfl, _⟩ := good_int g2
  obtain ⟨l, rfl, _⟩ := good_int g3
  exact ⟨_, law_ring i j k l⟩
theorem call_flips (y0 y1 y2 y3 : D) (g0 : Go.Ab.Good Tryd.prog 12 3 y0) (g1 : Go.Ab.Good Tryd.prog 12 3 y1) (g2 : Go.Ab.Good Tryd.prog 12 3 y2) (g3 : Go.Ab.Good Tryd.prog 12 3 y3) : ∃ outs, C 6 [.d y0, .d y1, .d y2, .d y3] = some (iB true, outs) := by
  obtain ⟨i, rfl, _⟩ := good_int g0
  obtain ⟨j, rfl, _⟩ := good_int g1
  obtain ⟨k, rfl, _⟩ := good_int g2
  obtain ⟨l, rfl, _⟩ := good_int g3
  exact ⟨_, law_flips i j k l⟩
theorem call_scores (y0 y1 : D) (g0 : Go.Ab.Good Tryd.prog 12 3 y0) (g1 : Go.Ab.Good Tryd.prog 12 3 y1) : ∃ outs, C 7 [.d y0, .d y1] = some (iB true, outs) := by
  obtain ⟨i, rfl, _⟩ := good_int g0
  obtain ⟨j, rfl, _⟩ := good_int g1
  exact ⟨_, law_scores i j⟩
end Go.Proofs.YthemimhlhjfdaaaDoor.Ab
