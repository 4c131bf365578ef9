/- What the rows of this seat share: the variable that is laid, the world in which it is so. No condition. -/
import Derived.Below
import Derived.ChangeOld
import Derived.LaidMore
import Derived.Lib.SmallJoins
import Derived.OpenShut
import Derived.ProofKit
import Derived.SevenTiedAt
import Derived.ShutString
import Derived.SizedLaws
import Derived.Stop.Joined
import Derived.Test.YtekdlnofmbfdgaaDoorCards
import Derived.Test.YtekdlnofmbfdgaaDoorRows
import Derived.Test.YtekdlnofmbfdgaaDoorTie
import Derived.WalkKit
import Derived.Test.YtekdlnofmbfdgaaDoorSubsumeNormal0
import Derived.Test.YtekdlnofmbfdgaaDoorSubsumeNormal1
import Derived.Test.YtekdlnofmbfdgaaDoorSubsumeNormal2
import Derived.Test.YtekdlnofmbfdgaaDoorSubsumeNormal3
import Derived.Test.YtekdlnofmbfdgaaDoorSubsumeNormal4
import Derived.Test.YtekdlnofmbfdgaaDoorSubsumeNormal5
import Derived.Test.YtekdlnofmbfdgaaDoorSubsumeNormal6
import Derived.Test.YtekdlnofmbfdgaaDoorSubsumeNormal7
import Derived.Test.YtekdlnofmbfdgaaDoorSubsumeNormal8
import Derived.Test.YtekdlnofmbfdgaaDoorSubsumeNormal9
import Derived.Test.YtekdlnofmbfdgaaDoorSubsumeNormal10
import Derived.Test.YtekdlnofmbfdgaaDoorSubsumeNormal11
import Derived.Test.YtekdlnofmbfdgaaDoorSubsumeNormal12
import Derived.Test.YtekdlnofmbfdgaaDoorSubsumeNormal13
import Derived.Test.YtekdlnofmbfdgaaDoorSubsumeNormal14
import Derived.Test.YtekdlnofmbfdgaaDoorSubsumeNormal15
import Derived.Test.YtekdlnofmbfdgaaDoorSubsumeNormal16
import Derived.Test.YtekdlnofmbfdgaaDoorSubsumeNormal17
namespace Go.Proofs.YtekdlnofmbfdgaaDoor.Ab
open Go Go.Ab Go.Qu Go.Proofs Go.ChangeShapes Go.WideShapes Go.ChangeAt Go.RowKit Go.Joins
set_option linter.unusedVariables false
set_option maxRecDepth 100000
theorem own : ownKnob Tryd.prog.godebug = none := by kernel_rfl
theorem laidOut : laidOutB Tryd.prog = true := by kernel_rfl
abbrev laid1 : List (String × DataW Unit) := [("quaere/sign.equals", Rows.laid_quaere_sign_equals)]
theorem gEq : Tryd.prog.globalNamed "quaere/sign.equals" = some 0 := by kernel_rfl
theorem tEq : (Tryd.prog.globals[0]?).map (·.type) = some 103 := by kernel_rfl
theorem door_met (os : Os) (args : Array Value) : laidMetH Tryd.prog laid1 ((World.doorLaid Tryd.prog 400 os).forCall (fun _ _ => 0) ⟨#[], args, []⟩).memory :=
  laidMetH_of_parts3 (fuel := 8) (laidMet_of_run' 8 (by kernel_rfl) (by kernel_rfl)) (by kernel_rfl) (by kernel_rfl)
theorem globs {W : World} (h : laidMetH Tryd.prog laid1 W) : GlobOk (Hw W) F.G := by
  rw [MakeChecks.laidMetH_plain _ _ _ (by kernel_rfl)] at h
  obtain ⟨ps, ⟨g0, t0, cs0, f0, p0, q0, hg0, ht0, hv0, hd0, _, _⟩, _, _⟩ := h
  obtain rfl := Option.some.inj (gEq.symm.trans hg0)
  obtain rfl := Option.some.inj (tEq.symm.trans ht0)
  obtain ⟨xs, n, _, hx, hlen, hxl, hf⟩ := DataW.trod_struct Tryd.underlying103 hd0
  have c1 : Tryd.prog.cellsOf 103 = 4 := by kernel_rfl
  have cs : Tryd.prog.cellsOf 9 = 1 := by kernel_rfl
  have ci : Tryd.prog.cellsOf 3 = 1 := by kernel_rfl
  rw [c1] at hlen
  have hx1 : xs.map (·.1) = [.lit (.string [61]), .lit (.int .i64 0), .lit (.int .i64 2), .lit (.int .i64 1)] := by
    simp only [Prod.mk.injEq] at hx
    have h9 := hx.1
    unfold Rows.laid_quaere_sign_equals at h9
    simp only [DataW.agg.injEq] at h9
    exact h9.symm
  have hcs : ∃ a b c d, cs0.toList = [a, b, c, d] := by
    match h : cs0.toList, hlen with
    | [a, b, c, d], _ => exact ⟨a, b, c, d, rfl⟩
  obtain ⟨a, b, c, d, hcs⟩ := hcs
  have hxs : ∃ x0 x1 x2 x3, xs = [x0, x1, x2, x3] := by
    match xs, hxl with
    | [x0, x1, x2, x3], _ => exact ⟨x0, x1, x2, x3, rfl⟩
  obtain ⟨x0, x1, x2, x3, rfl⟩ := hxs
  simp only [List.map_cons, List.map_nil, List.cons.injEq, and_true] at hx1
  obtain ⟨e0, e1, e2, e3⟩ := hx1
  have h0 : DataW.trod (fun _ => ()) Tryd.prog W 0 (fun _ => true) false n 9 ((cs0.toList.drop 0).take (Tryd.prog.cellsOf 9)) = some x0 := hf 0 _ rfl
  have h1 : DataW.trod (fun _ => ()) Tryd.prog W 0 (fun _ => true) false n 3 ((cs0.toList.drop 1).take (Tryd.prog.cellsOf 3)) = some x1 := hf 1 _ rfl
  have h2 : DataW.trod (fun _ => ()) Tryd.prog W 0 (fun _ => true) false n 3 ((cs0.toList.drop 2).take (Tryd.prog.cellsOf 3)) = some x2 := hf 2 _ rfl
  have h3 : DataW.trod (fun _ => ()) Tryd.prog W 0 (fun _ => true) false n 3 ((cs0.toList.drop 3).take (Tryd.prog.cellsOf 3)) = some x3 := hf 3 _ rfl
  rw [hcs, cs] at h0
  rw [hcs, ci] at h1 h2 h3
  obtain ⟨s, ha, hs, _⟩ := DataW.trod_string Tryd.underlying9 h0
  obtain ⟨n1, hb, hn1, _⟩ := DataW.trod_int Tryd.underlying3 h1
  obtain ⟨n2, hc, hn2, _⟩ := DataW.trod_int Tryd.underlying3 h2
  obtain ⟨n3, hd, hn3, _⟩ := DataW.trod_int Tryd.underlying3 h3
  simp at ha hb hc hd
  rw [hs] at e0; rw [hn1] at e1; rw [hn2] at e2; rw [hn3] at e3
  simp at e0 e1 e2 e3
  subst ha hb hc hd e1 e2 e3
  have hse : s = "=".toUTF8 := by
    have h5 : "=".toUTF8.data.toList = [61] := by decide +kernel
    have h6 : s.data = "=".toUTF8.data := Array.toList_inj.1 (e0.trans h5.symm)
    exact (show ∀ (x y : ByteArray), x.data = y.data → x = y by intro ⟨_⟩ ⟨_⟩ h; exact congrArg _ h) _ _ h6
  subst hse
  have hcell : ∀ (j : Nat) u, [Value.string "=".toUTF8, .int .i64 0, .int .i64 2, .int .i64 1][j]? = some u → W.cell? ⟨0, j, none⟩ = some u := fun j u hj => by
    have h7 := World.var?_cell hg0 hv0 j
    have h8 : cs0[j]? = some u := by rw [← Array.getElem?_toList, hcs]; exact hj
    rw [h8] at h7
    simpa using h7
  intro g cs hg
  simp only [F, List.map_cons, List.map_nil, assoc] at hg
  split at hg
  · rename_i hg0
    subst hg0
    simp only [Option.some.injEq] at hg
    subst hg
    refine ⟨[.string "=".toUTF8, .int .i64 0, .int .i64 2, .int .i64 1], ?_, fun j u hj => ?_, by simp [D.isAgg]⟩
    · unfold D.RepL; refine ⟨[_], _, rfl, by unfold D.Rep; rfl, ?_⟩
      unfold D.RepL; refine ⟨[_], _, rfl, by unfold D.Rep; rfl, ?_⟩
      unfold D.RepL; refine ⟨[_], _, rfl, by unfold D.Rep; rfl, ?_⟩
      unfold D.RepL; refine ⟨[_], [], rfl, by unfold D.Rep; rfl, ?_⟩
      unfold D.RepL; rfl
    · refine Hw.cell ?_
      have h9 := hcell j u hj
      unfold Addr.add
      split
      · rename_i hj0; subst hj0; exact h9
      · simpa using h9
  · simp at hg
theorem fxOk : FxOk Tryd.prog F where
  orders := by kernel_rfl
  tab := tab_ok
  code := code_ok.get
  prim := primOk
  ins := insAll
/-! ### Arguments -/
theorem good_sym {n : Nat} {x : D} (h : Go.Ab.Good Tryd.prog (n + 2) 103 x) : ∃ s : Sym, x = s.d := by
  unfold Go.Ab.Good at h
  rw [Tryd.underlying103] at h
  obtain ⟨ys, rfl, y0, r0, rfl, h0, y1, r1, rfl, h1, y2, r2, rfl, h2, y3, r3, rfl, h3, rfl⟩ := h
  unfold Go.Ab.Good at h0 h1 h2 h3
  simp only [Tryd.underlying9, Tryd.underlying3] at h0 h1 h2 h3
  obtain ⟨s, rfl, _⟩ := h0
  obtain ⟨a, rfl, _⟩ := h1
  obtain ⟨b, rfl, _⟩ := h2
  obtain ⟨c, rfl, _⟩ := h3
  exact ⟨⟨s, a, b, c⟩, rfl⟩
theorem good_sig {n : Nat} {x : D} (h : Go.Ab.Good Tryd.prog (n + 3) 22 x) : ∃ z g, x = .sl 4 z (syms g) [] := by
  unfold Go.Ab.Good at h
  rw [Tryd.underlying22] at h
  obtain ⟨z, xs, rfl, _, h2, _⟩ := h
  have hc : Tryd.prog.cellsOf 103 = 4 := by kernel_rfl
  rw [hc]
  obtain ⟨g, rfl, _⟩ := all_map (f := Sym.d) (Q := fun _ => True) (fun y hy => by obtain ⟨s, hs⟩ := good_sym (h2 y hy); exact ⟨s, hs, trivial⟩)
  exact ⟨z, g, rfl⟩
theorem good_int {n : Nat} {x : D} (h : Go.Ab.Good Tryd.prog (n + 1) 3 x) : ∃ a : Int, x = .int .i64 a ∧ -9223372036854775808 ≤ a ∧ a ≤ 9223372036854775807 := by
  unfold Go.Ab.Good at h
  rw [Tryd.underlying3] at h
  obtain ⟨a, rfl, hw⟩ := h
  refine ⟨a, rfl, ?_⟩
  simp [Lit.wf, IntKind.min, IntKind.max, IntKind.bits, IntKind.signed] at hw
  omega
theorem good_ints {n : Nat} {x : D} (h : Go.Ab.Good Tryd.prog (n + 2) 28 x) : ∃ z l, x = .sl 1 z (ints l) [] ∧ Len l := by
  unfold Go.Ab.Good at h
  rw [Tryd.underlying28] at h
  obtain ⟨z, xs, rfl, h1, h2, _⟩ := h
  have hc : Tryd.prog.cellsOf 3 = 1 := by kernel_rfl
  have hb : Tryd.prog.bytesOf 3 = 8 := by kernel_rfl
  rw [hb] at h1
  rw [hc]
  obtain ⟨l, rfl, _⟩ := all_map (f := D.int .i64) (Q := fun _ => True) (fun y hy => by obtain ⟨a, ha, _⟩ := good_int (h2 y hy); exact ⟨a, ha, trivial⟩)
  rw [List.length_map] at h1
  exact ⟨z, l, rfl, by unfold Len; simpa [reachBytes] using h1⟩
theorem good_rows {n : Nat} {x : D} (h : Go.Ab.Good Tryd.prog (n + 3) 24 x) : ∃ z rs, x = .sl 1 z (rws rs) [] ∧ rs.length * 24 ≤ 140737488351232 ∧ ∀ r ∈ rs, Len r.l := by
  unfold Go.Ab.Good at h
  rw [Tryd.underlying24] at h
  obtain ⟨z, xs, rfl, h1, h2, _⟩ := h
  have hc : Tryd.prog.cellsOf 28 = 1 := by kernel_rfl
  have hb : Tryd.prog.bytesOf 28 = 24 := by kernel_rfl
  rw [hb] at h1
  rw [hc]
  obtain ⟨rs, rfl, h4⟩ := all_map (f := Row.d) (Q := fun r => Len r.l) (fun y hy => by obtain ⟨z, l, h, hl⟩ := good_ints (h2 y hy); exact ⟨⟨z, l, []⟩, h, hl⟩)
  rw [List.length_map] at h1
  exact ⟨z, rs, rfl, by simpa [reachBytes] using h1, h4⟩
end Go.Proofs.YtekdlnofmbfdgaaDoor.Ab

/- Literals, clauses as arguments. No condition. -/
set_option linter.unusedVariables false
set_option linter.unusedSimpArgs false
set_option maxRecDepth 100000
namespace Go.Proofs.YtekdlnofmbfdgaaDoor.Ab
open Go Go.Ab Go.Qu Go.Proofs
theorem good_lit {n : Nat} {x : D} (h : Go.Ab.Good Tryd.prog (n + 3) 68 x) : ∃ l : LitR, x = l.d ∧ Len l.r.l := by
  unfold Go.Ab.Good at h
  rw [Tryd.underlying68] at h
  obtain ⟨ys, rfl, y0, r0, rfl, h0, y1, r1, rfl, h1, rfl⟩ := h
  obtain ⟨z, l, rfl, hl⟩ := good_ints h1
  unfold Go.Ab.Good at h0
  rw [Tryd.underlying4] at h0
  obtain ⟨b, rfl⟩ := h0
  exact ⟨⟨b, ⟨z, l, []⟩⟩, rfl, hl⟩
theorem good_lits {n : Nat} {x : D} (h : Go.Ab.Good Tryd.prog (n + 4) 23 x) : ∃ z ls, x = .sl 2 z (lits ls) [] ∧ LitsIn ls := by
  unfold Go.Ab.Good at h
  rw [Tryd.underlying23] at h
  obtain ⟨z, xs, rfl, h1, h2, _⟩ := h
  have hc : Tryd.prog.cellsOf 68 = 2 := by kernel_rfl
  have hb : Tryd.prog.bytesOf 68 = 32 := by kernel_rfl
  rw [hb] at h1
  rw [hc]
  obtain ⟨ls, rfl, h4⟩ := all_map (f := LitR.d) (Q := fun l => Len l.r.l) (fun y hy => by obtain ⟨l, hl, hk⟩ := good_lit (h2 y hy); exact ⟨l, hl, hk⟩)
  rw [List.length_map] at h1
  exact ⟨z, ls, rfl, by simpa [reachBytes] using h1, h4⟩
theorem good_clause {n : Nat} {x : D} (h : Go.Ab.Good Tryd.prog (n + 5) 26 x) : ∃ c : Cl, x = c.d ∧ ClIn c := by
  unfold Go.Ab.Good at h
  rw [Tryd.underlying26] at h
  obtain ⟨ys, rfl, y0, r0, rfl, h0, y1, r1, rfl, h1, y2, r2, rfl, h2, rfl⟩ := h
  obtain ⟨lz, ls, rfl, hls⟩ := good_lits h0
  obtain ⟨tz, ts, rfl, hts, hr⟩ := good_rows h1
  obtain ⟨cz, cs, rfl, hcs⟩ := good_lits h2
  exact ⟨⟨lz, ls, [], tz, ts, [], cz, cs, []⟩, rfl, ⟨hls, hts, hr, hcs⟩⟩
end Go.Proofs.YtekdlnofmbfdgaaDoor.Ab

/- Arguments: rows that are nil have no codes. No condition. -/
set_option linter.unusedVariables false
set_option linter.unusedSimpArgs false
set_option maxRecDepth 100000
namespace Go.Proofs.YtekdlnofmbfdgaaDoor.Ab
open Go Go.Ab Go.Qu Go.Proofs
theorem good_nil {n : Nat} {z : Bool} {l : List Int} (h : Go.Ab.Good Tryd.prog (n + 1) 28 (.sl 1 z (ints l) [])) : z = true → l = [] := by
  unfold Go.Ab.Good at h
  rw [Tryd.underlying28] at h
  obtain ⟨z', xs, he, _, _, h⟩ := h
  simp only [D.sl.injEq] at he
  obtain ⟨_, rfl, rfl, _⟩ := he
  intro hz
  have := congrArg List.length (h hz)
  rw [ints_len] at this
  exact List.length_eq_zero_iff.1 this
theorem good_litnil {n : Nat} {l : LitR} (h : Go.Ab.Good Tryd.prog (n + 3) 68 l.d) (he : l.r.e = []) : l.r.z = true → l.r.l = [] := by
  unfold Go.Ab.Good at h
  rw [Tryd.underlying68] at h
  obtain ⟨ys, hy, y0, r0, rfl, h0, y1, r1, rfl, h1, rfl⟩ := h
  unfold Go.Ab.Good at h0
  rw [Tryd.underlying4] at h0
  obtain ⟨b, rfl⟩ := h0
  obtain ⟨z, m, rfl, _⟩ := good_ints h1
  have h2 := good_nil (n := n + 1) h1
  simp only [LitR.d, List.flatMap_cons, List.flatMap_nil, D.cells, List.cons_append, List.nil_append, List.append_nil, D.agg.injEq, List.cons.injEq, D.bool.injEq, D.sl.injEq, and_true, true_and] at hy
  obtain ⟨_, hz, hm, _⟩ := hy
  intro hz'
  have h3 := h2 (hz ▸ hz')
  rw [h3] at hm
  have := congrArg List.length hm
  rw [ints_len] at this
  exact List.length_eq_zero_iff.1 (by simpa [ints_nil] using this)
theorem good_clauseN {n : Nat} {x : D} (h : Go.Ab.Good Tryd.prog (n + 5) 26 x) : ∃ c : Cl, x = c.d ∧ ClIn c ∧ NilC c := by
  have h' := h
  unfold Go.Ab.Good at h
  rw [Tryd.underlying26] at h
  obtain ⟨ys, rfl, y0, r0, rfl, h0, y1, r1, rfl, h1, y2, r2, rfl, h2, rfl⟩ := h
  obtain ⟨lz, ls, rfl, hls⟩ := good_lits h0
  obtain ⟨tz, ts, rfl, hts, hr⟩ := good_rows h1
  obtain ⟨cz, cs, rfl, hcs⟩ := good_lits h2
  have hL : ∀ {z : Bool} {ls : List LitR}, Go.Ab.Good Tryd.prog (n + 4) 23 (.sl 2 z (lits ls) []) → ∀ l ∈ ls, l.r.z = true → l.r.l = [] := by
    intro z ls hg l hl
    unfold Go.Ab.Good at hg
    rw [Tryd.underlying23] at hg
    obtain ⟨z', xs, he, _, hx, _⟩ := hg
    simp only [D.sl.injEq] at he
    obtain ⟨_, _, rfl, _⟩ := he
    have h5 := hx l.d (List.mem_map.2 ⟨l, hl, rfl⟩)
    obtain ⟨m, hm, _⟩ := good_lit h5
    have h6 : l.r.z = m.r.z ∧ ints l.r.l = ints m.r.l ∧ l.r.e = m.r.e := by
      have := hm
      simp only [LitR.d, D.agg.injEq, List.cons.injEq, D.bool.injEq, D.sl.injEq, and_true, true_and] at this
      exact ⟨this.2.1, this.2.2.1, this.2.2.2⟩
    have h7 : l.r.e = [] := by
      unfold Go.Ab.Good at h5
      rw [Tryd.underlying68] at h5
      obtain ⟨ys, hy, y0, r0, rfl, k0, y1, r1, rfl, k1, rfl⟩ := h5
      obtain ⟨z2, l2, rfl, _⟩ := good_ints k1
      unfold Go.Ab.Good at k0
      rw [Tryd.underlying4] at k0
      obtain ⟨b, rfl⟩ := k0
      simp only [LitR.d, List.flatMap_cons, List.flatMap_nil, D.cells, List.cons_append, List.nil_append, List.append_nil, D.agg.injEq, List.cons.injEq, D.bool.injEq, D.sl.injEq, and_true, true_and] at hy
      exact hy.2.2.2
    exact good_litnil (n := n) h5 h7
  refine ⟨⟨lz, ls, [], tz, ts, [], cz, cs, []⟩, rfl, ⟨hls, hts, hr, hcs⟩, fun r hr' => ?_⟩
  simp only [rowsOf, List.mem_append, List.mem_map] at hr'
  rcases hr' with (⟨l, hl, rfl⟩ | hr') | ⟨l, hl, rfl⟩
  · exact hL h0 l hl
  · unfold Go.Ab.Good at h1
    rw [Tryd.underlying24] at h1
    obtain ⟨z', xs, he, _, hx, _⟩ := h1
    simp only [D.sl.injEq] at he
    obtain ⟨_, _, rfl, _⟩ := he
    have h5 := hx r.d (List.mem_map.2 ⟨r, hr', rfl⟩)
    obtain ⟨z2, l2, he2, _⟩ := good_ints h5
    have h6 : r.e = [] := by
      simp only [Row.d, D.sl.injEq, true_and] at he2
      exact he2.2.2
    have h7 : r.d = .sl 1 r.z (ints r.l) [] := by rw [← h6]; rfl
    rw [h7] at h5
    exact good_nil (n := n + 2) h5
  · exact hL h2 l hl
end Go.Proofs.YtekdlnofmbfdgaaDoor.Ab

/- Which clause says as much: what the program's functions hand back. For every input; no condition. -/
set_option linter.unusedVariables false
set_option linter.unusedSimpArgs false
set_option maxRecDepth 100000
namespace Go.Proofs.YtekdlnofmbfdgaaDoor.Ab
open Go Go.Ab Go.Qu Go.Proofs
attribute [local simp] and_assoc
attribute [local irreducible] bsD
theorem l_parts2 {g : List Sym} (hg : SigOk g) (z : Bool) (e : List D) (c d : Cl) (zp : Bool) (xp : List D) (n21 n22 : Int) {r : Row} (hr : RowM r) (hts : d.ts.length ≤ 1000) (hm : ∀ u ∈ d.ts, RowM u) (x : List (Nat × Row) × Nat) (hx : x.2 ≤ d.ts.length ∧ x.1.length ≤ x.2) :
    evP F (Go.Ab.W F) (JW F d51 []) d51 [] [1,1,0,1,0,0,1,1,0,0,1,1,0,1] [(0, iG z g e), (4, bC c), (5, bC d), (7, .own zp 124 3 xp), (10, pP r x.1), (20, iR c.tz c.ts c.te), (21, iI n21), (22, iI n22), (29, iR d.tz d.ts d.te), (30, iI d.ts.length), (31, iI x.2)] = some (.norm [(0, iG z g e), (4, bC c), (5, bC d), (7, .own zp 124 3 xp), (10, pP r (x.1 ++ candRR g r (d.ts.drop x.2) x.2)), (20, iR c.tz c.ts c.te), (21, iI n21), (22, iI n22), (29, iR d.tz d.ts d.te), (30, iI d.ts.length), (31, iI d.ts.length)]) :=
  blk_fun (F := F) (d := d51) (lk := []) (p := [1,1,0,1,0,0,1,1,0,0,1,1,0,1,0,0]) (p0 := [1,1,0,1,0,0,1,1,0,0,1,1,0,1]) (id := 2) (by kernel_rfl) (st := fun (x : List (Nat × Row) × Nat) => [(0, iG z g e), (4, bC c), (5, bC d), (7, .own zp 124 3 xp), (10, pP r x.1), (20, iR c.tz c.ts c.te), (21, iI n21), (22, iI n22), (29, iR d.tz d.ts d.te), (30, iI d.ts.length), (31, iI x.2)]) (I := fun x => x.2 ≤ d.ts.length ∧ x.1.length ≤ x.2) (μ := fun x => d.ts.length - x.2)
    (res := fun x => .norm [(0, iG z g e), (4, bC c), (5, bC d), (7, .own zp 124 3 xp), (10, pP r (x.1 ++ candRR g r (d.ts.drop x.2) x.2)), (20, iR c.tz c.ts c.te), (21, iI n21), (22, iI n22), (29, iR d.tz d.ts d.te), (30, iI d.ts.length), (31, iI d.ts.length)])
    (fun x hx => by
      obtain ⟨xs, i⟩ := x
      obtain ⟨hx1, hx2⟩ := hx
      dsimp only at hx1 hx2
      by_cases hi : i < d.ts.length
      · obtain ⟨m, hm1⟩ := at_lt hi
        have hd : d.ts.drop i = m :: d.ts.drop (i + 1) := by
          rw [List.drop_eq_getElem_cons hi]
          rw [List.getElem?_eq_getElem hi] at hm1
          cases hm1; rfl
        have hc := w_could hg z e hr (hm m (List.mem_of_getElem? hm1)) (xs := xs) (by omega) i
        have hi' : (i : Int) < d.ts.length := by omega
        have hw := wr1 hi (show d.ts.length ≤ 9223372036854775807 by omega)
        refine .go (if okN g r.l m.l = true then xs ++ [(i, m)] else xs, i + 1) (wpQ_way (q51_l2a _ _ z (syms g) e c.lz (lits c.ls) c.le c.tz (rws c.ts) c.te c.cz (lits c.cs) c.ce d.lz (lits d.ls) d.le d.tz (rws d.ts) d.te d.cz (lits d.cs) d.ce zp xp r.z (ints r.l) r.e xs.isEmpty (pls xs) xs.isEmpty (ins xs) c.tz (rws c.ts) c.te n21 n22 d.tz (rws d.ts) d.te _ i _) ?_) ⟨by dsimp only; omega, by
            dsimp only
            split
            · simp; omega
            · omega⟩ (by dsimp only; omega) ?_
        · refine condW_t (decide_eq_true hi') ?_
          refine condW_t (decide_eq_true (by omega)) ?_
          refine ⟨_, _, _, rws_at hm1, ?_⟩
          refine ⟨_, _, _, _, _, _, _, _, _, _, hc, ?_⟩
          rw [hw]
        · dsimp only; rw [hd, candRR]
          split <;> simp
      · have e0 : i = d.ts.length := by omega
        subst e0
        refine .stop (.exit 2 [(0, iG z g e), (4, bC c), (5, bC d), (7, .own zp 124 3 xp), (10, pP r xs), (20, iR c.tz c.ts c.te), (21, iI n21), (22, iI n22), (29, iR d.tz d.ts d.te), (30, iI d.ts.length), (31, iI d.ts.length)]) (wpQ_way (q51_l2a _ _ z (syms g) e c.lz (lits c.ls) c.le c.tz (rws c.ts) c.te c.cz (lits c.cs) c.ce d.lz (lits d.ls) d.le d.tz (rws d.ts) d.te d.cz (lits d.cs) d.ce zp xp r.z (ints r.l) r.e xs.isEmpty (pls xs) xs.isEmpty (ins xs) c.tz (rws c.ts) c.te n21 n22 d.tz (rws d.ts) d.te _ _ _) (by simp)) rfl ?_
        simp [blkO, candRR]) x hx
def ptsT (g : List Sym) (ts us : List Row) : List PtR := ts.map fun r => ⟨r, candRR g r us 0⟩
theorem l_parts0 {g : List Sym} (hg : SigOk g) (z : Bool) (e : List D) (c d : Cl) (hcs : c.ts.length ≤ 1000) (hr : ∀ r ∈ c.ts, RowM r) (hts : d.ts.length ≤ 1000) (hm : ∀ u ∈ d.ts, RowM u) (x : List PtR × Nat) (hx : x.2 ≤ c.ts.length ∧ x.1.length ≤ 1000 + x.2) :
    evP F (Go.Ab.W F) (JW F d51 []) d51 [] [1,1,0,1] [(0, iG z g e), (4, bC c), (5, bC d), (7, .own x.1.isEmpty 124 3 (prts x.1)), (20, iR c.tz c.ts c.te), (21, iI c.ts.length), (22, iI x.2)] = some (.norm [(0, iG z g e), (4, bC c), (5, bC d), (7, .own (x.1 ++ ptsT g (c.ts.drop x.2) d.ts).isEmpty 124 3 (prts (x.1 ++ ptsT g (c.ts.drop x.2) d.ts))), (20, iR c.tz c.ts c.te), (21, iI c.ts.length), (22, iI c.ts.length)]) :=
  blk_fun (F := F) (d := d51) (lk := []) (p := [1,1,0,1,0,0]) (p0 := [1,1,0,1]) (id := 0) (by kernel_rfl) (st := fun (x : List PtR × Nat) => [(0, iG z g e), (4, bC c), (5, bC d), (7, .own x.1.isEmpty 124 3 (prts x.1)), (20, iR c.tz c.ts c.te), (21, iI c.ts.length), (22, iI x.2)]) (I := fun x => x.2 ≤ c.ts.length ∧ x.1.length ≤ 1000 + x.2) (μ := fun x => c.ts.length - x.2)
    (res := fun x => .norm [(0, iG z g e), (4, bC c), (5, bC d), (7, .own (x.1 ++ ptsT g (c.ts.drop x.2) d.ts).isEmpty 124 3 (prts (x.1 ++ ptsT g (c.ts.drop x.2) d.ts))), (20, iR c.tz c.ts c.te), (21, iI c.ts.length), (22, iI c.ts.length)])
    (fun x hx => by
      obtain ⟨ps, i⟩ := x
      obtain ⟨hx1, hx2⟩ := hx
      dsimp only at hx1 hx2
      by_cases hi : i < c.ts.length
      · obtain ⟨l, hl1⟩ := at_lt hi
        have hd : c.ts.drop i = l :: c.ts.drop (i + 1) := by
          rw [List.drop_eq_getElem_cons hi]
          rw [List.getElem?_eq_getElem hi] at hl1
          cases hl1; rfl
        have hin := l_parts2 hg z e c d ps.isEmpty (prts ps) c.ts.length i (hr l (List.mem_of_getElem? hl1)) hts hm ([], 0) ⟨Nat.zero_le _, Nat.le_refl _⟩
        simp only [List.drop_zero, List.nil_append] at hin
        have hi' : (i : Int) < c.ts.length := by omega
        have hw := wr1 hi (show c.ts.length ≤ 9223372036854775807 by omega)
        refine .go (ps ++ [⟨l, candRR g l d.ts 0⟩], i + 1) (wpQ_way (q51_l0a _ _ z (syms g) e c.lz (lits c.ls) c.le c.tz (rws c.ts) c.te c.cz (lits c.cs) c.ce d.lz (lits d.ls) d.le d.tz (rws d.ts) d.te d.cz (lits d.cs) d.ce ps.isEmpty (prts ps) c.tz (rws c.ts) c.te _ i _) ?_) ⟨by dsimp only; omega, by simp; omega⟩ (by dsimp only; omega) ?_
        · refine condW_t (decide_eq_true hi') ?_
          refine condW_t (decide_eq_true (by omega)) ?_
          refine ⟨_, _, _, rws_at hl1, ?_⟩
          rw [rws_len]
          refine ⟨_, _, _, _, _, _, _, _, _, _, _, _, _, _, _, _, _, _, _, _, _, _, _, _, _, _, _, _, _, _, _, _, _, _, _, _, _, _, _, _, hin, ?_⟩
          refine condW_t (by rw [prts_len]; exact decide_eq_true (by omega)) ?_
          refine condW_t (by rw [prts_len]; exact decide_eq_true (by omega)) ?_
          rw [hw, prts_app]
          simp [prts, PtR.d]
        · dsimp only; rw [hd]; simp [ptsT]
      · have e0 : i = c.ts.length := by omega
        subst e0
        refine .stop (.exit 0 [(0, iG z g e), (4, bC c), (5, bC d), (7, .own ps.isEmpty 124 3 (prts ps)), (20, iR c.tz c.ts c.te), (21, iI c.ts.length), (22, iI c.ts.length)]) (wpQ_way (q51_l0a _ _ z (syms g) e c.lz (lits c.ls) c.le c.tz (rws c.ts) c.te c.cz (lits c.cs) c.ce d.lz (lits d.ls) d.le d.tz (rws d.ts) d.te d.cz (lits d.cs) d.ce ps.isEmpty (prts ps) c.tz (rws c.ts) c.te _ _ _) (by simp)) rfl ?_
        simp [blkO, ptsT]) x hx
def ptsCR (g : List Sym) (c d : Cl) : List PtR := (ptsL g c.ls d.ls ++ ptsT g c.ts d.ts) ++ ptsL g c.cs d.cs
theorem rowM_of {r : Row} (h : RowOk r) (hl : r.l.length ≤ 1000) : RowM r := ⟨hl, h.nil, h.cod⟩
structure ClM (c : Cl) : Prop where
  l5 : c.ls.length ≤ 5
  t3 : c.ts.length ≤ 3
  c3 : c.cs.length ≤ 3
  ls : ∀ l ∈ c.ls, RowM l.r
  ts : ∀ r ∈ c.ts, RowM r
  cs : ∀ l ∈ c.cs, RowM l.r
theorem clM_of {g : List Sym} {c : Cl} (h : clB g c = true) (hn : NilC c) : ClM c := by
  have hr := clRow_of h hn
  have hk := clOk.1 ((clB_c g c).symm.trans h)
  have e1 : c.ls.length ≤ 5 := by have := hk.l5; simpa [Cl.c] using this
  have e2 : c.ts.length ≤ 3 := by have := hk.t3; simpa [Cl.c] using this
  have e3 : c.cs.length ≤ 3 := by have := hk.c3; simpa [Cl.c] using this
  refine ⟨e1, e2, e3, fun l hl => rowM_of (hr.ls l hl) ?_, fun r hr' => rowM_of (hr.ts r hr') ?_, fun l hl => rowM_of (hr.cs l hl) ?_⟩
  · have := (atom_codes (hk.la l.c (by simp [Cl.c]; exact ⟨l, hl, rfl⟩))).1
    have e : l.c.2 = l.r.l := rfl
    rw [e] at this; omega
  · obtain ⟨k, hk⟩ := hk.tr
    have := (rowB_parts (hk r.l (by simp [Cl.c]; exact ⟨r, hr', rfl⟩)).1).2.1
    omega
  · have := (atom_codes (hk.ca l.c (by simp [Cl.c]; exact ⟨l, hl, rfl⟩))).1
    have e : l.c.2 = l.r.l := rfl
    rw [e] at this; omega
theorem w_parts' {g : List Sym} (hg : SigOk g) (z : Bool) (e : List D) {c d : Cl} (hc : ClM c) (hd : ClM d) : C 51 [iG z g e, iC c, iC d] = some (.own (ptsCR g c d).isEmpty 124 3 (prts (ptsCR g c d)), [iG z g e, iC c, iC d]) := by
  refine wfn (lk := []) rfl rfl (fnW_way (q51 _ _ z (syms g) e c.lz (lits c.ls) c.le c.tz (rws c.ts) c.te c.cz (lits c.cs) c.ce d.lz (lits d.ls) d.le d.tz (rws d.ts) d.te d.cz (lits d.cs) d.ce _) ?_)
  have l1 := hc.l5; have l2 := hc.t3; have l3 := hc.c3; have m1 := hd.l5; have m2 := hd.t3; have m3 := hd.c3
  have h1 := w_lits0 hg z c.lz d.lz e c.le d.le (ls := c.ls) (ms := d.ls) (by omega) hc.ls (by omega) hd.ls
  have h2 := l_parts0 hg z e c d (by omega) hc.ts (by omega) hd.ts (ptsL g c.ls d.ls, 0) ⟨Nat.zero_le _, by simp [ptsL]; omega⟩
  have h3 := w_lits hg z c.cz d.cz e c.ce d.ce (ls := c.cs) (ms := d.cs) (by omega) hc.cs (by omega) hd.cs (ps := ptsL g c.ls d.ls ++ ptsT g c.ts d.ts) (by simp [ptsL, ptsT]; omega)
  simp only [List.drop_zero] at h2
  refine .inr ⟨_, _, _, _, _, _, h1, ?_⟩
  rw [rws_len]
  refine ⟨_, _, _, _, _, _, _, _, _, _, _, _, _, _, _, _, _, _, _, _, _, _, _, _, _, _, _, _, h2, ?_⟩
  exact .inl ⟨_, _, _, _, _, h3, rfl⟩
/-! ### To say as much -/
theorem candLR_pt (g : List Sym) (l : LitR) : ∀ (ms : List LitR) (n : Nat), (candLR g l ms n).map (fun x => (x.1, x.2.l)) = (cands l.neg (ms.map LitR.c) n).filter fun x => okB g (fun _ => none) l.r.l x.2
  | [], n => rfl
  | m :: ms, n => by
    have ih := candLR_pt g l ms (n + 1)
    rw [candLR, List.map_cons, cands]
    show _ = List.filter _ (if l.neg = m.neg then (n, m.r.l) :: cands l.neg (ms.map LitR.c) (n + 1) else cands l.neg (ms.map LitR.c) (n + 1))
    by_cases h1 : l.neg = m.neg
    · rw [if_pos h1, List.filter_cons]
      by_cases h2 : okN g l.r.l m.r.l = true
      · rw [if_pos ⟨h1, h2⟩, if_pos h2, List.map_cons, ih]
      · rw [if_neg (fun h => h2 h.2), if_neg h2, ih]
    · rw [if_neg h1, if_neg (fun h => h1 h.1), ih]
theorem candRR_pt (g : List Sym) (r : Row) : ∀ (us : List Row) (n : Nat), (candRR g r us n).map (fun x => (x.1, x.2.l)) = (candR (us.map fun u => u.l) n).filter fun x => okB g (fun _ => none) r.l x.2
  | [], n => rfl
  | u :: us, n => by
    have ih := candRR_pt g r us (n + 1)
    rw [candRR, List.map_cons, candR, List.filter_cons]
    by_cases h2 : okN g r.l u.l = true
    · rw [if_pos h2, if_pos h2, List.map_cons, ih]
    · rw [if_neg h2, if_neg h2, ih]
theorem pts_pt (g : List Sym) (c d : Cl) : (ptsCR g c d).map PtR.pt = (ptsC c.c d.c).map (onlyOk g) := by
  unfold ptsCR ptsC ptsL ptsT Cl.c
  simp only [List.map_append, List.map_map]
  congr 1
  · congr 1
    · refine List.map_congr_left fun l hl => ?_
      show PtR.pt ⟨l.r, candLR g l d.ls 0⟩ = onlyOk g ⟨l.r.l, cands l.neg (d.ls.map LitR.c) 0⟩
      unfold PtR.pt onlyOk
      rw [candLR_pt]
    · refine List.map_congr_left fun r hr => ?_
      show PtR.pt ⟨r, candRR g r d.ts 0⟩ = onlyOk g ⟨r.l, candR (d.ts.map fun u => u.l) 0⟩
      unfold PtR.pt onlyOk
      rw [candRR_pt]
  · refine List.map_congr_left fun l hl => ?_
    show PtR.pt ⟨l.r, candLR g l d.cs 0⟩ = onlyOk g ⟨l.r.l, cands l.neg (d.cs.map LitR.c) 0⟩
    unfold PtR.pt onlyOk
    rw [candLR_pt]
theorem candLR_mem {g : List Sym} {l : LitR} : ∀ {ms : List LitR} {n : Nat} {x : Nat × Row}, x ∈ candLR g l ms n → ∃ m ∈ ms, x.2 = m.r
  | [], n, x, h => by simp [candLR] at h
  | m :: ms, n, x, h => by
    rw [candLR] at h
    split at h
    · rcases List.mem_cons.1 h with rfl | h
      · exact ⟨m, by simp, rfl⟩
      · obtain ⟨k, hk, e⟩ := candLR_mem h; exact ⟨k, by simp [hk], e⟩
    · obtain ⟨k, hk, e⟩ := candLR_mem h; exact ⟨k, by simp [hk], e⟩
theorem candRR_mem {g : List Sym} {r : Row} : ∀ {us : List Row} {n : Nat} {x : Nat × Row}, x ∈ candRR g r us n → x.2 ∈ us
  | [], n, x, h => by simp [candRR] at h
  | m :: ms, n, x, h => by
    rw [candRR] at h
    split at h
    · rcases List.mem_cons.1 h with rfl | h
      · simp
      · exact List.mem_cons_of_mem _ (candRR_mem h)
    · exact List.mem_cons_of_mem _ (candRR_mem h)
theorem pts_ok {g : List Sym} {c d : Cl} (hc : ClM c) (hd : ClM d) : ∀ p ∈ ptsCR g c d, PtOk p := by
  have m1 := hd.l5; have m2 := hd.t3; have m3 := hd.c3
  intro p hp
  simp only [ptsCR, ptsL, ptsT, List.mem_append, List.mem_map] at hp
  rcases hp with (⟨l, hl, rfl⟩ | ⟨r, hr, rfl⟩) | ⟨l, hl, rfl⟩
  · exact ⟨hc.ls l hl, fun x hx => by obtain ⟨m, hm, e⟩ := candLR_mem hx; rw [e]; exact hd.ls m hm, Nat.le_trans (candLR_len g l d.ls 0) (by omega)⟩
  · exact ⟨hc.ts r hr, fun x hx => hd.ts _ (candRR_mem hx), Nat.le_trans (candRR_len g r d.ts 0) (by omega)⟩
  · exact ⟨hc.cs l hl, fun x hx => by obtain ⟨m, hm, e⟩ := candLR_mem hx; rw [e]; exact hd.cs m hm, Nat.le_trans (candLR_len g l d.cs 0) (by omega)⟩
/-- The least row of places. -/
def plM (g : List Sym) (c d : Cl) : Option (List Nat) := findF g (ptsC c.c d.c) (fun _ => none)
theorem ptM_near {g : List Sym} {c : Cl} (hb : clB g c = true) : nearP (ptM g c).1 (ptM g c).2 = true ∧ 0 ≤ (ptM g c).1 ∧ 0 ≤ (ptM g c).2 := by
  have hk := clOk.1 ((clB_c g c).symm.trans hb)
  have hl : litsB g c.ls = true := by
    rw [litsB, List.all_eq_true]
    exact fun l hl => hk.la l.c (by simp [Cl.c]; exact ⟨l, hl, rfl⟩)
  have h := ptF_le (sigOk hk.sg) c.ls 0 0 hl (Int.le_refl _) (by omega) (Int.le_refl _) (by omega)
  unfold ptM
  refine ⟨?_, h.1, h.2.2.1⟩
  have h1 := h.1; have h2 := h.2.1; have h3 := h.2.2.1; have h4 := h.2.2.2
  generalize (ptF g c.ls 0 0).1 = a at *
  generalize (ptF g c.ls 0 0).2 = b at *
  rw [nearP, Bool.and_eq_true, near_iff, near_iff]
  omega
theorem w_under' (z : Bool) {g : List Sym} (e : List D) {c d : Cl} (hc : clB g c = true) (hd : clB g d = true) : C 50 [iG z g e, iC c, iC d] = some (iB (decide ((ptM g c).1 ≤ (ptM g d).1) && decide ((ptM g c).2 ≤ (ptM g d).2)), [iG z g e, iC c, iC d]) := by
  refine wfn (lk := []) rfl rfl (fnW_way (q50 _ _ z (syms g) e c.lz (lits c.ls) c.le c.tz (rws c.ts) c.te c.cz (lits c.cs) c.ce d.lz (lits d.ls) d.le d.tz (rws d.ts) d.te d.cz (lits d.cs) d.ce _) ?_)
  have h1 := w_pof z g e c
  have h2 := w_pof z g e d
  rw [hc] at h1; rw [hd] at h2
  simp only [if_true] at h1 h2
  have h3 := w_under (ptM_near hc).1 (ptM_near hd).1
  refine ⟨_, _, _, _, _, h1, _, _, _, _, _, h2, _, _, _, _, h3, ?_⟩
  cases (decide ((ptM g c).1 ≤ (ptM g d).1) && decide ((ptM g c).2 ≤ (ptM g d).2)) <;> rfl
theorem under_of {g : List Sym} {c d : Cl} (hg : SigOk g) (h : (plM g c d).isSome = true) : (ptM g c).1 ≤ (ptM g d).1 ∧ (ptM g c).2 ≤ (ptM g d).2 := by
  obtain ⟨r, hr⟩ := Option.isSome_iff_exists.1 h
  have hs := says_find.1 ⟨r, hr⟩
  unfold ptM
  rw [ptF_top, ptF_top]
  exact ⟨says_under hg hs false, says_under hg hs true⟩
theorem none0 : bsD (fun _ => none) = List.replicate 24 (.sl 1 true [] []) := bsD_none
theorem w_says {g : List Sym} (z : Bool) (e : List D) {c d : Cl} (hc : clB g c = true) (hd : clB g d = true) (hn : NilC c) (hm : NilC d) : C 28 [iG z g e, iC c, iC d] = some (fRes (plM g c d), [iG z g e, iC c, iC d]) := by
  refine wfn (lk := []) rfl rfl (fnW_way (q28 _ _ z (syms g) e c.lz (lits c.ls) c.le c.tz (rws c.ts) c.te c.cz (lits c.cs) c.ce d.lz (lits d.ls) d.le d.tz (rws d.ts) d.te d.cz (lits d.cs) d.ce _) ?_)
  have hg : SigOk g := sigOk (clOk.1 ((clB_c g c).symm.trans hc)).sg
  have h1 := w_under' z e hc hd
  have hcm := clM_of hc hn
  have hdm := clM_of hd hm
  refine ⟨_, _, _, _, h1, ?_⟩
  cases hu : (decide ((ptM g c).1 ≤ (ptM g d).1) && decide ((ptM g c).2 ≤ (ptM g d).2))
  · have : plM g c d = none := by
      cases hp : plM g c d with
      | none => rfl
      | some r =>
        have := under_of hg (c := c) (d := d) (by rw [hp]; rfl)
        simp [this.1, this.2] at hu
    rw [this]; rfl
  have h2 := w_parts' hg z e hcm hdm
  refine condW_t rfl ⟨_, _, _, _, _, h2, ?_⟩
  have l1 := hcm.l5; have l2 := hcm.t3; have l3 := hcm.c3
  have hpl : (ptsCR g c d).length ≤ 1000 := by simp [ptsCR, ptsL, ptsT]; omega
  have hb0 : BsOk (fun _ => none) := fun v t h => by cases h
  have h3 := w_open hg z (ptsCR g c d).isEmpty e [] hpl (pts_ok hcm hdm) hb0
  have h4 := w_find' hg z e (ptsCR g c d) (ptsCR g c d).isEmpty [] (fun _ => none) hpl (pts_ok hcm hdm) hb0
  rw [none0] at h3 h4
  have hp : findF g ((ptsCR g c d).map PtR.pt) (fun _ => none) = plM g c d := by rw [pts_pt, find_filter]; rfl
  rw [hp] at h4
  refine ⟨_, _, _, _, h3, ?_⟩
  cases ho : openF g (fun _ => none) ((ptsCR g c d).map PtR.pt)
  · have : plM g c d = none := by rw [← hp]; exact open_none ho
    rw [this]; rfl
  refine condW_t rfl ?_
  cases hpm : plM g c d with
  | none =>
    rw [hpm] at h4
    exact ⟨_, _, _, _, _, _, h4, rfl⟩
  | some r =>
    rw [hpm] at h4
    exact ⟨_, _, _, _, _, _, h4, rfl⟩
theorem w_places {g : List Sym} (z : Bool) (e : List D) {c d : Cl} (hn : NilC c) (hm : NilC d) : ∃ v, C 10 [iG z g e, iC c, iC d] = some (v, [iG z g e, iC c, iC d]) ∧ ((clB g c && clB g d) = true → v = match plM g c d with | some r => .tup [.own r.isEmpty 3 1 (ints (rI r)), iB true, iI 0] | none => .tup [.own true 3 1 [], iB false, iI 0]) ∧ ((clB g c && clB g d) = false → v = .tup [.own true 3 1 [], iB false, iI 1000]) := by
  cases hc : clB g c
  · refine ⟨_, wfn (lk := []) rfl rfl (fnW_way (q10 _ _ z (syms g) e c.lz (lits c.ls) c.le c.tz (rws c.ts) c.te c.cz (lits c.cs) c.ce d.lz (lits d.ls) d.le d.tz (rws d.ts) d.te d.cz (lits d.cs) d.ce _) ⟨_, _, _, w_clmay z g e c, by rw [hc]; rfl⟩), by simp, fun _ => rfl⟩
  cases hd : clB g d
  · refine ⟨_, wfn (lk := []) rfl rfl (fnW_way (q10 _ _ z (syms g) e c.lz (lits c.ls) c.le c.tz (rws c.ts) c.te c.cz (lits c.cs) c.ce d.lz (lits d.ls) d.le d.tz (rws d.ts) d.te d.cz (lits d.cs) d.ce _) ⟨_, _, _, w_clmay z g e c, by rw [hc]; exact ⟨_, _, _, w_clmay z g e d, by rw [hd]; rfl⟩⟩), by simp, fun _ => rfl⟩
  have h := w_says z e hc hd hn hm
  cases hp : plM g c d with
  | none =>
    rw [hp] at h
    exact ⟨_, wfn (lk := []) rfl rfl (fnW_way (q10 _ _ z (syms g) e c.lz (lits c.ls) c.le c.tz (rws c.ts) c.te c.cz (lits c.cs) c.ce d.lz (lits d.ls) d.le d.tz (rws d.ts) d.te d.cz (lits d.cs) d.ce _) ⟨_, _, _, w_clmay z g e c, by rw [hc]; exact ⟨_, _, _, w_clmay z g e d, by rw [hd]; exact ⟨_, _, _, _, _, _, h, rfl⟩⟩⟩), fun _ => rfl, by simp⟩
  | some r =>
    rw [hp] at h
    exact ⟨_, wfn (lk := []) rfl rfl (fnW_way (q10 _ _ z (syms g) e c.lz (lits c.ls) c.le c.tz (rws c.ts) c.te c.cz (lits c.cs) c.ce d.lz (lits d.ls) d.le d.tz (rws d.ts) d.te d.cz (lits d.cs) d.ce _) ⟨_, _, _, w_clmay z g e c, by rw [hc]; exact ⟨_, _, _, w_clmay z g e d, by rw [hd]; exact ⟨_, _, _, _, _, _, h, rfl⟩⟩⟩), fun _ => rfl, by simp⟩
def mayB (g : List Sym) (c d : Cl) : Bool := clB g c && clB g d
theorem w_does {g : List Sym} (z : Bool) (e : List D) {c d : Cl} (hn : NilC c) (hm : NilC d) : C 12 [iG z g e, iC c, iC d] = some (.tup [iB (mayB g c d && (plM g c d).isSome), iI (if mayB g c d = true then 0 else 1000)], [iG z g e, iC c, iC d]) := by
  refine wfn (lk := []) rfl rfl (fnW_way (q12 _ _ z (syms g) e c.lz (lits c.ls) c.le c.tz (rws c.ts) c.te c.cz (lits c.cs) c.ce d.lz (lits d.ls) d.le d.tz (rws d.ts) d.te d.cz (lits d.cs) d.ce _) ?_)
  obtain ⟨v, h, h1, h2⟩ := w_places z e hn hm (g := g)
  unfold mayB
  cases hb : (clB g c && clB g d)
  · rw [h2 hb] at h
    exact ⟨_, _, _, _, _, _, _, h, rfl⟩
  · cases hp : plM g c d with
    | none =>
      rw [h1 hb, hp] at h
      exact ⟨_, _, _, _, _, _, _, h, rfl⟩
    | some r =>
      rw [h1 hb, hp] at h
      exact ⟨_, _, _, _, _, _, _, h, rfl⟩
theorem does_iff {g : List Sym} {c d : Cl} : (plM g c d).isSome = true ↔ Says g c.c d.c := by
  rw [← says_find, Option.isSome_iff_exists]; rfl
end Go.Proofs.YtekdlnofmbfdgaaDoor.Ab

/- Written by a program of this session (wip/tools/AbSym.lean). Not trusted: Lean checks it. -/
set_option maxRecDepth 100000
set_option linter.unusedVariables false
namespace Go.Proofs.YtekdlnofmbfdgaaDoor.Ab
open Go Go.Ab Go.Proofs
def L4 : Lps := fun b => match b with
  | _ => [.norm []]
theorem q4 (C J) (z1 : Bool) (x2 : List D) (e3 : List D) (z4 : Bool) (x5 : List D) (e6 : List D) (z7 : Bool) (x8 : List D) (e9 : List D) (z10 : Bool) (x11 : List D) (e12 : List D) (z13 : Bool) (x14 : List D) (e15 : List D) (z16 : Bool) (x17 : List D) (e18 : List D) (z19 : Bool) (x20 : List D) (e21 : List D) (z22 : Bool) (x23 : List D) (e24 : List D) (z25 : Bool) (x26 : List D) (e27 : List D) (z28 : Bool) (x29 : List D) (e30 : List D) (Q) : fnW F C R (L4) J d4 [.d (.sl 4 z1 x2 e3), .d (.agg [.sl 2 z4 x5 e6, .sl 1 z7 x8 e9, .sl 2 z10 x11 e12]), .d (.agg [.sl 2 z13 x14 e15, .sl 1 z16 x17 e18, .sl 2 z19 x20 e21]), .d (.agg [.sl 2 z22 x23 e24, .sl 1 z25 x26 e27, .sl 2 z28 x29 e30])] Q = (∃ w0, C 16 [] = some (IV.d (D.bool w0), []) ∧ condW w0 (∃ w1 w2 w3 w4 w5, C 12 [IV.d (D.sl 4 z1 x2 e3), IV.d (D.agg [D.sl 2 z4 x5 e6, D.sl 1 z7 x8 e9, D.sl 2 z10 x11 e12]), IV.d (D.agg [D.sl 2 z4 x5 e6, D.sl 1 z7 x8 e9, D.sl 2 z10 x11 e12])] = some (IV.tup [IV.d (D.bool w1), IV.d (D.int IntKind.i64 w2)], [IV.d w3, IV.d w4, IV.d w5]) ∧ condW w1 (∃ w6 w7 w8 w9 w10, C 12 [IV.d (D.sl 4 z1 x2 e3), IV.d (D.agg [D.sl 2 z4 x5 e6, D.sl 1 z7 x8 e9, D.sl 2 z10 x11 e12]), IV.d (D.agg [D.sl 2 z13 x14 e15, D.sl 1 z16 x17 e18, D.sl 2 z19 x20 e21])] = some (IV.tup [IV.d (D.bool w6), IV.d (D.int IntKind.i64 w7)], [IV.d w8, IV.d w9, IV.d w10]) ∧ condW w6 (∃ w11 w12 w13 w14 w15, C 12 [IV.d (D.sl 4 z1 x2 e3), IV.d (D.agg [D.sl 2 z13 x14 e15, D.sl 1 z16 x17 e18, D.sl 2 z19 x20 e21]), IV.d (D.agg [D.sl 2 z22 x23 e24, D.sl 1 z25 x26 e27, D.sl 2 z28 x29 e30])] = some (IV.tup [IV.d (D.bool w11), IV.d (D.int IntKind.i64 w12)], [IV.d w13, IV.d w14, IV.d w15]) ∧ condW w11 (∃ w16 w17, C 14 [IV.d (D.int IntKind.i64 w2)] = some (IV.d (D.int IntKind.i64 w16), [IV.d w17]) ∧ condW (w16 != 0) (Q (some (IV.d (D.bool false), [IV.d (D.sl 4 z1 x2 e3), IV.d (D.agg [D.sl 2 z4 x5 e6, D.sl 1 z7 x8 e9, D.sl 2 z10 x11 e12]), IV.d (D.agg [D.sl 2 z13 x14 e15, D.sl 1 z16 x17 e18, D.sl 2 z19 x20 e21]), IV.d (D.agg [D.sl 2 z22 x23 e24, D.sl 1 z25 x26 e27, D.sl 2 z28 x29 e30])]))) (∃ w18 w19, C 14 [IV.d (D.int IntKind.i64 w7)] = some (IV.d (D.int IntKind.i64 w18), [IV.d w19]) ∧ condW (w18 != 0) (Q (some (IV.d (D.bool true), [IV.d (D.sl 4 z1 x2 e3), IV.d (D.agg [D.sl 2 z4 x5 e6, D.sl 1 z7 x8 e9, D.sl 2 z10 x11 e12]), IV.d (D.agg [D.sl 2 z13 x14 e15, D.sl 1 z16 x17 e18, D.sl 2 z19 x20 e21]), IV.d (D.agg [D.sl 2 z22 x23 e24, D.sl 1 z25 x26 e27, D.sl 2 z28 x29 e30])]))) (∃ w20 w21, C 14 [IV.d (D.int IntKind.i64 w12)] = some (IV.d (D.int IntKind.i64 w20), [IV.d w21]) ∧ condW (w20 != 0) (Q (some (IV.d (D.bool true), [IV.d (D.sl 4 z1 x2 e3), IV.d (D.agg [D.sl 2 z4 x5 e6, D.sl 1 z7 x8 e9, D.sl 2 z10 x11 e12]), IV.d (D.agg [D.sl 2 z13 x14 e15, D.sl 1 z16 x17 e18, D.sl 2 z19 x20 e21]), IV.d (D.agg [D.sl 2 z22 x23 e24, D.sl 1 z25 x26 e27, D.sl 2 z28 x29 e30])]))) (∃ w22 w23 w24 w25 w26, C 12 [IV.d (D.sl 4 z1 x2 e3), IV.d (D.agg [D.sl 2 z4 x5 e6, D.sl 1 z7 x8 e9, D.sl 2 z10 x11 e12]), IV.d (D.agg [D.sl 2 z22 x23 e24, D.sl 1 z25 x26 e27, D.sl 2 z28 x29 e30])] = some (IV.tup [IV.d (D.bool w22), IV.d (D.int IntKind.i64 w23)], [IV.d w24, IV.d w25, IV.d w26]) ∧ condW w22 (∃ w27 w28, C 14 [IV.d (D.int IntKind.i64 w23)] = some (IV.d (D.int IntKind.i64 w27), [IV.d w28]) ∧ condW (w27 == 0) (Q (some (IV.d (D.bool true), [IV.d (D.sl 4 z1 x2 e3), IV.d (D.agg [D.sl 2 z4 x5 e6, D.sl 1 z7 x8 e9, D.sl 2 z10 x11 e12]), IV.d (D.agg [D.sl 2 z13 x14 e15, D.sl 1 z16 x17 e18, D.sl 2 z19 x20 e21]), IV.d (D.agg [D.sl 2 z22 x23 e24, D.sl 1 z25 x26 e27, D.sl 2 z28 x29 e30])]))) (Q (some (IV.d (D.bool false), [IV.d (D.sl 4 z1 x2 e3), IV.d (D.agg [D.sl 2 z4 x5 e6, D.sl 1 z7 x8 e9, D.sl 2 z10 x11 e12]), IV.d (D.agg [D.sl 2 z13 x14 e15, D.sl 1 z16 x17 e18, D.sl 2 z19 x20 e21]), IV.d (D.agg [D.sl 2 z22 x23 e24, D.sl 1 z25 x26 e27, D.sl 2 z28 x29 e30])])))) (Q (some (IV.d (D.bool false), [IV.d (D.sl 4 z1 x2 e3), IV.d (D.agg [D.sl 2 z4 x5 e6, D.sl 1 z7 x8 e9, D.sl 2 z10 x11 e12]), IV.d (D.agg [D.sl 2 z13 x14 e15, D.sl 1 z16 x17 e18, D.sl 2 z19 x20 e21]), IV.d (D.agg [D.sl 2 z22 x23 e24, D.sl 1 z25 x26 e27, D.sl 2 z28 x29 e30])]))))))) (∃ w29 w30, C 14 [IV.d (D.int IntKind.i64 w2)] = some (IV.d (D.int IntKind.i64 w29), [IV.d w30]) ∧ condW (w29 != 0) (Q (some (IV.d (D.bool false), [IV.d (D.sl 4 z1 x2 e3), IV.d (D.agg [D.sl 2 z4 x5 e6, D.sl 1 z7 x8 e9, D.sl 2 z10 x11 e12]), IV.d (D.agg [D.sl 2 z13 x14 e15, D.sl 1 z16 x17 e18, D.sl 2 z19 x20 e21]), IV.d (D.agg [D.sl 2 z22 x23 e24, D.sl 1 z25 x26 e27, D.sl 2 z28 x29 e30])]))) (∃ w31 w32, C 14 [IV.d (D.int IntKind.i64 w7)] = some (IV.d (D.int IntKind.i64 w31), [IV.d w32]) ∧ condW (w31 != 0) (Q (some (IV.d (D.bool true), [IV.d (D.sl 4 z1 x2 e3), IV.d (D.agg [D.sl 2 z4 x5 e6, D.sl 1 z7 x8 e9, D.sl 2 z10 x11 e12]), IV.d (D.agg [D.sl 2 z13 x14 e15, D.sl 1 z16 x17 e18, D.sl 2 z19 x20 e21]), IV.d (D.agg [D.sl 2 z22 x23 e24, D.sl 1 z25 x26 e27, D.sl 2 z28 x29 e30])]))) (∃ w33 w34, C 14 [IV.d (D.int IntKind.i64 w12)] = some (IV.d (D.int IntKind.i64 w33), [IV.d w34]) ∧ condW (w33 != 0) (Q (some (IV.d (D.bool true), [IV.d (D.sl 4 z1 x2 e3), IV.d (D.agg [D.sl 2 z4 x5 e6, D.sl 1 z7 x8 e9, D.sl 2 z10 x11 e12]), IV.d (D.agg [D.sl 2 z13 x14 e15, D.sl 1 z16 x17 e18, D.sl 2 z19 x20 e21]), IV.d (D.agg [D.sl 2 z22 x23 e24, D.sl 1 z25 x26 e27, D.sl 2 z28 x29 e30])]))) (Q (some (IV.d (D.bool true), [IV.d (D.sl 4 z1 x2 e3), IV.d (D.agg [D.sl 2 z4 x5 e6, D.sl 1 z7 x8 e9, D.sl 2 z10 x11 e12]), IV.d (D.agg [D.sl 2 z13 x14 e15, D.sl 1 z16 x17 e18, D.sl 2 z19 x20 e21]), IV.d (D.agg [D.sl 2 z22 x23 e24, D.sl 1 z25 x26 e27, D.sl 2 z28 x29 e30])]))))))) (∃ w35 w36 w37 w38 w39, C 12 [IV.d (D.sl 4 z1 x2 e3), IV.d (D.agg [D.sl 2 z13 x14 e15, D.sl 1 z16 x17 e18, D.sl 2 z19 x20 e21]), IV.d (D.agg [D.sl 2 z22 x23 e24, D.sl 1 z25 x26 e27, D.sl 2 z28 x29 e30])] = some (IV.tup [IV.d (D.bool w35), IV.d (D.int IntKind.i64 w36)], [IV.d w37, IV.d w38, IV.d w39]) ∧ condW w35 (∃ w40 w41, C 14 [IV.d (D.int IntKind.i64 w2)] = some (IV.d (D.int IntKind.i64 w40), [IV.d w41]) ∧ condW (w40 != 0) (Q (some (IV.d (D.bool false), [IV.d (D.sl 4 z1 x2 e3), IV.d (D.agg [D.sl 2 z4 x5 e6, D.sl 1 z7 x8 e9, D.sl 2 z10 x11 e12]), IV.d (D.agg [D.sl 2 z13 x14 e15, D.sl 1 z16 x17 e18, D.sl 2 z19 x20 e21]), IV.d (D.agg [D.sl 2 z22 x23 e24, D.sl 1 z25 x26 e27, D.sl 2 z28 x29 e30])]))) (∃ w42 w43, C 14 [IV.d (D.int IntKind.i64 w7)] = some (IV.d (D.int IntKind.i64 w42), [IV.d w43]) ∧ condW (w42 != 0) (Q (some (IV.d (D.bool true), [IV.d (D.sl 4 z1 x2 e3), IV.d (D.agg [D.sl 2 z4 x5 e6, D.sl 1 z7 x8 e9, D.sl 2 z10 x11 e12]), IV.d (D.agg [D.sl 2 z13 x14 e15, D.sl 1 z16 x17 e18, D.sl 2 z19 x20 e21]), IV.d (D.agg [D.sl 2 z22 x23 e24, D.sl 1 z25 x26 e27, D.sl 2 z28 x29 e30])]))) (∃ w44 w45, C 14 [IV.d (D.int IntKind.i64 w36)] = some (IV.d (D.int IntKind.i64 w44), [IV.d w45]) ∧ condW (w44 != 0) (Q (some (IV.d (D.bool true), [IV.d (D.sl 4 z1 x2 e3), IV.d (D.agg [D.sl 2 z4 x5 e6, D.sl 1 z7 x8 e9, D.sl 2 z10 x11 e12]), IV.d (D.agg [D.sl 2 z13 x14 e15, D.sl 1 z16 x17 e18, D.sl 2 z19 x20 e21]), IV.d (D.agg [D.sl 2 z22 x23 e24, D.sl 1 z25 x26 e27, D.sl 2 z28 x29 e30])]))) (Q (some (IV.d (D.bool true), [IV.d (D.sl 4 z1 x2 e3), IV.d (D.agg [D.sl 2 z4 x5 e6, D.sl 1 z7 x8 e9, D.sl 2 z10 x11 e12]), IV.d (D.agg [D.sl 2 z13 x14 e15, D.sl 1 z16 x17 e18, D.sl 2 z19 x20 e21]), IV.d (D.agg [D.sl 2 z22 x23 e24, D.sl 1 z25 x26 e27, D.sl 2 z28 x29 e30])])))))) (∃ w46 w47, C 14 [IV.d (D.int IntKind.i64 w2)] = some (IV.d (D.int IntKind.i64 w46), [IV.d w47]) ∧ condW (w46 != 0) (Q (some (IV.d (D.bool false), [IV.d (D.sl 4 z1 x2 e3), IV.d (D.agg [D.sl 2 z4 x5 e6, D.sl 1 z7 x8 e9, D.sl 2 z10 x11 e12]), IV.d (D.agg [D.sl 2 z13 x14 e15, D.sl 1 z16 x17 e18, D.sl 2 z19 x20 e21]), IV.d (D.agg [D.sl 2 z22 x23 e24, D.sl 1 z25 x26 e27, D.sl 2 z28 x29 e30])]))) (∃ w48 w49, C 14 [IV.d (D.int IntKind.i64 w7)] = some (IV.d (D.int IntKind.i64 w48), [IV.d w49]) ∧ condW (w48 != 0) (Q (some (IV.d (D.bool true), [IV.d (D.sl 4 z1 x2 e3), IV.d (D.agg [D.sl 2 z4 x5 e6, D.sl 1 z7 x8 e9, D.sl 2 z10 x11 e12]), IV.d (D.agg [D.sl 2 z13 x14 e15, D.sl 1 z16 x17 e18, D.sl 2 z19 x20 e21]), IV.d (D.agg [D.sl 2 z22 x23 e24, D.sl 1 z25 x26 e27, D.sl 2 z28 x29 e30])]))) (∃ w50 w51, C 14 [IV.d (D.int IntKind.i64 w36)] = some (IV.d (D.int IntKind.i64 w50), [IV.d w51]) ∧ condW (w50 != 0) (Q (some (IV.d (D.bool true), [IV.d (D.sl 4 z1 x2 e3), IV.d (D.agg [D.sl 2 z4 x5 e6, D.sl 1 z7 x8 e9, D.sl 2 z10 x11 e12]), IV.d (D.agg [D.sl 2 z13 x14 e15, D.sl 1 z16 x17 e18, D.sl 2 z19 x20 e21]), IV.d (D.agg [D.sl 2 z22 x23 e24, D.sl 1 z25 x26 e27, D.sl 2 z28 x29 e30])]))) (Q (some (IV.d (D.bool true), [IV.d (D.sl 4 z1 x2 e3), IV.d (D.agg [D.sl 2 z4 x5 e6, D.sl 1 z7 x8 e9, D.sl 2 z10 x11 e12]), IV.d (D.agg [D.sl 2 z13 x14 e15, D.sl 1 z16 x17 e18, D.sl 2 z19 x20 e21]), IV.d (D.agg [D.sl 2 z22 x23 e24, D.sl 1 z25 x26 e27, D.sl 2 z28 x29 e30])])))))))) (∃ w52 w53 w54 w55 w56, C 12 [IV.d (D.sl 4 z1 x2 e3), IV.d (D.agg [D.sl 2 z4 x5 e6, D.sl 1 z7 x8 e9, D.sl 2 z10 x11 e12]), IV.d (D.agg [D.sl 2 z13 x14 e15, D.sl 1 z16 x17 e18, D.sl 2 z19 x20 e21])] = some (IV.tup [IV.d (D.bool w52), IV.d (D.int IntKind.i64 w53)], [IV.d w54, IV.d w55, IV.d w56]) ∧ condW w52 (∃ w57 w58 w59 w60 w61, C 12 [IV.d (D.sl 4 z1 x2 e3), IV.d (D.agg [D.sl 2 z13 x14 e15, D.sl 1 z16 x17 e18, D.sl 2 z19 x20 e21]), IV.d (D.agg [D.sl 2 z22 x23 e24, D.sl 1 z25 x26 e27, D.sl 2 z28 x29 e30])] = some (IV.tup [IV.d (D.bool w57), IV.d (D.int IntKind.i64 w58)], [IV.d w59, IV.d w60, IV.d w61]) ∧ condW w57 (∃ w62 w63, C 14 [IV.d (D.int IntKind.i64 w2)] = some (IV.d (D.int IntKind.i64 w62), [IV.d w63]) ∧ condW (w62 != 0) (Q (some (IV.d (D.bool true), [IV.d (D.sl 4 z1 x2 e3), IV.d (D.agg [D.sl 2 z4 x5 e6, D.sl 1 z7 x8 e9, D.sl 2 z10 x11 e12]), IV.d (D.agg [D.sl 2 z13 x14 e15, D.sl 1 z16 x17 e18, D.sl 2 z19 x20 e21]), IV.d (D.agg [D.sl 2 z22 x23 e24, D.sl 1 z25 x26 e27, D.sl 2 z28 x29 e30])]))) (∃ w64 w65, C 14 [IV.d (D.int IntKind.i64 w53)] = some (IV.d (D.int IntKind.i64 w64), [IV.d w65]) ∧ condW (w64 != 0) (Q (some (IV.d (D.bool false), [IV.d (D.sl 4 z1 x2 e3), IV.d (D.agg [D.sl 2 z4 x5 e6, D.sl 1 z7 x8 e9, D.sl 2 z10 x11 e12]), IV.d (D.agg [D.sl 2 z13 x14 e15, D.sl 1 z16 x17 e18, D.sl 2 z19 x20 e21]), IV.d (D.agg [D.sl 2 z22 x23 e24, D.sl 1 z25 x26 e27, D.sl 2 z28 x29 e30])]))) (∃ w66 w67, C 14 [IV.d (D.int IntKind.i64 w58)] = some (IV.d (D.int IntKind.i64 w66), [IV.d w67]) ∧ condW (w66 != 0) (Q (some (IV.d (D.bool false), [IV.d (D.sl 4 z1 x2 e3), IV.d (D.agg [D.sl 2 z4 x5 e6, D.sl 1 z7 x8 e9, D.sl 2 z10 x11 e12]), IV.d (D.agg [D.sl 2 z13 x14 e15, D.sl 1 z16 x17 e18, D.sl 2 z19 x20 e21]), IV.d (D.agg [D.sl 2 z22 x23 e24, D.sl 1 z25 x26 e27, D.sl 2 z28 x29 e30])]))) (∃ w68 w69 w70 w71 w72, C 12 [IV.d (D.sl 4 z1 x2 e3), IV.d (D.agg [D.sl 2 z4 x5 e6, D.sl 1 z7 x8 e9, D.sl 2 z10 x11 e12]), IV.d (D.agg [D.sl 2 z22 x23 e24, D.sl 1 z25 x26 e27, D.sl 2 z28 x29 e30])] = some (IV.tup [IV.d (D.bool w68), IV.d (D.int IntKind.i64 w69)], [IV.d w70, IV.d w71, IV.d w72]) ∧ condW w68 (Q (some (IV.d (D.bool false), [IV.d (D.sl 4 z1 x2 e3), IV.d (D.agg [D.sl 2 z4 x5 e6, D.sl 1 z7 x8 e9, D.sl 2 z10 x11 e12]), IV.d (D.agg [D.sl 2 z13 x14 e15, D.sl 1 z16 x17 e18, D.sl 2 z19 x20 e21]), IV.d (D.agg [D.sl 2 z22 x23 e24, D.sl 1 z25 x26 e27, D.sl 2 z28 x29 e30])]))) (Q (some (IV.d (D.bool false), [IV.d (D.sl 4 z1 x2 e3), IV.d (D.agg [D.sl 2 z4 x5 e6, D.sl 1 z7 x8 e9, D.sl 2 z10 x11 e12]), IV.d (D.agg [D.sl 2 z13 x14 e15, D.sl 1 z16 x17 e18, D.sl 2 z19 x20 e21]), IV.d (D.agg [D.sl 2 z22 x23 e24, D.sl 1 z25 x26 e27, D.sl 2 z28 x29 e30])]))))))) (∃ w73 w74, C 14 [IV.d (D.int IntKind.i64 w2)] = some (IV.d (D.int IntKind.i64 w73), [IV.d w74]) ∧ condW (w73 != 0) (Q (some (IV.d (D.bool true), [IV.d (D.sl 4 z1 x2 e3), IV.d (D.agg [D.sl 2 z4 x5 e6, D.sl 1 z7 x8 e9, D.sl 2 z10 x11 e12]), IV.d (D.agg [D.sl 2 z13 x14 e15, D.sl 1 z16 x17 e18, D.sl 2 z19 x20 e21]), IV.d (D.agg [D.sl 2 z22 x23 e24, D.sl 1 z25 x26 e27, D.sl 2 z28 x29 e30])]))) (∃ w75 w76, C 14 [IV.d (D.int IntKind.i64 w53)] = some (IV.d (D.int IntKind.i64 w75), [IV.d w76]) ∧ condW (w75 != 0) (Q (some (IV.d (D.bool false), [IV.d (D.sl 4 z1 x2 e3), IV.d (D.agg [D.sl 2 z4 x5 e6, D.sl 1 z7 x8 e9, D.sl 2 z10 x11 e12]), IV.d (D.agg [D.sl 2 z13 x14 e15, D.sl 1 z16 x17 e18, D.sl 2 z19 x20 e21]), IV.d (D.agg [D.sl 2 z22 x23 e24, D.sl 1 z25 x26 e27, D.sl 2 z28 x29 e30])]))) (∃ w77 w78, C 14 [IV.d (D.int IntKind.i64 w58)] = some (IV.d (D.int IntKind.i64 w77), [IV.d w78]) ∧ condW (w77 != 0) (Q (some (IV.d (D.bool false), [IV.d (D.sl 4 z1 x2 e3), IV.d (D.agg [D.sl 2 z4 x5 e6, D.sl 1 z7 x8 e9, D.sl 2 z10 x11 e12]), IV.d (D.agg [D.sl 2 z13 x14 e15, D.sl 1 z16 x17 e18, D.sl 2 z19 x20 e21]), IV.d (D.agg [D.sl 2 z22 x23 e24, D.sl 1 z25 x26 e27, D.sl 2 z28 x29 e30])]))) (Q (some (IV.d (D.bool false), [IV.d (D.sl 4 z1 x2 e3), IV.d (D.agg [D.sl 2 z4 x5 e6, D.sl 1 z7 x8 e9, D.sl 2 z10 x11 e12]), IV.d (D.agg [D.sl 2 z13 x14 e15, D.sl 1 z16 x17 e18, D.sl 2 z19 x20 e21]), IV.d (D.agg [D.sl 2 z22 x23 e24, D.sl 1 z25 x26 e27, D.sl 2 z28 x29 e30])]))))))) (∃ w79 w80 w81 w82 w83, C 12 [IV.d (D.sl 4 z1 x2 e3), IV.d (D.agg [D.sl 2 z13 x14 e15, D.sl 1 z16 x17 e18, D.sl 2 z19 x20 e21]), IV.d (D.agg [D.sl 2 z22 x23 e24, D.sl 1 z25 x26 e27, D.sl 2 z28 x29 e30])] = some (IV.tup [IV.d (D.bool w79), IV.d (D.int IntKind.i64 w80)], [IV.d w81, IV.d w82, IV.d w83]) ∧ condW w79 (∃ w84 w85, C 14 [IV.d (D.int IntKind.i64 w2)] = some (IV.d (D.int IntKind.i64 w84), [IV.d w85]) ∧ condW (w84 != 0) (Q (some (IV.d (D.bool true), [IV.d (D.sl 4 z1 x2 e3), IV.d (D.agg [D.sl 2 z4 x5 e6, D.sl 1 z7 x8 e9, D.sl 2 z10 x11 e12]), IV.d (D.agg [D.sl 2 z13 x14 e15, D.sl 1 z16 x17 e18, D.sl 2 z19 x20 e21]), IV.d (D.agg [D.sl 2 z22 x23 e24, D.sl 1 z25 x26 e27, D.sl 2 z28 x29 e30])]))) (∃ w86 w87, C 14 [IV.d (D.int IntKind.i64 w53)] = some (IV.d (D.int IntKind.i64 w86), [IV.d w87]) ∧ condW (w86 != 0) (Q (some (IV.d (D.bool false), [IV.d (D.sl 4 z1 x2 e3), IV.d (D.agg [D.sl 2 z4 x5 e6, D.sl 1 z7 x8 e9, D.sl 2 z10 x11 e12]), IV.d (D.agg [D.sl 2 z13 x14 e15, D.sl 1 z16 x17 e18, D.sl 2 z19 x20 e21]), IV.d (D.agg [D.sl 2 z22 x23 e24, D.sl 1 z25 x26 e27, D.sl 2 z28 x29 e30])]))) (∃ w88 w89, C 14 [IV.d (D.int IntKind.i64 w80)] = some (IV.d (D.int IntKind.i64 w88), [IV.d w89]) ∧ condW (w88 != 0) (Q (some (IV.d (D.bool false), [IV.d (D.sl 4 z1 x2 e3), IV.d (D.agg [D.sl 2 z4 x5 e6, D.sl 1 z7 x8 e9, D.sl 2 z10 x11 e12]), IV.d (D.agg [D.sl 2 z13 x14 e15, D.sl 1 z16 x17 e18, D.sl 2 z19 x20 e21]), IV.d (D.agg [D.sl 2 z22 x23 e24, D.sl 1 z25 x26 e27, D.sl 2 z28 x29 e30])]))) (Q (some (IV.d (D.bool false), [IV.d (D.sl 4 z1 x2 e3), IV.d (D.agg [D.sl 2 z4 x5 e6, D.sl 1 z7 x8 e9, D.sl 2 z10 x11 e12]), IV.d (D.agg [D.sl 2 z13 x14 e15, D.sl 1 z16 x17 e18, D.sl 2 z19 x20 e21]), IV.d (D.agg [D.sl 2 z22 x23 e24, D.sl 1 z25 x26 e27, D.sl 2 z28 x29 e30])])))))) (∃ w90 w91, C 14 [IV.d (D.int IntKind.i64 w2)] = some (IV.d (D.int IntKind.i64 w90), [IV.d w91]) ∧ condW (w90 != 0) (Q (some (IV.d (D.bool true), [IV.d (D.sl 4 z1 x2 e3), IV.d (D.agg [D.sl 2 z4 x5 e6, D.sl 1 z7 x8 e9, D.sl 2 z10 x11 e12]), IV.d (D.agg [D.sl 2 z13 x14 e15, D.sl 1 z16 x17 e18, D.sl 2 z19 x20 e21]), IV.d (D.agg [D.sl 2 z22 x23 e24, D.sl 1 z25 x26 e27, D.sl 2 z28 x29 e30])]))) (∃ w92 w93, C 14 [IV.d (D.int IntKind.i64 w53)] = some (IV.d (D.int IntKind.i64 w92), [IV.d w93]) ∧ condW (w92 != 0) (Q (some (IV.d (D.bool false), [IV.d (D.sl 4 z1 x2 e3), IV.d (D.agg [D.sl 2 z4 x5 e6, D.sl 1 z7 x8 e9, D.sl 2 z10 x11 e12]), IV.d (D.agg [D.sl 2 z13 x14 e15, D.sl 1 z16 x17 e18, D.sl 2 z19 x20 e21]), IV.d (D.agg [D.sl 2 z22 x23 e24, D.sl 1 z25 x26 e27, D.sl 2 z28 x29 e30])]))) (∃ w94 w95, C 14 [IV.d (D.int IntKind.i64 w80)] = some (IV.d (D.int IntKind.i64 w94), [IV.d w95]) ∧ condW (w94 != 0) (Q (some (IV.d (D.bool false), [IV.d (D.sl 4 z1 x2 e3), IV.d (D.agg [D.sl 2 z4 x5 e6, D.sl 1 z7 x8 e9, D.sl 2 z10 x11 e12]), IV.d (D.agg [D.sl 2 z13 x14 e15, D.sl 1 z16 x17 e18, D.sl 2 z19 x20 e21]), IV.d (D.agg [D.sl 2 z22 x23 e24, D.sl 1 z25 x26 e27, D.sl 2 z28 x29 e30])]))) (Q (some (IV.d (D.bool false), [IV.d (D.sl 4 z1 x2 e3), IV.d (D.agg [D.sl 2 z4 x5 e6, D.sl 1 z7 x8 e9, D.sl 2 z10 x11 e12]), IV.d (D.agg [D.sl 2 z13 x14 e15, D.sl 1 z16 x17 e18, D.sl 2 z19 x20 e21]), IV.d (D.agg [D.sl 2 z22 x23 e24, D.sl 1 z25 x26 e27, D.sl 2 z28 x29 e30])]))))))))) (Q (some (IV.d (D.bool false), [IV.d (D.sl 4 z1 x2 e3), IV.d (D.agg [D.sl 2 z4 x5 e6, D.sl 1 z7 x8 e9, D.sl 2 z10 x11 e12]), IV.d (D.agg [D.sl 2 z13 x14 e15, D.sl 1 z16 x17 e18, D.sl 2 z19 x20 e21]), IV.d (D.agg [D.sl 2 z22 x23 e24, D.sl 1 z25 x26 e27, D.sl 2 z28 x29 e30])])))) := by kernel_rfl
end Go.Proofs.YtekdlnofmbfdgaaDoor.Ab

/- Written by a program of this session (wip/tools/AbSym.lean). Not trusted: Lean checks it. -/
set_option maxRecDepth 100000
set_option linter.unusedVariables false
namespace Go.Proofs.YtekdlnofmbfdgaaDoor.Ab
open Go Go.Ab Go.Proofs
def L5 : Lps := fun b => match b with
  | _ => [.norm []]
theorem q5 (C J) (z1 : Bool) (x2 : List D) (e3 : List D) (z4 : Bool) (x5 : List D) (e6 : List D) (z7 : Bool) (x8 : List D) (e9 : List D) (z10 : Bool) (x11 : List D) (e12 : List D) (z13 : Bool) (x14 : List D) (e15 : List D) (z16 : Bool) (x17 : List D) (e18 : List D) (z19 : Bool) (x20 : List D) (e21 : List D) (Q) : fnW F C R (L5) J d5 [.d (.sl 4 z1 x2 e3), .d (.agg [.sl 2 z4 x5 e6, .sl 1 z7 x8 e9, .sl 2 z10 x11 e12]), .d (.agg [.sl 2 z13 x14 e15, .sl 1 z16 x17 e18, .sl 2 z19 x20 e21])] Q = (∃ w0, C 16 [] = some (IV.d (D.bool w0), []) ∧ condW w0 (∃ w1 w2 w3 w4 w5, C 12 [IV.d (D.sl 4 z1 x2 e3), IV.d (D.agg [D.sl 2 z4 x5 e6, D.sl 1 z7 x8 e9, D.sl 2 z10 x11 e12]), IV.d (D.agg [D.sl 2 z13 x14 e15, D.sl 1 z16 x17 e18, D.sl 2 z19 x20 e21])] = some (IV.tup [IV.d (D.bool w1), IV.d (D.int IntKind.i64 w2)], [IV.d w3, IV.d w4, IV.d w5]) ∧ condW w1 (∃ w6 w7, C 14 [IV.d (D.int IntKind.i64 w2)] = some (IV.d (D.int IntKind.i64 w6), [IV.d w7]) ∧ condW (w6 != 0) (Q (some (IV.d (D.bool false), [IV.d (D.sl 4 z1 x2 e3), IV.d (D.agg [D.sl 2 z4 x5 e6, D.sl 1 z7 x8 e9, D.sl 2 z10 x11 e12]), IV.d (D.agg [D.sl 2 z13 x14 e15, D.sl 1 z16 x17 e18, D.sl 2 z19 x20 e21])]))) (∃ w8 w9 w10 w11 w12, C 17 [IV.d (D.sl 4 z1 x2 e3), IV.d (D.agg [D.sl 2 z4 x5 e6, D.sl 1 z7 x8 e9, D.sl 2 z10 x11 e12])] = some (IV.tup [IV.d (D.agg [D.int IntKind.i64 w8, D.int IntKind.i64 w9]), IV.d (D.int IntKind.i64 w10)], [IV.d w11, IV.d w12]) ∧ ∃ w13 w14 w15 w16 w17, C 17 [IV.d (D.sl 4 z1 x2 e3), IV.d (D.agg [D.sl 2 z13 x14 e15, D.sl 1 z16 x17 e18, D.sl 2 z19 x20 e21])] = some (IV.tup [IV.d (D.agg [D.int IntKind.i64 w13, D.int IntKind.i64 w14]), IV.d (D.int IntKind.i64 w15)], [IV.d w16, IV.d w17]) ∧ ∃ w18 w19 w20 w21, C 18 [IV.d (D.agg [D.int IntKind.i64 w8, D.int IntKind.i64 w9]), IV.d (D.agg [D.int IntKind.i64 w13, D.int IntKind.i64 w14])] = some (IV.tup [IV.d (D.bool w18), IV.d (D.int IntKind.i64 w19)], [IV.d w20, IV.d w21]) ∧ condW w18 (∃ w22 w23, C 14 [IV.d (D.int IntKind.i64 w10)] = some (IV.d (D.int IntKind.i64 w22), [IV.d w23]) ∧ condW (w22 == 0) (∃ w24 w25, C 14 [IV.d (D.int IntKind.i64 w15)] = some (IV.d (D.int IntKind.i64 w24), [IV.d w25]) ∧ condW (w24 == 0) (∃ w26 w27, C 14 [IV.d (D.int IntKind.i64 w19)] = some (IV.d (D.int IntKind.i64 w26), [IV.d w27]) ∧ condW (w26 == 0) (Q (some (IV.d (D.bool true), [IV.d (D.sl 4 z1 x2 e3), IV.d (D.agg [D.sl 2 z4 x5 e6, D.sl 1 z7 x8 e9, D.sl 2 z10 x11 e12]), IV.d (D.agg [D.sl 2 z13 x14 e15, D.sl 1 z16 x17 e18, D.sl 2 z19 x20 e21])]))) (Q (some (IV.d (D.bool false), [IV.d (D.sl 4 z1 x2 e3), IV.d (D.agg [D.sl 2 z4 x5 e6, D.sl 1 z7 x8 e9, D.sl 2 z10 x11 e12]), IV.d (D.agg [D.sl 2 z13 x14 e15, D.sl 1 z16 x17 e18, D.sl 2 z19 x20 e21])])))) (Q (some (IV.d (D.bool false), [IV.d (D.sl 4 z1 x2 e3), IV.d (D.agg [D.sl 2 z4 x5 e6, D.sl 1 z7 x8 e9, D.sl 2 z10 x11 e12]), IV.d (D.agg [D.sl 2 z13 x14 e15, D.sl 1 z16 x17 e18, D.sl 2 z19 x20 e21])])))) (Q (some (IV.d (D.bool false), [IV.d (D.sl 4 z1 x2 e3), IV.d (D.agg [D.sl 2 z4 x5 e6, D.sl 1 z7 x8 e9, D.sl 2 z10 x11 e12]), IV.d (D.agg [D.sl 2 z13 x14 e15, D.sl 1 z16 x17 e18, D.sl 2 z19 x20 e21])])))) (∃ w28 w29, C 14 [IV.d (D.int IntKind.i64 w10)] = some (IV.d (D.int IntKind.i64 w28), [IV.d w29]) ∧ condW (w28 == 0) (∃ w30 w31, C 14 [IV.d (D.int IntKind.i64 w15)] = some (IV.d (D.int IntKind.i64 w30), [IV.d w31]) ∧ condW (w30 == 0) (∃ w32 w33, C 14 [IV.d (D.int IntKind.i64 w19)] = some (IV.d (D.int IntKind.i64 w32), [IV.d w33]) ∧ condW (w32 == 0) (Q (some (IV.d (D.bool false), [IV.d (D.sl 4 z1 x2 e3), IV.d (D.agg [D.sl 2 z4 x5 e6, D.sl 1 z7 x8 e9, D.sl 2 z10 x11 e12]), IV.d (D.agg [D.sl 2 z13 x14 e15, D.sl 1 z16 x17 e18, D.sl 2 z19 x20 e21])]))) (Q (some (IV.d (D.bool false), [IV.d (D.sl 4 z1 x2 e3), IV.d (D.agg [D.sl 2 z4 x5 e6, D.sl 1 z7 x8 e9, D.sl 2 z10 x11 e12]), IV.d (D.agg [D.sl 2 z13 x14 e15, D.sl 1 z16 x17 e18, D.sl 2 z19 x20 e21])])))) (Q (some (IV.d (D.bool false), [IV.d (D.sl 4 z1 x2 e3), IV.d (D.agg [D.sl 2 z4 x5 e6, D.sl 1 z7 x8 e9, D.sl 2 z10 x11 e12]), IV.d (D.agg [D.sl 2 z13 x14 e15, D.sl 1 z16 x17 e18, D.sl 2 z19 x20 e21])])))) (Q (some (IV.d (D.bool false), [IV.d (D.sl 4 z1 x2 e3), IV.d (D.agg [D.sl 2 z4 x5 e6, D.sl 1 z7 x8 e9, D.sl 2 z10 x11 e12]), IV.d (D.agg [D.sl 2 z13 x14 e15, D.sl 1 z16 x17 e18, D.sl 2 z19 x20 e21])])))))) (∃ w34 w35, C 14 [IV.d (D.int IntKind.i64 w2)] = some (IV.d (D.int IntKind.i64 w34), [IV.d w35]) ∧ condW (w34 != 0) (Q (some (IV.d (D.bool true), [IV.d (D.sl 4 z1 x2 e3), IV.d (D.agg [D.sl 2 z4 x5 e6, D.sl 1 z7 x8 e9, D.sl 2 z10 x11 e12]), IV.d (D.agg [D.sl 2 z13 x14 e15, D.sl 1 z16 x17 e18, D.sl 2 z19 x20 e21])]))) (Q (some (IV.d (D.bool true), [IV.d (D.sl 4 z1 x2 e3), IV.d (D.agg [D.sl 2 z4 x5 e6, D.sl 1 z7 x8 e9, D.sl 2 z10 x11 e12]), IV.d (D.agg [D.sl 2 z13 x14 e15, D.sl 1 z16 x17 e18, D.sl 2 z19 x20 e21])]))))) (Q (some (IV.d (D.bool false), [IV.d (D.sl 4 z1 x2 e3), IV.d (D.agg [D.sl 2 z4 x5 e6, D.sl 1 z7 x8 e9, D.sl 2 z10 x11 e12]), IV.d (D.agg [D.sl 2 z13 x14 e15, D.sl 1 z16 x17 e18, D.sl 2 z19 x20 e21])])))) := by kernel_rfl
end Go.Proofs.YtekdlnofmbfdgaaDoor.Ab

/- Written by a program of this session (wip/tools/AbSym.lean). Not trusted: Lean checks it. -/
set_option maxRecDepth 100000
set_option linter.unusedVariables false
namespace Go.Proofs.YtekdlnofmbfdgaaDoor.Ab
open Go Go.Ab Go.Proofs
def L7 : Lps := fun b => match b with
  | _ => [.norm []]
theorem q7 (C J) (z1 : Bool) (x2 : List D) (e3 : List D) (z4 : Bool) (x5 : List D) (e6 : List D) (z7 : Bool) (x8 : List D) (e9 : List D) (z10 : Bool) (x11 : List D) (e12 : List D) (Q) : fnW F C R (L7) J d7 [.d (.sl 4 z1 x2 e3), .d (.agg [.sl 2 z4 x5 e6, .sl 1 z7 x8 e9, .sl 2 z10 x11 e12])] Q = (∃ w0, C 16 [] = some (IV.d (D.bool w0), []) ∧ condW w0 ((∃ w1 w2 w3 w4 w5 w6 w7 w8 w9, C 22 [IV.d (D.sl 4 z1 x2 e3), IV.d (D.agg [D.sl 2 z4 x5 e6, D.sl 1 z7 x8 e9, D.sl 2 z10 x11 e12])] = some (IV.tup [IV.agg [IV.own w1 68 2 w2, IV.own w3 28 1 w4, IV.own w5 68 2 w6], IV.d (D.int IntKind.i64 w7)], [IV.d w8, IV.d w9]) ∧ ∃ w10 w11, C 14 [IV.d (D.int IntKind.i64 w7)] = some (IV.d (D.int IntKind.i64 w10), [IV.d w11]) ∧ condW (w10 != 0) (Q (some (IV.d (D.bool true), [IV.d (D.sl 4 z1 x2 e3), IV.d (D.agg [D.sl 2 z4 x5 e6, D.sl 1 z7 x8 e9, D.sl 2 z10 x11 e12])]))) (∃ w12 w13 w14 w15 w16, C 12 [IV.d (D.sl 4 z1 x2 e3), IV.d (D.agg [D.sl 2 z4 x5 e6, D.sl 1 z7 x8 e9, D.sl 2 z10 x11 e12]), IV.d (D.agg [D.sl 2 w1 w2 [], D.sl 1 w3 w4 [], D.sl 2 w5 w6 []])] = some (IV.tup [IV.d (D.bool w12), IV.d (D.int IntKind.i64 w13)], [IV.d w14, IV.d w15, IV.d w16]) ∧ condW w12 (∃ w17 w18 w19 w20 w21, C 12 [IV.d (D.sl 4 z1 x2 e3), IV.d (D.agg [D.sl 2 w1 w2 [], D.sl 1 w3 w4 [], D.sl 2 w5 w6 []]), IV.d (D.agg [D.sl 2 z4 x5 e6, D.sl 1 z7 x8 e9, D.sl 2 z10 x11 e12])] = some (IV.tup [IV.d (D.bool w17), IV.d (D.int IntKind.i64 w18)], [IV.d w19, IV.d w20, IV.d w21]) ∧ condW w17 (∃ w22 w23, C 14 [IV.d (D.int IntKind.i64 w13)] = some (IV.d (D.int IntKind.i64 w22), [IV.d w23]) ∧ condW (w22 == 0) (∃ w24 w25, C 14 [IV.d (D.int IntKind.i64 w18)] = some (IV.d (D.int IntKind.i64 w24), [IV.d w25]) ∧ condW (w24 == 0) (Q (some (IV.d (D.bool true), [IV.d (D.sl 4 z1 x2 e3), IV.d (D.agg [D.sl 2 z4 x5 e6, D.sl 1 z7 x8 e9, D.sl 2 z10 x11 e12])]))) (Q (some (IV.d (D.bool false), [IV.d (D.sl 4 z1 x2 e3), IV.d (D.agg [D.sl 2 z4 x5 e6, D.sl 1 z7 x8 e9, D.sl 2 z10 x11 e12])])))) (Q (some (IV.d (D.bool false), [IV.d (D.sl 4 z1 x2 e3), IV.d (D.agg [D.sl 2 z4 x5 e6, D.sl 1 z7 x8 e9, D.sl 2 z10 x11 e12])])))) (Q (some (IV.d (D.bool false), [IV.d (D.sl 4 z1 x2 e3), IV.d (D.agg [D.sl 2 z4 x5 e6, D.sl 1 z7 x8 e9, D.sl 2 z10 x11 e12])])))) (∃ w26 w27 w28 w29 w30, C 12 [IV.d (D.sl 4 z1 x2 e3), IV.d (D.agg [D.sl 2 w1 w2 [], D.sl 1 w3 w4 [], D.sl 2 w5 w6 []]), IV.d (D.agg [D.sl 2 z4 x5 e6, D.sl 1 z7 x8 e9, D.sl 2 z10 x11 e12])] = some (IV.tup [IV.d (D.bool w26), IV.d (D.int IntKind.i64 w27)], [IV.d w28, IV.d w29, IV.d w30]) ∧ condW w26 (Q (some (IV.d (D.bool false), [IV.d (D.sl 4 z1 x2 e3), IV.d (D.agg [D.sl 2 z4 x5 e6, D.sl 1 z7 x8 e9, D.sl 2 z10 x11 e12])]))) (Q (some (IV.d (D.bool false), [IV.d (D.sl 4 z1 x2 e3), IV.d (D.agg [D.sl 2 z4 x5 e6, D.sl 1 z7 x8 e9, D.sl 2 z10 x11 e12])])))))) ∨ ∃ w31 w32 w33, C 22 [IV.d (D.sl 4 z1 x2 e3), IV.d (D.agg [D.sl 2 z4 x5 e6, D.sl 1 z7 x8 e9, D.sl 2 z10 x11 e12])] = some (IV.tup [IV.d (D.agg [D.sl 2 true [] [], D.sl 1 true [] [], D.sl 2 true [] []]), IV.d (D.int IntKind.i64 w31)], [IV.d w32, IV.d w33]) ∧ ∃ w34 w35, C 14 [IV.d (D.int IntKind.i64 w31)] = some (IV.d (D.int IntKind.i64 w34), [IV.d w35]) ∧ condW (w34 != 0) (Q (some (IV.d (D.bool true), [IV.d (D.sl 4 z1 x2 e3), IV.d (D.agg [D.sl 2 z4 x5 e6, D.sl 1 z7 x8 e9, D.sl 2 z10 x11 e12])]))) (∃ w36 w37 w38 w39 w40, C 12 [IV.d (D.sl 4 z1 x2 e3), IV.d (D.agg [D.sl 2 z4 x5 e6, D.sl 1 z7 x8 e9, D.sl 2 z10 x11 e12]), IV.d (D.agg [D.sl 2 true [] [], D.sl 1 true [] [], D.sl 2 true [] []])] = some (IV.tup [IV.d (D.bool w36), IV.d (D.int IntKind.i64 w37)], [IV.d w38, IV.d w39, IV.d w40]) ∧ condW w36 (∃ w41 w42 w43 w44 w45, C 12 [IV.d (D.sl 4 z1 x2 e3), IV.d (D.agg [D.sl 2 true [] [], D.sl 1 true [] [], D.sl 2 true [] []]), IV.d (D.agg [D.sl 2 z4 x5 e6, D.sl 1 z7 x8 e9, D.sl 2 z10 x11 e12])] = some (IV.tup [IV.d (D.bool w41), IV.d (D.int IntKind.i64 w42)], [IV.d w43, IV.d w44, IV.d w45]) ∧ condW w41 (∃ w46 w47, C 14 [IV.d (D.int IntKind.i64 w37)] = some (IV.d (D.int IntKind.i64 w46), [IV.d w47]) ∧ condW (w46 == 0) (∃ w48 w49, C 14 [IV.d (D.int IntKind.i64 w42)] = some (IV.d (D.int IntKind.i64 w48), [IV.d w49]) ∧ condW (w48 == 0) (Q (some (IV.d (D.bool true), [IV.d (D.sl 4 z1 x2 e3), IV.d (D.agg [D.sl 2 z4 x5 e6, D.sl 1 z7 x8 e9, D.sl 2 z10 x11 e12])]))) (Q (some (IV.d (D.bool false), [IV.d (D.sl 4 z1 x2 e3), IV.d (D.agg [D.sl 2 z4 x5 e6, D.sl 1 z7 x8 e9, D.sl 2 z10 x11 e12])])))) (Q (some (IV.d (D.bool false), [IV.d (D.sl 4 z1 x2 e3), IV.d (D.agg [D.sl 2 z4 x5 e6, D.sl 1 z7 x8 e9, D.sl 2 z10 x11 e12])])))) (Q (some (IV.d (D.bool false), [IV.d (D.sl 4 z1 x2 e3), IV.d (D.agg [D.sl 2 z4 x5 e6, D.sl 1 z7 x8 e9, D.sl 2 z10 x11 e12])])))) (∃ w50 w51 w52 w53 w54, C 12 [IV.d (D.sl 4 z1 x2 e3), IV.d (D.agg [D.sl 2 true [] [], D.sl 1 true [] [], D.sl 2 true [] []]), IV.d (D.agg [D.sl 2 z4 x5 e6, D.sl 1 z7 x8 e9, D.sl 2 z10 x11 e12])] = some (IV.tup [IV.d (D.bool w50), IV.d (D.int IntKind.i64 w51)], [IV.d w52, IV.d w53, IV.d w54]) ∧ condW w50 (Q (some (IV.d (D.bool false), [IV.d (D.sl 4 z1 x2 e3), IV.d (D.agg [D.sl 2 z4 x5 e6, D.sl 1 z7 x8 e9, D.sl 2 z10 x11 e12])]))) (Q (some (IV.d (D.bool false), [IV.d (D.sl 4 z1 x2 e3), IV.d (D.agg [D.sl 2 z4 x5 e6, D.sl 1 z7 x8 e9, D.sl 2 z10 x11 e12])])))))) (Q (some (IV.d (D.bool false), [IV.d (D.sl 4 z1 x2 e3), IV.d (D.agg [D.sl 2 z4 x5 e6, D.sl 1 z7 x8 e9, D.sl 2 z10 x11 e12])])))) := by kernel_rfl
end Go.Proofs.YtekdlnofmbfdgaaDoor.Ab

/- Chapter 10's laws SubsumeRow, SubsumePoints, SubsumeNormal: for every input the laws return true. No condition. -/
set_option linter.unusedVariables false
set_option linter.unusedSimpArgs false
set_option maxRecDepth 100000
namespace Go.Proofs.YtekdlnofmbfdgaaDoor.Ab
open Go Go.Ab Go.Qu Go.Proofs
theorem w_awake : C 16 [] = some (iB true, []) := W_ev (n := 60) (by kernel_rfl)
theorem ok_of {g : List Sym} {c : Cl} (h : clB g c = true) : ClOk g c.c := clOk.1 ((clB_c g c).symm.trans h)
theorem does_yes {g : List Sym} (z : Bool) (e : List D) {c d : Cl} (hn : NilC c) (hm : NilC d) (hc : clB g c = true) (hd : clB g d = true) (hs : Says g c.c d.c) : C 12 [iG z g e, iC c, iC d] = some (.tup [iB true, iI 0], [iG z g e, iC c, iC d]) := by
  have h := w_does z e hn hm (g := g)
  have h1 : mayB g c d = true := by unfold mayB; rw [hc, hd]; rfl
  rw [h1, does_iff.2 hs] at h
  exact h
theorem law_subpoints (z : Bool) (g : List Sym) {c d : Cl} (hn : NilC c) (hm : NilC d) : C 5 [iG z g [], iC c, iC d] = some (iB true, [iG z g [], iC c, iC d]) := by
  refine wfn (lk := []) rfl rfl (fnW_way (q5 _ _ z (syms g) [] c.lz (lits c.ls) c.le c.tz (rws c.ts) c.te c.cz (lits c.cs) c.ce d.lz (lits d.ls) d.le d.tz (rws d.ts) d.te d.cz (lits d.cs) d.ce _) ?_)
  refine ⟨_, w_awake, condW_t rfl ?_⟩
  have h1 := w_does z [] hn hm (g := g)
  refine ⟨_, _, _, _, _, h1, ?_⟩
  cases hx : (mayB g c d && (plM g c d).isSome)
  · refine condW_f rfl ⟨_, _, w_num _, ?_⟩
    cases mayB g c d <;> rfl
  · rw [Bool.and_eq_true] at hx
    obtain ⟨hy, hp⟩ := hx
    have hcd := hy
    unfold mayB at hcd
    rw [Bool.and_eq_true] at hcd
    rw [hy]
    have h2 := w_pof z g [] c
    have h3 := w_pof z g [] d
    rw [hcd.1] at h2; rw [hcd.2] at h3
    simp only [if_true] at h2 h3
    have h4 := w_under (ptM_near hcd.1).1 (ptM_near hcd.2).1
    have hg : SigOk g := sigOk (ok_of hcd.1).sg
    have hu := under_of hg hp
    rw [decide_eq_true hu.1, decide_eq_true hu.2] at h4
    refine condW_t rfl ⟨_, _, w_num _, condW_f rfl ⟨_, _, _, _, _, h2, _, _, _, _, _, h3, _, _, _, _, h4, ?_⟩⟩
    exact condW_t rfl ⟨_, _, w_num _, condW_t rfl ⟨_, _, w_num _, condW_t rfl ⟨_, _, w_num _, condW_t rfl rfl⟩⟩⟩
theorem law_subrow (z : Bool) (g : List Sym) {c d e : Cl} (hn : NilC c) (hm : NilC d) (hk : NilC e) : C 4 [iG z g [], iC c, iC d, iC e] = some (iB true, [iG z g [], iC c, iC d, iC e]) := by
  refine wfn (lk := []) rfl rfl (fnW_way (q4 _ _ z (syms g) [] c.lz (lits c.ls) c.le c.tz (rws c.ts) c.te c.cz (lits c.cs) c.ce d.lz (lits d.ls) d.le d.tz (rws d.ts) d.te d.cz (lits d.cs) d.ce e.lz (lits e.ls) e.le e.tz (rws e.ts) e.te e.cz (lits e.cs) e.ce _) ?_)
  refine ⟨_, w_awake, condW_t rfl ?_⟩
  have h2 := w_does z [] hn hm (g := g)
  have h3 := w_does z [] hm hk (g := g)
  cases hc : clB g c
  · have h1 := w_does z [] hn hn (g := g)
    have m1 : mayB g c c = false := by unfold mayB; rw [hc]; rfl
    have m2 : mayB g c d = false := by unfold mayB; rw [hc]; rfl
    rw [m1] at h1; rw [m2] at h2
    refine ⟨_, _, _, _, _, h1, condW_f rfl ⟨_, _, _, _, _, h2, condW_f rfl ⟨_, _, _, _, _, h3, ?_⟩⟩⟩
    cases (mayB g d e && (plM g d e).isSome)
    · exact condW_f rfl ⟨_, _, w_num _, condW_t rfl rfl⟩
    · exact condW_t rfl ⟨_, _, w_num _, condW_t rfl rfl⟩
  · have h1 := does_yes z [] hn hn hc hc (says_refl (ok_of hc))
    refine ⟨_, _, _, _, _, h1, condW_t rfl ⟨_, _, _, _, _, h2, ?_⟩⟩
    cases hx : (mayB g c d && (plM g c d).isSome)
    · refine condW_f rfl ⟨_, _, _, _, _, h3, ?_⟩
      cases (mayB g d e && (plM g d e).isSome)
      · refine condW_f rfl ⟨_, _, w_num _, condW_f rfl ⟨_, _, w_num _, ?_⟩⟩
        cases mayB g c d
        · rfl
        · refine condW_f rfl ⟨_, _, w_num _, ?_⟩
          cases mayB g d e <;> rfl
      · refine condW_t rfl ⟨_, _, w_num _, condW_f rfl ⟨_, _, w_num _, ?_⟩⟩
        cases mayB g c d
        · rfl
        · refine condW_f rfl ⟨_, _, w_num _, ?_⟩
          cases mayB g d e <;> rfl
    · rw [Bool.and_eq_true] at hx
      refine condW_t rfl ⟨_, _, _, _, _, h3, ?_⟩
      rw [hx.1]
      cases hy : (mayB g d e && (plM g d e).isSome)
      · refine condW_f rfl ⟨_, _, w_num _, condW_f rfl ⟨_, _, w_num _, condW_f rfl ⟨_, _, w_num _, ?_⟩⟩⟩
        cases mayB g d e <;> rfl
      · rw [Bool.and_eq_true] at hy
        rw [hy.1]
        have he : clB g e = true := by
          have := hy.1
          unfold mayB at this
          rw [Bool.and_eq_true] at this
          exact this.2
        have h4 := does_yes z [] hn hk hc he (says_trans (does_iff.1 hx.2) (does_iff.1 hy.2))
        exact condW_t rfl ⟨_, _, w_num _, condW_f rfl ⟨_, _, w_num _, condW_f rfl ⟨_, _, w_num _, condW_f rfl ⟨_, _, _, _, _, h4, condW_t rfl ⟨_, _, w_num _, condW_t rfl rfl⟩⟩⟩⟩⟩
theorem law_subnormal (z : Bool) (g : List Sym) {c : Cl} (hn : NilC c) : C 7 [iG z g [], iC c] = some (iB true, [iG z g [], iC c]) := by
  refine wfn (lk := []) rfl rfl (fnW_way (q7 _ _ z (syms g) [] c.lz (lits c.ls) c.le c.tz (rws c.ts) c.te c.cz (lits c.cs) c.ce _) ?_)
  refine ⟨_, w_awake, condW_t rfl ?_⟩
  have h1 := w_normal z g [] hn
  cases hc : clB g c
  · rw [hc] at h1
    exact .inr ⟨_, _, _, h1, _, _, w_num _, condW_t rfl rfl⟩
  · rw [hc] at h1
    have hc2 := anew_ok hc
    have hn2 : NilC (anewC c) := renum_nil (clRow_once (clRow_of hc hn))
    have hs := says_norm (ok_of hc)
    have h2 := does_yes z [] hn hn2 hc hc2 (by rw [anew_c]; exact hs.1)
    have h3 := does_yes z [] hn2 hn hc2 hc (by rw [anew_c]; exact hs.2)
    exact .inl ⟨_, _, _, _, _, _, _, _, _, h1, _, _, w_num _, condW_f rfl ⟨_, _, _, _, _, h2, condW_t rfl ⟨_, _, _, _, _, h3, condW_t rfl ⟨_, _, w_num _, condW_t rfl ⟨_, _, w_num _, condW_t rfl rfl⟩⟩⟩⟩⟩
theorem call_subpoints (y0 y1 y2 : D) (g0 : Go.Ab.Good Tryd.prog 12 22 y0) (g1 : Go.Ab.Good Tryd.prog 12 26 y1) (g2 : Go.Ab.Good Tryd.prog 12 26 y2) : ∃ outs, C 5 [.d y0, .d y1, .d y2] = some (iB true, outs) := by
  obtain ⟨z, g, rfl⟩ := good_sig g0
  obtain ⟨c, rfl, _, hn⟩ := good_clauseN g1
  obtain ⟨d, rfl, _, hm⟩ := good_clauseN g2
  exact ⟨_, law_subpoints z g hn hm⟩
theorem call_subrow (y0 y1 y2 y3 : D) (g0 : Go.Ab.Good Tryd.prog 12 22 y0) (g1 : Go.Ab.Good Tryd.prog 12 26 y1) (g2 : Go.Ab.Good Tryd.prog 12 26 y2) (g3 : Go.Ab.Good Tryd.prog 12 26 y3) : ∃ outs, C 4 [.d y0, .d y1, .d y2, .d y3] = some (iB true, outs) := by
  obtain ⟨z, g, rfl⟩ := good_sig g0
  obtain ⟨c, rfl, _, hn⟩ := good_clauseN g1
  obtain ⟨d, rfl, _, hm⟩ := good_clauseN g2
  obtain ⟨e, rfl, _, hk⟩ := good_clauseN g3
  exact ⟨_, law_subrow z g hn hm hk⟩
theorem call_subnormal (y0 y1 : D) (g0 : Go.Ab.Good Tryd.prog 12 22 y0) (g1 : Go.Ab.Good Tryd.prog 12 26 y1) : ∃ outs, C 7 [.d y0, .d y1] = some (iB true, outs) := by
  obtain ⟨z, g, rfl⟩ := good_sig g0
  obtain ⟨c, rfl, _, hn⟩ := good_clauseN g1
  exact ⟨_, law_subnormal z g hn⟩
end Go.Proofs.YtekdlnofmbfdgaaDoor.Ab
