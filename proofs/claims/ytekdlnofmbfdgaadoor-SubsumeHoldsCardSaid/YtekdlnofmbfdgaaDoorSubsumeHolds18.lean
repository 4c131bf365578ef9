/- What the rows of this seat share: the variable that is laid, the world in which it is so. No condition. -/
import Derived.Below
import Derived.ChangeOld
import Derived.LaidMore
import Derived.Lib.SmallJoins
import Derived.OpenShut
import Derived.ProofKit
import Derived.SevenTiedAt
import Derived.ShutString
import Derived.SizedLaws
import Derived.Stop.Joined
import Derived.Test.YtekdlnofmbfdgaaDoorCards
import Derived.Test.YtekdlnofmbfdgaaDoorRows
import Derived.Test.YtekdlnofmbfdgaaDoorTie
import Derived.WalkKit
import Derived.Test.YtekdlnofmbfdgaaDoorSubsumeHolds0
import Derived.Test.YtekdlnofmbfdgaaDoorSubsumeHolds1
import Derived.Test.YtekdlnofmbfdgaaDoorSubsumeHolds2
import Derived.Test.YtekdlnofmbfdgaaDoorSubsumeHolds3
import Derived.Test.YtekdlnofmbfdgaaDoorSubsumeHolds4
import Derived.Test.YtekdlnofmbfdgaaDoorSubsumeHolds5
import Derived.Test.YtekdlnofmbfdgaaDoorSubsumeHolds6
import Derived.Test.YtekdlnofmbfdgaaDoorSubsumeHolds7
import Derived.Test.YtekdlnofmbfdgaaDoorSubsumeHolds8
import Derived.Test.YtekdlnofmbfdgaaDoorSubsumeHolds9
import Derived.Test.YtekdlnofmbfdgaaDoorSubsumeHolds10
import Derived.Test.YtekdlnofmbfdgaaDoorSubsumeHolds11
import Derived.Test.YtekdlnofmbfdgaaDoorSubsumeHolds12
import Derived.Test.YtekdlnofmbfdgaaDoorSubsumeHolds13
import Derived.Test.YtekdlnofmbfdgaaDoorSubsumeHolds14
import Derived.Test.YtekdlnofmbfdgaaDoorSubsumeHolds15
import Derived.Test.YtekdlnofmbfdgaaDoorSubsumeHolds16
import Derived.Test.YtekdlnofmbfdgaaDoorSubsumeHolds17
namespace Go.Proofs.YtekdlnofmbfdgaaDoor.Ab
open Go Go.Ab Go.Qu Go.Proofs Go.ChangeShapes Go.WideShapes Go.ChangeAt Go.RowKit Go.Joins
set_option linter.unusedVariables false
set_option maxRecDepth 100000
theorem own : ownKnob Tryd.prog.godebug = none := by kernel_rfl
theorem laidOut : laidOutB Tryd.prog = true := by kernel_rfl
abbrev laid1 : List (String × DataW Unit) := [("quaere/sign.equals", Rows.laid_quaere_sign_equals)]
theorem gEq : Tryd.prog.globalNamed "quaere/sign.equals" = some 0 := by kernel_rfl
theorem tEq : (Tryd.prog.globals[0]?).map (·.type) = some 103 := by kernel_rfl
theorem door_met (os : Os) (args : Array Value) : laidMetH Tryd.prog laid1 ((World.doorLaid Tryd.prog 400 os).forCall (fun _ _ => 0) ⟨#[], args, []⟩).memory :=
  laidMetH_of_parts3 (fuel := 8) (laidMet_of_run' 8 (by kernel_rfl) (by kernel_rfl)) (by kernel_rfl) (by kernel_rfl)
theorem globs {W : World} (h : laidMetH Tryd.prog laid1 W) : GlobOk (Hw W) F.G := by
  rw [MakeChecks.laidMetH_plain _ _ _ (by kernel_rfl)] at h
  obtain ⟨ps, ⟨g0, t0, cs0, f0, p0, q0, hg0, ht0, hv0, hd0, _, _⟩, _, _⟩ := h
  obtain rfl := Option.some.inj (gEq.symm.trans hg0)
  obtain rfl := Option.some.inj (tEq.symm.trans ht0)
  obtain ⟨xs, n, _, hx, hlen, hxl, hf⟩ := DataW.trod_struct Tryd.underlying103 hd0
  have c1 : Tryd.prog.cellsOf 103 = 4 := by kernel_rfl
  have cs : Tryd.prog.cellsOf 9 = 1 := by kernel_rfl
  have ci : Tryd.prog.cellsOf 3 = 1 := by kernel_rfl
  rw [c1] at hlen
  have hx1 : xs.map (·.1) = [.lit (.string [61]), .lit (.int .i64 0), .lit (.int .i64 2), .lit (.int .i64 1)] := by
    simp only [Prod.mk.injEq] at hx
    have h9 := hx.1
    unfold Rows.laid_quaere_sign_equals at h9
    simp only [DataW.agg.injEq] at h9
    exact h9.symm
  have hcs : ∃ a b c d, cs0.toList = [a, b, c, d] := by
    match h : cs0.toList, hlen with
    | [a, b, c, d], _ => exact ⟨a, b, c, d, rfl⟩
  obtain ⟨a, b, c, d, hcs⟩ := hcs
  have hxs : ∃ x0 x1 x2 x3, xs = [x0, x1, x2, x3] := by
    match xs, hxl with
    | [x0, x1, x2, x3], _ => exact ⟨x0, x1, x2, x3, rfl⟩
  obtain ⟨x0, x1, x2, x3, rfl⟩ := hxs
  simp only [List.map_cons, List.map_nil, List.cons.injEq, and_true] at hx1
  obtain ⟨e0, e1, e2, e3⟩ := hx1
  have h0 : DataW.trod (fun _ => ()) Tryd.prog W 0 (fun _ => true) false n 9 ((cs0.toList.drop 0).take (Tryd.prog.cellsOf 9)) = some x0 := hf 0 _ rfl
  have h1 : DataW.trod (fun _ => ()) Tryd.prog W 0 (fun _ => true) false n 3 ((cs0.toList.drop 1).take (Tryd.prog.cellsOf 3)) = some x1 := hf 1 _ rfl
  have h2 : DataW.trod (fun _ => ()) Tryd.prog W 0 (fun _ => true) false n 3 ((cs0.toList.drop 2).take (Tryd.prog.cellsOf 3)) = some x2 := hf 2 _ rfl
  have h3 : DataW.trod (fun _ => ()) Tryd.prog W 0 (fun _ => true) false n 3 ((cs0.toList.drop 3).take (Tryd.prog.cellsOf 3)) = some x3 := hf 3 _ rfl
  rw [hcs, cs] at h0
  rw [hcs, ci] at h1 h2 h3
  obtain ⟨s, ha, hs, _⟩ := DataW.trod_string Tryd.underlying9 h0
  obtain ⟨n1, hb, hn1, _⟩ := DataW.trod_int Tryd.underlying3 h1
  obtain ⟨n2, hc, hn2, _⟩ := DataW.trod_int Tryd.underlying3 h2
  obtain ⟨n3, hd, hn3, _⟩ := DataW.trod_int Tryd.underlying3 h3
  simp at ha hb hc hd
  rw [hs] at e0; rw [hn1] at e1; rw [hn2] at e2; rw [hn3] at e3
  simp at e0 e1 e2 e3
  subst ha hb hc hd e1 e2 e3
  have hse : s = "=".toUTF8 := by
    have h5 : "=".toUTF8.data.toList = [61] := by decide +kernel
    have h6 : s.data = "=".toUTF8.data := Array.toList_inj.1 (e0.trans h5.symm)
    exact (show ∀ (x y : ByteArray), x.data = y.data → x = y by intro ⟨_⟩ ⟨_⟩ h; exact congrArg _ h) _ _ h6
  subst hse
  have hcell : ∀ (j : Nat) u, [Value.string "=".toUTF8, .int .i64 0, .int .i64 2, .int .i64 1][j]? = some u → W.cell? ⟨0, j, none⟩ = some u := fun j u hj => by
    have h7 := World.var?_cell hg0 hv0 j
    have h8 : cs0[j]? = some u := by rw [← Array.getElem?_toList, hcs]; exact hj
    rw [h8] at h7
    simpa using h7
  intro g cs hg
  simp only [F, List.map_cons, List.map_nil, assoc] at hg
  split at hg
  · rename_i hg0
    subst hg0
    simp only [Option.some.injEq] at hg
    subst hg
    refine ⟨[.string "=".toUTF8, .int .i64 0, .int .i64 2, .int .i64 1], ?_, fun j u hj => ?_, by simp [D.isAgg]⟩
    · unfold D.RepL; refine ⟨[_], _, rfl, by unfold D.Rep; rfl, ?_⟩
      unfold D.RepL; refine ⟨[_], _, rfl, by unfold D.Rep; rfl, ?_⟩
      unfold D.RepL; refine ⟨[_], _, rfl, by unfold D.Rep; rfl, ?_⟩
      unfold D.RepL; refine ⟨[_], [], rfl, by unfold D.Rep; rfl, ?_⟩
      unfold D.RepL; rfl
    · refine Hw.cell ?_
      have h9 := hcell j u hj
      unfold Addr.add
      split
      · rename_i hj0; subst hj0; exact h9
      · simpa using h9
  · simp at hg
theorem fxOk : FxOk Tryd.prog F where
  orders := by kernel_rfl
  tab := tab_ok
  code := code_ok.get
  prim := primOk
  ins := insAll
/-! ### Arguments -/
theorem good_sym {n : Nat} {x : D} (h : Go.Ab.Good Tryd.prog (n + 2) 103 x) : ∃ s : Sym, x = s.d := by
  unfold Go.Ab.Good at h
  rw [Tryd.underlying103] at h
  obtain ⟨ys, rfl, y0, r0, rfl, h0, y1, r1, rfl, h1, y2, r2, rfl, h2, y3, r3, rfl, h3, rfl⟩ := h
  unfold Go.Ab.Good at h0 h1 h2 h3
  simp only [Tryd.underlying9, Tryd.underlying3] at h0 h1 h2 h3
  obtain ⟨s, rfl, _⟩ := h0
  obtain ⟨a, rfl, _⟩ := h1
  obtain ⟨b, rfl, _⟩ := h2
  obtain ⟨c, rfl, _⟩ := h3
  exact ⟨⟨s, a, b, c⟩, rfl⟩
theorem good_sig {n : Nat} {x : D} (h : Go.Ab.Good Tryd.prog (n + 3) 22 x) : ∃ z g, x = .sl 4 z (syms g) [] := by
  unfold Go.Ab.Good at h
  rw [Tryd.underlying22] at h
  obtain ⟨z, xs, rfl, _, h2, _⟩ := h
  have hc : Tryd.prog.cellsOf 103 = 4 := by kernel_rfl
  rw [hc]
  obtain ⟨g, rfl, _⟩ := all_map (f := Sym.d) (Q := fun _ => True) (fun y hy => by obtain ⟨s, hs⟩ := good_sym (h2 y hy); exact ⟨s, hs, trivial⟩)
  exact ⟨z, g, rfl⟩
theorem good_int {n : Nat} {x : D} (h : Go.Ab.Good Tryd.prog (n + 1) 3 x) : ∃ a : Int, x = .int .i64 a ∧ -9223372036854775808 ≤ a ∧ a ≤ 9223372036854775807 := by
  unfold Go.Ab.Good at h
  rw [Tryd.underlying3] at h
  obtain ⟨a, rfl, hw⟩ := h
  refine ⟨a, rfl, ?_⟩
  simp [Lit.wf, IntKind.min, IntKind.max, IntKind.bits, IntKind.signed] at hw
  omega
theorem good_ints {n : Nat} {x : D} (h : Go.Ab.Good Tryd.prog (n + 2) 28 x) : ∃ z l, x = .sl 1 z (ints l) [] ∧ Len l := by
  unfold Go.Ab.Good at h
  rw [Tryd.underlying28] at h
  obtain ⟨z, xs, rfl, h1, h2, _⟩ := h
  have hc : Tryd.prog.cellsOf 3 = 1 := by kernel_rfl
  have hb : Tryd.prog.bytesOf 3 = 8 := by kernel_rfl
  rw [hb] at h1
  rw [hc]
  obtain ⟨l, rfl, _⟩ := all_map (f := D.int .i64) (Q := fun _ => True) (fun y hy => by obtain ⟨a, ha, _⟩ := good_int (h2 y hy); exact ⟨a, ha, trivial⟩)
  rw [List.length_map] at h1
  exact ⟨z, l, rfl, by unfold Len; simpa [reachBytes] using h1⟩
theorem good_rows {n : Nat} {x : D} (h : Go.Ab.Good Tryd.prog (n + 3) 24 x) : ∃ z rs, x = .sl 1 z (rws rs) [] ∧ rs.length * 24 ≤ 140737488351232 ∧ ∀ r ∈ rs, Len r.l := by
  unfold Go.Ab.Good at h
  rw [Tryd.underlying24] at h
  obtain ⟨z, xs, rfl, h1, h2, _⟩ := h
  have hc : Tryd.prog.cellsOf 28 = 1 := by kernel_rfl
  have hb : Tryd.prog.bytesOf 28 = 24 := by kernel_rfl
  rw [hb] at h1
  rw [hc]
  obtain ⟨rs, rfl, h4⟩ := all_map (f := Row.d) (Q := fun r => Len r.l) (fun y hy => by obtain ⟨z, l, h, hl⟩ := good_ints (h2 y hy); exact ⟨⟨z, l, []⟩, h, hl⟩)
  rw [List.length_map] at h1
  exact ⟨z, rs, rfl, by simpa [reachBytes] using h1, h4⟩
end Go.Proofs.YtekdlnofmbfdgaaDoor.Ab

/- Literals, clauses as arguments. No condition. -/
set_option linter.unusedVariables false
set_option linter.unusedSimpArgs false
set_option maxRecDepth 100000
namespace Go.Proofs.YtekdlnofmbfdgaaDoor.Ab
open Go Go.Ab Go.Qu Go.Proofs
theorem good_lit {n : Nat} {x : D} (h : Go.Ab.Good Tryd.prog (n + 3) 68 x) : ∃ l : LitR, x = l.d ∧ Len l.r.l := by
  unfold Go.Ab.Good at h
  rw [Tryd.underlying68] at h
  obtain ⟨ys, rfl, y0, r0, rfl, h0, y1, r1, rfl, h1, rfl⟩ := h
  obtain ⟨z, l, rfl, hl⟩ := good_ints h1
  unfold Go.Ab.Good at h0
  rw [Tryd.underlying4] at h0
  obtain ⟨b, rfl⟩ := h0
  exact ⟨⟨b, ⟨z, l, []⟩⟩, rfl, hl⟩
theorem good_lits {n : Nat} {x : D} (h : Go.Ab.Good Tryd.prog (n + 4) 23 x) : ∃ z ls, x = .sl 2 z (lits ls) [] ∧ LitsIn ls := by
  unfold Go.Ab.Good at h
  rw [Tryd.underlying23] at h
  obtain ⟨z, xs, rfl, h1, h2, _⟩ := h
  have hc : Tryd.prog.cellsOf 68 = 2 := by kernel_rfl
  have hb : Tryd.prog.bytesOf 68 = 32 := by kernel_rfl
  rw [hb] at h1
  rw [hc]
  obtain ⟨ls, rfl, h4⟩ := all_map (f := LitR.d) (Q := fun l => Len l.r.l) (fun y hy => by obtain ⟨l, hl, hk⟩ := good_lit (h2 y hy); exact ⟨l, hl, hk⟩)
  rw [List.length_map] at h1
  exact ⟨z, ls, rfl, by simpa [reachBytes] using h1, h4⟩
theorem good_clause {n : Nat} {x : D} (h : Go.Ab.Good Tryd.prog (n + 5) 26 x) : ∃ c : Cl, x = c.d ∧ ClIn c := by
  unfold Go.Ab.Good at h
  rw [Tryd.underlying26] at h
  obtain ⟨ys, rfl, y0, r0, rfl, h0, y1, r1, rfl, h1, y2, r2, rfl, h2, rfl⟩ := h
  obtain ⟨lz, ls, rfl, hls⟩ := good_lits h0
  obtain ⟨tz, ts, rfl, hts, hr⟩ := good_rows h1
  obtain ⟨cz, cs, rfl, hcs⟩ := good_lits h2
  exact ⟨⟨lz, ls, [], tz, ts, [], cz, cs, []⟩, rfl, ⟨hls, hts, hr, hcs⟩⟩
end Go.Proofs.YtekdlnofmbfdgaaDoor.Ab

/- Arguments: rows that are nil have no codes. No condition. -/
set_option linter.unusedVariables false
set_option linter.unusedSimpArgs false
set_option maxRecDepth 100000
namespace Go.Proofs.YtekdlnofmbfdgaaDoor.Ab
open Go Go.Ab Go.Qu Go.Proofs
theorem good_nil {n : Nat} {z : Bool} {l : List Int} (h : Go.Ab.Good Tryd.prog (n + 1) 28 (.sl 1 z (ints l) [])) : z = true → l = [] := by
  unfold Go.Ab.Good at h
  rw [Tryd.underlying28] at h
  obtain ⟨z', xs, he, _, _, h⟩ := h
  simp only [D.sl.injEq] at he
  obtain ⟨_, rfl, rfl, _⟩ := he
  intro hz
  have := congrArg List.length (h hz)
  rw [ints_len] at this
  exact List.length_eq_zero_iff.1 this
theorem good_litnil {n : Nat} {l : LitR} (h : Go.Ab.Good Tryd.prog (n + 3) 68 l.d) (he : l.r.e = []) : l.r.z = true → l.r.l = [] := by
  unfold Go.Ab.Good at h
  rw [Tryd.underlying68] at h
  obtain ⟨ys, hy, y0, r0, rfl, h0, y1, r1, rfl, h1, rfl⟩ := h
  unfold Go.Ab.Good at h0
  rw [Tryd.underlying4] at h0
  obtain ⟨b, rfl⟩ := h0
  obtain ⟨z, m, rfl, _⟩ := good_ints h1
  have h2 := good_nil (n := n + 1) h1
  simp only [LitR.d, List.flatMap_cons, List.flatMap_nil, D.cells, List.cons_append, List.nil_append, List.append_nil, D.agg.injEq, List.cons.injEq, D.bool.injEq, D.sl.injEq, and_true, true_and] at hy
  obtain ⟨_, hz, hm, _⟩ := hy
  intro hz'
  have h3 := h2 (hz ▸ hz')
  rw [h3] at hm
  have := congrArg List.length hm
  rw [ints_len] at this
  exact List.length_eq_zero_iff.1 (by simpa [ints_nil] using this)
theorem good_clauseN {n : Nat} {x : D} (h : Go.Ab.Good Tryd.prog (n + 5) 26 x) : ∃ c : Cl, x = c.d ∧ ClIn c ∧ NilC c := by
  have h' := h
  unfold Go.Ab.Good at h
  rw [Tryd.underlying26] at h
  obtain ⟨ys, rfl, y0, r0, rfl, h0, y1, r1, rfl, h1, y2, r2, rfl, h2, rfl⟩ := h
  obtain ⟨lz, ls, rfl, hls⟩ := good_lits h0
  obtain ⟨tz, ts, rfl, hts, hr⟩ := good_rows h1
  obtain ⟨cz, cs, rfl, hcs⟩ := good_lits h2
  have hL : ∀ {z : Bool} {ls : List LitR}, Go.Ab.Good Tryd.prog (n + 4) 23 (.sl 2 z (lits ls) []) → ∀ l ∈ ls, l.r.z = true → l.r.l = [] := by
    intro z ls hg l hl
    unfold Go.Ab.Good at hg
    rw [Tryd.underlying23] at hg
    obtain ⟨z', xs, he, _, hx, _⟩ := hg
    simp only [D.sl.injEq] at he
    obtain ⟨_, _, rfl, _⟩ := he
    have h5 := hx l.d (List.mem_map.2 ⟨l, hl, rfl⟩)
    obtain ⟨m, hm, _⟩ := good_lit h5
    have h6 : l.r.z = m.r.z ∧ ints l.r.l = ints m.r.l ∧ l.r.e = m.r.e := by
      have := hm
      simp only [LitR.d, D.agg.injEq, List.cons.injEq, D.bool.injEq, D.sl.injEq, and_true, true_and] at this
      exact ⟨this.2.1, this.2.2.1, this.2.2.2⟩
    have h7 : l.r.e = [] := by
      unfold Go.Ab.Good at h5
      rw [Tryd.underlying68] at h5
      obtain ⟨ys, hy, y0, r0, rfl, k0, y1, r1, rfl, k1, rfl⟩ := h5
      obtain ⟨z2, l2, rfl, _⟩ := good_ints k1
      unfold Go.Ab.Good at k0
      rw [Tryd.underlying4] at k0
      obtain ⟨b, rfl⟩ := k0
      simp only [LitR.d, List.flatMap_cons, List.flatMap_nil, D.cells, List.cons_append, List.nil_append, List.append_nil, D.agg.injEq, List.cons.injEq, D.bool.injEq, D.sl.injEq, and_true, true_and] at hy
      exact hy.2.2.2
    exact good_litnil (n := n) h5 h7
  refine ⟨⟨lz, ls, [], tz, ts, [], cz, cs, []⟩, rfl, ⟨hls, hts, hr, hcs⟩, fun r hr' => ?_⟩
  simp only [rowsOf, List.mem_append, List.mem_map] at hr'
  rcases hr' with (⟨l, hl, rfl⟩ | hr') | ⟨l, hl, rfl⟩
  · exact hL h0 l hl
  · unfold Go.Ab.Good at h1
    rw [Tryd.underlying24] at h1
    obtain ⟨z', xs, he, _, hx, _⟩ := h1
    simp only [D.sl.injEq] at he
    obtain ⟨_, _, rfl, _⟩ := he
    have h5 := hx r.d (List.mem_map.2 ⟨r, hr', rfl⟩)
    obtain ⟨z2, l2, he2, _⟩ := good_ints h5
    have h6 : r.e = [] := by
      simp only [Row.d, D.sl.injEq, true_and] at he2
      exact he2.2.2
    have h7 : r.d = .sl 1 r.z (ints r.l) [] := by rw [← h6]; rfl
    rw [h7] at h5
    exact good_nil (n := n + 2) h5
  · exact hL h2 l hl
end Go.Proofs.YtekdlnofmbfdgaaDoor.Ab

/- Which clause says as much: what the program's functions hand back. For every input; no condition. -/
set_option linter.unusedVariables false
set_option linter.unusedSimpArgs false
set_option maxRecDepth 100000
namespace Go.Proofs.YtekdlnofmbfdgaaDoor.Ab
open Go Go.Ab Go.Qu Go.Proofs
attribute [local simp] and_assoc
attribute [local irreducible] bsD
theorem l_parts2 {g : List Sym} (hg : SigOk g) (z : Bool) (e : List D) (c d : Cl) (zp : Bool) (xp : List D) (n21 n22 : Int) {r : Row} (hr : RowM r) (hts : d.ts.length ≤ 1000) (hm : ∀ u ∈ d.ts, RowM u) (x : List (Nat × Row) × Nat) (hx : x.2 ≤ d.ts.length ∧ x.1.length ≤ x.2) :
    evP F (Go.Ab.W F) (JW F d51 []) d51 [] [1,1,0,1,0,0,1,1,0,0,1,1,0,1] [(0, iG z g e), (4, bC c), (5, bC d), (7, .own zp 124 3 xp), (10, pP r x.1), (20, iR c.tz c.ts c.te), (21, iI n21), (22, iI n22), (29, iR d.tz d.ts d.te), (30, iI d.ts.length), (31, iI x.2)] = some (.norm [(0, iG z g e), (4, bC c), (5, bC d), (7, .own zp 124 3 xp), (10, pP r (x.1 ++ candRR g r (d.ts.drop x.2) x.2)), (20, iR c.tz c.ts c.te), (21, iI n21), (22, iI n22), (29, iR d.tz d.ts d.te), (30, iI d.ts.length), (31, iI d.ts.length)]) :=
  blk_fun (F := F) (d := d51) (lk := []) (p := [1,1,0,1,0,0,1,1,0,0,1,1,0,1,0,0]) (p0 := [1,1,0,1,0,0,1,1,0,0,1,1,0,1]) (id := 2) (by kernel_rfl) (st := fun (x : List (Nat × Row) × Nat) => [(0, iG z g e), (4, bC c), (5, bC d), (7, .own zp 124 3 xp), (10, pP r x.1), (20, iR c.tz c.ts c.te), (21, iI n21), (22, iI n22), (29, iR d.tz d.ts d.te), (30, iI d.ts.length), (31, iI x.2)]) (I := fun x => x.2 ≤ d.ts.length ∧ x.1.length ≤ x.2) (μ := fun x => d.ts.length - x.2)
    (res := fun x => .norm [(0, iG z g e), (4, bC c), (5, bC d), (7, .own zp 124 3 xp), (10, pP r (x.1 ++ candRR g r (d.ts.drop x.2) x.2)), (20, iR c.tz c.ts c.te), (21, iI n21), (22, iI n22), (29, iR d.tz d.ts d.te), (30, iI d.ts.length), (31, iI d.ts.length)])
    (fun x hx => by
      obtain ⟨xs, i⟩ := x
      obtain ⟨hx1, hx2⟩ := hx
      dsimp only at hx1 hx2
      by_cases hi : i < d.ts.length
      · obtain ⟨m, hm1⟩ := at_lt hi
        have hd : d.ts.drop i = m :: d.ts.drop (i + 1) := by
          rw [List.drop_eq_getElem_cons hi]
          rw [List.getElem?_eq_getElem hi] at hm1
          cases hm1; rfl
        have hc := w_could hg z e hr (hm m (List.mem_of_getElem? hm1)) (xs := xs) (by omega) i
        have hi' : (i : Int) < d.ts.length := by omega
        have hw := wr1 hi (show d.ts.length ≤ 9223372036854775807 by omega)
        refine .go (if okN g r.l m.l = true then xs ++ [(i, m)] else xs, i + 1) (wpQ_way (q51_l2a _ _ z (syms g) e c.lz (lits c.ls) c.le c.tz (rws c.ts) c.te c.cz (lits c.cs) c.ce d.lz (lits d.ls) d.le d.tz (rws d.ts) d.te d.cz (lits d.cs) d.ce zp xp r.z (ints r.l) r.e xs.isEmpty (pls xs) xs.isEmpty (ins xs) c.tz (rws c.ts) c.te n21 n22 d.tz (rws d.ts) d.te _ i _) ?_) ⟨by dsimp only; omega, by
            dsimp only
            split
            · simp; omega
            · omega⟩ (by dsimp only; omega) ?_
        · refine condW_t (decide_eq_true hi') ?_
          refine condW_t (decide_eq_true (by omega)) ?_
          refine ⟨_, _, _, rws_at hm1, ?_⟩
          refine ⟨_, _, _, _, _, _, _, _, _, _, hc, ?_⟩
          rw [hw]
        · dsimp only; rw [hd, candRR]
          split <;> simp
      · have e0 : i = d.ts.length := by omega
        subst e0
        refine .stop (.exit 2 [(0, iG z g e), (4, bC c), (5, bC d), (7, .own zp 124 3 xp), (10, pP r xs), (20, iR c.tz c.ts c.te), (21, iI n21), (22, iI n22), (29, iR d.tz d.ts d.te), (30, iI d.ts.length), (31, iI d.ts.length)]) (wpQ_way (q51_l2a _ _ z (syms g) e c.lz (lits c.ls) c.le c.tz (rws c.ts) c.te c.cz (lits c.cs) c.ce d.lz (lits d.ls) d.le d.tz (rws d.ts) d.te d.cz (lits d.cs) d.ce zp xp r.z (ints r.l) r.e xs.isEmpty (pls xs) xs.isEmpty (ins xs) c.tz (rws c.ts) c.te n21 n22 d.tz (rws d.ts) d.te _ _ _) (by simp)) rfl ?_
        simp [blkO, candRR]) x hx
def ptsT (g : List Sym) (ts us : List Row) : List PtR := ts.map fun r => ⟨r, candRR g r us 0⟩
theorem l_parts0 {g : List Sym} (hg : SigOk g) (z : Bool) (e : List D) (c d : Cl) (hcs : c.ts.length ≤ 1000) (hr : ∀ r ∈ c.ts, RowM r) (hts : d.ts.length ≤ 1000) (hm : ∀ u ∈ d.ts, RowM u) (x : List PtR × Nat) (hx : x.2 ≤ c.ts.length ∧ x.1.length ≤ 1000 + x.2) :
    evP F (Go.Ab.W F) (JW F d51 []) d51 [] [1,1,0,1] [(0, iG z g e), (4, bC c), (5, bC d), (7, .own x.1.isEmpty 124 3 (prts x.1)), (20, iR c.tz c.ts c.te), (21, iI c.ts.length), (22, iI x.2)] = some (.norm [(0, iG z g e), (4, bC c), (5, bC d), (7, .own (x.1 ++ ptsT g (c.ts.drop x.2) d.ts).isEmpty 124 3 (prts (x.1 ++ ptsT g (c.ts.drop x.2) d.ts))), (20, iR c.tz c.ts c.te), (21, iI c.ts.length), (22, iI c.ts.length)]) :=
  blk_fun (F := F) (d := d51) (lk := []) (p := [1,1,0,1,0,0]) (p0 := [1,1,0,1]) (id := 0) (by kernel_rfl) (st := fun (x : List PtR × Nat) => [(0, iG z g e), (4, bC c), (5, bC d), (7, .own x.1.isEmpty 124 3 (prts x.1)), (20, iR c.tz c.ts c.te), (21, iI c.ts.length), (22, iI x.2)]) (I := fun x => x.2 ≤ c.ts.length ∧ x.1.length ≤ 1000 + x.2) (μ := fun x => c.ts.length - x.2)
    (res := fun x => .norm [(0, iG z g e), (4, bC c), (5, bC d), (7, .own (x.1 ++ ptsT g (c.ts.drop x.2) d.ts).isEmpty 124 3 (prts (x.1 ++ ptsT g (c.ts.drop x.2) d.ts))), (20, iR c.tz c.ts c.te), (21, iI c.ts.length), (22, iI c.ts.length)])
    (fun x hx => by
      obtain ⟨ps, i⟩ := x
      obtain ⟨hx1, hx2⟩ := hx
      dsimp only at hx1 hx2
      by_cases hi : i < c.ts.length
      · obtain ⟨l, hl1⟩ := at_lt hi
        have hd : c.ts.drop i = l :: c.ts.drop (i + 1) := by
          rw [List.drop_eq_getElem_cons hi]
          rw [List.getElem?_eq_getElem hi] at hl1
          cases hl1; rfl
        have hin := l_parts2 hg z e c d ps.isEmpty (prts ps) c.ts.length i (hr l (List.mem_of_getElem? hl1)) hts hm ([], 0) ⟨Nat.zero_le _, Nat.le_refl _⟩
        simp only [List.drop_zero, List.nil_append] at hin
        have hi' : (i : Int) < c.ts.length := by omega
        have hw := wr1 hi (show c.ts.length ≤ 9223372036854775807 by omega)
        refine .go (ps ++ [⟨l, candRR g l d.ts 0⟩], i + 1) (wpQ_way (q51_l0a _ _ z (syms g) e c.lz (lits c.ls) c.le c.tz (rws c.ts) c.te c.cz (lits c.cs) c.ce d.lz (lits d.ls) d.le d.tz (rws d.ts) d.te d.cz (lits d.cs) d.ce ps.isEmpty (prts ps) c.tz (rws c.ts) c.te _ i _) ?_) ⟨by dsimp only; omega, by simp; omega⟩ (by dsimp only; omega) ?_
        · refine condW_t (decide_eq_true hi') ?_
          refine condW_t (decide_eq_true (by omega)) ?_
          refine ⟨_, _, _, rws_at hl1, ?_⟩
          rw [rws_len]
          refine ⟨_, _, _, _, _, _, _, _, _, _, _, _, _, _, _, _, _, _, _, _, _, _, _, _, _, _, _, _, _, _, _, _, _, _, _, _, _, _, _, _, hin, ?_⟩
          refine condW_t (by rw [prts_len]; exact decide_eq_true (by omega)) ?_
          refine condW_t (by rw [prts_len]; exact decide_eq_true (by omega)) ?_
          rw [hw, prts_app]
          simp [prts, PtR.d]
        · dsimp only; rw [hd]; simp [ptsT]
      · have e0 : i = c.ts.length := by omega
        subst e0
        refine .stop (.exit 0 [(0, iG z g e), (4, bC c), (5, bC d), (7, .own ps.isEmpty 124 3 (prts ps)), (20, iR c.tz c.ts c.te), (21, iI c.ts.length), (22, iI c.ts.length)]) (wpQ_way (q51_l0a _ _ z (syms g) e c.lz (lits c.ls) c.le c.tz (rws c.ts) c.te c.cz (lits c.cs) c.ce d.lz (lits d.ls) d.le d.tz (rws d.ts) d.te d.cz (lits d.cs) d.ce ps.isEmpty (prts ps) c.tz (rws c.ts) c.te _ _ _) (by simp)) rfl ?_
        simp [blkO, ptsT]) x hx
def ptsCR (g : List Sym) (c d : Cl) : List PtR := (ptsL g c.ls d.ls ++ ptsT g c.ts d.ts) ++ ptsL g c.cs d.cs
theorem rowM_of {r : Row} (h : RowOk r) (hl : r.l.length ≤ 1000) : RowM r := ⟨hl, h.nil, h.cod⟩
structure ClM (c : Cl) : Prop where
  l5 : c.ls.length ≤ 5
  t3 : c.ts.length ≤ 3
  c3 : c.cs.length ≤ 3
  ls : ∀ l ∈ c.ls, RowM l.r
  ts : ∀ r ∈ c.ts, RowM r
  cs : ∀ l ∈ c.cs, RowM l.r
theorem clM_of {g : List Sym} {c : Cl} (h : clB g c = true) (hn : NilC c) : ClM c := by
  have hr := clRow_of h hn
  have hk := clOk.1 ((clB_c g c).symm.trans h)
  have e1 : c.ls.length ≤ 5 := by have := hk.l5; simpa [Cl.c] using this
  have e2 : c.ts.length ≤ 3 := by have := hk.t3; simpa [Cl.c] using this
  have e3 : c.cs.length ≤ 3 := by have := hk.c3; simpa [Cl.c] using this
  refine ⟨e1, e2, e3, fun l hl => rowM_of (hr.ls l hl) ?_, fun r hr' => rowM_of (hr.ts r hr') ?_, fun l hl => rowM_of (hr.cs l hl) ?_⟩
  · have := (atom_codes (hk.la l.c (by simp [Cl.c]; exact ⟨l, hl, rfl⟩))).1
    have e : l.c.2 = l.r.l := rfl
    rw [e] at this; omega
  · obtain ⟨k, hk⟩ := hk.tr
    have := (rowB_parts (hk r.l (by simp [Cl.c]; exact ⟨r, hr', rfl⟩)).1).2.1
    omega
  · have := (atom_codes (hk.ca l.c (by simp [Cl.c]; exact ⟨l, hl, rfl⟩))).1
    have e : l.c.2 = l.r.l := rfl
    rw [e] at this; omega
theorem w_parts' {g : List Sym} (hg : SigOk g) (z : Bool) (e : List D) {c d : Cl} (hc : ClM c) (hd : ClM d) : C 51 [iG z g e, iC c, iC d] = some (.own (ptsCR g c d).isEmpty 124 3 (prts (ptsCR g c d)), [iG z g e, iC c, iC d]) := by
  refine wfn (lk := []) rfl rfl (fnW_way (q51 _ _ z (syms g) e c.lz (lits c.ls) c.le c.tz (rws c.ts) c.te c.cz (lits c.cs) c.ce d.lz (lits d.ls) d.le d.tz (rws d.ts) d.te d.cz (lits d.cs) d.ce _) ?_)
  have l1 := hc.l5; have l2 := hc.t3; have l3 := hc.c3; have m1 := hd.l5; have m2 := hd.t3; have m3 := hd.c3
  have h1 := w_lits0 hg z c.lz d.lz e c.le d.le (ls := c.ls) (ms := d.ls) (by omega) hc.ls (by omega) hd.ls
  have h2 := l_parts0 hg z e c d (by omega) hc.ts (by omega) hd.ts (ptsL g c.ls d.ls, 0) ⟨Nat.zero_le _, by simp [ptsL]; omega⟩
  have h3 := w_lits hg z c.cz d.cz e c.ce d.ce (ls := c.cs) (ms := d.cs) (by omega) hc.cs (by omega) hd.cs (ps := ptsL g c.ls d.ls ++ ptsT g c.ts d.ts) (by simp [ptsL, ptsT]; omega)
  simp only [List.drop_zero] at h2
  refine .inr ⟨_, _, _, _, _, _, h1, ?_⟩
  rw [rws_len]
  refine ⟨_, _, _, _, _, _, _, _, _, _, _, _, _, _, _, _, _, _, _, _, _, _, _, _, _, _, _, _, h2, ?_⟩
  exact .inl ⟨_, _, _, _, _, h3, rfl⟩
/-! ### To say as much -/
theorem candLR_pt (g : List Sym) (l : LitR) : ∀ (ms : List LitR) (n : Nat), (candLR g l ms n).map (fun x => (x.1, x.2.l)) = (cands l.neg (ms.map LitR.c) n).filter fun x => okB g (fun _ => none) l.r.l x.2
  | [], n => rfl
  | m :: ms, n => by
    have ih := candLR_pt g l ms (n + 1)
    rw [candLR, List.map_cons, cands]
    show _ = List.filter _ (if l.neg = m.neg then (n, m.r.l) :: cands l.neg (ms.map LitR.c) (n + 1) else cands l.neg (ms.map LitR.c) (n + 1))
    by_cases h1 : l.neg = m.neg
    · rw [if_pos h1, List.filter_cons]
      by_cases h2 : okN g l.r.l m.r.l = true
      · rw [if_pos ⟨h1, h2⟩, if_pos h2, List.map_cons, ih]
      · rw [if_neg (fun h => h2 h.2), if_neg h2, ih]
    · rw [if_neg h1, if_neg (fun h => h1 h.1), ih]
theorem candRR_pt (g : List Sym) (r : Row) : ∀ (us : List Row) (n : Nat), (candRR g r us n).map (fun x => (x.1, x.2.l)) = (candR (us.map fun u => u.l) n).filter fun x => okB g (fun _ => none) r.l x.2
  | [], n => rfl
  | u :: us, n => by
    have ih := candRR_pt g r us (n + 1)
    rw [candRR, List.map_cons, candR, List.filter_cons]
    by_cases h2 : okN g r.l u.l = true
    · rw [if_pos h2, if_pos h2, List.map_cons, ih]
    · rw [if_neg h2, if_neg h2, ih]
theorem pts_pt (g : List Sym) (c d : Cl) : (ptsCR g c d).map PtR.pt = (ptsC c.c d.c).map (onlyOk g) := by
  unfold ptsCR ptsC ptsL ptsT Cl.c
  simp only [List.map_append, List.map_map]
  congr 1
  · congr 1
    · refine List.map_congr_left fun l hl => ?_
      show PtR.pt ⟨l.r, candLR g l d.ls 0⟩ = onlyOk g ⟨l.r.l, cands l.neg (d.ls.map LitR.c) 0⟩
      unfold PtR.pt onlyOk
      rw [candLR_pt]
    · refine List.map_congr_left fun r hr => ?_
      show PtR.pt ⟨r, candRR g r d.ts 0⟩ = onlyOk g ⟨r.l, candR (d.ts.map fun u => u.l) 0⟩
      unfold PtR.pt onlyOk
      rw [candRR_pt]
  · refine List.map_congr_left fun l hl => ?_
    show PtR.pt ⟨l.r, candLR g l d.cs 0⟩ = onlyOk g ⟨l.r.l, cands l.neg (d.cs.map LitR.c) 0⟩
    unfold PtR.pt onlyOk
    rw [candLR_pt]
theorem candLR_mem {g : List Sym} {l : LitR} : ∀ {ms : List LitR} {n : Nat} {x : Nat × Row}, x ∈ candLR g l ms n → ∃ m ∈ ms, x.2 = m.r
  | [], n, x, h => by simp [candLR] at h
  | m :: ms, n, x, h => by
    rw [candLR] at h
    split at h
    · rcases List.mem_cons.1 h with rfl | h
      · exact ⟨m, by simp, rfl⟩
      · obtain ⟨k, hk, e⟩ := candLR_mem h; exact ⟨k, by simp [hk], e⟩
    · obtain ⟨k, hk, e⟩ := candLR_mem h; exact ⟨k, by simp [hk], e⟩
theorem candRR_mem {g : List Sym} {r : Row} : ∀ {us : List Row} {n : Nat} {x : Nat × Row}, x ∈ candRR g r us n → x.2 ∈ us
  | [], n, x, h => by simp [candRR] at h
  | m :: ms, n, x, h => by
    rw [candRR] at h
    split at h
    · rcases List.mem_cons.1 h with rfl | h
      · simp
      · exact List.mem_cons_of_mem _ (candRR_mem h)
    · exact List.mem_cons_of_mem _ (candRR_mem h)
theorem pts_ok {g : List Sym} {c d : Cl} (hc : ClM c) (hd : ClM d) : ∀ p ∈ ptsCR g c d, PtOk p := by
  have m1 := hd.l5; have m2 := hd.t3; have m3 := hd.c3
  intro p hp
  simp only [ptsCR, ptsL, ptsT, List.mem_append, List.mem_map] at hp
  rcases hp with (⟨l, hl, rfl⟩ | ⟨r, hr, rfl⟩) | ⟨l, hl, rfl⟩
  · exact ⟨hc.ls l hl, fun x hx => by obtain ⟨m, hm, e⟩ := candLR_mem hx; rw [e]; exact hd.ls m hm, Nat.le_trans (candLR_len g l d.ls 0) (by omega)⟩
  · exact ⟨hc.ts r hr, fun x hx => hd.ts _ (candRR_mem hx), Nat.le_trans (candRR_len g r d.ts 0) (by omega)⟩
  · exact ⟨hc.cs l hl, fun x hx => by obtain ⟨m, hm, e⟩ := candLR_mem hx; rw [e]; exact hd.cs m hm, Nat.le_trans (candLR_len g l d.cs 0) (by omega)⟩
/-- The least row of places. -/
def plM (g : List Sym) (c d : Cl) : Option (List Nat) := findF g (ptsC c.c d.c) (fun _ => none)
theorem ptM_near {g : List Sym} {c : Cl} (hb : clB g c = true) : nearP (ptM g c).1 (ptM g c).2 = true ∧ 0 ≤ (ptM g c).1 ∧ 0 ≤ (ptM g c).2 := by
  have hk := clOk.1 ((clB_c g c).symm.trans hb)
  have hl : litsB g c.ls = true := by
    rw [litsB, List.all_eq_true]
    exact fun l hl => hk.la l.c (by simp [Cl.c]; exact ⟨l, hl, rfl⟩)
  have h := ptF_le (sigOk hk.sg) c.ls 0 0 hl (Int.le_refl _) (by omega) (Int.le_refl _) (by omega)
  unfold ptM
  refine ⟨?_, h.1, h.2.2.1⟩
  have h1 := h.1; have h2 := h.2.1; have h3 := h.2.2.1; have h4 := h.2.2.2
  generalize (ptF g c.ls 0 0).1 = a at *
  generalize (ptF g c.ls 0 0).2 = b at *
  rw [nearP, Bool.and_eq_true, near_iff, near_iff]
  omega
theorem w_under' (z : Bool) {g : List Sym} (e : List D) {c d : Cl} (hc : clB g c = true) (hd : clB g d = true) : C 50 [iG z g e, iC c, iC d] = some (iB (decide ((ptM g c).1 ≤ (ptM g d).1) && decide ((ptM g c).2 ≤ (ptM g d).2)), [iG z g e, iC c, iC d]) := by
  refine wfn (lk := []) rfl rfl (fnW_way (q50 _ _ z (syms g) e c.lz (lits c.ls) c.le c.tz (rws c.ts) c.te c.cz (lits c.cs) c.ce d.lz (lits d.ls) d.le d.tz (rws d.ts) d.te d.cz (lits d.cs) d.ce _) ?_)
  have h1 := w_pof z g e c
  have h2 := w_pof z g e d
  rw [hc] at h1; rw [hd] at h2
  simp only [if_true] at h1 h2
  have h3 := w_under (ptM_near hc).1 (ptM_near hd).1
  refine ⟨_, _, _, _, _, h1, _, _, _, _, _, h2, _, _, _, _, h3, ?_⟩
  cases (decide ((ptM g c).1 ≤ (ptM g d).1) && decide ((ptM g c).2 ≤ (ptM g d).2)) <;> rfl
theorem under_of {g : List Sym} {c d : Cl} (hg : SigOk g) (h : (plM g c d).isSome = true) : (ptM g c).1 ≤ (ptM g d).1 ∧ (ptM g c).2 ≤ (ptM g d).2 := by
  obtain ⟨r, hr⟩ := Option.isSome_iff_exists.1 h
  have hs := says_find.1 ⟨r, hr⟩
  unfold ptM
  rw [ptF_top, ptF_top]
  exact ⟨says_under hg hs false, says_under hg hs true⟩
theorem none0 : bsD (fun _ => none) = List.replicate 24 (.sl 1 true [] []) := bsD_none
theorem w_says {g : List Sym} (z : Bool) (e : List D) {c d : Cl} (hc : clB g c = true) (hd : clB g d = true) (hn : NilC c) (hm : NilC d) : C 28 [iG z g e, iC c, iC d] = some (fRes (plM g c d), [iG z g e, iC c, iC d]) := by
  refine wfn (lk := []) rfl rfl (fnW_way (q28 _ _ z (syms g) e c.lz (lits c.ls) c.le c.tz (rws c.ts) c.te c.cz (lits c.cs) c.ce d.lz (lits d.ls) d.le d.tz (rws d.ts) d.te d.cz (lits d.cs) d.ce _) ?_)
  have hg : SigOk g := sigOk (clOk.1 ((clB_c g c).symm.trans hc)).sg
  have h1 := w_under' z e hc hd
  have hcm := clM_of hc hn
  have hdm := clM_of hd hm
  refine ⟨_, _, _, _, h1, ?_⟩
  cases hu : (decide ((ptM g c).1 ≤ (ptM g d).1) && decide ((ptM g c).2 ≤ (ptM g d).2))
  · have : plM g c d = none := by
      cases hp : plM g c d with
      | none => rfl
      | some r =>
        have := under_of hg (c := c) (d := d) (by rw [hp]; rfl)
        simp [this.1, this.2] at hu
    rw [this]; rfl
  have h2 := w_parts' hg z e hcm hdm
  refine condW_t rfl ⟨_, _, _, _, _, h2, ?_⟩
  have l1 := hcm.l5; have l2 := hcm.t3; have l3 := hcm.c3
  have hpl : (ptsCR g c d).length ≤ 1000 := by simp [ptsCR, ptsL, ptsT]; omega
  have hb0 : BsOk (fun _ => none) := fun v t h => by cases h
  have h3 := w_open hg z (ptsCR g c d).isEmpty e [] hpl (pts_ok hcm hdm) hb0
  have h4 := w_find' hg z e (ptsCR g c d) (ptsCR g c d).isEmpty [] (fun _ => none) hpl (pts_ok hcm hdm) hb0
  rw [none0] at h3 h4
  have hp : findF g ((ptsCR g c d).map PtR.pt) (fun _ => none) = plM g c d := by rw [pts_pt, find_filter]; rfl
  rw [hp] at h4
  refine ⟨_, _, _, _, h3, ?_⟩
  cases ho : openF g (fun _ => none) ((ptsCR g c d).map PtR.pt)
  · have : plM g c d = none := by rw [← hp]; exact open_none ho
    rw [this]; rfl
  refine condW_t rfl ?_
  cases hpm : plM g c d with
  | none =>
    rw [hpm] at h4
    exact ⟨_, _, _, _, _, _, h4, rfl⟩
  | some r =>
    rw [hpm] at h4
    exact ⟨_, _, _, _, _, _, h4, rfl⟩
theorem w_places {g : List Sym} (z : Bool) (e : List D) {c d : Cl} (hn : NilC c) (hm : NilC d) : ∃ v, C 10 [iG z g e, iC c, iC d] = some (v, [iG z g e, iC c, iC d]) ∧ ((clB g c && clB g d) = true → v = match plM g c d with | some r => .tup [.own r.isEmpty 3 1 (ints (rI r)), iB true, iI 0] | none => .tup [.own true 3 1 [], iB false, iI 0]) ∧ ((clB g c && clB g d) = false → v = .tup [.own true 3 1 [], iB false, iI 1000]) := by
  cases hc : clB g c
  · refine ⟨_, wfn (lk := []) rfl rfl (fnW_way (q10 _ _ z (syms g) e c.lz (lits c.ls) c.le c.tz (rws c.ts) c.te c.cz (lits c.cs) c.ce d.lz (lits d.ls) d.le d.tz (rws d.ts) d.te d.cz (lits d.cs) d.ce _) ⟨_, _, _, w_clmay z g e c, by rw [hc]; rfl⟩), by simp, fun _ => rfl⟩
  cases hd : clB g d
  · refine ⟨_, wfn (lk := []) rfl rfl (fnW_way (q10 _ _ z (syms g) e c.lz (lits c.ls) c.le c.tz (rws c.ts) c.te c.cz (lits c.cs) c.ce d.lz (lits d.ls) d.le d.tz (rws d.ts) d.te d.cz (lits d.cs) d.ce _) ⟨_, _, _, w_clmay z g e c, by rw [hc]; exact ⟨_, _, _, w_clmay z g e d, by rw [hd]; rfl⟩⟩), by simp, fun _ => rfl⟩
  have h := w_says z e hc hd hn hm
  cases hp : plM g c d with
  | none =>
    rw [hp] at h
    exact ⟨_, wfn (lk := []) rfl rfl (fnW_way (q10 _ _ z (syms g) e c.lz (lits c.ls) c.le c.tz (rws c.ts) c.te c.cz (lits c.cs) c.ce d.lz (lits d.ls) d.le d.tz (rws d.ts) d.te d.cz (lits d.cs) d.ce _) ⟨_, _, _, w_clmay z g e c, by rw [hc]; exact ⟨_, _, _, w_clmay z g e d, by rw [hd]; exact ⟨_, _, _, _, _, _, h, rfl⟩⟩⟩), fun _ => rfl, by simp⟩
  | some r =>
    rw [hp] at h
    exact ⟨_, wfn (lk := []) rfl rfl (fnW_way (q10 _ _ z (syms g) e c.lz (lits c.ls) c.le c.tz (rws c.ts) c.te c.cz (lits c.cs) c.ce d.lz (lits d.ls) d.le d.tz (rws d.ts) d.te d.cz (lits d.cs) d.ce _) ⟨_, _, _, w_clmay z g e c, by rw [hc]; exact ⟨_, _, _, w_clmay z g e d, by rw [hd]; exact ⟨_, _, _, _, _, _, h, rfl⟩⟩⟩), fun _ => rfl, by simp⟩
def mayB (g : List Sym) (c d : Cl) : Bool := clB g c && clB g d
theorem w_does {g : List Sym} (z : Bool) (e : List D) {c d : Cl} (hn : NilC c) (hm : NilC d) : C 12 [iG z g e, iC c, iC d] = some (.tup [iB (mayB g c d && (plM g c d).isSome), iI (if mayB g c d = true then 0 else 1000)], [iG z g e, iC c, iC d]) := by
  refine wfn (lk := []) rfl rfl (fnW_way (q12 _ _ z (syms g) e c.lz (lits c.ls) c.le c.tz (rws c.ts) c.te c.cz (lits c.cs) c.ce d.lz (lits d.ls) d.le d.tz (rws d.ts) d.te d.cz (lits d.cs) d.ce _) ?_)
  obtain ⟨v, h, h1, h2⟩ := w_places z e hn hm (g := g)
  unfold mayB
  cases hb : (clB g c && clB g d)
  · rw [h2 hb] at h
    exact ⟨_, _, _, _, _, _, _, h, rfl⟩
  · cases hp : plM g c d with
    | none =>
      rw [h1 hb, hp] at h
      exact ⟨_, _, _, _, _, _, _, h, rfl⟩
    | some r =>
      rw [h1 hb, hp] at h
      exact ⟨_, _, _, _, _, _, _, h, rfl⟩
theorem does_iff {g : List Sym} {c d : Cl} : (plM g c d).isSome = true ↔ Says g c.c d.c := by
  rw [← says_find, Option.isSome_iff_exists]; rfl
end Go.Proofs.YtekdlnofmbfdgaaDoor.Ab

/- Structures of a few things: what holds in them holds of a clause just where it holds of its normal one; what says nothing holds in all. Plain lists; no condition. -/
set_option linter.unusedVariables false
set_option linter.unusedSimpArgs false
namespace Go.Qu
open Go Go.Ab

/-- The values of so many terms; `tv` tells what a symbol means. -/
def evT (g : List Sym) (tv : Int → List Int → Int) (env : Int → Int) : List Int → Nat → List Int
  | _, 0 => []
  | [], _ + 1 => []
  | c :: r, n + 1 => if c < 0 then env c :: evT g tv env r n else
    tv c ((evT g tv env r (n + (arOf g c).getD 0)).take ((arOf g c).getD 0)) :: (evT g tv env r (n + (arOf g c).getD 0)).drop ((arOf g c).getD 0)
theorem evT_len {g : List Sym} {tv : Int → List Int → Int} {env : Int → Int} : ∀ {r : List Int} {n k : Nat}, lenN g r n = some k → (evT g tv env r n).length = n
  | r, 0, k, h => by cases r <;> rfl
  | [], n + 1, k, h => by simp [lenN] at h
  | c :: r, n + 1, k, h => by
    obtain ⟨a, m, ha, hm, rfl⟩ := lenN_some h
    have ih := evT_len (tv := tv) (env := env) hm
    rw [evT, ha]
    split
    · have : a = 0 := by
        rename_i h0
        rw [arOf, if_pos h0] at ha
        split at ha
        · cases ha; rfl
        · cases ha
      subst this
      simpa using ih
    · simp [ih]
theorem evT_app {g : List Sym} {tv : Int → List Int → Int} {env : Int → Int} : ∀ {r : List Int} {n k : Nat} (m : Nat), lenN g r n = some k → evT g tv env r (n + m) = evT g tv env r n ++ evT g tv env (r.drop k) m
  | r, 0, k, m, h => by
    have : k = 0 := by cases r <;> (simp [lenN] at h; exact h.symm)
    subst this
    cases r <;> simp [evT]
  | [], n + 1, k, m, h => by simp [lenN] at h
  | c :: r, n + 1, k, m, h => by
    obtain ⟨a, j, ha, hj, rfl⟩ := lenN_some h
    have ih := evT_app (tv := tv) (env := env) m hj
    have hl := evT_len (tv := tv) (env := env) hj
    rw [show n + 1 + m = (n + m) + 1 by omega, evT, evT, ha]
    simp only [Option.getD_some, List.drop_succ_cons]
    rw [show n + m + a = n + a + m by omega, ih]
    split
    · have : a = 0 := by
        rename_i h0
        rw [arOf, if_pos h0] at ha
        split at ha
        · cases ha; rfl
        · cases ha
      subst this
      have e1 : evT g tv env r (n + m) = evT g tv env r n ++ evT g tv env (r.drop j) m := by simpa using ih
      simp [e1]
    · rw [List.take_append_of_le_length (by omega), List.drop_append_of_le_length (by omega)]; rfl
theorem evT_take {g : List Sym} {tv : Int → List Int → Int} {env : Int → Int} : ∀ {r : List Int} {n k : Nat}, lenN g r n = some k → evT g tv env (r.take k) n = evT g tv env r n
  | r, 0, k, h => by cases r <;> cases k <;> rfl
  | [], n + 1, k, h => by simp [lenN] at h
  | c :: r, n + 1, k, h => by
    obtain ⟨a, m, ha, hm, rfl⟩ := lenN_some h
    have ih := evT_take (tv := tv) (env := env) hm
    rw [List.take_succ_cons, evT, evT, ha]
    simp only [Option.getD_some]
    rw [ih]
    split
    · have : a = 0 := by
        rename_i h0
        rw [arOf, if_pos h0] at ha
        split at ha
        · cases ha; rfl
        · cases ha
      subst this
      have e1 : evT g tv env (r.take m) n = evT g tv env r n := by simpa using ih
      rw [e1]
    · rfl
theorem evT_map {g : List Sym} {tv : Int → List Int → Int} {env env' : Int → Int} (f : Int → Int) (hf : ∀ c, (f c < 0 ↔ c < 0) ∧ (0 ≤ c → f c = c)) : ∀ {r : List Int} {n : Nat}, (∀ c ∈ r, c < 0 → env (f c) = env' c) → evT g tv env (r.map f) n = evT g tv env' r n
  | r, 0, h => by cases r <;> rfl
  | [], n + 1, h => rfl
  | c :: r, n + 1, h => by
    have hr : ∀ x ∈ r, x < 0 → env (f x) = env' x := fun x hx => h x (by simp [hx])
    simp only [List.map_cons, evT]
    by_cases h0 : c < 0
    · rw [if_pos ((hf c).1.2 h0), if_pos h0, h c (by simp) h0, evT_map f hf hr]
    · rw [if_neg (fun h1 => h0 ((hf c).1.1 h1)), if_neg h0, (hf c).2 (by omega), evT_map f hf hr]
theorem evT_ext {g : List Sym} {tv : Int → List Int → Int} {env env' : Int → Int} {r : List Int} {n : Nat} (h : ∀ c ∈ r, c < 0 → env c = env' c) : evT g tv env r n = evT g tv env' r n := by
  have := evT_map (g := g) (tv := tv) (env := env) (env' := env') id (fun c => ⟨Iff.rfl, fun _ => rfl⟩) (r := r) (n := n) h
  rwa [List.map_id] at this
def valsF (g : List Sym) (tv : Int → List Int → Int) (env : Int → Int) (r : List Int) : List Int := evT g tv env r (termsN g r)
/-- Does an atom hold? `pv` tells it of a predicate. -/
def atomH (g : List Sym) (tv : Int → List Int → Int) (pv : Int → List Int → Bool) (env : Int → Int) (a : List Int) : Bool :=
  if gi a 0 = 0 then decide (gi (valsF g tv env a.tail) 0 = gi (valsF g tv env a.tail) 1) else pv (gi a 0) (valsF g tv env a.tail)
def litH (g : List Sym) (tv : Int → List Int → Int) (pv : Int → List Int → Bool) (env : Int → Int) (l : LC) : Bool := atomH g tv pv env l.2 != l.1
def tupH (g : List Sym) (tv : Int → List Int → Int) (qv : List Int → Bool) (env : Int → Int) (r : List Int) : Bool := qv (valsF g tv env r)
def hereH (g : List Sym) (tv : Int → List Int → Int) (pv : Int → List Int → Bool) (qv : List Int → Bool) (c : CC) (env : Int → Int) : Bool :=
  c.cs.any (fun l => !litH g tv pv env l) || (c.ls.any (litH g tv pv env) || c.ts.any (tupH g tv qv env))
theorem any_mem {α : Type} {l m : List α} (p : α → Bool) (h : ∀ x, x ∈ l ↔ x ∈ m) : l.any p = m.any p := by
  rw [Bool.eq_iff_iff, List.any_eq_true, List.any_eq_true]; simp only [h]
theorem here_once {g : List Sym} {tv : Int → List Int → Int} {pv : Int → List Int → Bool} {qv : List Int → Bool} (c : CC) (env : Int → Int) : hereH g tv pv qv (onceC c) env = hereH g tv pv qv c env := by
  unfold hereH onceC
  rw [any_mem _ (fun x => by rw [mem_once]; simp : ∀ x, x ∈ onceK id [] c.cs ↔ x ∈ c.cs), any_mem _ (fun x => by rw [mem_once]; simp : ∀ x, x ∈ onceK id [] c.ls ↔ x ∈ c.ls), any_mem _ (fun x => by rw [mem_once]; simp : ∀ x, x ∈ onceK id [] c.ts ↔ x ∈ c.ts)]
theorem any_ext {α : Type} {l : List α} {p q : α → Bool} (h : ∀ x ∈ l, p x = q x) : l.any p = l.any q := by
  induction l with
  | nil => rfl
  | cons x l ih => rw [List.any_cons, List.any_cons, h x (by simp), ih (fun y hy => h y (by simp [hy]))]
theorem atom_row {g : List Sym} {p : Int} {r : List Int} (h : atomB g (p :: r) = true) : 0 ≤ p ∧ rowB g r = true := by
  simp only [atomB] at h
  split at h
  · cases h
  · split at h
    · cases h
    · simp only [Bool.and_eq_true] at h
      refine ⟨by omega, ?_⟩
      unfold rowB
      cases hp : rowP g r with
      | none => rw [hp] at h; simp at h
      | some ts => simp [h.1.2]
theorem atom_ren {g : List Sym} {tv : Int → List Int → Int} {pv : Int → List Int → Bool} {env env' : Int → Int} {s : List Int} (hs : s.length ≤ 24) {a : List Int} (ha : atomB g a = true) (hm : ∀ c ∈ a, c < 0 → c ∈ s) (h : ∀ c ∈ a, c < 0 → env (renC s c) = env' c) : atomH g tv pv env (renR s a) = atomH g tv pv env' a := by
  cases a with
  | nil => simp [atomB] at ha
  | cons p r =>
    obtain ⟨h0, h1⟩ := atom_row ha
    have hp : renC s p = p := by simp [renC, h0]
    have h2 := ren_row hs h1 (fun c hc => hm c (by simp [hc]))
    have h3 : valsF g tv env (renR s r) = valsF g tv env' r := by
      unfold valsF
      rw [h2.2]
      exact evT_map (renC s) (fun c => ⟨ren_neg s c, fun h => by simp [renC, h]⟩) (fun c hc => h c (by simp [hc]))
    have h4 : renR s (p :: r) = p :: renR s r := by simp [renR, hp]
    rw [h4, atomH, atomH, List.tail_cons, List.tail_cons, h3]; rfl
theorem here_ren {g : List Sym} {tv : Int → List Int → Int} {pv : Int → List Int → Bool} {qv : List Int → Bool} {env env' : Int → Int} {s : List Int} (hs : s.length ≤ 24) {c : CC} (hc : ClOk g c) (hm : ∀ r ∈ c.rows, ∀ x ∈ r, x < 0 → x ∈ s) (h : ∀ r ∈ c.rows, ∀ x ∈ r, x < 0 → env (renC s x) = env' x) : hereH g tv pv qv (renCC s c) env = hereH g tv pv qv c env' := by
  unfold hereH renCC
  simp only [List.any_map]
  have h1 : ∀ l ∈ c.ls, litH g tv pv env (renL s l) = litH g tv pv env' l := fun l hl => by
    unfold litH renL
    rw [atom_ren hs (hc.la l hl) (hm _ (in_ls hl)) (h _ (in_ls hl))]
  have h2 : ∀ l ∈ c.cs, litH g tv pv env (renL s l) = litH g tv pv env' l := fun l hl => by
    unfold litH renL
    rw [atom_ren hs (hc.ca l hl) (hm _ (in_cs hl)) (h _ (in_cs hl))]
  have h3 : ∀ r ∈ c.ts, tupH g tv qv env (renR s r) = tupH g tv qv env' r := fun r hr => by
    obtain ⟨k, hk⟩ := hc.tr
    have hin : r ∈ c.rows := by simp [CC.rows, hr]
    unfold tupH valsF
    rw [(ren_row hs (hk r hr).1 (hm r hin)).2]
    exact congrArg qv (evT_map (renC s) (fun c => ⟨ren_neg s c, fun h => by simp [renC, h]⟩) (h r hin))
  have k1 : c.cs.any ((fun l => !litH g tv pv env l) ∘ renL s) = c.cs.any fun l => !litH g tv pv env' l := any_ext fun l hl => congrArg (fun b => !b) (h2 l hl)
  have k2 : c.ls.any (litH g tv pv env ∘ renL s) = c.ls.any (litH g tv pv env') := any_ext fun l hl => h1 l hl
  have k3 : c.ts.any (tupH g tv qv env ∘ renR s) = c.ts.any (tupH g tv qv env') := any_ext fun l hl => h3 l hl
  rw [k1, k2, k3]
theorem here_ext {g : List Sym} {tv : Int → List Int → Int} {pv : Int → List Int → Bool} {qv : List Int → Bool} {env env' : Int → Int} {c : CC} (h : ∀ r ∈ c.rows, ∀ x ∈ r, x < 0 → env x = env' x) : hereH g tv pv qv c env = hereH g tv pv qv c env' := by
  have hv : ∀ (a b : List Int), a.tail = b → (∀ x ∈ a, x < 0 → env x = env' x) → valsF g tv env b = valsF g tv env' b := fun a b hb ha => evT_ext (fun c hc => ha c (List.mem_of_mem_tail (hb ▸ hc)))
  have h1 : ∀ l ∈ c.ls, litH g tv pv env l = litH g tv pv env' l := fun l hl => by
    unfold litH atomH; rw [hv l.2 _ rfl (h _ (in_ls hl))]
  have h2 : ∀ l ∈ c.cs, litH g tv pv env l = litH g tv pv env' l := fun l hl => by
    unfold litH atomH; rw [hv l.2 _ rfl (h _ (in_cs hl))]
  have h3 : ∀ r ∈ c.ts, tupH g tv qv env r = tupH g tv qv env' r := fun r hr =>
    congrArg qv (evT_ext (h r (by simp [CC.rows, hr])))
  unfold hereH
  rw [any_ext (q := fun l => !litH g tv pv env' l) (fun l hl => by rw [h2 l hl]), any_ext h1, any_ext h3]
/-- What stands for variables. -/
def envV (vs ds : List Int) (c : Int) : Int := if (-1 - c) ∈ vs then gi ds (vs.idxOf (-1 - c)) else 0
/-- Whatever stands for the variables. -/
def holdsP (sz : Int) (vs : List Int) (here : (Int → Int) → Bool) : Prop := ∀ ds : List Int, ds.length = vs.length → (∀ d ∈ ds, 0 ≤ d ∧ d < sz) → here (envV vs ds) = true
theorem gi_map {α : Type} (f : α → Int) : ∀ (l : List α) (i : Nat) (h : i < l.length), gi (l.map f) i = f l[i] := fun l i h => by simp [gi, h]
theorem holds_norm {g : List Sym} {tv : Int → List Int → Int} {pv : Int → List Int → Bool} {qv : List Int → Bool} {c : CC} (hc : ClOk g c) (sz : Int) : holdsP sz (varsC (normC c).rows) (hereH g tv pv qv (normC c)) ↔ holdsP sz (varsC c.rows) (hereH g tv pv qv c) := by
  have hs := seenC_len hc
  have hm : ∀ r ∈ c.rows, ∀ x ∈ r, x < 0 → x ∈ seenC c := fun r hr x hx h0 => mem_seenC.2 ⟨h0, r, hr, hx⟩
  have ho : ClOk g (onceC c) := by
    obtain ⟨k, hk⟩ := hc.tr
    refine ⟨hc.sg, Nat.le_trans (once_len id c.ls []) (by simpa using hc.l5), Nat.le_trans (once_len id c.ts []) (by simpa using hc.t3), Nat.le_trans (once_len id c.cs []) (by simpa using hc.c3), fun l hl => hc.la l (by simpa using (mem_once c.ls [] l).1 hl), ⟨k, fun r hr => hk r (by simpa using (mem_once c.ts [] r).1 hr)⟩, fun l hl => hc.ca l (by simpa using (mem_once c.cs [] l).1 hl), ?_⟩
    refine Nat.le_trans ?_ hc.sum
    simp only [CC.rows, onceC, lenI_app]
    have h1 := lenI_once (fun l : LC => l.2) c.ls []
    have h2 := lenI_once (fun l : List Int => l) c.ts []
    have h3 := lenI_once (fun l : LC => l.2) c.cs []
    simp [lenI] at h1 h2 h3
    omega
  have hh : ∀ env env' : Int → Int, (∀ x ∈ seenC c, env (renC (seenC c) x) = env' x) → hereH g tv pv qv (normC c) env = hereH g tv pv qv c env' := fun env env' h => by
    rw [normC, here_ren hs ho (fun r hr => hm r (mem_onceC.1 hr)) (fun r hr x hx h0 => h x (hm r (mem_onceC.1 hr) x hx h0)), here_once]
  have hl := vars_len c
  rw [vars_norm]
  have hidx : ∀ x ∈ seenC c, x < 0 := fun x hx => (mem_seenC.1 hx).1
  have hR : ∀ i, i < (seenC c).length → (((List.range (seenC c).length).map fun (i : Nat) => (i : Int)).idxOf (i : Int)) = i := by
    intro i hi
    have hn : ((List.range (seenC c).length).map fun (i : Nat) => (i : Int)).Nodup := by
      rw [List.nodup_iff_pairwise_ne]
      exact List.pairwise_map.2 (List.pairwise_lt_range.imp (fun h => by omega))
    have := hn.idxOf_getElem i (by simpa using hi)
    simpa using this
  have hE : ∀ (ds : List Int) (x : Int), x ∈ seenC c → envV ((List.range (seenC c).length).map fun (i : Nat) => (i : Int)) ds (renC (seenC c) x) = gi ds ((seenC c).idxOf x) := by
    intro ds x hx
    have h0 := hidx x hx
    have h1 := List.idxOf_lt_length_of_mem hx
    have h2 : -1 - renC (seenC c) x = (((seenC c).idxOf x : Nat) : Int) := by rw [renC, if_neg (by omega)]; omega
    rw [envV, h2, if_pos (List.mem_map.2 ⟨_, List.mem_range.2 h1, rfl⟩), hR _ h1]
  constructor
  · intro h ds hd1 hd2
    have h1 := h ((seenC c).map fun x => envV (varsC c.rows) ds x) (by simp) (by
      intro d hd
      obtain ⟨x, hx, rfl⟩ := List.mem_map.1 hd
      unfold envV
      split
      · rename_i h2
        exact hd2 _ (gi_mem (by rw [hd1]; exact List.idxOf_lt_length_of_mem h2))
      · rename_i h2
        refine absurd ((vars_seen c).2 ⟨by have := hidx x hx; omega, ?_⟩) h2
        rw [show (-1 - (-1 - x) : Int) = x by omega]; exact hx)
    rw [hh _ (envV (varsC c.rows) ds) (fun x hx => by
      rw [hE _ x hx, gi_map _ _ _ (List.idxOf_lt_length_of_mem hx), List.getElem_idxOf])] at h1
    exact h1
  · intro h ds hd1 hd2
    have hd3 : ds.length = (seenC c).length := by simpa using hd1
    have h1 := h ((varsC c.rows).map fun v => gi ds ((seenC c).idxOf (-1 - v))) (by simp) (by
      intro d hd
      obtain ⟨v, hv, rfl⟩ := List.mem_map.1 hd
      exact hd2 _ (gi_mem (by rw [hd3]; exact List.idxOf_lt_length_of_mem ((vars_seen c).1 hv).2)))
    rw [hh _ _ (fun x hx => ?_)]
    · exact h1
    · rw [hE _ x hx]
      have h0 := hidx x hx
      have h2 : (-1 - x) ∈ varsC c.rows := (vars_seen c).2 ⟨by omega, by rw [show (-1 - (-1 - x) : Int) = x by omega]; exact hx⟩
      rw [envV, if_pos h2, gi_map _ _ _ (List.idxOf_lt_length_of_mem h2), List.getElem_idxOf, show (-1 - (-1 - x) : Int) = x by omega]
theorem here_triv {g : List Sym} {tv : Int → List Int → Int} {pv : Int → List Int → Bool} {qv : List Int → Bool} {c : CC} (hc : ClOk g c) (ht : trivB g c.ls = true) (env : Int → Int) : hereH g tv pv qv c env = true := by
  unfold hereH
  have : c.ls.any (litH g tv pv env) = true := by
    rw [trivB, List.any_eq_true] at ht
    obtain ⟨l, hl, h⟩ := ht
    rw [Bool.or_eq_true] at h
    rcases h with h | h
    · refine List.any_eq_true.2 ⟨l, hl, ?_⟩
      have ha := hc.la l hl
      obtain ⟨b, a⟩ := l
      simp only [selfB, Bool.and_eq_true, Bool.not_eq_true', beq_iff_eq] at h
      obtain ⟨h1, h2, h3⟩ := h
      subst h1
      unfold litH atomH
      simp only [h2, if_true]
      split at h3
      · rename_i x y hp
        have hxy : x = y := by simpa using h3
        subst hxy
        cases a with
        | nil => simp [atomB] at ha
        | cons p r =>
          rw [List.tail_cons] at hp ⊢
          have h6 := rowB_parts (atom_row ha).2
          have h7 : termsN g r = 2 := by rw [termsN_of h6.1 h6.2.1 hp]; rfl
          obtain ⟨h8, h9⟩ | ⟨k, us, h8, h9, h10, _⟩ := parts_cases hp
          · cases h9
          · simp only [List.cons.injEq] at h10
            obtain ⟨h11, rfl⟩ := h10
            obtain ⟨h12, h13⟩ | ⟨k2, us2, h12, h13, h14, _⟩ := parts_cases h9
            · cases h13
            · simp only [List.cons.injEq] at h14
              have e1 := evT_take (tv := tv) (env := env) h8
              have e2 := evT_take (tv := tv) (env := env) h12
              have e3 := evT_app (tv := tv) (env := env) 1 h8
              have e4 : evT g tv env (r.drop k) 1 = evT g tv env r 1 := by rw [← e1, ← e2, ← h11, h14.1]
              have e5 := evT_len (tv := tv) (env := env) h8
              have e6 : valsF g tv env r = evT g tv env r 1 ++ evT g tv env r 1 := by unfold valsF; rw [h7, ← e4]; exact e3.trans (by rw [e4])
              rw [e6]
              generalize evT g tv env r 1 = w at *
              obtain ⟨a, rfl⟩ : ∃ a, w = [a] := List.length_eq_one_iff.1 e5
              simp [gi]
      · cases h3
    · obtain ⟨m, hm, ho⟩ := List.any_eq_true.1 h
      simp only [oddB, Bool.and_eq_true, decide_eq_true_eq, bne_iff_ne] at ho
      cases h5 : litH g tv pv env l
      · refine List.any_eq_true.2 ⟨m, hm, ?_⟩
        unfold litH at h5 ⊢
        rw [← ho.2]
        have := ho.1
        cases h6 : atomH g tv pv env l.2 <;> cases h7 : l.1 <;> cases h8 : m.1 <;> simp_all
      · exact List.any_eq_true.2 ⟨l, hl, h5⟩
  simp [this]
end Go.Qu

/- Structures of a few things: what the reference's functions hand back. For every input; no condition. -/
set_option linter.unusedVariables false
set_option linter.unusedSimpArgs false
set_option maxRecDepth 100000
namespace Go.Proofs.YtekdlnofmbfdgaaDoor.Ab
open Go Go.Ab Go.Qu Go.Proofs
attribute [local simp] and_assoc
def hashS (h a : Int) : Int := IntKind.wrap .u64 (IntKind.wrap .u64 (IntKind.wrap .u64 (h * 5) + IntKind.wrap .u64 a) + 3)
def hashF (h : Int) (l : List Int) : Int := l.foldl hashS h
def hash0 (c : Int) : Int := IntKind.wrap .u64 (IntKind.wrap .i64 (IntKind.wrap .i64 (c * 7) + 1))
def andI (w m : Int) : Int := IntKind.wrap .i64 ((BitVec.toNat (BitVec.ofInt (IntKind.bits .i64) w &&& BitVec.ofInt (IntKind.bits .i64) m) : Nat) : Int)
def lookI (ns : List Int) (c : Int) (l : List Int) : Int := IntKind.wrap .i64 (Int.tmod (hashF (hash0 c) l) (IntKind.wrap .u64 (ns.length : Int)))
def lookV (ns : List Int) (c : Int) (l : List Int) : Int := if ns = [] then 0 else andI (gi ns (lookI ns c l).toNat) 255
theorem u64_ge (x : Int) : 0 ≤ IntKind.wrap .u64 x ∧ IntKind.wrap .u64 x < 18446744073709551616 := by
  unfold IntKind.wrap
  simp [IntKind.signed, IntKind.bits]
  omega
theorem u64_len {n : Nat} (h : n < 20000000000000) : IntKind.wrap .u64 (n : Int) = n := by
  unfold IntKind.wrap
  simp [IntKind.signed, IntKind.bits]
  omega
theorem hashF_ge : ∀ (l : List Int) {h : Int}, 0 ≤ h → 0 ≤ hashF h l
  | [], h, h0 => h0
  | a :: l, h, _ => hashF_ge l (h := hashS h a) (u64_ge _).1
theorem lookI_in {ns : List Int} (hn : ns ≠ []) (hl : ns.length < 20000000000000) (c : Int) (l : List Int) : 0 ≤ lookI ns c l ∧ lookI ns c l < ns.length := by
  unfold lookI
  rw [u64_len hl]
  have h0 := hashF_ge l (h := hash0 c) (u64_ge _).1
  have h1 : (0 : Int) < ns.length := by have := List.length_pos_iff.2 hn; omega
  have h2 := Int.tmod_nonneg (ns.length : Int) h0
  have h3 := Int.tmod_lt_of_pos (hashF (hash0 c) l) h1
  rw [wr _ (by omega) (by omega)]
  exact ⟨h2, h3⟩
theorem and255 (w : Int) : 0 ≤ andI w 255 ∧ andI w 255 ≤ 255 := by
  unfold andI
  have h1 : (BitVec.toNat (BitVec.ofInt (IntKind.bits .i64) w &&& BitVec.ofInt (IntKind.bits .i64) 255)) ≤ 255 := by
    rw [BitVec.toNat_and]
    exact Nat.le_trans Nat.and_le_right (by decide)
  rw [wr _ (by omega) (by omega)]
  omega
theorem lookV_ge (ns : List Int) (c : Int) (l : List Int) : 0 ≤ lookV ns c l := by
  unfold lookV
  split
  · omega
  · exact (and255 _).1
/-- A structure. -/
abbrev dM (sz : Int) (zn : Bool) (ns : List Int) (en : List D) : List D := [.int .i64 sz, .sl 1 zn (ints ns) en]
abbrev iM (sz : Int) (zn : Bool) (ns : List Int) (en : List D) : IV := .d (.agg (dM sz zn ns en))
abbrev bMd (sz : Int) (zn : Bool) (ns : List Int) (en : List D) : IV := .dbox 59 0 (dM sz zn ns en)
theorem l_look (sz : Int) (zn : Bool) (ns : List Int) (en : List D) {l : List Int} (hl : Len l) (z : Bool) (e : List D) (x : Int × Nat) (hx : x.2 ≤ l.length) :
    evP F (Go.Ab.W F) (JW F d108 []) d108 [] [1,1,1,0,1] [(2, iS z l e), (3, bMd sz zn ns en), (7, .d (.int .u64 x.1)), (8, iI x.2)] = some (.norm [(2, iS z l e), (3, bMd sz zn ns en), (7, .d (.int .u64 (hashF x.1 (l.drop x.2)))), (8, iI l.length)]) :=
  blk_fun (F := F) (d := d108) (lk := []) (p := [1,1,1,0,1,0,0]) (p0 := [1,1,1,0,1]) (id := 0) (by kernel_rfl) (st := fun (x : Int × Nat) => [(2, iS z l e), (3, bMd sz zn ns en), (7, .d (.int .u64 x.1)), (8, iI x.2)]) (I := fun x => x.2 ≤ l.length) (μ := fun x => l.length - x.2)
    (res := fun x => .norm [(2, iS z l e), (3, bMd sz zn ns en), (7, .d (.int .u64 (hashF x.1 (l.drop x.2)))), (8, iI l.length)])
    (fun x hx => by
      obtain ⟨h, i⟩ := x
      dsimp only at hx
      have hlt := hl.lt
      by_cases hi : i < l.length
      · have hi' : (i : Int) < l.length := by omega
        refine .go (hashS h (gi l i), i + 1) (wpQ_way (q108_l0a _ _ z (ints l) e sz zn (ints ns) en h i _) ?_) hi (by dsimp only; omega) ?_
        · refine condW_t (by rw [ints_len]; exact decide_eq_true hi') (condW_t (by simp) ⟨_, Go.Ab.ints_at hi, ?_⟩)
          rw [wr1 hi (by omega)]; rfl
        · dsimp only
          rw [gi_drop hi]; rfl
      · have e0 : i = l.length := by omega
        subst e0
        refine .stop (.exit 0 [(2, iS z l e), (3, bMd sz zn ns en), (7, .d (.int .u64 h)), (8, iI l.length)]) (wpQ_way (q108_l0a _ _ z (ints l) e sz zn (ints ns) en h l.length _) (condW_f (by rw [ints_len]; simp) rfl)) rfl ?_
        rw [List.drop_length]; rfl) x hx
theorem w_look (sz : Int) (zn : Bool) {ns : List Int} (hns : Len ns) (en : List D) (c : Int) {l : List Int} (hl : Len l) (z : Bool) (e : List D) : C 108 [iM sz zn ns en, iI c, iS z l e] = some (iI (lookV ns c l), [iM sz zn ns en, iI c, iS z l e]) := by
  refine wfn (lk := []) rfl rfl (fnW_way (q108 _ _ sz zn (ints ns) en c z (ints l) e _) ?_)
  unfold lookV
  by_cases hn : ns = []
  · subst hn
    exact condW_t rfl (by rw [if_pos rfl])
  · rw [if_neg hn]
    have hpos := List.length_pos_iff.2 hn
    refine condW_f (by rw [ints_len]; simp; omega) ?_
    have h1 := l_look sz zn ns en hl z e (hash0 c, 0) (Nat.zero_le _)
    dsimp only at h1
    rw [List.drop_zero] at h1
    obtain ⟨i0, i1⟩ := lookI_in hn hns.lt c l
    refine ⟨_, _, _, _, _, _, _, _, _, h1, ?_⟩
    rw [ints_len]
    have hu : (!IntKind.wrap .u64 (ns.length : Int) == 0) = true := by rw [u64_len hns.lt]; simp; omega
    refine condW_t hu ?_
    have e1 : IntKind.wrap .i64 (Int.tmod (hashF (hash0 c) l) (IntKind.wrap .u64 (ns.length : Int))) = lookI ns c l := rfl
    rw [e1]
    exact condW_t (decide_eq_true i0) ⟨_, Go.Ab.ints_at (by omega), rfl⟩
/-! ### Values -/
def tvM (sz : Int) (ns : List Int) (c : Int) (l : List Int) : Int := Int.tmod (lookV ns c l) sz
def envF (env : List Int) (c : Int) : Int := gi env (-1 - c).toNat
theorem tv_in {sz : Int} (hs : 1 ≤ sz) (ns : List Int) (c : Int) (l : List Int) : 0 ≤ tvM sz ns c l ∧ tvM sz ns c l < sz :=
  ⟨Int.tmod_nonneg _ (lookV_ge ns c l), Int.tmod_lt_of_pos _ (by omega)⟩
section
variable {g : List Sym} (hg : SigOk g) {sz : Int} (hs : 1 ≤ sz) (z zn ze : Bool) {ns : List Int} (hns : Len ns) (e en ee : List D) {env : List Int} (he : env.length = 24)
include hg hs hns he
theorem w_value (zr : Bool) (er : List D) {r : List Int} (hr : r.length ≤ 1000) : ∀ (k : Nat) {i : Nat}, lenN g (r.drop i) 1 = some k → C 118 [iM sz zn ns en, iG z g e, iS zr r er, iI i, iS ze env ee] = some (.tup [iI (gi (evT g (tvM sz ns) (envF env) (r.drop i) 1) 0), iI ((i + k : Nat) : Int)], [iM sz zn ns en, iG z g e, iS zr r er, iI i, iS ze env ee]) := by
  intro k
  induction k using Nat.strongRecOn with
  | _ k ih =>
    intro i hk
    have hle := lenN_le hk
    simp only [List.length_drop] at hle
    have hi : i < r.length := by omega
    refine wfn (lk := []) rfl rfl (fnW_way (q118 _ _ sz zn (ints ns) en z (syms g) e zr (ints r) er i ze (ints env) ee _) ?_)
    refine condW_t (by simp) ⟨gi r i, Go.Ab.ints_at hi, ?_⟩
    have hd := gi_drop hi
    have hw1 := wr1 hi (show r.length ≤ 9223372036854775807 by omega)
    rw [hd] at hk ⊢
    obtain ⟨a, m, ha, hm, hkm⟩ := lenN_some (n := 0) hk
    rw [Nat.zero_add] at hm
    by_cases h0 : gi r i < 0
    · have h24 : -24 ≤ gi r i := by
        rw [arOf, if_pos h0] at ha
        split at ha
        · assumption
        · cases ha
      have ha0 : a = 0 := by
        rw [arOf_var h0 h24] at ha
        cases ha; rfl
      subst ha0
      have hm0 : m = 0 := by
        have : lenN g (r.drop (i + 1)) 0 = some 0 := by cases r.drop (i + 1) <;> rfl
        rw [this] at hm; cases hm; rfl
      subst hm0
      have hwn : IntKind.wrap .i64 (-1 - gi r i) = -1 - gi r i := wr _ (by omega) (by omega)
      refine condW_t (decide_eq_true h0) ?_
      rw [hwn]
      have hidx : (-1 - gi r i).toNat < env.length := by omega
      refine condW_t (decide_eq_true (by omega)) ⟨_, Go.Ab.ints_at hidx, ?_⟩
      have e1 : gi (evT g (tvM sz ns) (envF env) (gi r i :: r.drop (i + 1)) 1) 0 = gi env (-1 - gi r i).toNat := by
        rw [evT, if_pos h0]; rfl
      rw [e1, hw1, hkm]
    · refine condW_f (decide_eq_false h0) ?_
      have hs' : ∃ s, g[(gi r i).toNat]? = some s ∧ a = s.ar.toNat := by
        rw [arOf, if_neg h0] at ha
        split at ha
        · cases ha
        · rename_i s hs'
          split at ha
          · cases ha
          · cases ha; exact ⟨s, hs', rfl⟩
      obtain ⟨s, hsy, has⟩ := hs'
      have hnum := hg.nums _ _ hsy
      have hfl := evT_len (tv := tvM sz ns) (env := envF env) hm
      obtain ⟨full, hfull⟩ : ∃ full, full = evT g (tvM sz ns) (envF env) (r.drop (i + 1)) a := ⟨_, rfl⟩
      rw [← hfull] at hfl
      have hml := lenN_le hm
      simp only [List.length_drop] at hml
      have hloop := blk_fun (F := F) (d := d118) (lk := []) (p := [1,1,1,1,1,0,1,0,0]) (p0 := [1,1,1,1,1,0,1]) (id := 0) (by kernel_rfl) (st := fun (x : List Int × Nat × Nat) => [(1, iG z g e), (2, iS zr r er), (3, iI x.2.1), (4, iS ze env ee), (5, bMd sz zn ns en), (12, iI (gi r i)), (13, .own x.1.isEmpty 3 1 (ints x.1)), (14, iI x.2.2)])
        (I := fun x => x.2.2 ≤ a ∧ x.1.length = x.2.2 ∧ i + 1 ≤ x.2.1 ∧ x.2.1 ≤ i + 1 + m ∧ lenN g (r.drop x.2.1) (a - x.2.2) = some (i + 1 + m - x.2.1) ∧ x.1 ++ evT g (tvM sz ns) (envF env) (r.drop x.2.1) (a - x.2.2) = full) (μ := fun x => a - x.2.2)
        (res := fun _ => .norm [(1, iG z g e), (2, iS zr r er), (3, iI ((i + 1 + m : Nat) : Int)), (4, iS ze env ee), (5, bMd sz zn ns en), (12, iI (gi r i)), (13, .own full.isEmpty 3 1 (ints full)), (14, iI a)])
        (fun x hx => by
          obtain ⟨vs, q, j⟩ := x
          obtain ⟨x1, x2, x3, x4, x5, x6⟩ := hx
          dsimp only at x1 x2 x3 x4 x5 x6
          by_cases hj : j < a
          · obtain ⟨n', hn'⟩ : ∃ n', a - j = n' + 1 := ⟨a - j - 1, by omega⟩
            rw [hn'] at x5 x6
            obtain ⟨k1, k2, y1, y2, y3⟩ := lenN_first x5
            have hk1 := lenN_le y1
            have hrec := ih k1 (by omega) y1
            rw [Nat.add_comm n' 1, evT_app n' y1] at x6
            have hl1 := evT_len (tv := tvM sz ns) (env := envF env) y1
            have hv : evT g (tvM sz ns) (envF env) (r.drop q) 1 = [gi (evT g (tvM sz ns) (envF env) (r.drop q) 1) 0] := by
              match hvv : evT g (tvM sz ns) (envF env) (r.drop q) 1, hl1 with
              | [v], _ => rfl
            have hjs : (j : Int) < s.ar := by omega
            refine .go (vs ++ [gi (evT g (tvM sz ns) (envF env) (r.drop q) 1) 0], q + k1, j + 1) (wpQ_way (q118_l0a _ _ z (syms g) e zr (ints r) er q ze (ints env) ee sz zn (ints ns) en (gi r i) vs.isEmpty (ints vs) j _) ?_) ⟨hj, by simp; omega, by dsimp only; omega, by dsimp only; omega, ?_, ?_⟩ (by dsimp only; omega) rfl
            · refine condW_t (decide_eq_true (by omega)) ⟨_, _, _, _, syms_at hsy, condW_t (decide_eq_true hjs) ⟨_, _, _, _, _, _, _, hrec, condW_t (by rw [ints_len]; simp; omega) (condW_t (by rw [ints_len]; simp; omega) ?_)⟩⟩
              rw [wr1 (show j < 1000 by omega) (by omega)]
              have hem : (vs ++ [gi (evT g (tvM sz ns) (envF env) (r.drop q) 1) 0]).isEmpty = false := by simp
              dsimp only
              rw [hem, ints_append]
              simp [ints_cons, ints_nil]
            · dsimp only
              rw [← List.drop_drop, show a - (j + 1) = n' by omega, y2]; congr 1; omega
            · dsimp only
              rw [← List.drop_drop, show a - (j + 1) = n' by omega, List.append_assoc, ← hv]; exact x6
          · have e0 : j = a := by omega
            subst e0
            have hjs : ¬ ((vs.length : Nat) : Int) < s.ar := by omega
            rw [Nat.sub_self] at x5 x6
            have y0 : lenN g (r.drop q) 0 = some 0 := by cases r.drop q <;> rfl
            have y1 : evT g (tvM sz ns) (envF env) (r.drop q) 0 = [] := by cases r.drop q <;> rfl
            rw [y0] at x5
            simp only [Option.some.injEq] at x5
            rw [y1, List.append_nil] at x6
            subst x6
            have hq : q = i + 1 + m := by omega
            subst hq
            refine .stop (.exit 0 [(1, iG z g e), (2, iS zr r er), (3, iI ((i + 1 + m : Nat) : Int)), (4, iS ze env ee), (5, bMd sz zn ns en), (12, iI (gi r i)), (13, .own vs.isEmpty 3 1 (ints vs)), (14, iI j)]) (wpQ_way (q118_l0a _ _ z (syms g) e zr (ints r) er (i + 1 + m : Nat) ze (ints env) ee sz zn (ints ns) en (gi r i) vs.isEmpty (ints vs) j _) ?_) rfl rfl
            refine condW_t (decide_eq_true (by omega)) ⟨_, _, _, _, syms_at hsy, condW_f (decide_eq_false (by omega)) rfl⟩) ([], i + 1, 0) ⟨Nat.zero_le _, rfl, Nat.le_refl _, by dsimp only; omega, by dsimp only; rw [Nat.sub_zero, hm]; congr 1; omega, by dsimp only; rw [Nat.sub_zero, ← hfull]; rfl⟩
      rw [hw1]
      have hlf : Len full := by unfold Len; omega
      have hlk := w_look sz zn hns en (gi r i) hlf full.isEmpty []
      refine ⟨_, _, _, _, _, _, _, _, _, _, _, _, _, _, _, _, _, _, hloop, _, _, _, _, hlk, condW_t (by simp; omega) ?_⟩
      have e1 : gi (evT g (tvM sz ns) (envF env) (gi r i :: r.drop (i + 1)) 1) 0 = Int.tmod (lookV ns (gi r i) full) sz := by
        rw [evT, if_neg h0, ha]
        simp only [Option.getD_some, Nat.zero_add]
        rw [← hfull, List.take_of_length_le (by omega)]
        rfl
      have e2 : i + 1 + m = i + k := by omega
      rw [e1, e2]
theorem w_values (zr : Bool) (er : List D) {r : List Int} (hr : r.length ≤ 1000) {n : Nat} (hn : lenN g r n = some r.length) : C 109 [iM sz zn ns en, iG z g e, iS zr r er, iS ze env ee] = some (.own (evT g (tvM sz ns) (envF env) r n).isEmpty 3 1 (ints (evT g (tvM sz ns) (envF env) r n)), [iM sz zn ns en, iG z g e, iS zr r er, iS ze env ee]) := by
  refine wfn (lk := []) rfl rfl (fnW_way (q109 _ _ sz zn (ints ns) en z (syms g) e zr (ints r) er ze (ints env) ee _) ?_)
  obtain ⟨full, hfull⟩ : ∃ full, full = evT g (tvM sz ns) (envF env) r n := ⟨_, rfl⟩
  have hfl := evT_len (tv := tvM sz ns) (env := envF env) hn
  rw [← hfull] at hfl ⊢
  have hnl := (lenN_le hn).2
  have hloop := blk_fun (F := F) (d := d109) (lk := []) (p := [1,1,1,0,0,0]) (p0 := [1,1,1,0]) (id := 0) (by kernel_rfl) (st := fun (x : List Int × Nat × Nat) => [(1, iG z g e), (2, iS zr r er), (3, iS ze env ee), (4, bMd sz zn ns en), (9, .own x.1.isEmpty 3 1 (ints x.1)), (10, iI x.2.1)])
    (I := fun x => x.2.1 ≤ r.length ∧ x.1.length + x.2.2 = n ∧ lenN g (r.drop x.2.1) x.2.2 = some (r.length - x.2.1) ∧ x.1 ++ evT g (tvM sz ns) (envF env) (r.drop x.2.1) x.2.2 = full) (μ := fun x => r.length - x.2.1)
    (res := fun _ => .norm [(1, iG z g e), (2, iS zr r er), (3, iS ze env ee), (4, bMd sz zn ns en), (9, .own full.isEmpty 3 1 (ints full)), (10, iI r.length)])
    (fun x hx => by
      obtain ⟨vs, q, n'⟩ := x
      obtain ⟨x1, x2, x3, x4⟩ := hx
      dsimp only at x1 x2 x3 x4
      by_cases hq : q < r.length
      · obtain ⟨n1, rfl⟩ : ∃ n1, n' = n1 + 1 := by
          cases n' with
          | zero =>
            have y0 : lenN g (r.drop q) 0 = some 0 := by cases r.drop q <;> rfl
            rw [y0] at x3
            simp only [Option.some.injEq] at x3
            omega
          | succ n1 => exact ⟨n1, rfl⟩
        obtain ⟨k1, k2, y1, y2, y3⟩ := lenN_first x3
        have hk1 := lenN_le y1
        simp only [List.length_drop] at hk1
        have hrec := w_value hg hs z zn ze hns e en ee he zr er hr k1 y1
        rw [Nat.add_comm n1 1, evT_app n1 y1] at x4
        have hl1 := evT_len (tv := tvM sz ns) (env := envF env) y1
        have hv : evT g (tvM sz ns) (envF env) (r.drop q) 1 = [gi (evT g (tvM sz ns) (envF env) (r.drop q) 1) 0] := by
          match hvv : evT g (tvM sz ns) (envF env) (r.drop q) 1, hl1 with
          | [v], _ => rfl
        refine .go (vs ++ [gi (evT g (tvM sz ns) (envF env) (r.drop q) 1) 0], q + k1, n1) (wpQ_way (q109_l0a _ _ z (syms g) e zr (ints r) er ze (ints env) ee sz zn (ints ns) en vs.isEmpty (ints vs) q _) ?_) ⟨by dsimp only; omega, by simp; omega, ?_, ?_⟩ (by dsimp only; omega) rfl
        · refine condW_t (by rw [ints_len]; exact decide_eq_true (by omega)) ⟨_, _, _, _, _, _, _, hrec, condW_t (by rw [ints_len]; simp; omega) (condW_t (by rw [ints_len]; simp; omega) ?_)⟩
          have hem : (vs ++ [gi (evT g (tvM sz ns) (envF env) (r.drop q) 1) 0]).isEmpty = false := by simp
          dsimp only
          rw [hem, ints_append]
          simp [ints_cons, ints_nil]
        · dsimp only
          rw [← List.drop_drop, y2]; congr 1; omega
        · dsimp only
          rw [← List.drop_drop, List.append_assoc, ← hv]; exact x4
      · have e0 : q = r.length := by omega
        subst e0
        refine .stop (.exit 0 [(1, iG z g e), (2, iS zr r er), (3, iS ze env ee), (4, bMd sz zn ns en), (9, .own vs.isEmpty 3 1 (ints vs)), (10, iI r.length)]) (wpQ_way (q109_l0a _ _ z (syms g) e zr (ints r) er ze (ints env) ee sz zn (ints ns) en vs.isEmpty (ints vs) r.length _) (condW_f (by rw [ints_len]; simp) rfl)) rfl ?_
        have hn0 : n' = 0 := by
          have := (lenN_le x3).2; omega
        subst hn0
        rw [List.drop_length] at x4
        have y1 : evT g (tvM sz ns) (envF env) [] 0 = [] := rfl
        rw [y1, List.append_nil] at x4
        rw [x4]; rfl) ([], 0, n) ⟨Nat.zero_le _, by simp, by dsimp only; simpa using hn, by dsimp only; rw [List.drop_zero, ← hfull]; rfl⟩
  exact ⟨_, _, _, _, _, _, _, _, _, _, _, _, _, _, _, _, hloop, rfl⟩
def pvM (ns : List Int) (c : Int) (l : List Int) : Bool := decide (andI (lookV ns c l) 1 = 1)
def qvM (ns : List Int) (l : List Int) : Bool := decide (andI (lookV ns 101 l) 2 = 2)
theorem w_matom (za : Bool) (ea : List D) {a : List Int} (ha : atomB g a = true) : C 107 [iM sz zn ns en, iG z g e, iS za a ea, iS ze env ee] = some (iB (atomH g (tvM sz ns) (pvM ns) (envF env) a), [iM sz zn ns en, iG z g e, iS za a ea, iS ze env ee]) := by
  obtain ⟨hl, _, _⟩ := atom_codes ha
  obtain ⟨p, r, rfl⟩ : ∃ p r, a = p :: r := by cases a with | nil => simp [atomB] at ha | cons p r => exact ⟨p, r, rfl⟩
  obtain ⟨hp, hrb⟩ := atom_row ha
  obtain ⟨hsg, hr48, ts, hts, hrp⟩ := rowB_parts hrb
  have hn := parts_all _ (Nat.le_refl _) hts
  have htn : termsN g r = ts.length := termsN_of hsg hr48 hts
  have hv := w_values hg hs z zn ze hns e en ee he za [] (r := r) (by omega) hn
  have hvl := evT_len (tv := tvM sz ns) (env := envF env) hn
  refine wfn (lk := []) rfl rfl (fnW_way (q107 _ _ sz zn (ints ns) en z (syms g) e za (ints (p :: r)) ea ze (ints env) ee _) ?_)
  have hd : List.drop (Int.toNat 1) (ints (p :: r)) = ints r := rfl
  rw [hd]
  have hH : atomH g (tvM sz ns) (pvM ns) (envF env) (p :: r) = if p = 0 then decide (gi (evT g (tvM sz ns) (envF env) r ts.length) 0 = gi (evT g (tvM sz ns) (envF env) r ts.length) 1) else pvM ns p (evT g (tvM sz ns) (envF env) r ts.length) := by
    unfold atomH valsF
    rw [List.tail_cons, htn]; rfl
  rw [hH]
  refine condW_t (by simp [ints_len]; omega) ⟨_, _, _, _, _, _, hv, p, rfl, ?_⟩
  by_cases h0 : p = 0
  · subst h0
    have h2 : ts.length = 2 := by
      have hg0 : ∃ s, g[0]? = some s ∧ s.ar = 2 := by
        unfold sigB at hsg
        simp only [Bool.and_eq_true] at hsg
        have h3 := hsg.1.2
        split at h3
        · rename_i s hs0
          simp only [eqSym, Bool.and_eq_true, beq_iff_eq] at h3
          exact ⟨s, hs0, h3.2.2.1⟩
        · cases h3
      obtain ⟨s, hs0, har⟩ := hg0
      unfold atomB at ha
      dsimp only at ha
      rw [if_neg (by omega), show Int.toNat 0 = 0 from rfl, hs0] at ha
      dsimp only at ha
      rw [hrp] at ha
      simp only [Bool.and_eq_true, beq_iff_eq] at ha
      have := ha.2
      omega
    rw [h2] at hvl hv ⊢
    rw [if_pos rfl]
    have i0 := Go.Ab.ints_at (l := evT g (tvM sz ns) (envF env) r 2) (i := 0) (by omega)
    have i1 := Go.Ab.ints_at (l := evT g (tvM sz ns) (envF env) r 2) (i := 1) (by omega)
    refine condW_t rfl ⟨_, i0, _, i0, _, i1, _, i1, ?_⟩
    by_cases he2 : gi (evT g (tvM sz ns) (envF env) r 2) 0 = gi (evT g (tvM sz ns) (envF env) r 2) 1
    · rw [decide_eq_true he2]; exact condW_t (by simpa using he2) rfl
    · rw [decide_eq_false he2]; exact condW_f (by simpa using he2) rfl
  · rw [if_neg h0]
    have hlk := w_look sz zn hns en p (l := evT g (tvM sz ns) (envF env) r ts.length) (by have := (lenN_le hn).2; unfold Len; omega) (evT g (tvM sz ns) (envF env) r ts.length).isEmpty []
    refine condW_f (by simpa using h0) ⟨p, rfl, _, _, _, _, hlk, ?_⟩
    unfold pvM
    by_cases h1 : andI (lookV ns p (evT g (tvM sz ns) (envF env) r ts.length)) 1 = 1
    · rw [decide_eq_true h1]; exact condW_t (by simpa [andI] using h1) rfl
    · rw [decide_eq_false h1]; exact condW_f (by simpa [andI] using h1) rfl
theorem w_mlit {l : LitR} (hl : atomB g l.r.l = true) : C 82 [iM sz zn ns en, iG z g e, iLit l.neg l.r.z l.r.l l.r.e, iS ze env ee] = some (iB (litH g (tvM sz ns) (pvM ns) (envF env) l.c), [iM sz zn ns en, iG z g e, iLit l.neg l.r.z l.r.l l.r.e, iS ze env ee]) := by
  refine wfn (lk := []) rfl rfl (fnW_way (q82 _ _ sz zn (ints ns) en z (syms g) e l.neg l.r.z (ints l.r.l) l.r.e ze (ints env) ee _) ?_)
  have h1 := w_matom hg hs z zn ze hns e en ee he l.r.z l.r.e hl
  refine ⟨_, _, _, _, _, h1, ?_⟩
  have hc : litH g (tvM sz ns) (pvM ns) (envF env) l.c = (atomH g (tvM sz ns) (pvM ns) (envF env) l.r.l != l.neg) := rfl
  rw [hc]
  cases atomH g (tvM sz ns) (pvM ns) (envF env) l.r.l <;> cases l.neg <;> rfl
theorem w_mtuple {r : Row} (hr : rowB g r.l = true) : C 83 [iM sz zn ns en, iG z g e, iS r.z r.l r.e, iS ze env ee] = some (iB (tupH g (tvM sz ns) (qvM ns) (envF env) r.l), [iM sz zn ns en, iG z g e, iS r.z r.l r.e, iS ze env ee]) := by
  obtain ⟨hsg, hr48, ts, hts, hrp⟩ := rowB_parts hr
  have hn := parts_all _ (Nat.le_refl _) hts
  have htn : termsN g r.l = ts.length := termsN_of hsg hr48 hts
  have hv := w_values hg hs z zn ze hns e en ee he r.z r.e (r := r.l) (by omega) hn
  have hvl := evT_len (tv := tvM sz ns) (env := envF env) hn
  refine wfn (lk := []) rfl rfl (fnW_way (q83 _ _ sz zn (ints ns) en z (syms g) e r.z (ints r.l) r.e ze (ints env) ee _) ?_)
  have hlk := w_look sz zn hns en 101 (l := evT g (tvM sz ns) (envF env) r.l ts.length) (by have := (lenN_le hn).2; unfold Len; omega) (evT g (tvM sz ns) (envF env) r.l ts.length).isEmpty []
  refine ⟨_, _, _, _, _, _, hv, _, _, _, _, hlk, ?_⟩
  unfold tupH qvM valsF
  rw [htn]
  by_cases h1 : andI (lookV ns 101 (evT g (tvM sz ns) (envF env) r.l ts.length)) 2 = 2
  · rw [decide_eq_true h1]; exact condW_t (by simpa [andI] using h1) rfl
  · rw [decide_eq_false h1]; exact condW_f (by simpa [andI] using h1) rfl
end
end Go.Proofs.YtekdlnofmbfdgaaDoor.Ab

/- Structures of a few things: all that may stand for variables, one by one; what says as much holds as far. Plain lists; no condition. -/
set_option linter.unusedVariables false
set_option linter.unusedSimpArgs false
namespace Go.Qu
open Go Go.Ab
/-! ### Counting -/
def incD (sz : Int) : List Int → Option (List Int)
  | [] => none
  | d :: ds => if d + 1 < sz then some ((d + 1) :: ds) else (incD sz ds).map (0 :: ·)
def valD (sz : Int) : List Int → Int
  | [] => 0
  | d :: ds => d + sz * valD sz ds
def okD (sz : Int) (ds : List Int) : Prop := ∀ d ∈ ds, 0 ≤ d ∧ d < sz
theorem okD_cons {sz d : Int} {ds : List Int} : okD sz (d :: ds) ↔ (0 ≤ d ∧ d < sz) ∧ okD sz ds := by
  unfold okD
  exact ⟨fun h => ⟨h d (by simp), fun x hx => h x (by simp [hx])⟩, fun h x hx => by
    rcases List.mem_cons.1 hx with rfl | hx
    · exact h.1
    · exact h.2 x hx⟩
theorem val_ge {sz : Int} (hs : 1 ≤ sz) : ∀ {ds : List Int}, okD sz ds → 0 ≤ valD sz ds
  | [], _ => by simp [valD]
  | d :: ds, h => by
    have h1 := okD_cons.1 h
    have ih := val_ge hs h1.2
    have : 0 ≤ sz * valD sz ds := Int.mul_nonneg (by omega) ih
    rw [valD]; omega
theorem mul_step {sz a b : Int} (hs : 1 ≤ sz) (h : a < b) : sz * a + sz ≤ sz * b := by
  have : sz * (a + 1) ≤ sz * b := Int.mul_le_mul_of_nonneg_left (by omega) (by omega)
  rw [Int.mul_add, Int.mul_one] at this
  exact this
theorem val_inj {sz : Int} (hs : 1 ≤ sz) : ∀ {ds es : List Int}, ds.length = es.length → okD sz ds → okD sz es → valD sz ds = valD sz es → ds = es
  | [], [], _, _, _, _ => rfl
  | [], e :: es, h, _, _, _ => by simp at h
  | d :: ds, [], h, _, _, _ => by simp at h
  | d :: ds, e :: es, h, h1, h2, hv => by
    have k1 := okD_cons.1 h1
    have k2 := okD_cons.1 h2
    rw [valD, valD] at hv
    have hlt : ¬ valD sz ds < valD sz es := fun hl => by have := mul_step hs hl; omega
    have hgt : ¬ valD sz es < valD sz ds := fun hl => by have := mul_step hs hl; omega
    have he : valD sz ds = valD sz es := by omega
    rw [he] at hv
    have hd : d = e := by omega
    rw [hd, val_inj hs (by simpa using h) k1.2 k2.2 he]
theorem inc_some {sz : Int} (hs : 1 ≤ sz) : ∀ {ds es : List Int}, okD sz ds → incD sz ds = some es → okD sz es ∧ es.length = ds.length ∧ valD sz es = valD sz ds + 1
  | [], es, h, he => by simp [incD] at he
  | d :: ds, es, h, he => by
    have k := okD_cons.1 h
    rw [incD] at he
    split at he
    · simp only [Option.some.injEq] at he
      subst he
      exact ⟨okD_cons.2 ⟨⟨by omega, by assumption⟩, k.2⟩, by simp, by rw [valD, valD]; omega⟩
    · obtain ⟨es', h1, rfl⟩ := Option.map_eq_some_iff.1 he
      obtain ⟨h2, h3, h4⟩ := inc_some hs k.2 h1
      refine ⟨okD_cons.2 ⟨⟨by omega, by omega⟩, h2⟩, by simp [h3], ?_⟩
      rw [valD, valD, h4, Int.mul_add, Int.mul_one]
      have : d = sz - 1 := by omega
      omega
theorem inc_none {sz : Int} (hs : 1 ≤ sz) : ∀ {ds es : List Int}, okD sz ds → incD sz ds = none → es.length = ds.length → okD sz es → valD sz es ≤ valD sz ds
  | [], es, h, _, hl, _ => by
    have : es = [] := List.length_eq_zero_iff.1 hl
    subst this; exact Int.le_refl _
  | d :: ds, [], h, _, hl, _ => by simp at hl
  | d :: ds, e :: es, h, hn, hl, he => by
    have k := okD_cons.1 h
    have k2 := okD_cons.1 he
    rw [incD] at hn
    split at hn
    · cases hn
    · have hn' : incD sz ds = none := by
        cases hi : incD sz ds with
        | none => rfl
        | some x => rw [hi] at hn; cases hn
      have ih := inc_none hs k.2 hn' (by simpa using hl) k2.2
      have := Int.mul_le_mul_of_nonneg_left ih (show (0 : Int) ≤ sz by omega)
      rw [valD, valD]; omega
theorem val_zero (sz : Int) : ∀ (n : Nat), valD sz (List.replicate n 0) = 0
  | 0 => rfl
  | n + 1 => by rw [List.replicate_succ, valD, val_zero sz n]; simp
theorem ok_zero {sz : Int} (hs : 1 ≤ sz) (n : Nat) : okD sz (List.replicate n 0) := fun d hd => by
  rw [(List.mem_replicate.1 hd).2]; omega
theorem val_max {sz : Int} (hs : 1 ≤ sz) {ds : List Int} (h : okD sz ds) : valD sz ds ≤ valD sz (List.replicate ds.length (sz - 1)) := by
  induction ds with
  | nil => exact Int.le_refl _
  | cons d ds ih =>
    have k := okD_cons.1 h
    have := Int.mul_le_mul_of_nonneg_left (ih k.2) (show (0 : Int) ≤ sz by omega)
    rw [List.length_cons, List.replicate_succ, valD, valD]; omega
/-! ### What stands for variables, as a row of things -/
def envOf (vs ds : List Int) : List Int := (List.range 24).map fun (v : Nat) => if (v : Int) ∈ vs then gi ds (vs.idxOf (v : Int)) else 0
theorem envOf_len (vs ds : List Int) : (envOf vs ds).length = 24 := by simp [envOf]
theorem envOf_at (vs ds : List Int) {v : Nat} (hv : v < 24) : gi (envOf vs ds) v = if (v : Int) ∈ vs then gi ds (vs.idxOf (v : Int)) else 0 := by
  simp [gi, envOf, hv]
theorem envOf_V (vs ds : List Int) {c : Int} (h : c < 0) (h24 : -24 ≤ c) : gi (envOf vs ds) (-1 - c).toNat = envV vs ds c := by
  rw [envOf_at _ _ (by omega)]
  have e : (((-1 - c).toNat : Nat) : Int) = -1 - c := by omega
  rw [e]; rfl
theorem gi_set (l : List Int) (i j : Nat) (x : Int) (hi : i < l.length) : gi (l.set i x) j = if i = j then x else gi l j := by
  unfold gi
  rw [List.getD_eq_getElem?_getD, List.getD_eq_getElem?_getD, List.getElem?_set]
  split
  · rename_i h; subst h; simp [hi]
  · rfl
theorem env_set {vs ds : List Int} (hv : vs.Nodup) (hl : ds.length = vs.length) {i : Nat} (hi : i < vs.length) (h0 : 0 ≤ vs[i]) (h24 : vs[i] < 24) (x : Int) : (envOf vs ds).set vs[i].toNat x = envOf vs (ds.set i x) := by
  refine List.ext_getElem (by simp [envOf]) (fun n h1 h2 => ?_)
  have hn : n < 24 := by simpa [envOf] using h1
  rw [List.getElem_set]
  have hidx : vs.idxOf vs[i] = i := hv.idxOf_getElem i hi
  by_cases e : vs[i].toNat = n
  · rw [if_pos e]
    have en : (n : Int) = vs[i] := by omega
    simp only [envOf, List.getElem_map, List.getElem_range]
    rw [en, if_pos (List.getElem_mem hi), hidx, gi_set _ _ _ _ (by omega), if_pos rfl]
  · rw [if_neg e]
    simp only [envOf, List.getElem_map, List.getElem_range]
    by_cases hm : (n : Int) ∈ vs
    · rw [if_pos hm, if_pos hm, gi_set _ _ _ _ (by omega), if_neg (fun e2 => e (by
        have h3 := List.getElem_idxOf (x := (n : Int)) (xs := vs) (List.idxOf_lt_length_of_mem hm)
        have h4 : vs[i] = (n : Int) := by
          rw [← h3]; congr 1
        omega))]
    · rw [if_neg hm, if_neg hm]
theorem env_get {vs ds : List Int} (hv : vs.Nodup) {i : Nat} (hi : i < vs.length) (h0 : 0 ≤ vs[i]) (h24 : vs[i] < 24) : gi (envOf vs ds) vs[i].toNat = gi ds i := by
  rw [envOf_at _ _ (by omega)]
  have e : ((vs[i].toNat : Nat) : Int) = vs[i] := by omega
  rw [e, if_pos (List.getElem_mem hi), hv.idxOf_getElem i hi]
/-- The next things. -/
def nextF (sz : Int) : List Int → List Int → List Int × Bool
  | [], env => (env, false)
  | v :: vs, env => if gi env v.toNat + 1 < sz then (env.set v.toNat (gi env v.toNat + 1), true) else nextF sz vs ((env.set v.toNat (gi env v.toNat + 1)).set v.toNat 0)
theorem next_env {sz : Int} {vs : List Int} (hv : vs.Nodup) (hr : ∀ v ∈ vs, 0 ≤ v ∧ v < 24) : ∀ (suf dsuf : List Int) (i : Nat), vs.drop i = suf → i + suf.length = vs.length → dsuf.length = suf.length →
    nextF sz suf (envOf vs (List.replicate i 0 ++ dsuf)) = (match incD sz dsuf with | some d => (envOf vs (List.replicate i 0 ++ d), true) | none => (envOf vs (List.replicate vs.length 0), false))
  | [], dsuf, i, h1, h2, h3 => by
    have : dsuf = [] := List.length_eq_zero_iff.1 h3
    subst this
    simp only [List.length_nil, Nat.add_zero] at h2
    rw [nextF, incD, List.append_nil, h2]
  | v :: suf, [], i, h1, h2, h3 => by simp at h3
  | v :: suf, d :: dsuf, i, h1, h2, h3 => by
    simp only [List.length_cons] at h2 h3
    have hi : i < vs.length := by omega
    have hvi : vs[i] = v := by
      have := List.drop_eq_getElem_cons hi
      rw [h1] at this
      exact (List.cons.inj this).1.symm
    have hsuf : vs.drop (i + 1) = suf := by
      have := List.drop_eq_getElem_cons hi
      rw [h1] at this
      exact (List.cons.inj this).2.symm
    have hb := hr v (hvi ▸ List.getElem_mem hi)
    have hlen : (List.replicate i (0 : Int) ++ d :: dsuf).length = vs.length := by simp; omega
    have hg : gi (envOf vs (List.replicate i 0 ++ d :: dsuf)) v.toNat = d := by
      have := env_get (ds := List.replicate i 0 ++ d :: dsuf) hv hi (by rw [hvi]; exact hb.1) (by rw [hvi]; exact hb.2)
      rw [hvi] at this
      rw [this]
      simp [gi]
    have hset : ∀ x, (envOf vs (List.replicate i 0 ++ d :: dsuf)).set v.toNat x = envOf vs (List.replicate i 0 ++ x :: dsuf) := fun x => by
      have := env_set (ds := List.replicate i 0 ++ d :: dsuf) hv hlen hi (by rw [hvi]; exact hb.1) (by rw [hvi]; exact hb.2) x
      rw [hvi] at this
      rw [this]
      congr 1
      rw [List.set_append_right _ _ (by simp)]
      simp
    rw [nextF, hg, incD]
    split
    · rw [hset]
    · rw [List.set_set, hset]
      have ih := next_env hv hr suf dsuf (i + 1) hsuf (by omega) (by omega) (sz := sz)
      have e1 : List.replicate i (0 : Int) ++ 0 :: dsuf = List.replicate (i + 1) 0 ++ dsuf := by
        rw [List.replicate_succ', List.append_assoc]; rfl
      rw [e1, ih]
      cases incD sz dsuf with
      | none => rfl
      | some x =>
        dsimp only [Option.map]
        have e2 : List.replicate (i + 1) (0 : Int) ++ x = List.replicate i 0 ++ 0 :: x := by
          rw [List.replicate_succ', List.append_assoc]; rfl
        rw [e2]
theorem next_all {sz : Int} {vs ds : List Int} (hv : vs.Nodup) (hr : ∀ v ∈ vs, 0 ≤ v ∧ v < 24) (hl : ds.length = vs.length) : nextF sz vs (envOf vs ds) = (match incD sz ds with | some d => (envOf vs d, true) | none => (envOf vs (List.replicate vs.length 0), false)) := by
  have := next_env (sz := sz) hv hr vs ds 0 rfl (by simp) hl
  simpa using this
theorem envOf_zero (vs : List Int) (n : Nat) : envOf vs (List.replicate n 0) = List.replicate 24 0 := by
  refine List.ext_getElem (by simp [envOf]) (fun i h1 h2 => ?_)
  simp only [envOf, List.getElem_map, List.getElem_range, List.getElem_replicate]
  split
  · unfold gi
    rw [List.getD_eq_getElem?_getD, List.getElem?_replicate]
    split <;> rfl
  · rfl
/-! ### What says as much holds as far -/
theorem evT_sub {g : List Sym} {tv : Int → List Int → Int} {env : Int → Int} {σ : Sb} (hσ : σ.Ok g) : ∀ {r : List Int} {n : Nat}, lenN g r n = some r.length → evT g tv env (app σ r) n = evT g tv (fun c => gi (evT g tv env (σ (vN c)) 1) 0) r n
  | [], 0, h => rfl
  | c :: r, 0, h => by simp [lenN] at h
  | [], n + 1, h => by simp [lenN] at h
  | c :: r, n + 1, h => by
    obtain ⟨a, m, ha, hm, hk⟩ := lenN_some h
    simp only [List.length_cons, Nat.add_right_cancel_iff] at hk
    have hm' : lenN g r (n + a) = some r.length := by rw [hm, hk]
    have ih := evT_sub (tv := tv) (env := env) hσ hm'
    rw [app_cons]
    unfold appC
    by_cases h0 : 0 ≤ c
    · rw [if_pos h0, List.singleton_append, evT, evT, if_neg (by omega), if_neg (by omega), ha]
      simp only [Option.getD_some]
      rw [ih]
    · rw [if_neg h0]
      have ha0 : a = 0 := by
        rw [arOf, if_pos (by omega)] at ha
        split at ha
        · cases ha; rfl
        · cases ha
      subst ha0
      rw [Nat.add_zero] at ih
      have hv := hσ (vN c)
      have h1 := lenN_app (app σ r) hv
      have e1 := evT_app (tv := tv) (env := env) n h1
      rw [Nat.add_comm 1 n, List.drop_left] at e1
      have e2 := evT_take (tv := tv) (env := env) h1
      rw [List.take_left] at e2
      have hl := evT_len (tv := tv) (env := env) hv
      rw [e1, ← e2, ih, evT, if_pos (by omega)]
      match hvv : evT g tv env (σ (vN c)) 1, hl with
      | [x], _ => simp [gi]
theorem row_full {g : List Sym} {r : List Int} (h : rowB g r = true) : lenN g r (termsN g r) = some r.length := by
  obtain ⟨hs, h48, ts, hts, _⟩ := rowB_parts h
  rw [termsN_of hs h48 hts]
  exact parts_all _ (Nat.le_refl _) hts
theorem row_app_terms {g : List Sym} {σ : Sb} (hσ : σ.Ok g) {r : List Int} (h : rowB g r = true) (h' : rowB g (app σ r) = true) : termsN g (app σ r) = termsN g r := by
  have h1 := app_lenN hσ (row_full h)
  have h2 := row_full h'
  by_cases e : termsN g (app σ r) = termsN g r
  · exact e
  · exfalso
    rcases Nat.lt_or_gt_of_ne e with hl | hl
    · obtain ⟨d, hd⟩ : ∃ d, termsN g r = termsN g (app σ r) + (d + 1) := ⟨termsN g r - termsN g (app σ r) - 1, by omega⟩
      have := lenN_split (d + 1) h2
      rw [← hd, h1, List.drop_length] at this
      cases h3 : lenN g ([] : List Int) (d + 1) with
      | none => rw [h3] at this; cases this
      | some k => simp [lenN] at h3
    · obtain ⟨d, hd⟩ : ∃ d, termsN g (app σ r) = termsN g r + (d + 1) := ⟨termsN g (app σ r) - termsN g r - 1, by omega⟩
      have := lenN_split (d + 1) h1
      rw [← hd, h2, List.drop_length] at this
      cases h3 : lenN g ([] : List Int) (d + 1) with
      | none => rw [h3] at this; cases this
      | some k => simp [lenN] at h3
theorem vals_sub {g : List Sym} {tv : Int → List Int → Int} {env : Int → Int} {σ : Sb} (hσ : σ.Ok g) {r : List Int} (h : rowB g r = true) (h' : rowB g (app σ r) = true) : valsF g tv env (app σ r) = valsF g tv (fun c => gi (evT g tv env (σ (vN c)) 1) 0) r := by
  unfold valsF
  rw [row_app_terms hσ h h', evT_sub hσ (row_full h)]
theorem atom_sub {g : List Sym} {tv : Int → List Int → Int} {pv : Int → List Int → Bool} {env : Int → Int} {σ : Sb} (hσ : σ.Ok g) {a : List Int} (h : atomB g a = true) (h' : atomB g (app σ a) = true) : atomH g tv pv env (app σ a) = atomH g tv pv (fun c => gi (evT g tv env (σ (vN c)) 1) 0) a := by
  cases a with
  | nil => simp [atomB] at h
  | cons p r =>
    obtain ⟨hp, hr⟩ := atom_row h
    have e : app σ (p :: r) = p :: app σ r := by rw [app_cons]; unfold appC; rw [if_pos hp]; rfl
    rw [e] at h' ⊢
    obtain ⟨_, hr'⟩ := atom_row h'
    unfold atomH
    rw [List.tail_cons, List.tail_cons, vals_sub hσ hr hr']
    rfl
theorem here_says {g : List Sym} {tv : Int → List Int → Int} {pv : Int → List Int → Bool} {qv : List Int → Bool} {c d : CC} (hc : ClOk g c) (hd : ClOk g d) {σ : Sb} (hσ : σ.Ok g) (h1 : ∀ l ∈ c.ls, (l.1, app σ l.2) ∈ d.ls) (h2 : ∀ r ∈ c.ts, app σ r ∈ d.ts) (h3 : ∀ l ∈ c.cs, (l.1, app σ l.2) ∈ d.cs) {env : Int → Int}
    (h : hereH g tv pv qv c (fun x => gi (evT g tv env (σ (vN x)) 1) 0) = true) : hereH g tv pv qv d env = true := by
  have row : ∀ {e : CC}, ClOk g e → ∀ r ∈ e.ts, rowB g r = true := fun he r hr => by obtain ⟨k, hk⟩ := he.tr; exact (hk r hr).1
  unfold hereH at h ⊢
  rw [Bool.or_eq_true, Bool.or_eq_true, List.any_eq_true, List.any_eq_true, List.any_eq_true] at h ⊢
  rcases h with ⟨l, hl, hh⟩ | ⟨l, hl, hh⟩ | ⟨r, hr, hh⟩
  · refine .inl ⟨_, h3 l hl, ?_⟩
    unfold litH at hh ⊢
    rw [atom_sub hσ (hc.ca l hl) (hd.ca _ (h3 l hl))]; exact hh
  · refine .inr (.inl ⟨_, h1 l hl, ?_⟩)
    unfold litH at hh ⊢
    rw [atom_sub hσ (hc.la l hl) (hd.la _ (h1 l hl))]; exact hh
  · refine .inr (.inr ⟨_, h2 r hr, ?_⟩)
    unfold tupH at hh ⊢
    rw [vals_sub hσ (row hc r hr) (row hd _ (h2 r hr))]; exact hh
theorem evT_in {g : List Sym} {tv : Int → List Int → Int} {env : Int → Int} {sz : Int} (ht : ∀ c l, 0 ≤ tv c l ∧ tv c l < sz) (he : ∀ c, 0 ≤ env c ∧ env c < sz) {t : List Int} (h : lenN g t 1 = some t.length) : 0 ≤ gi (evT g tv env t 1) 0 ∧ gi (evT g tv env t 1) 0 < sz := by
  cases t with
  | nil => simp [lenN] at h
  | cons c r =>
    rw [evT]
    split
    · exact he c
    · exact ht _ _
theorem says_holds {g : List Sym} {tv : Int → List Int → Int} {pv : Int → List Int → Bool} {qv : List Int → Bool} {sz : Int} (hs : 1 ≤ sz) (ht : ∀ c l, 0 ≤ tv c l ∧ tv c l < sz) {c d : CC} (hc : ClOk g c) (hd : ClOk g d) (h : Says g c d) (hh : holdsP sz (varsC c.rows) (hereH g tv pv qv c)) : holdsP sz (varsC d.rows) (hereH g tv pv qv d) := by
  obtain ⟨σ, hσ, h1, h2, h3⟩ := h
  intro ds hl hds
  refine here_says hc hd hσ h1 h2 h3 ?_
  have henv : ∀ x, 0 ≤ envV (varsC d.rows) ds x ∧ envV (varsC d.rows) ds x < sz := fun x => by
    unfold envV
    split
    · rename_i hm
      have hi := List.idxOf_lt_length_of_mem hm
      rw [← hl] at hi
      have : gi ds ((varsC d.rows).idxOf (-1 - x)) = ds[(varsC d.rows).idxOf (-1 - x)] := by simp [gi, hi]
      rw [this]
      exact hds _ (List.getElem_mem hi)
    · omega
  obtain ⟨e', he'⟩ : ∃ e' : Int → Int, e' = fun x => gi (evT g tv (envV (varsC d.rows) ds) (σ (vN x)) 1) 0 := ⟨_, rfl⟩
  have hin : ∀ x, 0 ≤ e' x ∧ e' x < sz := fun x => by rw [he']; exact evT_in ht henv (hσ _)
  rw [← he']
  have h4 := hh ((varsC c.rows).map fun v => e' (-1 - v)) (by simp) (fun x hx => by
    obtain ⟨v, _, rfl⟩ := List.mem_map.1 hx
    exact hin _)
  rw [← h4]
  refine here_ext (fun r hr x hx h0 => ?_)
  have hm : (-1 - x) ∈ varsC c.rows := vars_mem.2 ⟨by omega, r, hr, by rw [show (-1 - (-1 - x) : Int) = x by omega]; exact hx⟩
  unfold envV
  rw [if_pos hm]
  have hi := List.idxOf_lt_length_of_mem hm
  rw [gi_map _ _ _ hi, List.getElem_idxOf hi, show (-1 - (-1 - x) : Int) = x by omega]
end Go.Qu

/- Structures of a few things: clauses in them. For every input; no condition. -/
set_option linter.unusedVariables false
set_option linter.unusedSimpArgs false
set_option maxRecDepth 100000
namespace Go.Proofs.YtekdlnofmbfdgaaDoor.Ab
open Go Go.Ab Go.Qu Go.Proofs
attribute [local simp] and_assoc
abbrev hM (g : List Sym) (sz : Int) (ns : List Int) (c : CC) (env : Int → Int) : Bool := hereH g (tvM sz ns) (pvM ns) (qvM ns) c env
def atQ {α : Type} (p : α → Bool) (l : List α) (j : Nat) : Bool := match l[j]? with | some x => p x | none => false
theorem atQ_at {α : Type} {p : α → Bool} {l : List α} {j : Nat} {x : α} (h : l[j]? = some x) : atQ p l j = p x := by unfold atQ; rw [h]
theorem atQ_any {α : Type} {p : α → Bool} {l : List α} {j : Nat} (hj : j < l.length) (h : atQ p l j = true) : l.any p = true := by
  obtain ⟨x, hx⟩ := at_lt hj
  rw [atQ_at hx] at h
  exact List.any_eq_true.2 ⟨x, List.mem_of_getElem? hx, h⟩
theorem atQ_none {α : Type} {p : α → Bool} {l : List α} (h : ∀ j, 0 ≤ j → j < l.length → atQ p l j = false) : l.any p = false := by
  rw [List.any_eq_false]
  intro x hx
  obtain ⟨j, hj, rfl⟩ := List.getElem_of_mem hx
  have := h j (Nat.zero_le _) hj
  rw [atQ_at (List.getElem?_eq_getElem hj)] at this
  simpa using this
theorem cl_cs {g : List Sym} {c : Cl} (h : clB g c = true) {l : LitR} (hl : l ∈ c.cs) : atomB g l.r.l = true := by
  rw [clB_c] at h
  exact (clOk.1 h).ca l.c (by simp only [Cl.c]; exact List.mem_map_of_mem hl)
theorem cl_ls {g : List Sym} {c : Cl} (h : clB g c = true) {l : LitR} (hl : l ∈ c.ls) : atomB g l.r.l = true := by
  rw [clB_c] at h
  exact (clOk.1 h).la l.c (by simp only [Cl.c]; exact List.mem_map_of_mem hl)
theorem cl_ts {g : List Sym} {c : Cl} (h : clB g c = true) {r : Row} (hr : r ∈ c.ts) : rowB g r.l = true := by
  rw [clB_c] at h
  obtain ⟨k, hk⟩ := (clOk.1 h).tr
  exact (hk r.l (by simp only [Cl.c]; exact List.mem_map_of_mem hr)).1
section
variable {g : List Sym} (hg : SigOk g) {sz : Int} (hs : 1 ≤ sz) (z zn ze : Bool) {ns : List Int} (hns : Len ns) (e en ee : List D) {env : List Int} (he : env.length = 24)
include hg hs hns he
theorem w_here {c : Cl} (hc : clB g c = true) : C 48 [iM sz zn ns en, iG z g e, iC c, iS ze env ee] = some (iB (hM g sz ns c.c (envF env)), [iM sz zn ns en, iG z g e, iC c, iS ze env ee]) := by
  have hk := clOk.1 ((clB_c g c).symm.trans hc)
  have n1 : c.ls.length ≤ 5 := by have := hk.l5; simpa [Cl.c] using this
  have n2 : c.ts.length ≤ 3 := by have := hk.t3; simpa [Cl.c] using this
  have n3 : c.cs.length ≤ 3 := by have := hk.c3; simpa [Cl.c] using this
  have hcl := fun (l : LitR) (hl : atomB g l.r.l = true) => w_mlit hg hs z zn ze hns e en ee he (l := l) hl
  have hct := fun (r : Row) (hr : rowB g r.l = true) => w_mtuple hg hs z zn ze hns e en ee he (r := r) hr
  refine wfn (lk := []) rfl rfl (fnW_way (q48 _ _ sz zn (ints ns) en z (syms g) e c.lz (lits c.ls) c.le c.tz (rws c.ts) c.te c.cz (lits c.cs) c.ce ze (ints env) ee _) ?_)
  have L0 := blk_find (F := F) (d := d48) (lk := []) (p := [1,0,1,0,0]) (p0 := [1,0,1]) (by kernel_rfl) (n := c.cs.length) (id := 0) (st := fun i => [(1, iG z g e), (3, iS ze env ee), (4, bMd sz zn ns en), (6, bC c), (9, iI i)]) (q := atQ (fun l : LitR => !litH g (tvM sz ns) (pvM ns) (envF env) l.c) c.cs) (rt := fun _ => [(8, iB true)]) (e := [(1, iG z g e), (3, iS ze env ee), (4, bMd sz zn ns en), (6, bC c), (9, iI c.cs.length)])
    (fun i hi hq => by
      obtain ⟨l, hl⟩ := at_lt hi
      rw [atQ_at hl] at hq
      have h1 := hcl l (cl_cs hc (List.mem_of_getElem? hl))
      have hq' : litH g (tvM sz ns) (pvM ns) (envF env) l.c = true := by simpa using hq
      rw [hq'] at h1
      refine wpQ_way (q48_l0a _ _ z (syms g) e ze (ints env) ee sz zn (ints ns) en c.lz (lits c.ls) c.le c.tz (rws c.ts) c.te c.cz (lits c.cs) c.ce i _) ?_
      refine condW_t (by rw [lits_len]; exact decide_eq_true (by omega)) (condW_t (by simp) ⟨_, _, _, _, lits_at hl, _, _, _, _, _, h1, condW_t rfl ?_⟩)
      rw [wr1 hi (by omega)])
    (fun i hi hq => by
      obtain ⟨l, hl⟩ := at_lt hi
      rw [atQ_at hl] at hq
      have h1 := hcl l (cl_cs hc (List.mem_of_getElem? hl))
      have hq' : litH g (tvM sz ns) (pvM ns) (envF env) l.c = false := by simpa using hq
      rw [hq'] at h1
      refine wpQ_way (q48_l0a _ _ z (syms g) e ze (ints env) ee sz zn (ints ns) en c.lz (lits c.ls) c.le c.tz (rws c.ts) c.te c.cz (lits c.cs) c.ce i _) ?_
      exact condW_t (by rw [lits_len]; exact decide_eq_true (by omega)) (condW_t (by simp) ⟨_, _, _, _, lits_at hl, _, _, _, _, _, h1, condW_f rfl rfl⟩))
    (wpQ_way (q48_l0a _ _ z (syms g) e ze (ints env) ee sz zn (ints ns) en c.lz (lits c.ls) c.le c.tz (rws c.ts) c.te c.cz (lits c.cs) c.ce c.cs.length _) (condW_f (by rw [lits_len]; simp) rfl)) 0 (Nat.zero_le _)
  have L2 := blk_find (F := F) (d := d48) (lk := []) (p := [1,1,0,1,0,0]) (p0 := [1,1,0,1]) (by kernel_rfl) (n := c.ls.length) (id := 2) (st := fun i => [(1, iG z g e), (3, iS ze env ee), (4, bMd sz zn ns en), (6, bC c), (10, iI i)]) (q := atQ (fun l : LitR => litH g (tvM sz ns) (pvM ns) (envF env) l.c) c.ls) (rt := fun _ => [(8, iB true)]) (e := [(1, iG z g e), (3, iS ze env ee), (4, bMd sz zn ns en), (6, bC c), (10, iI c.ls.length)])
    (fun i hi hq => by
      obtain ⟨l, hl⟩ := at_lt hi
      rw [atQ_at hl] at hq
      have h1 := hcl l (cl_ls hc (List.mem_of_getElem? hl))
      have hq' : litH g (tvM sz ns) (pvM ns) (envF env) l.c = false := hq
      rw [hq'] at h1
      refine wpQ_way (q48_l2b _ _ z (syms g) e ze (ints env) ee sz zn (ints ns) en c.lz (lits c.ls) c.le c.tz (rws c.ts) c.te c.cz (lits c.cs) c.ce i _) ?_
      refine condW_t (by rw [lits_len]; exact decide_eq_true (by omega)) (condW_t (by simp) ⟨_, _, _, _, lits_at hl, _, _, _, _, _, h1, condW_f rfl ?_⟩)
      rw [wr1 hi (by omega)])
    (fun i hi hq => by
      obtain ⟨l, hl⟩ := at_lt hi
      rw [atQ_at hl] at hq
      have h1 := hcl l (cl_ls hc (List.mem_of_getElem? hl))
      have hq' : litH g (tvM sz ns) (pvM ns) (envF env) l.c = true := hq
      rw [hq'] at h1
      refine wpQ_way (q48_l2b _ _ z (syms g) e ze (ints env) ee sz zn (ints ns) en c.lz (lits c.ls) c.le c.tz (rws c.ts) c.te c.cz (lits c.cs) c.ce i _) ?_
      exact condW_t (by rw [lits_len]; exact decide_eq_true (by omega)) (condW_t (by simp) ⟨_, _, _, _, lits_at hl, _, _, _, _, _, h1, condW_t rfl rfl⟩))
    (wpQ_way (q48_l2b _ _ z (syms g) e ze (ints env) ee sz zn (ints ns) en c.lz (lits c.ls) c.le c.tz (rws c.ts) c.te c.cz (lits c.cs) c.ce c.ls.length _) (condW_f (by rw [lits_len]; simp) rfl)) 0 (Nat.zero_le _)
  have L4 := blk_find (F := F) (d := d48) (lk := []) (p := [1,1,1,0,1,0,0]) (p0 := [1,1,1,0,1]) (by kernel_rfl) (n := c.ts.length) (id := 4) (st := fun i => [(1, iG z g e), (3, iS ze env ee), (4, bMd sz zn ns en), (6, bC c), (11, iI i)]) (q := atQ (fun r : Row => tupH g (tvM sz ns) (qvM ns) (envF env) r.l) c.ts) (rt := fun _ => [(8, iB true)]) (e := [(1, iG z g e), (3, iS ze env ee), (4, bMd sz zn ns en), (6, bC c), (11, iI c.ts.length)])
    (fun i hi hq => by
      obtain ⟨r, hr⟩ := at_lt hi
      rw [atQ_at hr] at hq
      have h1 := hct r (cl_ts hc (List.mem_of_getElem? hr))
      have hq' : tupH g (tvM sz ns) (qvM ns) (envF env) r.l = false := hq
      rw [hq'] at h1
      refine wpQ_way (q48_l4b _ _ z (syms g) e ze (ints env) ee sz zn (ints ns) en c.lz (lits c.ls) c.le c.tz (rws c.ts) c.te c.cz (lits c.cs) c.ce i _) ?_
      refine condW_t (by rw [rws_len]; exact decide_eq_true (by omega)) (condW_t (by simp) ⟨_, _, _, rws_at hr, _, _, _, _, _, h1, condW_f rfl ?_⟩)
      rw [wr1 hi (by omega)])
    (fun i hi hq => by
      obtain ⟨r, hr⟩ := at_lt hi
      rw [atQ_at hr] at hq
      have h1 := hct r (cl_ts hc (List.mem_of_getElem? hr))
      have hq' : tupH g (tvM sz ns) (qvM ns) (envF env) r.l = true := hq
      rw [hq'] at h1
      refine wpQ_way (q48_l4b _ _ z (syms g) e ze (ints env) ee sz zn (ints ns) en c.lz (lits c.ls) c.le c.tz (rws c.ts) c.te c.cz (lits c.cs) c.ce i _) ?_
      exact condW_t (by rw [rws_len]; exact decide_eq_true (by omega)) (condW_t (by simp) ⟨_, _, _, rws_at hr, _, _, _, _, _, h1, condW_t rfl rfl⟩))
    (wpQ_way (q48_l4b _ _ z (syms g) e ze (ints env) ee sz zn (ints ns) en c.lz (lits c.ls) c.le c.tz (rws c.ts) c.te c.cz (lits c.cs) c.ce c.ts.length _) (condW_f (by rw [rws_len]; simp) rfl)) 0 (Nat.zero_le _)
  have hH : hM g sz ns c.c (envF env) = (c.cs.any (fun l => !litH g (tvM sz ns) (pvM ns) (envF env) l.c) || (c.ls.any (fun l => litH g (tvM sz ns) (pvM ns) (envF env) l.c) || c.ts.any (fun r => tupH g (tvM sz ns) (qvM ns) (envF env) r.l))) := by
    unfold hM hereH Cl.c
    simp only [List.any_map]; rfl
  rw [hH]
  rcases L0 with ⟨a1, a2⟩ | ⟨j, a1, a2, a3, _, a4⟩
  rotate_left
  · rw [atQ_any a2 a3]
    exact .inl ⟨_, a4, rfl⟩
  rw [atQ_none a1, Bool.false_or]
  refine .inr ⟨_, _, _, _, _, _, _, _, _, _, _, _, _, _, _, _, _, _, _, _, a2, ?_⟩
  rcases L2 with ⟨b1, b2⟩ | ⟨j, b1, b2, b3, _, b4⟩
  rotate_left
  · rw [atQ_any b2 b3]
    exact .inl ⟨_, b4, rfl⟩
  rw [atQ_none b1, Bool.false_or]
  refine .inr ⟨_, _, _, _, _, _, _, _, _, _, _, _, _, _, _, _, _, _, _, _, b2, ?_⟩
  rcases L4 with ⟨d1, d2⟩ | ⟨j, d1, d2, d3, _, d4⟩
  rotate_left
  · rw [atQ_any d2 d3]
    exact .inl ⟨_, d4, rfl⟩
  rw [atQ_none d1]
  exact .inr ⟨_, _, _, _, _, _, _, _, _, _, _, _, _, _, _, _, _, _, _, _, d2, rfl⟩
end
end Go.Proofs.YtekdlnofmbfdgaaDoor.Ab

/- Structures of a few things: whether a clause holds in them, whatever stands for its variables. For every input; no condition. -/
set_option linter.unusedVariables false
set_option linter.unusedSimpArgs false
set_option maxRecDepth 100000
namespace Go.Proofs.YtekdlnofmbfdgaaDoor.Ab
open Go Go.Ab Go.Qu Go.Proofs
attribute [local simp] and_assoc
/-- Things, as they stand for variables. -/
structure EnvOk (sz : Int) (env : List Int) : Prop where
  len : env.length = 24
  rng : ∀ j, j < 24 → 0 ≤ gi env j ∧ gi env j < sz
theorem ints_set (l : List Int) (i : Nat) (x : Int) : (ints l).set i (.int .i64 x) = ints (l.set i x) := by simp [ints, List.map_set]
theorem w_mnext {sz : Int} (hs : 1 ≤ sz ∧ sz ≤ 3) (zn : Bool) (ns : List Int) (en : List D) (zE zV : Bool) {vs : List Int} (hv : ∀ v ∈ vs, 0 ≤ v ∧ v < 24) (hvl : vs.length ≤ 1000) {env : List Int} (he : EnvOk sz env) : C 49 [iM sz zn ns en, .lrow zE 3 1 (ints env), .lrow zV 3 1 (ints vs)] = some (iB (nextF sz vs env).2, [iM sz zn ns en, .own zE 3 1 (ints (nextF sz vs env).1), .own zV 3 1 (ints vs)]) := by
  refine wfn (lk := [1, 2]) rfl rfl (fnW_way (q49 _ _ sz zn (ints ns) en zE (ints env) zV (ints vs) _) ?_)
  have h1 := fun x hx => blk_fun (F := F) (d := d49) (lk := [1, 2]) (p := [1,0,1,0,0]) (p0 := [1,0,1]) (id := 0) (by kernel_rfl) (st := fun (x : List Int × Nat) => [(1, .own zE 3 1 (ints x.1)), (2, .own zV 3 1 (ints vs)), (3, bMd sz zn ns en), (7, iI x.2)]) (I := fun x => EnvOk sz x.1 ∧ x.2 ≤ vs.length) (μ := fun x => vs.length - x.2)
    (res := fun x => if (nextF sz (vs.drop x.2) x.1).2 = true then .ret [(1, .own zE 3 1 (ints (nextF sz (vs.drop x.2) x.1).1)), (2, .own zV 3 1 (ints vs)), (6, iB true)] else .norm [(1, .own zE 3 1 (ints (nextF sz (vs.drop x.2) x.1).1)), (2, .own zV 3 1 (ints vs)), (3, bMd sz zn ns en), (7, iI vs.length)])
    (fun x hx => by
      obtain ⟨env, i⟩ := x
      obtain ⟨hx1, hx2⟩ := hx
      dsimp only at hx1 hx2
      by_cases hi : i < vs.length
      rotate_left
      · have e0 : i = vs.length := by omega
        subst e0
        refine .stop (.exit 0 [(1, .own zE 3 1 (ints env)), (2, .own zV 3 1 (ints vs)), (3, bMd sz zn ns en), (7, iI vs.length)]) (wpQ_way (q49_l0a _ _ zE (ints env) zV (ints vs) sz zn (ints ns) en vs.length _) (condW_f (by rw [ints_len]; simp) rfl)) rfl ?_
        rw [List.drop_length]; rfl
      obtain ⟨v, hvv⟩ : ∃ v, v = gi vs i := ⟨_, rfl⟩
      have hvr := hv (gi vs i) (gi_mem hi)
      have hvi := Go.Ab.ints_at hi
      rw [← hvv] at hvr hvi
      obtain ⟨m, hm⟩ : ∃ m : Nat, v = m := ⟨v.toNat, by omega⟩
      subst hm
      have hm24 : m < 24 := by omega
      have hge := hx1.rng m hm24
      have hem : m < env.length := by rw [hx1.len]; exact hm24
      have hei := Go.Ab.ints_at hem
      have hw : IntKind.wrap .i64 (gi env m + 1) = gi env m + 1 := wr _ (by omega) (by omega)
      have hset := ints_set env m (gi env m + 1)
      have hem2 : m < (env.set m (gi env m + 1)).length := by simpa using hem
      have hei2 := Go.Ab.ints_at hem2
      have hg2 : gi (env.set m (gi env m + 1)) m = gi env m + 1 := by rw [gi_set _ _ _ _ hem, if_pos rfl]
      rw [hg2] at hei2
      have hd := gi_drop hi
      rw [← hvv] at hd
      have b1 : decide ((i : Int) < ((ints vs).length : Int)) = true := by rw [ints_len]; exact decide_eq_true (by omega)
      have b2 : decide ((0 : Int) ≤ (i : Int)) = true := by simp
      have b3 : decide ((0 : Int) ≤ (m : Int)) = true := by simp
      by_cases hlt : gi env m + 1 < sz
      · refine .stop (.ret [(1, .own zE 3 1 (ints (env.set m (gi env m + 1)))), (2, .own zV 3 1 (ints vs)), (6, iB true)]) (wpQ_way (q49_l0a _ _ zE (ints env) zV (ints vs) sz zn (ints ns) en i _) ?_) rfl ?_
        · refine condW_t b1 (condW_t b2 ⟨_, hvi, _, hvi, condW_t b3 ⟨_, hei, _, hei, condW_t b3 ⟨_, hei, _, hei, condW_t b2 ⟨_, hvi, _, hvi, condW_t b3 ?_⟩⟩⟩⟩)
          rw [Int.toNat_natCast, hw, hset]
          exact ⟨_, hei2, _, hei2, condW_t (decide_eq_true hlt) rfl⟩
        · have e1 : nextF sz (vs.drop i) env = (env.set m (gi env m + 1), true) := by
            rw [hd, nextF, Int.toNat_natCast, if_pos hlt]
          rw [e1]; rfl
      · refine .go ((env.set m (gi env m + 1)).set m 0, i + 1) (wpQ_way (q49_l0a _ _ zE (ints env) zV (ints vs) sz zn (ints ns) en i _) ?_) ⟨⟨by simpa using hx1.len, fun j hj => ?_⟩, hi⟩ (by dsimp only; omega) ?_
        · refine condW_t b1 (condW_t b2 ⟨_, hvi, _, hvi, condW_t b3 ⟨_, hei, _, hei, condW_t b3 ⟨_, hei, _, hei, condW_t b2 ⟨_, hvi, _, hvi, condW_t b3 ?_⟩⟩⟩⟩)
          rw [Int.toNat_natCast, hw, hset]
          refine ⟨_, hei2, _, hei2, condW_f (decide_eq_false hlt) (condW_t b2 ⟨_, hvi, _, hvi, condW_t b3 ⟨_, hei2, _, hei2, ?_⟩⟩)⟩
          rw [ints_set, wr1 hi (by omega)]; rfl
        · dsimp only
          rw [gi_set _ _ _ _ hem2, gi_set _ _ _ _ hem]
          split
          · omega
          · exact hx1.rng j hj
        · have e1 : nextF sz (vs.drop i) env = nextF sz (vs.drop (i + 1)) ((env.set m (gi env m + 1)).set m 0) := by
            rw [hd, nextF, Int.toNat_natCast, if_neg hlt]
          dsimp only
          rw [e1]) x hx
  have h2 := h1 (env, 0) ⟨he, Nat.zero_le _⟩
  dsimp only at h2
  rw [List.drop_zero] at h2
  cases hb : (nextF sz vs env).2 with
  | true =>
    rw [if_pos hb] at h2
    exact .inl ⟨_, _, _, _, _, h2, rfl⟩
  | false =>
    rw [if_neg (by simp [hb])] at h2
    exact .inr ⟨_, _, _, _, _, _, _, _, _, h2, rfl⟩
theorem w_rvo {g : List Sym} {c : Cl} (hc : clB g c = true) : C 46 [iC c] = some (.own (varsC c.c.rows).isEmpty 3 1 (ints (varsC c.c.rows)), [iC c]) := by
  have hk := clOk.1 ((clB_c g c).symm.trans hc)
  have n1 : c.ls.length ≤ 5 := by have := hk.l5; simpa [Cl.c] using this
  have n2 : c.ts.length ≤ 3 := by have := hk.t3; simpa [Cl.c] using this
  have n3 : c.cs.length ≤ 3 := by have := hk.c3; simpa [Cl.c] using this
  have hrr : (rowsOf c).map (·.l) = c.c.rows := by
    simp [rowsOf, CC.rows, Cl.c, List.map_append, List.map_map, Function.comp_def, LitR.c]
  have hnr : (rowsOf c).length ≤ 11 := by simp [rowsOf]; omega
  have h49 : ∀ r ∈ rowsOf c, r.l.length ≤ 49 := fun r hr => by
    have hm : r.l ∈ c.c.rows := by rw [← hrr]; exact List.mem_map_of_mem hr
    simp only [CC.rows, List.mem_append, List.mem_map] at hm
    rcases hm with (⟨l, hl, e⟩ | hm) | ⟨l, hl, e⟩
    · have := (atom_codes (hk.la l hl)).1; rw [e] at this; exact this
    · obtain ⟨k, hk2⟩ := hk.tr
      have := rowB_len (hk2 _ hm).1; omega
    · have := (atom_codes (hk.ca l hl)).1; rw [e] at this; exact this
  have hfl : ∀ (rs : List Row), (∀ r ∈ rs, r.l.length ≤ 49) → (rs.flatMap (·.l)).length ≤ 49 * rs.length := by
    intro rs
    induction rs with
    | nil => intro _; simp
    | cons r rs ih =>
      intro h
      have h1 := h r (by simp)
      have h2 := ih (fun x hx => h x (by simp [hx]))
      rw [List.flatMap_cons, List.length_append, List.length_cons]; omega
  refine wfn (lk := []) rfl rfl (fnW_way (q46 _ _ c.lz (lits c.ls) c.le c.tz (rws c.ts) c.te c.cz (lits c.cs) c.ce _) ?_)
  refine ⟨_, _, _, w_rrows (c := c) (by omega) (by omega) (by omega), ?_⟩
  have h1 := fun x hx => blk_fun (F := F) (d := d46) (lk := []) (p := [1,1,1,0,1,0,0]) (p0 := [1,1,1,0,1]) (id := 0) (by kernel_rfl) (st := fun (x : List Int × Nat) => [(3, .own x.1.isEmpty 3 1 (ints x.1)), (4, .own (rowsOf c).isEmpty 28 1 (rws (rowsOf c))), (5, iI x.2)]) (I := fun x => x.2 ≤ (rowsOf c).length ∧ x.1.length ≤ 49 * x.2 ∧ x.1 ++ ((rowsOf c).drop x.2).flatMap (·.l) = (rowsOf c).flatMap (·.l)) (μ := fun x => (rowsOf c).length - x.2)
    (res := fun x => .norm [(3, .own ((rowsOf c).flatMap (·.l)).isEmpty 3 1 (ints ((rowsOf c).flatMap (·.l)))), (4, .own (rowsOf c).isEmpty 28 1 (rws (rowsOf c))), (5, iI (rowsOf c).length)])
    (fun x hx => by
      obtain ⟨acc, i⟩ := x
      obtain ⟨x1, x2, x3⟩ := hx
      dsimp only at x1 x2 x3
      by_cases hi : i < (rowsOf c).length
      · obtain ⟨r, hr⟩ := at_lt hi
        have hd : (rowsOf c).drop i = r :: (rowsOf c).drop (i + 1) := by
          rw [List.drop_eq_getElem_cons hi]
          rw [List.getElem?_eq_getElem hi] at hr
          cases hr; rfl
        have hrl := h49 r (List.mem_of_getElem? hr)
        rw [hd, List.flatMap_cons] at x3
        refine .go (acc ++ r.l, i + 1) (wpQ_way (q46_l0a _ _ acc.isEmpty (ints acc) (rowsOf c).isEmpty (rws (rowsOf c)) i _) ?_) ⟨hi, by simp; omega, by dsimp only; rw [List.append_assoc]; exact x3⟩ (by dsimp only; omega) rfl
        refine condW_t (by rw [rws_len]; exact decide_eq_true (by omega)) (condW_t (by simp) ⟨_, rws_at hr, _, _, _, rws_at hr, condW_t (by rw [ints_len, ints_len]; exact decide_eq_true (by omega)) (condW_t (by rw [ints_len, ints_len]; exact decide_eq_true (by omega)) ?_)⟩)
        rw [wr1 hi (by omega)]
        dsimp only
        rw [ints_append]
        have hem : (acc ++ r.l).isEmpty = (acc.isEmpty && (ints r.l).isEmpty) := by
          cases acc <;> cases r.l <;> simp [ints]
        rw [hem]
      · have e0 : i = (rowsOf c).length := by omega
        subst e0
        refine .stop (.exit 0 [(3, .own acc.isEmpty 3 1 (ints acc)), (4, .own (rowsOf c).isEmpty 28 1 (rws (rowsOf c))), (5, iI (rowsOf c).length)]) (wpQ_way (q46_l0a _ _ acc.isEmpty (ints acc) (rowsOf c).isEmpty (rws (rowsOf c)) (rowsOf c).length _) (condW_f (by rw [rws_len]; simp) rfl)) rfl ?_
        rw [List.drop_length, List.flatMap_nil, List.append_nil] at x3
        rw [x3]; rfl) x hx
  have h2 := h1 ([], 0) ⟨Nat.zero_le _, by simp, rfl⟩
  dsimp only at h2
  have hff : (rowsOf c).flatMap (·.l) = c.c.rows.flatten := by rw [← hrr, List.flatMap_def]
  have hvc : varsC c.c.rows = varsM c.c.rows.flatten := vars_flat (fun r hr x hx => (cl_codes hk r hr x hx).1)
  have hl := hfl (rowsOf c) h49
  have h3 := w_varsof (a := (rowsOf c).flatMap (·.l)) (by unfold Len; omega) ((rowsOf c).flatMap (·.l)).isEmpty []
  rw [hvc, ← hff]
  exact ⟨_, _, _, _, _, h2, _, _, _, h3, rfl⟩
theorem w_env : C 47 [] = some (.own false 3 1 (ints (List.replicate 24 0)), []) := wfn (lk := []) rfl rfl (fnW_way (q47 _ _ _) rfl)
theorem w_few {vs : List Int} (z : Bool) (e : List D) : C 24 [iS z vs e] = some (iB (decide (vs.length ≤ 6)), [iS z vs e]) := by
  refine wfn (lk := []) rfl rfl (fnW_way (q24 _ _ z (ints vs) e _) ?_)
  rw [ints_len]
  by_cases h : vs.length ≤ 6
  · rw [decide_eq_true h]; exact condW_t (decide_eq_true (by omega)) rfl
  · rw [decide_eq_false h]; exact condW_f (decide_eq_false (by omega)) rfl
/-- How many things there are. -/
def sizeM (i : Int) : Int := 1 + Int.tmod (IntKind.wrap .u64 i) 3
theorem size_in (i : Int) : 1 ≤ sizeM i ∧ sizeM i ≤ 3 := by
  unfold sizeM
  have h0 := (u64_ge i).1
  have h1 := Int.tmod_nonneg 3 h0
  have h2 := Int.tmod_lt_of_pos (IntKind.wrap .u64 i) (show (0 : Int) < 3 by omega)
  omega
theorem w_new (i : Int) (zn : Bool) (ns : List Int) (en : List D) : C 25 [iI i, iS zn ns en] = some (iM (sizeM i) zn ns en, [iI i, iS zn ns en]) := by
  refine wfn (lk := []) rfl rfl (fnW_way (q25 _ _ i zn (ints ns) en _) ?_)
  have h := size_in i
  have h0 := (u64_ge i).1
  have h1 := Int.tmod_nonneg 3 h0
  have h2 := Int.tmod_lt_of_pos (IntKind.wrap .u64 i) (show (0 : Int) < 3 by omega)
  have e1 : IntKind.wrap .i64 (1 + IntKind.wrap .i64 (Int.tmod (IntKind.wrap .u64 i) 3)) = sizeM i := by
    rw [wr (Int.tmod (IntKind.wrap .u64 i) 3) (by omega) (by omega)]
    exact wr _ (by unfold sizeM at h; omega) (by unfold sizeM at h; omega)
  rw [e1]
section
variable {g : List Sym} (hg : SigOk g) {sz : Int} (hs : 1 ≤ sz ∧ sz ≤ 3) (z zn : Bool) {ns : List Int} (hns : Len ns) (e en : List D)
include hg hs hns
/-- Does it hold, whatever stands for its variables? -/
def holdsM (g : List Sym) (sz : Int) (ns : List Int) (c : CC) : Prop := holdsP sz (varsC c.rows) (hM g sz ns c)
theorem w_mclause {c : Cl} (hc : clB g c = true) : ∃ b : Bool, (b = true ↔ holdsM g sz ns c.c) ∧ C 26 [iM sz zn ns en, iG z g e, iC c] = some (iB b, [iM sz zn ns en, iG z g e, iC c]) := by
  have hk := clOk.1 ((clB_c g c).symm.trans hc)
  have hcod := cl_codes hk
  obtain ⟨vs, hvs⟩ : ∃ vs, vs = varsC c.c.rows := ⟨_, rfl⟩
  have hvr : ∀ v ∈ vs, 0 ≤ v ∧ v < 24 := fun v hv => by
    rw [hvs] at hv
    obtain ⟨h0, r, hr, hx⟩ := vars_mem.1 hv
    have := (hcod r hr _ hx).1
    omega
  have hnd : vs.Nodup := by
    rw [hvs, vars_flat (fun r hr x hx => (hcod r hr x hx).1)]
    exact up_nodup up_varsFrom
  have hvl : vs.length ≤ 24 := by
    rw [hvs, vars_flat (fun r hr x hx => (hcod r hr x hx).1)]
    have : ∀ (k v : Nat), (varsFrom c.c.rows.flatten k v).length ≤ k := by
      intro k
      induction k with
      | zero => intro v; simp [varsFrom]
      | succ k ih =>
        intro v
        have := ih (v + 1)
        rw [varsFrom]
        split <;> simp <;> omega
    exact this 24 0
  have hhere : ∀ ds : List Int, hM g sz ns c.c (envF (envOf vs ds)) = hM g sz ns c.c (envV vs ds) := fun ds => here_ext (fun r hr x hx h0 => by
    unfold envF
    exact envOf_V vs ds h0 (hcod r hr x hx).1)
  have henv : ∀ ds : List Int, ds.length = vs.length → okD sz ds → EnvOk sz (envOf vs ds) := fun ds hl ho => ⟨envOf_len vs ds, fun j hj => by
    rw [envOf_at _ _ hj]
    split
    · rename_i hm
      have hi := List.idxOf_lt_length_of_mem hm
      have : gi ds (vs.idxOf (j : Int)) = ds[vs.idxOf (j : Int)]'(by omega) := by simp [gi, show vs.idxOf (j : Int) < ds.length by omega]
      rw [this]
      exact ho _ (List.getElem_mem _)
    · omega⟩
  have hloop := blk_rule (F := F) (d := d26) (lk := []) (p := [1,1,1,0,0]) (p0 := [1,1,1]) 0 (by kernel_rfl) (fun (ds : List Int) => [(1, iG z g e), (3, bMd sz zn ns en), (5, bC c), (7, .own vs.isEmpty 3 1 (ints vs)), (8, .own false 3 1 (ints (envOf vs ds)))])
    (fun ds => ds.length = vs.length ∧ okD sz ds) (fun ds => (valD sz (List.replicate vs.length (sz - 1)) - valD sz ds).toNat)
    (fun ds o => ∃ b : Bool, o = .ret [(6, iB b)] ∧ (b = true ↔ ∀ es : List Int, es.length = vs.length → okD sz es → valD sz ds ≤ valD sz es → hM g sz ns c.c (envV vs es) = true))
    (fun ds hx => by
      obtain ⟨hl, ho⟩ := hx
      have h1 := w_here hg hs.1 z zn false hns e en [] (envOf_len vs ds) hc
      rw [hhere ds] at h1
      have h2 := w_mnext hs zn ns en false vs.isEmpty hvr (by omega) (henv ds hl ho)
      rw [next_all hnd hvr hl] at h2
      cases hh : hM g sz ns c.c (envV vs ds) with
      | false =>
        rw [hh] at h1
        refine .inr ⟨.ret [(6, iB false)], wpQ_way (q26_l0a _ _ z (syms g) e sz zn (ints ns) en c.lz (lits c.ls) c.le c.tz (rws c.ts) c.te c.cz (lits c.cs) c.ce vs.isEmpty (ints vs) false (ints (envOf vs ds)) _) ⟨_, _, _, _, _, h1, condW_f rfl rfl⟩, rfl, false, rfl, ?_⟩
        constructor
        · intro hf; cases hf
        · intro hall
          have := hall ds hl ho (Int.le_refl _)
          rw [hh] at this; exact this
      | true =>
        rw [hh] at h1
        cases hi : incD sz ds with
        | some ds' =>
          rw [hi] at h2
          obtain ⟨k1, k2, k3⟩ := inc_some hs.1 ho hi
          have hmx := val_max hs.1 k1
          rw [k2, hl] at hmx
          refine .inl ⟨ds', wpQ_way (q26_l0a _ _ z (syms g) e sz zn (ints ns) en c.lz (lits c.ls) c.le c.tz (rws c.ts) c.te c.cz (lits c.cs) c.ce vs.isEmpty (ints vs) false (ints (envOf vs ds)) _) ⟨_, _, _, _, _, h1, condW_t rfl ⟨_, _, _, _, _, _, h2, condW_t rfl rfl⟩⟩, ⟨by omega, k1⟩, by omega, fun o ⟨b, ho1, ho2⟩ => ⟨b, ho1, ho2.trans ?_⟩⟩
          constructor
          · intro hall es e1 e2 e3
            by_cases hq : valD sz ds' ≤ valD sz es
            · exact hall es e1 e2 hq
            · have : ds = es := val_inj hs.1 (by omega) ho e2 (by omega)
              subst this; exact hh
          · intro hall es e1 e2 e3
            exact hall es e1 e2 (by omega)
        | none =>
          rw [hi] at h2
          refine .inr ⟨.ret [(6, iB true)], wpQ_way (q26_l0a _ _ z (syms g) e sz zn (ints ns) en c.lz (lits c.ls) c.le c.tz (rws c.ts) c.te c.cz (lits c.cs) c.ce vs.isEmpty (ints vs) false (ints (envOf vs ds)) _) ⟨_, _, _, _, _, h1, condW_t rfl ⟨_, _, _, _, _, _, h2, condW_f rfl rfl⟩⟩, rfl, true, rfl, ?_⟩
          constructor
          · intro _ es e1 e2 e3
            have hle := inc_none hs.1 ho hi (by omega) e2
            have : ds = es := val_inj hs.1 (by omega) ho e2 (by omega)
            subst this; exact hh
          · intro _; rfl) (List.replicate vs.length 0) ⟨by simp, ok_zero hs.1 _⟩
  obtain ⟨o, h1, b, rfl, hb⟩ := hloop
  rw [envOf_zero] at h1
  refine ⟨b, ?_, wfn (lk := []) rfl rfl (fnW_way (q26 _ _ sz zn (ints ns) en z (syms g) e c.lz (lits c.ls) c.le c.tz (rws c.ts) c.te c.cz (lits c.cs) c.ce _) ?_)⟩
  · rw [hb]
    unfold holdsM holdsP
    rw [← hvs]
    constructor
    · intro h es e1 e2
      exact h es e1 e2 (by rw [val_zero]; exact val_ge hs.1 e2)
    · intro h es e1 e2 _
      exact h es e1 e2
  · have h3 := w_rvo hc
    rw [← hvs] at h3
    exact ⟨_, _, _, h3, _, _, w_env, _, h1, rfl⟩
end
end Go.Proofs.YtekdlnofmbfdgaaDoor.Ab

/- Written by a program of this session (wip/tools/AbSym.lean). Not trusted: Lean checks it. -/
set_option maxRecDepth 100000
set_option linter.unusedVariables false
namespace Go.Proofs.YtekdlnofmbfdgaaDoor.Ab
open Go Go.Ab Go.Proofs
def L8 : Lps := fun b => match b with
  | _ => [.norm []]
theorem q8 (C J) (z1 : Bool) (x2 : List D) (e3 : List D) (z4 : Bool) (x5 : List D) (e6 : List D) (z7 : Bool) (x8 : List D) (e9 : List D) (z10 : Bool) (x11 : List D) (e12 : List D) (z13 : Bool) (x14 : List D) (e15 : List D) (z16 : Bool) (x17 : List D) (e18 : List D) (z19 : Bool) (x20 : List D) (e21 : List D) (i22 : Int) (z23 : Bool) (x24 : List D) (e25 : List D) (Q) : fnW F C R (L8) J d8 [.d (.sl 4 z1 x2 e3), .d (.agg [.sl 2 z4 x5 e6, .sl 1 z7 x8 e9, .sl 2 z10 x11 e12]), .d (.agg [.sl 2 z13 x14 e15, .sl 1 z16 x17 e18, .sl 2 z19 x20 e21]), .d (.int .i64 i22), .d (.sl 1 z23 x24 e25)] Q = (∃ w0, C 16 [] = some (IV.d (D.bool w0), []) ∧ condW w0 (∃ w1 w2 w3 w4 w5, C 12 [IV.d (D.sl 4 z1 x2 e3), IV.d (D.agg [D.sl 2 z4 x5 e6, D.sl 1 z7 x8 e9, D.sl 2 z10 x11 e12]), IV.d (D.agg [D.sl 2 z13 x14 e15, D.sl 1 z16 x17 e18, D.sl 2 z19 x20 e21])] = some (IV.tup [IV.d (D.bool w1), IV.d (D.int IntKind.i64 w2)], [IV.d w3, IV.d w4, IV.d w5]) ∧ condW w1 (∃ w6 w7, C 14 [IV.d (D.int IntKind.i64 w2)] = some (IV.d (D.int IntKind.i64 w6), [IV.d w7]) ∧ condW (w6 != 0) (Q (some (IV.d (D.bool true), [IV.d (D.sl 4 z1 x2 e3), IV.d (D.agg [D.sl 2 z4 x5 e6, D.sl 1 z7 x8 e9, D.sl 2 z10 x11 e12]), IV.d (D.agg [D.sl 2 z13 x14 e15, D.sl 1 z16 x17 e18, D.sl 2 z19 x20 e21]), IV.d (D.int IntKind.i64 i22), IV.d (D.sl 1 z23 x24 e25)]))) (condW ((↑(List.length x24) : Int) == 0) (Q (some (IV.d (D.bool true), [IV.d (D.sl 4 z1 x2 e3), IV.d (D.agg [D.sl 2 z4 x5 e6, D.sl 1 z7 x8 e9, D.sl 2 z10 x11 e12]), IV.d (D.agg [D.sl 2 z13 x14 e15, D.sl 1 z16 x17 e18, D.sl 2 z19 x20 e21]), IV.d (D.int IntKind.i64 i22), IV.d (D.sl 1 z23 x24 e25)]))) (∃ w8 w9 w10 w11 w12, C 23 [IV.d (D.sl 4 z1 x2 e3), IV.d (D.agg [D.sl 2 z4 x5 e6, D.sl 1 z7 x8 e9, D.sl 2 z10 x11 e12])] = some (IV.tup [IV.own w8 3 1 w9, IV.d (D.int IntKind.i64 w10)], [IV.d w11, IV.d w12]) ∧ ∃ w13 w14 w15 w16 w17, C 23 [IV.d (D.sl 4 z1 x2 e3), IV.d (D.agg [D.sl 2 z13 x14 e15, D.sl 1 z16 x17 e18, D.sl 2 z19 x20 e21])] = some (IV.tup [IV.own w13 3 1 w14, IV.d (D.int IntKind.i64 w15)], [IV.d w16, IV.d w17]) ∧ ∃ w18 w19, C 14 [IV.d (D.int IntKind.i64 w10)] = some (IV.d (D.int IntKind.i64 w18), [IV.d w19]) ∧ condW (w18 != 0) (Q (some (IV.d (D.bool false), [IV.d (D.sl 4 z1 x2 e3), IV.d (D.agg [D.sl 2 z4 x5 e6, D.sl 1 z7 x8 e9, D.sl 2 z10 x11 e12]), IV.d (D.agg [D.sl 2 z13 x14 e15, D.sl 1 z16 x17 e18, D.sl 2 z19 x20 e21]), IV.d (D.int IntKind.i64 i22), IV.d (D.sl 1 z23 x24 e25)]))) (∃ w20 w21, C 14 [IV.d (D.int IntKind.i64 w15)] = some (IV.d (D.int IntKind.i64 w20), [IV.d w21]) ∧ condW (w20 != 0) (Q (some (IV.d (D.bool false), [IV.d (D.sl 4 z1 x2 e3), IV.d (D.agg [D.sl 2 z4 x5 e6, D.sl 1 z7 x8 e9, D.sl 2 z10 x11 e12]), IV.d (D.agg [D.sl 2 z13 x14 e15, D.sl 1 z16 x17 e18, D.sl 2 z19 x20 e21]), IV.d (D.int IntKind.i64 i22), IV.d (D.sl 1 z23 x24 e25)]))) (∃ w22 w23, C 24 [IV.d (D.sl 1 w8 w9 [])] = some (IV.d (D.bool w22), [IV.d w23]) ∧ condW w22 (∃ w24 w25, C 24 [IV.d (D.sl 1 w13 w14 [])] = some (IV.d (D.bool w24), [IV.d w25]) ∧ condW w24 (∃ w26 w27 w28 w29 w30 w31, C 25 [IV.d (D.int IntKind.i64 i22), IV.d (D.sl 1 z23 x24 e25)] = some (IV.d (D.agg [D.int IntKind.i64 w26, D.sl 1 w27 w28 w29]), [IV.d w30, IV.d w31]) ∧ ∃ w32 w33 w34 w35, C 26 [IV.d (D.agg [D.int IntKind.i64 w26, D.sl 1 w27 w28 w29]), IV.d (D.sl 4 z1 x2 e3), IV.d (D.agg [D.sl 2 z4 x5 e6, D.sl 1 z7 x8 e9, D.sl 2 z10 x11 e12])] = some (IV.d (D.bool w32), [IV.d w33, IV.d w34, IV.d w35]) ∧ condW w32 (∃ w36 w37 w38 w39, C 26 [IV.d (D.agg [D.int IntKind.i64 w26, D.sl 1 w27 w28 w29]), IV.d (D.sl 4 z1 x2 e3), IV.d (D.agg [D.sl 2 z13 x14 e15, D.sl 1 z16 x17 e18, D.sl 2 z19 x20 e21])] = some (IV.d (D.bool w36), [IV.d w37, IV.d w38, IV.d w39]) ∧ condW w36 (Q (some (IV.d (D.bool true), [IV.d (D.sl 4 z1 x2 e3), IV.d (D.agg [D.sl 2 z4 x5 e6, D.sl 1 z7 x8 e9, D.sl 2 z10 x11 e12]), IV.d (D.agg [D.sl 2 z13 x14 e15, D.sl 1 z16 x17 e18, D.sl 2 z19 x20 e21]), IV.d (D.int IntKind.i64 i22), IV.d (D.sl 1 z23 x24 e25)]))) (Q (some (IV.d (D.bool false), [IV.d (D.sl 4 z1 x2 e3), IV.d (D.agg [D.sl 2 z4 x5 e6, D.sl 1 z7 x8 e9, D.sl 2 z10 x11 e12]), IV.d (D.agg [D.sl 2 z13 x14 e15, D.sl 1 z16 x17 e18, D.sl 2 z19 x20 e21]), IV.d (D.int IntKind.i64 i22), IV.d (D.sl 1 z23 x24 e25)])))) (Q (some (IV.d (D.bool true), [IV.d (D.sl 4 z1 x2 e3), IV.d (D.agg [D.sl 2 z4 x5 e6, D.sl 1 z7 x8 e9, D.sl 2 z10 x11 e12]), IV.d (D.agg [D.sl 2 z13 x14 e15, D.sl 1 z16 x17 e18, D.sl 2 z19 x20 e21]), IV.d (D.int IntKind.i64 i22), IV.d (D.sl 1 z23 x24 e25)])))) (Q (some (IV.d (D.bool true), [IV.d (D.sl 4 z1 x2 e3), IV.d (D.agg [D.sl 2 z4 x5 e6, D.sl 1 z7 x8 e9, D.sl 2 z10 x11 e12]), IV.d (D.agg [D.sl 2 z13 x14 e15, D.sl 1 z16 x17 e18, D.sl 2 z19 x20 e21]), IV.d (D.int IntKind.i64 i22), IV.d (D.sl 1 z23 x24 e25)])))) (Q (some (IV.d (D.bool true), [IV.d (D.sl 4 z1 x2 e3), IV.d (D.agg [D.sl 2 z4 x5 e6, D.sl 1 z7 x8 e9, D.sl 2 z10 x11 e12]), IV.d (D.agg [D.sl 2 z13 x14 e15, D.sl 1 z16 x17 e18, D.sl 2 z19 x20 e21]), IV.d (D.int IntKind.i64 i22), IV.d (D.sl 1 z23 x24 e25)])))))))) (∃ w40 w41, C 14 [IV.d (D.int IntKind.i64 w2)] = some (IV.d (D.int IntKind.i64 w40), [IV.d w41]) ∧ condW (w40 != 0) (Q (some (IV.d (D.bool true), [IV.d (D.sl 4 z1 x2 e3), IV.d (D.agg [D.sl 2 z4 x5 e6, D.sl 1 z7 x8 e9, D.sl 2 z10 x11 e12]), IV.d (D.agg [D.sl 2 z13 x14 e15, D.sl 1 z16 x17 e18, D.sl 2 z19 x20 e21]), IV.d (D.int IntKind.i64 i22), IV.d (D.sl 1 z23 x24 e25)]))) (Q (some (IV.d (D.bool true), [IV.d (D.sl 4 z1 x2 e3), IV.d (D.agg [D.sl 2 z4 x5 e6, D.sl 1 z7 x8 e9, D.sl 2 z10 x11 e12]), IV.d (D.agg [D.sl 2 z13 x14 e15, D.sl 1 z16 x17 e18, D.sl 2 z19 x20 e21]), IV.d (D.int IntKind.i64 i22), IV.d (D.sl 1 z23 x24 e25)]))))) (Q (some (IV.d (D.bool false), [IV.d (D.sl 4 z1 x2 e3), IV.d (D.agg [D.sl 2 z4 x5 e6, D.sl 1 z7 x8 e9, D.sl 2 z10 x11 e12]), IV.d (D.agg [D.sl 2 z13 x14 e15, D.sl 1 z16 x17 e18, D.sl 2 z19 x20 e21]), IV.d (D.int IntKind.i64 i22), IV.d (D.sl 1 z23 x24 e25)])))) := by kernel_rfl
end Go.Proofs.YtekdlnofmbfdgaaDoor.Ab

/- Written by a program of this session (wip/tools/AbSym.lean). Not trusted: Lean checks it. -/
set_option maxRecDepth 100000
set_option linter.unusedVariables false
namespace Go.Proofs.YtekdlnofmbfdgaaDoor.Ab
open Go Go.Ab Go.Proofs
def L16 : Lps := fun b => match b with
  | _ => [.norm []]
theorem q16 (C J)  (Q) : fnW F C R (L16) J d16 [] Q = (∃ w0 w1, C 33 [] = some (IV.own w0 103 4 w1, []) ∧ ∃ w2 w3 w4 w5 w6 w7 w8, C 10 [IV.d (D.sl 4 w0 w1 []), IV.d (D.agg [D.sl 2 false [D.agg [D.bool false, D.sl 1 false [D.int IntKind.i64 5, D.int IntKind.i64 (-1)] []]] [], D.sl 1 false [D.sl 1 false [D.int IntKind.i64 (-1)] []] [], D.sl 2 true [] []]), IV.d (D.agg [D.sl 2 false [D.agg [D.bool false, D.sl 1 false [D.int IntKind.i64 5, D.int IntKind.i64 2] []], D.agg [D.bool false, D.sl 1 false [D.int IntKind.i64 5, D.int IntKind.i64 1] []]] [], D.sl 1 false [D.sl 1 false [D.int IntKind.i64 1] []] [], D.sl 2 true [] []])] = some (IV.tup [IV.own w2 3 1 w3, IV.d (D.bool w4), IV.d (D.int IntKind.i64 w5)], [IV.d w6, IV.d w7, IV.d w8]) ∧ condW w4 (∃ w9 w10, C 33 [] = some (IV.own w9 103 4 w10, []) ∧ ∃ w11 w12 w13 w14 w15, C 12 [IV.d (D.sl 4 w9 w10 []), IV.d (D.agg [D.sl 2 false [D.agg [D.bool false, D.sl 1 false [D.int IntKind.i64 5, D.int IntKind.i64 2] []], D.agg [D.bool false, D.sl 1 false [D.int IntKind.i64 5, D.int IntKind.i64 1] []]] [], D.sl 1 false [D.sl 1 false [D.int IntKind.i64 1] []] [], D.sl 2 true [] []]), IV.d (D.agg [D.sl 2 false [D.agg [D.bool false, D.sl 1 false [D.int IntKind.i64 5, D.int IntKind.i64 (-1)] []]] [], D.sl 1 false [D.sl 1 false [D.int IntKind.i64 (-1)] []] [], D.sl 2 true [] []])] = some (IV.tup [IV.d (D.bool w11), IV.d (D.int IntKind.i64 w12)], [IV.d w13, IV.d w14, IV.d w15]) ∧ condW w11 (∃ w16 w17, C 33 [] = some (IV.own w16 103 4 w17, []) ∧ ∃ w18 w19 w20 w21 w22, C 12 [IV.d (D.sl 4 w16 w17 []), IV.d (D.agg [D.sl 2 true [] [], D.sl 1 false [D.sl 1 false [D.int IntKind.i64 5] []] [], D.sl 2 true [] []]), IV.d (D.agg [D.sl 2 false [D.agg [D.bool false, D.sl 1 false [D.int IntKind.i64 5, D.int IntKind.i64 (-1)] []]] [], D.sl 1 false [D.sl 1 false [D.int IntKind.i64 (-1)] []] [], D.sl 2 true [] []])] = some (IV.tup [IV.d (D.bool w18), IV.d (D.int IntKind.i64 w19)], [IV.d w20, IV.d w21, IV.d w22]) ∧ condW w18 (∃ w23 w24, C 14 [IV.d (D.int IntKind.i64 w5)] = some (IV.d (D.int IntKind.i64 w23), [IV.d w24]) ∧ condW (w23 == 0) (∃ w25 w26 w27, C 13 [IV.d (D.sl 1 w2 w3 []), IV.d (D.sl 1 false [D.int IntKind.i64 1, D.int IntKind.i64 0] [])] = some (IV.d (D.bool w25), [IV.d w26, IV.d w27]) ∧ condW w25 (Q (some (IV.d (D.bool false), []))) (Q (some (IV.d (D.bool false), [])))) (Q (some (IV.d (D.bool false), [])))) (∃ w28 w29, C 14 [IV.d (D.int IntKind.i64 w5)] = some (IV.d (D.int IntKind.i64 w28), [IV.d w29]) ∧ condW (w28 == 0) (∃ w30 w31 w32, C 13 [IV.d (D.sl 1 w2 w3 []), IV.d (D.sl 1 false [D.int IntKind.i64 1, D.int IntKind.i64 0] [])] = some (IV.d (D.bool w30), [IV.d w31, IV.d w32]) ∧ condW w30 (Q (some (IV.d (D.bool false), []))) (Q (some (IV.d (D.bool false), [])))) (Q (some (IV.d (D.bool false), []))))) (∃ w33 w34, C 33 [] = some (IV.own w33 103 4 w34, []) ∧ ∃ w35 w36 w37 w38 w39, C 12 [IV.d (D.sl 4 w33 w34 []), IV.d (D.agg [D.sl 2 true [] [], D.sl 1 false [D.sl 1 false [D.int IntKind.i64 5] []] [], D.sl 2 true [] []]), IV.d (D.agg [D.sl 2 false [D.agg [D.bool false, D.sl 1 false [D.int IntKind.i64 5, D.int IntKind.i64 (-1)] []]] [], D.sl 1 false [D.sl 1 false [D.int IntKind.i64 (-1)] []] [], D.sl 2 true [] []])] = some (IV.tup [IV.d (D.bool w35), IV.d (D.int IntKind.i64 w36)], [IV.d w37, IV.d w38, IV.d w39]) ∧ condW w35 (∃ w40 w41, C 14 [IV.d (D.int IntKind.i64 w5)] = some (IV.d (D.int IntKind.i64 w40), [IV.d w41]) ∧ condW (w40 == 0) (∃ w42 w43 w44, C 13 [IV.d (D.sl 1 w2 w3 []), IV.d (D.sl 1 false [D.int IntKind.i64 1, D.int IntKind.i64 0] [])] = some (IV.d (D.bool w42), [IV.d w43, IV.d w44]) ∧ condW w42 (∃ w45 w46, C 14 [IV.d (D.int IntKind.i64 w12)] = some (IV.d (D.int IntKind.i64 w45), [IV.d w46]) ∧ condW (w45 == 0) (∃ w47 w48, C 14 [IV.d (D.int IntKind.i64 w36)] = some (IV.d (D.int IntKind.i64 w47), [IV.d w48]) ∧ condW (w47 == 1000) (Q (some (IV.d (D.bool true), []))) (Q (some (IV.d (D.bool false), [])))) (Q (some (IV.d (D.bool false), [])))) (Q (some (IV.d (D.bool false), [])))) (Q (some (IV.d (D.bool false), [])))) (∃ w49 w50, C 14 [IV.d (D.int IntKind.i64 w5)] = some (IV.d (D.int IntKind.i64 w49), [IV.d w50]) ∧ condW (w49 == 0) (∃ w51 w52 w53, C 13 [IV.d (D.sl 1 w2 w3 []), IV.d (D.sl 1 false [D.int IntKind.i64 1, D.int IntKind.i64 0] [])] = some (IV.d (D.bool w51), [IV.d w52, IV.d w53]) ∧ condW w51 (∃ w54 w55, C 14 [IV.d (D.int IntKind.i64 w12)] = some (IV.d (D.int IntKind.i64 w54), [IV.d w55]) ∧ condW (w54 == 0) (∃ w56 w57, C 14 [IV.d (D.int IntKind.i64 w36)] = some (IV.d (D.int IntKind.i64 w56), [IV.d w57]) ∧ condW (w56 == 1000) (Q (some (IV.d (D.bool true), []))) (Q (some (IV.d (D.bool false), [])))) (Q (some (IV.d (D.bool false), [])))) (Q (some (IV.d (D.bool false), [])))) (Q (some (IV.d (D.bool false), [])))))) (∃ w58 w59, C 33 [] = some (IV.own w58 103 4 w59, []) ∧ ∃ w60 w61 w62 w63 w64, C 12 [IV.d (D.sl 4 w58 w59 []), IV.d (D.agg [D.sl 2 false [D.agg [D.bool false, D.sl 1 false [D.int IntKind.i64 5, D.int IntKind.i64 2] []], D.agg [D.bool false, D.sl 1 false [D.int IntKind.i64 5, D.int IntKind.i64 1] []]] [], D.sl 1 false [D.sl 1 false [D.int IntKind.i64 1] []] [], D.sl 2 true [] []]), IV.d (D.agg [D.sl 2 false [D.agg [D.bool false, D.sl 1 false [D.int IntKind.i64 5, D.int IntKind.i64 (-1)] []]] [], D.sl 1 false [D.sl 1 false [D.int IntKind.i64 (-1)] []] [], D.sl 2 true [] []])] = some (IV.tup [IV.d (D.bool w60), IV.d (D.int IntKind.i64 w61)], [IV.d w62, IV.d w63, IV.d w64]) ∧ condW w60 (∃ w65 w66, C 33 [] = some (IV.own w65 103 4 w66, []) ∧ ∃ w67 w68 w69 w70 w71, C 12 [IV.d (D.sl 4 w65 w66 []), IV.d (D.agg [D.sl 2 true [] [], D.sl 1 false [D.sl 1 false [D.int IntKind.i64 5] []] [], D.sl 2 true [] []]), IV.d (D.agg [D.sl 2 false [D.agg [D.bool false, D.sl 1 false [D.int IntKind.i64 5, D.int IntKind.i64 (-1)] []]] [], D.sl 1 false [D.sl 1 false [D.int IntKind.i64 (-1)] []] [], D.sl 2 true [] []])] = some (IV.tup [IV.d (D.bool w67), IV.d (D.int IntKind.i64 w68)], [IV.d w69, IV.d w70, IV.d w71]) ∧ condW w67 (Q (some (IV.d (D.bool false), []))) (Q (some (IV.d (D.bool false), [])))) (∃ w72 w73, C 33 [] = some (IV.own w72 103 4 w73, []) ∧ ∃ w74 w75 w76 w77 w78, C 12 [IV.d (D.sl 4 w72 w73 []), IV.d (D.agg [D.sl 2 true [] [], D.sl 1 false [D.sl 1 false [D.int IntKind.i64 5] []] [], D.sl 2 true [] []]), IV.d (D.agg [D.sl 2 false [D.agg [D.bool false, D.sl 1 false [D.int IntKind.i64 5, D.int IntKind.i64 (-1)] []]] [], D.sl 1 false [D.sl 1 false [D.int IntKind.i64 (-1)] []] [], D.sl 2 true [] []])] = some (IV.tup [IV.d (D.bool w74), IV.d (D.int IntKind.i64 w75)], [IV.d w76, IV.d w77, IV.d w78]) ∧ condW w74 (Q (some (IV.d (D.bool false), []))) (Q (some (IV.d (D.bool false), [])))))) := by kernel_rfl
end Go.Proofs.YtekdlnofmbfdgaaDoor.Ab

/- The words that chapter 10's laws ask first: true. No condition. -/
set_option linter.unusedVariables false
set_option linter.unusedSimpArgs false
set_option maxRecDepth 100000
namespace Go.Proofs.YtekdlnofmbfdgaaDoor.Ab
open Go Go.Ab Go.Qu Go.Proofs
def awG : List Sym := [⟨⟨#[61]⟩, 0, 2, 1⟩, ⟨⟨#[97]⟩, 1, 0, 1⟩, ⟨⟨#[98]⟩, 1, 0, 2⟩, ⟨⟨#[102]⟩, 1, 1, 1⟩, ⟨⟨#[103]⟩, 1, 2, 3⟩, ⟨⟨#[112]⟩, 0, 1, 1⟩, ⟨⟨#[114]⟩, 0, 2, 2⟩]
def awC : Cl := ⟨false, [⟨false, ⟨false, [5, -1], []⟩⟩], [], false, [⟨false, [-1], []⟩], [], true, [], []⟩
def awD : Cl := ⟨false, [⟨false, ⟨false, [5, 2], []⟩⟩, ⟨false, ⟨false, [5, 1], []⟩⟩], [], false, [⟨false, [1], []⟩], [], true, [], []⟩
def awE : Cl := ⟨true, [], [], false, [⟨false, [5], []⟩], [], true, [], []⟩
theorem awC_nil : NilC awC := fun r hr hz => by
  simp [rowsOf, awC] at hr
  rcases hr with rfl | rfl <;> cases hz
theorem awD_nil : NilC awD := fun r hr hz => by
  simp [rowsOf, awD] at hr
  rcases hr with rfl | rfl | rfl <;> cases hz
theorem awE_nil : NilC awE := fun r hr hz => by
  simp [rowsOf, awE] at hr
  subst hr; cases hz
theorem awC_may : clB awG awC = true := by decide +kernel
theorem awD_may : clB awG awD = true := by decide +kernel
theorem awE_may : clB awG awE = false := by decide +kernel
theorem aw_l1 : lenN awG [1] 1 = some 1 := by decide +kernel
theorem aw_l2 : lenN awG [2] 1 = some 1 := by decide +kernel
theorem aw_pC : ptsC awC.c awD.c = [⟨[5, -1], [(0, [5, 2]), (1, [5, 1])]⟩, ⟨[-1], [(0, [1])]⟩] := by rfl
theorem aw_pD : ptsC awD.c awC.c = [⟨[5, 2], [(0, [5, -1])]⟩, ⟨[5, 1], [(0, [5, -1])]⟩, ⟨[1], [(0, [-1])]⟩] := by rfl
theorem aw_pl : plM awG awC awD = some [1, 0] := by
  unfold plM
  rw [aw_pC]
  simp [findF, tryF, growF, aw_l1, aw_l2, vN, Bs.upd]
theorem aw_dl : (plM awG awD awC).isSome = false := by
  unfold plM
  rw [aw_pD]
  simp [findF, tryF, growF]
theorem aw_places : C 10 [iG false awG [], iC awC, iC awD] = some (.tup [.own false 3 1 (ints [1, 0]), iB true, iI 0], [iG false awG [], iC awC, iC awD]) := by
  obtain ⟨v, h1, h2, _⟩ := w_places (g := awG) false [] awC_nil awD_nil
  rw [awC_may, awD_may, aw_pl] at h2
  rw [h1, h2 rfl]; rfl
theorem aw_does : C 12 [iG false awG [], iC awD, iC awC] = some (.tup [iB false, iI 0], [iG false awG [], iC awD, iC awC]) := by
  have h := w_does (g := awG) false [] awD_nil awC_nil
  have hm : mayB awG awD awC = true := by unfold mayB; rw [awD_may, awC_may]; rfl
  rw [hm, aw_dl] at h
  exact h
theorem aw_form : C 12 [iG false awG [], iC awE, iC awC] = some (.tup [iB false, iI 1000], [iG false awG [], iC awE, iC awC]) := by
  have h := w_does (g := awG) false [] awE_nil awC_nil
  have hm : mayB awG awE awC = false := by unfold mayB; rw [awE_may]; rfl
  rw [hm] at h
  exact h
theorem w_words : C 33 [] = some (.own false 103 4 (syms awG), []) := W_ev (n := 60) (by kernel_rfl)
theorem w_awake : C 16 [] = some (iB true, []) := by
  refine wfn (lk := []) rfl rfl (fnW_way (q16 _ _ _) ?_)
  have hi := w_sameints (a := [1, 0]) (by unfold Len; simp) [1, 0] false false [] []
  rw [decide_eq_true rfl] at hi
  exact ⟨_, _, w_words, _, _, _, _, _, _, _, aw_places, condW_t rfl ⟨_, _, w_words, _, _, _, _, _, aw_does, condW_f rfl ⟨_, _, w_words, _, _, _, _, _, aw_form, condW_f rfl ⟨_, _, w_num _, condW_t rfl ⟨_, _, _, hi, condW_t rfl ⟨_, _, w_num _, condW_t rfl ⟨_, _, w_num _, condW_t rfl rfl⟩⟩⟩⟩⟩⟩⟩
end Go.Proofs.YtekdlnofmbfdgaaDoor.Ab

/- Chapter 10's law SubsumeHolds: for every input the law returns true. No condition. -/
set_option linter.unusedVariables false
set_option linter.unusedSimpArgs false
set_option maxRecDepth 100000
namespace Go.Proofs.YtekdlnofmbfdgaaDoor.Ab
open Go Go.Ab Go.Qu Go.Proofs
theorem law_subholds (z : Bool) (g : List Sym) {c d : Cl} (hn : NilC c) (hm : NilC d) (i : Int) (zn : Bool) {ns : List Int} (hns : Len ns) : C 8 [iG z g [], iC c, iC d, iI i, iS zn ns []] = some (iB true, [iG z g [], iC c, iC d, iI i, iS zn ns []]) := by
  refine wfn (lk := []) rfl rfl (fnW_way (q8 _ _ z (syms g) [] c.lz (lits c.ls) c.le c.tz (rws c.ts) c.te c.cz (lits c.cs) c.ce d.lz (lits d.ls) d.le d.tz (rws d.ts) d.te d.cz (lits d.cs) d.ce i zn (ints ns) [] _) ?_)
  refine ⟨_, w_awake, condW_t rfl ?_⟩
  have h1 := w_does z [] hn hm (g := g)
  cases hmay : mayB g c d with
  | false =>
    rw [hmay] at h1
    exact ⟨_, _, _, _, _, h1, condW_f rfl ⟨_, _, w_num _, condW_t rfl rfl⟩⟩
  | true =>
    rw [hmay] at h1
    cases hp : (plM g c d).isSome with
    | false =>
      rw [hp] at h1
      exact ⟨_, _, _, _, _, h1, condW_f rfl ⟨_, _, w_num _, condW_f rfl rfl⟩⟩
    | true =>
      rw [hp] at h1
      have hsays := does_iff.1 hp
      unfold mayB at hmay
      rw [Bool.and_eq_true] at hmay
      obtain ⟨hc, hd⟩ := hmay
      refine ⟨_, _, _, _, _, h1, condW_t rfl ⟨_, _, w_num _, condW_f rfl ?_⟩⟩
      by_cases hnn : ns = []
      · subst hnn
        exact condW_t rfl rfl
      have hpos := List.length_pos_iff.2 hnn
      refine condW_f (by rw [ints_len]; simp; omega) ?_
      have v1 := w_clvars z g [] hn
      have v2 := w_clvars z g [] hm
      rw [if_pos hc, if_pos hc] at v1
      rw [if_pos hd, if_pos hd] at v2
      refine ⟨_, _, _, _, _, v1, _, _, _, _, _, v2, _, _, w_num _, condW_f rfl ⟨_, _, w_num _, condW_f rfl ⟨_, _, w_few _ _, ?_⟩⟩⟩
      cases f1 : decide ((varsC c.c.rows).length ≤ 6) with
      | false => exact condW_f rfl rfl
      | true =>
        refine condW_t rfl ⟨_, _, w_few _ _, ?_⟩
        cases f2 : decide ((varsC d.c.rows).length ≤ 6) with
        | false => exact condW_f rfl rfl
        | true =>
          have hkc := clOk.1 ((clB_c g c).symm.trans hc)
          have hkd := clOk.1 ((clB_c g d).symm.trans hd)
          have hg := sigOk hkc.sg
          have hs := size_in i
          obtain ⟨b1, p1, m1⟩ := w_mclause hg hs z zn hns [] [] hc
          obtain ⟨b2, p2, m2⟩ := w_mclause hg hs z zn hns [] [] hd
          refine condW_t rfl ⟨_, _, _, _, _, _, w_new i zn ns [], _, _, _, _, m1, ?_⟩
          cases hb1 : b1 with
          | false => exact condW_f rfl rfl
          | true =>
            have hh := says_holds hs.1 (fun c l => tv_in hs.1 ns c l) hkc hkd hsays (p1.1 hb1)
            have hb2 : b2 = true := p2.2 hh
            rw [hb2] at m2
            exact condW_t rfl ⟨_, _, _, _, m2, condW_t rfl rfl⟩
theorem call_subholds (y0 y1 y2 y3 y4 : D) (g0 : Go.Ab.Good Tryd.prog 12 22 y0) (g1 : Go.Ab.Good Tryd.prog 12 26 y1) (g2 : Go.Ab.Good Tryd.prog 12 26 y2) (g3 : Go.Ab.Good Tryd.prog 12 3 y3) (g4 : Go.Ab.Good Tryd.prog 12 28 y4) : ∃ outs, C 8 [.d y0, .d y1, .d y2, .d y3, .d y4] = some (iB true, outs) := by
  obtain ⟨z, g, rfl⟩ := good_sig g0
  obtain ⟨c, rfl, _, hn⟩ := good_clauseN g1
  obtain ⟨d, rfl, _, hm⟩ := good_clauseN g2
  obtain ⟨i, rfl, _⟩ := good_int g3
  obtain ⟨zn, ns, rfl, hns⟩ := good_ints g4
  exact ⟨_, law_subholds z g hn hm i zn hns⟩
end Go.Proofs.YtekdlnofmbfdgaaDoor.Ab
