/- What the rows of this seat share: the variable that is laid, the world in which it is so. No condition. -/
import Derived.Below
import Derived.ChangeOld
import Derived.LaidMore
import Derived.Lib.SmallJoins
import Derived.OpenShut
import Derived.ProofKit
import Derived.SevenTiedAt
import Derived.ShutString
import Derived.SizedLaws
import Derived.Stop.Joined
import Derived.Test.YtekdlnofmbfdgaaDoorCards
import Derived.Test.YtekdlnofmbfdgaaDoorRows
import Derived.Test.YtekdlnofmbfdgaaDoorTie
import Derived.WalkKit
import Derived.Test.YtekdlnofmbfdgaaDoorSubsumes0
import Derived.Test.YtekdlnofmbfdgaaDoorSubsumes1
import Derived.Test.YtekdlnofmbfdgaaDoorSubsumes2
import Derived.Test.YtekdlnofmbfdgaaDoorSubsumes3
import Derived.Test.YtekdlnofmbfdgaaDoorSubsumes4
import Derived.Test.YtekdlnofmbfdgaaDoorSubsumes5
import Derived.Test.YtekdlnofmbfdgaaDoorSubsumes6
import Derived.Test.YtekdlnofmbfdgaaDoorSubsumes7
import Derived.Test.YtekdlnofmbfdgaaDoorSubsumes8
import Derived.Test.YtekdlnofmbfdgaaDoorSubsumes9
import Derived.Test.YtekdlnofmbfdgaaDoorSubsumes10
import Derived.Test.YtekdlnofmbfdgaaDoorSubsumes11
import Derived.Test.YtekdlnofmbfdgaaDoorSubsumes12
import Derived.Test.YtekdlnofmbfdgaaDoorSubsumes13
import Derived.Test.YtekdlnofmbfdgaaDoorSubsumes14
import Derived.Test.YtekdlnofmbfdgaaDoorSubsumes15
import Derived.Test.YtekdlnofmbfdgaaDoorSubsumes16
import Derived.Test.YtekdlnofmbfdgaaDoorSubsumes17
namespace Go.Proofs.YtekdlnofmbfdgaaDoor.Ab
open Go Go.Ab Go.Qu Go.Proofs Go.ChangeShapes Go.WideShapes Go.ChangeAt Go.RowKit Go.Joins
set_option linter.unusedVariables false
set_option maxRecDepth 100000
theorem own : ownKnob Tryd.prog.godebug = none := by kernel_rfl
theorem laidOut : laidOutB Tryd.prog = true := by kernel_rfl
abbrev laid1 : List (String × DataW Unit) := [("quaere/sign.equals", Rows.laid_quaere_sign_equals)]
theorem gEq : Tryd.prog.globalNamed "quaere/sign.equals" = some 0 := by kernel_rfl
theorem tEq : (Tryd.prog.globals[0]?).map (·.type) = some 103 := by kernel_rfl
theorem door_met (os : Os) (args : Array Value) : laidMetH Tryd.prog laid1 ((World.doorLaid Tryd.prog 400 os).forCall (fun _ _ => 0) ⟨#[], args, []⟩).memory :=
  laidMetH_of_parts3 (fuel := 8) (laidMet_of_run' 8 (by kernel_rfl) (by kernel_rfl)) (by kernel_rfl) (by kernel_rfl)
theorem globs {W : World} (h : laidMetH Tryd.prog laid1 W) : GlobOk (Hw W) F.G := by
  rw [MakeChecks.laidMetH_plain _ _ _ (by kernel_rfl)] at h
  obtain ⟨ps, ⟨g0, t0, cs0, f0, p0, q0, hg0, ht0, hv0, hd0, _, _⟩, _, _⟩ := h
  obtain rfl := Option.some.inj (gEq.symm.trans hg0)
  obtain rfl := Option.some.inj (tEq.symm.trans ht0)
  obtain ⟨xs, n, _, hx, hlen, hxl, hf⟩ := DataW.trod_struct Tryd.underlying103 hd0
  have c1 : Tryd.prog.cellsOf 103 = 4 := by kernel_rfl
  have cs : Tryd.prog.cellsOf 9 = 1 := by kernel_rfl
  have ci : Tryd.prog.cellsOf 3 = 1 := by kernel_rfl
  rw [c1] at hlen
  have hx1 : xs.map (·.1) = [.lit (.string [61]), .lit (.int .i64 0), .lit (.int .i64 2), .lit (.int .i64 1)] := by
    simp only [Prod.mk.injEq] at hx
    have h9 := hx.1
    unfold Rows.laid_quaere_sign_equals at h9
    simp only [DataW.agg.injEq] at h9
    exact h9.symm
  have hcs : ∃ a b c d, cs0.toList = [a, b, c, d] := by
    match h : cs0.toList, hlen with
    | [a, b, c, d], _ => exact ⟨a, b, c, d, rfl⟩
  obtain ⟨a, b, c, d, hcs⟩ := hcs
  have hxs : ∃ x0 x1 x2 x3, xs = [x0, x1, x2, x3] := by
    match xs, hxl with
    | [x0, x1, x2, x3], _ => exact ⟨x0, x1, x2, x3, rfl⟩
  obtain ⟨x0, x1, x2, x3, rfl⟩ := hxs
  simp only [List.map_cons, List.map_nil, List.cons.injEq, and_true] at hx1
  obtain ⟨e0, e1, e2, e3⟩ := hx1
  have h0 : DataW.trod (fun _ => ()) Tryd.prog W 0 (fun _ => true) false n 9 ((cs0.toList.drop 0).take (Tryd.prog.cellsOf 9)) = some x0 := hf 0 _ rfl
  have h1 : DataW.trod (fun _ => ()) Tryd.prog W 0 (fun _ => true) false n 3 ((cs0.toList.drop 1).take (Tryd.prog.cellsOf 3)) = some x1 := hf 1 _ rfl
  have h2 : DataW.trod (fun _ => ()) Tryd.prog W 0 (fun _ => true) false n 3 ((cs0.toList.drop 2).take (Tryd.prog.cellsOf 3)) = some x2 := hf 2 _ rfl
  have h3 : DataW.trod (fun _ => ()) Tryd.prog W 0 (fun _ => true) false n 3 ((cs0.toList.drop 3).take (Tryd.prog.cellsOf 3)) = some x3 := hf 3 _ rfl
  rw [hcs, cs] at h0
  rw [hcs, ci] at h1 h2 h3
  obtain ⟨s, ha, hs, _⟩ := DataW.trod_string Tryd.underlying9 h0
  obtain ⟨n1, hb, hn1, _⟩ := DataW.trod_int Tryd.underlying3 h1
  obtain ⟨n2, hc, hn2, _⟩ := DataW.trod_int Tryd.underlying3 h2
  obtain ⟨n3, hd, hn3, _⟩ := DataW.trod_int Tryd.underlying3 h3
  simp at ha hb hc hd
  rw [hs] at e0; rw [hn1] at e1; rw [hn2] at e2; rw [hn3] at e3
  simp at e0 e1 e2 e3
  subst ha hb hc hd e1 e2 e3
  have hse : s = "=".toUTF8 := by
    have h5 : "=".toUTF8.data.toList = [61] := by decide +kernel
    have h6 : s.data = "=".toUTF8.data := Array.toList_inj.1 (e0.trans h5.symm)
    exact (show ∀ (x y : ByteArray), x.data = y.data → x = y by intro ⟨_⟩ ⟨_⟩ h; exact congrArg _ h) _ _ h6
  subst hse
  have hcell : ∀ (j : Nat) u, [Value.string "=".toUTF8, .int .i64 0, .int .i64 2, .int .i64 1][j]? = some u → W.cell? ⟨0, j, none⟩ = some u := fun j u hj => by
    have h7 := World.var?_cell hg0 hv0 j
    have h8 : cs0[j]? = some u := by rw [← Array.getElem?_toList, hcs]; exact hj
    rw [h8] at h7
    simpa using h7
  intro g cs hg
  simp only [F, List.map_cons, List.map_nil, assoc] at hg
  split at hg
  · rename_i hg0
    subst hg0
    simp only [Option.some.injEq] at hg
    subst hg
    refine ⟨[.string "=".toUTF8, .int .i64 0, .int .i64 2, .int .i64 1], ?_, fun j u hj => ?_, by simp [D.isAgg]⟩
    · unfold D.RepL; refine ⟨[_], _, rfl, by unfold D.Rep; rfl, ?_⟩
      unfold D.RepL; refine ⟨[_], _, rfl, by unfold D.Rep; rfl, ?_⟩
      unfold D.RepL; refine ⟨[_], _, rfl, by unfold D.Rep; rfl, ?_⟩
      unfold D.RepL; refine ⟨[_], [], rfl, by unfold D.Rep; rfl, ?_⟩
      unfold D.RepL; rfl
    · refine Hw.cell ?_
      have h9 := hcell j u hj
      unfold Addr.add
      split
      · rename_i hj0; subst hj0; exact h9
      · simpa using h9
  · simp at hg
theorem fxOk : FxOk Tryd.prog F where
  orders := by kernel_rfl
  tab := tab_ok
  code := code_ok.get
  prim := primOk
  ins := insAll
/-! ### Arguments -/
theorem good_sym {n : Nat} {x : D} (h : Go.Ab.Good Tryd.prog (n + 2) 103 x) : ∃ s : Sym, x = s.d := by
  unfold Go.Ab.Good at h
  rw [Tryd.underlying103] at h
  obtain ⟨ys, rfl, y0, r0, rfl, h0, y1, r1, rfl, h1, y2, r2, rfl, h2, y3, r3, rfl, h3, rfl⟩ := h
  unfold Go.Ab.Good at h0 h1 h2 h3
  simp only [Tryd.underlying9, Tryd.underlying3] at h0 h1 h2 h3
  obtain ⟨s, rfl, _⟩ := h0
  obtain ⟨a, rfl, _⟩ := h1
  obtain ⟨b, rfl, _⟩ := h2
  obtain ⟨c, rfl, _⟩ := h3
  exact ⟨⟨s, a, b, c⟩, rfl⟩
theorem good_sig {n : Nat} {x : D} (h : Go.Ab.Good Tryd.prog (n + 3) 22 x) : ∃ z g, x = .sl 4 z (syms g) [] := by
  unfold Go.Ab.Good at h
  rw [Tryd.underlying22] at h
  obtain ⟨z, xs, rfl, _, h2, _⟩ := h
  have hc : Tryd.prog.cellsOf 103 = 4 := by kernel_rfl
  rw [hc]
  obtain ⟨g, rfl, _⟩ := all_map (f := Sym.d) (Q := fun _ => True) (fun y hy => by obtain ⟨s, hs⟩ := good_sym (h2 y hy); exact ⟨s, hs, trivial⟩)
  exact ⟨z, g, rfl⟩
theorem good_int {n : Nat} {x : D} (h : Go.Ab.Good Tryd.prog (n + 1) 3 x) : ∃ a : Int, x = .int .i64 a ∧ -9223372036854775808 ≤ a ∧ a ≤ 9223372036854775807 := by
  unfold Go.Ab.Good at h
  rw [Tryd.underlying3] at h
  obtain ⟨a, rfl, hw⟩ := h
  refine ⟨a, rfl, ?_⟩
  simp [Lit.wf, IntKind.min, IntKind.max, IntKind.bits, IntKind.signed] at hw
  omega
theorem good_ints {n : Nat} {x : D} (h : Go.Ab.Good Tryd.prog (n + 2) 28 x) : ∃ z l, x = .sl 1 z (ints l) [] ∧ Len l := by
  unfold Go.Ab.Good at h
  rw [Tryd.underlying28] at h
  obtain ⟨z, xs, rfl, h1, h2, _⟩ := h
  have hc : Tryd.prog.cellsOf 3 = 1 := by kernel_rfl
  have hb : Tryd.prog.bytesOf 3 = 8 := by kernel_rfl
  rw [hb] at h1
  rw [hc]
  obtain ⟨l, rfl, _⟩ := all_map (f := D.int .i64) (Q := fun _ => True) (fun y hy => by obtain ⟨a, ha, _⟩ := good_int (h2 y hy); exact ⟨a, ha, trivial⟩)
  rw [List.length_map] at h1
  exact ⟨z, l, rfl, by unfold Len; simpa [reachBytes] using h1⟩
theorem good_rows {n : Nat} {x : D} (h : Go.Ab.Good Tryd.prog (n + 3) 24 x) : ∃ z rs, x = .sl 1 z (rws rs) [] ∧ rs.length * 24 ≤ 140737488351232 ∧ ∀ r ∈ rs, Len r.l := by
  unfold Go.Ab.Good at h
  rw [Tryd.underlying24] at h
  obtain ⟨z, xs, rfl, h1, h2, _⟩ := h
  have hc : Tryd.prog.cellsOf 28 = 1 := by kernel_rfl
  have hb : Tryd.prog.bytesOf 28 = 24 := by kernel_rfl
  rw [hb] at h1
  rw [hc]
  obtain ⟨rs, rfl, h4⟩ := all_map (f := Row.d) (Q := fun r => Len r.l) (fun y hy => by obtain ⟨z, l, h, hl⟩ := good_ints (h2 y hy); exact ⟨⟨z, l, []⟩, h, hl⟩)
  rw [List.length_map] at h1
  exact ⟨z, rs, rfl, by simpa [reachBytes] using h1, h4⟩
end Go.Proofs.YtekdlnofmbfdgaaDoor.Ab

/- Literals, clauses as arguments. No condition. -/
set_option linter.unusedVariables false
set_option linter.unusedSimpArgs false
set_option maxRecDepth 100000
namespace Go.Proofs.YtekdlnofmbfdgaaDoor.Ab
open Go Go.Ab Go.Qu Go.Proofs
theorem good_lit {n : Nat} {x : D} (h : Go.Ab.Good Tryd.prog (n + 3) 68 x) : ∃ l : LitR, x = l.d ∧ Len l.r.l := by
  unfold Go.Ab.Good at h
  rw [Tryd.underlying68] at h
  obtain ⟨ys, rfl, y0, r0, rfl, h0, y1, r1, rfl, h1, rfl⟩ := h
  obtain ⟨z, l, rfl, hl⟩ := good_ints h1
  unfold Go.Ab.Good at h0
  rw [Tryd.underlying4] at h0
  obtain ⟨b, rfl⟩ := h0
  exact ⟨⟨b, ⟨z, l, []⟩⟩, rfl, hl⟩
theorem good_lits {n : Nat} {x : D} (h : Go.Ab.Good Tryd.prog (n + 4) 23 x) : ∃ z ls, x = .sl 2 z (lits ls) [] ∧ LitsIn ls := by
  unfold Go.Ab.Good at h
  rw [Tryd.underlying23] at h
  obtain ⟨z, xs, rfl, h1, h2, _⟩ := h
  have hc : Tryd.prog.cellsOf 68 = 2 := by kernel_rfl
  have hb : Tryd.prog.bytesOf 68 = 32 := by kernel_rfl
  rw [hb] at h1
  rw [hc]
  obtain ⟨ls, rfl, h4⟩ := all_map (f := LitR.d) (Q := fun l => Len l.r.l) (fun y hy => by obtain ⟨l, hl, hk⟩ := good_lit (h2 y hy); exact ⟨l, hl, hk⟩)
  rw [List.length_map] at h1
  exact ⟨z, ls, rfl, by simpa [reachBytes] using h1, h4⟩
theorem good_clause {n : Nat} {x : D} (h : Go.Ab.Good Tryd.prog (n + 5) 26 x) : ∃ c : Cl, x = c.d ∧ ClIn c := by
  unfold Go.Ab.Good at h
  rw [Tryd.underlying26] at h
  obtain ⟨ys, rfl, y0, r0, rfl, h0, y1, r1, rfl, h1, y2, r2, rfl, h2, rfl⟩ := h
  obtain ⟨lz, ls, rfl, hls⟩ := good_lits h0
  obtain ⟨tz, ts, rfl, hts, hr⟩ := good_rows h1
  obtain ⟨cz, cs, rfl, hcs⟩ := good_lits h2
  exact ⟨⟨lz, ls, [], tz, ts, [], cz, cs, []⟩, rfl, ⟨hls, hts, hr, hcs⟩⟩
end Go.Proofs.YtekdlnofmbfdgaaDoor.Ab

/- Arguments: rows that are nil have no codes. No condition. -/
set_option linter.unusedVariables false
set_option linter.unusedSimpArgs false
set_option maxRecDepth 100000
namespace Go.Proofs.YtekdlnofmbfdgaaDoor.Ab
open Go Go.Ab Go.Qu Go.Proofs
theorem good_nil {n : Nat} {z : Bool} {l : List Int} (h : Go.Ab.Good Tryd.prog (n + 1) 28 (.sl 1 z (ints l) [])) : z = true → l = [] := by
  unfold Go.Ab.Good at h
  rw [Tryd.underlying28] at h
  obtain ⟨z', xs, he, _, _, h⟩ := h
  simp only [D.sl.injEq] at he
  obtain ⟨_, rfl, rfl, _⟩ := he
  intro hz
  have := congrArg List.length (h hz)
  rw [ints_len] at this
  exact List.length_eq_zero_iff.1 this
theorem good_litnil {n : Nat} {l : LitR} (h : Go.Ab.Good Tryd.prog (n + 3) 68 l.d) (he : l.r.e = []) : l.r.z = true → l.r.l = [] := by
  unfold Go.Ab.Good at h
  rw [Tryd.underlying68] at h
  obtain ⟨ys, hy, y0, r0, rfl, h0, y1, r1, rfl, h1, rfl⟩ := h
  unfold Go.Ab.Good at h0
  rw [Tryd.underlying4] at h0
  obtain ⟨b, rfl⟩ := h0
  obtain ⟨z, m, rfl, _⟩ := good_ints h1
  have h2 := good_nil (n := n + 1) h1
  simp only [LitR.d, List.flatMap_cons, List.flatMap_nil, D.cells, List.cons_append, List.nil_append, List.append_nil, D.agg.injEq, List.cons.injEq, D.bool.injEq, D.sl.injEq, and_true, true_and] at hy
  obtain ⟨_, hz, hm, _⟩ := hy
  intro hz'
  have h3 := h2 (hz ▸ hz')
  rw [h3] at hm
  have := congrArg List.length hm
  rw [ints_len] at this
  exact List.length_eq_zero_iff.1 (by simpa [ints_nil] using this)
theorem good_clauseN {n : Nat} {x : D} (h : Go.Ab.Good Tryd.prog (n + 5) 26 x) : ∃ c : Cl, x = c.d ∧ ClIn c ∧ NilC c := by
  have h' := h
  unfold Go.Ab.Good at h
  rw [Tryd.underlying26] at h
  obtain ⟨ys, rfl, y0, r0, rfl, h0, y1, r1, rfl, h1, y2, r2, rfl, h2, rfl⟩ := h
  obtain ⟨lz, ls, rfl, hls⟩ := good_lits h0
  obtain ⟨tz, ts, rfl, hts, hr⟩ := good_rows h1
  obtain ⟨cz, cs, rfl, hcs⟩ := good_lits h2
  have hL : ∀ {z : Bool} {ls : List LitR}, Go.Ab.Good Tryd.prog (n + 4) 23 (.sl 2 z (lits ls) []) → ∀ l ∈ ls, l.r.z = true → l.r.l = [] := by
    intro z ls hg l hl
    unfold Go.Ab.Good at hg
    rw [Tryd.underlying23] at hg
    obtain ⟨z', xs, he, _, hx, _⟩ := hg
    simp only [D.sl.injEq] at he
    obtain ⟨_, _, rfl, _⟩ := he
    have h5 := hx l.d (List.mem_map.2 ⟨l, hl, rfl⟩)
    obtain ⟨m, hm, _⟩ := good_lit h5
    have h6 : l.r.z = m.r.z ∧ ints l.r.l = ints m.r.l ∧ l.r.e = m.r.e := by
      have := hm
      simp only [LitR.d, D.agg.injEq, List.cons.injEq, D.bool.injEq, D.sl.injEq, and_true, true_and] at this
      exact ⟨this.2.1, this.2.2.1, this.2.2.2⟩
    have h7 : l.r.e = [] := by
      unfold Go.Ab.Good at h5
      rw [Tryd.underlying68] at h5
      obtain ⟨ys, hy, y0, r0, rfl, k0, y1, r1, rfl, k1, rfl⟩ := h5
      obtain ⟨z2, l2, rfl, _⟩ := good_ints k1
      unfold Go.Ab.Good at k0
      rw [Tryd.underlying4] at k0
      obtain ⟨b, rfl⟩ := k0
      simp only [LitR.d, List.flatMap_cons, List.flatMap_nil, D.cells, List.cons_append, List.nil_append, List.append_nil, D.agg.injEq, List.cons.injEq, D.bool.injEq, D.sl.injEq, and_true, true_and] at hy
      exact hy.2.2.2
    exact good_litnil (n := n) h5 h7
  refine ⟨⟨lz, ls, [], tz, ts, [], cz, cs, []⟩, rfl, ⟨hls, hts, hr, hcs⟩, fun r hr' => ?_⟩
  simp only [rowsOf, List.mem_append, List.mem_map] at hr'
  rcases hr' with (⟨l, hl, rfl⟩ | hr') | ⟨l, hl, rfl⟩
  · exact hL h0 l hl
  · unfold Go.Ab.Good at h1
    rw [Tryd.underlying24] at h1
    obtain ⟨z', xs, he, _, hx, _⟩ := h1
    simp only [D.sl.injEq] at he
    obtain ⟨_, _, rfl, _⟩ := he
    have h5 := hx r.d (List.mem_map.2 ⟨r, hr', rfl⟩)
    obtain ⟨z2, l2, he2, _⟩ := good_ints h5
    have h6 : r.e = [] := by
      simp only [Row.d, D.sl.injEq, true_and] at he2
      exact he2.2.2
    have h7 : r.d = .sl 1 r.z (ints r.l) [] := by rw [← h6]; rfl
    rw [h7] at h5
    exact good_nil (n := n + 2) h5
  · exact hL h2 l hl
end Go.Proofs.YtekdlnofmbfdgaaDoor.Ab

/- Which clause says as much: what the program's functions hand back. For every input; no condition. -/
set_option linter.unusedVariables false
set_option linter.unusedSimpArgs false
set_option maxRecDepth 100000
namespace Go.Proofs.YtekdlnofmbfdgaaDoor.Ab
open Go Go.Ab Go.Qu Go.Proofs
attribute [local simp] and_assoc
attribute [local irreducible] bsD
theorem l_parts2 {g : List Sym} (hg : SigOk g) (z : Bool) (e : List D) (c d : Cl) (zp : Bool) (xp : List D) (n21 n22 : Int) {r : Row} (hr : RowM r) (hts : d.ts.length ≤ 1000) (hm : ∀ u ∈ d.ts, RowM u) (x : List (Nat × Row) × Nat) (hx : x.2 ≤ d.ts.length ∧ x.1.length ≤ x.2) :
    evP F (Go.Ab.W F) (JW F d51 []) d51 [] [1,1,0,1,0,0,1,1,0,0,1,1,0,1] [(0, iG z g e), (4, bC c), (5, bC d), (7, .own zp 124 3 xp), (10, pP r x.1), (20, iR c.tz c.ts c.te), (21, iI n21), (22, iI n22), (29, iR d.tz d.ts d.te), (30, iI d.ts.length), (31, iI x.2)] = some (.norm [(0, iG z g e), (4, bC c), (5, bC d), (7, .own zp 124 3 xp), (10, pP r (x.1 ++ candRR g r (d.ts.drop x.2) x.2)), (20, iR c.tz c.ts c.te), (21, iI n21), (22, iI n22), (29, iR d.tz d.ts d.te), (30, iI d.ts.length), (31, iI d.ts.length)]) :=
  blk_fun (F := F) (d := d51) (lk := []) (p := [1,1,0,1,0,0,1,1,0,0,1,1,0,1,0,0]) (p0 := [1,1,0,1,0,0,1,1,0,0,1,1,0,1]) (id := 2) (by kernel_rfl) (st := fun (x : List (Nat × Row) × Nat) => [(0, iG z g e), (4, bC c), (5, bC d), (7, .own zp 124 3 xp), (10, pP r x.1), (20, iR c.tz c.ts c.te), (21, iI n21), (22, iI n22), (29, iR d.tz d.ts d.te), (30, iI d.ts.length), (31, iI x.2)]) (I := fun x => x.2 ≤ d.ts.length ∧ x.1.length ≤ x.2) (μ := fun x => d.ts.length - x.2)
    (res := fun x => .norm [(0, iG z g e), (4, bC c), (5, bC d), (7, .own zp 124 3 xp), (10, pP r (x.1 ++ candRR g r (d.ts.drop x.2) x.2)), (20, iR c.tz c.ts c.te), (21, iI n21), (22, iI n22), (29, iR d.tz d.ts d.te), (30, iI d.ts.length), (31, iI d.ts.length)])
    (fun x hx => by
      obtain ⟨xs, i⟩ := x
      obtain ⟨hx1, hx2⟩ := hx
      dsimp only at hx1 hx2
      by_cases hi : i < d.ts.length
      · obtain ⟨m, hm1⟩ := at_lt hi
        have hd : d.ts.drop i = m :: d.ts.drop (i + 1) := by
          rw [List.drop_eq_getElem_cons hi]
          rw [List.getElem?_eq_getElem hi] at hm1
          cases hm1; rfl
        have hc := w_could hg z e hr (hm m (List.mem_of_getElem? hm1)) (xs := xs) (by omega) i
        have hi' : (i : Int) < d.ts.length := by omega
        have hw := wr1 hi (show d.ts.length ≤ 9223372036854775807 by omega)
        refine .go (if okN g r.l m.l = true then xs ++ [(i, m)] else xs, i + 1) (wpQ_way (q51_l2a _ _ z (syms g) e c.lz (lits c.ls) c.le c.tz (rws c.ts) c.te c.cz (lits c.cs) c.ce d.lz (lits d.ls) d.le d.tz (rws d.ts) d.te d.cz (lits d.cs) d.ce zp xp r.z (ints r.l) r.e xs.isEmpty (pls xs) xs.isEmpty (ins xs) c.tz (rws c.ts) c.te n21 n22 d.tz (rws d.ts) d.te _ i _) ?_) ⟨by dsimp only; omega, by
            dsimp only
            split
            · simp; omega
            · omega⟩ (by dsimp only; omega) ?_
        · refine condW_t (decide_eq_true hi') ?_
          refine condW_t (decide_eq_true (by omega)) ?_
          refine ⟨_, _, _, rws_at hm1, ?_⟩
          refine ⟨_, _, _, _, _, _, _, _, _, _, hc, ?_⟩
          rw [hw]
        · dsimp only; rw [hd, candRR]
          split <;> simp
      · have e0 : i = d.ts.length := by omega
        subst e0
        refine .stop (.exit 2 [(0, iG z g e), (4, bC c), (5, bC d), (7, .own zp 124 3 xp), (10, pP r xs), (20, iR c.tz c.ts c.te), (21, iI n21), (22, iI n22), (29, iR d.tz d.ts d.te), (30, iI d.ts.length), (31, iI d.ts.length)]) (wpQ_way (q51_l2a _ _ z (syms g) e c.lz (lits c.ls) c.le c.tz (rws c.ts) c.te c.cz (lits c.cs) c.ce d.lz (lits d.ls) d.le d.tz (rws d.ts) d.te d.cz (lits d.cs) d.ce zp xp r.z (ints r.l) r.e xs.isEmpty (pls xs) xs.isEmpty (ins xs) c.tz (rws c.ts) c.te n21 n22 d.tz (rws d.ts) d.te _ _ _) (by simp)) rfl ?_
        simp [blkO, candRR]) x hx
def ptsT (g : List Sym) (ts us : List Row) : List PtR := ts.map fun r => ⟨r, candRR g r us 0⟩
theorem l_parts0 {g : List Sym} (hg : SigOk g) (z : Bool) (e : List D) (c d : Cl) (hcs : c.ts.length ≤ 1000) (hr : ∀ r ∈ c.ts, RowM r) (hts : d.ts.length ≤ 1000) (hm : ∀ u ∈ d.ts, RowM u) (x : List PtR × Nat) (hx : x.2 ≤ c.ts.length ∧ x.1.length ≤ 1000 + x.2) :
    evP F (Go.Ab.W F) (JW F d51 []) d51 [] [1,1,0,1] [(0, iG z g e), (4, bC c), (5, bC d), (7, .own x.1.isEmpty 124 3 (prts x.1)), (20, iR c.tz c.ts c.te), (21, iI c.ts.length), (22, iI x.2)] = some (.norm [(0, iG z g e), (4, bC c), (5, bC d), (7, .own (x.1 ++ ptsT g (c.ts.drop x.2) d.ts).isEmpty 124 3 (prts (x.1 ++ ptsT g (c.ts.drop x.2) d.ts))), (20, iR c.tz c.ts c.te), (21, iI c.ts.length), (22, iI c.ts.length)]) :=
  blk_fun (F := F) (d := d51) (lk := []) (p := [1,1,0,1,0,0]) (p0 := [1,1,0,1]) (id := 0) (by kernel_rfl) (st := fun (x : List PtR × Nat) => [(0, iG z g e), (4, bC c), (5, bC d), (7, .own x.1.isEmpty 124 3 (prts x.1)), (20, iR c.tz c.ts c.te), (21, iI c.ts.length), (22, iI x.2)]) (I := fun x => x.2 ≤ c.ts.length ∧ x.1.length ≤ 1000 + x.2) (μ := fun x => c.ts.length - x.2)
    (res := fun x => .norm [(0, iG z g e), (4, bC c), (5, bC d), (7, .own (x.1 ++ ptsT g (c.ts.drop x.2) d.ts).isEmpty 124 3 (prts (x.1 ++ ptsT g (c.ts.drop x.2) d.ts))), (20, iR c.tz c.ts c.te), (21, iI c.ts.length), (22, iI c.ts.length)])
    (fun x hx => by
      obtain ⟨ps, i⟩ := x
      obtain ⟨hx1, hx2⟩ := hx
      dsimp only at hx1 hx2
      by_cases hi : i < c.ts.length
      · obtain ⟨l, hl1⟩ := at_lt hi
        have hd : c.ts.drop i = l :: c.ts.drop (i + 1) := by
          rw [List.drop_eq_getElem_cons hi]
          rw [List.getElem?_eq_getElem hi] at hl1
          cases hl1; rfl
        have hin := l_parts2 hg z e c d ps.isEmpty (prts ps) c.ts.length i (hr l (List.mem_of_getElem? hl1)) hts hm ([], 0) ⟨Nat.zero_le _, Nat.le_refl _⟩
        simp only [List.drop_zero, List.nil_append] at hin
        have hi' : (i : Int) < c.ts.length := by omega
        have hw := wr1 hi (show c.ts.length ≤ 9223372036854775807 by omega)
        refine .go (ps ++ [⟨l, candRR g l d.ts 0⟩], i + 1) (wpQ_way (q51_l0a _ _ z (syms g) e c.lz (lits c.ls) c.le c.tz (rws c.ts) c.te c.cz (lits c.cs) c.ce d.lz (lits d.ls) d.le d.tz (rws d.ts) d.te d.cz (lits d.cs) d.ce ps.isEmpty (prts ps) c.tz (rws c.ts) c.te _ i _) ?_) ⟨by dsimp only; omega, by simp; omega⟩ (by dsimp only; omega) ?_
        · refine condW_t (decide_eq_true hi') ?_
          refine condW_t (decide_eq_true (by omega)) ?_
          refine ⟨_, _, _, rws_at hl1, ?_⟩
          rw [rws_len]
          refine ⟨_, _, _, _, _, _, _, _, _, _, _, _, _, _, _, _, _, _, _, _, _, _, _, _, _, _, _, _, _, _, _, _, _, _, _, _, _, _, _, _, hin, ?_⟩
          refine condW_t (by rw [prts_len]; exact decide_eq_true (by omega)) ?_
          refine condW_t (by rw [prts_len]; exact decide_eq_true (by omega)) ?_
          rw [hw, prts_app]
          simp [prts, PtR.d]
        · dsimp only; rw [hd]; simp [ptsT]
      · have e0 : i = c.ts.length := by omega
        subst e0
        refine .stop (.exit 0 [(0, iG z g e), (4, bC c), (5, bC d), (7, .own ps.isEmpty 124 3 (prts ps)), (20, iR c.tz c.ts c.te), (21, iI c.ts.length), (22, iI c.ts.length)]) (wpQ_way (q51_l0a _ _ z (syms g) e c.lz (lits c.ls) c.le c.tz (rws c.ts) c.te c.cz (lits c.cs) c.ce d.lz (lits d.ls) d.le d.tz (rws d.ts) d.te d.cz (lits d.cs) d.ce ps.isEmpty (prts ps) c.tz (rws c.ts) c.te _ _ _) (by simp)) rfl ?_
        simp [blkO, ptsT]) x hx
def ptsCR (g : List Sym) (c d : Cl) : List PtR := (ptsL g c.ls d.ls ++ ptsT g c.ts d.ts) ++ ptsL g c.cs d.cs
theorem rowM_of {r : Row} (h : RowOk r) (hl : r.l.length ≤ 1000) : RowM r := ⟨hl, h.nil, h.cod⟩
structure ClM (c : Cl) : Prop where
  l5 : c.ls.length ≤ 5
  t3 : c.ts.length ≤ 3
  c3 : c.cs.length ≤ 3
  ls : ∀ l ∈ c.ls, RowM l.r
  ts : ∀ r ∈ c.ts, RowM r
  cs : ∀ l ∈ c.cs, RowM l.r
theorem clM_of {g : List Sym} {c : Cl} (h : clB g c = true) (hn : NilC c) : ClM c := by
  have hr := clRow_of h hn
  have hk := clOk.1 ((clB_c g c).symm.trans h)
  have e1 : c.ls.length ≤ 5 := by have := hk.l5; simpa [Cl.c] using this
  have e2 : c.ts.length ≤ 3 := by have := hk.t3; simpa [Cl.c] using this
  have e3 : c.cs.length ≤ 3 := by have := hk.c3; simpa [Cl.c] using this
  refine ⟨e1, e2, e3, fun l hl => rowM_of (hr.ls l hl) ?_, fun r hr' => rowM_of (hr.ts r hr') ?_, fun l hl => rowM_of (hr.cs l hl) ?_⟩
  · have := (atom_codes (hk.la l.c (by simp [Cl.c]; exact ⟨l, hl, rfl⟩))).1
    have e : l.c.2 = l.r.l := rfl
    rw [e] at this; omega
  · obtain ⟨k, hk⟩ := hk.tr
    have := (rowB_parts (hk r.l (by simp [Cl.c]; exact ⟨r, hr', rfl⟩)).1).2.1
    omega
  · have := (atom_codes (hk.ca l.c (by simp [Cl.c]; exact ⟨l, hl, rfl⟩))).1
    have e : l.c.2 = l.r.l := rfl
    rw [e] at this; omega
theorem w_parts' {g : List Sym} (hg : SigOk g) (z : Bool) (e : List D) {c d : Cl} (hc : ClM c) (hd : ClM d) : C 51 [iG z g e, iC c, iC d] = some (.own (ptsCR g c d).isEmpty 124 3 (prts (ptsCR g c d)), [iG z g e, iC c, iC d]) := by
  refine wfn (lk := []) rfl rfl (fnW_way (q51 _ _ z (syms g) e c.lz (lits c.ls) c.le c.tz (rws c.ts) c.te c.cz (lits c.cs) c.ce d.lz (lits d.ls) d.le d.tz (rws d.ts) d.te d.cz (lits d.cs) d.ce _) ?_)
  have l1 := hc.l5; have l2 := hc.t3; have l3 := hc.c3; have m1 := hd.l5; have m2 := hd.t3; have m3 := hd.c3
  have h1 := w_lits0 hg z c.lz d.lz e c.le d.le (ls := c.ls) (ms := d.ls) (by omega) hc.ls (by omega) hd.ls
  have h2 := l_parts0 hg z e c d (by omega) hc.ts (by omega) hd.ts (ptsL g c.ls d.ls, 0) ⟨Nat.zero_le _, by simp [ptsL]; omega⟩
  have h3 := w_lits hg z c.cz d.cz e c.ce d.ce (ls := c.cs) (ms := d.cs) (by omega) hc.cs (by omega) hd.cs (ps := ptsL g c.ls d.ls ++ ptsT g c.ts d.ts) (by simp [ptsL, ptsT]; omega)
  simp only [List.drop_zero] at h2
  refine .inr ⟨_, _, _, _, _, _, h1, ?_⟩
  rw [rws_len]
  refine ⟨_, _, _, _, _, _, _, _, _, _, _, _, _, _, _, _, _, _, _, _, _, _, _, _, _, _, _, _, h2, ?_⟩
  exact .inl ⟨_, _, _, _, _, h3, rfl⟩
/-! ### To say as much -/
theorem candLR_pt (g : List Sym) (l : LitR) : ∀ (ms : List LitR) (n : Nat), (candLR g l ms n).map (fun x => (x.1, x.2.l)) = (cands l.neg (ms.map LitR.c) n).filter fun x => okB g (fun _ => none) l.r.l x.2
  | [], n => rfl
  | m :: ms, n => by
    have ih := candLR_pt g l ms (n + 1)
    rw [candLR, List.map_cons, cands]
    show _ = List.filter _ (if l.neg = m.neg then (n, m.r.l) :: cands l.neg (ms.map LitR.c) (n + 1) else cands l.neg (ms.map LitR.c) (n + 1))
    by_cases h1 : l.neg = m.neg
    · rw [if_pos h1, List.filter_cons]
      by_cases h2 : okN g l.r.l m.r.l = true
      · rw [if_pos ⟨h1, h2⟩, if_pos h2, List.map_cons, ih]
      · rw [if_neg (fun h => h2 h.2), if_neg h2, ih]
    · rw [if_neg h1, if_neg (fun h => h1 h.1), ih]
theorem candRR_pt (g : List Sym) (r : Row) : ∀ (us : List Row) (n : Nat), (candRR g r us n).map (fun x => (x.1, x.2.l)) = (candR (us.map fun u => u.l) n).filter fun x => okB g (fun _ => none) r.l x.2
  | [], n => rfl
  | u :: us, n => by
    have ih := candRR_pt g r us (n + 1)
    rw [candRR, List.map_cons, candR, List.filter_cons]
    by_cases h2 : okN g r.l u.l = true
    · rw [if_pos h2, if_pos h2, List.map_cons, ih]
    · rw [if_neg h2, if_neg h2, ih]
theorem pts_pt (g : List Sym) (c d : Cl) : (ptsCR g c d).map PtR.pt = (ptsC c.c d.c).map (onlyOk g) := by
  unfold ptsCR ptsC ptsL ptsT Cl.c
  simp only [List.map_append, List.map_map]
  congr 1
  · congr 1
    · refine List.map_congr_left fun l hl => ?_
      show PtR.pt ⟨l.r, candLR g l d.ls 0⟩ = onlyOk g ⟨l.r.l, cands l.neg (d.ls.map LitR.c) 0⟩
      unfold PtR.pt onlyOk
      rw [candLR_pt]
    · refine List.map_congr_left fun r hr => ?_
      show PtR.pt ⟨r, candRR g r d.ts 0⟩ = onlyOk g ⟨r.l, candR (d.ts.map fun u => u.l) 0⟩
      unfold PtR.pt onlyOk
      rw [candRR_pt]
  · refine List.map_congr_left fun l hl => ?_
    show PtR.pt ⟨l.r, candLR g l d.cs 0⟩ = onlyOk g ⟨l.r.l, cands l.neg (d.cs.map LitR.c) 0⟩
    unfold PtR.pt onlyOk
    rw [candLR_pt]
theorem candLR_mem {g : List Sym} {l : LitR} : ∀ {ms : List LitR} {n : Nat} {x : Nat × Row}, x ∈ candLR g l ms n → ∃ m ∈ ms, x.2 = m.r
  | [], n, x, h => by simp [candLR] at h
  | m :: ms, n, x, h => by
    rw [candLR] at h
    split at h
    · rcases List.mem_cons.1 h with rfl | h
      · exact ⟨m, by simp, rfl⟩
      · obtain ⟨k, hk, e⟩ := candLR_mem h; exact ⟨k, by simp [hk], e⟩
    · obtain ⟨k, hk, e⟩ := candLR_mem h; exact ⟨k, by simp [hk], e⟩
theorem candRR_mem {g : List Sym} {r : Row} : ∀ {us : List Row} {n : Nat} {x : Nat × Row}, x ∈ candRR g r us n → x.2 ∈ us
  | [], n, x, h => by simp [candRR] at h
  | m :: ms, n, x, h => by
    rw [candRR] at h
    split at h
    · rcases List.mem_cons.1 h with rfl | h
      · simp
      · exact List.mem_cons_of_mem _ (candRR_mem h)
    · exact List.mem_cons_of_mem _ (candRR_mem h)
theorem pts_ok {g : List Sym} {c d : Cl} (hc : ClM c) (hd : ClM d) : ∀ p ∈ ptsCR g c d, PtOk p := by
  have m1 := hd.l5; have m2 := hd.t3; have m3 := hd.c3
  intro p hp
  simp only [ptsCR, ptsL, ptsT, List.mem_append, List.mem_map] at hp
  rcases hp with (⟨l, hl, rfl⟩ | ⟨r, hr, rfl⟩) | ⟨l, hl, rfl⟩
  · exact ⟨hc.ls l hl, fun x hx => by obtain ⟨m, hm, e⟩ := candLR_mem hx; rw [e]; exact hd.ls m hm, Nat.le_trans (candLR_len g l d.ls 0) (by omega)⟩
  · exact ⟨hc.ts r hr, fun x hx => hd.ts _ (candRR_mem hx), Nat.le_trans (candRR_len g r d.ts 0) (by omega)⟩
  · exact ⟨hc.cs l hl, fun x hx => by obtain ⟨m, hm, e⟩ := candLR_mem hx; rw [e]; exact hd.cs m hm, Nat.le_trans (candLR_len g l d.cs 0) (by omega)⟩
/-- The least row of places. -/
def plM (g : List Sym) (c d : Cl) : Option (List Nat) := findF g (ptsC c.c d.c) (fun _ => none)
theorem ptM_near {g : List Sym} {c : Cl} (hb : clB g c = true) : nearP (ptM g c).1 (ptM g c).2 = true ∧ 0 ≤ (ptM g c).1 ∧ 0 ≤ (ptM g c).2 := by
  have hk := clOk.1 ((clB_c g c).symm.trans hb)
  have hl : litsB g c.ls = true := by
    rw [litsB, List.all_eq_true]
    exact fun l hl => hk.la l.c (by simp [Cl.c]; exact ⟨l, hl, rfl⟩)
  have h := ptF_le (sigOk hk.sg) c.ls 0 0 hl (Int.le_refl _) (by omega) (Int.le_refl _) (by omega)
  unfold ptM
  refine ⟨?_, h.1, h.2.2.1⟩
  have h1 := h.1; have h2 := h.2.1; have h3 := h.2.2.1; have h4 := h.2.2.2
  generalize (ptF g c.ls 0 0).1 = a at *
  generalize (ptF g c.ls 0 0).2 = b at *
  rw [nearP, Bool.and_eq_true, near_iff, near_iff]
  omega
theorem w_under' (z : Bool) {g : List Sym} (e : List D) {c d : Cl} (hc : clB g c = true) (hd : clB g d = true) : C 50 [iG z g e, iC c, iC d] = some (iB (decide ((ptM g c).1 ≤ (ptM g d).1) && decide ((ptM g c).2 ≤ (ptM g d).2)), [iG z g e, iC c, iC d]) := by
  refine wfn (lk := []) rfl rfl (fnW_way (q50 _ _ z (syms g) e c.lz (lits c.ls) c.le c.tz (rws c.ts) c.te c.cz (lits c.cs) c.ce d.lz (lits d.ls) d.le d.tz (rws d.ts) d.te d.cz (lits d.cs) d.ce _) ?_)
  have h1 := w_pof z g e c
  have h2 := w_pof z g e d
  rw [hc] at h1; rw [hd] at h2
  simp only [if_true] at h1 h2
  have h3 := w_under (ptM_near hc).1 (ptM_near hd).1
  refine ⟨_, _, _, _, _, h1, _, _, _, _, _, h2, _, _, _, _, h3, ?_⟩
  cases (decide ((ptM g c).1 ≤ (ptM g d).1) && decide ((ptM g c).2 ≤ (ptM g d).2)) <;> rfl
theorem under_of {g : List Sym} {c d : Cl} (hg : SigOk g) (h : (plM g c d).isSome = true) : (ptM g c).1 ≤ (ptM g d).1 ∧ (ptM g c).2 ≤ (ptM g d).2 := by
  obtain ⟨r, hr⟩ := Option.isSome_iff_exists.1 h
  have hs := says_find.1 ⟨r, hr⟩
  unfold ptM
  rw [ptF_top, ptF_top]
  exact ⟨says_under hg hs false, says_under hg hs true⟩
theorem none0 : bsD (fun _ => none) = List.replicate 24 (.sl 1 true [] []) := bsD_none
theorem w_says {g : List Sym} (z : Bool) (e : List D) {c d : Cl} (hc : clB g c = true) (hd : clB g d = true) (hn : NilC c) (hm : NilC d) : C 28 [iG z g e, iC c, iC d] = some (fRes (plM g c d), [iG z g e, iC c, iC d]) := by
  refine wfn (lk := []) rfl rfl (fnW_way (q28 _ _ z (syms g) e c.lz (lits c.ls) c.le c.tz (rws c.ts) c.te c.cz (lits c.cs) c.ce d.lz (lits d.ls) d.le d.tz (rws d.ts) d.te d.cz (lits d.cs) d.ce _) ?_)
  have hg : SigOk g := sigOk (clOk.1 ((clB_c g c).symm.trans hc)).sg
  have h1 := w_under' z e hc hd
  have hcm := clM_of hc hn
  have hdm := clM_of hd hm
  refine ⟨_, _, _, _, h1, ?_⟩
  cases hu : (decide ((ptM g c).1 ≤ (ptM g d).1) && decide ((ptM g c).2 ≤ (ptM g d).2))
  · have : plM g c d = none := by
      cases hp : plM g c d with
      | none => rfl
      | some r =>
        have := under_of hg (c := c) (d := d) (by rw [hp]; rfl)
        simp [this.1, this.2] at hu
    rw [this]; rfl
  have h2 := w_parts' hg z e hcm hdm
  refine condW_t rfl ⟨_, _, _, _, _, h2, ?_⟩
  have l1 := hcm.l5; have l2 := hcm.t3; have l3 := hcm.c3
  have hpl : (ptsCR g c d).length ≤ 1000 := by simp [ptsCR, ptsL, ptsT]; omega
  have hb0 : BsOk (fun _ => none) := fun v t h => by cases h
  have h3 := w_open hg z (ptsCR g c d).isEmpty e [] hpl (pts_ok hcm hdm) hb0
  have h4 := w_find' hg z e (ptsCR g c d) (ptsCR g c d).isEmpty [] (fun _ => none) hpl (pts_ok hcm hdm) hb0
  rw [none0] at h3 h4
  have hp : findF g ((ptsCR g c d).map PtR.pt) (fun _ => none) = plM g c d := by rw [pts_pt, find_filter]; rfl
  rw [hp] at h4
  refine ⟨_, _, _, _, h3, ?_⟩
  cases ho : openF g (fun _ => none) ((ptsCR g c d).map PtR.pt)
  · have : plM g c d = none := by rw [← hp]; exact open_none ho
    rw [this]; rfl
  refine condW_t rfl ?_
  cases hpm : plM g c d with
  | none =>
    rw [hpm] at h4
    exact ⟨_, _, _, _, _, _, h4, rfl⟩
  | some r =>
    rw [hpm] at h4
    exact ⟨_, _, _, _, _, _, h4, rfl⟩
theorem w_places {g : List Sym} (z : Bool) (e : List D) {c d : Cl} (hn : NilC c) (hm : NilC d) : ∃ v, C 10 [iG z g e, iC c, iC d] = some (v, [iG z g e, iC c, iC d]) ∧ ((clB g c && clB g d) = true → v = match plM g c d with | some r => .tup [.own r.isEmpty 3 1 (ints (rI r)), iB true, iI 0] | none => .tup [.own true 3 1 [], iB false, iI 0]) ∧ ((clB g c && clB g d) = false → v = .tup [.own true 3 1 [], iB false, iI 1000]) := by
  cases hc : clB g c
  · refine ⟨_, wfn (lk := []) rfl rfl (fnW_way (q10 _ _ z (syms g) e c.lz (lits c.ls) c.le c.tz (rws c.ts) c.te c.cz (lits c.cs) c.ce d.lz (lits d.ls) d.le d.tz (rws d.ts) d.te d.cz (lits d.cs) d.ce _) ⟨_, _, _, w_clmay z g e c, by rw [hc]; rfl⟩), by simp, fun _ => rfl⟩
  cases hd : clB g d
  · refine ⟨_, wfn (lk := []) rfl rfl (fnW_way (q10 _ _ z (syms g) e c.lz (lits c.ls) c.le c.tz (rws c.ts) c.te c.cz (lits c.cs) c.ce d.lz (lits d.ls) d.le d.tz (rws d.ts) d.te d.cz (lits d.cs) d.ce _) ⟨_, _, _, w_clmay z g e c, by rw [hc]; exact ⟨_, _, _, w_clmay z g e d, by rw [hd]; rfl⟩⟩), by simp, fun _ => rfl⟩
  have h := w_says z e hc hd hn hm
  cases hp : plM g c d with
  | none =>
    rw [hp] at h
    exact ⟨_, wfn (lk := []) rfl rfl (fnW_way (q10 _ _ z (syms g) e c.lz (lits c.ls) c.le c.tz (rws c.ts) c.te c.cz (lits c.cs) c.ce d.lz (lits d.ls) d.le d.tz (rws d.ts) d.te d.cz (lits d.cs) d.ce _) ⟨_, _, _, w_clmay z g e c, by rw [hc]; exact ⟨_, _, _, w_clmay z g e d, by rw [hd]; exact ⟨_, _, _, _, _, _, h, rfl⟩⟩⟩), fun _ => rfl, by simp⟩
  | some r =>
    rw [hp] at h
    exact ⟨_, wfn (lk := []) rfl rfl (fnW_way (q10 _ _ z (syms g) e c.lz (lits c.ls) c.le c.tz (rws c.ts) c.te c.cz (lits c.cs) c.ce d.lz (lits d.ls) d.le d.tz (rws d.ts) d.te d.cz (lits d.cs) d.ce _) ⟨_, _, _, w_clmay z g e c, by rw [hc]; exact ⟨_, _, _, w_clmay z g e d, by rw [hd]; exact ⟨_, _, _, _, _, _, h, rfl⟩⟩⟩), fun _ => rfl, by simp⟩
def mayB (g : List Sym) (c d : Cl) : Bool := clB g c && clB g d
theorem w_does {g : List Sym} (z : Bool) (e : List D) {c d : Cl} (hn : NilC c) (hm : NilC d) : C 12 [iG z g e, iC c, iC d] = some (.tup [iB (mayB g c d && (plM g c d).isSome), iI (if mayB g c d = true then 0 else 1000)], [iG z g e, iC c, iC d]) := by
  refine wfn (lk := []) rfl rfl (fnW_way (q12 _ _ z (syms g) e c.lz (lits c.ls) c.le c.tz (rws c.ts) c.te c.cz (lits c.cs) c.ce d.lz (lits d.ls) d.le d.tz (rws d.ts) d.te d.cz (lits d.cs) d.ce _) ?_)
  obtain ⟨v, h, h1, h2⟩ := w_places z e hn hm (g := g)
  unfold mayB
  cases hb : (clB g c && clB g d)
  · rw [h2 hb] at h
    exact ⟨_, _, _, _, _, _, _, h, rfl⟩
  · cases hp : plM g c d with
    | none =>
      rw [h1 hb, hp] at h
      exact ⟨_, _, _, _, _, _, _, h, rfl⟩
    | some r =>
      rw [h1 hb, hp] at h
      exact ⟨_, _, _, _, _, _, _, h, rfl⟩
theorem does_iff {g : List Sym} {c d : Cl} : (plM g c d).isSome = true ↔ Says g c.c d.c := by
  rw [← says_find, Option.isSome_iff_exists]; rfl
end Go.Proofs.YtekdlnofmbfdgaaDoor.Ab

/- Binds: what they make of rows; two lists of binds as one. Plain lists, no program in sight; no condition. -/
set_option linter.unusedVariables false
set_option linter.unusedSimpArgs false
namespace Go.Qu
open Go Go.Ab
structure Bd where
  v : Int
  r : Row
def Bd.d (b : Bd) : D := .agg [.int .i64 b.v, .sl 1 b.r.z (ints b.r.l) b.r.e]
def bds (l : List Bd) : List D := l.map Bd.d
abbrev iBd (z : Bool) (l : List Bd) (e : List D) : IV := .d (.sl 2 z (bds l) e)
theorem bds_len (l : List Bd) : (bds l).length = l.length := by simp [bds]
theorem bds_nil : bds [] = [] := rfl
theorem bds_cons (x : Bd) (l : List Bd) : bds (x :: l) = .agg [.int .i64 x.v, .sl 1 x.r.z (ints x.r.l) x.r.e] :: bds l := rfl
theorem bds_append (l m : List Bd) : bds (l ++ m) = bds l ++ bds m := by simp [bds]
theorem bds_at {l : List Bd} {i : Nat} {s : Bd} (h : l[i]? = some s) : (bds l)[i]? = some (.agg [.int .i64 s.v, .sl 1 s.r.z (ints s.r.l) s.r.e]) := by simp [bds, h, Bd.d]
/-- Rows of which only those without codes are nil. -/
def NilOk (s : List Bd) : Prop := ∀ b ∈ s, b.r.z = true → b.r.l = []
/-! ### What may be -/
def oneB (g : List Sym) (t : List Int) : Bool := rowB g t && decide (termsN g t = 1)
def aloneB (t : List Int) (v : Int) : Bool := decide (t = [-1 - v])
def bindAt (g : List Sym) (s : List Bd) (i : Nat) : Bool := match s[i]? with
  | none => true
  | some b => decide (0 ≤ b.v) && (decide (b.v ≤ 23) && ((match s[i - 1]? with | some a => decide (i = 0) || decide (a.v < b.v) | none => true) && (oneB g b.r.l && !(aloneB b.r.l b.v))))
def bindB (g : List Sym) (s : List Bd) : Bool := sigB g && (List.range s.length).all (bindAt g s)
theorem bindB_at {g : List Sym} {s : List Bd} (h : bindB g s = true) {i : Nat} {b : Bd} (hb : s[i]? = some b) : (0 ≤ b.v ∧ b.v ≤ 23) ∧ (∀ a, 0 < i → s[i - 1]? = some a → a.v < b.v) ∧ oneB g b.r.l = true ∧ ¬ b.r.l = [-1 - b.v] := by
  simp only [bindB, Bool.and_eq_true, List.all_eq_true, List.mem_range] at h
  have h1 := h.2 i (lt_at hb)
  unfold bindAt at h1
  rw [hb] at h1
  simp only [Bool.and_eq_true, decide_eq_true_eq] at h1
  refine ⟨⟨h1.1, h1.2.1⟩, fun a hi ha => ?_, h1.2.2.2.1, ?_⟩
  · have h2 := h1.2.2.1
    rw [ha] at h2
    simp at h2
    omega
  · have h2 := h1.2.2.2.2
    simp [aloneB] at h2
    exact h2
theorem one_lenN {g : List Sym} {t : List Int} (h : oneB g t = true) : sigB g = true ∧ t.length ≤ 48 ∧ lenN g t 1 = some t.length := by
  simp only [oneB, Bool.and_eq_true, decide_eq_true_eq] at h
  obtain ⟨hg, hr, ts, hts, _⟩ := rowB_parts h.1
  have h2 := termsN_of hg hr hts
  have h3 := parts_all _ (Nat.le_refl _) hts
  rw [← h2, h.2] at h3
  exact ⟨hg, hr, h3⟩
theorem one_of {g : List Sym} {t : List Int} (hg : sigB g = true) (hr : t.length ≤ 48) (h : lenN g t 1 = some t.length) : oneB g t = true := by
  have h1 := parts_one h
  rw [List.take_length] at h1
  simp [oneB, rowB_of hg hr h1, termsN_of hg hr h1]
/-! ### What stands for a variable -/
def findB : List Bd → Int → Row
  | [], _ => ⟨true, [], []⟩
  | b :: s, v => if b.v = v then b.r else findB s v
theorem findB_some {s : List Bd} {v : Int} {j : Nat} {b : Bd} (hb : s[j]? = some b) (hv : b.v = v) (hk : ∀ k, k < j → ∀ c, s[k]? = some c → c.v ≠ v) : findB s v = b.r := by
  induction s generalizing j with
  | nil => simp at hb
  | cons a s ih =>
    cases j with
    | zero => simp at hb; subst hb; simp [findB, hv]
    | succ j =>
      have h0 := hk 0 (by omega) a (by simp)
      rw [findB, if_neg h0]
      exact ih (j := j) (by simpa using hb) (fun k hk2 c hc => hk (k + 1) (by omega) c (by simpa using hc))
theorem findB_none {s : List Bd} {v : Int} (hk : ∀ k, k < s.length → ∀ c, s[k]? = some c → c.v ≠ v) : findB s v = ⟨true, [], []⟩ := by
  induction s with
  | nil => rfl
  | cons a s ih =>
    have h0 := hk 0 (by simp) a (by simp)
    rw [findB, if_neg h0]
    exact ih (fun k hk2 c hc => hk (k + 1) (by simp; omega) c (by simpa using hc))
/-- A variable has a bind, a term of its own, or none. -/
theorem find_cases (s : List Bd) (v : Int) : findB s v = ⟨true, [], []⟩ ∨ ∃ b ∈ s, b.v = v ∧ findB s v = b.r := by
  induction s with
  | nil => exact Or.inl rfl
  | cons a s ih =>
    rw [findB]
    split
    · rename_i h; exact Or.inr ⟨a, by simp, h, rfl⟩
    · rcases ih with h | ⟨b, h1, h2, h3⟩
      · exact Or.inl h
      · exact Or.inr ⟨b, by simp [h1], h2, h3⟩
def onC (s : List Bd) (c : Int) : List Int := if 0 ≤ c then [c] else if (findB s (-1 - c)).z = true then [c] else (findB s (-1 - c)).l
def onB (s : List Bd) : List Int → List Int
  | [] => []
  | c :: r => onC s c ++ onB s r
theorem onB_app (s : List Bd) : ∀ (a b : List Int), onB s (a ++ b) = onB s a ++ onB s b
  | [], b => rfl
  | c :: a, b => by rw [List.cons_append, onB, onB, onB_app s a b, List.append_assoc]
theorem onB_one (s : List Bd) (c : Int) : onB s [c] = onC s c := by simp [onB]
/-- Of binds that may be: a term, or nothing. -/
theorem find_ok {g : List Sym} {s : List Bd} (hs : bindB g s = true) (hn : NilOk s) (v : Int) : ((findB s v).z = true ∧ (findB s v).l = []) ∨ ((findB s v).z = false ∧ oneB g (findB s v).l = true ∧ ¬ (findB s v).l = [-1 - v] ∧ 0 ≤ v ∧ v ≤ 23) := by
  rcases find_cases s v with h | ⟨b, h1, h2, h3⟩
  · rw [h]; exact Or.inl ⟨rfl, rfl⟩
  · obtain ⟨i, hi⟩ := List.getElem?_of_mem h1
    obtain ⟨h4, _, h5, h6⟩ := bindB_at hs hi
    have h7 := one_lenN h5
    have h8 : b.r.z = false := by
      cases hz : b.r.z with
      | false => rfl
      | true =>
        have := hn b h1 hz
        rw [this] at h7; simp [lenN] at h7
    rw [h3, ← h2]
    exact Or.inr ⟨h8, h5, h6, h4⟩
theorem onC_len {g : List Sym} {s : List Bd} (hs : bindB g s = true) (hn : NilOk s) (c : Int) : 1 ≤ (onC s c).length ∧ (onC s c).length ≤ 48 := by
  unfold onC
  split
  · simp
  · rcases find_ok hs hn (-1 - c) with ⟨h1, _⟩ | ⟨h1, h2, _⟩
    · rw [if_pos h1]; simp
    · rw [if_neg (by simp [h1])]
      have h3 := one_lenN h2
      have := lenN_le h3.2.2
      omega
theorem onB_len {g : List Sym} {s : List Bd} (hs : bindB g s = true) (hn : NilOk s) : ∀ (r : List Int), r.length ≤ (onB s r).length ∧ (onB s r).length ≤ 48 * r.length
  | [] => by simp [onB]
  | c :: r => by
    have h1 := onC_len hs hn c
    have h2 := onB_len hs hn r
    simp only [onB, List.length_append, List.length_cons]; omega
/-- Terms whose variables are replaced are terms. -/
theorem on_lenN {g : List Sym} {s : List Bd} (hs : bindB g s = true) (hn : NilOk s) : ∀ {r : List Int} {n k : Nat}, lenN g r n = some k → lenN g (onB s (r.take k)) n = some (onB s (r.take k)).length
  | r, 0, k, h => by
    have e : k = 0 := by cases r <;> simp [lenN] at h <;> omega
    subst e
    simp [onB, lenN]
  | [], n + 1, k, h => by simp [lenN] at h
  | c :: r, n + 1, k, h => by
    obtain ⟨a, m, ha, hm, rfl⟩ := lenN_some h
    have ih := on_lenN hs hn hm
    rw [List.take_succ_cons, onB]
    by_cases h0 : 0 ≤ c
    · rw [onC, if_pos h0, List.singleton_append, lenN_cons ha, ih]; rfl
    · have ha0 : a = 0 := by
        unfold arOf at ha; rw [if_pos (by omega)] at ha; split at ha <;> simp at ha; exact ha.symm
      subst ha0
      rw [Nat.add_zero] at ih
      rw [onC, if_neg h0]
      rcases find_ok hs hn (-1 - c) with ⟨h1, _⟩ | ⟨h1, h2, _⟩
      · rw [if_pos h1, List.singleton_append, lenN_cons ha, Nat.add_zero, ih]; rfl
      · rw [if_neg (by simp [h1])]
        have h3 := (one_lenN h2).2.2
        have h4 := lenN_split (g := g) n (lenN_app (onB s (r.take m)) h3)
        rw [List.drop_left, ih] at h4
        rw [Nat.add_comm n 1, h4]
        simp
theorem on_row {g : List Sym} {s : List Bd} (hs : bindB g s = true) (hn : NilOk s) {r : List Int} (hr : rowB g r = true) (hl : (onB s r).length ≤ 48) : rowB g (onB s r) = true ∧ termsN g (onB s r) = termsN g r := by
  obtain ⟨hg, h1, ts, hts, _⟩ := rowB_parts hr
  have h2 := parts_all _ (Nat.le_refl _) hts
  have h3 := on_lenN hs hn h2
  rw [List.take_length] at h3
  obtain ⟨us, h4, h5⟩ := parts_lenN h3
  rw [List.take_length] at h4
  exact ⟨rowB_of hg hl h4, by rw [termsN_of hg hl h4, termsN_of hg h1 hts, h5]⟩
/-! ### One after the other -/
/-- What stands for a variable after both. -/
def thenT (s u : List Bd) (v : Int) : List Int := if (findB s v).z = true then (findB u v).l else onB u (findB s v).l
def thenF (s u : List Bd) : Nat → Nat → Option (List Bd)
  | 0, _ => some []
  | k + 1, v => if (thenT s u v).length > 48 then none else (thenF s u k (v + 1)).map fun l => if thenT s u v = [] ∨ thenT s u v = [-1 - (v : Int)] then l else ⟨v, ⟨false, thenT s u v, []⟩⟩ :: l
def thenM (s u : List Bd) : Option (List Bd) := thenF s u 24 0
theorem then_spec {s u : List Bd} : ∀ {k v : Nat} {t : List Bd}, thenF s u k v = some t → (∀ b ∈ t, ∃ n : Nat, b.v = (n : Int) ∧ v ≤ n ∧ n < v + k ∧ b.r = ⟨false, thenT s u n, []⟩ ∧ thenT s u n ≠ [] ∧ thenT s u n ≠ [-1 - (n : Int)] ∧ (thenT s u n).length ≤ 48) ∧ (∀ n : Nat, v ≤ n → n < v + k → findB t n = if thenT s u n = [] ∨ thenT s u n = [-1 - (n : Int)] then ⟨true, [], []⟩ else ⟨false, thenT s u n, []⟩) ∧ (∀ i a b, s.length = s.length → t[i]? = some a → t[i + 1]? = some b → a.v < b.v)
  | 0, v, t, h => by
    simp [thenF] at h
    subst h
    exact ⟨by simp, fun n h1 h2 => by omega, by simp⟩
  | k + 1, v, t, h => by
    rw [thenF] at h
    split at h
    · cases h
    · rename_i hl
      obtain ⟨l, h1, rfl⟩ := Option.map_eq_some_iff.1 h
      obtain ⟨i1, i2, i3⟩ := then_spec h1
      split
      · rename_i hc
        refine ⟨fun b hb => ?_, fun n h1 h2 => ?_, i3⟩
        · obtain ⟨n, a1, a2, a3, a4⟩ := i1 b hb
          exact ⟨n, a1, by omega, by omega, a4⟩
        · by_cases hn : n = v
          · subst hn
            rw [if_pos hc]
            have : ∀ k, k < l.length → ∀ c, l[k]? = some c → c.v ≠ (n : Int) := fun k hk c hc' => by
              obtain ⟨m, a1, a2, _⟩ := i1 c (List.mem_of_getElem? hc')
              omega
            exact findB_none this
          · exact i2 n (by omega) (by omega)
      · rename_i hc
        refine ⟨fun b hb => ?_, fun n h1 h2 => ?_, fun i a b h0 ha hb => ?_⟩
        · rcases List.mem_cons.1 hb with rfl | hb
          · exact ⟨v, rfl, Nat.le_refl _, by omega, rfl, fun e => hc (Or.inl e), fun e => hc (Or.inr e), by omega⟩
          · obtain ⟨n, a1, a2, a3, a4⟩ := i1 b hb
            exact ⟨n, a1, by omega, by omega, a4⟩
        · by_cases hn : n = v
          · subst hn
            rw [if_neg hc, findB, if_pos rfl]
          · rw [findB, if_neg (by dsimp only; omega)]
            exact i2 n (by omega) (by omega)
        · cases i with
          | zero =>
            simp at ha hb
            subst ha
            obtain ⟨n, a1, a2, _⟩ := i1 b (List.mem_of_getElem? hb)
            dsimp only; omega
          | succ i => exact i3 i a b h0 (by simpa using ha) (by simpa using hb)
theorem thenT_one {g : List Sym} {s u : List Bd} (hs : bindB g s = true) (hn : NilOk s) (hu : bindB g u = true) (hm : NilOk u) (v : Int) (hl : (thenT s u v).length ≤ 48) (h0 : thenT s u v ≠ []) : oneB g (thenT s u v) = true := by
  unfold thenT at hl h0 ⊢
  rcases find_ok hs hn v with ⟨h1, _⟩ | ⟨h1, h2, _⟩
  · rw [if_pos h1] at hl h0 ⊢
    rcases find_ok hu hm v with ⟨_, h3⟩ | ⟨_, h3, _⟩
    · exact absurd h3 h0
    · exact h3
  · rw [if_neg (by simp [h1])] at hl h0 ⊢
    obtain ⟨hg, _, h3⟩ := one_lenN h2
    have h4 := on_lenN hu hm h3
    rw [List.take_length] at h4
    exact one_of hg hl h4
theorem then_may {g : List Sym} {s u t : List Bd} (hs : bindB g s = true) (hn : NilOk s) (hu : bindB g u = true) (hm : NilOk u) (ht : thenM s u = some t) : bindB g t = true ∧ NilOk t := by
  obtain ⟨h1, h2, h3⟩ := then_spec ht
  have hg : sigB g = true := by simp only [bindB, Bool.and_eq_true] at hs; exact hs.1
  refine ⟨?_, fun b hb hz => ?_⟩
  · simp only [bindB, hg, Bool.true_and, List.all_eq_true, List.mem_range]
    intro i hi
    obtain ⟨b, hb⟩ := at_lt hi
    obtain ⟨n, a1, a2, a3, a4, a5, a6, a7⟩ := h1 b (List.mem_of_getElem? hb)
    have h6 := thenT_one hs hn hu hm (n : Int) a7 a5
    unfold bindAt
    rw [hb]
    simp only [Bool.and_eq_true, decide_eq_true_eq]
    refine ⟨by omega, by omega, ?_, by rw [a4]; exact h6, ?_⟩
    · split
      · rename_i a ha
        cases i with
        | zero => simp
        | succ i =>
          have := h3 i a b rfl (by simpa using ha) hb
          simp [this]
      · rfl
    · rw [a4, a1]; simp [aloneB, a6]
  · obtain ⟨n, _, _, _, a4, _⟩ := h1 b hb
    rw [a4] at hz; cases hz
/-- Both at once do as one after the other. -/
theorem then_on {g : List Sym} {s u t : List Bd} (hs : bindB g s = true) (hn : NilOk s) (hu : bindB g u = true) (hm : NilOk u) (ht : thenM s u = some t) : ∀ {r : List Int}, (∀ c ∈ r, -24 ≤ c) → onB t r = onB u (onB s r)
  | [], h => rfl
  | c :: r, h => by
    have ih := then_on hs hn hu hm ht (r := r) (fun x hx => h x (by simp [hx]))
    rw [onB, onB, onB_app, ih]
    congr 1
    have hc := h c (by simp)
    by_cases h0 : 0 ≤ c
    · rw [onC, if_pos h0, onC, if_pos h0, onB_one, onC, if_pos h0]
    · obtain ⟨n, hn2⟩ : ∃ n : Nat, (-1 - c) = (n : Int) := ⟨(-1 - c).toNat, by omega⟩
      have h2 := (then_spec ht).2.1 n (Nat.zero_le _) (by omega)
      have hcn : c = -1 - (n : Int) := by omega
      rw [onC, if_neg h0, hn2, h2, onC, if_neg h0, hn2]
      have hT : thenT s u n = if (findB s n).z = true then (findB u n).l else onB u (findB s n).l := rfl
      rcases find_ok hs hn n with ⟨a1, a2⟩ | ⟨a1, a2, a3⟩
      · rw [if_pos a1] at hT
        rw [if_pos a1, onB_one, onC, if_neg h0, hn2]
        rcases find_ok hu hm n with ⟨b1, b2⟩ | ⟨b1, b2, b3, _⟩
        · rw [if_pos (Or.inl (by rw [hT, b2])), if_pos rfl, if_pos b1]
        · have b4 : (findB u n).l ≠ [] := by
            intro e; have := (one_lenN b2).2.2; rw [e] at this; simp [lenN] at this
          have hne : ¬ (thenT s u n = [] ∨ thenT s u n = [-1 - (n : Int)]) := by rw [hT]; rintro (e | e); exact b4 e; exact b3 e
          rw [if_neg hne, if_neg (by simp), if_neg (by simp [b1]), hT]
      · have a0 : ¬ (findB s n).z = true := by simp [a1]
        rw [if_neg a0] at hT
        rw [if_neg a0, ← hT]
        have a4 : onB u (findB s n).l ≠ [] := by
          intro e
          have h5 := (onB_len hu hm (findB s n).l).1
          have h6 := (one_lenN a2).2.2
          have := lenN_le h6
          rw [e] at h5; simp at h5; rw [h5] at this; simp at this
        by_cases h7 : thenT s u n = [-1 - (n : Int)]
        · rw [if_pos (Or.inr h7), if_pos rfl, h7, hcn]
        · have hne : ¬ (thenT s u n = [] ∨ thenT s u n = [-1 - (n : Int)]) := by rintro (e | e); exact a4 (hT ▸ e); exact h7 e
          rw [if_neg hne, if_neg (by simp)]
end Go.Qu

/- The reference's search for places: binds as a list, all candidates. Plain lists; no condition. -/
set_option linter.unusedVariables false
set_option linter.unusedSimpArgs false
namespace Go.Qu
open Go Go.Ab
/-- What a list of binds says. -/
def bsB (u : List Bd) : Bs := fun v => (u.find? fun b => b.v == (v : Int)).map fun b => b.r.l
theorem bsB_nil : bsB [] = fun _ => none := rfl
theorem bsB_add {u : List Bd} {v : Nat} (h : bsB u v = none) (r : Row) : bsB (u ++ [⟨(v : Int), r⟩]) = (bsB u).upd v r.l := by
  funext w
  unfold bsB at h ⊢
  unfold Bs.upd
  rw [List.find?_append]
  by_cases hw : w = v
  · subst hw
    rw [if_pos rfl]
    rw [Option.map_eq_none_iff] at h
    rw [h]
    simp
  · rw [if_neg hw]
    have : ¬ ((v : Int) = (w : Int)) := by omega
    simp [this]
theorem bsB_some {s : List Bd} {v : Nat} {j : Nat} {b : Bd} (hb : s[j]? = some b) (hv : b.v = (v : Int)) (hk : ∀ k, k < j → ∀ c, s[k]? = some c → c.v ≠ (v : Int)) : bsB s v = some b.r.l := by
  unfold bsB
  induction s generalizing j with
  | nil => simp at hb
  | cons a s ih =>
    cases j with
    | zero => simp at hb; subst hb; simp [hv]
    | succ j =>
      have h0 := hk 0 (by omega) a (by simp)
      rw [List.find?_cons_of_neg (by simpa using h0)]
      exact ih (j := j) (by simpa using hb) (fun k hk2 c hc => hk (k + 1) (by omega) c (by simpa using hc))
theorem bsB_none {s : List Bd} {v : Nat} (hk : ∀ k, k < s.length → ∀ c, s[k]? = some c → c.v ≠ (v : Int)) : bsB s v = none := by
  unfold bsB
  rw [Option.map_eq_none_iff, List.find?_eq_none]
  intro b hb
  obtain ⟨i, hi⟩ := List.getElem?_of_mem hb
  have := hk i (lt_at hi) b hi
  simpa using this
/-- As growF, with the binds as a list, and what is left. -/
def furF (g : List Sym) (zb : Bool) : List Bd → List Int → List Int → Option (List Bd × List Int)
  | u, [], b => some (u, b)
  | u, c :: a, b => if b = [] then none else
    if 0 ≤ c then (if b.head? = some c then furF g zb u a b.tail else none)
    else match lenN g b 1 with
      | none => none
      | some k => match bsB u (vN c) with
        | none => furF g zb (u ++ [⟨(vN c : Int), ⟨zb, b.take k, []⟩⟩]) a (b.drop k)
        | some t => if t = b.take k then furF g zb u a (b.drop k) else none
theorem fur_grow {g : List Sym} {zb : Bool} : ∀ {a b : List Int} {u : List Bd}, growF g (bsB u) a b = (match furF g zb u a b with | some (w, r) => if r = [] then some (bsB w) else none | none => none)
  | [], b, u => by rw [growF, furF]
  | c :: a, b, u => by
    rw [growF, furF]
    by_cases hb : b = []
    · rw [if_pos hb, if_pos hb]
    rw [if_neg hb, if_neg hb]
    by_cases hc : 0 ≤ c
    · rw [if_pos hc, if_pos hc]
      by_cases hh : b.head? = some c
      · rw [if_pos hh, if_pos hh]; exact fur_grow
      · rw [if_neg hh, if_neg hh]
    rw [if_neg hc, if_neg hc]
    cases hl : lenN g b 1 with
    | none => rfl
    | some k =>
      dsimp only
      cases hs : bsB u (vN c) with
      | none =>
        dsimp only
        rw [← bsB_add hs ⟨zb, b.take k, []⟩]
        exact fur_grow
      | some t =>
        dsimp only
        by_cases ht : t = b.take k
        · rw [if_pos ht, if_pos ht]; exact fur_grow
        · rw [if_neg ht, if_neg ht]
theorem fur_len {g : List Sym} {zb : Bool} : ∀ {a b : List Int} {u w : List Bd} {r : List Int}, furF g zb u a b = some (w, r) → w.length ≤ u.length + a.length ∧ r.length ≤ b.length
  | [], b, u, w, r, h => by rw [furF] at h; cases h; simp
  | c :: a, b, u, w, r, h => by
    rw [furF] at h
    split at h
    · cases h
    split at h
    · split at h
      · have := fur_len h; simp at this ⊢; omega
      · cases h
    split at h
    · cases h
    split at h
    · have := fur_len h; simp at this ⊢; omega
    · split at h
      · have := fur_len h; simp at this ⊢; omega
      · cases h
theorem fur_bd {g : List Sym} {zb : Bool} : ∀ {a b : List Int} {u w : List Bd} {r : List Int}, b.length ≤ 1000 → (∀ d ∈ u, d.r.l.length ≤ 1000) → furF g zb u a b = some (w, r) → ∀ d ∈ w, d.r.l.length ≤ 1000
  | [], b, u, w, r, hb, hu, h => by rw [furF] at h; cases h; exact hu
  | c :: a, b, u, w, r, hb, hu, h => by
    rw [furF] at h
    split at h
    · cases h
    split at h
    · split at h
      · exact fur_bd (by simp; omega) hu h
      · cases h
    split at h
    · cases h
    rename_i k _
    split at h
    · refine fur_bd (by simp; omega) (fun d hd => ?_) h
      rcases List.mem_append.1 hd with hd | hd
      · exact hu d hd
      · rw [List.mem_singleton.1 hd]
        have : (b.take k).length ≤ b.length := List.length_take_le' _ _
        show (b.take k).length ≤ 1000
        omega
    · split at h
      · exact fur_bd (by simp; omega) hu h
      · cases h
theorem cands_rows : ∀ (ts : List (List Int)) (n : Nat), cands false (ts.map fun t => (false, t)) n = candR ts n
  | [], n => rfl
  | t :: ts, n => by rw [List.map_cons, cands, candR, if_pos rfl, cands_rows ts]
/-- The parts: those of a row, from a place on, each with what it may become. -/
def ptX (y : Nat → List LitR) : List LitR → Nat → List Pt
  | [], _ => []
  | x :: xs, k => ⟨x.r.l, cands x.neg ((y k).map LitR.c) 0⟩ :: ptX y xs (k + 1)
theorem ptX_len (y : Nat → List LitR) : ∀ (a : List LitR) (k : Nat), (ptX y a k).length = a.length
  | [], k => rfl
  | x :: a, k => by rw [ptX, List.length_cons, ptX_len y a, List.length_cons]
theorem ptX_app (y : Nat → List LitR) : ∀ (a b : List LitR) (k : Nat), ptX y (a ++ b) k = ptX y a k ++ ptX y b (k + a.length)
  | [], b, k => rfl
  | x :: a, b, k => by
    rw [List.cons_append, ptX, ptX, ptX_app y a b, List.cons_append]
    congr 2
    simp; congr 1; omega
theorem ptX_const {y : Nat → List LitR} {m : List LitR} : ∀ {a : List LitR} {k : Nat}, (∀ i, k ≤ i → i < k + a.length → y i = m) → ptX y a k = a.map fun x => (⟨x.r.l, cands x.neg (m.map LitR.c) 0⟩ : Pt)
  | [], k, _ => rfl
  | x :: a, k, h => by
    rw [ptX, List.map_cons, h k (Nat.le_refl _) (by simp), ptX_const (fun i h1 h2 => h i (by omega) (by simp; omega))]
def tupL (ts : List Row) : List LitR := ts.map fun r => ⟨false, r⟩
theorem tupL_c (ts : List Row) : (tupL ts).map LitR.c = (ts.map (·.l)).map fun t => (false, t) := by
  simp [tupL, LitR.c, Function.comp_def]
def itemsOf (c : Cl) : List LitR := (c.ls ++ tupL c.ts) ++ c.cs
def yOf (c d : Cl) (i : Nat) : List LitR := if i < c.ls.length then d.ls else if i < c.ls.length + c.ts.length then tupL d.ts else d.cs
theorem ptX_ptsC (c d : Cl) : ptX (yOf c d) (itemsOf c) 0 = ptsC c.c d.c := by
  unfold itemsOf ptsC
  have ht : (tupL c.ts).length = c.ts.length := by simp [tupL]
  rw [ptX_app, ptX_app]
  rw [ptX_const (m := d.ls) (fun i h1 h2 => by unfold yOf; rw [if_pos (by omega)])]
  rw [ptX_const (m := tupL d.ts) (a := tupL c.ts) (fun i h1 h2 => by unfold yOf; rw [if_neg (by omega), if_pos (by omega)])]
  rw [ptX_const (m := d.cs) (a := c.cs) (fun i h1 h2 => by
    have h3 : c.ls.length + c.ts.length ≤ i := by simp [ht] at h1; omega
    unfold yOf; rw [if_neg (by omega), if_neg (by omega)])]
  rw [tupL_c]
  simp [Cl.c, LitR.c, tupL, Function.comp_def, ← cands_rows]
end Go.Qu

/- The reference's search for places: what it hands back. For every input; no condition. -/
set_option linter.unusedVariables false
set_option linter.unusedSimpArgs false
set_option maxRecDepth 100000
namespace Go.Proofs.YtekdlnofmbfdgaaDoor.Ab
open Go Go.Ab Go.Qu Go.Proofs
theorem w_ofB {s : List Bd} (hl : s.length ≤ 2000000) (z : Bool) (e : List D) (v : Nat) : ∃ k : Int, C 112 [iBd z s e, iI v] = some (iI k, [iBd z s e, iI v]) ∧ ((k < 0 ∧ bsB s v = none) ∨ ∃ (j : Nat) (b : Bd), k = (j : Int) ∧ s[j]? = some b ∧ bsB s v = some b.r.l) := by
  rcases blk_find (F := F) (d := d112) (lk := []) (p := [1,0,1,0,0]) (p0 := [1,0,1]) (by kernel_rfl) (n := s.length) (id := 0) (st := fun i => [(0, iBd z s e), (1, iI v), (5, iI i)]) (q := fun i => match s[i]? with | some b => b.v == (v : Int) | none => false) (rt := fun i => [(4, iI i)]) (e := [(0, iBd z s e), (1, iI v), (5, iI s.length)])
    (fun i hi hq => by
      refine wpQ_way (q112_l0a _ _ z (bds s) e v i _) ?_
      obtain ⟨b, hb⟩ := at_lt hi
      rw [hb] at hq
      dsimp only at hq
      rw [bds_len, condW_d, if_pos (by omega), condW_d, if_pos (by omega), Int.toNat_natCast]
      refine ⟨_, _, _, _, bds_at hb, ?_⟩
      rw [hq, condW_ff, wr1 hi (by omega)])
    (fun i hi hq => by
      refine wpQ_way (q112_l0a _ _ z (bds s) e v i _) ?_
      obtain ⟨b, hb⟩ := at_lt hi
      rw [hb] at hq
      dsimp only at hq
      rw [bds_len, condW_d, if_pos (by omega), condW_d, if_pos (by omega), Int.toNat_natCast]
      refine ⟨_, _, _, _, bds_at hb, ?_⟩
      rw [hq, condW_tt])
    (wpQ_way (q112_l0a _ _ z (bds s) e v s.length _) (by rw [bds_len, condW_d, if_neg (by omega)])) 0 (Nat.zero_le _) with ⟨h2, h3⟩ | ⟨j, h1, h2, h4, h5, h3⟩
  · have hf : bsB s v = none := bsB_none (fun k hk c hc => by
      have := h2 k (Nat.zero_le _) hk
      rw [hc] at this; simpa using this)
    simp at h3
    refine ⟨-1, wfn (lk := []) rfl rfl (fnW_way (q112 _ _ z (bds s) e v _) ?_), Or.inl ⟨by decide, hf⟩⟩
    exact Or.inr ⟨_, _, _, _, _, h3, rfl⟩
  · obtain ⟨b, hb⟩ := at_lt h2
    rw [hb] at h4
    have hf : bsB s v = some b.r.l := bsB_some hb (by simpa using h4) (fun k hk c hc => by
      have := h5 k (Nat.zero_le _) hk
      rw [hc] at this; simpa using this)
    simp at h3
    refine ⟨j, wfn (lk := []) rfl rfl (fnW_way (q112 _ _ z (bds s) e v _) ?_), Or.inr ⟨j, b, rfl, hb, hf⟩⟩
    exact Or.inl ⟨_, h3, rfl⟩
/-- Wherever a term is looked for there is one. -/
structure FurOk (g : List Sym) (a b : List Int) : Prop where
  inner : ∀ j, 1 ≤ j → j < b.length → ∃ k, lenN g (b.drop j) 1 = some k
  first : 0 < a.length → gi a 0 < 0 → 0 < b.length → ∃ k, lenN g (b.drop 0) 1 = some k
abbrev furO (g : List Sym) (z za zb : Bool) (e ea eb : List D) (a b : List Int) (o : Option (List Bd × List Int)) : Out := match o with
  | some (w, r) => .norm [(0, iG z g e), (2, iS za a ea), (3, iS zb b eb), (10, .own false 132 2 (bds w)), (11, iI (b.length - r.length : Nat)), (12, iI a.length)]
  | none => .ret [(8, .own true 132 2 []), (9, iB false)]
theorem l_fur {g : List Sym} (hg : SigOk g) (z za zb : Bool) (e ea eb : List D) {a b : List Int} (ha : a.length ≤ 1000) (hb : b.length ≤ 1000) (hc : ∀ c ∈ a, -24 ≤ c) (hf : FurOk g a b) (x : List Bd × Nat × Nat) (hx : x.2.1 ≤ a.length ∧ x.2.2 ≤ b.length ∧ x.2.1 ≤ x.2.2 ∧ x.1.length ≤ 1000000 + x.2.1 ∧ ∀ d ∈ x.1, d.r.l.length ≤ 1000) :
    evP F (Go.Ab.W F) (JW F d91 []) d91 [] [1,1,1,0,1] [(0, iG z g e), (2, iS za a ea), (3, iS zb b eb), (10, .own false 132 2 (bds x.1)), (11, iI x.2.2), (12, iI x.2.1)] = some (furO g z za zb e ea eb a b (furF g zb x.1 (a.drop x.2.1) (b.drop x.2.2))) :=
  blk_fun (F := F) (d := d91) (lk := []) (p := [1,1,1,0,1,0,0]) (p0 := [1,1,1,0,1]) (id := 0) (by kernel_rfl) (st := fun (x : List Bd × Nat × Nat) => [(0, iG z g e), (2, iS za a ea), (3, iS zb b eb), (10, .own false 132 2 (bds x.1)), (11, iI x.2.2), (12, iI x.2.1)]) (I := fun x => x.2.1 ≤ a.length ∧ x.2.2 ≤ b.length ∧ x.2.1 ≤ x.2.2 ∧ x.1.length ≤ 1000000 + x.2.1 ∧ ∀ d ∈ x.1, d.r.l.length ≤ 1000) (μ := fun x => a.length - x.2.1)
    (res := fun x => furO g z za zb e ea eb a b (furF g zb x.1 (a.drop x.2.1) (b.drop x.2.2)))
    (fun x hx => by
      obtain ⟨u, i, j⟩ := x
      obtain ⟨h1, h2, h3, h4, h5⟩ := hx
      dsimp only at h1 h2 h3 h4 h5
      have bl := bds_len u
      by_cases h : i < a.length
      · have ca := Go.Ab.ints_at h
        have hda := gi_drop h
        have hm : gi a i ∈ a := List.mem_of_mem_drop (i := i) (by rw [hda]; simp)
        have hca := hc _ hm
        have t1 : decide ((i : Int) < ((ints a).length : Int)) = true := decide_eq_true (by rw [ints_len]; omega)
        have t2 : decide ((0 : Int) ≤ (i : Int)) = true := decide_eq_true (by omega)
        have t3 : decide ((0 : Int) ≤ (j : Int)) = true := decide_eq_true (by omega)
        have hw := wr1 h (show a.length ≤ 9223372036854775807 by omega)
        by_cases hj : j < b.length
        · have cb := Go.Ab.ints_at hj
          have hdb := gi_drop hj
          have t4 : decide ((j : Int) ≥ ((ints b).length : Int)) = false := decide_eq_false (by rw [ints_len]; omega)
          by_cases h0 : 0 ≤ gi a i
          · by_cases he : gi a i = gi b j
            · refine .go (u, i + 1, j + 1) (wpQ_way (q91_l0a _ _ z (syms g) e za (ints a) ea zb (ints b) eb _ _ j i _) ?_) ⟨by dsimp only; omega, by dsimp only; omega, by dsimp only; omega, by dsimp only; omega, h5⟩ (by dsimp only; omega) ?_
              · refine condW_t t1 (condW_f t4 (condW_t t2 ⟨_, ca, condW_t (decide_eq_true h0) (condW_t t2 ⟨_, ca, condW_t t3 ⟨_, cb, condW_f (by rw [he]; simp) ?_⟩⟩)⟩))
                rw [hw, wr1 hj (show b.length ≤ 9223372036854775807 by omega)]
              · dsimp only
                rw [hda, hdb, furF, if_neg (by simp), if_pos h0, if_pos (by simp [he])]
                rfl
            · refine .stop _ (wpQ_way (q91_l0a _ _ z (syms g) e za (ints a) ea zb (ints b) eb _ _ j i _) (condW_t t1 (condW_f t4 (condW_t t2 ⟨_, ca, condW_t (decide_eq_true h0) (condW_t t2 ⟨_, ca, condW_t t3 ⟨_, cb, condW_t (by simpa using he) rfl⟩⟩)⟩)))) rfl ?_
              dsimp only
              rw [hda, hdb, furF, if_neg (by simp), if_pos h0, if_neg (by simp; exact fun h => he h.symm)]
              rfl
          · obtain ⟨k, hk⟩ : ∃ k, lenN g (b.drop j) 1 = some k := by
              by_cases hj0 : 1 ≤ j
              · exact hf.inner j hj0 hj
              · have e1 : j = 0 := by omega
                have e2 : i = 0 := by omega
                subst e1; subst e2
                exact hf.first (by omega) (by omega) hj
            have hE := w_rend hg z zb e eb (r := b) (by omega) j (by omega)
            have hsk : skR g b j 1 = ((j + k : Nat) : Int) := by unfold skR; rw [hk]
            rw [hsk] at hE
            have hkl := lenN_le hk
            rw [List.length_drop] at hkl
            have hv : IntKind.wrap .i64 (-1 - gi a i) = (vN (gi a i) : Int) := by rw [wr _ (by omega) (by omega)]; unfold vN; omega
            have hterm : List.drop (Int.toNat (j : Int)) (tkX (Int.toNat ((j + k : Nat) : Int)) (ints b) eb) = ints ((b.drop j).take k) := by
              rw [Int.toNat_natCast, Int.toNat_natCast, tkX_ints (by omega), ints_drop, List.drop_take, Nat.add_sub_cancel_left]
            obtain ⟨m, hO, hO'⟩ := w_ofB (s := u) (by omega) false [] (vN (gi a i))
            rw [← hv] at hO
            have t5 : decide ((j : Int) ≤ ((j + k : Nat) : Int)) = true := decide_eq_true (by omega)
            have t6 : decide (((j + k : Nat) : Int) ≤ (((ints b).length + eb.length : Nat) : Int)) = true := decide_eq_true (by rw [ints_len]; omega)
            have hne : b.drop j ≠ [] := by rw [hdb]; simp
            rcases hO' with ⟨hm, hn⟩ | ⟨jj, bd, rfl, hbd, hn⟩
            · refine .go (u ++ [⟨(vN (gi a i) : Int), ⟨zb, (b.drop j).take k, []⟩⟩], i + 1, j + k) (wpQ_way (q91_l0a _ _ z (syms g) e za (ints a) ea zb (ints b) eb _ _ j i _) ?_) ⟨by dsimp only; omega, by dsimp only; omega, by dsimp only; omega, by simp; omega, fun d hd => by
                rcases List.mem_append.1 hd with hd | hd
                · exact h5 d hd
                · rw [List.mem_singleton.1 hd]
                  have : ((b.drop j).take k).length ≤ (b.drop j).length := List.length_take_le' _ _
                  rw [List.length_drop] at this
                  show ((b.drop j).take k).length ≤ 1000
                  omega⟩ (by dsimp only; omega) ?_
              · refine condW_t t1 (condW_f t4 (condW_t t2 ⟨_, ca, condW_f (decide_eq_false h0) ⟨_, _, _, _, hE, condW_t t2 ⟨_, ca, ⟨_, _, _, hO, condW_f (decide_eq_false (by omega)) (condW_t (decide_eq_true hm) (condW_t t2 ⟨_, ca, condW_t t3 (condW_t t5 (condW_t t6 (condW_t (decide_eq_true (by rw [bds_len]; dsimp only; omega)) (condW_t (decide_eq_true (by rw [bds_len]; dsimp only; omega)) ?_))))⟩))⟩⟩⟩⟩))
                rw [hw, hterm, hv, bds_append]
                rfl
              · dsimp only
                have hq : furF g zb u (a.drop i) (b.drop j) = furF g zb (u ++ [⟨(vN (gi a i) : Int), ⟨zb, (b.drop j).take k, []⟩⟩]) (a.drop (i + 1)) ((b.drop j).drop k) := by
                  rw [hda, furF, if_neg hne, if_neg h0]; simp only [hk, hn]
                rw [hq, List.drop_drop]
            · have t7 : decide (((jj : Nat) : Int) ≥ 0) = true := decide_eq_true (by omega)
              have t8 : decide ((0 : Int) ≤ (jj : Int)) = true := decide_eq_true (by omega)
              have hat := bds_at hbd
              have hS := w_same (a := bd.r.l) (by have := h5 bd (List.mem_of_getElem? hbd); unfold Len; omega) ((b.drop j).take k) bd.r.z zb bd.r.e []
              by_cases ht : bd.r.l = (b.drop j).take k
              · refine .go (u, i + 1, j + k) (wpQ_way (q91_l0a _ _ z (syms g) e za (ints a) ea zb (ints b) eb _ _ j i _) ?_) ⟨by dsimp only; omega, by dsimp only; omega, by dsimp only; omega, by dsimp only; omega, h5⟩ (by dsimp only; omega) ?_
                · refine condW_t t1 (condW_f t4 (condW_t t2 ⟨_, ca, condW_f (decide_eq_false h0) ⟨_, _, _, _, hE, condW_t t2 ⟨_, ca, ⟨_, _, _, hO, condW_t t7 (condW_t t8 ⟨_, hat, ⟨_, _, _, _, hat, condW_t t3 (condW_t t5 (condW_t t6 ⟨_, _, _, (by rw [hterm]; exact hS), condW_t (decide_eq_true ht) (condW_f (decide_eq_false (by omega)) ?_)⟩))⟩⟩)⟩⟩⟩⟩))
                  rw [hw]
                · dsimp only
                  have hq : furF g zb u (a.drop i) (b.drop j) = furF g zb u (a.drop (i + 1)) ((b.drop j).drop k) := by
                    rw [hda, furF, if_neg hne, if_neg h0]; simp only [hk, hn]; rw [if_pos ht]
                  rw [hq, List.drop_drop]
              · refine .stop _ (wpQ_way (q91_l0a _ _ z (syms g) e za (ints a) ea zb (ints b) eb _ _ j i _) (condW_t t1 (condW_f t4 (condW_t t2 ⟨_, ca, condW_f (decide_eq_false h0) ⟨_, _, _, _, hE, condW_t t2 ⟨_, ca, ⟨_, _, _, hO, condW_t t7 (condW_t t8 ⟨_, hat, ⟨_, _, _, _, hat, condW_t t3 (condW_t t5 (condW_t t6 ⟨_, _, _, (by rw [hterm]; exact hS), condW_f (decide_eq_false ht) rfl⟩))⟩⟩)⟩⟩⟩⟩)))) rfl ?_
                dsimp only
                have hq : furF g zb u (a.drop i) (b.drop j) = none := by
                  rw [hda, furF, if_neg hne, if_neg h0]; simp only [hk, hn]; rw [if_neg ht]
                rw [hq]
                rfl
        · have e1 : b.drop j = [] := List.drop_eq_nil_of_le (by omega)
          have t4 : decide ((j : Int) ≥ ((ints b).length : Int)) = true := decide_eq_true (by rw [ints_len]; omega)
          refine .stop _ (wpQ_way (q91_l0a _ _ z (syms g) e za (ints a) ea zb (ints b) eb _ _ j i _) (condW_t t1 (condW_t t4 rfl))) rfl ?_
          dsimp only
          rw [e1, hda, furF, if_pos rfl]
          rfl
      · have e1 : i = a.length := by omega
        subst e1
        have t1 : decide ((a.length : Int) < ((ints a).length : Int)) = false := decide_eq_false (by rw [ints_len]; omega)
        refine .stop (.exit 0 [(0, iG z g e), (2, iS za a ea), (3, iS zb b eb), (10, .own false 132 2 (bds u)), (11, iI j), (12, iI a.length)]) (wpQ_way (q91_l0a _ _ z (syms g) e za (ints a) ea zb (ints b) eb _ _ j _ _) (condW_f t1 rfl)) rfl ?_
        dsimp only
        rw [List.drop_length, furF]
        have e2 : b.length - (b.drop j).length = j := by rw [List.length_drop]; omega
        show blkO 0 _ = Out.norm _
        simp only [e2]
        rfl) x hx
theorem w_fur {g : List Sym} (hg : SigOk g) (z zu za zb : Bool) (e eu ea eb : List D) {u : List Bd} (hu : u.length ≤ 1000000) (hul : ∀ d ∈ u, d.r.l.length ≤ 1000) {a b : List Int} (ha : a.length ≤ 1000) (hb : b.length ≤ 1000) (hc : ∀ c ∈ a, -24 ≤ c) (hf : FurOk g a b) : ∃ zz w, C 91 [iG z g e, iBd zu u eu, iS za a ea, iS zb b eb] = some (.tup [.own zz 132 2 (bds w), iB (growF g (bsB u) a b).isSome], [iG z g e, iBd zu u eu, iS za a ea, iS zb b eb]) ∧ ∀ s, growF g (bsB u) a b = some s → s = bsB w ∧ w.length ≤ u.length + a.length ∧ ∀ d ∈ w, d.r.l.length ≤ 1000 := by
  have h1 := l_fur hg z za zb e ea eb ha hb hc hf (u, 0, 0) ⟨Nat.zero_le _, Nat.zero_le _, Nat.le_refl _, by dsimp only; omega, hul⟩
  simp only [List.drop_zero] at h1
  have hgr := fur_grow (g := g) (zb := zb) (a := a) (b := b) (u := u)
  cases hF : furF g zb u a b with
  | none =>
    rw [hF] at h1 hgr
    refine ⟨_, [], wfn (lk := []) rfl rfl (fnW_way (q91 _ _ z (syms g) e zu (bds u) eu za (ints a) ea zb (ints b) eb _) (condW_t (decide_eq_true (by rw [bds_len]; omega)) (condW_t (decide_eq_true (by rw [bds_len]; omega)) (.inl ⟨_, _, _, h1, by rw [hgr]; rfl⟩)))), ?_⟩
    intro s h; rw [hgr] at h; cases h
  | some p =>
    obtain ⟨w, r⟩ := p
    rw [hF] at h1 hgr
    have hl := fur_len hF
    have hb2 := fur_bd hb hul hF
    by_cases hr : r = []
    · subst hr
      refine ⟨_, w, wfn (lk := []) rfl rfl (fnW_way (q91 _ _ z (syms g) e zu (bds u) eu za (ints a) ea zb (ints b) eb _) (condW_t (decide_eq_true (by rw [bds_len]; omega)) (condW_t (decide_eq_true (by rw [bds_len]; omega)) (.inr ⟨_, _, _, _, _, _, _, _, _, _, _, _, _, h1, condW_t (by rw [ints_len]; simp) (by rw [hgr]; rfl)⟩)))), ?_⟩
      intro s h; rw [hgr] at h; simp at h; exact ⟨h.symm, hl.1, hb2⟩
    · have hr1 : r.length ≠ 0 := by simpa using hr
      simp only [if_neg hr] at hgr
      refine ⟨_, w, wfn (lk := []) rfl rfl (fnW_way (q91 _ _ z (syms g) e zu (bds u) eu za (ints a) ea zb (ints b) eb _) (condW_t (decide_eq_true (by rw [bds_len]; omega)) (condW_t (decide_eq_true (by rw [bds_len]; omega)) (.inr ⟨_, _, _, _, _, _, _, _, _, _, _, _, _, h1, condW_f (by rw [ints_len]; simp; omega) (by rw [hgr]; rfl)⟩)))), ?_⟩
      intro s h; rw [hgr] at h; cases h
theorem w_items {ls : List LitR} (hn : ls.length ≤ 1000) (z : Bool) (e : List D) : C 58 [iL z ls e] = some (.own ls.isEmpty 128 2 (lits ls), [iL z ls e]) := by
  refine wfn (lk := []) rfl rfl (fnW_way (q58 _ _ z (lits ls) e _) ?_)
  have h1 := blk_fun (F := F) (d := d58) (lk := []) (p := [1,1,0,1,0,0]) (p0 := [1,1,0,1]) (id := 0) (by kernel_rfl) (st := fun (i : Nat) => [(0, iL z ls e), (3, .own (ls.take i).isEmpty 128 2 (lits (ls.take i))), (4, iI i)]) (I := fun i => i ≤ ls.length) (μ := fun i => ls.length - i)
    (res := fun _ => .norm [(0, iL z ls e), (3, .own ls.isEmpty 128 2 (lits ls)), (4, iI ls.length)])
    (fun i hi => by
      by_cases h : i < ls.length
      · obtain ⟨l, hl⟩ := at_lt h
        have e1 : ls.take (i + 1) = ls.take i ++ [l] := by rw [List.take_add_one, hl]; rfl
        have e2 : (lits (ls.take i)).length = i := by rw [lits_len, List.length_take]; omega
        have e3 : lits (ls.take (i + 1)) = lits (ls.take i) ++ [.agg [.bool l.neg, .sl 1 l.r.z (ints l.r.l) l.r.e]] := by rw [e1, lits_append]; rfl
        have e4 : (ls.take (i + 1)).isEmpty = false := by rw [e1]; cases ls.take i <;> rfl
        have t1 : decide ((i : Int) < ((lits ls).length : Int)) = true := decide_eq_true (by rw [lits_len]; omega)
        have t2 : decide ((0 : Int) ≤ (i : Int)) = true := decide_eq_true (by omega)
        have hat := lits_at hl
        refine .go (i + 1) (wpQ_way (q58_l0a _ _ z (lits ls) e _ _ i _) ?_) h (by omega) rfl
        rw [e3, e4, wr1 h (by omega)]
        cases hneg : l.neg <;> rw [hneg] at hat
        · exact condW_t t1 (condW_t t2 ⟨_, _, _, _, hat, condW_f rfl (condW_t t2 ⟨_, _, _, _, hat, condW_t (decide_eq_true (by rw [e2]; omega)) (condW_t (decide_eq_true (by rw [e2]; omega)) (by rw [Bool.and_false]))⟩)⟩)
        · exact condW_t t1 (condW_t t2 ⟨_, _, _, _, hat, condW_t rfl (condW_t t2 ⟨_, _, _, _, hat, condW_t (decide_eq_true (by rw [e2]; omega)) (condW_t (decide_eq_true (by rw [e2]; omega)) (by rw [Bool.and_false]))⟩)⟩)
      · have e1 : i = ls.length := by omega
        subst e1
        refine .stop (.exit 0 [(0, iL z ls e), (3, .own ls.isEmpty 128 2 (lits ls)), (4, iI ls.length)]) (wpQ_way (q58_l0a _ _ z (lits ls) e _ _ ls.length _) ?_) rfl rfl
        simp [lits_len]) 0 (Nat.zero_le _)
  exact ⟨_, _, _, _, _, _, h1, rfl⟩
theorem w_tuples {ts : List Row} (hn : ts.length ≤ 1000) (z : Bool) (e : List D) : C 59 [iR z ts e] = some (.own ts.isEmpty 128 2 (lits (tupL ts)), [iR z ts e]) := by
  refine wfn (lk := []) rfl rfl (fnW_way (q59 _ _ z (rws ts) e _) ?_)
  have h1 := blk_fun (F := F) (d := d59) (lk := []) (p := [1,1,0,1,0,0]) (p0 := [1,1,0,1]) (id := 0) (by kernel_rfl) (st := fun (i : Nat) => [(0, iR z ts e), (3, .own (ts.take i).isEmpty 128 2 (lits (tupL (ts.take i)))), (4, iI i)]) (I := fun i => i ≤ ts.length) (μ := fun i => ts.length - i)
    (res := fun _ => .norm [(0, iR z ts e), (3, .own ts.isEmpty 128 2 (lits (tupL ts))), (4, iI ts.length)])
    (fun i hi => by
      by_cases h : i < ts.length
      · obtain ⟨l, hl⟩ := at_lt h
        have e1 : ts.take (i + 1) = ts.take i ++ [l] := by rw [List.take_add_one, hl]; rfl
        have e2 : (lits (tupL (ts.take i))).length = i := by rw [lits_len, tupL, List.length_map, List.length_take]; omega
        have e3 : lits (tupL (ts.take (i + 1))) = lits (tupL (ts.take i)) ++ [.agg [.bool false, .sl 1 l.z (ints l.l) l.e]] := by rw [e1, tupL, List.map_append, lits_append]; rfl
        have e4 : (ts.take (i + 1)).isEmpty = false := by rw [e1]; cases ts.take i <;> rfl
        have t1 : decide ((i : Int) < ((rws ts).length : Int)) = true := decide_eq_true (by rw [rws_len]; omega)
        have t2 : decide ((0 : Int) ≤ (i : Int)) = true := decide_eq_true (by omega)
        have hat := rws_at hl
        refine .go (i + 1) (wpQ_way (q59_l0a _ _ z (rws ts) e _ _ i _) ?_) h (by omega) rfl
        rw [e3, e4, wr1 h (by omega)]
        exact condW_t t1 (condW_t t2 ⟨_, _, _, hat, condW_t (decide_eq_true (by rw [e2]; omega)) (condW_t (decide_eq_true (by rw [e2]; omega)) (by rw [Bool.and_false]))⟩)
      · have e1 : i = ts.length := by omega
        subst e1
        refine .stop (.exit 0 [(0, iR z ts e), (3, .own ts.isEmpty 128 2 (lits (tupL ts))), (4, iI ts.length)]) (wpQ_way (q59_l0a _ _ z (rws ts) e _ _ ts.length _) ?_) rfl rfl
        simp [rws_len]) 0 (Nat.zero_le _)
  exact ⟨_, _, _, _, _, _, h1, rfl⟩
def yss (y : Nat → List LitR) (n : Nat) : List D := (List.range n).map fun k => .sl 2 (y k).isEmpty (lits (y k)) []
theorem yss_at (y : Nat → List LitR) {n k : Nat} (h : k < n) : (yss y n)[k]? = some (.sl 2 (y k).isEmpty (lits (y k)) []) := by simp [yss, h]
theorem yss_len (y : Nat → List LitR) (n : Nat) : (yss y n).length = n := by simp [yss]
theorem yss_add (y : Nat → List LitR) (n : Nat) : yss y (n + 1) = yss y n ++ [.sl 2 (y n).isEmpty (lits (y n)) []] := by simp [yss, List.range_succ]
theorem w_fit {g : List Sym} (hg : SigOk g) (z : Bool) (e : List D) {xs : List LitR} (zx : Bool) (ex : List D) (y : Nat → List LitR) (zy : Bool) (ey : List D) (hn : xs.length ≤ 1000) (hx : ∀ l ∈ xs, RowM l.r) (hy : ∀ k, k < xs.length → (y k).length ≤ 1000 ∧ ∀ m ∈ y k, RowM m.r) (hfo : ∀ k x, xs[k]? = some x → ∀ m ∈ y k, FurOk g x.r.l m.r.l) :
    ∀ (n k : Nat), k + n = xs.length → ∀ (zs : Bool) (es : List D) (u : List Bd), u.length ≤ 1000 * k → (∀ d ∈ u, d.r.l.length ≤ 1000) → C 60 [iG z g e, iL zx xs ex, .d (.sl 1 zy (yss y xs.length) ey), iI k, iBd zs u es] = some (fRes (findF g (ptX y (xs.drop k) k) (bsB u)), [iG z g e, iL zx xs ex, .d (.sl 1 zy (yss y xs.length) ey), iI k, iBd zs u es]) := by
  intro n
  induction n with
  | zero =>
    intro k hk zs es u _ _
    have e1 : k = xs.length := by omega
    subst e1
    refine wfn (lk := []) rfl rfl (fnW_way (q60 _ _ z (syms g) e zx (lits xs) ex zy (yss y xs.length) ey xs.length zs (bds u) es _) ?_)
    refine condW_t (by rw [lits_len]; simp) ?_
    rw [List.drop_length, ptX, findF]
    rfl
  | succ n ih =>
    intro k hk zs es u hu hul
    have hkl : k < xs.length := by omega
    refine wfn (lk := []) rfl rfl (fnW_way (q60 _ _ z (syms g) e zx (lits xs) ex zy (yss y xs.length) ey k zs (bds u) es _) ?_)
    refine condW_f (by rw [lits_len]; simp; omega) ?_
    obtain ⟨x, hxk⟩ := at_lt hkl
    have hdx : xs.drop k = x :: xs.drop (k + 1) := by
      rw [List.drop_eq_getElem_cons hkl]
      rw [List.getElem?_eq_getElem hkl] at hxk
      cases hxk; rfl
    have hxr := hx x (List.mem_of_getElem? hxk)
    obtain ⟨hyl, hym⟩ := hy k hkl
    have hyk := yss_at y hkl
    have hxat := lits_at hxk
    have t0 : decide ((0 : Int) ≤ (k : Int)) = true := decide_eq_true (by omega)
    have hl := blk_fun (F := F) (d := d60) (lk := []) (p := [1,1,0,1,0,0]) (p0 := [1,1,0,1]) (id := 0) (by kernel_rfl) (st := fun (j : Nat) => [(0, iG z g e), (1, iL zx xs ex), (2, .d (.sl 1 zy (yss y xs.length) ey)), (3, iI k), (4, iBd zs u es), (12, iI j)]) (I := fun j => j ≤ (y k).length) (μ := fun j => (y k).length - j)
      (res := fun j => match tryF g x.r.l (ptX y (xs.drop (k + 1)) (k + 1)) (bsB u) (cands x.neg (((y k).drop j).map LitR.c) j) with | some r => .ret [(10, .own false 3 1 (ints (rI r))), (11, iB true)] | none => .norm [(0, iG z g e), (1, iL zx xs ex), (2, .d (.sl 1 zy (yss y xs.length) ey)), (3, iI k), (4, iBd zs u es), (12, iI (y k).length)])
      (fun j hj => by
        by_cases h : j < (y k).length
        · obtain ⟨m, hm⟩ := at_lt h
          have hd : (y k).drop j = m :: (y k).drop (j + 1) := by
            rw [List.drop_eq_getElem_cons h]
            rw [List.getElem?_eq_getElem h] at hm
            cases hm; rfl
          have hmr := hym m (List.mem_of_getElem? hm)
          have hf := hfo k x hxk m (List.mem_of_getElem? hm)
          have hmat := lits_at hm
          have t1 : decide ((j : Int) < ((lits (y k)).length : Int)) = true := decide_eq_true (by rw [lits_len]; omega)
          have t2 : decide ((0 : Int) ≤ (j : Int)) = true := decide_eq_true (by omega)
          have hwr := wr1 h (show (y k).length ≤ 9223372036854775807 by omega)
          have hcd : cands x.neg (((y k).drop j).map LitR.c) j = if x.neg = m.neg then (j, m.r.l) :: cands x.neg (((y k).drop (j + 1)).map LitR.c) (j + 1) else cands x.neg (((y k).drop (j + 1)).map LitR.c) (j + 1) := by rw [hd, List.map_cons, cands]; rfl
          by_cases hne : x.neg = m.neg
          · rw [if_pos hne] at hcd
            rw [← hne] at hmat
            obtain ⟨zz, w, hw, hgs⟩ := w_fur hg z zs x.r.z m.r.z e es x.r.e m.r.e (u := u) (by omega) hul hxr.len hmr.len hxr.cod hf
            cases hb : growF g (bsB u) x.r.l m.r.l with
            | none =>
              rw [hb] at hw
              refine .go (j + 1) (wpQ_way (q60_l0a _ _ z (syms g) e zx (lits xs) ex zy (yss y xs.length) ey k zs (bds u) es j _) ?_) h (by omega) ?_
              · cases hxn : x.neg <;> rw [hxn] at hmat hxat
                · refine condW_t t0 ⟨_, _, _, hyk, condW_t t1 (condW_t t0 ⟨_, _, _, hyk, condW_t t2 ⟨_, _, _, _, hmat, condW_f rfl (condW_t t0 ⟨_, _, _, _, hxat, condW_f rfl (condW_t t0 ⟨_, _, _, _, hxat, condW_t t0 ⟨_, _, _, hyk, condW_t t2 ⟨_, _, _, _, hmat, ⟨_, _, _, _, _, _, _, hw, condW_f rfl ?_⟩⟩⟩⟩)⟩)⟩⟩)⟩
                  rw [hwr]
                · refine condW_t t0 ⟨_, _, _, hyk, condW_t t1 (condW_t t0 ⟨_, _, _, hyk, condW_t t2 ⟨_, _, _, _, hmat, condW_t rfl (condW_t t0 ⟨_, _, _, _, hxat, condW_t rfl (condW_t t0 ⟨_, _, _, _, hxat, condW_t t0 ⟨_, _, _, hyk, condW_t t2 ⟨_, _, _, _, hmat, ⟨_, _, _, _, _, _, _, hw, condW_f rfl ?_⟩⟩⟩⟩)⟩)⟩⟩)⟩
                  rw [hwr]
              · rw [hcd, tryF, hb]
            | some s =>
              rw [hb] at hw
              obtain ⟨hs, hwl, hwb⟩ := hgs s hb
              have hI := ih (k + 1) (by omega) zz [] w (by have := hxr.len; omega) hwb
              rw [← hs] at hI
              have hwk := wr1 hkl (show xs.length ≤ 9223372036854775807 by omega)
              cases hff : findF g (ptX y (xs.drop (k + 1)) (k + 1)) s with
              | none =>
                rw [hff] at hI
                refine .go (j + 1) (wpQ_way (q60_l0a _ _ z (syms g) e zx (lits xs) ex zy (yss y xs.length) ey k zs (bds u) es j _) ?_) h (by omega) ?_
                · cases hxn : x.neg <;> rw [hxn] at hmat hxat
                  · refine condW_t t0 ⟨_, _, _, hyk, condW_t t1 (condW_t t0 ⟨_, _, _, hyk, condW_t t2 ⟨_, _, _, _, hmat, condW_f rfl (condW_t t0 ⟨_, _, _, _, hxat, condW_f rfl (condW_t t0 ⟨_, _, _, _, hxat, condW_t t0 ⟨_, _, _, hyk, condW_t t2 ⟨_, _, _, _, hmat, ⟨_, _, _, _, _, _, _, hw, condW_t rfl ⟨_, _, _, _, _, _, _, _, (by rw [hwk]; exact hI), condW_f rfl ?_⟩⟩⟩⟩⟩)⟩)⟩⟩)⟩
                    rw [hwr]
                  · refine condW_t t0 ⟨_, _, _, hyk, condW_t t1 (condW_t t0 ⟨_, _, _, hyk, condW_t t2 ⟨_, _, _, _, hmat, condW_t rfl (condW_t t0 ⟨_, _, _, _, hxat, condW_t rfl (condW_t t0 ⟨_, _, _, _, hxat, condW_t t0 ⟨_, _, _, hyk, condW_t t2 ⟨_, _, _, _, hmat, ⟨_, _, _, _, _, _, _, hw, condW_t rfl ⟨_, _, _, _, _, _, _, _, (by rw [hwk]; exact hI), condW_f rfl ?_⟩⟩⟩⟩⟩)⟩)⟩⟩)⟩
                    rw [hwr]
                · rw [hcd, tryF, hb]; simp only [hff]
              | some r =>
                rw [hff] at hI
                have hrl := try_len hff
                have hrl2 : r.length ≤ 1000 := by rw [hrl, ptX_len, List.length_drop]; omega
                refine .stop (.ret [(10, .own false 3 1 (ints (rI (j :: r)))), (11, iB true)]) (wpQ_way (q60_l0a _ _ z (syms g) e zx (lits xs) ex zy (yss y xs.length) ey k zs (bds u) es j _) ?_) ?_ ?_
                · cases hxn : x.neg <;> rw [hxn] at hmat hxat
                  · exact condW_t t0 ⟨_, _, _, hyk, condW_t t1 (condW_t t0 ⟨_, _, _, hyk, condW_t t2 ⟨_, _, _, _, hmat, condW_f rfl (condW_t t0 ⟨_, _, _, _, hxat, condW_f rfl (condW_t t0 ⟨_, _, _, _, hxat, condW_t t0 ⟨_, _, _, hyk, condW_t t2 ⟨_, _, _, _, hmat, ⟨_, _, _, _, _, _, _, hw, condW_t rfl ⟨_, _, _, _, _, _, _, _, (by rw [hwk]; exact hI), condW_t rfl (condW_t (decide_eq_true (by rw [List.length_map, List.length_map]; omega)) (condW_t (decide_eq_true (by rw [List.length_map, List.length_map]; omega)) rfl))⟩⟩⟩⟩⟩)⟩)⟩⟩)⟩
                  · exact condW_t t0 ⟨_, _, _, hyk, condW_t t1 (condW_t t0 ⟨_, _, _, hyk, condW_t t2 ⟨_, _, _, _, hmat, condW_t rfl (condW_t t0 ⟨_, _, _, _, hxat, condW_t rfl (condW_t t0 ⟨_, _, _, _, hxat, condW_t t0 ⟨_, _, _, hyk, condW_t t2 ⟨_, _, _, _, hmat, ⟨_, _, _, _, _, _, _, hw, condW_t rfl ⟨_, _, _, _, _, _, _, _, (by rw [hwk]; exact hI), condW_t rfl (condW_t (decide_eq_true (by rw [List.length_map, List.length_map]; omega)) (condW_t (decide_eq_true (by rw [List.length_map, List.length_map]; omega)) rfl))⟩⟩⟩⟩⟩)⟩)⟩⟩)⟩
                · rfl
                · rw [hcd, tryF, hb]; simp only [hff]; rfl
          · rw [if_neg hne] at hcd
            refine .go (j + 1) (wpQ_way (q60_l0a _ _ z (syms g) e zx (lits xs) ex zy (yss y xs.length) ey k zs (bds u) es j _) ?_) h (by omega) ?_
            · cases hmn : m.neg
              · have hxn : x.neg = true := by cases hh : x.neg with | true => rfl | false => exact absurd (hh.trans hmn.symm) hne
                rw [hmn] at hmat; rw [hxn] at hxat
                refine condW_t t0 ⟨_, _, _, hyk, condW_t t1 (condW_t t0 ⟨_, _, _, hyk, condW_t t2 ⟨_, _, _, _, hmat, condW_f rfl (condW_t t0 ⟨_, _, _, _, hxat, condW_t rfl ?_⟩)⟩⟩)⟩
                rw [hwr]
              · have hxn : x.neg = false := by cases hh : x.neg with | false => rfl | true => exact absurd (hh.trans hmn.symm) hne
                rw [hmn] at hmat; rw [hxn] at hxat
                refine condW_t t0 ⟨_, _, _, hyk, condW_t t1 (condW_t t0 ⟨_, _, _, hyk, condW_t t2 ⟨_, _, _, _, hmat, condW_t rfl (condW_t t0 ⟨_, _, _, _, hxat, condW_f rfl ?_⟩)⟩⟩)⟩
                rw [hwr]
            · rw [hcd]
        · have e1 : j = (y k).length := by omega
          subst e1
          have t1 : decide (((y k).length : Int) < ((lits (y k)).length : Int)) = false := decide_eq_false (by rw [lits_len]; omega)
          refine .stop (.exit 0 [(0, iG z g e), (1, iL zx xs ex), (2, .d (.sl 1 zy (yss y xs.length) ey)), (3, iI k), (4, iBd zs u es), (12, iI (y k).length)]) (wpQ_way (q60_l0a _ _ z (syms g) e zx (lits xs) ex zy (yss y xs.length) ey k zs (bds u) es _ _) (condW_t t0 ⟨_, _, _, hyk, condW_f t1 rfl⟩)) rfl ?_
          rw [List.drop_length]
          simp only [List.map_nil, cands, tryF]
          rfl) 0 (Nat.zero_le _)
    rw [List.drop_zero] at hl
    rw [hdx, ptX, findF]
    dsimp only
    cases ht : tryF g x.r.l (ptX y (xs.drop (k + 1)) (k + 1)) (bsB u) (cands x.neg ((y k).map LitR.c) 0) with
    | none =>
      simp only [ht] at hl
      exact .inr ⟨_, _, _, _, _, _, _, _, _, _, _, _, _, _, hl, rfl⟩
    | some r =>
      simp only [ht] at hl
      have hr0 : r.isEmpty = false := by
        have : findF g (ptX y (xs.drop k) k) (bsB u) = some r := by rw [hdx, ptX, findF]; exact ht
        have := try_len this
        rw [hdx, ptX] at this
        cases r with
        | nil => simp at this
        | cons a r => rfl
      refine .inl ⟨_, _, _, hl, ?_⟩
      unfold fRes
      dsimp only
      rw [hr0]
theorem fur_row {g : List Sym} (a : List Int) {b : List Int} (h : rowB g b = true) : FurOk g a b := by
  obtain ⟨_, _, ts, hts, _⟩ := rowB_parts h
  exact ⟨fun j _ hj => parts_inner hts hj, fun _ _ hb => parts_inner hts hb⟩
theorem fur_atom {g : List Sym} {a b : List Int} (ha : atomB g a = true) (hb : atomB g b = true) : FurOk g a b := by
  constructor
  · intro j hj hjl
    cases b with
    | nil => simp at hjl
    | cons p r =>
      simp only [atomB] at hb
      split at hb
      · cases hb
      split at hb
      · cases hb
      simp only [Bool.and_eq_true] at hb
      obtain ⟨_, h3⟩ := hb
      unfold rowP at h3
      by_cases hr : r.length ≤ 48
      · rw [if_pos hr] at h3
        cases hps : parts g r with
        | none => rw [hps] at h3; cases h3
        | some ts =>
          obtain ⟨j, rfl⟩ : ∃ i, j = i + 1 := ⟨j - 1, by omega⟩
          exact parts_inner hps (by simp at hjl; omega)
      · rw [if_neg hr] at h3; cases h3
  · intro h0 hn _
    cases a with
    | nil => simp at h0
    | cons p r =>
      simp only [atomB] at ha
      split at ha
      · cases ha
      · rename_i hp
        have : gi (p :: r) 0 = p := rfl
        omega
theorem tupL_len (ts : List Row) : (tupL ts).length = ts.length := by simp [tupL]
theorem fur_all {g : List Sym} {c d : Cl} (hc : clB g c = true) (hd : clB g d = true) : ∀ k x, (itemsOf c)[k]? = some x → ∀ m ∈ yOf c d k, FurOk g x.r.l m.r.l := by
  have kc := clOk.1 ((clB_c g c).symm.trans hc)
  have kd := clOk.1 ((clB_c g d).symm.trans hd)
  have ac : ∀ l ∈ c.ls, atomB g l.r.l = true := fun l hl => kc.la l.c (by simp [Cl.c]; exact ⟨l, hl, rfl⟩)
  have ad : ∀ l ∈ d.ls, atomB g l.r.l = true := fun l hl => kd.la l.c (by simp [Cl.c]; exact ⟨l, hl, rfl⟩)
  have bc : ∀ l ∈ c.cs, atomB g l.r.l = true := fun l hl => kc.ca l.c (by simp [Cl.c]; exact ⟨l, hl, rfl⟩)
  have bd : ∀ l ∈ d.cs, atomB g l.r.l = true := fun l hl => kd.ca l.c (by simp [Cl.c]; exact ⟨l, hl, rfl⟩)
  have rd : ∀ r ∈ d.ts, rowB g r.l = true := fun r hr => by
    obtain ⟨k, hk⟩ := kd.tr
    exact (hk r.l (by simp [Cl.c]; exact ⟨r, hr, rfl⟩)).1
  intro k x hx m hm
  unfold yOf at hm
  unfold itemsOf at hx
  have tl := tupL_len c.ts
  by_cases h1 : k < c.ls.length
  · rw [if_pos h1] at hm
    rw [List.append_assoc, List.getElem?_append_left h1] at hx
    exact fur_atom (ac x (List.mem_of_getElem? hx)) (ad m hm)
  · rw [if_neg h1] at hm
    by_cases h2 : k < c.ls.length + c.ts.length
    · rw [if_pos h2] at hm
      obtain ⟨r, hr, rfl⟩ := List.mem_map.1 hm
      exact fur_row _ (rd r hr)
    · rw [if_neg h2] at hm
      rw [List.getElem?_append_right (by simp [tl]; omega)] at hx
      exact fur_atom (bc x (List.mem_of_getElem? hx)) (bd m hm)
theorem tupL_rowM {ts : List Row} (h : ∀ r ∈ ts, RowM r) : ∀ l ∈ tupL ts, RowM l.r := fun l hl => by
  obtain ⟨r, hr, rfl⟩ := List.mem_map.1 hl
  exact h r hr
theorem isEmpty_tupL (ts : List Row) : (tupL ts).isEmpty = ts.isEmpty := by cases ts <;> rfl
theorem yss_emp (y : Nat → List LitR) (n : Nat) : (yss y (n + 1)).isEmpty = false := by rw [yss_add]; cases yss y n <;> rfl
theorem w_fits {g : List Sym} (z : Bool) (e : List D) {c d : Cl} (hc : clB g c = true) (hd : clB g d = true) (hn : NilC c) (hm : NilC d) : C 30 [iG z g e, iC c, iC d] = some (fRes (plM g c d), [iG z g e, iC c, iC d]) := by
  refine wfn (lk := []) rfl rfl (fnW_way (q30 _ _ z (syms g) e c.lz (lits c.ls) c.le c.tz (rws c.ts) c.te c.cz (lits c.cs) c.ce d.lz (lits d.ls) d.le d.tz (rws d.ts) d.te d.cz (lits d.cs) d.ce _) ?_)
  have hg : SigOk g := sigOk (clOk.1 ((clB_c g c).symm.trans hc)).sg
  have hcm := clM_of hc hn
  have hdm := clM_of hd hm
  have l1 := hcm.l5; have l2 := hcm.t3; have l3 := hcm.c3; have m1 := hdm.l5; have m2 := hdm.t3; have m3 := hdm.c3
  have tl := tupL_len c.ts
  have hxl : (itemsOf c).length = c.ls.length + c.ts.length + c.cs.length := by simp [itemsOf, tl]; omega
  have hxd : lits c.ls ++ lits (tupL c.ts) ++ lits c.cs = lits (itemsOf c) := by rw [itemsOf, lits_append, lits_append]
  have i1 := w_items (ls := c.ls) (by omega) c.lz c.le
  have i2 := w_tuples (ts := c.ts) (by omega) c.tz c.te
  have i3 := w_items (ls := c.cs) (by omega) c.cz c.ce
  have j1 := w_items (ls := d.ls) (by omega) d.lz d.le
  have j2 := w_tuples (ts := d.ts) (by omega) d.tz d.te
  have j3 := w_items (ls := d.cs) (by omega) d.cz d.ce
  have hl := fun (zq : Bool) => blk_fun (F := F) (d := d30) (lk := []) (p := [1,1,1,1,1,0,1,0,0]) (p0 := [1,1,1,1,1,0,1]) (id := 0) (by kernel_rfl) (st := fun (i : Nat) => [(0, iG z g e), (4, bC c), (5, bC d), (8, .own zq 128 2 (lits (itemsOf c))), (9, .own (yss (yOf c d) i).isEmpty 97 1 (yss (yOf c d) i)), (10, iI i)]) (I := fun i => i ≤ (itemsOf c).length) (μ := fun i => (itemsOf c).length - i)
    (res := fun _ => .norm [(0, iG z g e), (4, bC c), (5, bC d), (8, .own zq 128 2 (lits (itemsOf c))), (9, .own (yss (yOf c d) (itemsOf c).length).isEmpty 97 1 (yss (yOf c d) (itemsOf c).length)), (10, iI (itemsOf c).length)])
    (fun i hi => by
      by_cases h : i < (itemsOf c).length
      · have t1 : decide ((i : Int) < ((lits (itemsOf c)).length : Int)) = true := decide_eq_true (by rw [lits_len]; omega)
        have yl := yss_len (yOf c d) i
        have hw := wr1 h (by omega)
        refine .go (i + 1) (wpQ_way (q30_l0a _ _ z (syms g) e c.lz (lits c.ls) c.le c.tz (rws c.ts) c.te c.cz (lits c.cs) c.ce d.lz (lits d.ls) d.le d.tz (rws d.ts) d.te d.cz (lits d.cs) d.ce zq (lits (itemsOf c)) _ (yss (yOf c d) i) i _) ?_) h (by omega) rfl
        have hws : IntKind.wrap .i64 (((lits c.ls).length : Int) + ((rws c.ts).length : Int)) = ((c.ls.length + c.ts.length : Nat) : Int) := by rw [lits_len, rws_len, wr _ (by omega) (by omega)]; omega
        refine condW_t t1 ?_
        rw [yss_emp, yss_add, hw, hws]
        by_cases h1 : i < c.ls.length
        · have hy : yOf c d i = d.ls := by unfold yOf; rw [if_pos h1]
          rw [hy]
          exact condW_t (decide_eq_true (by rw [lits_len]; omega)) ⟨_, _, _, j1, condW_t (decide_eq_true (by rw [yl]; omega)) (condW_t (decide_eq_true (by rw [yl]; omega)) (by rw [Bool.and_false]))⟩
        · refine condW_f (decide_eq_false (by rw [lits_len]; omega)) ?_
          by_cases h2 : i < c.ls.length + c.ts.length
          · have hy : yOf c d i = tupL d.ts := by unfold yOf; rw [if_neg h1, if_pos h2]
            rw [hy, isEmpty_tupL]
            exact condW_t (decide_eq_true (by omega)) ⟨_, _, _, j2, condW_t (decide_eq_true (by rw [yl]; omega)) (condW_t (decide_eq_true (by rw [yl]; omega)) (by rw [Bool.and_false]))⟩
          · have hy : yOf c d i = d.cs := by unfold yOf; rw [if_neg h1, if_neg h2]
            rw [hy]
            exact condW_f (decide_eq_false (by omega)) ⟨_, _, _, j3, condW_t (decide_eq_true (by rw [yl]; omega)) (condW_t (decide_eq_true (by rw [yl]; omega)) (by rw [Bool.and_false]))⟩
      · have e1 : i = (itemsOf c).length := by omega
        subst e1
        refine .stop (.exit 0 [(0, iG z g e), (4, bC c), (5, bC d), (8, .own zq 128 2 (lits (itemsOf c))), (9, .own (yss (yOf c d) (itemsOf c).length).isEmpty 97 1 (yss (yOf c d) (itemsOf c).length)), (10, iI (itemsOf c).length)]) (wpQ_way (q30_l0a _ _ z (syms g) e c.lz (lits c.ls) c.le c.tz (rws c.ts) c.te c.cz (lits c.cs) c.ce d.lz (lits d.ls) d.le d.tz (rws d.ts) d.te d.cz (lits d.cs) d.ce zq (lits (itemsOf c)) _ _ _ _) (condW_f (decide_eq_false (by rw [lits_len]; omega)) rfl)) rfl rfl) 0 (Nat.zero_le _)
  have hxm : ∀ l ∈ itemsOf c, RowM l.r := fun l hl => by
    unfold itemsOf at hl
    rcases List.mem_append.1 hl with hl | hl
    · rcases List.mem_append.1 hl with hl | hl
      · exact hcm.ls l hl
      · exact tupL_rowM hcm.ts l hl
    · exact hcm.cs l hl
  have hym : ∀ k, k < (itemsOf c).length → (yOf c d k).length ≤ 1000 ∧ ∀ m ∈ yOf c d k, RowM m.r := fun k _ => by
    have tld := tupL_len d.ts
    unfold yOf
    split
    · exact ⟨by omega, hdm.ls⟩
    split
    · exact ⟨by omega, tupL_rowM hdm.ts⟩
    · exact ⟨by omega, hdm.cs⟩
  have hw := fun (zq zy : Bool) => w_fit hg z e (xs := itemsOf c) zq [] (yOf c d) zy [] (by omega) hxm hym (fur_all hc hd) (itemsOf c).length 0 (by omega) true [] [] (by simp) (by simp)
  rw [List.drop_zero, ptX_ptsC, bsB_nil] at hw
  refine ⟨_, _, _, i1, _, _, _, i2, condW_t (decide_eq_true (by rw [lits_len, lits_len, tl]; omega)) (condW_t (decide_eq_true (by rw [lits_len, lits_len, tl]; omega)) ⟨_, _, _, i3, condW_t (decide_eq_true (by rw [List.length_append, lits_len, lits_len, lits_len, tl]; omega)) (condW_t (decide_eq_true (by rw [List.length_append, lits_len, lits_len, lits_len, tl]; omega)) ?_)⟩)⟩
  rw [hxd]
  refine ⟨_, _, _, _, _, _, _, _, _, _, _, _, _, _, _, _, _, _, _, _, _, _, _, _, _, _, hl _, ?_⟩
  have hw' := hw (c.ls.isEmpty && (lits (tupL c.ts)).isEmpty && (lits c.cs).isEmpty) (yss (yOf c d) (itemsOf c).length).isEmpty
  cases hp : plM g c d with
  | none =>
    have hp' : findF g (ptsC c.c d.c) (fun _ => none) = none := hp
    rw [hp'] at hw'
    exact ⟨_, _, _, _, _, _, _, _, hw', condW_f rfl rfl⟩
  | some r =>
    have hp' : findF g (ptsC c.c d.c) (fun _ => none) = some r := hp
    rw [hp'] at hw'
    exact ⟨_, _, _, _, _, _, _, _, hw', condW_t rfl rfl⟩
theorem w_rplaces {g : List Sym} (z : Bool) (e : List D) {c d : Cl} (hn : NilC c) (hm : NilC d) : ∃ v, C 11 [iG z g e, iC c, iC d] = some (v, [iG z g e, iC c, iC d]) ∧ ((clB g c && clB g d) = true → v = match plM g c d with | some r => .tup [.own r.isEmpty 3 1 (ints (rI r)), iB true, iI 0] | none => .tup [.own true 3 1 [], iB false, iI 0]) ∧ ((clB g c && clB g d) = false → v = .tup [.own true 3 1 [], iB false, iI 1000]) := by
  cases hc : clB g c
  · refine ⟨_, wfn (lk := []) rfl rfl (fnW_way (q11 _ _ z (syms g) e c.lz (lits c.ls) c.le c.tz (rws c.ts) c.te c.cz (lits c.cs) c.ce d.lz (lits d.ls) d.le d.tz (rws d.ts) d.te d.cz (lits d.cs) d.ce _) ⟨_, _, _, w_rclmay z g e c, by rw [hc]; rfl⟩), by simp, fun _ => rfl⟩
  cases hd : clB g d
  · refine ⟨_, wfn (lk := []) rfl rfl (fnW_way (q11 _ _ z (syms g) e c.lz (lits c.ls) c.le c.tz (rws c.ts) c.te c.cz (lits c.cs) c.ce d.lz (lits d.ls) d.le d.tz (rws d.ts) d.te d.cz (lits d.cs) d.ce _) ⟨_, _, _, w_rclmay z g e c, by rw [hc]; exact ⟨_, _, _, w_rclmay z g e d, by rw [hd]; rfl⟩⟩), by simp, fun _ => rfl⟩
  have h := w_fits z e hc hd hn hm
  cases hp : plM g c d with
  | none =>
    rw [hp] at h
    exact ⟨_, wfn (lk := []) rfl rfl (fnW_way (q11 _ _ z (syms g) e c.lz (lits c.ls) c.le c.tz (rws c.ts) c.te c.cz (lits c.cs) c.ce d.lz (lits d.ls) d.le d.tz (rws d.ts) d.te d.cz (lits d.cs) d.ce _) ⟨_, _, _, w_rclmay z g e c, by rw [hc]; exact ⟨_, _, _, w_rclmay z g e d, by rw [hd]; exact ⟨_, _, _, _, _, _, h, rfl⟩⟩⟩), fun _ => rfl, by simp⟩
  | some r =>
    rw [hp] at h
    exact ⟨_, wfn (lk := []) rfl rfl (fnW_way (q11 _ _ z (syms g) e c.lz (lits c.ls) c.le c.tz (rws c.ts) c.te c.cz (lits c.cs) c.ce d.lz (lits d.ls) d.le d.tz (rws d.ts) d.te d.cz (lits d.cs) d.ce _) ⟨_, _, _, w_rclmay z g e c, by rw [hc]; exact ⟨_, _, _, w_rclmay z g e d, by rw [hd]; exact ⟨_, _, _, _, _, _, h, rfl⟩⟩⟩), fun _ => rfl, by simp⟩
end Go.Proofs.YtekdlnofmbfdgaaDoor.Ab

/- Written by a program of this session (wip/tools/AbSym.lean). Not trusted: Lean checks it. -/
set_option maxRecDepth 100000
set_option linter.unusedVariables false
namespace Go.Proofs.YtekdlnofmbfdgaaDoor.Ab
open Go Go.Ab Go.Proofs
def L16 : Lps := fun b => match b with
  | _ => [.norm []]
theorem q16 (C J)  (Q) : fnW F C R (L16) J d16 [] Q = (∃ w0 w1, C 33 [] = some (IV.own w0 103 4 w1, []) ∧ ∃ w2 w3 w4 w5 w6 w7 w8, C 10 [IV.d (D.sl 4 w0 w1 []), IV.d (D.agg [D.sl 2 false [D.agg [D.bool false, D.sl 1 false [D.int IntKind.i64 5, D.int IntKind.i64 (-1)] []]] [], D.sl 1 false [D.sl 1 false [D.int IntKind.i64 (-1)] []] [], D.sl 2 true [] []]), IV.d (D.agg [D.sl 2 false [D.agg [D.bool false, D.sl 1 false [D.int IntKind.i64 5, D.int IntKind.i64 2] []], D.agg [D.bool false, D.sl 1 false [D.int IntKind.i64 5, D.int IntKind.i64 1] []]] [], D.sl 1 false [D.sl 1 false [D.int IntKind.i64 1] []] [], D.sl 2 true [] []])] = some (IV.tup [IV.own w2 3 1 w3, IV.d (D.bool w4), IV.d (D.int IntKind.i64 w5)], [IV.d w6, IV.d w7, IV.d w8]) ∧ condW w4 (∃ w9 w10, C 33 [] = some (IV.own w9 103 4 w10, []) ∧ ∃ w11 w12 w13 w14 w15, C 12 [IV.d (D.sl 4 w9 w10 []), IV.d (D.agg [D.sl 2 false [D.agg [D.bool false, D.sl 1 false [D.int IntKind.i64 5, D.int IntKind.i64 2] []], D.agg [D.bool false, D.sl 1 false [D.int IntKind.i64 5, D.int IntKind.i64 1] []]] [], D.sl 1 false [D.sl 1 false [D.int IntKind.i64 1] []] [], D.sl 2 true [] []]), IV.d (D.agg [D.sl 2 false [D.agg [D.bool false, D.sl 1 false [D.int IntKind.i64 5, D.int IntKind.i64 (-1)] []]] [], D.sl 1 false [D.sl 1 false [D.int IntKind.i64 (-1)] []] [], D.sl 2 true [] []])] = some (IV.tup [IV.d (D.bool w11), IV.d (D.int IntKind.i64 w12)], [IV.d w13, IV.d w14, IV.d w15]) ∧ condW w11 (∃ w16 w17, C 33 [] = some (IV.own w16 103 4 w17, []) ∧ ∃ w18 w19 w20 w21 w22, C 12 [IV.d (D.sl 4 w16 w17 []), IV.d (D.agg [D.sl 2 true [] [], D.sl 1 false [D.sl 1 false [D.int IntKind.i64 5] []] [], D.sl 2 true [] []]), IV.d (D.agg [D.sl 2 false [D.agg [D.bool false, D.sl 1 false [D.int IntKind.i64 5, D.int IntKind.i64 (-1)] []]] [], D.sl 1 false [D.sl 1 false [D.int IntKind.i64 (-1)] []] [], D.sl 2 true [] []])] = some (IV.tup [IV.d (D.bool w18), IV.d (D.int IntKind.i64 w19)], [IV.d w20, IV.d w21, IV.d w22]) ∧ condW w18 (∃ w23 w24, C 14 [IV.d (D.int IntKind.i64 w5)] = some (IV.d (D.int IntKind.i64 w23), [IV.d w24]) ∧ condW (w23 == 0) (∃ w25 w26 w27, C 13 [IV.d (D.sl 1 w2 w3 []), IV.d (D.sl 1 false [D.int IntKind.i64 1, D.int IntKind.i64 0] [])] = some (IV.d (D.bool w25), [IV.d w26, IV.d w27]) ∧ condW w25 (Q (some (IV.d (D.bool false), []))) (Q (some (IV.d (D.bool false), [])))) (Q (some (IV.d (D.bool false), [])))) (∃ w28 w29, C 14 [IV.d (D.int IntKind.i64 w5)] = some (IV.d (D.int IntKind.i64 w28), [IV.d w29]) ∧ condW (w28 == 0) (∃ w30 w31 w32, C 13 [IV.d (D.sl 1 w2 w3 []), IV.d (D.sl 1 false [D.int IntKind.i64 1, D.int IntKind.i64 0] [])] = some (IV.d (D.bool w30), [IV.d w31, IV.d w32]) ∧ condW w30 (Q (some (IV.d (D.bool false), []))) (Q (some (IV.d (D.bool false), [])))) (Q (some (IV.d (D.bool false), []))))) (∃ w33 w34, C 33 [] = some (IV.own w33 103 4 w34, []) ∧ ∃ w35 w36 w37 w38 w39, C 12 [IV.d (D.sl 4 w33 w34 []), IV.d (D.agg [D.sl 2 true [] [], D.sl 1 false [D.sl 1 false [D.int IntKind.i64 5] []] [], D.sl 2 true [] []]), IV.d (D.agg [D.sl 2 false [D.agg [D.bool false, D.sl 1 false [D.int IntKind.i64 5, D.int IntKind.i64 (-1)] []]] [], D.sl 1 false [D.sl 1 false [D.int IntKind.i64 (-1)] []] [], D.sl 2 true [] []])] = some (IV.tup [IV.d (D.bool w35), IV.d (D.int IntKind.i64 w36)], [IV.d w37, IV.d w38, IV.d w39]) ∧ condW w35 (∃ w40 w41, C 14 [IV.d (D.int IntKind.i64 w5)] = some (IV.d (D.int IntKind.i64 w40), [IV.d w41]) ∧ condW (w40 == 0) (∃ w42 w43 w44, C 13 [IV.d (D.sl 1 w2 w3 []), IV.d (D.sl 1 false [D.int IntKind.i64 1, D.int IntKind.i64 0] [])] = some (IV.d (D.bool w42), [IV.d w43, IV.d w44]) ∧ condW w42 (∃ w45 w46, C 14 [IV.d (D.int IntKind.i64 w12)] = some (IV.d (D.int IntKind.i64 w45), [IV.d w46]) ∧ condW (w45 == 0) (∃ w47 w48, C 14 [IV.d (D.int IntKind.i64 w36)] = some (IV.d (D.int IntKind.i64 w47), [IV.d w48]) ∧ condW (w47 == 1000) (Q (some (IV.d (D.bool true), []))) (Q (some (IV.d (D.bool false), [])))) (Q (some (IV.d (D.bool false), [])))) (Q (some (IV.d (D.bool false), [])))) (Q (some (IV.d (D.bool false), [])))) (∃ w49 w50, C 14 [IV.d (D.int IntKind.i64 w5)] = some (IV.d (D.int IntKind.i64 w49), [IV.d w50]) ∧ condW (w49 == 0) (∃ w51 w52 w53, C 13 [IV.d (D.sl 1 w2 w3 []), IV.d (D.sl 1 false [D.int IntKind.i64 1, D.int IntKind.i64 0] [])] = some (IV.d (D.bool w51), [IV.d w52, IV.d w53]) ∧ condW w51 (∃ w54 w55, C 14 [IV.d (D.int IntKind.i64 w12)] = some (IV.d (D.int IntKind.i64 w54), [IV.d w55]) ∧ condW (w54 == 0) (∃ w56 w57, C 14 [IV.d (D.int IntKind.i64 w36)] = some (IV.d (D.int IntKind.i64 w56), [IV.d w57]) ∧ condW (w56 == 1000) (Q (some (IV.d (D.bool true), []))) (Q (some (IV.d (D.bool false), [])))) (Q (some (IV.d (D.bool false), [])))) (Q (some (IV.d (D.bool false), [])))) (Q (some (IV.d (D.bool false), [])))))) (∃ w58 w59, C 33 [] = some (IV.own w58 103 4 w59, []) ∧ ∃ w60 w61 w62 w63 w64, C 12 [IV.d (D.sl 4 w58 w59 []), IV.d (D.agg [D.sl 2 false [D.agg [D.bool false, D.sl 1 false [D.int IntKind.i64 5, D.int IntKind.i64 2] []], D.agg [D.bool false, D.sl 1 false [D.int IntKind.i64 5, D.int IntKind.i64 1] []]] [], D.sl 1 false [D.sl 1 false [D.int IntKind.i64 1] []] [], D.sl 2 true [] []]), IV.d (D.agg [D.sl 2 false [D.agg [D.bool false, D.sl 1 false [D.int IntKind.i64 5, D.int IntKind.i64 (-1)] []]] [], D.sl 1 false [D.sl 1 false [D.int IntKind.i64 (-1)] []] [], D.sl 2 true [] []])] = some (IV.tup [IV.d (D.bool w60), IV.d (D.int IntKind.i64 w61)], [IV.d w62, IV.d w63, IV.d w64]) ∧ condW w60 (∃ w65 w66, C 33 [] = some (IV.own w65 103 4 w66, []) ∧ ∃ w67 w68 w69 w70 w71, C 12 [IV.d (D.sl 4 w65 w66 []), IV.d (D.agg [D.sl 2 true [] [], D.sl 1 false [D.sl 1 false [D.int IntKind.i64 5] []] [], D.sl 2 true [] []]), IV.d (D.agg [D.sl 2 false [D.agg [D.bool false, D.sl 1 false [D.int IntKind.i64 5, D.int IntKind.i64 (-1)] []]] [], D.sl 1 false [D.sl 1 false [D.int IntKind.i64 (-1)] []] [], D.sl 2 true [] []])] = some (IV.tup [IV.d (D.bool w67), IV.d (D.int IntKind.i64 w68)], [IV.d w69, IV.d w70, IV.d w71]) ∧ condW w67 (Q (some (IV.d (D.bool false), []))) (Q (some (IV.d (D.bool false), [])))) (∃ w72 w73, C 33 [] = some (IV.own w72 103 4 w73, []) ∧ ∃ w74 w75 w76 w77 w78, C 12 [IV.d (D.sl 4 w72 w73 []), IV.d (D.agg [D.sl 2 true [] [], D.sl 1 false [D.sl 1 false [D.int IntKind.i64 5] []] [], D.sl 2 true [] []]), IV.d (D.agg [D.sl 2 false [D.agg [D.bool false, D.sl 1 false [D.int IntKind.i64 5, D.int IntKind.i64 (-1)] []]] [], D.sl 1 false [D.sl 1 false [D.int IntKind.i64 (-1)] []] [], D.sl 2 true [] []])] = some (IV.tup [IV.d (D.bool w74), IV.d (D.int IntKind.i64 w75)], [IV.d w76, IV.d w77, IV.d w78]) ∧ condW w74 (Q (some (IV.d (D.bool false), []))) (Q (some (IV.d (D.bool false), [])))))) := by kernel_rfl
end Go.Proofs.YtekdlnofmbfdgaaDoor.Ab

/- The words that chapter 10's laws ask first: true. No condition. -/
set_option linter.unusedVariables false
set_option linter.unusedSimpArgs false
set_option maxRecDepth 100000
namespace Go.Proofs.YtekdlnofmbfdgaaDoor.Ab
open Go Go.Ab Go.Qu Go.Proofs
def awG : List Sym := [⟨⟨#[61]⟩, 0, 2, 1⟩, ⟨⟨#[97]⟩, 1, 0, 1⟩, ⟨⟨#[98]⟩, 1, 0, 2⟩, ⟨⟨#[102]⟩, 1, 1, 1⟩, ⟨⟨#[103]⟩, 1, 2, 3⟩, ⟨⟨#[112]⟩, 0, 1, 1⟩, ⟨⟨#[114]⟩, 0, 2, 2⟩]
def awC : Cl := ⟨false, [⟨false, ⟨false, [5, -1], []⟩⟩], [], false, [⟨false, [-1], []⟩], [], true, [], []⟩
def awD : Cl := ⟨false, [⟨false, ⟨false, [5, 2], []⟩⟩, ⟨false, ⟨false, [5, 1], []⟩⟩], [], false, [⟨false, [1], []⟩], [], true, [], []⟩
def awE : Cl := ⟨true, [], [], false, [⟨false, [5], []⟩], [], true, [], []⟩
theorem awC_nil : NilC awC := fun r hr hz => by
  simp [rowsOf, awC] at hr
  rcases hr with rfl | rfl <;> cases hz
theorem awD_nil : NilC awD := fun r hr hz => by
  simp [rowsOf, awD] at hr
  rcases hr with rfl | rfl | rfl <;> cases hz
theorem awE_nil : NilC awE := fun r hr hz => by
  simp [rowsOf, awE] at hr
  subst hr; cases hz
theorem awC_may : clB awG awC = true := by decide +kernel
theorem awD_may : clB awG awD = true := by decide +kernel
theorem awE_may : clB awG awE = false := by decide +kernel
theorem aw_l1 : lenN awG [1] 1 = some 1 := by decide +kernel
theorem aw_l2 : lenN awG [2] 1 = some 1 := by decide +kernel
theorem aw_pC : ptsC awC.c awD.c = [⟨[5, -1], [(0, [5, 2]), (1, [5, 1])]⟩, ⟨[-1], [(0, [1])]⟩] := by rfl
theorem aw_pD : ptsC awD.c awC.c = [⟨[5, 2], [(0, [5, -1])]⟩, ⟨[5, 1], [(0, [5, -1])]⟩, ⟨[1], [(0, [-1])]⟩] := by rfl
theorem aw_pl : plM awG awC awD = some [1, 0] := by
  unfold plM
  rw [aw_pC]
  simp [findF, tryF, growF, aw_l1, aw_l2, vN, Bs.upd]
theorem aw_dl : (plM awG awD awC).isSome = false := by
  unfold plM
  rw [aw_pD]
  simp [findF, tryF, growF]
theorem aw_places : C 10 [iG false awG [], iC awC, iC awD] = some (.tup [.own false 3 1 (ints [1, 0]), iB true, iI 0], [iG false awG [], iC awC, iC awD]) := by
  obtain ⟨v, h1, h2, _⟩ := w_places (g := awG) false [] awC_nil awD_nil
  rw [awC_may, awD_may, aw_pl] at h2
  rw [h1, h2 rfl]; rfl
theorem aw_does : C 12 [iG false awG [], iC awD, iC awC] = some (.tup [iB false, iI 0], [iG false awG [], iC awD, iC awC]) := by
  have h := w_does (g := awG) false [] awD_nil awC_nil
  have hm : mayB awG awD awC = true := by unfold mayB; rw [awD_may, awC_may]; rfl
  rw [hm, aw_dl] at h
  exact h
theorem aw_form : C 12 [iG false awG [], iC awE, iC awC] = some (.tup [iB false, iI 1000], [iG false awG [], iC awE, iC awC]) := by
  have h := w_does (g := awG) false [] awE_nil awC_nil
  have hm : mayB awG awE awC = false := by unfold mayB; rw [awE_may]; rfl
  rw [hm] at h
  exact h
theorem w_words : C 33 [] = some (.own false 103 4 (syms awG), []) := W_ev (n := 60) (by kernel_rfl)
theorem w_awake : C 16 [] = some (iB true, []) := by
  refine wfn (lk := []) rfl rfl (fnW_way (q16 _ _ _) ?_)
  have hi := w_sameints (a := [1, 0]) (by unfold Len; simp) [1, 0] false false [] []
  rw [decide_eq_true rfl] at hi
  exact ⟨_, _, w_words, _, _, _, _, _, _, _, aw_places, condW_t rfl ⟨_, _, w_words, _, _, _, _, _, aw_does, condW_f rfl ⟨_, _, w_words, _, _, _, _, _, aw_form, condW_f rfl ⟨_, _, w_num _, condW_t rfl ⟨_, _, _, hi, condW_t rfl ⟨_, _, w_num _, condW_t rfl ⟨_, _, w_num _, condW_t rfl rfl⟩⟩⟩⟩⟩⟩⟩
end Go.Proofs.YtekdlnofmbfdgaaDoor.Ab

/- Written by a program of this session (wip/tools/AbSym.lean). Not trusted: Lean checks it. -/
set_option maxRecDepth 100000
set_option linter.unusedVariables false
namespace Go.Proofs.YtekdlnofmbfdgaaDoor.Ab
open Go Go.Ab Go.Proofs
def L3 : Lps := fun b => match b with
  | _ => [.norm []]
theorem q3 (C J) (z1 : Bool) (x2 : List D) (e3 : List D) (z4 : Bool) (x5 : List D) (e6 : List D) (z7 : Bool) (x8 : List D) (e9 : List D) (z10 : Bool) (x11 : List D) (e12 : List D) (z13 : Bool) (x14 : List D) (e15 : List D) (z16 : Bool) (x17 : List D) (e18 : List D) (z19 : Bool) (x20 : List D) (e21 : List D) (Q) : fnW F C R (L3) J d3 [.d (.sl 4 z1 x2 e3), .d (.agg [.sl 2 z4 x5 e6, .sl 1 z7 x8 e9, .sl 2 z10 x11 e12]), .d (.agg [.sl 2 z13 x14 e15, .sl 1 z16 x17 e18, .sl 2 z19 x20 e21])] Q = (∃ w0 w1 w2 w3 w4 w5 w6, C 9 [IV.d (D.agg [D.sl 2 z4 x5 e6, D.sl 1 z7 x8 e9, D.sl 2 z10 x11 e12])] = some (IV.agg [IV.own w0 68 2 w1, IV.own w2 28 1 w3, IV.own w4 68 2 w5], [IV.d w6]) ∧ ∃ w7 w8 w9 w10 w11 w12 w13, C 9 [IV.d (D.agg [D.sl 2 z13 x14 e15, D.sl 1 z16 x17 e18, D.sl 2 z19 x20 e21])] = some (IV.agg [IV.own w7 68 2 w8, IV.own w9 28 1 w10, IV.own w11 68 2 w12], [IV.d w13]) ∧ ∃ w14 w15 w16 w17 w18 w19 w20, C 10 [IV.d (D.sl 4 z1 x2 e3), IV.d (D.agg [D.sl 2 z4 x5 e6, D.sl 1 z7 x8 e9, D.sl 2 z10 x11 e12]), IV.d (D.agg [D.sl 2 z13 x14 e15, D.sl 1 z16 x17 e18, D.sl 2 z19 x20 e21])] = some (IV.tup [IV.own w14 3 1 w15, IV.d (D.bool w16), IV.d (D.int IntKind.i64 w17)], [IV.d w18, IV.d w19, IV.d w20]) ∧ condW w16 (∃ w21 w22 w23 w24 w25 w26 w27, C 11 [IV.d (D.sl 4 z1 x2 e3), IV.d (D.agg [D.sl 2 z4 x5 e6, D.sl 1 z7 x8 e9, D.sl 2 z10 x11 e12]), IV.d (D.agg [D.sl 2 z13 x14 e15, D.sl 1 z16 x17 e18, D.sl 2 z19 x20 e21])] = some (IV.tup [IV.own w21 3 1 w22, IV.d (D.bool w23), IV.d (D.int IntKind.i64 w24)], [IV.d w25, IV.d w26, IV.d w27]) ∧ condW w23 (∃ w28 w29 w30 w31 w32, C 12 [IV.d (D.sl 4 z1 x2 e3), IV.d (D.agg [D.sl 2 z4 x5 e6, D.sl 1 z7 x8 e9, D.sl 2 z10 x11 e12]), IV.d (D.agg [D.sl 2 z13 x14 e15, D.sl 1 z16 x17 e18, D.sl 2 z19 x20 e21])] = some (IV.tup [IV.d (D.bool w28), IV.d (D.int IntKind.i64 w29)], [IV.d w30, IV.d w31, IV.d w32]) ∧ condW w28 (∃ w33 w34 w35, C 13 [IV.d (D.sl 1 w14 w15 []), IV.d (D.sl 1 w21 w22 [])] = some (IV.d (D.bool w33), [IV.d w34, IV.d w35]) ∧ condW w33 (∃ w36 w37, C 14 [IV.d (D.int IntKind.i64 w17)] = some (IV.d (D.int IntKind.i64 w36), [IV.d w37]) ∧ condW (w36 == w24) (∃ w38 w39, C 14 [IV.d (D.int IntKind.i64 w29)] = some (IV.d (D.int IntKind.i64 w38), [IV.d w39]) ∧ condW (w38 == w24) (∃ w40 w41 w42, C 15 [IV.d (D.agg [D.sl 2 z4 x5 e6, D.sl 1 z7 x8 e9, D.sl 2 z10 x11 e12]), IV.d (D.agg [D.sl 2 w0 w1 [], D.sl 1 w2 w3 [], D.sl 2 w4 w5 []])] = some (IV.d (D.bool w40), [IV.d w41, IV.d w42]) ∧ condW w40 (∃ w43 w44 w45, C 15 [IV.d (D.agg [D.sl 2 z13 x14 e15, D.sl 1 z16 x17 e18, D.sl 2 z19 x20 e21]), IV.d (D.agg [D.sl 2 w7 w8 [], D.sl 1 w9 w10 [], D.sl 2 w11 w12 []])] = some (IV.d (D.bool w43), [IV.d w44, IV.d w45]) ∧ condW w43 (∃ w46, C 16 [] = some (IV.d (D.bool w46), []) ∧ condW w46 (Q (some (IV.d (D.bool true), [IV.d (D.sl 4 z1 x2 e3), IV.d (D.agg [D.sl 2 z4 x5 e6, D.sl 1 z7 x8 e9, D.sl 2 z10 x11 e12]), IV.d (D.agg [D.sl 2 z13 x14 e15, D.sl 1 z16 x17 e18, D.sl 2 z19 x20 e21])]))) (Q (some (IV.d (D.bool false), [IV.d (D.sl 4 z1 x2 e3), IV.d (D.agg [D.sl 2 z4 x5 e6, D.sl 1 z7 x8 e9, D.sl 2 z10 x11 e12]), IV.d (D.agg [D.sl 2 z13 x14 e15, D.sl 1 z16 x17 e18, D.sl 2 z19 x20 e21])])))) (Q (some (IV.d (D.bool false), [IV.d (D.sl 4 z1 x2 e3), IV.d (D.agg [D.sl 2 z4 x5 e6, D.sl 1 z7 x8 e9, D.sl 2 z10 x11 e12]), IV.d (D.agg [D.sl 2 z13 x14 e15, D.sl 1 z16 x17 e18, D.sl 2 z19 x20 e21])])))) (Q (some (IV.d (D.bool false), [IV.d (D.sl 4 z1 x2 e3), IV.d (D.agg [D.sl 2 z4 x5 e6, D.sl 1 z7 x8 e9, D.sl 2 z10 x11 e12]), IV.d (D.agg [D.sl 2 z13 x14 e15, D.sl 1 z16 x17 e18, D.sl 2 z19 x20 e21])])))) (Q (some (IV.d (D.bool false), [IV.d (D.sl 4 z1 x2 e3), IV.d (D.agg [D.sl 2 z4 x5 e6, D.sl 1 z7 x8 e9, D.sl 2 z10 x11 e12]), IV.d (D.agg [D.sl 2 z13 x14 e15, D.sl 1 z16 x17 e18, D.sl 2 z19 x20 e21])])))) (Q (some (IV.d (D.bool false), [IV.d (D.sl 4 z1 x2 e3), IV.d (D.agg [D.sl 2 z4 x5 e6, D.sl 1 z7 x8 e9, D.sl 2 z10 x11 e12]), IV.d (D.agg [D.sl 2 z13 x14 e15, D.sl 1 z16 x17 e18, D.sl 2 z19 x20 e21])])))) (Q (some (IV.d (D.bool false), [IV.d (D.sl 4 z1 x2 e3), IV.d (D.agg [D.sl 2 z4 x5 e6, D.sl 1 z7 x8 e9, D.sl 2 z10 x11 e12]), IV.d (D.agg [D.sl 2 z13 x14 e15, D.sl 1 z16 x17 e18, D.sl 2 z19 x20 e21])])))) (∃ w47 w48 w49, C 13 [IV.d (D.sl 1 w14 w15 []), IV.d (D.sl 1 w21 w22 [])] = some (IV.d (D.bool w47), [IV.d w48, IV.d w49]) ∧ condW w47 (∃ w50 w51, C 14 [IV.d (D.int IntKind.i64 w17)] = some (IV.d (D.int IntKind.i64 w50), [IV.d w51]) ∧ condW (w50 == w24) (Q (some (IV.d (D.bool false), [IV.d (D.sl 4 z1 x2 e3), IV.d (D.agg [D.sl 2 z4 x5 e6, D.sl 1 z7 x8 e9, D.sl 2 z10 x11 e12]), IV.d (D.agg [D.sl 2 z13 x14 e15, D.sl 1 z16 x17 e18, D.sl 2 z19 x20 e21])]))) (Q (some (IV.d (D.bool false), [IV.d (D.sl 4 z1 x2 e3), IV.d (D.agg [D.sl 2 z4 x5 e6, D.sl 1 z7 x8 e9, D.sl 2 z10 x11 e12]), IV.d (D.agg [D.sl 2 z13 x14 e15, D.sl 1 z16 x17 e18, D.sl 2 z19 x20 e21])])))) (Q (some (IV.d (D.bool false), [IV.d (D.sl 4 z1 x2 e3), IV.d (D.agg [D.sl 2 z4 x5 e6, D.sl 1 z7 x8 e9, D.sl 2 z10 x11 e12]), IV.d (D.agg [D.sl 2 z13 x14 e15, D.sl 1 z16 x17 e18, D.sl 2 z19 x20 e21])]))))) (∃ w52 w53 w54 w55 w56, C 12 [IV.d (D.sl 4 z1 x2 e3), IV.d (D.agg [D.sl 2 z4 x5 e6, D.sl 1 z7 x8 e9, D.sl 2 z10 x11 e12]), IV.d (D.agg [D.sl 2 z13 x14 e15, D.sl 1 z16 x17 e18, D.sl 2 z19 x20 e21])] = some (IV.tup [IV.d (D.bool w52), IV.d (D.int IntKind.i64 w53)], [IV.d w54, IV.d w55, IV.d w56]) ∧ condW w52 (∃ w57 w58 w59, C 13 [IV.d (D.sl 1 w14 w15 []), IV.d (D.sl 1 w21 w22 [])] = some (IV.d (D.bool w57), [IV.d w58, IV.d w59]) ∧ condW w57 (Q (some (IV.d (D.bool false), [IV.d (D.sl 4 z1 x2 e3), IV.d (D.agg [D.sl 2 z4 x5 e6, D.sl 1 z7 x8 e9, D.sl 2 z10 x11 e12]), IV.d (D.agg [D.sl 2 z13 x14 e15, D.sl 1 z16 x17 e18, D.sl 2 z19 x20 e21])]))) (Q (some (IV.d (D.bool false), [IV.d (D.sl 4 z1 x2 e3), IV.d (D.agg [D.sl 2 z4 x5 e6, D.sl 1 z7 x8 e9, D.sl 2 z10 x11 e12]), IV.d (D.agg [D.sl 2 z13 x14 e15, D.sl 1 z16 x17 e18, D.sl 2 z19 x20 e21])])))) (∃ w60 w61 w62, C 13 [IV.d (D.sl 1 w14 w15 []), IV.d (D.sl 1 w21 w22 [])] = some (IV.d (D.bool w60), [IV.d w61, IV.d w62]) ∧ condW w60 (Q (some (IV.d (D.bool false), [IV.d (D.sl 4 z1 x2 e3), IV.d (D.agg [D.sl 2 z4 x5 e6, D.sl 1 z7 x8 e9, D.sl 2 z10 x11 e12]), IV.d (D.agg [D.sl 2 z13 x14 e15, D.sl 1 z16 x17 e18, D.sl 2 z19 x20 e21])]))) (Q (some (IV.d (D.bool false), [IV.d (D.sl 4 z1 x2 e3), IV.d (D.agg [D.sl 2 z4 x5 e6, D.sl 1 z7 x8 e9, D.sl 2 z10 x11 e12]), IV.d (D.agg [D.sl 2 z13 x14 e15, D.sl 1 z16 x17 e18, D.sl 2 z19 x20 e21])])))))) (∃ w63 w64 w65 w66 w67 w68 w69, C 11 [IV.d (D.sl 4 z1 x2 e3), IV.d (D.agg [D.sl 2 z4 x5 e6, D.sl 1 z7 x8 e9, D.sl 2 z10 x11 e12]), IV.d (D.agg [D.sl 2 z13 x14 e15, D.sl 1 z16 x17 e18, D.sl 2 z19 x20 e21])] = some (IV.tup [IV.own w63 3 1 w64, IV.d (D.bool w65), IV.d (D.int IntKind.i64 w66)], [IV.d w67, IV.d w68, IV.d w69]) ∧ condW w65 (∃ w70 w71 w72 w73 w74, C 12 [IV.d (D.sl 4 z1 x2 e3), IV.d (D.agg [D.sl 2 z4 x5 e6, D.sl 1 z7 x8 e9, D.sl 2 z10 x11 e12]), IV.d (D.agg [D.sl 2 z13 x14 e15, D.sl 1 z16 x17 e18, D.sl 2 z19 x20 e21])] = some (IV.tup [IV.d (D.bool w70), IV.d (D.int IntKind.i64 w71)], [IV.d w72, IV.d w73, IV.d w74]) ∧ condW w70 (∃ w75 w76 w77, C 13 [IV.d (D.sl 1 w14 w15 []), IV.d (D.sl 1 w63 w64 [])] = some (IV.d (D.bool w75), [IV.d w76, IV.d w77]) ∧ condW w75 (Q (some (IV.d (D.bool false), [IV.d (D.sl 4 z1 x2 e3), IV.d (D.agg [D.sl 2 z4 x5 e6, D.sl 1 z7 x8 e9, D.sl 2 z10 x11 e12]), IV.d (D.agg [D.sl 2 z13 x14 e15, D.sl 1 z16 x17 e18, D.sl 2 z19 x20 e21])]))) (Q (some (IV.d (D.bool false), [IV.d (D.sl 4 z1 x2 e3), IV.d (D.agg [D.sl 2 z4 x5 e6, D.sl 1 z7 x8 e9, D.sl 2 z10 x11 e12]), IV.d (D.agg [D.sl 2 z13 x14 e15, D.sl 1 z16 x17 e18, D.sl 2 z19 x20 e21])])))) (∃ w78 w79 w80, C 13 [IV.d (D.sl 1 w14 w15 []), IV.d (D.sl 1 w63 w64 [])] = some (IV.d (D.bool w78), [IV.d w79, IV.d w80]) ∧ condW w78 (Q (some (IV.d (D.bool false), [IV.d (D.sl 4 z1 x2 e3), IV.d (D.agg [D.sl 2 z4 x5 e6, D.sl 1 z7 x8 e9, D.sl 2 z10 x11 e12]), IV.d (D.agg [D.sl 2 z13 x14 e15, D.sl 1 z16 x17 e18, D.sl 2 z19 x20 e21])]))) (Q (some (IV.d (D.bool false), [IV.d (D.sl 4 z1 x2 e3), IV.d (D.agg [D.sl 2 z4 x5 e6, D.sl 1 z7 x8 e9, D.sl 2 z10 x11 e12]), IV.d (D.agg [D.sl 2 z13 x14 e15, D.sl 1 z16 x17 e18, D.sl 2 z19 x20 e21])]))))) (∃ w81 w82 w83 w84 w85, C 12 [IV.d (D.sl 4 z1 x2 e3), IV.d (D.agg [D.sl 2 z4 x5 e6, D.sl 1 z7 x8 e9, D.sl 2 z10 x11 e12]), IV.d (D.agg [D.sl 2 z13 x14 e15, D.sl 1 z16 x17 e18, D.sl 2 z19 x20 e21])] = some (IV.tup [IV.d (D.bool w81), IV.d (D.int IntKind.i64 w82)], [IV.d w83, IV.d w84, IV.d w85]) ∧ condW w81 (∃ w86 w87 w88, C 13 [IV.d (D.sl 1 w14 w15 []), IV.d (D.sl 1 w63 w64 [])] = some (IV.d (D.bool w86), [IV.d w87, IV.d w88]) ∧ condW w86 (∃ w89 w90, C 14 [IV.d (D.int IntKind.i64 w17)] = some (IV.d (D.int IntKind.i64 w89), [IV.d w90]) ∧ condW (w89 == w66) (Q (some (IV.d (D.bool false), [IV.d (D.sl 4 z1 x2 e3), IV.d (D.agg [D.sl 2 z4 x5 e6, D.sl 1 z7 x8 e9, D.sl 2 z10 x11 e12]), IV.d (D.agg [D.sl 2 z13 x14 e15, D.sl 1 z16 x17 e18, D.sl 2 z19 x20 e21])]))) (Q (some (IV.d (D.bool false), [IV.d (D.sl 4 z1 x2 e3), IV.d (D.agg [D.sl 2 z4 x5 e6, D.sl 1 z7 x8 e9, D.sl 2 z10 x11 e12]), IV.d (D.agg [D.sl 2 z13 x14 e15, D.sl 1 z16 x17 e18, D.sl 2 z19 x20 e21])])))) (Q (some (IV.d (D.bool false), [IV.d (D.sl 4 z1 x2 e3), IV.d (D.agg [D.sl 2 z4 x5 e6, D.sl 1 z7 x8 e9, D.sl 2 z10 x11 e12]), IV.d (D.agg [D.sl 2 z13 x14 e15, D.sl 1 z16 x17 e18, D.sl 2 z19 x20 e21])])))) (∃ w91 w92 w93, C 13 [IV.d (D.sl 1 w14 w15 []), IV.d (D.sl 1 w63 w64 [])] = some (IV.d (D.bool w91), [IV.d w92, IV.d w93]) ∧ condW w91 (∃ w94 w95, C 14 [IV.d (D.int IntKind.i64 w17)] = some (IV.d (D.int IntKind.i64 w94), [IV.d w95]) ∧ condW (w94 == w66) (∃ w96 w97, C 14 [IV.d (D.int IntKind.i64 w82)] = some (IV.d (D.int IntKind.i64 w96), [IV.d w97]) ∧ condW (w96 == w66) (∃ w98 w99 w100, C 15 [IV.d (D.agg [D.sl 2 z4 x5 e6, D.sl 1 z7 x8 e9, D.sl 2 z10 x11 e12]), IV.d (D.agg [D.sl 2 w0 w1 [], D.sl 1 w2 w3 [], D.sl 2 w4 w5 []])] = some (IV.d (D.bool w98), [IV.d w99, IV.d w100]) ∧ condW w98 (∃ w101 w102 w103, C 15 [IV.d (D.agg [D.sl 2 z13 x14 e15, D.sl 1 z16 x17 e18, D.sl 2 z19 x20 e21]), IV.d (D.agg [D.sl 2 w7 w8 [], D.sl 1 w9 w10 [], D.sl 2 w11 w12 []])] = some (IV.d (D.bool w101), [IV.d w102, IV.d w103]) ∧ condW w101 (∃ w104, C 16 [] = some (IV.d (D.bool w104), []) ∧ condW w104 (Q (some (IV.d (D.bool true), [IV.d (D.sl 4 z1 x2 e3), IV.d (D.agg [D.sl 2 z4 x5 e6, D.sl 1 z7 x8 e9, D.sl 2 z10 x11 e12]), IV.d (D.agg [D.sl 2 z13 x14 e15, D.sl 1 z16 x17 e18, D.sl 2 z19 x20 e21])]))) (Q (some (IV.d (D.bool false), [IV.d (D.sl 4 z1 x2 e3), IV.d (D.agg [D.sl 2 z4 x5 e6, D.sl 1 z7 x8 e9, D.sl 2 z10 x11 e12]), IV.d (D.agg [D.sl 2 z13 x14 e15, D.sl 1 z16 x17 e18, D.sl 2 z19 x20 e21])])))) (Q (some (IV.d (D.bool false), [IV.d (D.sl 4 z1 x2 e3), IV.d (D.agg [D.sl 2 z4 x5 e6, D.sl 1 z7 x8 e9, D.sl 2 z10 x11 e12]), IV.d (D.agg [D.sl 2 z13 x14 e15, D.sl 1 z16 x17 e18, D.sl 2 z19 x20 e21])])))) (Q (some (IV.d (D.bool false), [IV.d (D.sl 4 z1 x2 e3), IV.d (D.agg [D.sl 2 z4 x5 e6, D.sl 1 z7 x8 e9, D.sl 2 z10 x11 e12]), IV.d (D.agg [D.sl 2 z13 x14 e15, D.sl 1 z16 x17 e18, D.sl 2 z19 x20 e21])])))) (Q (some (IV.d (D.bool false), [IV.d (D.sl 4 z1 x2 e3), IV.d (D.agg [D.sl 2 z4 x5 e6, D.sl 1 z7 x8 e9, D.sl 2 z10 x11 e12]), IV.d (D.agg [D.sl 2 z13 x14 e15, D.sl 1 z16 x17 e18, D.sl 2 z19 x20 e21])])))) (Q (some (IV.d (D.bool false), [IV.d (D.sl 4 z1 x2 e3), IV.d (D.agg [D.sl 2 z4 x5 e6, D.sl 1 z7 x8 e9, D.sl 2 z10 x11 e12]), IV.d (D.agg [D.sl 2 z13 x14 e15, D.sl 1 z16 x17 e18, D.sl 2 z19 x20 e21])])))) (Q (some (IV.d (D.bool false), [IV.d (D.sl 4 z1 x2 e3), IV.d (D.agg [D.sl 2 z4 x5 e6, D.sl 1 z7 x8 e9, D.sl 2 z10 x11 e12]), IV.d (D.agg [D.sl 2 z13 x14 e15, D.sl 1 z16 x17 e18, D.sl 2 z19 x20 e21])]))))))) := by kernel_rfl
end Go.Proofs.YtekdlnofmbfdgaaDoor.Ab

/- Chapter 10's law Subsumes: for every input the law returns true. No condition. -/
set_option linter.unusedVariables false
set_option linter.unusedSimpArgs false
set_option maxRecDepth 100000
namespace Go.Proofs.YtekdlnofmbfdgaaDoor.Ab
open Go Go.Ab Go.Qu Go.Proofs
theorem w_copyC {c : Cl} (h : ClIn c) : C 9 [iC c] = some (.agg [.own c.ls.isEmpty 68 2 (lits (c.ls.map freshL)), .own c.ts.isEmpty 28 1 (rws (c.ts.map fresh)), .own c.cs.isEmpty 68 2 (lits (c.cs.map freshL))], [iC c]) := w_copyclause h
theorem w_sameC {c : Cl} (h : ClIn c) : C 15 [iC c, iC (freshC c)] = some (iB true, [iC c, iC (freshC c)]) := by
  rw [w_sameclause h (freshC c), freshC_key]; simp
theorem law_subsumes (z : Bool) (g : List Sym) {c d : Cl} (ic : ClIn c) (id : ClIn d) (hn : NilC c) (hm : NilC d) : C 3 [iG z g [], iC c, iC d] = some (iB true, [iG z g [], iC c, iC d]) := by
  refine wfn (lk := []) rfl rfl (fnW_way (q3 _ _ z (syms g) [] c.lz (lits c.ls) c.le c.tz (rws c.ts) c.te c.cz (lits c.cs) c.ce d.lz (lits d.ls) d.le d.tz (rws d.ts) d.te d.cz (lits d.cs) d.ce _) ?_)
  obtain ⟨v, p1, p2, p3⟩ := w_places (g := g) z [] hn hm
  obtain ⟨u, r1, r2, r3⟩ := w_rplaces (g := g) z [] hn hm
  have hd := w_does (g := g) z [] hn hm
  refine ⟨_, _, _, _, _, _, _, w_copyC ic, _, _, _, _, _, _, _, w_copyC id, ?_⟩
  cases hb : (clB g c && clB g d)
  · have e1 := p3 hb; have e2 := r3 hb
    subst e1; subst e2
    have hmb : mayB g c d = false := hb
    rw [hmb] at hd
    have hs := w_sameints (a := []) (by unfold Len; simp) [] true true [] []
    refine ⟨_, _, _, _, _, _, _, p1, condW_f rfl ⟨_, _, _, _, _, _, _, r1, condW_f rfl ⟨_, _, _, _, _, hd, condW_f rfl ⟨_, _, _, hs, condW_t rfl ⟨_, _, w_num _, condW_t rfl ⟨_, _, w_num _, condW_t rfl ⟨_, _, _, w_sameC ic, condW_t rfl ⟨_, _, _, w_sameC id, condW_t rfl ⟨_, w_awake, condW_t rfl rfl⟩⟩⟩⟩⟩⟩⟩⟩⟩
  · have e1 := p2 hb; have e2 := r2 hb
    have hmb : mayB g c d = true := hb
    rw [hmb] at hd
    cases hp : plM g c d with
    | none =>
      rw [hp] at e1 e2 hd
      subst e1; subst e2
      have hs := w_sameints (a := []) (by unfold Len; simp) [] true true [] []
      refine ⟨_, _, _, _, _, _, _, p1, condW_f rfl ⟨_, _, _, _, _, _, _, r1, condW_f rfl ⟨_, _, _, _, _, hd, condW_f rfl ⟨_, _, _, hs, condW_t rfl ⟨_, _, w_num _, condW_t rfl ⟨_, _, w_num _, condW_t rfl ⟨_, _, _, w_sameC ic, condW_t rfl ⟨_, _, _, w_sameC id, condW_t rfl ⟨_, w_awake, condW_t rfl rfl⟩⟩⟩⟩⟩⟩⟩⟩⟩
    | some r =>
      rw [hp] at e1 e2 hd
      subst e1; subst e2
      have hrl := try_len (g := g) (s := fun _ => none) (ps := ptsC c.c d.c) (r := r) hp
      have hlen : Len (rI r) := by
        rw [Bool.and_eq_true] at hb
        have kc := clOk.1 ((clB_c g c).symm.trans hb.1)
        have l1 := kc.l5; have l2 := kc.t3; have l3 := kc.c3
        unfold Len
        rw [rI, List.length_map, hrl]
        simp [ptsC]
        omega
      have hs := w_sameints hlen (rI r) r.isEmpty r.isEmpty [] []
      rw [decide_eq_true rfl] at hs
      refine ⟨_, _, _, _, _, _, _, p1, condW_t rfl ⟨_, _, _, _, _, _, _, r1, condW_t rfl ⟨_, _, _, _, _, hd, condW_t rfl ⟨_, _, _, hs, condW_t rfl ⟨_, _, w_num _, condW_t rfl ⟨_, _, w_num _, condW_t rfl ⟨_, _, _, w_sameC ic, condW_t rfl ⟨_, _, _, w_sameC id, condW_t rfl ⟨_, w_awake, condW_t rfl rfl⟩⟩⟩⟩⟩⟩⟩⟩⟩
theorem call_subsumes (y0 y1 y2 : D) (g0 : Go.Ab.Good Tryd.prog 12 22 y0) (g1 : Go.Ab.Good Tryd.prog 12 26 y1) (g2 : Go.Ab.Good Tryd.prog 12 26 y2) : ∃ outs, C 3 [.d y0, .d y1, .d y2] = some (iB true, outs) := by
  obtain ⟨z, g, rfl⟩ := good_sig g0
  obtain ⟨c, rfl, ic, hn⟩ := good_clauseN g1
  obtain ⟨d, rfl, id, hm⟩ := good_clauseN g2
  exact ⟨_, law_subsumes z g ic id hn hm⟩
end Go.Proofs.YtekdlnofmbfdgaaDoor.Ab
