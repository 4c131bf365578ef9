/- What the rows of this seat share: the variable that is laid, the world in which it is so. No condition. -/
import Derived.Below
import Derived.ChangeOld
import Derived.LaidMore
import Derived.Lib.SmallJoins
import Derived.OpenShut
import Derived.ProofKit
import Derived.SevenTiedAt
import Derived.ShutString
import Derived.SizedLaws
import Derived.Stop.Joined
import Derived.Test.YtekdlnofmbfdgaaDoorCards
import Derived.Test.YtekdlnofmbfdgaaDoorRows
import Derived.Test.YtekdlnofmbfdgaaDoorTie
import Derived.WalkKit
import Derived.Test.YtekdlnofmbfdgaaDoorSubsumeMade0
import Derived.Test.YtekdlnofmbfdgaaDoorSubsumeMade1
import Derived.Test.YtekdlnofmbfdgaaDoorSubsumeMade2
import Derived.Test.YtekdlnofmbfdgaaDoorSubsumeMade3
import Derived.Test.YtekdlnofmbfdgaaDoorSubsumeMade4
import Derived.Test.YtekdlnofmbfdgaaDoorSubsumeMade5
import Derived.Test.YtekdlnofmbfdgaaDoorSubsumeMade6
import Derived.Test.YtekdlnofmbfdgaaDoorSubsumeMade7
import Derived.Test.YtekdlnofmbfdgaaDoorSubsumeMade8
import Derived.Test.YtekdlnofmbfdgaaDoorSubsumeMade9
import Derived.Test.YtekdlnofmbfdgaaDoorSubsumeMade10
import Derived.Test.YtekdlnofmbfdgaaDoorSubsumeMade11
import Derived.Test.YtekdlnofmbfdgaaDoorSubsumeMade12
import Derived.Test.YtekdlnofmbfdgaaDoorSubsumeMade13
import Derived.Test.YtekdlnofmbfdgaaDoorSubsumeMade14
import Derived.Test.YtekdlnofmbfdgaaDoorSubsumeMade15
import Derived.Test.YtekdlnofmbfdgaaDoorSubsumeMade16
import Derived.Test.YtekdlnofmbfdgaaDoorSubsumeMade17
namespace Go.Proofs.YtekdlnofmbfdgaaDoor.Ab
open Go Go.Ab Go.Qu Go.Proofs Go.ChangeShapes Go.WideShapes Go.ChangeAt Go.RowKit Go.Joins
set_option linter.unusedVariables false
set_option maxRecDepth 100000
theorem own : ownKnob Tryd.prog.godebug = none := by kernel_rfl
theorem laidOut : laidOutB Tryd.prog = true := by kernel_rfl
abbrev laid1 : List (String × DataW Unit) := [("quaere/sign.equals", Rows.laid_quaere_sign_equals)]
theorem gEq : Tryd.prog.globalNamed "quaere/sign.equals" = some 0 := by kernel_rfl
theorem tEq : (Tryd.prog.globals[0]?).map (·.type) = some 103 := by kernel_rfl
theorem door_met (os : Os) (args : Array Value) : laidMetH Tryd.prog laid1 ((World.doorLaid Tryd.prog 400 os).forCall (fun _ _ => 0) ⟨#[], args, []⟩).memory :=
  laidMetH_of_parts3 (fuel := 8) (laidMet_of_run' 8 (by kernel_rfl) (by kernel_rfl)) (by kernel_rfl) (by kernel_rfl)
theorem globs {W : World} (h : laidMetH Tryd.prog laid1 W) : GlobOk (Hw W) F.G := by
  rw [MakeChecks.laidMetH_plain _ _ _ (by kernel_rfl)] at h
  obtain ⟨ps, ⟨g0, t0, cs0, f0, p0, q0, hg0, ht0, hv0, hd0, _, _⟩, _, _⟩ := h
  obtain rfl := Option.some.inj (gEq.symm.trans hg0)
  obtain rfl := Option.some.inj (tEq.symm.trans ht0)
  obtain ⟨xs, n, _, hx, hlen, hxl, hf⟩ := DataW.trod_struct Tryd.underlying103 hd0
  have c1 : Tryd.prog.cellsOf 103 = 4 := by kernel_rfl
  have cs : Tryd.prog.cellsOf 9 = 1 := by kernel_rfl
  have ci : Tryd.prog.cellsOf 3 = 1 := by kernel_rfl
  rw [c1] at hlen
  have hx1 : xs.map (·.1) = [.lit (.string [61]), .lit (.int .i64 0), .lit (.int .i64 2), .lit (.int .i64 1)] := by
    simp only [Prod.mk.injEq] at hx
    have h9 := hx.1
    unfold Rows.laid_quaere_sign_equals at h9
    simp only [DataW.agg.injEq] at h9
    exact h9.symm
  have hcs : ∃ a b c d, cs0.toList = [a, b, c, d] := by
    match h : cs0.toList, hlen with
    | [a, b, c, d], _ => exact ⟨a, b, c, d, rfl⟩
  obtain ⟨a, b, c, d, hcs⟩ := hcs
  have hxs : ∃ x0 x1 x2 x3, xs = [x0, x1, x2, x3] := by
    match xs, hxl with
    | [x0, x1, x2, x3], _ => exact ⟨x0, x1, x2, x3, rfl⟩
  obtain ⟨x0, x1, x2, x3, rfl⟩ := hxs
  simp only [List.map_cons, List.map_nil, List.cons.injEq, and_true] at hx1
  obtain ⟨e0, e1, e2, e3⟩ := hx1
  have h0 : DataW.trod (fun _ => ()) Tryd.prog W 0 (fun _ => true) false n 9 ((cs0.toList.drop 0).take (Tryd.prog.cellsOf 9)) = some x0 := hf 0 _ rfl
  have h1 : DataW.trod (fun _ => ()) Tryd.prog W 0 (fun _ => true) false n 3 ((cs0.toList.drop 1).take (Tryd.prog.cellsOf 3)) = some x1 := hf 1 _ rfl
  have h2 : DataW.trod (fun _ => ()) Tryd.prog W 0 (fun _ => true) false n 3 ((cs0.toList.drop 2).take (Tryd.prog.cellsOf 3)) = some x2 := hf 2 _ rfl
  have h3 : DataW.trod (fun _ => ()) Tryd.prog W 0 (fun _ => true) false n 3 ((cs0.toList.drop 3).take (Tryd.prog.cellsOf 3)) = some x3 := hf 3 _ rfl
  rw [hcs, cs] at h0
  rw [hcs, ci] at h1 h2 h3
  obtain ⟨s, ha, hs, _⟩ := DataW.trod_string Tryd.underlying9 h0
  obtain ⟨n1, hb, hn1, _⟩ := DataW.trod_int Tryd.underlying3 h1
  obtain ⟨n2, hc, hn2, _⟩ := DataW.trod_int Tryd.underlying3 h2
  obtain ⟨n3, hd, hn3, _⟩ := DataW.trod_int Tryd.underlying3 h3
  simp at ha hb hc hd
  rw [hs] at e0; rw [hn1] at e1; rw [hn2] at e2; rw [hn3] at e3
  simp at e0 e1 e2 e3
  subst ha hb hc hd e1 e2 e3
  have hse : s = "=".toUTF8 := by
    have h5 : "=".toUTF8.data.toList = [61] := by decide +kernel
    have h6 : s.data = "=".toUTF8.data := Array.toList_inj.1 (e0.trans h5.symm)
    exact (show ∀ (x y : ByteArray), x.data = y.data → x = y by intro ⟨_⟩ ⟨_⟩ h; exact congrArg _ h) _ _ h6
  subst hse
  have hcell : ∀ (j : Nat) u, [Value.string "=".toUTF8, .int .i64 0, .int .i64 2, .int .i64 1][j]? = some u → W.cell? ⟨0, j, none⟩ = some u := fun j u hj => by
    have h7 := World.var?_cell hg0 hv0 j
    have h8 : cs0[j]? = some u := by rw [← Array.getElem?_toList, hcs]; exact hj
    rw [h8] at h7
    simpa using h7
  intro g cs hg
  simp only [F, List.map_cons, List.map_nil, assoc] at hg
  split at hg
  · rename_i hg0
    subst hg0
    simp only [Option.some.injEq] at hg
    subst hg
    refine ⟨[.string "=".toUTF8, .int .i64 0, .int .i64 2, .int .i64 1], ?_, fun j u hj => ?_, by simp [D.isAgg]⟩
    · unfold D.RepL; refine ⟨[_], _, rfl, by unfold D.Rep; rfl, ?_⟩
      unfold D.RepL; refine ⟨[_], _, rfl, by unfold D.Rep; rfl, ?_⟩
      unfold D.RepL; refine ⟨[_], _, rfl, by unfold D.Rep; rfl, ?_⟩
      unfold D.RepL; refine ⟨[_], [], rfl, by unfold D.Rep; rfl, ?_⟩
      unfold D.RepL; rfl
    · refine Hw.cell ?_
      have h9 := hcell j u hj
      unfold Addr.add
      split
      · rename_i hj0; subst hj0; exact h9
      · simpa using h9
  · simp at hg
theorem fxOk : FxOk Tryd.prog F where
  orders := by kernel_rfl
  tab := tab_ok
  code := code_ok.get
  prim := primOk
  ins := insAll
/-! ### Arguments -/
theorem good_sym {n : Nat} {x : D} (h : Go.Ab.Good Tryd.prog (n + 2) 103 x) : ∃ s : Sym, x = s.d := by
  unfold Go.Ab.Good at h
  rw [Tryd.underlying103] at h
  obtain ⟨ys, rfl, y0, r0, rfl, h0, y1, r1, rfl, h1, y2, r2, rfl, h2, y3, r3, rfl, h3, rfl⟩ := h
  unfold Go.Ab.Good at h0 h1 h2 h3
  simp only [Tryd.underlying9, Tryd.underlying3] at h0 h1 h2 h3
  obtain ⟨s, rfl, _⟩ := h0
  obtain ⟨a, rfl, _⟩ := h1
  obtain ⟨b, rfl, _⟩ := h2
  obtain ⟨c, rfl, _⟩ := h3
  exact ⟨⟨s, a, b, c⟩, rfl⟩
theorem good_sig {n : Nat} {x : D} (h : Go.Ab.Good Tryd.prog (n + 3) 22 x) : ∃ z g, x = .sl 4 z (syms g) [] := by
  unfold Go.Ab.Good at h
  rw [Tryd.underlying22] at h
  obtain ⟨z, xs, rfl, _, h2, _⟩ := h
  have hc : Tryd.prog.cellsOf 103 = 4 := by kernel_rfl
  rw [hc]
  obtain ⟨g, rfl, _⟩ := all_map (f := Sym.d) (Q := fun _ => True) (fun y hy => by obtain ⟨s, hs⟩ := good_sym (h2 y hy); exact ⟨s, hs, trivial⟩)
  exact ⟨z, g, rfl⟩
theorem good_int {n : Nat} {x : D} (h : Go.Ab.Good Tryd.prog (n + 1) 3 x) : ∃ a : Int, x = .int .i64 a ∧ -9223372036854775808 ≤ a ∧ a ≤ 9223372036854775807 := by
  unfold Go.Ab.Good at h
  rw [Tryd.underlying3] at h
  obtain ⟨a, rfl, hw⟩ := h
  refine ⟨a, rfl, ?_⟩
  simp [Lit.wf, IntKind.min, IntKind.max, IntKind.bits, IntKind.signed] at hw
  omega
theorem good_ints {n : Nat} {x : D} (h : Go.Ab.Good Tryd.prog (n + 2) 28 x) : ∃ z l, x = .sl 1 z (ints l) [] ∧ Len l := by
  unfold Go.Ab.Good at h
  rw [Tryd.underlying28] at h
  obtain ⟨z, xs, rfl, h1, h2, _⟩ := h
  have hc : Tryd.prog.cellsOf 3 = 1 := by kernel_rfl
  have hb : Tryd.prog.bytesOf 3 = 8 := by kernel_rfl
  rw [hb] at h1
  rw [hc]
  obtain ⟨l, rfl, _⟩ := all_map (f := D.int .i64) (Q := fun _ => True) (fun y hy => by obtain ⟨a, ha, _⟩ := good_int (h2 y hy); exact ⟨a, ha, trivial⟩)
  rw [List.length_map] at h1
  exact ⟨z, l, rfl, by unfold Len; simpa [reachBytes] using h1⟩
theorem good_rows {n : Nat} {x : D} (h : Go.Ab.Good Tryd.prog (n + 3) 24 x) : ∃ z rs, x = .sl 1 z (rws rs) [] ∧ rs.length * 24 ≤ 140737488351232 ∧ ∀ r ∈ rs, Len r.l := by
  unfold Go.Ab.Good at h
  rw [Tryd.underlying24] at h
  obtain ⟨z, xs, rfl, h1, h2, _⟩ := h
  have hc : Tryd.prog.cellsOf 28 = 1 := by kernel_rfl
  have hb : Tryd.prog.bytesOf 28 = 24 := by kernel_rfl
  rw [hb] at h1
  rw [hc]
  obtain ⟨rs, rfl, h4⟩ := all_map (f := Row.d) (Q := fun r => Len r.l) (fun y hy => by obtain ⟨z, l, h, hl⟩ := good_ints (h2 y hy); exact ⟨⟨z, l, []⟩, h, hl⟩)
  rw [List.length_map] at h1
  exact ⟨z, rs, rfl, by simpa [reachBytes] using h1, h4⟩
end Go.Proofs.YtekdlnofmbfdgaaDoor.Ab

/- Literals, clauses as arguments. No condition. -/
set_option linter.unusedVariables false
set_option linter.unusedSimpArgs false
set_option maxRecDepth 100000
namespace Go.Proofs.YtekdlnofmbfdgaaDoor.Ab
open Go Go.Ab Go.Qu Go.Proofs
theorem good_lit {n : Nat} {x : D} (h : Go.Ab.Good Tryd.prog (n + 3) 68 x) : ∃ l : LitR, x = l.d ∧ Len l.r.l := by
  unfold Go.Ab.Good at h
  rw [Tryd.underlying68] at h
  obtain ⟨ys, rfl, y0, r0, rfl, h0, y1, r1, rfl, h1, rfl⟩ := h
  obtain ⟨z, l, rfl, hl⟩ := good_ints h1
  unfold Go.Ab.Good at h0
  rw [Tryd.underlying4] at h0
  obtain ⟨b, rfl⟩ := h0
  exact ⟨⟨b, ⟨z, l, []⟩⟩, rfl, hl⟩
theorem good_lits {n : Nat} {x : D} (h : Go.Ab.Good Tryd.prog (n + 4) 23 x) : ∃ z ls, x = .sl 2 z (lits ls) [] ∧ LitsIn ls := by
  unfold Go.Ab.Good at h
  rw [Tryd.underlying23] at h
  obtain ⟨z, xs, rfl, h1, h2, _⟩ := h
  have hc : Tryd.prog.cellsOf 68 = 2 := by kernel_rfl
  have hb : Tryd.prog.bytesOf 68 = 32 := by kernel_rfl
  rw [hb] at h1
  rw [hc]
  obtain ⟨ls, rfl, h4⟩ := all_map (f := LitR.d) (Q := fun l => Len l.r.l) (fun y hy => by obtain ⟨l, hl, hk⟩ := good_lit (h2 y hy); exact ⟨l, hl, hk⟩)
  rw [List.length_map] at h1
  exact ⟨z, ls, rfl, by simpa [reachBytes] using h1, h4⟩
theorem good_clause {n : Nat} {x : D} (h : Go.Ab.Good Tryd.prog (n + 5) 26 x) : ∃ c : Cl, x = c.d ∧ ClIn c := by
  unfold Go.Ab.Good at h
  rw [Tryd.underlying26] at h
  obtain ⟨ys, rfl, y0, r0, rfl, h0, y1, r1, rfl, h1, y2, r2, rfl, h2, rfl⟩ := h
  obtain ⟨lz, ls, rfl, hls⟩ := good_lits h0
  obtain ⟨tz, ts, rfl, hts, hr⟩ := good_rows h1
  obtain ⟨cz, cs, rfl, hcs⟩ := good_lits h2
  exact ⟨⟨lz, ls, [], tz, ts, [], cz, cs, []⟩, rfl, ⟨hls, hts, hr, hcs⟩⟩
end Go.Proofs.YtekdlnofmbfdgaaDoor.Ab

/- Arguments: rows that are nil have no codes. No condition. -/
set_option linter.unusedVariables false
set_option linter.unusedSimpArgs false
set_option maxRecDepth 100000
namespace Go.Proofs.YtekdlnofmbfdgaaDoor.Ab
open Go Go.Ab Go.Qu Go.Proofs
theorem good_nil {n : Nat} {z : Bool} {l : List Int} (h : Go.Ab.Good Tryd.prog (n + 1) 28 (.sl 1 z (ints l) [])) : z = true → l = [] := by
  unfold Go.Ab.Good at h
  rw [Tryd.underlying28] at h
  obtain ⟨z', xs, he, _, _, h⟩ := h
  simp only [D.sl.injEq] at he
  obtain ⟨_, rfl, rfl, _⟩ := he
  intro hz
  have := congrArg List.length (h hz)
  rw [ints_len] at this
  exact List.length_eq_zero_iff.1 this
theorem good_litnil {n : Nat} {l : LitR} (h : Go.Ab.Good Tryd.prog (n + 3) 68 l.d) (he : l.r.e = []) : l.r.z = true → l.r.l = [] := by
  unfold Go.Ab.Good at h
  rw [Tryd.underlying68] at h
  obtain ⟨ys, hy, y0, r0, rfl, h0, y1, r1, rfl, h1, rfl⟩ := h
  unfold Go.Ab.Good at h0
  rw [Tryd.underlying4] at h0
  obtain ⟨b, rfl⟩ := h0
  obtain ⟨z, m, rfl, _⟩ := good_ints h1
  have h2 := good_nil (n := n + 1) h1
  simp only [LitR.d, List.flatMap_cons, List.flatMap_nil, D.cells, List.cons_append, List.nil_append, List.append_nil, D.agg.injEq, List.cons.injEq, D.bool.injEq, D.sl.injEq, and_true, true_and] at hy
  obtain ⟨_, hz, hm, _⟩ := hy
  intro hz'
  have h3 := h2 (hz ▸ hz')
  rw [h3] at hm
  have := congrArg List.length hm
  rw [ints_len] at this
  exact List.length_eq_zero_iff.1 (by simpa [ints_nil] using this)
theorem good_clauseN {n : Nat} {x : D} (h : Go.Ab.Good Tryd.prog (n + 5) 26 x) : ∃ c : Cl, x = c.d ∧ ClIn c ∧ NilC c := by
  have h' := h
  unfold Go.Ab.Good at h
  rw [Tryd.underlying26] at h
  obtain ⟨ys, rfl, y0, r0, rfl, h0, y1, r1, rfl, h1, y2, r2, rfl, h2, rfl⟩ := h
  obtain ⟨lz, ls, rfl, hls⟩ := good_lits h0
  obtain ⟨tz, ts, rfl, hts, hr⟩ := good_rows h1
  obtain ⟨cz, cs, rfl, hcs⟩ := good_lits h2
  have hL : ∀ {z : Bool} {ls : List LitR}, Go.Ab.Good Tryd.prog (n + 4) 23 (.sl 2 z (lits ls) []) → ∀ l ∈ ls, l.r.z = true → l.r.l = [] := by
    intro z ls hg l hl
    unfold Go.Ab.Good at hg
    rw [Tryd.underlying23] at hg
    obtain ⟨z', xs, he, _, hx, _⟩ := hg
    simp only [D.sl.injEq] at he
    obtain ⟨_, _, rfl, _⟩ := he
    have h5 := hx l.d (List.mem_map.2 ⟨l, hl, rfl⟩)
    obtain ⟨m, hm, _⟩ := good_lit h5
    have h6 : l.r.z = m.r.z ∧ ints l.r.l = ints m.r.l ∧ l.r.e = m.r.e := by
      have := hm
      simp only [LitR.d, D.agg.injEq, List.cons.injEq, D.bool.injEq, D.sl.injEq, and_true, true_and] at this
      exact ⟨this.2.1, this.2.2.1, this.2.2.2⟩
    have h7 : l.r.e = [] := by
      unfold Go.Ab.Good at h5
      rw [Tryd.underlying68] at h5
      obtain ⟨ys, hy, y0, r0, rfl, k0, y1, r1, rfl, k1, rfl⟩ := h5
      obtain ⟨z2, l2, rfl, _⟩ := good_ints k1
      unfold Go.Ab.Good at k0
      rw [Tryd.underlying4] at k0
      obtain ⟨b, rfl⟩ := k0
      simp only [LitR.d, List.flatMap_cons, List.flatMap_nil, D.cells, List.cons_append, List.nil_append, List.append_nil, D.agg.injEq, List.cons.injEq, D.bool.injEq, D.sl.injEq, and_true, true_and] at hy
      exact hy.2.2.2
    exact good_litnil (n := n) h5 h7
  refine ⟨⟨lz, ls, [], tz, ts, [], cz, cs, []⟩, rfl, ⟨hls, hts, hr, hcs⟩, fun r hr' => ?_⟩
  simp only [rowsOf, List.mem_append, List.mem_map] at hr'
  rcases hr' with (⟨l, hl, rfl⟩ | hr') | ⟨l, hl, rfl⟩
  · exact hL h0 l hl
  · unfold Go.Ab.Good at h1
    rw [Tryd.underlying24] at h1
    obtain ⟨z', xs, he, _, hx, _⟩ := h1
    simp only [D.sl.injEq] at he
    obtain ⟨_, _, rfl, _⟩ := he
    have h5 := hx r.d (List.mem_map.2 ⟨r, hr', rfl⟩)
    obtain ⟨z2, l2, he2, _⟩ := good_ints h5
    have h6 : r.e = [] := by
      simp only [Row.d, D.sl.injEq, true_and] at he2
      exact he2.2.2
    have h7 : r.d = .sl 1 r.z (ints r.l) [] := by rw [← h6]; rfl
    rw [h7] at h5
    exact good_nil (n := n + 2) h5
  · exact hL h2 l hl
end Go.Proofs.YtekdlnofmbfdgaaDoor.Ab

/- Which clause says as much: what the program's functions hand back. For every input; no condition. -/
set_option linter.unusedVariables false
set_option linter.unusedSimpArgs false
set_option maxRecDepth 100000
namespace Go.Proofs.YtekdlnofmbfdgaaDoor.Ab
open Go Go.Ab Go.Qu Go.Proofs
attribute [local simp] and_assoc
attribute [local irreducible] bsD
theorem l_parts2 {g : List Sym} (hg : SigOk g) (z : Bool) (e : List D) (c d : Cl) (zp : Bool) (xp : List D) (n21 n22 : Int) {r : Row} (hr : RowM r) (hts : d.ts.length ≤ 1000) (hm : ∀ u ∈ d.ts, RowM u) (x : List (Nat × Row) × Nat) (hx : x.2 ≤ d.ts.length ∧ x.1.length ≤ x.2) :
    evP F (Go.Ab.W F) (JW F d51 []) d51 [] [1,1,0,1,0,0,1,1,0,0,1,1,0,1] [(0, iG z g e), (4, bC c), (5, bC d), (7, .own zp 124 3 xp), (10, pP r x.1), (20, iR c.tz c.ts c.te), (21, iI n21), (22, iI n22), (29, iR d.tz d.ts d.te), (30, iI d.ts.length), (31, iI x.2)] = some (.norm [(0, iG z g e), (4, bC c), (5, bC d), (7, .own zp 124 3 xp), (10, pP r (x.1 ++ candRR g r (d.ts.drop x.2) x.2)), (20, iR c.tz c.ts c.te), (21, iI n21), (22, iI n22), (29, iR d.tz d.ts d.te), (30, iI d.ts.length), (31, iI d.ts.length)]) :=
  blk_fun (F := F) (d := d51) (lk := []) (p := [1,1,0,1,0,0,1,1,0,0,1,1,0,1,0,0]) (p0 := [1,1,0,1,0,0,1,1,0,0,1,1,0,1]) (id := 2) (by kernel_rfl) (st := fun (x : List (Nat × Row) × Nat) => [(0, iG z g e), (4, bC c), (5, bC d), (7, .own zp 124 3 xp), (10, pP r x.1), (20, iR c.tz c.ts c.te), (21, iI n21), (22, iI n22), (29, iR d.tz d.ts d.te), (30, iI d.ts.length), (31, iI x.2)]) (I := fun x => x.2 ≤ d.ts.length ∧ x.1.length ≤ x.2) (μ := fun x => d.ts.length - x.2)
    (res := fun x => .norm [(0, iG z g e), (4, bC c), (5, bC d), (7, .own zp 124 3 xp), (10, pP r (x.1 ++ candRR g r (d.ts.drop x.2) x.2)), (20, iR c.tz c.ts c.te), (21, iI n21), (22, iI n22), (29, iR d.tz d.ts d.te), (30, iI d.ts.length), (31, iI d.ts.length)])
    (fun x hx => by
      obtain ⟨xs, i⟩ := x
      obtain ⟨hx1, hx2⟩ := hx
      dsimp only at hx1 hx2
      by_cases hi : i < d.ts.length
      · obtain ⟨m, hm1⟩ := at_lt hi
        have hd : d.ts.drop i = m :: d.ts.drop (i + 1) := by
          rw [List.drop_eq_getElem_cons hi]
          rw [List.getElem?_eq_getElem hi] at hm1
          cases hm1; rfl
        have hc := w_could hg z e hr (hm m (List.mem_of_getElem? hm1)) (xs := xs) (by omega) i
        have hi' : (i : Int) < d.ts.length := by omega
        have hw := wr1 hi (show d.ts.length ≤ 9223372036854775807 by omega)
        refine .go (if okN g r.l m.l = true then xs ++ [(i, m)] else xs, i + 1) (wpQ_way (q51_l2a _ _ z (syms g) e c.lz (lits c.ls) c.le c.tz (rws c.ts) c.te c.cz (lits c.cs) c.ce d.lz (lits d.ls) d.le d.tz (rws d.ts) d.te d.cz (lits d.cs) d.ce zp xp r.z (ints r.l) r.e xs.isEmpty (pls xs) xs.isEmpty (ins xs) c.tz (rws c.ts) c.te n21 n22 d.tz (rws d.ts) d.te _ i _) ?_) ⟨by dsimp only; omega, by
            dsimp only
            split
            · simp; omega
            · omega⟩ (by dsimp only; omega) ?_
        · refine condW_t (decide_eq_true hi') ?_
          refine condW_t (decide_eq_true (by omega)) ?_
          refine ⟨_, _, _, rws_at hm1, ?_⟩
          refine ⟨_, _, _, _, _, _, _, _, _, _, hc, ?_⟩
          rw [hw]
        · dsimp only; rw [hd, candRR]
          split <;> simp
      · have e0 : i = d.ts.length := by omega
        subst e0
        refine .stop (.exit 2 [(0, iG z g e), (4, bC c), (5, bC d), (7, .own zp 124 3 xp), (10, pP r xs), (20, iR c.tz c.ts c.te), (21, iI n21), (22, iI n22), (29, iR d.tz d.ts d.te), (30, iI d.ts.length), (31, iI d.ts.length)]) (wpQ_way (q51_l2a _ _ z (syms g) e c.lz (lits c.ls) c.le c.tz (rws c.ts) c.te c.cz (lits c.cs) c.ce d.lz (lits d.ls) d.le d.tz (rws d.ts) d.te d.cz (lits d.cs) d.ce zp xp r.z (ints r.l) r.e xs.isEmpty (pls xs) xs.isEmpty (ins xs) c.tz (rws c.ts) c.te n21 n22 d.tz (rws d.ts) d.te _ _ _) (by simp)) rfl ?_
        simp [blkO, candRR]) x hx
def ptsT (g : List Sym) (ts us : List Row) : List PtR := ts.map fun r => ⟨r, candRR g r us 0⟩
theorem l_parts0 {g : List Sym} (hg : SigOk g) (z : Bool) (e : List D) (c d : Cl) (hcs : c.ts.length ≤ 1000) (hr : ∀ r ∈ c.ts, RowM r) (hts : d.ts.length ≤ 1000) (hm : ∀ u ∈ d.ts, RowM u) (x : List PtR × Nat) (hx : x.2 ≤ c.ts.length ∧ x.1.length ≤ 1000 + x.2) :
    evP F (Go.Ab.W F) (JW F d51 []) d51 [] [1,1,0,1] [(0, iG z g e), (4, bC c), (5, bC d), (7, .own x.1.isEmpty 124 3 (prts x.1)), (20, iR c.tz c.ts c.te), (21, iI c.ts.length), (22, iI x.2)] = some (.norm [(0, iG z g e), (4, bC c), (5, bC d), (7, .own (x.1 ++ ptsT g (c.ts.drop x.2) d.ts).isEmpty 124 3 (prts (x.1 ++ ptsT g (c.ts.drop x.2) d.ts))), (20, iR c.tz c.ts c.te), (21, iI c.ts.length), (22, iI c.ts.length)]) :=
  blk_fun (F := F) (d := d51) (lk := []) (p := [1,1,0,1,0,0]) (p0 := [1,1,0,1]) (id := 0) (by kernel_rfl) (st := fun (x : List PtR × Nat) => [(0, iG z g e), (4, bC c), (5, bC d), (7, .own x.1.isEmpty 124 3 (prts x.1)), (20, iR c.tz c.ts c.te), (21, iI c.ts.length), (22, iI x.2)]) (I := fun x => x.2 ≤ c.ts.length ∧ x.1.length ≤ 1000 + x.2) (μ := fun x => c.ts.length - x.2)
    (res := fun x => .norm [(0, iG z g e), (4, bC c), (5, bC d), (7, .own (x.1 ++ ptsT g (c.ts.drop x.2) d.ts).isEmpty 124 3 (prts (x.1 ++ ptsT g (c.ts.drop x.2) d.ts))), (20, iR c.tz c.ts c.te), (21, iI c.ts.length), (22, iI c.ts.length)])
    (fun x hx => by
      obtain ⟨ps, i⟩ := x
      obtain ⟨hx1, hx2⟩ := hx
      dsimp only at hx1 hx2
      by_cases hi : i < c.ts.length
      · obtain ⟨l, hl1⟩ := at_lt hi
        have hd : c.ts.drop i = l :: c.ts.drop (i + 1) := by
          rw [List.drop_eq_getElem_cons hi]
          rw [List.getElem?_eq_getElem hi] at hl1
          cases hl1; rfl
        have hin := l_parts2 hg z e c d ps.isEmpty (prts ps) c.ts.length i (hr l (List.mem_of_getElem? hl1)) hts hm ([], 0) ⟨Nat.zero_le _, Nat.le_refl _⟩
        simp only [List.drop_zero, List.nil_append] at hin
        have hi' : (i : Int) < c.ts.length := by omega
        have hw := wr1 hi (show c.ts.length ≤ 9223372036854775807 by omega)
        refine .go (ps ++ [⟨l, candRR g l d.ts 0⟩], i + 1) (wpQ_way (q51_l0a _ _ z (syms g) e c.lz (lits c.ls) c.le c.tz (rws c.ts) c.te c.cz (lits c.cs) c.ce d.lz (lits d.ls) d.le d.tz (rws d.ts) d.te d.cz (lits d.cs) d.ce ps.isEmpty (prts ps) c.tz (rws c.ts) c.te _ i _) ?_) ⟨by dsimp only; omega, by simp; omega⟩ (by dsimp only; omega) ?_
        · refine condW_t (decide_eq_true hi') ?_
          refine condW_t (decide_eq_true (by omega)) ?_
          refine ⟨_, _, _, rws_at hl1, ?_⟩
          rw [rws_len]
          refine ⟨_, _, _, _, _, _, _, _, _, _, _, _, _, _, _, _, _, _, _, _, _, _, _, _, _, _, _, _, _, _, _, _, _, _, _, _, _, _, _, _, hin, ?_⟩
          refine condW_t (by rw [prts_len]; exact decide_eq_true (by omega)) ?_
          refine condW_t (by rw [prts_len]; exact decide_eq_true (by omega)) ?_
          rw [hw, prts_app]
          simp [prts, PtR.d]
        · dsimp only; rw [hd]; simp [ptsT]
      · have e0 : i = c.ts.length := by omega
        subst e0
        refine .stop (.exit 0 [(0, iG z g e), (4, bC c), (5, bC d), (7, .own ps.isEmpty 124 3 (prts ps)), (20, iR c.tz c.ts c.te), (21, iI c.ts.length), (22, iI c.ts.length)]) (wpQ_way (q51_l0a _ _ z (syms g) e c.lz (lits c.ls) c.le c.tz (rws c.ts) c.te c.cz (lits c.cs) c.ce d.lz (lits d.ls) d.le d.tz (rws d.ts) d.te d.cz (lits d.cs) d.ce ps.isEmpty (prts ps) c.tz (rws c.ts) c.te _ _ _) (by simp)) rfl ?_
        simp [blkO, ptsT]) x hx
def ptsCR (g : List Sym) (c d : Cl) : List PtR := (ptsL g c.ls d.ls ++ ptsT g c.ts d.ts) ++ ptsL g c.cs d.cs
theorem rowM_of {r : Row} (h : RowOk r) (hl : r.l.length ≤ 1000) : RowM r := ⟨hl, h.nil, h.cod⟩
structure ClM (c : Cl) : Prop where
  l5 : c.ls.length ≤ 5
  t3 : c.ts.length ≤ 3
  c3 : c.cs.length ≤ 3
  ls : ∀ l ∈ c.ls, RowM l.r
  ts : ∀ r ∈ c.ts, RowM r
  cs : ∀ l ∈ c.cs, RowM l.r
theorem clM_of {g : List Sym} {c : Cl} (h : clB g c = true) (hn : NilC c) : ClM c := by
  have hr := clRow_of h hn
  have hk := clOk.1 ((clB_c g c).symm.trans h)
  have e1 : c.ls.length ≤ 5 := by have := hk.l5; simpa [Cl.c] using this
  have e2 : c.ts.length ≤ 3 := by have := hk.t3; simpa [Cl.c] using this
  have e3 : c.cs.length ≤ 3 := by have := hk.c3; simpa [Cl.c] using this
  refine ⟨e1, e2, e3, fun l hl => rowM_of (hr.ls l hl) ?_, fun r hr' => rowM_of (hr.ts r hr') ?_, fun l hl => rowM_of (hr.cs l hl) ?_⟩
  · have := (atom_codes (hk.la l.c (by simp [Cl.c]; exact ⟨l, hl, rfl⟩))).1
    have e : l.c.2 = l.r.l := rfl
    rw [e] at this; omega
  · obtain ⟨k, hk⟩ := hk.tr
    have := (rowB_parts (hk r.l (by simp [Cl.c]; exact ⟨r, hr', rfl⟩)).1).2.1
    omega
  · have := (atom_codes (hk.ca l.c (by simp [Cl.c]; exact ⟨l, hl, rfl⟩))).1
    have e : l.c.2 = l.r.l := rfl
    rw [e] at this; omega
theorem w_parts' {g : List Sym} (hg : SigOk g) (z : Bool) (e : List D) {c d : Cl} (hc : ClM c) (hd : ClM d) : C 51 [iG z g e, iC c, iC d] = some (.own (ptsCR g c d).isEmpty 124 3 (prts (ptsCR g c d)), [iG z g e, iC c, iC d]) := by
  refine wfn (lk := []) rfl rfl (fnW_way (q51 _ _ z (syms g) e c.lz (lits c.ls) c.le c.tz (rws c.ts) c.te c.cz (lits c.cs) c.ce d.lz (lits d.ls) d.le d.tz (rws d.ts) d.te d.cz (lits d.cs) d.ce _) ?_)
  have l1 := hc.l5; have l2 := hc.t3; have l3 := hc.c3; have m1 := hd.l5; have m2 := hd.t3; have m3 := hd.c3
  have h1 := w_lits0 hg z c.lz d.lz e c.le d.le (ls := c.ls) (ms := d.ls) (by omega) hc.ls (by omega) hd.ls
  have h2 := l_parts0 hg z e c d (by omega) hc.ts (by omega) hd.ts (ptsL g c.ls d.ls, 0) ⟨Nat.zero_le _, by simp [ptsL]; omega⟩
  have h3 := w_lits hg z c.cz d.cz e c.ce d.ce (ls := c.cs) (ms := d.cs) (by omega) hc.cs (by omega) hd.cs (ps := ptsL g c.ls d.ls ++ ptsT g c.ts d.ts) (by simp [ptsL, ptsT]; omega)
  simp only [List.drop_zero] at h2
  refine .inr ⟨_, _, _, _, _, _, h1, ?_⟩
  rw [rws_len]
  refine ⟨_, _, _, _, _, _, _, _, _, _, _, _, _, _, _, _, _, _, _, _, _, _, _, _, _, _, _, _, h2, ?_⟩
  exact .inl ⟨_, _, _, _, _, h3, rfl⟩
/-! ### To say as much -/
theorem candLR_pt (g : List Sym) (l : LitR) : ∀ (ms : List LitR) (n : Nat), (candLR g l ms n).map (fun x => (x.1, x.2.l)) = (cands l.neg (ms.map LitR.c) n).filter fun x => okB g (fun _ => none) l.r.l x.2
  | [], n => rfl
  | m :: ms, n => by
    have ih := candLR_pt g l ms (n + 1)
    rw [candLR, List.map_cons, cands]
    show _ = List.filter _ (if l.neg = m.neg then (n, m.r.l) :: cands l.neg (ms.map LitR.c) (n + 1) else cands l.neg (ms.map LitR.c) (n + 1))
    by_cases h1 : l.neg = m.neg
    · rw [if_pos h1, List.filter_cons]
      by_cases h2 : okN g l.r.l m.r.l = true
      · rw [if_pos ⟨h1, h2⟩, if_pos h2, List.map_cons, ih]
      · rw [if_neg (fun h => h2 h.2), if_neg h2, ih]
    · rw [if_neg h1, if_neg (fun h => h1 h.1), ih]
theorem candRR_pt (g : List Sym) (r : Row) : ∀ (us : List Row) (n : Nat), (candRR g r us n).map (fun x => (x.1, x.2.l)) = (candR (us.map fun u => u.l) n).filter fun x => okB g (fun _ => none) r.l x.2
  | [], n => rfl
  | u :: us, n => by
    have ih := candRR_pt g r us (n + 1)
    rw [candRR, List.map_cons, candR, List.filter_cons]
    by_cases h2 : okN g r.l u.l = true
    · rw [if_pos h2, if_pos h2, List.map_cons, ih]
    · rw [if_neg h2, if_neg h2, ih]
theorem pts_pt (g : List Sym) (c d : Cl) : (ptsCR g c d).map PtR.pt = (ptsC c.c d.c).map (onlyOk g) := by
  unfold ptsCR ptsC ptsL ptsT Cl.c
  simp only [List.map_append, List.map_map]
  congr 1
  · congr 1
    · refine List.map_congr_left fun l hl => ?_
      show PtR.pt ⟨l.r, candLR g l d.ls 0⟩ = onlyOk g ⟨l.r.l, cands l.neg (d.ls.map LitR.c) 0⟩
      unfold PtR.pt onlyOk
      rw [candLR_pt]
    · refine List.map_congr_left fun r hr => ?_
      show PtR.pt ⟨r, candRR g r d.ts 0⟩ = onlyOk g ⟨r.l, candR (d.ts.map fun u => u.l) 0⟩
      unfold PtR.pt onlyOk
      rw [candRR_pt]
  · refine List.map_congr_left fun l hl => ?_
    show PtR.pt ⟨l.r, candLR g l d.cs 0⟩ = onlyOk g ⟨l.r.l, cands l.neg (d.cs.map LitR.c) 0⟩
    unfold PtR.pt onlyOk
    rw [candLR_pt]
theorem candLR_mem {g : List Sym} {l : LitR} : ∀ {ms : List LitR} {n : Nat} {x : Nat × Row}, x ∈ candLR g l ms n → ∃ m ∈ ms, x.2 = m.r
  | [], n, x, h => by simp [candLR] at h
  | m :: ms, n, x, h => by
    rw [candLR] at h
    split at h
    · rcases List.mem_cons.1 h with rfl | h
      · exact ⟨m, by simp, rfl⟩
      · obtain ⟨k, hk, e⟩ := candLR_mem h; exact ⟨k, by simp [hk], e⟩
    · obtain ⟨k, hk, e⟩ := candLR_mem h; exact ⟨k, by simp [hk], e⟩
theorem candRR_mem {g : List Sym} {r : Row} : ∀ {us : List Row} {n : Nat} {x : Nat × Row}, x ∈ candRR g r us n → x.2 ∈ us
  | [], n, x, h => by simp [candRR] at h
  | m :: ms, n, x, h => by
    rw [candRR] at h
    split at h
    · rcases List.mem_cons.1 h with rfl | h
      · simp
      · exact List.mem_cons_of_mem _ (candRR_mem h)
    · exact List.mem_cons_of_mem _ (candRR_mem h)
theorem pts_ok {g : List Sym} {c d : Cl} (hc : ClM c) (hd : ClM d) : ∀ p ∈ ptsCR g c d, PtOk p := by
  have m1 := hd.l5; have m2 := hd.t3; have m3 := hd.c3
  intro p hp
  simp only [ptsCR, ptsL, ptsT, List.mem_append, List.mem_map] at hp
  rcases hp with (⟨l, hl, rfl⟩ | ⟨r, hr, rfl⟩) | ⟨l, hl, rfl⟩
  · exact ⟨hc.ls l hl, fun x hx => by obtain ⟨m, hm, e⟩ := candLR_mem hx; rw [e]; exact hd.ls m hm, Nat.le_trans (candLR_len g l d.ls 0) (by omega)⟩
  · exact ⟨hc.ts r hr, fun x hx => hd.ts _ (candRR_mem hx), Nat.le_trans (candRR_len g r d.ts 0) (by omega)⟩
  · exact ⟨hc.cs l hl, fun x hx => by obtain ⟨m, hm, e⟩ := candLR_mem hx; rw [e]; exact hd.cs m hm, Nat.le_trans (candLR_len g l d.cs 0) (by omega)⟩
/-- The least row of places. -/
def plM (g : List Sym) (c d : Cl) : Option (List Nat) := findF g (ptsC c.c d.c) (fun _ => none)
theorem ptM_near {g : List Sym} {c : Cl} (hb : clB g c = true) : nearP (ptM g c).1 (ptM g c).2 = true ∧ 0 ≤ (ptM g c).1 ∧ 0 ≤ (ptM g c).2 := by
  have hk := clOk.1 ((clB_c g c).symm.trans hb)
  have hl : litsB g c.ls = true := by
    rw [litsB, List.all_eq_true]
    exact fun l hl => hk.la l.c (by simp [Cl.c]; exact ⟨l, hl, rfl⟩)
  have h := ptF_le (sigOk hk.sg) c.ls 0 0 hl (Int.le_refl _) (by omega) (Int.le_refl _) (by omega)
  unfold ptM
  refine ⟨?_, h.1, h.2.2.1⟩
  have h1 := h.1; have h2 := h.2.1; have h3 := h.2.2.1; have h4 := h.2.2.2
  generalize (ptF g c.ls 0 0).1 = a at *
  generalize (ptF g c.ls 0 0).2 = b at *
  rw [nearP, Bool.and_eq_true, near_iff, near_iff]
  omega
theorem w_under' (z : Bool) {g : List Sym} (e : List D) {c d : Cl} (hc : clB g c = true) (hd : clB g d = true) : C 50 [iG z g e, iC c, iC d] = some (iB (decide ((ptM g c).1 ≤ (ptM g d).1) && decide ((ptM g c).2 ≤ (ptM g d).2)), [iG z g e, iC c, iC d]) := by
  refine wfn (lk := []) rfl rfl (fnW_way (q50 _ _ z (syms g) e c.lz (lits c.ls) c.le c.tz (rws c.ts) c.te c.cz (lits c.cs) c.ce d.lz (lits d.ls) d.le d.tz (rws d.ts) d.te d.cz (lits d.cs) d.ce _) ?_)
  have h1 := w_pof z g e c
  have h2 := w_pof z g e d
  rw [hc] at h1; rw [hd] at h2
  simp only [if_true] at h1 h2
  have h3 := w_under (ptM_near hc).1 (ptM_near hd).1
  refine ⟨_, _, _, _, _, h1, _, _, _, _, _, h2, _, _, _, _, h3, ?_⟩
  cases (decide ((ptM g c).1 ≤ (ptM g d).1) && decide ((ptM g c).2 ≤ (ptM g d).2)) <;> rfl
theorem under_of {g : List Sym} {c d : Cl} (hg : SigOk g) (h : (plM g c d).isSome = true) : (ptM g c).1 ≤ (ptM g d).1 ∧ (ptM g c).2 ≤ (ptM g d).2 := by
  obtain ⟨r, hr⟩ := Option.isSome_iff_exists.1 h
  have hs := says_find.1 ⟨r, hr⟩
  unfold ptM
  rw [ptF_top, ptF_top]
  exact ⟨says_under hg hs false, says_under hg hs true⟩
theorem none0 : bsD (fun _ => none) = List.replicate 24 (.sl 1 true [] []) := bsD_none
theorem w_says {g : List Sym} (z : Bool) (e : List D) {c d : Cl} (hc : clB g c = true) (hd : clB g d = true) (hn : NilC c) (hm : NilC d) : C 28 [iG z g e, iC c, iC d] = some (fRes (plM g c d), [iG z g e, iC c, iC d]) := by
  refine wfn (lk := []) rfl rfl (fnW_way (q28 _ _ z (syms g) e c.lz (lits c.ls) c.le c.tz (rws c.ts) c.te c.cz (lits c.cs) c.ce d.lz (lits d.ls) d.le d.tz (rws d.ts) d.te d.cz (lits d.cs) d.ce _) ?_)
  have hg : SigOk g := sigOk (clOk.1 ((clB_c g c).symm.trans hc)).sg
  have h1 := w_under' z e hc hd
  have hcm := clM_of hc hn
  have hdm := clM_of hd hm
  refine ⟨_, _, _, _, h1, ?_⟩
  cases hu : (decide ((ptM g c).1 ≤ (ptM g d).1) && decide ((ptM g c).2 ≤ (ptM g d).2))
  · have : plM g c d = none := by
      cases hp : plM g c d with
      | none => rfl
      | some r =>
        have := under_of hg (c := c) (d := d) (by rw [hp]; rfl)
        simp [this.1, this.2] at hu
    rw [this]; rfl
  have h2 := w_parts' hg z e hcm hdm
  refine condW_t rfl ⟨_, _, _, _, _, h2, ?_⟩
  have l1 := hcm.l5; have l2 := hcm.t3; have l3 := hcm.c3
  have hpl : (ptsCR g c d).length ≤ 1000 := by simp [ptsCR, ptsL, ptsT]; omega
  have hb0 : BsOk (fun _ => none) := fun v t h => by cases h
  have h3 := w_open hg z (ptsCR g c d).isEmpty e [] hpl (pts_ok hcm hdm) hb0
  have h4 := w_find' hg z e (ptsCR g c d) (ptsCR g c d).isEmpty [] (fun _ => none) hpl (pts_ok hcm hdm) hb0
  rw [none0] at h3 h4
  have hp : findF g ((ptsCR g c d).map PtR.pt) (fun _ => none) = plM g c d := by rw [pts_pt, find_filter]; rfl
  rw [hp] at h4
  refine ⟨_, _, _, _, h3, ?_⟩
  cases ho : openF g (fun _ => none) ((ptsCR g c d).map PtR.pt)
  · have : plM g c d = none := by rw [← hp]; exact open_none ho
    rw [this]; rfl
  refine condW_t rfl ?_
  cases hpm : plM g c d with
  | none =>
    rw [hpm] at h4
    exact ⟨_, _, _, _, _, _, h4, rfl⟩
  | some r =>
    rw [hpm] at h4
    exact ⟨_, _, _, _, _, _, h4, rfl⟩
theorem w_places {g : List Sym} (z : Bool) (e : List D) {c d : Cl} (hn : NilC c) (hm : NilC d) : ∃ v, C 10 [iG z g e, iC c, iC d] = some (v, [iG z g e, iC c, iC d]) ∧ ((clB g c && clB g d) = true → v = match plM g c d with | some r => .tup [.own r.isEmpty 3 1 (ints (rI r)), iB true, iI 0] | none => .tup [.own true 3 1 [], iB false, iI 0]) ∧ ((clB g c && clB g d) = false → v = .tup [.own true 3 1 [], iB false, iI 1000]) := by
  cases hc : clB g c
  · refine ⟨_, wfn (lk := []) rfl rfl (fnW_way (q10 _ _ z (syms g) e c.lz (lits c.ls) c.le c.tz (rws c.ts) c.te c.cz (lits c.cs) c.ce d.lz (lits d.ls) d.le d.tz (rws d.ts) d.te d.cz (lits d.cs) d.ce _) ⟨_, _, _, w_clmay z g e c, by rw [hc]; rfl⟩), by simp, fun _ => rfl⟩
  cases hd : clB g d
  · refine ⟨_, wfn (lk := []) rfl rfl (fnW_way (q10 _ _ z (syms g) e c.lz (lits c.ls) c.le c.tz (rws c.ts) c.te c.cz (lits c.cs) c.ce d.lz (lits d.ls) d.le d.tz (rws d.ts) d.te d.cz (lits d.cs) d.ce _) ⟨_, _, _, w_clmay z g e c, by rw [hc]; exact ⟨_, _, _, w_clmay z g e d, by rw [hd]; rfl⟩⟩), by simp, fun _ => rfl⟩
  have h := w_says z e hc hd hn hm
  cases hp : plM g c d with
  | none =>
    rw [hp] at h
    exact ⟨_, wfn (lk := []) rfl rfl (fnW_way (q10 _ _ z (syms g) e c.lz (lits c.ls) c.le c.tz (rws c.ts) c.te c.cz (lits c.cs) c.ce d.lz (lits d.ls) d.le d.tz (rws d.ts) d.te d.cz (lits d.cs) d.ce _) ⟨_, _, _, w_clmay z g e c, by rw [hc]; exact ⟨_, _, _, w_clmay z g e d, by rw [hd]; exact ⟨_, _, _, _, _, _, h, rfl⟩⟩⟩), fun _ => rfl, by simp⟩
  | some r =>
    rw [hp] at h
    exact ⟨_, wfn (lk := []) rfl rfl (fnW_way (q10 _ _ z (syms g) e c.lz (lits c.ls) c.le c.tz (rws c.ts) c.te c.cz (lits c.cs) c.ce d.lz (lits d.ls) d.le d.tz (rws d.ts) d.te d.cz (lits d.cs) d.ce _) ⟨_, _, _, w_clmay z g e c, by rw [hc]; exact ⟨_, _, _, w_clmay z g e d, by rw [hd]; exact ⟨_, _, _, _, _, _, h, rfl⟩⟩⟩), fun _ => rfl, by simp⟩
def mayB (g : List Sym) (c d : Cl) : Bool := clB g c && clB g d
theorem w_does {g : List Sym} (z : Bool) (e : List D) {c d : Cl} (hn : NilC c) (hm : NilC d) : C 12 [iG z g e, iC c, iC d] = some (.tup [iB (mayB g c d && (plM g c d).isSome), iI (if mayB g c d = true then 0 else 1000)], [iG z g e, iC c, iC d]) := by
  refine wfn (lk := []) rfl rfl (fnW_way (q12 _ _ z (syms g) e c.lz (lits c.ls) c.le c.tz (rws c.ts) c.te c.cz (lits c.cs) c.ce d.lz (lits d.ls) d.le d.tz (rws d.ts) d.te d.cz (lits d.cs) d.ce _) ?_)
  obtain ⟨v, h, h1, h2⟩ := w_places z e hn hm (g := g)
  unfold mayB
  cases hb : (clB g c && clB g d)
  · rw [h2 hb] at h
    exact ⟨_, _, _, _, _, _, _, h, rfl⟩
  · cases hp : plM g c d with
    | none =>
      rw [h1 hb, hp] at h
      exact ⟨_, _, _, _, _, _, _, h, rfl⟩
    | some r =>
      rw [h1 hb, hp] at h
      exact ⟨_, _, _, _, _, _, _, h, rfl⟩
theorem does_iff {g : List Sym} {c d : Cl} : (plM g c d).isSome = true ↔ Says g c.c d.c := by
  rw [← says_find, Option.isSome_iff_exists]; rfl
end Go.Proofs.YtekdlnofmbfdgaaDoor.Ab

/- Binds: what they make of rows; two lists of binds as one. Plain lists, no program in sight; no condition. -/
set_option linter.unusedVariables false
set_option linter.unusedSimpArgs false
namespace Go.Qu
open Go Go.Ab
structure Bd where
  v : Int
  r : Row
def Bd.d (b : Bd) : D := .agg [.int .i64 b.v, .sl 1 b.r.z (ints b.r.l) b.r.e]
def bds (l : List Bd) : List D := l.map Bd.d
abbrev iBd (z : Bool) (l : List Bd) (e : List D) : IV := .d (.sl 2 z (bds l) e)
theorem bds_len (l : List Bd) : (bds l).length = l.length := by simp [bds]
theorem bds_nil : bds [] = [] := rfl
theorem bds_cons (x : Bd) (l : List Bd) : bds (x :: l) = .agg [.int .i64 x.v, .sl 1 x.r.z (ints x.r.l) x.r.e] :: bds l := rfl
theorem bds_append (l m : List Bd) : bds (l ++ m) = bds l ++ bds m := by simp [bds]
theorem bds_at {l : List Bd} {i : Nat} {s : Bd} (h : l[i]? = some s) : (bds l)[i]? = some (.agg [.int .i64 s.v, .sl 1 s.r.z (ints s.r.l) s.r.e]) := by simp [bds, h, Bd.d]
/-- Rows of which only those without codes are nil. -/
def NilOk (s : List Bd) : Prop := ∀ b ∈ s, b.r.z = true → b.r.l = []
/-! ### What may be -/
def oneB (g : List Sym) (t : List Int) : Bool := rowB g t && decide (termsN g t = 1)
def aloneB (t : List Int) (v : Int) : Bool := decide (t = [-1 - v])
def bindAt (g : List Sym) (s : List Bd) (i : Nat) : Bool := match s[i]? with
  | none => true
  | some b => decide (0 ≤ b.v) && (decide (b.v ≤ 23) && ((match s[i - 1]? with | some a => decide (i = 0) || decide (a.v < b.v) | none => true) && (oneB g b.r.l && !(aloneB b.r.l b.v))))
def bindB (g : List Sym) (s : List Bd) : Bool := sigB g && (List.range s.length).all (bindAt g s)
theorem bindB_at {g : List Sym} {s : List Bd} (h : bindB g s = true) {i : Nat} {b : Bd} (hb : s[i]? = some b) : (0 ≤ b.v ∧ b.v ≤ 23) ∧ (∀ a, 0 < i → s[i - 1]? = some a → a.v < b.v) ∧ oneB g b.r.l = true ∧ ¬ b.r.l = [-1 - b.v] := by
  simp only [bindB, Bool.and_eq_true, List.all_eq_true, List.mem_range] at h
  have h1 := h.2 i (lt_at hb)
  unfold bindAt at h1
  rw [hb] at h1
  simp only [Bool.and_eq_true, decide_eq_true_eq] at h1
  refine ⟨⟨h1.1, h1.2.1⟩, fun a hi ha => ?_, h1.2.2.2.1, ?_⟩
  · have h2 := h1.2.2.1
    rw [ha] at h2
    simp at h2
    omega
  · have h2 := h1.2.2.2.2
    simp [aloneB] at h2
    exact h2
theorem one_lenN {g : List Sym} {t : List Int} (h : oneB g t = true) : sigB g = true ∧ t.length ≤ 48 ∧ lenN g t 1 = some t.length := by
  simp only [oneB, Bool.and_eq_true, decide_eq_true_eq] at h
  obtain ⟨hg, hr, ts, hts, _⟩ := rowB_parts h.1
  have h2 := termsN_of hg hr hts
  have h3 := parts_all _ (Nat.le_refl _) hts
  rw [← h2, h.2] at h3
  exact ⟨hg, hr, h3⟩
theorem one_of {g : List Sym} {t : List Int} (hg : sigB g = true) (hr : t.length ≤ 48) (h : lenN g t 1 = some t.length) : oneB g t = true := by
  have h1 := parts_one h
  rw [List.take_length] at h1
  simp [oneB, rowB_of hg hr h1, termsN_of hg hr h1]
/-! ### What stands for a variable -/
def findB : List Bd → Int → Row
  | [], _ => ⟨true, [], []⟩
  | b :: s, v => if b.v = v then b.r else findB s v
theorem findB_some {s : List Bd} {v : Int} {j : Nat} {b : Bd} (hb : s[j]? = some b) (hv : b.v = v) (hk : ∀ k, k < j → ∀ c, s[k]? = some c → c.v ≠ v) : findB s v = b.r := by
  induction s generalizing j with
  | nil => simp at hb
  | cons a s ih =>
    cases j with
    | zero => simp at hb; subst hb; simp [findB, hv]
    | succ j =>
      have h0 := hk 0 (by omega) a (by simp)
      rw [findB, if_neg h0]
      exact ih (j := j) (by simpa using hb) (fun k hk2 c hc => hk (k + 1) (by omega) c (by simpa using hc))
theorem findB_none {s : List Bd} {v : Int} (hk : ∀ k, k < s.length → ∀ c, s[k]? = some c → c.v ≠ v) : findB s v = ⟨true, [], []⟩ := by
  induction s with
  | nil => rfl
  | cons a s ih =>
    have h0 := hk 0 (by simp) a (by simp)
    rw [findB, if_neg h0]
    exact ih (fun k hk2 c hc => hk (k + 1) (by simp; omega) c (by simpa using hc))
/-- A variable has a bind, a term of its own, or none. -/
theorem find_cases (s : List Bd) (v : Int) : findB s v = ⟨true, [], []⟩ ∨ ∃ b ∈ s, b.v = v ∧ findB s v = b.r := by
  induction s with
  | nil => exact Or.inl rfl
  | cons a s ih =>
    rw [findB]
    split
    · rename_i h; exact Or.inr ⟨a, by simp, h, rfl⟩
    · rcases ih with h | ⟨b, h1, h2, h3⟩
      · exact Or.inl h
      · exact Or.inr ⟨b, by simp [h1], h2, h3⟩
def onC (s : List Bd) (c : Int) : List Int := if 0 ≤ c then [c] else if (findB s (-1 - c)).z = true then [c] else (findB s (-1 - c)).l
def onB (s : List Bd) : List Int → List Int
  | [] => []
  | c :: r => onC s c ++ onB s r
theorem onB_app (s : List Bd) : ∀ (a b : List Int), onB s (a ++ b) = onB s a ++ onB s b
  | [], b => rfl
  | c :: a, b => by rw [List.cons_append, onB, onB, onB_app s a b, List.append_assoc]
theorem onB_one (s : List Bd) (c : Int) : onB s [c] = onC s c := by simp [onB]
/-- Of binds that may be: a term, or nothing. -/
theorem find_ok {g : List Sym} {s : List Bd} (hs : bindB g s = true) (hn : NilOk s) (v : Int) : ((findB s v).z = true ∧ (findB s v).l = []) ∨ ((findB s v).z = false ∧ oneB g (findB s v).l = true ∧ ¬ (findB s v).l = [-1 - v] ∧ 0 ≤ v ∧ v ≤ 23) := by
  rcases find_cases s v with h | ⟨b, h1, h2, h3⟩
  · rw [h]; exact Or.inl ⟨rfl, rfl⟩
  · obtain ⟨i, hi⟩ := List.getElem?_of_mem h1
    obtain ⟨h4, _, h5, h6⟩ := bindB_at hs hi
    have h7 := one_lenN h5
    have h8 : b.r.z = false := by
      cases hz : b.r.z with
      | false => rfl
      | true =>
        have := hn b h1 hz
        rw [this] at h7; simp [lenN] at h7
    rw [h3, ← h2]
    exact Or.inr ⟨h8, h5, h6, h4⟩
theorem onC_len {g : List Sym} {s : List Bd} (hs : bindB g s = true) (hn : NilOk s) (c : Int) : 1 ≤ (onC s c).length ∧ (onC s c).length ≤ 48 := by
  unfold onC
  split
  · simp
  · rcases find_ok hs hn (-1 - c) with ⟨h1, _⟩ | ⟨h1, h2, _⟩
    · rw [if_pos h1]; simp
    · rw [if_neg (by simp [h1])]
      have h3 := one_lenN h2
      have := lenN_le h3.2.2
      omega
theorem onB_len {g : List Sym} {s : List Bd} (hs : bindB g s = true) (hn : NilOk s) : ∀ (r : List Int), r.length ≤ (onB s r).length ∧ (onB s r).length ≤ 48 * r.length
  | [] => by simp [onB]
  | c :: r => by
    have h1 := onC_len hs hn c
    have h2 := onB_len hs hn r
    simp only [onB, List.length_append, List.length_cons]; omega
/-- Terms whose variables are replaced are terms. -/
theorem on_lenN {g : List Sym} {s : List Bd} (hs : bindB g s = true) (hn : NilOk s) : ∀ {r : List Int} {n k : Nat}, lenN g r n = some k → lenN g (onB s (r.take k)) n = some (onB s (r.take k)).length
  | r, 0, k, h => by
    have e : k = 0 := by cases r <;> simp [lenN] at h <;> omega
    subst e
    simp [onB, lenN]
  | [], n + 1, k, h => by simp [lenN] at h
  | c :: r, n + 1, k, h => by
    obtain ⟨a, m, ha, hm, rfl⟩ := lenN_some h
    have ih := on_lenN hs hn hm
    rw [List.take_succ_cons, onB]
    by_cases h0 : 0 ≤ c
    · rw [onC, if_pos h0, List.singleton_append, lenN_cons ha, ih]; rfl
    · have ha0 : a = 0 := by
        unfold arOf at ha; rw [if_pos (by omega)] at ha; split at ha <;> simp at ha; exact ha.symm
      subst ha0
      rw [Nat.add_zero] at ih
      rw [onC, if_neg h0]
      rcases find_ok hs hn (-1 - c) with ⟨h1, _⟩ | ⟨h1, h2, _⟩
      · rw [if_pos h1, List.singleton_append, lenN_cons ha, Nat.add_zero, ih]; rfl
      · rw [if_neg (by simp [h1])]
        have h3 := (one_lenN h2).2.2
        have h4 := lenN_split (g := g) n (lenN_app (onB s (r.take m)) h3)
        rw [List.drop_left, ih] at h4
        rw [Nat.add_comm n 1, h4]
        simp
theorem on_row {g : List Sym} {s : List Bd} (hs : bindB g s = true) (hn : NilOk s) {r : List Int} (hr : rowB g r = true) (hl : (onB s r).length ≤ 48) : rowB g (onB s r) = true ∧ termsN g (onB s r) = termsN g r := by
  obtain ⟨hg, h1, ts, hts, _⟩ := rowB_parts hr
  have h2 := parts_all _ (Nat.le_refl _) hts
  have h3 := on_lenN hs hn h2
  rw [List.take_length] at h3
  obtain ⟨us, h4, h5⟩ := parts_lenN h3
  rw [List.take_length] at h4
  exact ⟨rowB_of hg hl h4, by rw [termsN_of hg hl h4, termsN_of hg h1 hts, h5]⟩
/-! ### One after the other -/
/-- What stands for a variable after both. -/
def thenT (s u : List Bd) (v : Int) : List Int := if (findB s v).z = true then (findB u v).l else onB u (findB s v).l
def thenF (s u : List Bd) : Nat → Nat → Option (List Bd)
  | 0, _ => some []
  | k + 1, v => if (thenT s u v).length > 48 then none else (thenF s u k (v + 1)).map fun l => if thenT s u v = [] ∨ thenT s u v = [-1 - (v : Int)] then l else ⟨v, ⟨false, thenT s u v, []⟩⟩ :: l
def thenM (s u : List Bd) : Option (List Bd) := thenF s u 24 0
theorem then_spec {s u : List Bd} : ∀ {k v : Nat} {t : List Bd}, thenF s u k v = some t → (∀ b ∈ t, ∃ n : Nat, b.v = (n : Int) ∧ v ≤ n ∧ n < v + k ∧ b.r = ⟨false, thenT s u n, []⟩ ∧ thenT s u n ≠ [] ∧ thenT s u n ≠ [-1 - (n : Int)] ∧ (thenT s u n).length ≤ 48) ∧ (∀ n : Nat, v ≤ n → n < v + k → findB t n = if thenT s u n = [] ∨ thenT s u n = [-1 - (n : Int)] then ⟨true, [], []⟩ else ⟨false, thenT s u n, []⟩) ∧ (∀ i a b, s.length = s.length → t[i]? = some a → t[i + 1]? = some b → a.v < b.v)
  | 0, v, t, h => by
    simp [thenF] at h
    subst h
    exact ⟨by simp, fun n h1 h2 => by omega, by simp⟩
  | k + 1, v, t, h => by
    rw [thenF] at h
    split at h
    · cases h
    · rename_i hl
      obtain ⟨l, h1, rfl⟩ := Option.map_eq_some_iff.1 h
      obtain ⟨i1, i2, i3⟩ := then_spec h1
      split
      · rename_i hc
        refine ⟨fun b hb => ?_, fun n h1 h2 => ?_, i3⟩
        · obtain ⟨n, a1, a2, a3, a4⟩ := i1 b hb
          exact ⟨n, a1, by omega, by omega, a4⟩
        · by_cases hn : n = v
          · subst hn
            rw [if_pos hc]
            have : ∀ k, k < l.length → ∀ c, l[k]? = some c → c.v ≠ (n : Int) := fun k hk c hc' => by
              obtain ⟨m, a1, a2, _⟩ := i1 c (List.mem_of_getElem? hc')
              omega
            exact findB_none this
          · exact i2 n (by omega) (by omega)
      · rename_i hc
        refine ⟨fun b hb => ?_, fun n h1 h2 => ?_, fun i a b h0 ha hb => ?_⟩
        · rcases List.mem_cons.1 hb with rfl | hb
          · exact ⟨v, rfl, Nat.le_refl _, by omega, rfl, fun e => hc (Or.inl e), fun e => hc (Or.inr e), by omega⟩
          · obtain ⟨n, a1, a2, a3, a4⟩ := i1 b hb
            exact ⟨n, a1, by omega, by omega, a4⟩
        · by_cases hn : n = v
          · subst hn
            rw [if_neg hc, findB, if_pos rfl]
          · rw [findB, if_neg (by dsimp only; omega)]
            exact i2 n (by omega) (by omega)
        · cases i with
          | zero =>
            simp at ha hb
            subst ha
            obtain ⟨n, a1, a2, _⟩ := i1 b (List.mem_of_getElem? hb)
            dsimp only; omega
          | succ i => exact i3 i a b h0 (by simpa using ha) (by simpa using hb)
theorem thenT_one {g : List Sym} {s u : List Bd} (hs : bindB g s = true) (hn : NilOk s) (hu : bindB g u = true) (hm : NilOk u) (v : Int) (hl : (thenT s u v).length ≤ 48) (h0 : thenT s u v ≠ []) : oneB g (thenT s u v) = true := by
  unfold thenT at hl h0 ⊢
  rcases find_ok hs hn v with ⟨h1, _⟩ | ⟨h1, h2, _⟩
  · rw [if_pos h1] at hl h0 ⊢
    rcases find_ok hu hm v with ⟨_, h3⟩ | ⟨_, h3, _⟩
    · exact absurd h3 h0
    · exact h3
  · rw [if_neg (by simp [h1])] at hl h0 ⊢
    obtain ⟨hg, _, h3⟩ := one_lenN h2
    have h4 := on_lenN hu hm h3
    rw [List.take_length] at h4
    exact one_of hg hl h4
theorem then_may {g : List Sym} {s u t : List Bd} (hs : bindB g s = true) (hn : NilOk s) (hu : bindB g u = true) (hm : NilOk u) (ht : thenM s u = some t) : bindB g t = true ∧ NilOk t := by
  obtain ⟨h1, h2, h3⟩ := then_spec ht
  have hg : sigB g = true := by simp only [bindB, Bool.and_eq_true] at hs; exact hs.1
  refine ⟨?_, fun b hb hz => ?_⟩
  · simp only [bindB, hg, Bool.true_and, List.all_eq_true, List.mem_range]
    intro i hi
    obtain ⟨b, hb⟩ := at_lt hi
    obtain ⟨n, a1, a2, a3, a4, a5, a6, a7⟩ := h1 b (List.mem_of_getElem? hb)
    have h6 := thenT_one hs hn hu hm (n : Int) a7 a5
    unfold bindAt
    rw [hb]
    simp only [Bool.and_eq_true, decide_eq_true_eq]
    refine ⟨by omega, by omega, ?_, by rw [a4]; exact h6, ?_⟩
    · split
      · rename_i a ha
        cases i with
        | zero => simp
        | succ i =>
          have := h3 i a b rfl (by simpa using ha) hb
          simp [this]
      · rfl
    · rw [a4, a1]; simp [aloneB, a6]
  · obtain ⟨n, _, _, _, a4, _⟩ := h1 b hb
    rw [a4] at hz; cases hz
/-- Both at once do as one after the other. -/
theorem then_on {g : List Sym} {s u t : List Bd} (hs : bindB g s = true) (hn : NilOk s) (hu : bindB g u = true) (hm : NilOk u) (ht : thenM s u = some t) : ∀ {r : List Int}, (∀ c ∈ r, -24 ≤ c) → onB t r = onB u (onB s r)
  | [], h => rfl
  | c :: r, h => by
    have ih := then_on hs hn hu hm ht (r := r) (fun x hx => h x (by simp [hx]))
    rw [onB, onB, onB_app, ih]
    congr 1
    have hc := h c (by simp)
    by_cases h0 : 0 ≤ c
    · rw [onC, if_pos h0, onC, if_pos h0, onB_one, onC, if_pos h0]
    · obtain ⟨n, hn2⟩ : ∃ n : Nat, (-1 - c) = (n : Int) := ⟨(-1 - c).toNat, by omega⟩
      have h2 := (then_spec ht).2.1 n (Nat.zero_le _) (by omega)
      have hcn : c = -1 - (n : Int) := by omega
      rw [onC, if_neg h0, hn2, h2, onC, if_neg h0, hn2]
      have hT : thenT s u n = if (findB s n).z = true then (findB u n).l else onB u (findB s n).l := rfl
      rcases find_ok hs hn n with ⟨a1, a2⟩ | ⟨a1, a2, a3⟩
      · rw [if_pos a1] at hT
        rw [if_pos a1, onB_one, onC, if_neg h0, hn2]
        rcases find_ok hu hm n with ⟨b1, b2⟩ | ⟨b1, b2, b3, _⟩
        · rw [if_pos (Or.inl (by rw [hT, b2])), if_pos rfl, if_pos b1]
        · have b4 : (findB u n).l ≠ [] := by
            intro e; have := (one_lenN b2).2.2; rw [e] at this; simp [lenN] at this
          have hne : ¬ (thenT s u n = [] ∨ thenT s u n = [-1 - (n : Int)]) := by rw [hT]; rintro (e | e); exact b4 e; exact b3 e
          rw [if_neg hne, if_neg (by simp), if_neg (by simp [b1]), hT]
      · have a0 : ¬ (findB s n).z = true := by simp [a1]
        rw [if_neg a0] at hT
        rw [if_neg a0, ← hT]
        have a4 : onB u (findB s n).l ≠ [] := by
          intro e
          have h5 := (onB_len hu hm (findB s n).l).1
          have h6 := (one_lenN a2).2.2
          have := lenN_le h6
          rw [e] at h5; simp at h5; rw [h5] at this; simp at this
        by_cases h7 : thenT s u n = [-1 - (n : Int)]
        · rw [if_pos (Or.inr h7), if_pos rfl, h7, hcn]
        · have hne : ¬ (thenT s u n = [] ∨ thenT s u n = [-1 - (n : Int)]) := by rintro (e | e); exact a4 (hT ▸ e); exact h7 e
          rw [if_neg hne, if_neg (by simp)]
end Go.Qu

/- Binds: what the program's functions hand back. For every input; no condition. -/
set_option linter.unusedVariables false
set_option linter.unusedSimpArgs false
set_option maxRecDepth 100000
namespace Go.Proofs.YtekdlnofmbfdgaaDoor.Ab
open Go Go.Ab Go.Qu Go.Proofs
attribute [local simp] and_assoc
/-- Not too many binds. -/
def LenB (s : List Bd) : Prop := s.length ≤ 10000000000000
def rowAt (s : List Bd) (i : Nat) : Row := match s[i]? with | some b => b.r | none => ⟨true, [], []⟩
theorem w_bfind {s : List Bd} (hl : LenB s) (z : Bool) (e : List D) (v : Int) : C 95 [iBd z s e, iI v] = some (iS (findB s v).z (findB s v).l (findB s v).e, [iBd z s e, iI v]) := by
  unfold LenB at hl
  refine wfn (lk := []) rfl rfl (fnW_way (q95 _ _ z (bds s) e v _) ?_)
  rcases blk_find (F := F) (d := d95) (lk := []) (p := [1,0,1,0,0]) (p0 := [1,0,1]) (by kernel_rfl) (n := s.length) (id := 0) (st := fun i => [(1, iI v), (7, iBd z s e), (8, iI s.length), (9, iI i)]) (q := fun i => match s[i]? with | some b => b.v == v | none => false) (rt := fun i => [(4, iS (rowAt s i).z (rowAt s i).l (rowAt s i).e)]) (e := [(1, iI v), (7, iBd z s e), (8, iI s.length), (9, iI s.length)])
    (fun i hi hq => by
      refine wpQ_way (q95_l0a _ _ v z (bds s) e _ i _) ?_
      obtain ⟨b, hb⟩ := at_lt hi
      simp [hb] at hq
      have hr : rowAt s i = b.r := by simp [rowAt, hb]
      simp [-Bool.exists_bool, -getElem?_pos, wr1 hi (by omega), hi, bds_at hb, hq, hr])
    (fun i hi hq => by
      refine wpQ_way (q95_l0a _ _ v z (bds s) e _ i _) ?_
      obtain ⟨b, hb⟩ := at_lt hi
      simp [hb] at hq
      have hr : rowAt s i = b.r := by simp [rowAt, hb]
      simp [-Bool.exists_bool, -getElem?_pos, wr1 hi (by omega), hi, bds_at hb, hq, hr])
    (wpQ_way (q95_l0a _ _ v z (bds s) e _ s.length _) (by simp)) 0 (Nat.zero_le _) with ⟨h2, h3⟩ | ⟨j, h1, h2, h4, h5, h3⟩
  · have hf : findB s v = ⟨true, [], []⟩ := findB_none (fun k hk c hc => by
      have := h2 k (Nat.zero_le _) hk
      rw [hc] at this; simpa using this)
    rw [hf]
    simp at h3
    refine Or.inr ⟨_, _, _, _, _, _, by rw [bds_len]; exact h3, rfl⟩
  · obtain ⟨b, hb⟩ := at_lt h2
    rw [hb] at h4
    have hf : findB s v = b.r := findB_some hb (by simpa using h4) (fun k hk c hc => by
      have := h5 k (Nat.zero_le _) hk
      rw [hc] at this; simpa using this)
    have hr : rowAt s j = b.r := by simp [rowAt, hb]
    rw [hf]
    simp at h3
    rw [hr] at h3
    refine Or.inl ⟨_, _, _, by rw [bds_len]; exact h3, rfl⟩
theorem w_isterm (z z' : Bool) (g : List Sym) (e e' : List D) (r : List Int) : C 92 [iG z g e, iS z' r e'] = some (iB (oneB g r), [iG z g e, iS z' r e']) := by
  refine wfn (lk := []) rfl rfl (fnW_way (q92 _ _ z (syms g) e z' (ints r) e' _) ?_)
  have h1 := w_begins z z' g e e' r
  refine ⟨_, _, _, _, _, h1, ?_⟩
  cases h : rowB g r
  · simp [oneB, h]
  · rw [condW_tt, ints_len]
    have e1 : (begsM g r).length = termsN g r := rfl
    rw [e1]
    by_cases h1 : termsN g r = 1
    · simp [oneB, h, h1]
    · have h2 : ((termsN g r : Int) == 1) = false := by simp; omega
      rw [h2, condW_ff]
      simp [oneB, h, h1]
theorem w_balone {t : List Int} (ht : Len t) (z : Bool) (e : List D) (v : Int) (hv : -1000000 ≤ v ∧ v ≤ 1000000) : C 93 [iS z t e, iI v] = some (iB (aloneB t v), [iS z t e, iI v]) := by
  refine wfn (lk := []) rfl rfl (fnW_way (q93 _ _ z (ints t) e v _) ?_)
  have hw : IntKind.wrap .i64 (-1 - v) = -1 - v := wr _ (by omega) (by omega)
  have hn := w_number v
  rw [hw] at hn
  match t with
  | [] => simp [aloneB, ints_nil]
  | [c] =>
    by_cases h : c = -1 - v
    · simp [-Bool.exists_bool, aloneB, ints_cons, ints_nil, hn, h]
    · simp [-Bool.exists_bool, aloneB, ints_cons, ints_nil, hn, h]
  | c :: d :: t =>
    have h2 : ((((ints (c :: d :: t)).length : Nat) : Int) == 1) = false := by rw [ints_len]; simp; omega
    rw [h2, condW_ff]
    simp [aloneB]
theorem w_bmay {s : List Bd} (hl : LenB s) (z z' : Bool) (g : List Sym) (e e' : List D) : C 63 [iG z g e, iBd z' s e'] = some (iB (bindB g s), [iG z g e, iBd z' s e']) := by
  unfold LenB at hl
  refine wfn (lk := []) rfl rfl (fnW_way (q63 _ _ z (syms g) e z' (bds s) e' _) ?_)
  have h1 := w_may z g e
  refine ⟨_, _, h1, ?_⟩
  cases hg : sigB g
  · simp [bindB, hg]
  rw [condW_tt]
  have turn : ∀ i, i < s.length → ∀ Q : Out → Prop, condW (bindAt g s i) (Q (.norm [(0, iG z g e), (1, iBd z' s e'), (10, iBd z' s e'), (11, iI s.length), (12, iI (i + 1 : Nat))])) (Q (.ret [(4, iB false)])) → wpQ F (Go.Ab.W F) R L63 (JW F d63 []) d63 [] [1,1,0,1,0,0] [(0, iG z g e), (1, iBd z' s e'), (10, iBd z' s e'), (11, iI s.length), (12, iI i)] Q := fun i hi Q hQ => by
    obtain ⟨b, hb⟩ := at_lt hi
    rw [q63_l0a]
    have hi' : (i : Int) < (s.length : Int) := by omega
    have hi0 : (0 : Int) ≤ (i : Int) := by omega
    rw [condW_d, if_pos hi', condW_d, if_pos hi0, Int.toNat_natCast]
    refine ⟨_, _, _, _, bds_at hb, ?_⟩
    rw [condW_d, condW_d]
    unfold bindAt at hQ
    rw [hb] at hQ
    dsimp only at hQ
    by_cases c1 : b.v < 0
    · rw [if_pos c1]
      have : ¬ 0 ≤ b.v := by omega
      simpa [this] using hQ
    rw [if_neg c1]
    have c1' : 0 ≤ b.v := by omega
    by_cases c2 : b.v > 23
    · rw [if_pos c2]
      have : ¬ b.v ≤ 23 := by omega
      simpa [this] using hQ
    rw [if_neg c2, condW_d]
    have c2' : b.v ≤ 23 := by omega
    have ht := w_isterm z b.r.z g e b.r.e b.r.l
    have tail : ∀ {x : Bool}, x = true → condW (x && (oneB g b.r.l && !(aloneB b.r.l b.v))) (Q (.norm [(0, iG z g e), (1, iBd z' s e'), (10, iBd z' s e'), (11, iI s.length), (12, iI (i + 1 : Nat))])) (Q (.ret [(4, iB false)])) → ∃ (w8 : Bool) (w9 w10 : D), C 92 [iG z g e, iS b.r.z b.r.l b.r.e] = some (IV.d (D.bool w8), [IV.d w9, IV.d w10]) ∧ condW w8 (∃ (w11 : Bool) (w12 w13 : D), C 93 [iS b.r.z b.r.l b.r.e, iI b.v] = some (IV.d (D.bool w11), [IV.d w12, IV.d w13]) ∧ condW w11 (Q (Out.ret [(4, iB false)])) (Q (Out.norm [(0, iG z g e), (1, iBd z' s e'), (10, iBd z' s e'), (11, iI s.length), (12, iI (IntKind.wrap .i64 ((i : Int) + 1)))]))) (Q (Out.ret [(4, iB false)])) := fun {x} hx hq => by
      refine ⟨_, _, _, ht, ?_⟩
      subst hx
      cases ho : oneB g b.r.l
      · rw [ho] at hq; simpa using hq
      · rw [condW_tt]
        have hlen := (one_lenN ho).2.1
        refine ⟨_, _, _, w_balone (by unfold Len; omega) b.r.z b.r.e b.v ⟨by omega, by omega⟩, ?_⟩
        rw [ho] at hq
        cases ha : aloneB b.r.l b.v
        · rw [ha] at hq; rw [condW_ff, wr1 hi (by omega)]; simpa using hq
        · rw [ha] at hq; rw [condW_tt]; simpa using hq
    rw [decide_eq_true c1', decide_eq_true c2', Bool.true_and, Bool.true_and] at hQ
    by_cases c3 : i = 0
    · subst c3
      rw [if_neg (by simp)]
      refine tail (x := match s[0 - 1]? with | some a => decide (0 = 0) || decide (a.v < b.v) | none => true) ?_ hQ
      split <;> rfl
    · have hw : IntKind.wrap .i64 ((i : Int) - 1) = ((i - 1 : Nat) : Int) := by rw [wr _ (by omega) (by omega)]; omega
      obtain ⟨a, ha⟩ := at_lt (l := s) (i := i - 1) (by omega)
      rw [if_pos (by omega), hw, condW_d, if_pos (by omega), Int.toNat_natCast]
      refine ⟨_, _, _, _, bds_at ha, ?_⟩
      rw [condW_d]
      rw [ha] at hQ
      dsimp only at hQ
      by_cases c4 : a.v ≥ b.v
      · rw [if_pos c4]
        have : ¬ a.v < b.v := by omega
        simpa [this, c3] using hQ
      · rw [if_neg c4]
        refine tail (x := decide (i = 0) || decide (a.v < b.v)) ?_ hQ
        simp; omega
  rcases blk_all (F := F) (d := d63) (lk := []) (p := [1,1,0,1,0,0]) (p0 := [1,1,0,1]) (by kernel_rfl) (n := s.length) (id := 0) (st := fun i => [(0, iG z g e), (1, iBd z' s e'), (10, iBd z' s e'), (11, iI s.length), (12, iI i)]) (q := bindAt g s) (rt := [(4, iB false)]) (e := [(0, iG z g e), (1, iBd z' s e'), (10, iBd z' s e'), (11, iI s.length), (12, iI s.length)])
    (fun i hi hq => wpQ_way rfl (turn i hi _ (by rw [hq, condW_tt])))
    (fun i hi hq => wpQ_way rfl (turn i hi _ (by rw [hq, condW_ff])))
    (wpQ_way (q63_l0a _ _ z (syms g) e z' (bds s) e' z' (bds s) e' _ s.length _) (by simp)) 0 (Nat.zero_le _) with ⟨h2, h3⟩ | ⟨⟨j, h2, h4, h5⟩, h3⟩
  · have h6 : bindB g s = true := by
      simp only [bindB, hg, Bool.true_and, List.all_eq_true, List.mem_range]
      exact fun j hj => h2 j (Nat.zero_le _) hj
    rw [h6]
    simp at h3
    exact Or.inr ⟨_, _, _, _, _, _, _, _, _, _, _, by rw [bds_len]; exact h3, rfl⟩
  · have h6 : bindB g s = false := by
      simp only [bindB, hg, Bool.true_and]
      rw [List.all_eq_false]
      exact ⟨j, List.mem_range.2 h4, by simp [h5]⟩
    rw [h6]
    simp at h3
    exact Or.inl ⟨_, by rw [bds_len]; exact h3, rfl⟩
theorem w_on {g : List Sym} {s : List Bd} (hs : bindB g s = true) (hn : NilOk s) (hl : LenB s) {r : List Int} (hr : r.length ≤ 1000) (hc : ∀ c ∈ r, -1000000 ≤ c ∧ c ≤ 1000000) (z z' : Bool) (e e' : List D) : C 65 [iBd z s e, iS z' r e'] = some (.own (onB s r).isEmpty 3 1 (ints (onB s r)), [iBd z s e, iS z' r e']) := by
  refine wfn (lk := []) rfl rfl (fnW_way (q65 _ _ z (bds s) e z' (ints r) e' _) ?_)
  have h1 := fun x hx => blk_fun (F := F) (d := d65) (lk := []) (p := [1,1,0,1,0,0]) (p0 := [1,1,0,1]) (id := 0) (by kernel_rfl) (st := fun (x : List Int × Nat) => [(0, iBd z s e), (5, .own x.1.isEmpty 3 1 (ints x.1)), (9, iS z' r e'), (10, iI r.length), (11, iI x.2)]) (I := fun x => x.2 ≤ r.length ∧ x.1.length ≤ 48 * x.2) (μ := fun x => r.length - x.2)
    (res := fun x => .norm [(0, iBd z s e), (5, .own (x.1 ++ onB s (r.drop x.2)).isEmpty 3 1 (ints (x.1 ++ onB s (r.drop x.2)))), (9, iS z' r e'), (10, iI r.length), (11, iI r.length)])
    (fun x hx => by
      obtain ⟨acc, i⟩ := x
      obtain ⟨hx1, hx2⟩ := hx
      dsimp only at hx1 hx2
      by_cases hi : i < r.length
      · have hci := hc _ (gi_mem hi)
        have hi' : (i : Int) < (r.length : Int) := by omega
        have hi0 : (0 : Int) ≤ (i : Int) := by omega
        have hw : IntKind.wrap .i64 (-1 - gi r i) = -1 - gi r i := wr _ (by omega) (by omega)
        have hnu := w_number (gi r i)
        rw [hw] at hnu
        have hf := w_bfind hl z e (-1 - gi r i)
        have hcl := onC_len hs hn (gi r i)
        refine .go (acc ++ onC s (gi r i), i + 1) (wpQ_way (q65_l0a _ _ z (bds s) e _ (ints acc) z' (ints r) e' _ i _) ?_) ⟨by dsimp only; omega, by simp; omega⟩ (by dsimp only; omega) ?_
        · rw [condW_d, if_pos hi', condW_d, if_pos hi0, Int.toNat_natCast]
          refine ⟨_, Go.Ab.ints_at hi, _, _, hnu, _, _, _, _, _, hf, ?_⟩
          rw [wr1 hi (by omega), ints_len, condW_d]
          have n1 : acc.length + (0 + 1) ≤ 9223372036854775807 := by omega
          have n2 : (acc.length + (0 + 1)) * 8 ≤ 140737488355328 := by omega
          have h1c : ∀ c : Int, onC s (gi r i) = [c] → Out.norm [(0, iBd z s e), (5, IV.own (acc.isEmpty && false) 3 1 (ints acc ++ [D.int .i64 c])), (9, iS z' r e'), (10, iI r.length), (11, iI (i + 1 : Nat))] = Out.norm [(0, iBd z s e), (5, .own (acc ++ onC s (gi r i)).isEmpty 3 1 (ints (acc ++ onC s (gi r i)))), (9, iS z' r e'), (10, iI r.length), (11, iI (i + 1 : Nat))] := fun c h => by
            rw [h]; simp [ints_append, ints_cons, ints_nil]
          by_cases h0 : 0 ≤ gi r i
          · rw [if_pos h0, condW_d, if_pos n1, condW_d, if_pos n2]
            exact h1c _ (by rw [onC, if_pos h0])
          · rw [if_neg h0]
            cases hz : (findB s (-1 - gi r i)).z
            · have hl1 : (findB s (-1 - gi r i)).l.length ≤ 48 := by
                rcases find_ok hs hn (-1 - gi r i) with ⟨a, _⟩ | ⟨_, a, _⟩
                · rw [hz] at a; cases a
                · exact (one_lenN a).2.1
              rw [condW_ff, ints_len, condW_d, if_pos (by omega), condW_d, if_pos (by omega)]
              have hon : onC s (gi r i) = (findB s (-1 - gi r i)).l := by rw [onC, if_neg h0, if_neg (by simp [hz])]
              rw [hon]
              cases hfl : (findB s (-1 - gi r i)).l <;> simp [ints_append, ints_nil, ints_cons]
            · rw [condW_tt, condW_d, if_pos n1, condW_d, if_pos n2]
              exact h1c _ (by rw [onC, if_neg h0, if_pos hz])
        · dsimp only
          rw [gi_drop hi, onB, List.append_assoc]
      · have e1 : i = r.length := by omega
        subst e1
        refine .stop (.exit 0 [(0, iBd z s e), (5, .own acc.isEmpty 3 1 (ints acc)), (9, iS z' r e'), (10, iI r.length), (11, iI r.length)]) (wpQ_way (q65_l0a _ _ z (bds s) e _ (ints acc) z' (ints r) e' _ r.length _) (by simp)) rfl ?_
        simp [blkO, onB]) x hx
  have h2 : evP F (Go.Ab.W F) (JW F d65 []) d65 [] [1,1,0,1] [(0, iBd z s e), (5, .own true 3 1 []), (9, iS z' r e'), (10, iI r.length), (11, iI 0)] = _ := h1 ([], 0) ⟨Nat.zero_le _, Nat.zero_le _⟩
  rw [List.drop_zero, List.nil_append] at h2
  rw [ints_len]
  exact ⟨_, _, _, _, _, _, _, _, _, _, h2, rfl⟩
/-- What Apply hands back. -/
def appE (g : List Sym) (s : List Bd) (r : List Int) : Int := if (bindB g s && rowB g r) = true then (if (onB s r).length > 48 then 301 else 0) else 300
def appV (g : List Sym) (s : List Bd) (r : List Int) : List Int := if appE g s r = 0 then onB s r else []
theorem w_apply {s : List Bd} (hn : NilOk s) (hl : LenB s) (z z' z'' : Bool) (g : List Sym) (e e' e'' : List D) (r : List Int) : C 38 [iG z g e, iBd z' s e', iS z'' r e''] = some (.tup [.own (appV g s r).isEmpty 3 1 (ints (appV g s r)), iI (appE g s r)], [iG z g e, iBd z' s e', iS z'' r e'']) := by
  refine wfn (lk := []) rfl rfl (fnW_way (q38 _ _ z (syms g) e z' (bds s) e' z'' (ints r) e'' _) ?_)
  refine ⟨_, _, _, w_bmay hl z z' g e e', ?_⟩
  cases hs : bindB g s
  · have h1 : appE g s r = 300 := by simp [appE, hs]
    have h2 : appV g s r = [] := by simp [appV, h1]
    rw [condW_ff, h1, h2]; rfl
  rw [condW_tt]
  refine ⟨_, _, _, w_isrow z z'' g e e'' r, ?_⟩
  cases hr : rowB g r
  · have h1 : appE g s r = 300 := by simp [appE, hr]
    have h2 : appV g s r = [] := by simp [appV, h1]
    rw [condW_ff, h1, h2]; rfl
  rw [condW_tt]
  have hlen := (rowB_parts hr).2.1
  refine ⟨_, _, _, _, w_on hs hn hl (r := r) (by omega) (fun c hc => by have := row_codes hr c hc; have := (sigOk (rowB_parts hr).1).hi; omega) z' z'' e' e'', ?_⟩
  rw [ints_len, condW_d]
  by_cases h48 : (onB s r).length > 48
  · have h1 : appE g s r = 301 := by simp [appE, hs, hr, h48]
    have h2 : appV g s r = [] := by simp [appV, h1]
    rw [if_pos (by omega), h1, h2]; rfl
  · have h1 : appE g s r = 0 := by simp [appE, hs, hr, h48]
    have h2 : appV g s r = onB s r := by simp [appV, h1]
    rw [if_neg (by omega), h1, h2]
theorem w_bclone {t : List Int} (ht : Len t) (z : Bool) (hz : z = true → t = []) (e : List D) : C 76 [iS z t e] = some (.own z 3 1 (ints t), [iS z t e]) := by
  refine wfn (lk := []) rfl rfl (fnW_way (q76 _ _ z (ints t) e _) ?_)
  unfold Len at ht
  cases z
  · rw [condW_ff, ints_len, condW_d, if_pos (by omega), condW_d, if_pos (by omega)]
  · rw [condW_tt, hz rfl]; rfl
end Go.Proofs.YtekdlnofmbfdgaaDoor.Ab

/- Written by a program of this session (wip/tools/AbSym.lean). Not trusted: Lean checks it. -/
set_option maxRecDepth 100000
set_option linter.unusedVariables false
namespace Go.Proofs.YtekdlnofmbfdgaaDoor.Ab
open Go Go.Ab Go.Proofs
def L6 : Lps := fun b => match b with
  | _ => [.norm []]
theorem q6 (C J) (z1 : Bool) (x2 : List D) (e3 : List D) (z4 : Bool) (x5 : List D) (e6 : List D) (z7 : Bool) (x8 : List D) (e9 : List D) (z10 : Bool) (x11 : List D) (e12 : List D) (z13 : Bool) (x14 : List D) (e15 : List D) (z16 : Bool) (x17 : List D) (e18 : List D) (Q) : fnW F C R (L6) J d6 [.d (.sl 4 z1 x2 e3), .d (.sl 2 z4 x5 e6), .d (.agg [.sl 2 z7 x8 e9, .sl 1 z10 x11 e12, .sl 2 z13 x14 e15]), .d (.sl 2 z16 x17 e18)] Q = (∃ w0, C 16 [] = some (IV.d (D.bool w0), []) ∧ condW w0 (∃ w1 w2 w3 w4 w5 w6 w7 w8, C 19 [IV.d (D.sl 4 z1 x2 e3), IV.d (D.sl 2 z4 x5 e6), IV.d (D.agg [D.sl 2 z7 x8 e9, D.sl 1 z10 x11 e12, D.sl 2 true [] []])] = some (IV.tup [IV.agg [IV.own w1 68 2 w2, IV.own w3 28 1 w4, IV.d (D.sl 2 true [] [])], IV.d (D.bool w5)], [IV.d w6, IV.d w7, IV.d w8]) ∧ condW w5 (∃ w9 w10 w11, C 20 [IV.d (D.sl 4 z1 x2 e3), IV.d (D.agg [D.sl 2 z7 x8 e9, D.sl 1 z10 x11 e12, D.sl 2 z13 x14 e15])] = some (IV.d (D.bool w9), [IV.d w10, IV.d w11]) ∧ condW w9 (condW (decide (IntKind.wrap IntKind.i64 ((↑(List.length w2) : Int) + (↑(List.length x17) : Int)) > 5)) (Q (some (IV.d (D.bool true), [IV.d (D.sl 4 z1 x2 e3), IV.d (D.sl 2 z4 x5 e6), IV.d (D.agg [D.sl 2 z7 x8 e9, D.sl 1 z10 x11 e12, D.sl 2 z13 x14 e15]), IV.d (D.sl 2 z16 x17 e18)]))) (∃ w12 w13 w14 w15 w16 w17 w18, C 9 [IV.d (D.agg [D.sl 2 w1 w2 [], D.sl 1 w3 w4 [], D.sl 2 true [] []])] = some (IV.agg [IV.own w12 68 2 w13, IV.own w14 28 1 w15, IV.own w16 68 2 w17], [IV.d w18]) ∧ ∃ w19 w20 w21, C 21 [IV.d (D.sl 2 z16 x17 e18)] = some (IV.own w19 68 2 w20, [IV.d w21]) ∧ condW (decide (List.length w20 + List.length w2 ≤ 9223372036854775807)) (condW (decide ((List.length w20 + List.length w2) * 32 ≤ 140737488355328)) (∃ w22 w23 w24, C 20 [IV.d (D.sl 4 z1 x2 e3), IV.d (D.agg [D.sl 2 (w19 && List.isEmpty w2) (w20 ++ w2) [], D.sl 1 w14 w15 [], D.sl 2 w16 w17 []])] = some (IV.d (D.bool w22), [IV.d w23, IV.d w24]) ∧ condW w22 (∃ w25 w26 w27 w28 w29, C 12 [IV.d (D.sl 4 z1 x2 e3), IV.d (D.agg [D.sl 2 z7 x8 e9, D.sl 1 z10 x11 e12, D.sl 2 true [] []]), IV.d (D.agg [D.sl 2 w1 w2 [], D.sl 1 w3 w4 [], D.sl 2 true [] []])] = some (IV.tup [IV.d (D.bool w25), IV.d (D.int IntKind.i64 w26)], [IV.d w27, IV.d w28, IV.d w29]) ∧ condW w25 (∃ w30 w31 w32 w33 w34, C 12 [IV.d (D.sl 4 z1 x2 e3), IV.d (D.agg [D.sl 2 z7 x8 e9, D.sl 1 z10 x11 e12, D.sl 2 true [] []]), IV.d (D.agg [D.sl 2 (w19 && List.isEmpty w2) (w20 ++ w2) [], D.sl 1 w14 w15 [], D.sl 2 w16 w17 []])] = some (IV.tup [IV.d (D.bool w30), IV.d (D.int IntKind.i64 w31)], [IV.d w32, IV.d w33, IV.d w34]) ∧ condW w30 (∃ w35 w36, C 14 [IV.d (D.int IntKind.i64 w26)] = some (IV.d (D.int IntKind.i64 w35), [IV.d w36]) ∧ condW (w35 == 0) (∃ w37 w38, C 14 [IV.d (D.int IntKind.i64 w31)] = some (IV.d (D.int IntKind.i64 w37), [IV.d w38]) ∧ condW (w37 == 0) (Q (some (IV.d (D.bool true), [IV.d (D.sl 4 z1 x2 e3), IV.d (D.sl 2 z4 x5 e6), IV.d (D.agg [D.sl 2 z7 x8 e9, D.sl 1 z10 x11 e12, D.sl 2 z13 x14 e15]), IV.d (D.sl 2 z16 x17 e18)]))) (Q (some (IV.d (D.bool false), [IV.d (D.sl 4 z1 x2 e3), IV.d (D.sl 2 z4 x5 e6), IV.d (D.agg [D.sl 2 z7 x8 e9, D.sl 1 z10 x11 e12, D.sl 2 z13 x14 e15]), IV.d (D.sl 2 z16 x17 e18)])))) (Q (some (IV.d (D.bool false), [IV.d (D.sl 4 z1 x2 e3), IV.d (D.sl 2 z4 x5 e6), IV.d (D.agg [D.sl 2 z7 x8 e9, D.sl 1 z10 x11 e12, D.sl 2 z13 x14 e15]), IV.d (D.sl 2 z16 x17 e18)])))) (Q (some (IV.d (D.bool false), [IV.d (D.sl 4 z1 x2 e3), IV.d (D.sl 2 z4 x5 e6), IV.d (D.agg [D.sl 2 z7 x8 e9, D.sl 1 z10 x11 e12, D.sl 2 z13 x14 e15]), IV.d (D.sl 2 z16 x17 e18)])))) (∃ w39 w40 w41 w42 w43, C 12 [IV.d (D.sl 4 z1 x2 e3), IV.d (D.agg [D.sl 2 z7 x8 e9, D.sl 1 z10 x11 e12, D.sl 2 true [] []]), IV.d (D.agg [D.sl 2 (w19 && List.isEmpty w2) (w20 ++ w2) [], D.sl 1 w14 w15 [], D.sl 2 w16 w17 []])] = some (IV.tup [IV.d (D.bool w39), IV.d (D.int IntKind.i64 w40)], [IV.d w41, IV.d w42, IV.d w43]) ∧ condW w39 (Q (some (IV.d (D.bool false), [IV.d (D.sl 4 z1 x2 e3), IV.d (D.sl 2 z4 x5 e6), IV.d (D.agg [D.sl 2 z7 x8 e9, D.sl 1 z10 x11 e12, D.sl 2 z13 x14 e15]), IV.d (D.sl 2 z16 x17 e18)]))) (Q (some (IV.d (D.bool false), [IV.d (D.sl 4 z1 x2 e3), IV.d (D.sl 2 z4 x5 e6), IV.d (D.agg [D.sl 2 z7 x8 e9, D.sl 1 z10 x11 e12, D.sl 2 z13 x14 e15]), IV.d (D.sl 2 z16 x17 e18)]))))) (Q (some (IV.d (D.bool true), [IV.d (D.sl 4 z1 x2 e3), IV.d (D.sl 2 z4 x5 e6), IV.d (D.agg [D.sl 2 z7 x8 e9, D.sl 1 z10 x11 e12, D.sl 2 z13 x14 e15]), IV.d (D.sl 2 z16 x17 e18)])))) False) False)) (Q (some (IV.d (D.bool true), [IV.d (D.sl 4 z1 x2 e3), IV.d (D.sl 2 z4 x5 e6), IV.d (D.agg [D.sl 2 z7 x8 e9, D.sl 1 z10 x11 e12, D.sl 2 z13 x14 e15]), IV.d (D.sl 2 z16 x17 e18)])))) (Q (some (IV.d (D.bool true), [IV.d (D.sl 4 z1 x2 e3), IV.d (D.sl 2 z4 x5 e6), IV.d (D.agg [D.sl 2 z7 x8 e9, D.sl 1 z10 x11 e12, D.sl 2 z13 x14 e15]), IV.d (D.sl 2 z16 x17 e18)])))) (Q (some (IV.d (D.bool false), [IV.d (D.sl 4 z1 x2 e3), IV.d (D.sl 2 z4 x5 e6), IV.d (D.agg [D.sl 2 z7 x8 e9, D.sl 1 z10 x11 e12, D.sl 2 z13 x14 e15]), IV.d (D.sl 2 z16 x17 e18)])))) := by kernel_rfl
end Go.Proofs.YtekdlnofmbfdgaaDoor.Ab

/- Chapter 10's law SubsumeMade: for every input the law returns true. No condition. -/
set_option linter.unusedVariables false
set_option linter.unusedSimpArgs false
set_option maxRecDepth 100000
namespace Go.Proofs.YtekdlnofmbfdgaaDoor.Ab
open Go Go.Ab Go.Qu Go.Proofs
theorem w_awake : C 16 [] = some (iB true, []) := W_ev (n := 60) (by kernel_rfl)
theorem ok_of {g : List Sym} {c : Cl} (h : clB g c = true) : ClOk g c.c := clOk.1 ((clB_c g c).symm.trans h)
theorem does_yes {g : List Sym} (z : Bool) (e : List D) {c d : Cl} (hn : NilC c) (hm : NilC d) (hc : clB g c = true) (hd : clB g d = true) (hs : Says g c.c d.c) : C 12 [iG z g e, iC c, iC d] = some (.tup [iB true, iI 0], [iG z g e, iC c, iC d]) := by
  have h := w_does z e hn hm (g := g)
  have h1 : mayB g c d = true := by unfold mayB; rw [hc, hd]; rfl
  rw [h1, does_iff.2 hs] at h
  exact h
/-! ### Arguments -/
theorem good_bind {n : Nat} {x : D} (h : Go.Ab.Good Tryd.prog (n + 3) 132 x) : ∃ b : Bd, x = b.d ∧ (b.r.z = true → b.r.l = []) := by
  unfold Go.Ab.Good at h
  rw [Tryd.underlying132] at h
  obtain ⟨ys, rfl, y0, r0, rfl, h0, y1, r1, rfl, h1, rfl⟩ := h
  obtain ⟨a, rfl, _⟩ := good_int h0
  obtain ⟨z, l, rfl, _⟩ := good_ints h1
  exact ⟨⟨a, ⟨z, l, []⟩⟩, rfl, good_nil (n := n + 1) h1⟩
theorem good_binds {n : Nat} {x : D} (h : Go.Ab.Good Tryd.prog (n + 4) 47 x) : ∃ z s, x = .sl 2 z (bds s) [] ∧ LenB s ∧ NilOk s := by
  unfold Go.Ab.Good at h
  rw [Tryd.underlying47] at h
  obtain ⟨z, xs, rfl, h1, h2, h3⟩ := h
  have hc : Tryd.prog.cellsOf 132 = 2 := by kernel_rfl
  have hb : Tryd.prog.bytesOf 132 = 32 := by kernel_rfl
  rw [hb] at h1
  rw [hc]
  obtain ⟨s, rfl, h4⟩ := all_map (f := Bd.d) (Q := fun b => b.r.z = true → b.r.l = []) (fun y hy => good_bind (h2 y hy))
  rw [List.length_map] at h1
  exact ⟨z, s, rfl, by unfold LenB; simp [reachBytes] at h1; omega, h4⟩
/-! ### What binds make of a clause -/
def litPut (g : List Sym) (s : List Bd) (l : LitR) : Option LitR := match l.r.l with
  | [] => none
  | c :: r => if appE g s r = 0 then some ⟨l.neg, ⟨false, c :: appV g s r, []⟩⟩ else none
def putR (g : List Sym) (s : List Bd) : List LitR → List LitR → List LitR × Bool
  | acc, [] => (acc, true)
  | acc, l :: ls => match litPut g s l with
    | none => (acc, false)
    | some m => putR g s (acc ++ [m]) ls
def rowPut (g : List Sym) (s : List Bd) (r : Row) : Option Row := if appE g s r.l = 0 then some ⟨(appV g s r.l).isEmpty, appV g s r.l, []⟩ else none
def putT (g : List Sym) (s : List Bd) : List Row → List Row → List Row × Bool
  | acc, [] => (acc, true)
  | acc, r :: rs => match rowPut g s r with
    | none => (acc, false)
    | some m => putT g s (acc ++ [m]) rs
theorem putR_mem {g : List Sym} {s : List Bd} : ∀ {ls acc : List LitR}, (putR g s acc ls).2 = true → (∀ m ∈ (putR g s acc ls).1, m ∈ acc ∨ ∃ l ∈ ls, litPut g s l = some m) ∧ (∀ m ∈ acc, m ∈ (putR g s acc ls).1) ∧ ∀ l ∈ ls, ∃ m ∈ (putR g s acc ls).1, litPut g s l = some m
  | [], acc, h => ⟨fun m hm => .inl hm, fun m hm => hm, by simp⟩
  | l :: ls, acc, h => by
    unfold putR at h ⊢
    cases hp : litPut g s l with
    | none => rw [hp] at h; cases h
    | some m =>
      rw [hp] at h
      dsimp only at h ⊢
      obtain ⟨h1, h2, h3⟩ := putR_mem h
      refine ⟨fun x hx => ?_, fun x hx => h2 x (by simp [hx]), fun x hx => ?_⟩
      · rcases h1 x hx with h4 | ⟨y, h4, h5⟩
        · rcases List.mem_append.1 h4 with h4 | h4
          · exact .inl h4
          · simp at h4; subst h4; exact .inr ⟨l, by simp, hp⟩
        · exact .inr ⟨y, by simp [h4], h5⟩
      · rcases List.mem_cons.1 hx with rfl | hx
        · exact ⟨m, h2 m (by simp), hp⟩
        · exact h3 x hx
theorem putT_mem {g : List Sym} {s : List Bd} : ∀ {ls acc : List Row}, (putT g s acc ls).2 = true → (∀ m ∈ (putT g s acc ls).1, m ∈ acc ∨ ∃ l ∈ ls, rowPut g s l = some m) ∧ (∀ m ∈ acc, m ∈ (putT g s acc ls).1) ∧ ∀ l ∈ ls, ∃ m ∈ (putT g s acc ls).1, rowPut g s l = some m
  | [], acc, h => ⟨fun m hm => .inl hm, fun m hm => hm, by simp⟩
  | l :: ls, acc, h => by
    unfold putT at h ⊢
    cases hp : rowPut g s l with
    | none => rw [hp] at h; cases h
    | some m =>
      rw [hp] at h
      dsimp only at h ⊢
      obtain ⟨h1, h2, h3⟩ := putT_mem h
      refine ⟨fun x hx => ?_, fun x hx => h2 x (by simp [hx]), fun x hx => ?_⟩
      · rcases h1 x hx with h4 | ⟨y, h4, h5⟩
        · rcases List.mem_append.1 h4 with h4 | h4
          · exact .inl h4
          · simp at h4; subst h4; exact .inr ⟨l, by simp, hp⟩
        · exact .inr ⟨y, by simp [h4], h5⟩
      · rcases List.mem_cons.1 hx with rfl | hx
        · exact ⟨m, h2 m (by simp), hp⟩
        · exact h3 x hx
theorem appV_len (g : List Sym) (s : List Bd) (r : List Int) : (appV g s r).length ≤ 48 := by
  unfold appV
  split
  · rename_i h
    unfold appE at h
    split at h
    · split at h
      · cases h
      · omega
    · cases h
  · simp
theorem appE_zero {g : List Sym} {s : List Bd} {r : List Int} (h : appE g s r = 0) : bindB g s = true ∧ rowB g r = true ∧ appV g s r = onB s r := by
  refine ⟨?_, ?_, by rw [appV, if_pos h]⟩
  · unfold appE at h
    cases hb : bindB g s
    · rw [hb] at h; simp at h
    · rfl
  · unfold appE at h
    cases hb : rowB g r
    · rw [hb] at h; simp at h
    · rfl
/-- Binds as terms for all variables. -/
def sbOf (s : List Bd) : Sb := fun v => if v ≤ 23 then onC s (-1 - (v : Int)) else [-1]
theorem sbOf_ok {g : List Sym} {s : List Bd} (hs : bindB g s = true) (hn : NilOk s) : (sbOf s).Ok g := fun v => by
  unfold sbOf
  split
  · unfold onC
    rw [if_neg (by omega)]
    rcases find_ok hs hn (-1 - (-1 - (v : Int))) with ⟨h1, _⟩ | ⟨h1, h2, _⟩
    · rw [if_pos h1]; exact lenN_one (by omega) (by omega)
    · rw [if_neg (by simp [h1])]; exact (one_lenN h2).2.2
  · exact lenN_one (by omega) (by omega)
theorem app_sb {s : List Bd} : ∀ {a : List Int}, (∀ c ∈ a, -24 ≤ c) → app (sbOf s) a = onB s a
  | [], _ => rfl
  | c :: a, h => by
    rw [app_cons, onB, app_sb (fun x hx => h x (by simp [hx]))]
    congr 1
    have hc := h c (by simp)
    unfold appC
    split
    · rename_i h0; rw [onC, if_pos h0]
    · have h1 : vN c ≤ 23 := by unfold vN; omega
      have h2 : (-1 - (vN c : Int)) = c := by unfold vN; omega
      rw [sbOf, if_pos h1, h2]
abbrev pO (us : List LitR) (vs : List Row) : IV := .ptr 26 0 [.own us.isEmpty 68 2 (lits us), .own vs.isEmpty 28 1 (rws vs), .d (.sl 2 true [] [])]
theorem l_put0 {s : List Bd} (hn : NilOk s) (hs : LenB s) (z z1 : Bool) (g : List Sym) {c : Cl} (hc : c.ls.length * 32 ≤ 140737488351232) (x : List LitR × Nat) (hx : x.2 ≤ c.ls.length ∧ x.1.length = x.2) :
    evP F (Go.Ab.W F) (JW F d19 []) d19 [] [1,1,0,1] [(0, iG z g []), (1, iBd z1 s []), (5, bC c), (6, pO [] []), (8, pO x.1 []), (9, iI x.2)] = some (if (putR g s x.1 (c.ls.drop x.2)).2 = true then .norm [(0, iG z g []), (1, iBd z1 s []), (5, bC c), (6, pO [] []), (8, pO (putR g s x.1 (c.ls.drop x.2)).1 []), (9, iI c.ls.length)] else .ret [(6, pO (putR g s x.1 (c.ls.drop x.2)).1 []), (7, iB false)]) :=
  blk_fun (F := F) (d := d19) (lk := []) (p := [1,1,0,1,0,0]) (p0 := [1,1,0,1]) (id := 0) (by kernel_rfl) (st := fun (x : List LitR × Nat) => [(0, iG z g []), (1, iBd z1 s []), (5, bC c), (6, pO [] []), (8, pO x.1 []), (9, iI x.2)]) (I := fun x => x.2 ≤ c.ls.length ∧ x.1.length = x.2) (μ := fun x => c.ls.length - x.2)
    (res := fun x => if (putR g s x.1 (c.ls.drop x.2)).2 = true then .norm [(0, iG z g []), (1, iBd z1 s []), (5, bC c), (6, pO [] []), (8, pO (putR g s x.1 (c.ls.drop x.2)).1 []), (9, iI c.ls.length)] else .ret [(6, pO (putR g s x.1 (c.ls.drop x.2)).1 []), (7, iB false)])
    (fun x hx => by
      obtain ⟨acc, i⟩ := x
      obtain ⟨hx1, hx2⟩ := hx
      dsimp only at hx1 hx2
      by_cases hi : i < c.ls.length
      · obtain ⟨l, hl⟩ := at_lt hi
        have hd : c.ls.drop i = l :: c.ls.drop (i + 1) := by
          rw [List.drop_eq_getElem_cons hi]
          rw [List.getElem?_eq_getElem hi] at hl
          cases hl; rfl
        have hat := lits_at hl
        have hi' : (i : Int) < ((lits c.ls).length : Int) := by rw [lits_len]; omega
        have hi0 : (0 : Int) ≤ (i : Int) := by omega
        have hw := wr1 hi (show c.ls.length ≤ 9223372036854775807 by omega)
        have hla : (lits acc).length = i := by rw [lits_len]; omega
        cases hp : litPut g s l with
        | none =>
          refine .stop (.ret [(6, pO acc []), (7, iB false)]) (wpQ_way (q19_l0a _ _ z (syms g) [] z1 (bds s) [] c.lz (lits c.ls) c.le c.tz (rws c.ts) c.te c.cz (lits c.cs) c.ce true [] true [] acc.isEmpty (lits acc) true [] i _) ?_) rfl ?_
          · refine condW_t (decide_eq_true hi') ?_
            refine condW_t (decide_eq_true hi0) ?_
            refine ⟨_, _, _, _, hat, ?_⟩
            unfold litPut at hp
            obtain ⟨neg, ⟨zz, ll, ee⟩⟩ := l
            cases ll with
            | nil => exact condW_t rfl rfl
            | cons c0 r =>
              dsimp only at hp
              split at hp
              · cases hp
              rename_i he
              have hv := appV_len g s r
              refine condW_f (by rw [ints_len]; simp; omega) ?_
              refine condW_t (decide_eq_true hi0) ?_
              refine ⟨_, _, _, _, hat, ?_⟩
              refine condW_t (by rw [ints_len]; simp; omega) ?_
              refine ⟨_, _, _, _, _, _, w_apply hn hs z z1 zz g [] [] [] r, ?_⟩
              refine condW_t (decide_eq_true hi0) ?_
              refine ⟨_, _, _, _, hat, _, rfl, ?_⟩
              refine condW_t (by rw [ints_len]; simp; omega) ?_
              refine condW_t (by rw [ints_len]; simp; omega) ?_
              refine ⟨_, _, w_num _, ?_⟩
              exact condW_t (by simp [he]) rfl
          · dsimp only; rw [hd, putR, hp]; rfl
        | some m =>
          obtain ⟨neg, ⟨zz, ll, ee⟩⟩ := l
          cases ll with
          | nil => cases hp
          | cons c0 r =>
            unfold litPut at hp
            dsimp only at hp
            split at hp
            case isFalse => cases hp
            rename_i he
            cases hp
            refine .go (acc ++ [⟨neg, ⟨false, c0 :: appV g s r, []⟩⟩], i + 1) (wpQ_way (q19_l0a _ _ z (syms g) [] z1 (bds s) [] c.lz (lits c.ls) c.le c.tz (rws c.ts) c.te c.cz (lits c.cs) c.ce true [] true [] acc.isEmpty (lits acc) true [] i _) ?_) ⟨by dsimp only; omega, by simp; omega⟩ (by dsimp only; omega) ?_
            · have hv := appV_len g s r
              refine condW_t (decide_eq_true hi') ?_
              refine condW_t (decide_eq_true hi0) ?_
              refine ⟨_, _, _, _, hat, ?_⟩
              refine condW_f (by rw [ints_len]; simp; omega) ?_
              refine condW_t (decide_eq_true hi0) ?_
              refine ⟨_, _, _, _, hat, ?_⟩
              refine condW_t (by rw [ints_len]; simp; omega) ?_
              refine ⟨_, _, _, _, _, _, w_apply hn hs z z1 zz g [] [] [] r, ?_⟩
              refine condW_t (decide_eq_true hi0) ?_
              refine ⟨_, _, _, _, hat, _, rfl, ?_⟩
              refine condW_t (by rw [ints_len]; simp; omega) ?_
              refine condW_t (by rw [ints_len]; simp; omega) ?_
              refine ⟨_, _, w_num _, ?_⟩
              refine condW_f (by simp [he]) ?_
              refine condW_t (decide_eq_true hi0) ?_
              refine ⟨_, _, _, _, hat, ?_⟩
              have hfin : Out.norm [(0, iG z g []), (1, iBd z1 s []), (5, bC c), (6, pO [] []), (8, .ptr 26 0 [.own (acc.isEmpty && false) 68 2 (lits acc ++ [.agg [.bool neg, .sl 1 (false && (ints (appV g s r)).isEmpty) ([.int .i64 c0] ++ ints (appV g s r)) []]]), .own true 28 1 [], .d (.sl 2 true [] [])]), (9, iI (IntKind.wrap .i64 ((i : Int) + 1)))] = .norm [(0, iG z g []), (1, iBd z1 s []), (5, bC c), (6, pO [] []), (8, pO (acc ++ [⟨neg, ⟨false, c0 :: appV g s r, []⟩⟩]) []), (9, iI (i + 1 : Nat))] := by
                rw [hw]
                simp [pO, lits_append, lits_cons, lits_nil, ints_cons, rws_nil]
              cases neg
              · refine condW_f rfl ?_
                refine condW_t (by rw [hla]; simp; omega) ?_
                refine condW_t (by rw [hla]; simp; omega) ?_
                exact hfin
              · refine condW_t rfl ?_
                refine condW_t (by rw [hla]; simp; omega) ?_
                refine condW_t (by rw [hla]; simp; omega) ?_
                exact hfin
            · dsimp only
              have hp : litPut g s ⟨neg, ⟨zz, c0 :: r, ee⟩⟩ = some ⟨neg, ⟨false, c0 :: appV g s r, []⟩⟩ := by unfold litPut; dsimp only; rw [if_pos he]
              rw [hd, putR, hp]
      · have e0 : i = c.ls.length := by omega
        subst e0
        refine .stop (.exit 0 [(0, iG z g []), (1, iBd z1 s []), (5, bC c), (6, pO [] []), (8, pO acc []), (9, iI c.ls.length)]) (wpQ_way (q19_l0a _ _ z (syms g) [] z1 (bds s) [] c.lz (lits c.ls) c.le c.tz (rws c.ts) c.te c.cz (lits c.cs) c.ce true [] true [] acc.isEmpty (lits acc) true [] _ _) ?_) rfl ?_
        · exact condW_f (decide_eq_false (by rw [lits_len]; omega)) rfl
        · simp [blkO, putR]) x hx
theorem l_put2 {s : List Bd} (hn : NilOk s) (hs : LenB s) (z z1 : Bool) (g : List Sym) {c : Cl} (hc : c.ts.length * 24 ≤ 140737488351232) (us : List LitR) (x : List Row × Nat) (hx : x.2 ≤ c.ts.length ∧ x.1.length = x.2) :
    evP F (Go.Ab.W F) (JW F d19 []) d19 [] [1,1,1,0,1] [(0, iG z g []), (1, iBd z1 s []), (5, bC c), (6, pO [] []), (8, pO us x.1), (13, iI x.2)] = some (if (putT g s x.1 (c.ts.drop x.2)).2 = true then .norm [(0, iG z g []), (1, iBd z1 s []), (5, bC c), (6, pO [] []), (8, pO us (putT g s x.1 (c.ts.drop x.2)).1), (13, iI c.ts.length)] else .ret [(6, pO us (putT g s x.1 (c.ts.drop x.2)).1), (7, iB false)]) :=
  blk_fun (F := F) (d := d19) (lk := []) (p := [1,1,1,0,1,0,0]) (p0 := [1,1,1,0,1]) (id := 2) (by kernel_rfl) (st := fun (x : List Row × Nat) => [(0, iG z g []), (1, iBd z1 s []), (5, bC c), (6, pO [] []), (8, pO us x.1), (13, iI x.2)]) (I := fun x => x.2 ≤ c.ts.length ∧ x.1.length = x.2) (μ := fun x => c.ts.length - x.2)
    (res := fun x => if (putT g s x.1 (c.ts.drop x.2)).2 = true then .norm [(0, iG z g []), (1, iBd z1 s []), (5, bC c), (6, pO [] []), (8, pO us (putT g s x.1 (c.ts.drop x.2)).1), (13, iI c.ts.length)] else .ret [(6, pO us (putT g s x.1 (c.ts.drop x.2)).1), (7, iB false)])
    (fun x hx => by
      obtain ⟨acc, i⟩ := x
      obtain ⟨hx1, hx2⟩ := hx
      dsimp only at hx1 hx2
      by_cases hi : i < c.ts.length
      · obtain ⟨l, hl⟩ := at_lt hi
        have hd : c.ts.drop i = l :: c.ts.drop (i + 1) := by
          rw [List.drop_eq_getElem_cons hi]
          rw [List.getElem?_eq_getElem hi] at hl
          cases hl; rfl
        have hat := rws_at hl
        have hi' : (i : Int) < ((rws c.ts).length : Int) := by rw [rws_len]; omega
        have hi0 : (0 : Int) ≤ (i : Int) := by omega
        have hw := wr1 hi (show c.ts.length ≤ 9223372036854775807 by omega)
        have hla : (rws acc).length = i := by rw [rws_len]; omega
        by_cases he : appE g s l.l = 0
        · have hp : rowPut g s l = some ⟨(appV g s l.l).isEmpty, appV g s l.l, []⟩ := by rw [rowPut, if_pos he]
          refine .go (acc ++ [⟨(appV g s l.l).isEmpty, appV g s l.l, []⟩], i + 1) (wpQ_way (q19_l2b _ _ z (syms g) [] z1 (bds s) [] c.lz (lits c.ls) c.le c.tz (rws c.ts) c.te c.cz (lits c.cs) c.ce true [] true [] us.isEmpty (lits us) acc.isEmpty (rws acc) i _) ?_) ⟨by dsimp only; omega, by simp; omega⟩ (by dsimp only; omega) ?_
          · refine condW_t (decide_eq_true hi') ?_
            refine condW_t (decide_eq_true hi0) ?_
            refine ⟨_, _, _, hat, ?_⟩
            refine ⟨_, _, _, _, _, _, w_apply hn hs z z1 l.z g [] [] l.e l.l, ?_⟩
            refine ⟨_, _, w_num _, ?_⟩
            refine condW_f (by simp [he]) ?_
            refine condW_t (by rw [hla]; simp; omega) ?_
            refine condW_t (by rw [hla]; simp; omega) ?_
            rw [hw]
            simp [rws_append, rws_cons, rws_nil, lits_nil]
          · dsimp only
            rw [hd, putT, hp]
        · have hp : rowPut g s l = none := by rw [rowPut, if_neg he]
          refine .stop (.ret [(6, pO us acc), (7, iB false)]) (wpQ_way (q19_l2b _ _ z (syms g) [] z1 (bds s) [] c.lz (lits c.ls) c.le c.tz (rws c.ts) c.te c.cz (lits c.cs) c.ce true [] true [] us.isEmpty (lits us) acc.isEmpty (rws acc) i _) ?_) rfl ?_
          · refine condW_t (decide_eq_true hi') ?_
            refine condW_t (decide_eq_true hi0) ?_
            refine ⟨_, _, _, hat, ?_⟩
            refine ⟨_, _, _, _, _, _, w_apply hn hs z z1 l.z g [] [] l.e l.l, ?_⟩
            refine ⟨_, _, w_num _, ?_⟩
            exact condW_t (by simp [he]) rfl
          · dsimp only; rw [hd, putT, hp]; rfl
      · have e0 : i = c.ts.length := by omega
        subst e0
        refine .stop (.exit 2 [(0, iG z g []), (1, iBd z1 s []), (5, bC c), (6, pO [] []), (8, pO us acc), (13, iI c.ts.length)]) (wpQ_way (q19_l2b _ _ z (syms g) [] z1 (bds s) [] c.lz (lits c.ls) c.le c.tz (rws c.ts) c.te c.cz (lits c.cs) c.ce true [] true [] us.isEmpty (lits us) acc.isEmpty (rws acc) _ _) ?_) rfl ?_
        · exact condW_f (decide_eq_false (by rw [rws_len]; omega)) rfl
        · simp [blkO, putT]) x hx
def putC (g : List Sym) (s : List Bd) (c : Cl) : Cl := ⟨(putR g s [] c.ls).1.isEmpty, (putR g s [] c.ls).1, [], (putT g s [] c.ts).1.isEmpty, (putT g s [] c.ts).1, [], true, [], []⟩
theorem w_put {s : List Bd} (hn : NilOk s) (hs : LenB s) (z z1 : Bool) (g : List Sym) {c : Cl} (hc : ClIn c) : ∃ us vs b, C 19 [iG z g [], iBd z1 s [], iC c] = some (.tup [.agg [.own us.isEmpty 68 2 (lits us), .own vs.isEmpty 28 1 (rws vs), .d (.sl 2 true [] [])], iB b], [iG z g [], iBd z1 s [], iC c]) ∧ (b = true → us = (putR g s [] c.ls).1 ∧ vs = (putT g s [] c.ts).1 ∧ (putR g s [] c.ls).2 = true ∧ (putT g s [] c.ts).2 = true ∧ clB g (putC g s c) = true) := by
  have h1 := l_put0 hn hs z z1 g hc.ls.1 ([], 0) ⟨Nat.zero_le _, rfl⟩
  simp only [List.drop_zero] at h1
  have hq := q19 (Go.Ab.W F) (JW F d19 []) z (syms g) [] z1 (bds s) [] c.lz (lits c.ls) c.le c.tz (rws c.ts) c.te c.cz (lits c.cs) c.ce
  cases hb : (putR g s [] c.ls).2
  · rw [hb, if_neg (by simp)] at h1
    exact ⟨_, [], false, wfn (lk := []) rfl rfl (fnW_way (hq _) (.inl ⟨_, _, _, _, _, h1, rfl⟩)), by simp⟩
  rw [hb, if_pos rfl] at h1
  have h2 := l_put2 hn hs z z1 g hc.most (putR g s [] c.ls).1 ([], 0) ⟨Nat.zero_le _, rfl⟩
  simp only [List.drop_zero] at h2
  cases hb2 : (putT g s [] c.ts).2
  · rw [hb2, if_neg (by simp)] at h2
    exact ⟨_, _, false, wfn (lk := []) rfl rfl (fnW_way (hq _) (.inr ⟨_, _, _, _, _, _, _, _, _, _, _, _, _, _, _, _, _, _, _, _, _, _, _, _, h1, .inl ⟨_, _, _, _, _, h2, rfl⟩⟩)), by simp⟩
  rw [hb2, if_pos rfl] at h2
  have h3 := w_clmay z g [] (putC g s c)
  refine ⟨_, _, clB g (putC g s c), wfn (lk := []) rfl rfl (fnW_way (hq _) (.inr ⟨_, _, _, _, _, _, _, _, _, _, _, _, _, _, _, _, _, _, _, _, _, _, _, _, h1, .inr ⟨_, _, _, _, _, _, _, _, _, _, _, _, _, _, _, _, _, _, _, _, _, _, _, _, h2, _, _, _, h3, ?_⟩⟩)), fun h => ⟨rfl, rfl, rfl, rfl, h⟩⟩
  cases clB g (putC g s c) <;> rfl
/-- What binds make of a clause says what the clause said. -/
theorem says_put {g : List Sym} {s : List Bd} (hn : NilOk s) {c : Cl} {d : CC} (hc : ClOk g c.c) (h1 : (putR g s [] c.ls).2 = true) (h2 : (putT g s [] c.ts).2 = true) (hl : ∀ m ∈ (putR g s [] c.ls).1, m.c ∈ d.ls) (ht : ∀ m ∈ (putT g s [] c.ts).1, m.l ∈ d.ts) (hcs : c.cs = []) : Says g c.c d := by
  obtain ⟨_, _, p1⟩ := putR_mem h1
  obtain ⟨_, _, p2⟩ := putT_mem h2
  have hcod := cl_codes hc
  have hb : (c.ls = [] ∧ c.ts = []) ∨ bindB g s = true := by
    cases hl : c.ls with
    | cons l ls =>
      obtain ⟨m, _, hm⟩ := p1 l (by rw [hl]; simp)
      unfold litPut at hm
      split at hm
      · cases hm
      · split at hm
        · rename_i he; exact .inr (appE_zero he).1
        · cases hm
    | nil =>
      cases ht : c.ts with
      | nil => exact .inl ⟨rfl, rfl⟩
      | cons r rs =>
        obtain ⟨m, _, hm⟩ := p2 r (by rw [ht]; simp)
        unfold rowPut at hm
        split at hm
        · rename_i he; exact .inr (appE_zero he).1
        · cases hm
  rcases hb with ⟨e1, e2⟩ | hb
  · refine ⟨idS, idS_ok g, ?_, ?_, ?_⟩
    · simp [Cl.c, e1]
    · simp [Cl.c, e2]
    · simp [Cl.c, hcs]
  · refine ⟨sbOf s, sbOf_ok hb hn, fun l hl' => ?_, fun r hr => ?_, by simp [Cl.c, hcs]⟩
    · obtain ⟨l, hl1, rfl⟩ := List.mem_map.1 hl'
      obtain ⟨m, hm1, hm2⟩ := p1 l hl1
      have hk := hl m hm1
      have hcs := hcod _ (in_ls hl')
      unfold litPut at hm2
      split at hm2
      · cases hm2
      · rename_i c0 r hr
        split at hm2
        case isFalse => cases hm2
        rename_i he
        cases hm2
        have e : app (sbOf s) l.c.2 = c0 :: appV g s r := by
          have e1 : l.c.2 = c0 :: r := hr
          have h0 : 0 ≤ c0 := by
            have := atom_codes (hc.la l.c hl')
            have ha := hc.la l.c hl'
            rw [e1] at ha
            unfold atomB at ha
            simp at ha
            omega
          rw [app_sb (fun x hx => (hcs x hx).1), e1, onB, (appE_zero he).2.2, onC, if_pos h0]; rfl
        rw [e]
        exact hk
    · obtain ⟨r, hr1, rfl⟩ := List.mem_map.1 hr
      obtain ⟨m, hm1, hm2⟩ := p2 r hr1
      have hk := ht m hm1
      have hcs := hcod r.l (by simp only [CC.rows, List.mem_append]; exact .inl (.inr hr))
      unfold rowPut at hm2
      split at hm2
      case isFalse => cases hm2
      rename_i he
      cases hm2
      rw [app_sb (fun x hx => (hcs x hx).1), ← (appE_zero he).2.2]
      exact hk
/-- A clause without its Conds. -/
def noC (c : Cl) : Cl := ⟨c.lz, c.ls, c.le, c.tz, c.ts, c.te, true, [], []⟩
theorem noC_ok {g : List Sym} {c : Cl} (h : clB g c = true) : clB g (noC c) = true := by
  have hk := ok_of h
  refine (clB_c g (noC c)).trans (clOk.2 ⟨hk.sg, hk.l5, hk.t3, by simp [Cl.c, noC], hk.la, hk.tr, by simp [Cl.c, noC], ?_⟩)
  have := hk.sum
  rw [CC.rows, lenI_app, lenI_app] at this ⊢
  have e1 : (noC c).c.ls = c.c.ls := rfl
  have e2 : (noC c).c.ts = c.c.ts := rfl
  have e3 : (noC c).c.cs = [] := rfl
  rw [e1, e2, e3]
  simp only [List.map_nil, lenI]
  omega
theorem noC_nil {c : Cl} (h : NilC c) : NilC (noC c) := fun r hr => h r (by
  simp only [rowsOf, noC, List.map_nil, List.append_nil, List.mem_append] at hr ⊢
  exact .inl hr)
theorem clIn_of {g : List Sym} {c : Cl} (h : clB g c = true) (hn : NilC c) : ClIn c := by
  have hm := clM_of h hn
  have h1 := hm.l5; have h2 := hm.t3; have h3 := hm.c3
  refine ⟨⟨by omega, fun l hl => ?_⟩, by omega, fun r hr => ?_, ⟨by omega, fun l hl => ?_⟩⟩
  · have := (hm.ls l hl).1; unfold Len; omega
  · have := (hm.ts r hr).1; unfold Len; omega
  · have := (hm.cs l hl).1; unfold Len; omega
theorem putC_nil {g : List Sym} {s : List Bd} {c : Cl} (h1 : (putR g s [] c.ls).2 = true) (h2 : (putT g s [] c.ts).2 = true) : NilC (putC g s c) := fun r hr hz => by
  simp only [rowsOf, putC, List.map_nil, List.append_nil, List.mem_append, List.mem_map] at hr
  rcases hr with ⟨m, hm, rfl⟩ | hm
  · rcases (putR_mem h1).1 m hm with h | ⟨l, _, hl⟩
    · simp at h
    · unfold litPut at hl
      split at hl
      · cases hl
      · split at hl
        · cases hl; cases hz
        · cases hl
  · rcases (putT_mem h2).1 r hm with h | ⟨l, _, hl⟩
    · simp at h
    · unfold rowPut at hl
      split at hl
      · cases hl; simpa using hz
      · cases hl
def moreC (ms us : List LitR) (vs : List Row) : Cl := ⟨ms.isEmpty && (lits us).isEmpty, ms.map freshL ++ us, [], vs.isEmpty, vs.map fresh, [], true, [], []⟩
theorem law_made (z z1 zm : Bool) (g : List Sym) {s : List Bd} (hn : NilOk s) (hs : LenB s) {c : Cl} (hc : ClIn c) (hnc : NilC c) {ms : List LitR} (hm : LitsIn ms) : C 6 [iG z g [], iBd z1 s [], iC c, iL zm ms []] = some (iB true, [iG z g [], iBd z1 s [], iC c, iL zm ms []]) := by
  refine wfn (lk := []) rfl rfl (fnW_way (q6 _ _ z (syms g) [] z1 (bds s) [] c.lz (lits c.ls) c.le c.tz (rws c.ts) c.te c.cz (lits c.cs) c.ce zm (lits ms) [] _) ?_)
  refine ⟨_, w_awake, condW_t rfl ?_⟩
  have hy : ClIn (noC c) := ⟨hc.ls, hc.most, hc.rows, ⟨by simp [noC], by simp [noC]⟩⟩
  obtain ⟨us, vs, b, hp, hq⟩ := w_put hn hs z z1 g hy
  refine ⟨_, _, _, _, _, _, _, _, hp, ?_⟩
  cases b
  · exact condW_f rfl rfl
  obtain ⟨rfl, rfl, p1, p2, hd⟩ := hq rfl
  refine condW_t rfl ⟨_, _, _, w_clmay z g [] c, ?_⟩
  cases hcm : clB g c
  · exact condW_f rfl rfl
  refine condW_t rfl ?_
  have hdn : NilC (putC g s (noC c)) := putC_nil p1 p2
  have hdi := clIn_of hd hdn
  have hdm := clM_of hd hdn
  have hul : (putR g s [] (noC c).ls).1.length ≤ 5 := hdm.l5
  have hml := hm.1
  have hyn := noC_nil hnc
  have hyb := noC_ok hcm
  have hyo := ok_of hyb
  have hw : IntKind.wrap .i64 (((putR g s [] (noC c).ls).1.length : Int) + (ms.length : Int)) = (((putR g s [] (noC c).ls).1.length + ms.length : Nat) : Int) := by rw [wr _ (by omega) (by omega)]; omega
  by_cases h5 : (putR g s [] (noC c).ls).1.length + ms.length > 5
  · exact condW_t (by rw [lits_len, lits_len, hw]; exact decide_eq_true (by omega)) rfl
  refine condW_f (by rw [lits_len, lits_len, hw]; exact decide_eq_false (by omega)) ?_
  refine ⟨_, _, _, _, _, _, _, w_copyclause hdi, ?_⟩
  refine ⟨_, _, _, w_copylits hm zm [], ?_⟩
  refine condW_t (by rw [lits_len, lits_len, List.length_map]; exact decide_eq_true (by omega)) ?_
  refine condW_t (by rw [lits_len, lits_len, List.length_map]; exact decide_eq_true (by omega)) ?_
  have hx := w_clmay z g [] (moreC ms (putR g s [] (noC c).ls).1 (putT g s [] (noC c).ts).1)
  have hi : iC (moreC ms (putR g s [] (noC c).ls).1 (putT g s [] (noC c).ts).1) = .d (.agg [.sl 2 (ms.isEmpty && (lits (putR g s [] (noC c).ls).1).isEmpty) (lits (ms.map freshL) ++ lits (putR g s [] (noC c).ls).1) [], .sl 1 (putT g s [] (noC c).ts).1.isEmpty (rws ((putT g s [] (noC c).ts).1.map fresh)) [], .sl 2 true (lits []) []]) := by
    rw [← lits_append]; rfl
  rw [hi] at hx
  refine ⟨_, _, _, hx, ?_⟩
  cases hxb : clB g (moreC ms (putR g s [] (noC c).ls).1 (putT g s [] (noC c).ts).1)
  · exact condW_f rfl rfl
  refine condW_t rfl ?_
  have hxn : NilC (moreC ms (putR g s [] (noC c).ls).1 (putT g s [] (noC c).ts).1) := fun r hr hz => by
    simp only [rowsOf, moreC, List.map_nil, List.append_nil, List.mem_append, List.mem_map, List.map_append] at hr
    rcases hr with (⟨m, ⟨l, _, rfl⟩, rfl⟩ | ⟨m, hm', rfl⟩) | ⟨m, _, rfl⟩
    · cases hz
    · exact hdn m.r (by simp only [rowsOf, putC, List.mem_append, List.mem_map]; exact .inl (.inl ⟨m, hm', rfl⟩)) hz
    · cases hz
  have s1 : Says g (noC c).c (putC g s (noC c)).c := says_put hn hyo p1 p2 (fun m hm' => List.mem_map.2 ⟨m, hm', rfl⟩) (fun m hm' => List.mem_map.2 ⟨m, hm', rfl⟩) rfl
  have s2 : Says g (noC c).c (moreC ms (putR g s [] (noC c).ls).1 (putT g s [] (noC c).ts).1).c := says_put hn hyo p1 p2 (fun m hm' => List.mem_map.2 ⟨m, List.mem_append_right _ hm', rfl⟩) (fun m hm' => List.mem_map.2 ⟨fresh m, List.mem_map.2 ⟨m, hm', rfl⟩, rfl⟩) rfl
  have d1 := does_yes z [] hyn hdn hyb hd s1
  have d2 := does_yes z [] hyn hxn hyb hxb s2
  rw [hi] at d2
  exact ⟨_, _, _, _, _, d1, condW_t rfl ⟨_, _, _, _, _, d2, condW_t rfl ⟨_, _, w_num _, condW_t rfl ⟨_, _, w_num _, condW_t rfl rfl⟩⟩⟩⟩
theorem call_submade (y0 y1 y2 y3 : D) (g0 : Go.Ab.Good Tryd.prog 12 22 y0) (g1 : Go.Ab.Good Tryd.prog 12 47 y1) (g2 : Go.Ab.Good Tryd.prog 12 26 y2) (g3 : Go.Ab.Good Tryd.prog 12 23 y3) : ∃ outs, C 6 [.d y0, .d y1, .d y2, .d y3] = some (iB true, outs) := by
  obtain ⟨z, g, rfl⟩ := good_sig g0
  obtain ⟨z1, s, rfl, hs, hn⟩ := good_binds g1
  obtain ⟨c, rfl, hc, hnc⟩ := good_clauseN g2
  obtain ⟨zm, ms, rfl, hm⟩ := good_lits g3
  exact ⟨_, law_made z z1 zm g hn hs hc hnc hm⟩
end Go.Proofs.YtekdlnofmbfdgaaDoor.Ab
