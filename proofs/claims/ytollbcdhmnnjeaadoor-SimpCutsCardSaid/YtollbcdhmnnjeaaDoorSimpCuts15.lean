/- What the rows of this seat share: the variable that is laid, the world in which it is so. No condition. -/
import Derived.Below
import Derived.ChangeOld
import Derived.LaidMore
import Derived.Lib.SmallJoins
import Derived.OpenShut
import Derived.ProofKit
import Derived.SevenTiedAt
import Derived.ShutString
import Derived.SizedLaws
import Derived.Stop.Joined
import Derived.Test.YtollbcdhmnnjeaaDoorCards
import Derived.Test.YtollbcdhmnnjeaaDoorRows
import Derived.Test.YtollbcdhmnnjeaaDoorTie
import Derived.WalkKit
import Derived.Test.YtollbcdhmnnjeaaDoorSimpCuts0
import Derived.Test.YtollbcdhmnnjeaaDoorSimpCuts1
import Derived.Test.YtollbcdhmnnjeaaDoorSimpCuts2
import Derived.Test.YtollbcdhmnnjeaaDoorSimpCuts3
import Derived.Test.YtollbcdhmnnjeaaDoorSimpCuts4
import Derived.Test.YtollbcdhmnnjeaaDoorSimpCuts5
import Derived.Test.YtollbcdhmnnjeaaDoorSimpCuts6
import Derived.Test.YtollbcdhmnnjeaaDoorSimpCuts7
import Derived.Test.YtollbcdhmnnjeaaDoorSimpCuts8
import Derived.Test.YtollbcdhmnnjeaaDoorSimpCuts9
import Derived.Test.YtollbcdhmnnjeaaDoorSimpCuts10
import Derived.Test.YtollbcdhmnnjeaaDoorSimpCuts11
import Derived.Test.YtollbcdhmnnjeaaDoorSimpCuts12
import Derived.Test.YtollbcdhmnnjeaaDoorSimpCuts13
import Derived.Test.YtollbcdhmnnjeaaDoorSimpCuts14
namespace Go.Proofs.YtollbcdhmnnjeaaDoor.Ab
open Go Go.Ab Go.Qu Go.Proofs Go.ChangeShapes Go.WideShapes Go.ChangeAt Go.RowKit Go.Joins
set_option linter.unusedVariables false
set_option maxRecDepth 100000
theorem own : ownKnob Tryd.prog.godebug = none := by kernel_rfl
theorem laidOut : laidOutB Tryd.prog = true := by kernel_rfl
abbrev laid1 : List (String × DataW Unit) := [("quaere/sign.equals", Rows.laid_quaere_sign_equals)]
theorem gEq : Tryd.prog.globalNamed "quaere/sign.equals" = some 0 := by kernel_rfl
theorem tEq : (Tryd.prog.globals[0]?).map (·.type) = some 79 := by kernel_rfl
theorem door_met (os : Os) (args : Array Value) : laidMetH Tryd.prog laid1 ((World.doorLaid Tryd.prog 400 os).forCall (fun _ _ => 0) ⟨#[], args, []⟩).memory :=
  laidMetH_of_parts3 (fuel := 8) (laidMet_of_run' 8 (by kernel_rfl) (by kernel_rfl)) (by kernel_rfl) (by kernel_rfl)
theorem globs {W : World} (h : laidMetH Tryd.prog laid1 W) : GlobOk (Hw W) F.G := by
  rw [MakeChecks.laidMetH_plain _ _ _ (by kernel_rfl)] at h
  obtain ⟨ps, ⟨g0, t0, cs0, f0, p0, q0, hg0, ht0, hv0, hd0, _, _⟩, _, _⟩ := h
  obtain rfl := Option.some.inj (gEq.symm.trans hg0)
  obtain rfl := Option.some.inj (tEq.symm.trans ht0)
  obtain ⟨xs, n, _, hx, hlen, hxl, hf⟩ := DataW.trod_struct Tryd.underlying79 hd0
  have c1 : Tryd.prog.cellsOf 79 = 4 := by kernel_rfl
  have cs : Tryd.prog.cellsOf 9 = 1 := by kernel_rfl
  have ci : Tryd.prog.cellsOf 3 = 1 := by kernel_rfl
  rw [c1] at hlen
  have hx1 : xs.map (·.1) = [.lit (.string [61]), .lit (.int .i64 0), .lit (.int .i64 2), .lit (.int .i64 1)] := by
    simp only [Prod.mk.injEq] at hx
    have h9 := hx.1
    unfold Rows.laid_quaere_sign_equals at h9
    simp only [DataW.agg.injEq] at h9
    exact h9.symm
  have hcs : ∃ a b c d, cs0.toList = [a, b, c, d] := by
    match h : cs0.toList, hlen with
    | [a, b, c, d], _ => exact ⟨a, b, c, d, rfl⟩
  obtain ⟨a, b, c, d, hcs⟩ := hcs
  have hxs : ∃ x0 x1 x2 x3, xs = [x0, x1, x2, x3] := by
    match xs, hxl with
    | [x0, x1, x2, x3], _ => exact ⟨x0, x1, x2, x3, rfl⟩
  obtain ⟨x0, x1, x2, x3, rfl⟩ := hxs
  simp only [List.map_cons, List.map_nil, List.cons.injEq, and_true] at hx1
  obtain ⟨e0, e1, e2, e3⟩ := hx1
  have h0 : DataW.trod (fun _ => ()) Tryd.prog W 0 (fun _ => true) false n 9 ((cs0.toList.drop 0).take (Tryd.prog.cellsOf 9)) = some x0 := hf 0 _ rfl
  have h1 : DataW.trod (fun _ => ()) Tryd.prog W 0 (fun _ => true) false n 3 ((cs0.toList.drop 1).take (Tryd.prog.cellsOf 3)) = some x1 := hf 1 _ rfl
  have h2 : DataW.trod (fun _ => ()) Tryd.prog W 0 (fun _ => true) false n 3 ((cs0.toList.drop 2).take (Tryd.prog.cellsOf 3)) = some x2 := hf 2 _ rfl
  have h3 : DataW.trod (fun _ => ()) Tryd.prog W 0 (fun _ => true) false n 3 ((cs0.toList.drop 3).take (Tryd.prog.cellsOf 3)) = some x3 := hf 3 _ rfl
  rw [hcs, cs] at h0
  rw [hcs, ci] at h1 h2 h3
  obtain ⟨s, ha, hs, _⟩ := DataW.trod_string Tryd.underlying9 h0
  obtain ⟨n1, hb, hn1, _⟩ := DataW.trod_int Tryd.underlying3 h1
  obtain ⟨n2, hc, hn2, _⟩ := DataW.trod_int Tryd.underlying3 h2
  obtain ⟨n3, hd, hn3, _⟩ := DataW.trod_int Tryd.underlying3 h3
  simp at ha hb hc hd
  rw [hs] at e0; rw [hn1] at e1; rw [hn2] at e2; rw [hn3] at e3
  simp at e0 e1 e2 e3
  subst ha hb hc hd e1 e2 e3
  have hse : s = "=".toUTF8 := by
    have h5 : "=".toUTF8.data.toList = [61] := by decide +kernel
    have h6 : s.data = "=".toUTF8.data := Array.toList_inj.1 (e0.trans h5.symm)
    exact (show ∀ (x y : ByteArray), x.data = y.data → x = y by intro ⟨_⟩ ⟨_⟩ h; exact congrArg _ h) _ _ h6
  subst hse
  have hcell : ∀ (j : Nat) u, [Value.string "=".toUTF8, .int .i64 0, .int .i64 2, .int .i64 1][j]? = some u → W.cell? ⟨0, j, none⟩ = some u := fun j u hj => by
    have h7 := World.var?_cell hg0 hv0 j
    have h8 : cs0[j]? = some u := by rw [← Array.getElem?_toList, hcs]; exact hj
    rw [h8] at h7
    simpa using h7
  intro g cs hg
  simp only [F, List.map_cons, List.map_nil, assoc] at hg
  split at hg
  · rename_i hg0
    subst hg0
    simp only [Option.some.injEq] at hg
    subst hg
    refine ⟨[.string "=".toUTF8, .int .i64 0, .int .i64 2, .int .i64 1], ?_, fun j u hj => ?_, by simp [D.isAgg]⟩
    · unfold D.RepL; refine ⟨[_], _, rfl, by unfold D.Rep; rfl, ?_⟩
      unfold D.RepL; refine ⟨[_], _, rfl, by unfold D.Rep; rfl, ?_⟩
      unfold D.RepL; refine ⟨[_], _, rfl, by unfold D.Rep; rfl, ?_⟩
      unfold D.RepL; refine ⟨[_], [], rfl, by unfold D.Rep; rfl, ?_⟩
      unfold D.RepL; rfl
    · refine Hw.cell ?_
      have h9 := hcell j u hj
      unfold Addr.add
      split
      · rename_i hj0; subst hj0; exact h9
      · simpa using h9
  · simp at hg
theorem fxOk : FxOk Tryd.prog F where
  orders := by kernel_rfl
  tab := tab_ok
  code := code_ok.get
  prim := primOk
  ins := insAll
/-! ### Arguments -/
theorem good_sym {n : Nat} {x : D} (h : Go.Ab.Good Tryd.prog (n + 2) 79 x) : ∃ s : Sym, x = s.d := by
  unfold Go.Ab.Good at h
  rw [Tryd.underlying79] at h
  obtain ⟨ys, rfl, y0, r0, rfl, h0, y1, r1, rfl, h1, y2, r2, rfl, h2, y3, r3, rfl, h3, rfl⟩ := h
  unfold Go.Ab.Good at h0 h1 h2 h3
  simp only [Tryd.underlying9, Tryd.underlying3] at h0 h1 h2 h3
  obtain ⟨s, rfl, _⟩ := h0
  obtain ⟨a, rfl, _⟩ := h1
  obtain ⟨b, rfl, _⟩ := h2
  obtain ⟨c, rfl, _⟩ := h3
  exact ⟨⟨s, a, b, c⟩, rfl⟩
theorem good_sig {n : Nat} {x : D} (h : Go.Ab.Good Tryd.prog (n + 3) 22 x) : ∃ z g, x = .sl 4 z (syms g) [] := by
  unfold Go.Ab.Good at h
  rw [Tryd.underlying22] at h
  obtain ⟨z, xs, rfl, _, h2, _⟩ := h
  have hc : Tryd.prog.cellsOf 79 = 4 := by kernel_rfl
  rw [hc]
  obtain ⟨g, rfl, _⟩ := all_map (f := Sym.d) (Q := fun _ => True) (fun y hy => by obtain ⟨s, hs⟩ := good_sym (h2 y hy); exact ⟨s, hs, trivial⟩)
  exact ⟨z, g, rfl⟩
theorem good_int {n : Nat} {x : D} (h : Go.Ab.Good Tryd.prog (n + 1) 3 x) : ∃ a : Int, x = .int .i64 a ∧ -9223372036854775808 ≤ a ∧ a ≤ 9223372036854775807 := by
  unfold Go.Ab.Good at h
  rw [Tryd.underlying3] at h
  obtain ⟨a, rfl, hw⟩ := h
  refine ⟨a, rfl, ?_⟩
  simp [Lit.wf, IntKind.min, IntKind.max, IntKind.bits, IntKind.signed] at hw
  omega
theorem good_ints {n : Nat} {x : D} (h : Go.Ab.Good Tryd.prog (n + 2) 23 x) : ∃ z l, x = .sl 1 z (ints l) [] ∧ Len l := by
  unfold Go.Ab.Good at h
  rw [Tryd.underlying23] at h
  obtain ⟨z, xs, rfl, h1, h2, _⟩ := h
  have hc : Tryd.prog.cellsOf 3 = 1 := by kernel_rfl
  have hb : Tryd.prog.bytesOf 3 = 8 := by kernel_rfl
  rw [hb] at h1
  rw [hc]
  obtain ⟨l, rfl, _⟩ := all_map (f := D.int .i64) (Q := fun _ => True) (fun y hy => by obtain ⟨a, ha, _⟩ := good_int (h2 y hy); exact ⟨a, ha, trivial⟩)
  rw [List.length_map] at h1
  exact ⟨z, l, rfl, by unfold Len; simpa [reachBytes] using h1⟩
theorem good_rows {n : Nat} {x : D} (h : Go.Ab.Good Tryd.prog (n + 3) 37 x) : ∃ z rs, x = .sl 1 z (rws rs) [] ∧ rs.length * 24 ≤ 140737488351232 ∧ ∀ r ∈ rs, Len r.l := by
  unfold Go.Ab.Good at h
  rw [Tryd.underlying37] at h
  obtain ⟨z, xs, rfl, h1, h2, _⟩ := h
  have hc : Tryd.prog.cellsOf 23 = 1 := by kernel_rfl
  have hb : Tryd.prog.bytesOf 23 = 24 := by kernel_rfl
  rw [hb] at h1
  rw [hc]
  obtain ⟨rs, rfl, h4⟩ := all_map (f := Row.d) (Q := fun r => Len r.l) (fun y hy => by obtain ⟨z, l, h, hl⟩ := good_ints (h2 y hy); exact ⟨⟨z, l, []⟩, h, hl⟩)
  rw [List.length_map] at h1
  exact ⟨z, rs, rfl, by simpa [reachBytes] using h1, h4⟩
end Go.Proofs.YtollbcdhmnnjeaaDoor.Ab

/- Literals, clauses as arguments. No condition. -/
set_option linter.unusedVariables false
set_option linter.unusedSimpArgs false
set_option maxRecDepth 100000
namespace Go.Proofs.YtollbcdhmnnjeaaDoor.Ab
open Go Go.Ab Go.Qu Go.Proofs
theorem good_lit {n : Nat} {x : D} (h : Go.Ab.Good Tryd.prog (n + 3) 35 x) : ∃ l : LitR, x = l.d ∧ Len l.r.l := by
  unfold Go.Ab.Good at h
  rw [Tryd.underlying35] at h
  obtain ⟨ys, rfl, y0, r0, rfl, h0, y1, r1, rfl, h1, rfl⟩ := h
  obtain ⟨z, l, rfl, hl⟩ := good_ints h1
  unfold Go.Ab.Good at h0
  rw [Tryd.underlying4] at h0
  obtain ⟨b, rfl⟩ := h0
  exact ⟨⟨b, ⟨z, l, []⟩⟩, rfl, hl⟩
theorem good_lits {n : Nat} {x : D} (h : Go.Ab.Good Tryd.prog (n + 4) 36 x) : ∃ z ls, x = .sl 2 z (lits ls) [] ∧ LitsIn ls := by
  unfold Go.Ab.Good at h
  rw [Tryd.underlying36] at h
  obtain ⟨z, xs, rfl, h1, h2, _⟩ := h
  have hc : Tryd.prog.cellsOf 35 = 2 := by kernel_rfl
  have hb : Tryd.prog.bytesOf 35 = 32 := by kernel_rfl
  rw [hb] at h1
  rw [hc]
  obtain ⟨ls, rfl, h4⟩ := all_map (f := LitR.d) (Q := fun l => Len l.r.l) (fun y hy => by obtain ⟨l, hl, hk⟩ := good_lit (h2 y hy); exact ⟨l, hl, hk⟩)
  rw [List.length_map] at h1
  exact ⟨z, ls, rfl, by simpa [reachBytes] using h1, h4⟩
theorem good_clause {n : Nat} {x : D} (h : Go.Ab.Good Tryd.prog (n + 5) 39 x) : ∃ c : Cl, x = c.d ∧ ClIn c := by
  unfold Go.Ab.Good at h
  rw [Tryd.underlying39] at h
  obtain ⟨ys, rfl, y0, r0, rfl, h0, y1, r1, rfl, h1, y2, r2, rfl, h2, rfl⟩ := h
  obtain ⟨lz, ls, rfl, hls⟩ := good_lits h0
  obtain ⟨tz, ts, rfl, hts, hr⟩ := good_rows h1
  obtain ⟨cz, cs, rfl, hcs⟩ := good_lits h2
  exact ⟨⟨lz, ls, [], tz, ts, [], cz, cs, []⟩, rfl, ⟨hls, hts, hr, hcs⟩⟩
end Go.Proofs.YtollbcdhmnnjeaaDoor.Ab

/- Arguments: rows that are nil have no codes. No condition. -/
set_option linter.unusedVariables false
set_option linter.unusedSimpArgs false
set_option maxRecDepth 100000
namespace Go.Proofs.YtollbcdhmnnjeaaDoor.Ab
open Go Go.Ab Go.Qu Go.Proofs
theorem good_nil {n : Nat} {z : Bool} {l : List Int} (h : Go.Ab.Good Tryd.prog (n + 1) 23 (.sl 1 z (ints l) [])) : z = true → l = [] := by
  unfold Go.Ab.Good at h
  rw [Tryd.underlying23] at h
  obtain ⟨z', xs, he, _, _, h⟩ := h
  simp only [D.sl.injEq] at he
  obtain ⟨_, rfl, rfl, _⟩ := he
  intro hz
  have := congrArg List.length (h hz)
  rw [ints_len] at this
  exact List.length_eq_zero_iff.1 this
theorem good_litnil {n : Nat} {l : LitR} (h : Go.Ab.Good Tryd.prog (n + 3) 35 l.d) (he : l.r.e = []) : l.r.z = true → l.r.l = [] := by
  unfold Go.Ab.Good at h
  rw [Tryd.underlying35] at h
  obtain ⟨ys, hy, y0, r0, rfl, h0, y1, r1, rfl, h1, rfl⟩ := h
  unfold Go.Ab.Good at h0
  rw [Tryd.underlying4] at h0
  obtain ⟨b, rfl⟩ := h0
  obtain ⟨z, m, rfl, _⟩ := good_ints h1
  have h2 := good_nil (n := n + 1) h1
  simp only [LitR.d, List.flatMap_cons, List.flatMap_nil, D.cells, List.cons_append, List.nil_append, List.append_nil, D.agg.injEq, List.cons.injEq, D.bool.injEq, D.sl.injEq, and_true, true_and] at hy
  obtain ⟨_, hz, hm, _⟩ := hy
  intro hz'
  have h3 := h2 (hz ▸ hz')
  rw [h3] at hm
  have := congrArg List.length hm
  rw [ints_len] at this
  exact List.length_eq_zero_iff.1 (by simpa [ints_nil] using this)
theorem good_clauseN {n : Nat} {x : D} (h : Go.Ab.Good Tryd.prog (n + 5) 39 x) : ∃ c : Cl, x = c.d ∧ ClIn c ∧ NilC c := by
  have h' := h
  unfold Go.Ab.Good at h
  rw [Tryd.underlying39] at h
  obtain ⟨ys, rfl, y0, r0, rfl, h0, y1, r1, rfl, h1, y2, r2, rfl, h2, rfl⟩ := h
  obtain ⟨lz, ls, rfl, hls⟩ := good_lits h0
  obtain ⟨tz, ts, rfl, hts, hr⟩ := good_rows h1
  obtain ⟨cz, cs, rfl, hcs⟩ := good_lits h2
  have hL : ∀ {z : Bool} {ls : List LitR}, Go.Ab.Good Tryd.prog (n + 4) 36 (.sl 2 z (lits ls) []) → ∀ l ∈ ls, l.r.z = true → l.r.l = [] := by
    intro z ls hg l hl
    unfold Go.Ab.Good at hg
    rw [Tryd.underlying36] at hg
    obtain ⟨z', xs, he, _, hx, _⟩ := hg
    simp only [D.sl.injEq] at he
    obtain ⟨_, _, rfl, _⟩ := he
    have h5 := hx l.d (List.mem_map.2 ⟨l, hl, rfl⟩)
    obtain ⟨m, hm, _⟩ := good_lit h5
    have h6 : l.r.z = m.r.z ∧ ints l.r.l = ints m.r.l ∧ l.r.e = m.r.e := by
      have := hm
      simp only [LitR.d, D.agg.injEq, List.cons.injEq, D.bool.injEq, D.sl.injEq, and_true, true_and] at this
      exact ⟨this.2.1, this.2.2.1, this.2.2.2⟩
    have h7 : l.r.e = [] := by
      unfold Go.Ab.Good at h5
      rw [Tryd.underlying35] at h5
      obtain ⟨ys, hy, y0, r0, rfl, k0, y1, r1, rfl, k1, rfl⟩ := h5
      obtain ⟨z2, l2, rfl, _⟩ := good_ints k1
      unfold Go.Ab.Good at k0
      rw [Tryd.underlying4] at k0
      obtain ⟨b, rfl⟩ := k0
      simp only [LitR.d, List.flatMap_cons, List.flatMap_nil, D.cells, List.cons_append, List.nil_append, List.append_nil, D.agg.injEq, List.cons.injEq, D.bool.injEq, D.sl.injEq, and_true, true_and] at hy
      exact hy.2.2.2
    exact good_litnil (n := n) h5 h7
  refine ⟨⟨lz, ls, [], tz, ts, [], cz, cs, []⟩, rfl, ⟨hls, hts, hr, hcs⟩, fun r hr' => ?_⟩
  simp only [rowsOf, List.mem_append, List.mem_map] at hr'
  rcases hr' with (⟨l, hl, rfl⟩ | hr') | ⟨l, hl, rfl⟩
  · exact hL h0 l hl
  · unfold Go.Ab.Good at h1
    rw [Tryd.underlying37] at h1
    obtain ⟨z', xs, he, _, hx, _⟩ := h1
    simp only [D.sl.injEq] at he
    obtain ⟨_, _, rfl, _⟩ := he
    have h5 := hx r.d (List.mem_map.2 ⟨r, hr', rfl⟩)
    obtain ⟨z2, l2, he2, _⟩ := good_ints h5
    have h6 : r.e = [] := by
      simp only [Row.d, D.sl.injEq, true_and] at he2
      exact he2.2.2
    have h7 : r.d = .sl 1 r.z (ints r.l) [] := by rw [← h6]; rfl
    rw [h7] at h5
    exact good_nil (n := n + 2) h5
  · exact hL h2 l hl
end Go.Proofs.YtollbcdhmnnjeaaDoor.Ab

/- Written by a program of this session (wip/tools/AbSym.lean). Not trusted: Lean checks it. -/
set_option maxRecDepth 100000
set_option linter.unusedVariables false
namespace Go.Proofs.YtollbcdhmnnjeaaDoor.Ab
open Go Go.Ab Go.Proofs
def L5 : Lps := fun b => match b with
  | _ => [.norm []]
theorem q5 (C J) (z1 : Bool) (x2 : List D) (e3 : List D) (z4 : Bool) (x5 : List D) (e6 : List D) (z7 : Bool) (x8 : List D) (e9 : List D) (z10 : Bool) (x11 : List D) (e12 : List D) (Q) : fnW F C R (L5) J d5 [.d (.sl 4 z1 x2 e3), .d (.agg [.sl 1 z4 x5 e6, .sl 1 z7 x8 e9]), .d (.sl 1 z10 x11 e12)] Q = (∃ w0, C 7 [] = some (IV.d (D.bool w0), []) ∧ condW w0 (∃ w1 w2 w3 w4 w5 w6 w7 w8, C 8 [IV.d (D.sl 4 z1 x2 e3), IV.d (D.agg [D.sl 1 z4 x5 e6, D.sl 1 z7 x8 e9]), IV.d (D.sl 1 z10 x11 e12)] = some (IV.tup [IV.d (D.sl 1 w1 w2 w3), IV.d (D.int IntKind.i64 w4), IV.d (D.int IntKind.i64 w5)], [IV.d w6, IV.d w7, IV.d w8]) ∧ ∃ w9 w10, C 10 [IV.d (D.int IntKind.i64 w5)] = some (IV.d (D.int IntKind.i64 w9), [IV.d w10]) ∧ condW (w9 != 0) (condW ((↑(List.length w2) : Int) == 0) (condW (w4 == 0) (Q (some (IV.d (D.bool true), [IV.d (D.sl 4 z1 x2 e3), IV.d (D.agg [D.sl 1 z4 x5 e6, D.sl 1 z7 x8 e9]), IV.d (D.sl 1 z10 x11 e12)]))) (Q (some (IV.d (D.bool false), [IV.d (D.sl 4 z1 x2 e3), IV.d (D.agg [D.sl 1 z4 x5 e6, D.sl 1 z7 x8 e9]), IV.d (D.sl 1 z10 x11 e12)])))) (Q (some (IV.d (D.bool false), [IV.d (D.sl 4 z1 x2 e3), IV.d (D.agg [D.sl 1 z4 x5 e6, D.sl 1 z7 x8 e9]), IV.d (D.sl 1 z10 x11 e12)])))) (∃ w11 w12 w13 w14 w15 w16 w17 w18, C 8 [IV.d (D.sl 4 z1 x2 e3), IV.d (D.agg [D.sl 1 z4 x5 e6, D.sl 1 z7 x8 e9]), IV.d (D.sl 1 w1 w2 w3)] = some (IV.tup [IV.d (D.sl 1 w11 w12 w13), IV.d (D.int IntKind.i64 w14), IV.d (D.int IntKind.i64 w15)], [IV.d w16, IV.d w17, IV.d w18]) ∧ ∃ w19 w20 w21 w22, C 14 [IV.d (D.sl 4 z1 x2 e3), IV.d (D.sl 1 z10 x11 e12)] = some (IV.tup [IV.d (D.int IntKind.i64 w19), IV.d (D.int IntKind.i64 w20)], [IV.d w21, IV.d w22]) ∧ ∃ w23 w24 w25 w26, C 14 [IV.d (D.sl 4 z1 x2 e3), IV.d (D.sl 1 w1 w2 w3)] = some (IV.tup [IV.d (D.int IntKind.i64 w23), IV.d (D.int IntKind.i64 w24)], [IV.d w25, IV.d w26]) ∧ ∃ w27 w28, C 10 [IV.d (D.int IntKind.i64 w15)] = some (IV.d (D.int IntKind.i64 w27), [IV.d w28]) ∧ condW (w27 == 0) (condW (w14 == 0) (∃ w29 w30 w31, C 13 [IV.d (D.sl 1 w1 w2 w3), IV.d (D.sl 1 w11 w12 w13)] = some (IV.d (D.bool w29), [IV.d w30, IV.d w31]) ∧ condW w29 (∃ w32 w33, C 10 [IV.d (D.int IntKind.i64 w20)] = some (IV.d (D.int IntKind.i64 w32), [IV.d w33]) ∧ condW (w32 == 0) (∃ w34 w35, C 10 [IV.d (D.int IntKind.i64 w24)] = some (IV.d (D.int IntKind.i64 w34), [IV.d w35]) ∧ condW (w34 == 0) (condW (decide (w23 ≤ w19)) (condW (decide (w4 > 0)) (condW (decide (w4 ≥ 0)) (condW (decide (w4 ≤ 100)) (Q (some (IV.d (D.bool true), [IV.d (D.sl 4 z1 x2 e3), IV.d (D.agg [D.sl 1 z4 x5 e6, D.sl 1 z7 x8 e9]), IV.d (D.sl 1 z10 x11 e12)]))) (Q (some (IV.d (D.bool false), [IV.d (D.sl 4 z1 x2 e3), IV.d (D.agg [D.sl 1 z4 x5 e6, D.sl 1 z7 x8 e9]), IV.d (D.sl 1 z10 x11 e12)])))) (Q (some (IV.d (D.bool false), [IV.d (D.sl 4 z1 x2 e3), IV.d (D.agg [D.sl 1 z4 x5 e6, D.sl 1 z7 x8 e9]), IV.d (D.sl 1 z10 x11 e12)])))) (∃ w36 w37 w38, C 13 [IV.d (D.sl 1 w1 w2 w3), IV.d (D.sl 1 z10 x11 e12)] = some (IV.d (D.bool w36), [IV.d w37, IV.d w38]) ∧ condW w36 (condW (decide (w4 ≥ 0)) (condW (decide (w4 ≤ 100)) (Q (some (IV.d (D.bool true), [IV.d (D.sl 4 z1 x2 e3), IV.d (D.agg [D.sl 1 z4 x5 e6, D.sl 1 z7 x8 e9]), IV.d (D.sl 1 z10 x11 e12)]))) (Q (some (IV.d (D.bool false), [IV.d (D.sl 4 z1 x2 e3), IV.d (D.agg [D.sl 1 z4 x5 e6, D.sl 1 z7 x8 e9]), IV.d (D.sl 1 z10 x11 e12)])))) (Q (some (IV.d (D.bool false), [IV.d (D.sl 4 z1 x2 e3), IV.d (D.agg [D.sl 1 z4 x5 e6, D.sl 1 z7 x8 e9]), IV.d (D.sl 1 z10 x11 e12)])))) (Q (some (IV.d (D.bool false), [IV.d (D.sl 4 z1 x2 e3), IV.d (D.agg [D.sl 1 z4 x5 e6, D.sl 1 z7 x8 e9]), IV.d (D.sl 1 z10 x11 e12)]))))) (Q (some (IV.d (D.bool false), [IV.d (D.sl 4 z1 x2 e3), IV.d (D.agg [D.sl 1 z4 x5 e6, D.sl 1 z7 x8 e9]), IV.d (D.sl 1 z10 x11 e12)])))) (Q (some (IV.d (D.bool false), [IV.d (D.sl 4 z1 x2 e3), IV.d (D.agg [D.sl 1 z4 x5 e6, D.sl 1 z7 x8 e9]), IV.d (D.sl 1 z10 x11 e12)])))) (Q (some (IV.d (D.bool false), [IV.d (D.sl 4 z1 x2 e3), IV.d (D.agg [D.sl 1 z4 x5 e6, D.sl 1 z7 x8 e9]), IV.d (D.sl 1 z10 x11 e12)])))) (Q (some (IV.d (D.bool false), [IV.d (D.sl 4 z1 x2 e3), IV.d (D.agg [D.sl 1 z4 x5 e6, D.sl 1 z7 x8 e9]), IV.d (D.sl 1 z10 x11 e12)])))) (Q (some (IV.d (D.bool false), [IV.d (D.sl 4 z1 x2 e3), IV.d (D.agg [D.sl 1 z4 x5 e6, D.sl 1 z7 x8 e9]), IV.d (D.sl 1 z10 x11 e12)])))) (Q (some (IV.d (D.bool false), [IV.d (D.sl 4 z1 x2 e3), IV.d (D.agg [D.sl 1 z4 x5 e6, D.sl 1 z7 x8 e9]), IV.d (D.sl 1 z10 x11 e12)]))))) (Q (some (IV.d (D.bool false), [IV.d (D.sl 4 z1 x2 e3), IV.d (D.agg [D.sl 1 z4 x5 e6, D.sl 1 z7 x8 e9]), IV.d (D.sl 1 z10 x11 e12)])))) := by kernel_rfl
end Go.Proofs.YtollbcdhmnnjeaaDoor.Ab

/- Written by a program of this session (wip/tools/AbSym.lean). Not trusted: Lean checks it. -/
set_option maxRecDepth 100000
set_option linter.unusedVariables false
namespace Go.Proofs.YtollbcdhmnnjeaaDoor.Ab
open Go Go.Ab Go.Proofs
def L3 : Lps := fun b => match b with
  | _ => [.norm []]
theorem q3 (C J) (z1 : Bool) (x2 : List D) (e3 : List D) (z4 : Bool) (x5 : List D) (e6 : List D) (z7 : Bool) (x8 : List D) (e9 : List D) (z10 : Bool) (x11 : List D) (e12 : List D) (Q) : fnW F C R (L3) J d3 [.d (.sl 4 z1 x2 e3), .d (.agg [.sl 1 z4 x5 e6, .sl 1 z7 x8 e9]), .d (.sl 1 z10 x11 e12)] Q = (∃ w0, C 7 [] = some (IV.d (D.bool w0), []) ∧ condW w0 (∃ w1 w2 w3 w4 w5 w6 w7 w8, C 8 [IV.d (D.sl 4 z1 x2 e3), IV.d (D.agg [D.sl 1 z4 x5 e6, D.sl 1 z7 x8 e9]), IV.d (D.sl 1 z10 x11 e12)] = some (IV.tup [IV.d (D.sl 1 w1 w2 w3), IV.d (D.int IntKind.i64 w4), IV.d (D.int IntKind.i64 w5)], [IV.d w6, IV.d w7, IV.d w8]) ∧ ∃ w9 w10 w11 w12 w13, C 9 [IV.d (D.sl 4 z1 x2 e3), IV.d (D.sl 1 z10 x11 e12), IV.d (D.sl 1 w1 w2 w3)] = some (IV.tup [IV.d (D.int IntKind.i64 w9), IV.d (D.int IntKind.i64 w10)], [IV.d w11, IV.d w12, IV.d w13]) ∧ ∃ w14 w15, C 10 [IV.d (D.int IntKind.i64 w5)] = some (IV.d (D.int IntKind.i64 w14), [IV.d w15]) ∧ condW (w14 != 0) (Q (some (IV.d (D.bool true), [IV.d (D.sl 4 z1 x2 e3), IV.d (D.agg [D.sl 1 z4 x5 e6, D.sl 1 z7 x8 e9]), IV.d (D.sl 1 z10 x11 e12)]))) (∃ w16 w17, C 10 [IV.d (D.int IntKind.i64 w10)] = some (IV.d (D.int IntKind.i64 w16), [IV.d w17]) ∧ condW (w16 != 0) (Q (some (IV.d (D.bool true), [IV.d (D.sl 4 z1 x2 e3), IV.d (D.agg [D.sl 1 z4 x5 e6, D.sl 1 z7 x8 e9]), IV.d (D.sl 1 z10 x11 e12)]))) (condW (w4 == 0) (condW (w9 == 1) (Q (some (IV.d (D.bool true), [IV.d (D.sl 4 z1 x2 e3), IV.d (D.agg [D.sl 1 z4 x5 e6, D.sl 1 z7 x8 e9]), IV.d (D.sl 1 z10 x11 e12)]))) (Q (some (IV.d (D.bool false), [IV.d (D.sl 4 z1 x2 e3), IV.d (D.agg [D.sl 1 z4 x5 e6, D.sl 1 z7 x8 e9]), IV.d (D.sl 1 z10 x11 e12)])))) (condW (w9 == 2) (Q (some (IV.d (D.bool true), [IV.d (D.sl 4 z1 x2 e3), IV.d (D.agg [D.sl 1 z4 x5 e6, D.sl 1 z7 x8 e9]), IV.d (D.sl 1 z10 x11 e12)]))) (Q (some (IV.d (D.bool false), [IV.d (D.sl 4 z1 x2 e3), IV.d (D.agg [D.sl 1 z4 x5 e6, D.sl 1 z7 x8 e9]), IV.d (D.sl 1 z10 x11 e12)]))))))) (Q (some (IV.d (D.bool false), [IV.d (D.sl 4 z1 x2 e3), IV.d (D.agg [D.sl 1 z4 x5 e6, D.sl 1 z7 x8 e9]), IV.d (D.sl 1 z10 x11 e12)])))) := by kernel_rfl
end Go.Proofs.YtollbcdhmnnjeaaDoor.Ab

/- Chapter 16's laws SimpDone and SimpLess: for every input the laws return true. No condition. -/
set_option linter.unusedVariables false
set_option linter.unusedSimpArgs false
set_option maxRecDepth 100000
namespace Go.Proofs.YtollbcdhmnnjeaaDoor.Ab
open Go Go.Ab Go.Qu Go.Proofs
theorem good_row1 {n : Nat} {x : D} (h : Go.Ab.Good Tryd.prog (n + 2) 23 x) : ∃ z l, x = .sl 1 z (ints l) [] ∧ (z = true → l = []) := by
  obtain ⟨z, l, rfl, _⟩ := good_ints h
  exact ⟨z, l, rfl, good_nil (n := n + 1) h⟩
theorem good_rewrite {n : Nat} {x : D} (h : Go.Ab.Good Tryd.prog (n + 3) 25 x) : ∃ zL L zR R, x = .agg [.sl 1 zL (ints L) [], .sl 1 zR (ints R) []] ∧ (zL = true → L = []) ∧ (zR = true → R = []) := by
  unfold Go.Ab.Good at h
  rw [Tryd.underlying25] at h
  obtain ⟨ys, rfl, y0, r0, rfl, h0, y1, r1, rfl, h1, rfl⟩ := h
  obtain ⟨zL, L, rfl, k1⟩ := good_row1 h0
  obtain ⟨zR, R, rfl, k2⟩ := good_row1 h1
  exact ⟨zL, L, zR, R, rfl, k1, k2⟩
theorem row_atom {g : List Sym} {r : List Int} (h : rowB g r = true) : atomB g r = false := by
  cases ha : atomB g r with
  | false => rfl
  | true =>
    obtain ⟨_, _, ts, h3, _⟩ := rowB_parts h
    cases r with
    | nil => simp [atomB] at ha
    | cons p r =>
      rcases parts_cases h3 with ⟨h4, _⟩ | ⟨k, us, h4, _⟩
      · cases h4
      · obtain ⟨a, m, h5, _⟩ := lenN_some (n := 0) h4
        unfold atomB at ha
        dsimp only at ha
        split at ha
        · cases ha
        · rename_i h0
          rw [arOf, if_neg h0] at h5
          split at ha
          · cases ha
          · rename_i s hs
            rw [hs] at h5
            simp only [Bool.and_eq_true] at ha
            have hk : s.kind = 0 := by simpa using ha.1.1
            dsimp only at h5
            rw [if_pos hk] at h5
            cases h5
theorem law_simpdone (z zL zR zr : Bool) (g : List Sym) (L R r : List Int) (hzL : zL = true → L = []) (hzR : zR = true → R = []) (hz : zr = true → r = []) :
    C 5 [iG z g [], .d (.agg [.sl 1 zL (ints L) [], .sl 1 zR (ints R) []]), iS zr r []] = some (iB true, [iG z g [], .d (.agg [.sl 1 zL (ints L) [], .sl 1 zR (ints R) []]), iS zr r []]) := by
  refine wfn (lk := []) rfl rfl (fnW_way (q5 _ _ z (syms g) [] zL (ints L) [] zR (ints R) [] zr (ints r) [] _) ?_)
  refine ⟨_, w_awake, condW_t rfl ?_⟩
  obtain ⟨v, h1, h2⟩ := w_srewrite z zL zR zr g [] [] [] [] L R r hzL hzR hz
  unfold postW at h2
  cases hb : (ruB g L R && rowB g r) with
  | false =>
    rw [hb, if_neg (by simp)] at h2
    subst h2
    exact ⟨_, _, _, _, _, _, _, _, h1, _, _, w_num _, condW_t rfl (condW_t rfl (condW_t rfl rfl))⟩
  | true =>
    rw [hb, if_pos rfl] at h2
    rw [Bool.and_eq_true] at hb
    obtain ⟨hru, hro⟩ := hb
    cases hx : rwX g L R (r, 0, 0) with
    | none =>
      rw [hx] at h2
      subst h2
      exact ⟨_, _, _, _, _, _, _, _, h1, _, _, w_num _, condW_t rfl (condW_t rfl (condW_t rfl rfl))⟩
    | some p =>
      obtain ⟨y, k⟩ := p
      rw [hx] at h2
      obtain ⟨zy, hzy, rfl⟩ := h2
      obtain ⟨hg, hL, hR, l1, l2, hm⟩ := ru_more hru
      obtain ⟨hs, hr, ts, h3, _⟩ := rowB_parts hro
      have hn := parts_all _ (Nat.le_refl _) h3
      obtain ⟨a1, a2, a3, _, a5, a6, a7, _⟩ := rw_all hg hL hR hm (n := ts.length) (r, 0, 0) hr (Nat.zero_le _) hn (fun j hj => absurd hj (Nat.not_lt_zero _)) hx
      have hry : rowB g y = true := by
        obtain ⟨us, h5, _⟩ := parts_lenN a1
        rw [List.take_length] at h5
        exact rowB_of hs a2 h5
      have hx2 := rw_same (g := g) (L := L) (R := R) (y, 0, 0) a2 (Nat.zero_le _) a3
      obtain ⟨v2, h6, h7⟩ := w_srewrite z zL zR zy g [] [] [] [] L R y hzL hzR hzy
      unfold postW at h7
      rw [hru, hry, if_pos (show (true && true) = true from rfl), hx2] at h7
      obtain ⟨zy2, hzy2, rfl⟩ := h7
      have hw1 := w_weight z zr g [] [] r
      have hw2 := w_weight z zy g [] [] y
      rw [if_pos hro, if_pos hro] at hw1
      rw [if_pos hry, if_pos hry] at hw2
      have hly : Len y := by unfold Len; omega
      have hsy := w_sameints hly y zy zy2 [] []
      rw [decide_eq_true rfl] at hsy
      have hsr := w_sameints hly r zy zr [] []
      refine ⟨_, _, _, _, _, _, _, _, h1, _, _, w_num _, condW_f rfl ⟨_, _, _, _, _, _, _, _, h6, _, _, _, _, hw1, _, _, _, _, hw2, _, _, w_num _, condW_t rfl (condW_t rfl ⟨_, _, _, hsy, condW_t rfl ⟨_, _, w_num _, condW_t rfl ⟨_, _, w_num _, condW_t rfl (condW_t (decide_eq_true a6) ?_)⟩⟩⟩)⟩⟩
      have c1 : decide ((k : Int) ≥ 0) = true := by simp
      have c2 : decide ((k : Int) ≤ 100) = true := by simp; omega
      by_cases hk : k = 0
      · have : y = r := a7 hk
        rw [decide_eq_true this] at hsr
        have c0 : decide ((k : Int) > 0) = false := by simp; omega
        exact condW_f c0 ⟨_, _, _, hsr, condW_t rfl (condW_t c1 (condW_t c2 rfl))⟩
      · have c0 : decide ((k : Int) > 0) = true := by simp; omega
        exact condW_t c0 (condW_t c1 (condW_t c2 rfl))
theorem law_simpless (z zL zR zr : Bool) (g : List Sym) (L R r : List Int) (hzL : zL = true → L = []) (hzR : zR = true → R = []) (hz : zr = true → r = []) :
    C 3 [iG z g [], .d (.agg [.sl 1 zL (ints L) [], .sl 1 zR (ints R) []]), iS zr r []] = some (iB true, [iG z g [], .d (.agg [.sl 1 zL (ints L) [], .sl 1 zR (ints R) []]), iS zr r []]) := by
  refine wfn (lk := []) rfl rfl (fnW_way (q3 _ _ z (syms g) [] zL (ints L) [] zR (ints R) [] zr (ints r) [] _) ?_)
  refine ⟨_, w_awake, condW_t rfl ?_⟩
  obtain ⟨v, h1, h2⟩ := w_srewrite z zL zR zr g [] [] [] [] L R r hzL hzR hz
  unfold postW at h2
  cases hb : (ruB g L R && rowB g r) with
  | false =>
    rw [hb, if_neg (by simp)] at h2
    subst h2
    exact ⟨_, _, _, _, _, _, _, _, h1, _, _, _, _, _, w_compare z zr true g [] [] [] r [] hz (fun _ => rfl), _, _, w_num _, condW_t rfl rfl⟩
  | true =>
    rw [hb, if_pos rfl] at h2
    rw [Bool.and_eq_true] at hb
    obtain ⟨hru, hro⟩ := hb
    cases hx : rwX g L R (r, 0, 0) with
    | none =>
      rw [hx] at h2
      subst h2
      exact ⟨_, _, _, _, _, _, _, _, h1, _, _, _, _, _, w_compare z zr true g [] [] [] r [] hz (fun _ => rfl), _, _, w_num _, condW_t rfl rfl⟩
    | some p =>
      obtain ⟨y, k⟩ := p
      rw [hx] at h2
      obtain ⟨zy, hzy, rfl⟩ := h2
      have hc := w_compare z zr zy g [] [] [] r y hz hzy
      refine ⟨_, _, _, _, _, _, _, _, h1, _, _, _, _, _, hc, _, _, w_num _, condW_f rfl ⟨_, _, w_num _, ?_⟩⟩
      cases hok : cmpOk g r y with
      | false => exact condW_t (by simp) rfl
      | true =>
        have ho1 : oneB g r = true := by
          have h8 := row_atom hro
          unfold cmpOk at hok
          simp [h8] at hok
          exact hok.1
        obtain ⟨hs, hr, hn⟩ := one_lenN ho1
        obtain ⟨hg, hL, hR, l1, l2, hm⟩ := ru_more hru
        obtain ⟨a1, a2, a3, _, a5, a6, a7, a8⟩ := rw_all hg hL hR hm (n := 1) (r, 0, 0) hr (Nat.zero_le _) hn (fun j hj => absurd hj (Nat.not_lt_zero _)) hx
        have hv : cmpV g r y = if r = y then 1 else if moreB g r y then 2 else if moreB g y r then 0 else 3 := by rw [cmpV, if_neg (by simp [hok])]
        refine condW_f (by simp) ?_
        by_cases hk : k = 0
        · have : y = r := a7 hk
          rw [hv, if_pos this.symm]
          exact condW_t (by simp; omega) rfl
        · have hmr := a8 rfl (show 0 < k by omega)
          have hne : r ≠ y := fun e => by
            have hmr : More g r y := hmr
            rw [← e] at hmr
            exact more_irr hmr
          have hr0 : r ≠ [] := fun e => by subst e; simp [lenN] at hn
          rw [hv, if_neg hne, if_pos ((moreB_iff hr0).2 hmr)]
          exact condW_f (by simp; omega) rfl
theorem call_simpdone (y0 y1 y2 : D) (g0 : Go.Ab.Good Tryd.prog 12 22 y0) (g1 : Go.Ab.Good Tryd.prog 12 25 y1) (g2 : Go.Ab.Good Tryd.prog 12 23 y2) : ∃ outs, C 5 [.d y0, .d y1, .d y2] = some (iB true, outs) := by
  obtain ⟨z, g, rfl⟩ := good_sig g0
  obtain ⟨zL, L, zR, R, rfl, h1, h2⟩ := good_rewrite g1
  obtain ⟨zr, r, rfl, h3⟩ := good_row1 g2
  exact ⟨_, law_simpdone z zL zR zr g L R r h1 h2 h3⟩
theorem call_simpless (y0 y1 y2 : D) (g0 : Go.Ab.Good Tryd.prog 12 22 y0) (g1 : Go.Ab.Good Tryd.prog 12 25 y1) (g2 : Go.Ab.Good Tryd.prog 12 23 y2) : ∃ outs, C 3 [.d y0, .d y1, .d y2] = some (iB true, outs) := by
  obtain ⟨z, g, rfl⟩ := good_sig g0
  obtain ⟨zL, L, zR, R, rfl, h1, h2⟩ := good_rewrite g1
  obtain ⟨zr, r, rfl, h3⟩ := good_row1 g2
  exact ⟨_, law_simpless z zL zR zr g L R r h1 h2 h3⟩
end Go.Proofs.YtollbcdhmnnjeaaDoor.Ab

/- Written by a program of this session (wip/tools/AbSym.lean). Not trusted: Lean checks it. -/
set_option maxRecDepth 100000
set_option linter.unusedVariables false
namespace Go.Proofs.YtollbcdhmnnjeaaDoor.Ab
open Go Go.Ab Go.Proofs
def L6 : Lps := fun b => match b with
  | 0 => [.norm [(0, .d (.sl 4)), (4, .dbox 35 0 [.bool, .sl 1]), (5, .dbox 39 0 [.sl 2, .sl 1, .sl 2]), (7, .ptr 39 0 [.own 35 2, .own 23 1, .own 35 2]), (8, .d (.int .i64)), (10, .ptr 39 0 [.own 35 2, .d (.sl 1), .d (.sl 2)]), (11, .d (.int .i64)), (12, .d (.int .i64))]]
  | _ => [.norm []]
theorem q6 (C J) (z1 : Bool) (x2 : List D) (e3 : List D) (b4 : Bool) (z5 : Bool) (x6 : List D) (e7 : List D) (z8 : Bool) (x9 : List D) (e10 : List D) (z11 : Bool) (x12 : List D) (e13 : List D) (z14 : Bool) (x15 : List D) (e16 : List D) (Q) : fnW F C R (L6) J d6 [.d (.sl 4 z1 x2 e3), .d (.agg [.bool b4, .sl 1 z5 x6 e7]), .d (.agg [.sl 2 z8 x9 e10, .sl 1 z11 x12 e13, .sl 2 z14 x15 e16])] Q = (∃ w0, C 7 [] = some (IV.d (D.bool w0), []) ∧ condW w0 ((∃ w1 w2 w3 w4 w5 w6 w7 w8 w9 w10 w11, C 15 [IV.d (D.sl 4 z1 x2 e3), IV.d (D.agg [D.bool b4, D.sl 1 z5 x6 e7]), IV.d (D.agg [D.sl 2 z8 x9 e10, D.sl 1 z11 x12 e13, D.sl 2 z14 x15 e16])] = some (IV.tup [IV.agg [IV.own w1 35 2 w2, IV.own w3 23 1 w4, IV.own w5 35 2 w6], IV.d (D.int IntKind.i64 w7), IV.d (D.int IntKind.i64 w8)], [IV.d w9, IV.d w10, IV.d w11]) ∧ ∃ w12 w13, C 10 [IV.d (D.int IntKind.i64 w8)] = some (IV.d (D.int IntKind.i64 w12), [IV.d w13]) ∧ condW (w12 != 0) (condW (w7 == 0) (Q (some (IV.d (D.bool true), [IV.d (D.sl 4 z1 x2 e3), IV.d (D.agg [D.bool b4, D.sl 1 z5 x6 e7]), IV.d (D.agg [D.sl 2 z8 x9 e10, D.sl 1 z11 x12 e13, D.sl 2 z14 x15 e16])]))) (Q (some (IV.d (D.bool false), [IV.d (D.sl 4 z1 x2 e3), IV.d (D.agg [D.bool b4, D.sl 1 z5 x6 e7]), IV.d (D.agg [D.sl 2 z8 x9 e10, D.sl 1 z11 x12 e13, D.sl 2 z14 x15 e16])])))) (∃ w14 w15 w16 w17 w18 w19 w20 w21 w22 w23 w24 w25 w26 w27 w28 w29 w30 w31 w32 w33 w34 w35 w36 w37 w38 w39 w40 w41 w42 w43 w44 w45 w46, evP F C J d6 [] [1, 1, 1, 1, 1, 1, 1, 1, 0, 1] [(0, IV.d (D.sl 4 z1 x2 e3)), (4, IV.dbox 35 0 [D.bool b4, D.sl 1 z5 x6 e7]), (5, IV.dbox 39 0 [D.sl 2 z8 x9 e10, D.sl 1 z11 x12 e13, D.sl 2 z14 x15 e16]), (7, IV.ptr 39 0 [IV.own w1 35 2 w2, IV.own w3 23 1 w4, IV.own w5 35 2 w6]), (8, IV.d (D.int IntKind.i64 w7)), (10, IV.ptr 39 0 [IV.own true 35 2 [], IV.d (D.sl 1 z11 x12 e13), IV.d (D.sl 2 z14 x15 e16)]), (11, IV.d (D.int IntKind.i64 0)), (12, IV.d (D.int IntKind.i64 0))] = some (Out.norm [(0, IV.d (D.sl 4 w14 w15 w16)), (4, IV.dbox 35 0 [D.bool w17, D.sl 1 w18 w19 w20]), (5, IV.dbox 39 0 [D.sl 2 w21 w22 w23, D.sl 1 w24 w25 w26, D.sl 2 w27 w28 w29]), (7, IV.ptr 39 0 [IV.own w30 35 2 w31, IV.own w32 23 1 w33, IV.own w34 35 2 w35]), (8, IV.d (D.int IntKind.i64 w36)), (10, IV.ptr 39 0 [IV.own w37 35 2 w38, IV.d (D.sl 1 w39 w40 w41), IV.d (D.sl 2 w42 w43 w44)]), (11, IV.d (D.int IntKind.i64 w45)), (12, IV.d (D.int IntKind.i64 w46))]) ∧ ((∃ w47 w48 w49 w50 w51 w52 w53 w54 w55, C 17 [IV.d (D.sl 4 w14 w15 w16), IV.d (D.agg [D.sl 2 w37 w38 [], D.sl 1 w39 w40 w41, D.sl 2 w42 w43 w44])] = some (IV.tup [IV.agg [IV.own w47 35 2 w48, IV.own w49 23 1 w50, IV.own w51 35 2 w52], IV.d (D.int IntKind.i64 w53)], [IV.d w54, IV.d w55]) ∧ ∃ w56 w57, C 10 [IV.d (D.int IntKind.i64 w53)] = some (IV.d (D.int IntKind.i64 w56), [IV.d w57]) ∧ condW (w56 == 0) (∃ w58 w59 w60, C 18 [IV.d (D.agg [D.sl 2 w30 w31 [], D.sl 1 w32 w33 [], D.sl 2 w34 w35 []]), IV.d (D.agg [D.sl 2 w47 w48 [], D.sl 1 w49 w50 [], D.sl 2 w51 w52 []])] = some (IV.d (D.bool w58), [IV.d w59, IV.d w60]) ∧ condW w58 (condW (w36 == w45) (Q (some (IV.d (D.bool true), [IV.d (D.sl 4 z1 x2 e3), IV.d (D.agg [D.bool b4, D.sl 1 z5 x6 e7]), IV.d (D.agg [D.sl 2 z8 x9 e10, D.sl 1 z11 x12 e13, D.sl 2 z14 x15 e16])]))) (Q (some (IV.d (D.bool false), [IV.d (D.sl 4 z1 x2 e3), IV.d (D.agg [D.bool b4, D.sl 1 z5 x6 e7]), IV.d (D.agg [D.sl 2 z8 x9 e10, D.sl 1 z11 x12 e13, D.sl 2 z14 x15 e16])])))) (Q (some (IV.d (D.bool false), [IV.d (D.sl 4 z1 x2 e3), IV.d (D.agg [D.bool b4, D.sl 1 z5 x6 e7]), IV.d (D.agg [D.sl 2 z8 x9 e10, D.sl 1 z11 x12 e13, D.sl 2 z14 x15 e16])])))) (Q (some (IV.d (D.bool false), [IV.d (D.sl 4 z1 x2 e3), IV.d (D.agg [D.bool b4, D.sl 1 z5 x6 e7]), IV.d (D.agg [D.sl 2 z8 x9 e10, D.sl 1 z11 x12 e13, D.sl 2 z14 x15 e16])])))) ∨ ∃ w61 w62 w63, C 17 [IV.d (D.sl 4 w14 w15 w16), IV.d (D.agg [D.sl 2 w37 w38 [], D.sl 1 w39 w40 w41, D.sl 2 w42 w43 w44])] = some (IV.tup [IV.d (D.agg [D.sl 2 true [] [], D.sl 1 true [] [], D.sl 2 true [] []]), IV.d (D.int IntKind.i64 w61)], [IV.d w62, IV.d w63]) ∧ ∃ w64 w65, C 10 [IV.d (D.int IntKind.i64 w61)] = some (IV.d (D.int IntKind.i64 w64), [IV.d w65]) ∧ condW (w64 == 0) (∃ w66 w67 w68, C 18 [IV.d (D.agg [D.sl 2 w30 w31 [], D.sl 1 w32 w33 [], D.sl 2 w34 w35 []]), IV.d (D.agg [D.sl 2 true [] [], D.sl 1 true [] [], D.sl 2 true [] []])] = some (IV.d (D.bool w66), [IV.d w67, IV.d w68]) ∧ condW w66 (condW (w36 == w45) (Q (some (IV.d (D.bool true), [IV.d (D.sl 4 z1 x2 e3), IV.d (D.agg [D.bool b4, D.sl 1 z5 x6 e7]), IV.d (D.agg [D.sl 2 z8 x9 e10, D.sl 1 z11 x12 e13, D.sl 2 z14 x15 e16])]))) (Q (some (IV.d (D.bool false), [IV.d (D.sl 4 z1 x2 e3), IV.d (D.agg [D.bool b4, D.sl 1 z5 x6 e7]), IV.d (D.agg [D.sl 2 z8 x9 e10, D.sl 1 z11 x12 e13, D.sl 2 z14 x15 e16])])))) (Q (some (IV.d (D.bool false), [IV.d (D.sl 4 z1 x2 e3), IV.d (D.agg [D.bool b4, D.sl 1 z5 x6 e7]), IV.d (D.agg [D.sl 2 z8 x9 e10, D.sl 1 z11 x12 e13, D.sl 2 z14 x15 e16])])))) (Q (some (IV.d (D.bool false), [IV.d (D.sl 4 z1 x2 e3), IV.d (D.agg [D.bool b4, D.sl 1 z5 x6 e7]), IV.d (D.agg [D.sl 2 z8 x9 e10, D.sl 1 z11 x12 e13, D.sl 2 z14 x15 e16])])))))) ∨ ∃ w69 w70 w71 w72 w73, C 15 [IV.d (D.sl 4 z1 x2 e3), IV.d (D.agg [D.bool b4, D.sl 1 z5 x6 e7]), IV.d (D.agg [D.sl 2 z8 x9 e10, D.sl 1 z11 x12 e13, D.sl 2 z14 x15 e16])] = some (IV.tup [IV.d (D.agg [D.sl 2 true [] [], D.sl 1 true [] [], D.sl 2 true [] []]), IV.d (D.int IntKind.i64 w69), IV.d (D.int IntKind.i64 w70)], [IV.d w71, IV.d w72, IV.d w73]) ∧ ∃ w74 w75, C 10 [IV.d (D.int IntKind.i64 w70)] = some (IV.d (D.int IntKind.i64 w74), [IV.d w75]) ∧ condW (w74 != 0) (condW (w69 == 0) (Q (some (IV.d (D.bool true), [IV.d (D.sl 4 z1 x2 e3), IV.d (D.agg [D.bool b4, D.sl 1 z5 x6 e7]), IV.d (D.agg [D.sl 2 z8 x9 e10, D.sl 1 z11 x12 e13, D.sl 2 z14 x15 e16])]))) (Q (some (IV.d (D.bool false), [IV.d (D.sl 4 z1 x2 e3), IV.d (D.agg [D.bool b4, D.sl 1 z5 x6 e7]), IV.d (D.agg [D.sl 2 z8 x9 e10, D.sl 1 z11 x12 e13, D.sl 2 z14 x15 e16])])))) (∃ w76 w77 w78 w79 w80 w81 w82 w83 w84 w85 w86 w87 w88 w89 w90 w91 w92 w93 w94 w95 w96 w97 w98 w99 w100 w101 w102 w103 w104 w105 w106 w107 w108, evP F C J d6 [] [1, 1, 1, 1, 1, 1, 1, 1, 0, 1] [(0, IV.d (D.sl 4 z1 x2 e3)), (4, IV.dbox 35 0 [D.bool b4, D.sl 1 z5 x6 e7]), (5, IV.dbox 39 0 [D.sl 2 z8 x9 e10, D.sl 1 z11 x12 e13, D.sl 2 z14 x15 e16]), (7, IV.ptr 39 0 [IV.own true 35 2 [], IV.own true 23 1 [], IV.own true 35 2 []]), (8, IV.d (D.int IntKind.i64 w69)), (10, IV.ptr 39 0 [IV.own true 35 2 [], IV.d (D.sl 1 z11 x12 e13), IV.d (D.sl 2 z14 x15 e16)]), (11, IV.d (D.int IntKind.i64 0)), (12, IV.d (D.int IntKind.i64 0))] = some (Out.norm [(0, IV.d (D.sl 4 w76 w77 w78)), (4, IV.dbox 35 0 [D.bool w79, D.sl 1 w80 w81 w82]), (5, IV.dbox 39 0 [D.sl 2 w83 w84 w85, D.sl 1 w86 w87 w88, D.sl 2 w89 w90 w91]), (7, IV.ptr 39 0 [IV.own w92 35 2 w93, IV.own w94 23 1 w95, IV.own w96 35 2 w97]), (8, IV.d (D.int IntKind.i64 w98)), (10, IV.ptr 39 0 [IV.own w99 35 2 w100, IV.d (D.sl 1 w101 w102 w103), IV.d (D.sl 2 w104 w105 w106)]), (11, IV.d (D.int IntKind.i64 w107)), (12, IV.d (D.int IntKind.i64 w108))]) ∧ ((∃ w109 w110 w111 w112 w113 w114 w115 w116 w117, C 17 [IV.d (D.sl 4 w76 w77 w78), IV.d (D.agg [D.sl 2 w99 w100 [], D.sl 1 w101 w102 w103, D.sl 2 w104 w105 w106])] = some (IV.tup [IV.agg [IV.own w109 35 2 w110, IV.own w111 23 1 w112, IV.own w113 35 2 w114], IV.d (D.int IntKind.i64 w115)], [IV.d w116, IV.d w117]) ∧ ∃ w118 w119, C 10 [IV.d (D.int IntKind.i64 w115)] = some (IV.d (D.int IntKind.i64 w118), [IV.d w119]) ∧ condW (w118 == 0) (∃ w120 w121 w122, C 18 [IV.d (D.agg [D.sl 2 w92 w93 [], D.sl 1 w94 w95 [], D.sl 2 w96 w97 []]), IV.d (D.agg [D.sl 2 w109 w110 [], D.sl 1 w111 w112 [], D.sl 2 w113 w114 []])] = some (IV.d (D.bool w120), [IV.d w121, IV.d w122]) ∧ condW w120 (condW (w98 == w107) (Q (some (IV.d (D.bool true), [IV.d (D.sl 4 z1 x2 e3), IV.d (D.agg [D.bool b4, D.sl 1 z5 x6 e7]), IV.d (D.agg [D.sl 2 z8 x9 e10, D.sl 1 z11 x12 e13, D.sl 2 z14 x15 e16])]))) (Q (some (IV.d (D.bool false), [IV.d (D.sl 4 z1 x2 e3), IV.d (D.agg [D.bool b4, D.sl 1 z5 x6 e7]), IV.d (D.agg [D.sl 2 z8 x9 e10, D.sl 1 z11 x12 e13, D.sl 2 z14 x15 e16])])))) (Q (some (IV.d (D.bool false), [IV.d (D.sl 4 z1 x2 e3), IV.d (D.agg [D.bool b4, D.sl 1 z5 x6 e7]), IV.d (D.agg [D.sl 2 z8 x9 e10, D.sl 1 z11 x12 e13, D.sl 2 z14 x15 e16])])))) (Q (some (IV.d (D.bool false), [IV.d (D.sl 4 z1 x2 e3), IV.d (D.agg [D.bool b4, D.sl 1 z5 x6 e7]), IV.d (D.agg [D.sl 2 z8 x9 e10, D.sl 1 z11 x12 e13, D.sl 2 z14 x15 e16])])))) ∨ ∃ w123 w124 w125, C 17 [IV.d (D.sl 4 w76 w77 w78), IV.d (D.agg [D.sl 2 w99 w100 [], D.sl 1 w101 w102 w103, D.sl 2 w104 w105 w106])] = some (IV.tup [IV.d (D.agg [D.sl 2 true [] [], D.sl 1 true [] [], D.sl 2 true [] []]), IV.d (D.int IntKind.i64 w123)], [IV.d w124, IV.d w125]) ∧ ∃ w126 w127, C 10 [IV.d (D.int IntKind.i64 w123)] = some (IV.d (D.int IntKind.i64 w126), [IV.d w127]) ∧ condW (w126 == 0) (∃ w128 w129 w130, C 18 [IV.d (D.agg [D.sl 2 w92 w93 [], D.sl 1 w94 w95 [], D.sl 2 w96 w97 []]), IV.d (D.agg [D.sl 2 true [] [], D.sl 1 true [] [], D.sl 2 true [] []])] = some (IV.d (D.bool w128), [IV.d w129, IV.d w130]) ∧ condW w128 (condW (w98 == w107) (Q (some (IV.d (D.bool true), [IV.d (D.sl 4 z1 x2 e3), IV.d (D.agg [D.bool b4, D.sl 1 z5 x6 e7]), IV.d (D.agg [D.sl 2 z8 x9 e10, D.sl 1 z11 x12 e13, D.sl 2 z14 x15 e16])]))) (Q (some (IV.d (D.bool false), [IV.d (D.sl 4 z1 x2 e3), IV.d (D.agg [D.bool b4, D.sl 1 z5 x6 e7]), IV.d (D.agg [D.sl 2 z8 x9 e10, D.sl 1 z11 x12 e13, D.sl 2 z14 x15 e16])])))) (Q (some (IV.d (D.bool false), [IV.d (D.sl 4 z1 x2 e3), IV.d (D.agg [D.bool b4, D.sl 1 z5 x6 e7]), IV.d (D.agg [D.sl 2 z8 x9 e10, D.sl 1 z11 x12 e13, D.sl 2 z14 x15 e16])])))) (Q (some (IV.d (D.bool false), [IV.d (D.sl 4 z1 x2 e3), IV.d (D.agg [D.bool b4, D.sl 1 z5 x6 e7]), IV.d (D.agg [D.sl 2 z8 x9 e10, D.sl 1 z11 x12 e13, D.sl 2 z14 x15 e16])])))))) (Q (some (IV.d (D.bool false), [IV.d (D.sl 4 z1 x2 e3), IV.d (D.agg [D.bool b4, D.sl 1 z5 x6 e7]), IV.d (D.agg [D.sl 2 z8 x9 e10, D.sl 1 z11 x12 e13, D.sl 2 z14 x15 e16])])))) := by kernel_rfl
theorem q6_l0a (C J) (z1 : Bool) (x2 : List D) (e3 : List D) (b4 : Bool) (z5 : Bool) (x6 : List D) (e7 : List D) (z8 : Bool) (x9 : List D) (e10 : List D) (z11 : Bool) (x12 : List D) (e13 : List D) (z14 : Bool) (x15 : List D) (e16 : List D) (z17 : Bool) (x18 : List D) (z19 : Bool) (x20 : List D) (z21 : Bool) (x22 : List D) (i23 : Int) (z24 : Bool) (x25 : List D) (z26 : Bool) (x27 : List D) (e28 : List D) (z29 : Bool) (x30 : List D) (e31 : List D) (i32 : Int) (i33 : Int) (Q) : wpQ F C R (L6) J d6 [] [1,1,1,1,1,1,1,1,0,1,0,0] [(0, .d (.sl 4 z1 x2 e3)), (4, .dbox 35 0 [.bool b4, .sl 1 z5 x6 e7]), (5, .dbox 39 0 [.sl 2 z8 x9 e10, .sl 1 z11 x12 e13, .sl 2 z14 x15 e16]), (7, .ptr 39 0 [.own z17 35 2 x18, .own z19 23 1 x20, .own z21 35 2 x22]), (8, .d (.int .i64 i23)), (10, .ptr 39 0 [.own z24 35 2 x25, .d (.sl 1 z26 x27 e28), .d (.sl 2 z29 x30 e31)]), (11, .d (.int .i64 i32)), (12, .d (.int .i64 i33))] Q = (condW (decide (i33 < (↑(List.length x9) : Int))) (condW (decide (0 ≤ i33)) (∃ w0 w1 w2 w3, x9[Int.toNat i33]? = some (D.agg [D.bool w0, D.sl 1 w1 w2 w3]) ∧ condW w0 (condW b4 (condW (decide (List.length x25 + (0 + 1) ≤ 9223372036854775807)) (condW (decide ((List.length x25 + (0 + 1)) * 32 ≤ 140737488355328)) (Q (Out.norm [(0, IV.d (D.sl 4 z1 x2 e3)), (4, IV.dbox 35 0 [D.bool b4, D.sl 1 z5 x6 e7]), (5, IV.dbox 39 0 [D.sl 2 z8 x9 e10, D.sl 1 z11 x12 e13, D.sl 2 z14 x15 e16]), (7, IV.ptr 39 0 [IV.own z17 35 2 x18, IV.own z19 23 1 x20, IV.own z21 35 2 x22]), (8, IV.d (D.int IntKind.i64 i23)), (10, IV.ptr 39 0 [IV.own (z24 && false) 35 2 (x25 ++ [D.agg (D.cells (D.agg (List.take 2 (List.drop 0 (D.cells (D.agg [D.bool w0, D.sl 1 w1 w2 w3]))))))]), IV.d (D.sl 1 z26 x27 e28), IV.d (D.sl 2 z29 x30 e31)]), (11, IV.d (D.int IntKind.i64 i32)), (12, IV.d (D.int IntKind.i64 (IntKind.wrap IntKind.i64 (i33 + 1))))])) False) False) (condW (decide ((↑(List.length w2) : Int) > 0)) (condW (decide ((↑(List.length x6) : Int) > 0)) (∃ w4, w2[0]? = some (D.int IntKind.i64 w4) ∧ ∃ w5, x6[0]? = some (D.int IntKind.i64 w5) ∧ condW (w4 == w5) (condW (decide (1 ≤ (↑(List.length x6) : Int))) (condW (decide (1 ≤ (↑(List.length w2) : Int))) (∃ w6 w7 w8 w9 w10 w11 w12, C 16 [IV.d (D.sl 4 z1 x2 e3), IV.d (D.sl 1 z5 (List.drop (Int.toNat 1) x6) []), IV.d (D.sl 1 w1 (List.drop (Int.toNat 1) w2) [])] = some (IV.tup [IV.own w6 94 2 w7, IV.d (D.bool w8), IV.d (D.int IntKind.i64 w9)], [IV.d w10, IV.d w11, IV.d w12]) ∧ condW w8 (∃ w13 w14, C 10 [IV.d (D.int IntKind.i64 w9)] = some (IV.d (D.int IntKind.i64 w13), [IV.d w14]) ∧ condW (w13 == 0) (Q (Out.norm [(0, IV.d (D.sl 4 z1 x2 e3)), (4, IV.dbox 35 0 [D.bool b4, D.sl 1 z5 x6 e7]), (5, IV.dbox 39 0 [D.sl 2 z8 x9 e10, D.sl 1 z11 x12 e13, D.sl 2 z14 x15 e16]), (7, IV.ptr 39 0 [IV.own z17 35 2 x18, IV.own z19 23 1 x20, IV.own z21 35 2 x22]), (8, IV.d (D.int IntKind.i64 i23)), (10, IV.ptr 39 0 [IV.own z24 35 2 x25, IV.d (D.sl 1 z26 x27 e28), IV.d (D.sl 2 z29 x30 e31)]), (11, IV.d (D.int IntKind.i64 (IntKind.wrap IntKind.i64 (i32 + 1)))), (12, IV.d (D.int IntKind.i64 (IntKind.wrap IntKind.i64 (i33 + 1))))])) (condW (decide (List.length x25 + (0 + 1) ≤ 9223372036854775807)) (condW (decide ((List.length x25 + (0 + 1)) * 32 ≤ 140737488355328)) (Q (Out.norm [(0, IV.d (D.sl 4 z1 x2 e3)), (4, IV.dbox 35 0 [D.bool b4, D.sl 1 z5 x6 e7]), (5, IV.dbox 39 0 [D.sl 2 z8 x9 e10, D.sl 1 z11 x12 e13, D.sl 2 z14 x15 e16]), (7, IV.ptr 39 0 [IV.own z17 35 2 x18, IV.own z19 23 1 x20, IV.own z21 35 2 x22]), (8, IV.d (D.int IntKind.i64 i23)), (10, IV.ptr 39 0 [IV.own (z24 && false) 35 2 (x25 ++ [D.agg (D.cells (D.agg (List.take 2 (List.drop 0 (D.cells (D.agg [D.bool w0, D.sl 1 w1 w2 w3]))))))]), IV.d (D.sl 1 z26 x27 e28), IV.d (D.sl 2 z29 x30 e31)]), (11, IV.d (D.int IntKind.i64 i32)), (12, IV.d (D.int IntKind.i64 (IntKind.wrap IntKind.i64 (i33 + 1))))])) False) False)) (condW (decide (List.length x25 + (0 + 1) ≤ 9223372036854775807)) (condW (decide ((List.length x25 + (0 + 1)) * 32 ≤ 140737488355328)) (Q (Out.norm [(0, IV.d (D.sl 4 z1 x2 e3)), (4, IV.dbox 35 0 [D.bool b4, D.sl 1 z5 x6 e7]), (5, IV.dbox 39 0 [D.sl 2 z8 x9 e10, D.sl 1 z11 x12 e13, D.sl 2 z14 x15 e16]), (7, IV.ptr 39 0 [IV.own z17 35 2 x18, IV.own z19 23 1 x20, IV.own z21 35 2 x22]), (8, IV.d (D.int IntKind.i64 i23)), (10, IV.ptr 39 0 [IV.own (z24 && false) 35 2 (x25 ++ [D.agg (D.cells (D.agg (List.take 2 (List.drop 0 (D.cells (D.agg [D.bool w0, D.sl 1 w1 w2 w3]))))))]), IV.d (D.sl 1 z26 x27 e28), IV.d (D.sl 2 z29 x30 e31)]), (11, IV.d (D.int IntKind.i64 i32)), (12, IV.d (D.int IntKind.i64 (IntKind.wrap IntKind.i64 (i33 + 1))))])) False) False)) False) False) (condW (decide (List.length x25 + (0 + 1) ≤ 9223372036854775807)) (condW (decide ((List.length x25 + (0 + 1)) * 32 ≤ 140737488355328)) (Q (Out.norm [(0, IV.d (D.sl 4 z1 x2 e3)), (4, IV.dbox 35 0 [D.bool b4, D.sl 1 z5 x6 e7]), (5, IV.dbox 39 0 [D.sl 2 z8 x9 e10, D.sl 1 z11 x12 e13, D.sl 2 z14 x15 e16]), (7, IV.ptr 39 0 [IV.own z17 35 2 x18, IV.own z19 23 1 x20, IV.own z21 35 2 x22]), (8, IV.d (D.int IntKind.i64 i23)), (10, IV.ptr 39 0 [IV.own (z24 && false) 35 2 (x25 ++ [D.agg (D.cells (D.agg (List.take 2 (List.drop 0 (D.cells (D.agg [D.bool w0, D.sl 1 w1 w2 w3]))))))]), IV.d (D.sl 1 z26 x27 e28), IV.d (D.sl 2 z29 x30 e31)]), (11, IV.d (D.int IntKind.i64 i32)), (12, IV.d (D.int IntKind.i64 (IntKind.wrap IntKind.i64 (i33 + 1))))])) False) False)) (condW (decide (List.length x25 + (0 + 1) ≤ 9223372036854775807)) (condW (decide ((List.length x25 + (0 + 1)) * 32 ≤ 140737488355328)) (Q (Out.norm [(0, IV.d (D.sl 4 z1 x2 e3)), (4, IV.dbox 35 0 [D.bool b4, D.sl 1 z5 x6 e7]), (5, IV.dbox 39 0 [D.sl 2 z8 x9 e10, D.sl 1 z11 x12 e13, D.sl 2 z14 x15 e16]), (7, IV.ptr 39 0 [IV.own z17 35 2 x18, IV.own z19 23 1 x20, IV.own z21 35 2 x22]), (8, IV.d (D.int IntKind.i64 i23)), (10, IV.ptr 39 0 [IV.own (z24 && false) 35 2 (x25 ++ [D.agg (D.cells (D.agg (List.take 2 (List.drop 0 (D.cells (D.agg [D.bool w0, D.sl 1 w1 w2 w3]))))))]), IV.d (D.sl 1 z26 x27 e28), IV.d (D.sl 2 z29 x30 e31)]), (11, IV.d (D.int IntKind.i64 i32)), (12, IV.d (D.int IntKind.i64 (IntKind.wrap IntKind.i64 (i33 + 1))))])) False) False)) (condW (decide (List.length x25 + (0 + 1) ≤ 9223372036854775807)) (condW (decide ((List.length x25 + (0 + 1)) * 32 ≤ 140737488355328)) (Q (Out.norm [(0, IV.d (D.sl 4 z1 x2 e3)), (4, IV.dbox 35 0 [D.bool b4, D.sl 1 z5 x6 e7]), (5, IV.dbox 39 0 [D.sl 2 z8 x9 e10, D.sl 1 z11 x12 e13, D.sl 2 z14 x15 e16]), (7, IV.ptr 39 0 [IV.own z17 35 2 x18, IV.own z19 23 1 x20, IV.own z21 35 2 x22]), (8, IV.d (D.int IntKind.i64 i23)), (10, IV.ptr 39 0 [IV.own (z24 && false) 35 2 (x25 ++ [D.agg (D.cells (D.agg (List.take 2 (List.drop 0 (D.cells (D.agg [D.bool w0, D.sl 1 w1 w2 w3]))))))]), IV.d (D.sl 1 z26 x27 e28), IV.d (D.sl 2 z29 x30 e31)]), (11, IV.d (D.int IntKind.i64 i32)), (12, IV.d (D.int IntKind.i64 (IntKind.wrap IntKind.i64 (i33 + 1))))])) False) False))) (condW b4 (condW (decide ((↑(List.length w2) : Int) > 0)) (condW (decide ((↑(List.length x6) : Int) > 0)) (∃ w15, w2[0]? = some (D.int IntKind.i64 w15) ∧ ∃ w16, x6[0]? = some (D.int IntKind.i64 w16) ∧ condW (w15 == w16) (condW (decide (1 ≤ (↑(List.length x6) : Int))) (condW (decide (1 ≤ (↑(List.length w2) : Int))) (∃ w17 w18 w19 w20 w21 w22 w23, C 16 [IV.d (D.sl 4 z1 x2 e3), IV.d (D.sl 1 z5 (List.drop (Int.toNat 1) x6) []), IV.d (D.sl 1 w1 (List.drop (Int.toNat 1) w2) [])] = some (IV.tup [IV.own w17 94 2 w18, IV.d (D.bool w19), IV.d (D.int IntKind.i64 w20)], [IV.d w21, IV.d w22, IV.d w23]) ∧ condW w19 (∃ w24 w25, C 10 [IV.d (D.int IntKind.i64 w20)] = some (IV.d (D.int IntKind.i64 w24), [IV.d w25]) ∧ condW (w24 == 0) (Q (Out.norm [(0, IV.d (D.sl 4 z1 x2 e3)), (4, IV.dbox 35 0 [D.bool b4, D.sl 1 z5 x6 e7]), (5, IV.dbox 39 0 [D.sl 2 z8 x9 e10, D.sl 1 z11 x12 e13, D.sl 2 z14 x15 e16]), (7, IV.ptr 39 0 [IV.own z17 35 2 x18, IV.own z19 23 1 x20, IV.own z21 35 2 x22]), (8, IV.d (D.int IntKind.i64 i23)), (10, IV.ptr 39 0 [IV.own z24 35 2 x25, IV.d (D.sl 1 z26 x27 e28), IV.d (D.sl 2 z29 x30 e31)]), (11, IV.d (D.int IntKind.i64 (IntKind.wrap IntKind.i64 (i32 + 1)))), (12, IV.d (D.int IntKind.i64 (IntKind.wrap IntKind.i64 (i33 + 1))))])) (condW (decide (List.length x25 + (0 + 1) ≤ 9223372036854775807)) (condW (decide ((List.length x25 + (0 + 1)) * 32 ≤ 140737488355328)) (Q (Out.norm [(0, IV.d (D.sl 4 z1 x2 e3)), (4, IV.dbox 35 0 [D.bool b4, D.sl 1 z5 x6 e7]), (5, IV.dbox 39 0 [D.sl 2 z8 x9 e10, D.sl 1 z11 x12 e13, D.sl 2 z14 x15 e16]), (7, IV.ptr 39 0 [IV.own z17 35 2 x18, IV.own z19 23 1 x20, IV.own z21 35 2 x22]), (8, IV.d (D.int IntKind.i64 i23)), (10, IV.ptr 39 0 [IV.own (z24 && false) 35 2 (x25 ++ [D.agg (D.cells (D.agg (List.take 2 (List.drop 0 (D.cells (D.agg [D.bool w0, D.sl 1 w1 w2 w3]))))))]), IV.d (D.sl 1 z26 x27 e28), IV.d (D.sl 2 z29 x30 e31)]), (11, IV.d (D.int IntKind.i64 i32)), (12, IV.d (D.int IntKind.i64 (IntKind.wrap IntKind.i64 (i33 + 1))))])) False) False)) (condW (decide (List.length x25 + (0 + 1) ≤ 9223372036854775807)) (condW (decide ((List.length x25 + (0 + 1)) * 32 ≤ 140737488355328)) (Q (Out.norm [(0, IV.d (D.sl 4 z1 x2 e3)), (4, IV.dbox 35 0 [D.bool b4, D.sl 1 z5 x6 e7]), (5, IV.dbox 39 0 [D.sl 2 z8 x9 e10, D.sl 1 z11 x12 e13, D.sl 2 z14 x15 e16]), (7, IV.ptr 39 0 [IV.own z17 35 2 x18, IV.own z19 23 1 x20, IV.own z21 35 2 x22]), (8, IV.d (D.int IntKind.i64 i23)), (10, IV.ptr 39 0 [IV.own (z24 && false) 35 2 (x25 ++ [D.agg (D.cells (D.agg (List.take 2 (List.drop 0 (D.cells (D.agg [D.bool w0, D.sl 1 w1 w2 w3]))))))]), IV.d (D.sl 1 z26 x27 e28), IV.d (D.sl 2 z29 x30 e31)]), (11, IV.d (D.int IntKind.i64 i32)), (12, IV.d (D.int IntKind.i64 (IntKind.wrap IntKind.i64 (i33 + 1))))])) False) False)) False) False) (condW (decide (List.length x25 + (0 + 1) ≤ 9223372036854775807)) (condW (decide ((List.length x25 + (0 + 1)) * 32 ≤ 140737488355328)) (Q (Out.norm [(0, IV.d (D.sl 4 z1 x2 e3)), (4, IV.dbox 35 0 [D.bool b4, D.sl 1 z5 x6 e7]), (5, IV.dbox 39 0 [D.sl 2 z8 x9 e10, D.sl 1 z11 x12 e13, D.sl 2 z14 x15 e16]), (7, IV.ptr 39 0 [IV.own z17 35 2 x18, IV.own z19 23 1 x20, IV.own z21 35 2 x22]), (8, IV.d (D.int IntKind.i64 i23)), (10, IV.ptr 39 0 [IV.own (z24 && false) 35 2 (x25 ++ [D.agg (D.cells (D.agg (List.take 2 (List.drop 0 (D.cells (D.agg [D.bool w0, D.sl 1 w1 w2 w3]))))))]), IV.d (D.sl 1 z26 x27 e28), IV.d (D.sl 2 z29 x30 e31)]), (11, IV.d (D.int IntKind.i64 i32)), (12, IV.d (D.int IntKind.i64 (IntKind.wrap IntKind.i64 (i33 + 1))))])) False) False)) (condW (decide (List.length x25 + (0 + 1) ≤ 9223372036854775807)) (condW (decide ((List.length x25 + (0 + 1)) * 32 ≤ 140737488355328)) (Q (Out.norm [(0, IV.d (D.sl 4 z1 x2 e3)), (4, IV.dbox 35 0 [D.bool b4, D.sl 1 z5 x6 e7]), (5, IV.dbox 39 0 [D.sl 2 z8 x9 e10, D.sl 1 z11 x12 e13, D.sl 2 z14 x15 e16]), (7, IV.ptr 39 0 [IV.own z17 35 2 x18, IV.own z19 23 1 x20, IV.own z21 35 2 x22]), (8, IV.d (D.int IntKind.i64 i23)), (10, IV.ptr 39 0 [IV.own (z24 && false) 35 2 (x25 ++ [D.agg (D.cells (D.agg (List.take 2 (List.drop 0 (D.cells (D.agg [D.bool w0, D.sl 1 w1 w2 w3]))))))]), IV.d (D.sl 1 z26 x27 e28), IV.d (D.sl 2 z29 x30 e31)]), (11, IV.d (D.int IntKind.i64 i32)), (12, IV.d (D.int IntKind.i64 (IntKind.wrap IntKind.i64 (i33 + 1))))])) False) False)) (condW (decide (List.length x25 + (0 + 1) ≤ 9223372036854775807)) (condW (decide ((List.length x25 + (0 + 1)) * 32 ≤ 140737488355328)) (Q (Out.norm [(0, IV.d (D.sl 4 z1 x2 e3)), (4, IV.dbox 35 0 [D.bool b4, D.sl 1 z5 x6 e7]), (5, IV.dbox 39 0 [D.sl 2 z8 x9 e10, D.sl 1 z11 x12 e13, D.sl 2 z14 x15 e16]), (7, IV.ptr 39 0 [IV.own z17 35 2 x18, IV.own z19 23 1 x20, IV.own z21 35 2 x22]), (8, IV.d (D.int IntKind.i64 i23)), (10, IV.ptr 39 0 [IV.own (z24 && false) 35 2 (x25 ++ [D.agg (D.cells (D.agg (List.take 2 (List.drop 0 (D.cells (D.agg [D.bool w0, D.sl 1 w1 w2 w3]))))))]), IV.d (D.sl 1 z26 x27 e28), IV.d (D.sl 2 z29 x30 e31)]), (11, IV.d (D.int IntKind.i64 i32)), (12, IV.d (D.int IntKind.i64 (IntKind.wrap IntKind.i64 (i33 + 1))))])) False) False)) (condW (decide (List.length x25 + (0 + 1) ≤ 9223372036854775807)) (condW (decide ((List.length x25 + (0 + 1)) * 32 ≤ 140737488355328)) (Q (Out.norm [(0, IV.d (D.sl 4 z1 x2 e3)), (4, IV.dbox 35 0 [D.bool b4, D.sl 1 z5 x6 e7]), (5, IV.dbox 39 0 [D.sl 2 z8 x9 e10, D.sl 1 z11 x12 e13, D.sl 2 z14 x15 e16]), (7, IV.ptr 39 0 [IV.own z17 35 2 x18, IV.own z19 23 1 x20, IV.own z21 35 2 x22]), (8, IV.d (D.int IntKind.i64 i23)), (10, IV.ptr 39 0 [IV.own (z24 && false) 35 2 (x25 ++ [D.agg (D.cells (D.agg (List.take 2 (List.drop 0 (D.cells (D.agg [D.bool w0, D.sl 1 w1 w2 w3]))))))]), IV.d (D.sl 1 z26 x27 e28), IV.d (D.sl 2 z29 x30 e31)]), (11, IV.d (D.int IntKind.i64 i32)), (12, IV.d (D.int IntKind.i64 (IntKind.wrap IntKind.i64 (i33 + 1))))])) False) False))) False) (Q (Out.exit 0 [(0, IV.d (D.sl 4 z1 x2 e3)), (4, IV.dbox 35 0 [D.bool b4, D.sl 1 z5 x6 e7]), (5, IV.dbox 39 0 [D.sl 2 z8 x9 e10, D.sl 1 z11 x12 e13, D.sl 2 z14 x15 e16]), (7, IV.ptr 39 0 [IV.own z17 35 2 x18, IV.own z19 23 1 x20, IV.own z21 35 2 x22]), (8, IV.d (D.int IntKind.i64 i23)), (10, IV.ptr 39 0 [IV.own z24 35 2 x25, IV.d (D.sl 1 z26 x27 e28), IV.d (D.sl 2 z29 x30 e31)]), (11, IV.d (D.int IntKind.i64 i32)), (12, IV.d (D.int IntKind.i64 i33))]))) := by kernel_rfl
end Go.Proofs.YtollbcdhmnnjeaaDoor.Ab

/- Chapter 16's law SimpCuts: for every input the law returns true. No condition. -/
set_option linter.unusedVariables false
set_option linter.unusedSimpArgs false
set_option maxRecDepth 100000
namespace Go.Proofs.YtollbcdhmnnjeaaDoor.Ab
open Go Go.Ab Go.Qu Go.Proofs
attribute [local simp] and_assoc
theorem filter_len {p : LitR → Bool} : ∀ (ls : List LitR), (ls.filter p).length ≤ ls.length := fun ls => List.length_filter_le p ls
theorem lenI_filter {p : LC → Bool} : ∀ (ls : List LC), lenI ((ls.filter p).map (·.2)) ≤ lenI (ls.map (·.2))
  | [] => by simp [lenI]
  | l :: ls => by
    have ih := lenI_filter (p := p) ls
    rw [List.filter_cons]
    split
    · simp [lenI]; omega
    · simp [lenI]; omega
theorem ok_filter {g : List Sym} {c : CC} (h : ClOk g c) (p : LC → Bool) : ClOk g ⟨c.ls.filter p, c.ts, c.cs⟩ where
  sg := h.sg
  l5 := Nat.le_trans (List.length_filter_le p c.ls) h.l5
  t3 := h.t3
  c3 := h.c3
  la := fun l hl => h.la l (List.mem_filter.1 hl).1
  tr := h.tr
  ca := h.ca
  sum := by
    have h1 := h.sum
    simp only [CC.rows, lenI_app] at h1 ⊢
    have h2 := lenI_filter (p := p) c.ls
    omega
/-- The Lits that stay. -/
def keptL (g : List Sym) (un : Bool) (ua : List Int) (ls : List LitR) : List LitR := ls.filter fun l => !cutB g un ua l
def cutC (g : List Sym) (un : Bool) (ua : List Int) (c : Cl) : Cl := ⟨(c.ls.map cpL).isEmpty, keptL g un ua (c.ls.map cpL), [], (c.ts.map cpR).isEmpty, c.ts.map cpR, [], (c.cs.map cpL).isEmpty, c.cs.map cpL, []⟩
def keptC (g : List Sym) (un : Bool) (ua : List Int) (c : Cl) : Cl := ⟨(keptL g un ua c.ls).isEmpty, keptL g un ua c.ls, [], c.tz, c.ts, c.te, c.cz, c.cs, c.ce⟩
def cutP (g : List Sym) (un : Bool) (ua : List Int) (l : LC) : Bool := (l.1 != un) && okB g (fun _ => none) ua l.2
theorem kept_c (g : List Sym) (un : Bool) (ua : List Int) (ls : List LitR) : (keptL g un ua ls).map LitR.c = (ls.map LitR.c).filter fun l => !cutP g un ua l := by
  unfold keptL
  rw [List.filter_map]
  rfl
theorem cpL_c (ls : List LitR) : (ls.map cpL).map LitR.c = ls.map LitR.c := by rw [List.map_map]; rfl
theorem cpR_c (ts : List Row) : (ts.map cpR).map (·.l) = ts.map (·.l) := by rw [List.map_map]; rfl
theorem keptC_c (g : List Sym) (un : Bool) (ua : List Int) (c : Cl) : (keptC g un ua c).c = ⟨c.c.ls.filter fun l => !cutP g un ua l, c.c.ts, c.c.cs⟩ := by
  unfold keptC Cl.c; dsimp only; rw [kept_c]
theorem cutC_c (g : List Sym) (un : Bool) (ua : List Int) (c : Cl) : (cutC g un ua c).c = (keptC g un ua c).c := by
  rw [keptC_c]; unfold cutC Cl.c; dsimp only; rw [kept_c, cpL_c, cpL_c, cpR_c]
theorem keptC_ok {g : List Sym} {un : Bool} {ua : List Int} {c : Cl} (h : clB g c = true) : clB g (keptC g un ua c) = true := by
  rw [clB_c] at h ⊢
  rw [keptC_c]
  exact clOk.2 (ok_filter (clOk.1 h) _)
theorem cutC_ok {g : List Sym} {un : Bool} {ua : List Int} {c : Cl} (h : clB g c = true) : clB g (cutC g un ua c) = true := by
  rw [clB_c, cutC_c, ← clB_c]; exact keptC_ok h
theorem keptC_nil {g : List Sym} {un : Bool} {ua : List Int} {c : Cl} (h : NilC c) : NilC (keptC g un ua c) := fun r hr hz => by
  refine h r ?_ hz
  simp only [rowsOf, keptC, keptL, List.mem_append, List.mem_map, List.mem_filter] at hr ⊢
  rcases hr with (⟨l, ⟨hl, _⟩, rfl⟩ | hr) | hr
  · exact .inl (.inl ⟨l, hl, rfl⟩)
  · exact .inl (.inr hr)
  · exact .inr hr
theorem cutC_nil {g : List Sym} {un : Bool} {ua : List Int} {c : Cl} (h : NilC c) : NilC (cutC g un ua c) := fun r hr hz => by
  simp only [rowsOf, cutC, keptL, List.mem_append, List.mem_map, List.mem_filter] at hr
  rcases hr with (⟨l, ⟨⟨m, hm, rfl⟩, _⟩, rfl⟩ | ⟨m, hm, rfl⟩) | ⟨l, ⟨m, hm, rfl⟩, rfl⟩
  · exact h m.r (by simp only [rowsOf, List.mem_append, List.mem_map]; exact .inl (.inl ⟨m, hm, rfl⟩)) hz
  · exact h m (by simp only [rowsOf, List.mem_append]; exact .inl (.inr hm)) hz
  · exact h m.r (by simp only [rowsOf, List.mem_append, List.mem_map]; exact .inr ⟨m, hm, rfl⟩) hz
theorem lit_nil {c : Cl} (h : NilC c) {l : LitR} (hl : l ∈ c.ls) : l.r.z = true → l.r.l = [] := fun hz => h l.r (by simp only [rowsOf, List.mem_append, List.mem_map]; exact .inl (.inl ⟨l, hl, rfl⟩)) hz
theorem lit_atom {g : List Sym} {c : Cl} (h : clB g c = true) {l : LitR} (hl : l ∈ c.ls) : atomB g l.r.l = true := by
  rw [clB_c] at h
  exact (clOk.1 h).la l.c (by simp only [Cl.c]; exact List.mem_map_of_mem hl)
theorem w_cut (z : Bool) (g : List Sym) (e : List D) (un uz : Bool) (ua : List Int) (ue : List D) {c : Cl} (hn : NilC c) :
    C 15 [iG z g e, iLit un uz ua ue, iC c] = some (if (atomB g ua && clB g c) = true then .tup [oC (anewC (cutC g un ua c)), iI ((c.ls.length - (keptL g un ua c.ls).length : Nat) : Int), iI 0] else .tup [.d (.agg [.sl 2 true [] [], .sl 1 true [] [], .sl 2 true [] []]), iI 0, iI 1600], [iG z g e, iLit un uz ua ue, iC c]) := by
  refine wfn (lk := []) rfl rfl (fnW_way (q15 _ _ z (syms g) e un uz (ints ua) ue c.lz (lits c.ls) c.le c.tz (rws c.ts) c.te c.cz (lits c.cs) c.ce _) ?_)
  refine ⟨_, _, _, w_litmay z g e un uz ua ue, ?_⟩
  cases ha : atomB g ua with
  | false => exact condW_f rfl rfl
  | true =>
    refine condW_t rfl ⟨_, _, _, w_clmay z g e c, ?_⟩
    cases hc : clB g c with
    | false => exact condW_f rfl rfl
    | true =>
      have hr := clRow_of hc hn
      have hk := clOk.1 ((clB_c g c).symm.trans hc)
      have hg := sigOk hk.sg
      have hua := atom_codes ha
      have hl5 : c.ls.length ≤ 5 := by have := hk.l5; simpa [Cl.c] using this
      have hdel := w_delete hg z e un uz ue (ua := ua) (by omega) (fun x hx => (hua.2.1 x hx).1) (ls := c.ls.map cpL) (by simp; omega) (fun l hl => by
        obtain ⟨m, hm, rfl⟩ := List.mem_map.1 hl
        have h1 := atom_codes (lit_atom hc hm)
        exact ⟨by have := h1.1; simp only [cpL]; omega, fun hz => (show m.r.l = [] from lit_nil (l := m) hn hm hz)⟩) (c.ls.map cpL).isEmpty
      have hnm := w_normal z g e (cutC_nil (g := g) (un := un) (ua := ua) hn)
      rw [if_pos (cutC_ok hc)] at hnm
      refine condW_t rfl ⟨_, _, _, _, _, _, _, w_clcopy hr, _, _, _, _, _, _, _, _, _, hdel, .inl ⟨_, _, _, _, _, _, _, _, _, hnm, ?_⟩⟩
      have hlen : (List.filter (fun l => !cutB g un ua l) (c.ls.map cpL)).length = (keptL g un ua c.ls).length := by
        have h1 := congrArg List.length (kept_c g un ua (c.ls.map cpL))
        have h2 := congrArg List.length (kept_c g un ua c.ls)
        rw [cpL_c] at h1
        rw [List.length_map] at h1 h2
        rw [h2]; exact h1
      have hle := filter_len (p := fun l => !cutB g un ua l) c.ls
      have hw : IntKind.wrap .i64 (((lits c.ls).length : Int) - ((lits (List.filter (fun l => !cutB g un ua l) (c.ls.map cpL))).length : Int)) = ((c.ls.length - (keptL g un ua c.ls).length : Nat) : Int) := by
        rw [lits_len, lits_len, hlen, wr _ (by unfold keptL; omega) (by omega)]
        unfold keptL; omega
      rw [hw]; rfl
theorem w_match {g : List Sym} (z za zb : Bool) (e ea eb : List D) {a b : List Int} (ha : rowB g a = true) (hb : rowB g b = true) (hz : zb = true → b = []) :
    ∃ zl xs, C 16 [iG z g e, iS za a ea, iS zb b eb] = some (.tup [.own zl 94 2 xs, iB (okB g (fun _ => none) a b), iI 0], [iG z g e, iS za a ea, iS zb b eb]) := by
  have h1 := w_isrow z za g e ea a
  have h2 := w_isrow z zb g e eb b
  rw [ha] at h1; rw [hb] at h2
  obtain ⟨hs, la, _⟩ := rowB_parts ha
  obtain ⟨_, lb, _⟩ := rowB_parts hb
  have hgr := w_mgrow (sigOk hs) z za zb e ea eb (a := a) (b := b) (by omega) (by omega) hz (fun c hc => (row_codes ha c hc).1) (s := fun _ => none) (fun v t h => by cases h)
  unfold okB
  cases hu : growF g (fun _ => none) a b with
  | none =>
    rw [hu] at hgr
    refine ⟨true, [], wfn (lk := []) rfl rfl (fnW_way (q16 _ _ z (syms g) e za (ints a) ea zb (ints b) eb _) ⟨_, _, _, h1, condW_t rfl ⟨_, _, _, h2, condW_t rfl ?_⟩⟩)⟩
    rw [bN_eq]
    exact ⟨_, _, _, _, _, hgr, condW_f rfl rfl⟩
  | some u =>
    rw [hu, grow_to hu] at hgr
    have hok := list_ok hu (n := 48) lb
    have hml := w_mlist (u := u) (fun v t h => by have := hok v t h; omega)
    refine ⟨(listF u 24 0).isEmpty, bds (listF u 24 0), wfn (lk := []) rfl rfl (fnW_way (q16 _ _ z (syms g) e za (ints a) ea zb (ints b) eb _) ⟨_, _, _, h1, condW_t rfl ⟨_, _, _, h2, condW_t rfl ?_⟩⟩)⟩
    rw [bN_eq]
    exact ⟨_, _, _, _, _, hgr, condW_t rfl ⟨_, _, _, hml, rfl⟩⟩
/-- A Lit that goes: heads alike, and the rest matches. -/
theorem cut_atom {g : List Sym} {un : Bool} {p q : Int} {a b : List Int} (hp : 0 ≤ p) {l : LitR} (hl : l.r.l = q :: b) : cutB g un (p :: a) l = ((l.neg != un) && (decide (q = p) && okB g (fun _ => none) a b)) := by
  unfold cutB okB
  rw [hl, growF, if_neg (by simp), if_pos hp]
  simp only [List.head?_cons, List.tail_cons, Option.some.injEq]
  by_cases e : q = p
  · rw [if_pos e, decide_eq_true e]; simp
  · rw [if_neg e, decide_eq_false e]; simp
theorem atom_cons {g : List Sym} {a : List Int} (h : atomB g a = true) : ∃ p r, a = p :: r ∧ 0 ≤ p ∧ rowB g r = true := by
  cases a with
  | nil => simp [atomB] at h
  | cons p r =>
    have hs := atom_sig h
    refine ⟨p, r, rfl, ?_, ?_⟩
    · unfold atomB at h
      dsimp only at h
      split at h
      · cases h
      · omega
    · unfold atomB at h
      dsimp only at h
      split at h
      · cases h
      · split at h
        · cases h
        · simp only [Bool.and_eq_true] at h
          have h2 := h.2
          unfold rowB
          rw [hs]
          split at h2
          · rename_i ts hts; rw [hts]; rfl
          · cases h2
abbrev bU (un uz : Bool) (ua : List Int) : IV := .dbox 35 0 [.bool un, .sl 1 uz (ints ua) []]
abbrev bX (x : Cl) : IV := .ptr 39 0 [.own x.lz 35 2 (lits x.ls), .own x.tz 23 1 (rws x.ts), .own x.cz 35 2 (lits x.cs)]
abbrev bK (ks : List LitR) (c : Cl) : IV := .ptr 39 0 [.own ks.isEmpty 35 2 (lits ks), .d (.sl 1 c.tz (rws c.ts) c.te), .d (.sl 2 c.cz (lits c.cs) c.ce)]
theorem l_cuts (z : Bool) {g : List Sym} (un uz : Bool) {ua : List Int} (ha : atomB g ua = true) (huz : uz = true → ua = []) {c : Cl} (hc : clB g c = true) (hn : NilC c) (x : Cl) (k : Int) (st : List LitR × Nat × Nat)
    (hst : st.2.2 ≤ c.ls.length ∧ st.1.length + st.2.1 = st.2.2 ∧ st.1 = keptL g un ua (c.ls.take st.2.2)) :
    evP F (Go.Ab.W F) (JW F d6 []) d6 [] [1,1,1,1,1,1,1,1,0,1] [(0, iG z g []), (4, bU un uz ua), (5, bC c), (7, bX x), (8, iI k), (10, bK st.1 c), (11, iI st.2.1), (12, iI st.2.2)] = some (.norm [(0, iG z g []), (4, bU un uz ua), (5, bC c), (7, bX x), (8, iI k), (10, bK (keptL g un ua c.ls) c), (11, iI ((c.ls.length - (keptL g un ua c.ls).length : Nat) : Int)), (12, iI c.ls.length)]) :=
  blk_fun (F := F) (d := d6) (lk := []) (p := [1,1,1,1,1,1,1,1,0,1,0,0]) (p0 := [1,1,1,1,1,1,1,1,0,1]) (id := 0) (by kernel_rfl) (st := fun (st : List LitR × Nat × Nat) => [(0, iG z g []), (4, bU un uz ua), (5, bC c), (7, bX x), (8, iI k), (10, bK st.1 c), (11, iI st.2.1), (12, iI st.2.2)]) (I := fun st => st.2.2 ≤ c.ls.length ∧ st.1.length + st.2.1 = st.2.2 ∧ st.1 = keptL g un ua (c.ls.take st.2.2)) (μ := fun st => c.ls.length - st.2.2)
    (res := fun _ => .norm [(0, iG z g []), (4, bU un uz ua), (5, bC c), (7, bX x), (8, iI k), (10, bK (keptL g un ua c.ls) c), (11, iI ((c.ls.length - (keptL g un ua c.ls).length : Nat) : Int)), (12, iI c.ls.length)])
    (fun st hst => by
      obtain ⟨ks, m, i⟩ := st
      obtain ⟨h1, h2, h3⟩ := hst
      dsimp only at h1 h2 h3
      have hk := clOk.1 ((clB_c g c).symm.trans hc)
      have hl5 : c.ls.length ≤ 5 := by have := hk.l5; simpa [Cl.c] using this
      by_cases hi : i < c.ls.length
      rotate_left
      · have e0 : i = c.ls.length := by omega
        subst e0
        refine .stop (.exit 0 [(0, iG z g []), (4, bU un uz ua), (5, bC c), (7, bX x), (8, iI k), (10, bK ks c), (11, iI m), (12, iI c.ls.length)]) (wpQ_way (q6_l0a _ _ z (syms g) [] un uz (ints ua) [] c.lz (lits c.ls) c.le c.tz (rws c.ts) c.te c.cz (lits c.cs) c.ce x.lz (lits x.ls) x.tz (rws x.ts) x.cz (lits x.cs) k ks.isEmpty (lits ks) c.tz (rws c.ts) c.te c.cz (lits c.cs) c.ce m c.ls.length _) (by simp [lits_len])) rfl ?_
        rw [List.take_length] at h3
        rw [← h3]
        have : c.ls.length - ks.length = m := by omega
        rw [this]; rfl
      obtain ⟨l, hl⟩ := at_lt hi
      have hlm := List.mem_of_getElem? hl
      have htk : c.ls.take (i + 1) = c.ls.take i ++ [l] := by rw [List.take_add_one, hl]; rfl
      have hkk : keptL g un ua (c.ls.take (i + 1)) = ks ++ keptL g un ua [l] := by
        rw [htk]; unfold keptL; rw [List.filter_append]; rw [h3]; rfl
      have hla := lit_atom hc hlm
      obtain ⟨p, a, rfl, hp, har⟩ := atom_cons ha
      obtain ⟨q, b, hlq, hq, hbr⟩ := atom_cons hla
      have hcut := cut_atom (g := g) (un := un) (q := q) (a := a) (b := b) hp hlq
      have hlz : l.r.z = false := by
        cases hz : l.r.z with
        | false => rfl
        | true => have := lit_nil hn hlm hz; rw [hlq] at this; cases this
      have huz' : uz = false := by
        cases uz with
        | false => rfl
        | true => cases huz rfl
      obtain ⟨zl, xs, hm⟩ := w_match z uz l.r.z [] [] [] har hbr (fun hz => by rw [hlz] at hz; cases hz)
      have hi' : (i : Int) < c.ls.length := by omega
      have hw1 := wr1 hi (show c.ls.length ≤ 9223372036854775807 by omega)
      have hw2 := wr1 (show m < c.ls.length by omega) (show c.ls.length ≤ 9223372036854775807 by omega)
      have hat := lits_at hl
      rw [hlq, ints_cons] at hat
      have hx0 : (ints (p :: a))[0]? = some (.int .i64 p) := rfl
      have hlk : (lits ks).length = ks.length := lits_len ks
      have k1 : ks.length + (0 + 1) ≤ 9223372036854775807 := by omega
      have k2 : (ks.length + (0 + 1)) * 32 ≤ 140737488355328 := by omega
      have k1' : ks.length + 1 ≤ 9223372036854775807 := by omega
      have k2' : (ks.length + 1) * 32 ≤ 140737488355328 := by omega
      have happ : lits (ks ++ [l]) = lits ks ++ [.agg [.bool l.neg, .sl 1 l.r.z (.int .i64 q :: ints b) l.r.e]] := by
        rw [lits_append, lits_cons, lits_nil, hlq, ints_cons]
      have hem : (ks ++ [l]).isEmpty = false := by simp
      cases hcq : cutB g un (p :: a) l with
      | true =>
        rw [hcq] at hcut
        have hcut := hcut.symm
        simp only [Bool.and_eq_true, decide_eq_true_eq] at hcut
        obtain ⟨hne, rfl, hok⟩ := hcut
        rw [hok] at hm
        refine .go (ks, m + 1, i + 1) (wpQ_way (q6_l0a _ _ z (syms g) [] un uz (ints (q :: a)) [] c.lz (lits c.ls) c.le c.tz (rws c.ts) c.te c.cz (lits c.cs) c.ce x.lz (lits x.ls) x.tz (rws x.ts) x.cz (lits x.cs) k ks.isEmpty (lits ks) c.tz (rws c.ts) c.te c.cz (lits c.cs) c.ce m i _) ?_) ⟨hi, by dsimp only; omega, ?_⟩ (by dsimp only; omega) rfl
        · refine condW_t (by rw [lits_len]; simp; omega) (condW_t (by simp) ⟨_, _, _, _, by rw [Int.toNat_natCast]; exact hat, ?_⟩)
          dsimp only
          rw [hw1, hw2]
          cases hln : l.neg <;> cases hun : un <;> rw [hln, hun] at hne <;> first | (cases hne; done) | skip
          · exact condW_f rfl (condW_t rfl (condW_t (by simp [ints_len] <;> omega) (condW_t (by simp [ints_len] <;> omega) ⟨_, rfl, _, hx0, condW_t (by simp) (condW_t (by simp [ints_len] <;> omega) (condW_t (by simp <;> omega) ⟨_, _, _, _, _, _, _, hm, condW_t rfl ⟨_, _, w_num _, condW_t rfl rfl⟩⟩))⟩)))
          · exact condW_t rfl (condW_f rfl (condW_t (by simp [ints_len] <;> omega) (condW_t (by simp [ints_len] <;> omega) ⟨_, rfl, _, hx0, condW_t (by simp) (condW_t (by simp [ints_len] <;> omega) (condW_t (by simp <;> omega) ⟨_, _, _, _, _, _, _, hm, condW_t rfl ⟨_, _, w_num _, condW_t rfl rfl⟩⟩))⟩)))
        · rw [hkk]; simp [keptL, hcq]
      | false =>
        refine .go (ks ++ [l], m, i + 1) (wpQ_way (q6_l0a _ _ z (syms g) [] un uz (ints (p :: a)) [] c.lz (lits c.ls) c.le c.tz (rws c.ts) c.te c.cz (lits c.cs) c.ce x.lz (lits x.ls) x.tz (rws x.ts) x.cz (lits x.cs) k ks.isEmpty (lits ks) c.tz (rws c.ts) c.te c.cz (lits c.cs) c.ce m i _) ?_) ⟨hi, by simp; omega, ?_⟩ (by dsimp only; omega) rfl
        · refine condW_t (by rw [lits_len]; simp; omega) (condW_t (by simp) ⟨_, _, _, _, by rw [Int.toNat_natCast]; exact hat, ?_⟩)
          dsimp only
          rw [hw1, hlk]
          have fin : ∀ {A : Prop}, A → condW (decide (ks.length + (0 + 1) ≤ 9223372036854775807)) (condW (decide ((ks.length + (0 + 1)) * 32 ≤ 140737488355328)) A False) False := fun hA => condW_t (decide_eq_true k1) (condW_t (decide_eq_true k2) hA)
          rw [hcq] at hcut
          cases hln : l.neg <;> cases hun : un <;> rw [hln, hun] at hcut
          · exact condW_f rfl (condW_f rfl (fin (by simp [D.cells, happ, hln, hun])))
          · refine condW_f rfl (condW_t rfl (condW_t (by simp [ints_len] <;> omega) (condW_t (by simp [ints_len] <;> omega) ⟨_, rfl, _, hx0, ?_⟩)))
            by_cases hqp : q = p
            · have hok : okB g (fun _ => none) a b = false := by simpa [hqp] using hcut.symm
              rw [hok] at hm
              exact condW_t (by simp [hqp]) (condW_t (by simp [ints_len] <;> omega) (condW_t (by simp <;> omega) ⟨_, _, _, _, _, _, _, hm, condW_f rfl (fin (by simp [D.cells, happ, hln, hun]))⟩))
            · exact condW_f (by simpa using hqp) (fin (by simp [D.cells, happ, hln, hun]))
          · refine condW_t rfl (condW_f rfl (condW_t (by simp [ints_len] <;> omega) (condW_t (by simp [ints_len] <;> omega) ⟨_, rfl, _, hx0, ?_⟩)))
            by_cases hqp : q = p
            · have hok : okB g (fun _ => none) a b = false := by simpa [hqp] using hcut.symm
              rw [hok] at hm
              exact condW_t (by simp [hqp]) (condW_t (by simp [ints_len] <;> omega) (condW_t (by simp <;> omega) ⟨_, _, _, _, _, _, _, hm, condW_f rfl (fin (by simp [D.cells, happ, hln, hun]))⟩))
            · exact condW_f (by simpa using hqp) (fin (by simp [D.cells, happ, hln, hun]))
          · exact condW_t rfl (condW_t rfl (fin (by simp [D.cells, happ, hln, hun])))
        · rw [hkk]; simp [keptL, hcq]) st hst
theorem anew_in' {g : List Sym} {c : Cl} (h : clB g c = true) (hn : NilC c) : ClIn (anewC c) := by
  have := renum_len (clRow_once (clRow_of h hn))
  exact ⟨⟨by have := this.l5; unfold anewC; omega, this.ls⟩, by have := this.t3; unfold anewC; omega, this.ts, ⟨by have := this.c3; unfold anewC; omega, this.cs⟩⟩
theorem key_c' (c d : Cl) : clKey c = clKey d ↔ c.c = d.c := by
  unfold clKey Cl.c
  simp only [Prod.mk.injEq, CC.mk.injEq]
  exact Iff.rfl
theorem law_simpcuts (z : Bool) (g : List Sym) (un uz : Bool) (ua : List Int) (huz : uz = true → ua = []) {c : Cl} (hn : NilC c) :
    C 6 [iG z g [], iLit un uz ua [], iC c] = some (iB true, [iG z g [], iLit un uz ua [], iC c]) := by
  refine wfn (lk := []) rfl rfl (fnW_way (q6 _ _ z (syms g) [] un uz (ints ua) [] c.lz (lits c.ls) c.le c.tz (rws c.ts) c.te c.cz (lits c.cs) c.ce _) ?_)
  refine ⟨_, w_awake, condW_t rfl ?_⟩
  have h1 := w_cut z g [] un uz ua [] hn
  cases hb : (atomB g ua && clB g c) with
  | false =>
    rw [hb, if_neg (by simp)] at h1
    exact .inr ⟨_, _, _, _, _, h1, _, _, w_num _, condW_t rfl (condW_t rfl rfl)⟩
  | true =>
    rw [hb, if_pos rfl] at h1
    rw [Bool.and_eq_true] at hb
    obtain ⟨ha, hc⟩ := hb
    have h2 := l_cuts z un uz ha huz hc hn (anewC (cutC g un ua c)) ((c.ls.length - (keptL g un ua c.ls).length : Nat) : Int) ([], 0, 0) ⟨Nat.zero_le _, rfl, rfl⟩
    have h3 := w_normal z g [] (keptC_nil (g := g) (un := un) (ua := ua) hn)
    rw [if_pos (keptC_ok hc)] at h3
    have h4 := w_sameclause (anew_in' (cutC_ok (un := un) (ua := ua) hc) (cutC_nil (g := g) (un := un) (ua := ua) hn)) (anewC (keptC g un ua c))
    have hk : clKey (anewC (cutC g un ua c)) = clKey (anewC (keptC g un ua c)) := by
      rw [key_c', anew_c, anew_c, cutC_c]
    rw [decide_eq_true hk] at h4
    refine .inl ⟨_, _, _, _, _, _, _, _, _, _, _, h1, _, _, w_num _, condW_f rfl ?_⟩
    refine ⟨_, _, _, _, _, _, _, _, _, _, _, _, _, _, _, _, _, _, _, _, _, _, _, _, _, _, _, _, _, _, _, _, _, h2, .inl ⟨_, _, _, _, _, _, _, _, _, h3, _, _, w_num _, condW_t rfl ⟨_, _, _, h4, condW_t rfl (condW_t (by simp) rfl)⟩⟩⟩
theorem good_lit1 {n : Nat} {x : D} (h : Go.Ab.Good Tryd.prog (n + 3) 35 x) : ∃ un uz ua, x = .agg [.bool un, .sl 1 uz (ints ua) []] ∧ (uz = true → ua = []) := by
  unfold Go.Ab.Good at h
  rw [Tryd.underlying35] at h
  obtain ⟨ys, rfl, y0, r0, rfl, h0, y1, r1, rfl, h1, rfl⟩ := h
  unfold Go.Ab.Good at h0
  rw [Tryd.underlying4] at h0
  obtain ⟨b, rfl⟩ := h0
  obtain ⟨uz, ua, rfl, k⟩ := good_row1 h1
  exact ⟨b, uz, ua, rfl, k⟩
theorem call_simpcuts (y0 y1 y2 : D) (g0 : Go.Ab.Good Tryd.prog 12 22 y0) (g1 : Go.Ab.Good Tryd.prog 12 35 y1) (g2 : Go.Ab.Good Tryd.prog 12 39 y2) : ∃ outs, C 6 [.d y0, .d y1, .d y2] = some (iB true, outs) := by
  obtain ⟨z, g, rfl⟩ := good_sig g0
  obtain ⟨un, uz, ua, rfl, h1⟩ := good_lit1 g1
  obtain ⟨c, rfl, _, hn⟩ := good_clauseN g2
  exact ⟨_, law_simpcuts z g un uz ua h1 hn⟩
end Go.Proofs.YtollbcdhmnnjeaaDoor.Ab
