/- What the rows of this seat share: the variable that is laid, the world in which it is so. No condition. -/
import Derived.Below
import Derived.ChangeOld
import Derived.LaidMore
import Derived.Lib.SmallJoins
import Derived.OpenShut
import Derived.ProofKit
import Derived.SevenTiedAt
import Derived.ShutString
import Derived.SizedLaws
import Derived.Stop.Joined
import Derived.Test.YtollbcdhmnnjeaaDoorCards
import Derived.Test.YtollbcdhmnnjeaaDoorRows
import Derived.Test.YtollbcdhmnnjeaaDoorTie
import Derived.WalkKit
import Derived.Test.YtollbcdhmnnjeaaDoorSimpRules0
import Derived.Test.YtollbcdhmnnjeaaDoorSimpRules1
import Derived.Test.YtollbcdhmnnjeaaDoorSimpRules2
import Derived.Test.YtollbcdhmnnjeaaDoorSimpRules3
import Derived.Test.YtollbcdhmnnjeaaDoorSimpRules4
import Derived.Test.YtollbcdhmnnjeaaDoorSimpRules5
import Derived.Test.YtollbcdhmnnjeaaDoorSimpRules6
import Derived.Test.YtollbcdhmnnjeaaDoorSimpRules7
import Derived.Test.YtollbcdhmnnjeaaDoorSimpRules8
import Derived.Test.YtollbcdhmnnjeaaDoorSimpRules9
import Derived.Test.YtollbcdhmnnjeaaDoorSimpRules10
import Derived.Test.YtollbcdhmnnjeaaDoorSimpRules11
import Derived.Test.YtollbcdhmnnjeaaDoorSimpRules12
import Derived.Test.YtollbcdhmnnjeaaDoorSimpRules13
import Derived.Test.YtollbcdhmnnjeaaDoorSimpRules14
namespace Go.Proofs.YtollbcdhmnnjeaaDoor.Ab
open Go Go.Ab Go.Qu Go.Proofs Go.ChangeShapes Go.WideShapes Go.ChangeAt Go.RowKit Go.Joins
set_option linter.unusedVariables false
set_option maxRecDepth 100000
theorem own : ownKnob Tryd.prog.godebug = none := by kernel_rfl
theorem laidOut : laidOutB Tryd.prog = true := by kernel_rfl
abbrev laid1 : List (String × DataW Unit) := [("quaere/sign.equals", Rows.laid_quaere_sign_equals)]
theorem gEq : Tryd.prog.globalNamed "quaere/sign.equals" = some 0 := by kernel_rfl
theorem tEq : (Tryd.prog.globals[0]?).map (·.type) = some 79 := by kernel_rfl
theorem door_met (os : Os) (args : Array Value) : laidMetH Tryd.prog laid1 ((World.doorLaid Tryd.prog 400 os).forCall (fun _ _ => 0) ⟨#[], args, []⟩).memory :=
  laidMetH_of_parts3 (fuel := 8) (laidMet_of_run' 8 (by kernel_rfl) (by kernel_rfl)) (by kernel_rfl) (by kernel_rfl)
theorem globs {W : World} (h : laidMetH Tryd.prog laid1 W) : GlobOk (Hw W) F.G := by
  rw [MakeChecks.laidMetH_plain _ _ _ (by kernel_rfl)] at h
  obtain ⟨ps, ⟨g0, t0, cs0, f0, p0, q0, hg0, ht0, hv0, hd0, _, _⟩, _, _⟩ := h
  obtain rfl := Option.some.inj (gEq.symm.trans hg0)
  obtain rfl := Option.some.inj (tEq.symm.trans ht0)
  obtain ⟨xs, n, _, hx, hlen, hxl, hf⟩ := DataW.trod_struct Tryd.underlying79 hd0
  have c1 : Tryd.prog.cellsOf 79 = 4 := by kernel_rfl
  have cs : Tryd.prog.cellsOf 9 = 1 := by kernel_rfl
  have ci : Tryd.prog.cellsOf 3 = 1 := by kernel_rfl
  rw [c1] at hlen
  have hx1 : xs.map (·.1) = [.lit (.string [61]), .lit (.int .i64 0), .lit (.int .i64 2), .lit (.int .i64 1)] := by
    simp only [Prod.mk.injEq] at hx
    have h9 := hx.1
    unfold Rows.laid_quaere_sign_equals at h9
    simp only [DataW.agg.injEq] at h9
    exact h9.symm
  have hcs : ∃ a b c d, cs0.toList = [a, b, c, d] := by
    match h : cs0.toList, hlen with
    | [a, b, c, d], _ => exact ⟨a, b, c, d, rfl⟩
  obtain ⟨a, b, c, d, hcs⟩ := hcs
  have hxs : ∃ x0 x1 x2 x3, xs = [x0, x1, x2, x3] := by
    match xs, hxl with
    | [x0, x1, x2, x3], _ => exact ⟨x0, x1, x2, x3, rfl⟩
  obtain ⟨x0, x1, x2, x3, rfl⟩ := hxs
  simp only [List.map_cons, List.map_nil, List.cons.injEq, and_true] at hx1
  obtain ⟨e0, e1, e2, e3⟩ := hx1
  have h0 : DataW.trod (fun _ => ()) Tryd.prog W 0 (fun _ => true) false n 9 ((cs0.toList.drop 0).take (Tryd.prog.cellsOf 9)) = some x0 := hf 0 _ rfl
  have h1 : DataW.trod (fun _ => ()) Tryd.prog W 0 (fun _ => true) false n 3 ((cs0.toList.drop 1).take (Tryd.prog.cellsOf 3)) = some x1 := hf 1 _ rfl
  have h2 : DataW.trod (fun _ => ()) Tryd.prog W 0 (fun _ => true) false n 3 ((cs0.toList.drop 2).take (Tryd.prog.cellsOf 3)) = some x2 := hf 2 _ rfl
  have h3 : DataW.trod (fun _ => ()) Tryd.prog W 0 (fun _ => true) false n 3 ((cs0.toList.drop 3).take (Tryd.prog.cellsOf 3)) = some x3 := hf 3 _ rfl
  rw [hcs, cs] at h0
  rw [hcs, ci] at h1 h2 h3
  obtain ⟨s, ha, hs, _⟩ := DataW.trod_string Tryd.underlying9 h0
  obtain ⟨n1, hb, hn1, _⟩ := DataW.trod_int Tryd.underlying3 h1
  obtain ⟨n2, hc, hn2, _⟩ := DataW.trod_int Tryd.underlying3 h2
  obtain ⟨n3, hd, hn3, _⟩ := DataW.trod_int Tryd.underlying3 h3
  simp at ha hb hc hd
  rw [hs] at e0; rw [hn1] at e1; rw [hn2] at e2; rw [hn3] at e3
  simp at e0 e1 e2 e3
  subst ha hb hc hd e1 e2 e3
  have hse : s = "=".toUTF8 := by
    have h5 : "=".toUTF8.data.toList = [61] := by decide +kernel
    have h6 : s.data = "=".toUTF8.data := Array.toList_inj.1 (e0.trans h5.symm)
    exact (show ∀ (x y : ByteArray), x.data = y.data → x = y by intro ⟨_⟩ ⟨_⟩ h; exact congrArg _ h) _ _ h6
  subst hse
  have hcell : ∀ (j : Nat) u, [Value.string "=".toUTF8, .int .i64 0, .int .i64 2, .int .i64 1][j]? = some u → W.cell? ⟨0, j, none⟩ = some u := fun j u hj => by
    have h7 := World.var?_cell hg0 hv0 j
    have h8 : cs0[j]? = some u := by rw [← Array.getElem?_toList, hcs]; exact hj
    rw [h8] at h7
    simpa using h7
  intro g cs hg
  simp only [F, List.map_cons, List.map_nil, assoc] at hg
  split at hg
  · rename_i hg0
    subst hg0
    simp only [Option.some.injEq] at hg
    subst hg
    refine ⟨[.string "=".toUTF8, .int .i64 0, .int .i64 2, .int .i64 1], ?_, fun j u hj => ?_, by simp [D.isAgg]⟩
    · unfold D.RepL; refine ⟨[_], _, rfl, by unfold D.Rep; rfl, ?_⟩
      unfold D.RepL; refine ⟨[_], _, rfl, by unfold D.Rep; rfl, ?_⟩
      unfold D.RepL; refine ⟨[_], _, rfl, by unfold D.Rep; rfl, ?_⟩
      unfold D.RepL; refine ⟨[_], [], rfl, by unfold D.Rep; rfl, ?_⟩
      unfold D.RepL; rfl
    · refine Hw.cell ?_
      have h9 := hcell j u hj
      unfold Addr.add
      split
      · rename_i hj0; subst hj0; exact h9
      · simpa using h9
  · simp at hg
theorem fxOk : FxOk Tryd.prog F where
  orders := by kernel_rfl
  tab := tab_ok
  code := code_ok.get
  prim := primOk
  ins := insAll
/-! ### Arguments -/
theorem good_sym {n : Nat} {x : D} (h : Go.Ab.Good Tryd.prog (n + 2) 79 x) : ∃ s : Sym, x = s.d := by
  unfold Go.Ab.Good at h
  rw [Tryd.underlying79] at h
  obtain ⟨ys, rfl, y0, r0, rfl, h0, y1, r1, rfl, h1, y2, r2, rfl, h2, y3, r3, rfl, h3, rfl⟩ := h
  unfold Go.Ab.Good at h0 h1 h2 h3
  simp only [Tryd.underlying9, Tryd.underlying3] at h0 h1 h2 h3
  obtain ⟨s, rfl, _⟩ := h0
  obtain ⟨a, rfl, _⟩ := h1
  obtain ⟨b, rfl, _⟩ := h2
  obtain ⟨c, rfl, _⟩ := h3
  exact ⟨⟨s, a, b, c⟩, rfl⟩
theorem good_sig {n : Nat} {x : D} (h : Go.Ab.Good Tryd.prog (n + 3) 22 x) : ∃ z g, x = .sl 4 z (syms g) [] := by
  unfold Go.Ab.Good at h
  rw [Tryd.underlying22] at h
  obtain ⟨z, xs, rfl, _, h2, _⟩ := h
  have hc : Tryd.prog.cellsOf 79 = 4 := by kernel_rfl
  rw [hc]
  obtain ⟨g, rfl, _⟩ := all_map (f := Sym.d) (Q := fun _ => True) (fun y hy => by obtain ⟨s, hs⟩ := good_sym (h2 y hy); exact ⟨s, hs, trivial⟩)
  exact ⟨z, g, rfl⟩
theorem good_int {n : Nat} {x : D} (h : Go.Ab.Good Tryd.prog (n + 1) 3 x) : ∃ a : Int, x = .int .i64 a ∧ -9223372036854775808 ≤ a ∧ a ≤ 9223372036854775807 := by
  unfold Go.Ab.Good at h
  rw [Tryd.underlying3] at h
  obtain ⟨a, rfl, hw⟩ := h
  refine ⟨a, rfl, ?_⟩
  simp [Lit.wf, IntKind.min, IntKind.max, IntKind.bits, IntKind.signed] at hw
  omega
theorem good_ints {n : Nat} {x : D} (h : Go.Ab.Good Tryd.prog (n + 2) 23 x) : ∃ z l, x = .sl 1 z (ints l) [] ∧ Len l := by
  unfold Go.Ab.Good at h
  rw [Tryd.underlying23] at h
  obtain ⟨z, xs, rfl, h1, h2, _⟩ := h
  have hc : Tryd.prog.cellsOf 3 = 1 := by kernel_rfl
  have hb : Tryd.prog.bytesOf 3 = 8 := by kernel_rfl
  rw [hb] at h1
  rw [hc]
  obtain ⟨l, rfl, _⟩ := all_map (f := D.int .i64) (Q := fun _ => True) (fun y hy => by obtain ⟨a, ha, _⟩ := good_int (h2 y hy); exact ⟨a, ha, trivial⟩)
  rw [List.length_map] at h1
  exact ⟨z, l, rfl, by unfold Len; simpa [reachBytes] using h1⟩
theorem good_rows {n : Nat} {x : D} (h : Go.Ab.Good Tryd.prog (n + 3) 37 x) : ∃ z rs, x = .sl 1 z (rws rs) [] ∧ rs.length * 24 ≤ 140737488351232 ∧ ∀ r ∈ rs, Len r.l := by
  unfold Go.Ab.Good at h
  rw [Tryd.underlying37] at h
  obtain ⟨z, xs, rfl, h1, h2, _⟩ := h
  have hc : Tryd.prog.cellsOf 23 = 1 := by kernel_rfl
  have hb : Tryd.prog.bytesOf 23 = 24 := by kernel_rfl
  rw [hb] at h1
  rw [hc]
  obtain ⟨rs, rfl, h4⟩ := all_map (f := Row.d) (Q := fun r => Len r.l) (fun y hy => by obtain ⟨z, l, h, hl⟩ := good_ints (h2 y hy); exact ⟨⟨z, l, []⟩, h, hl⟩)
  rw [List.length_map] at h1
  exact ⟨z, rs, rfl, by simpa [reachBytes] using h1, h4⟩
end Go.Proofs.YtollbcdhmnnjeaaDoor.Ab

/- Literals, clauses as arguments. No condition. -/
set_option linter.unusedVariables false
set_option linter.unusedSimpArgs false
set_option maxRecDepth 100000
namespace Go.Proofs.YtollbcdhmnnjeaaDoor.Ab
open Go Go.Ab Go.Qu Go.Proofs
theorem good_lit {n : Nat} {x : D} (h : Go.Ab.Good Tryd.prog (n + 3) 35 x) : ∃ l : LitR, x = l.d ∧ Len l.r.l := by
  unfold Go.Ab.Good at h
  rw [Tryd.underlying35] at h
  obtain ⟨ys, rfl, y0, r0, rfl, h0, y1, r1, rfl, h1, rfl⟩ := h
  obtain ⟨z, l, rfl, hl⟩ := good_ints h1
  unfold Go.Ab.Good at h0
  rw [Tryd.underlying4] at h0
  obtain ⟨b, rfl⟩ := h0
  exact ⟨⟨b, ⟨z, l, []⟩⟩, rfl, hl⟩
theorem good_lits {n : Nat} {x : D} (h : Go.Ab.Good Tryd.prog (n + 4) 36 x) : ∃ z ls, x = .sl 2 z (lits ls) [] ∧ LitsIn ls := by
  unfold Go.Ab.Good at h
  rw [Tryd.underlying36] at h
  obtain ⟨z, xs, rfl, h1, h2, _⟩ := h
  have hc : Tryd.prog.cellsOf 35 = 2 := by kernel_rfl
  have hb : Tryd.prog.bytesOf 35 = 32 := by kernel_rfl
  rw [hb] at h1
  rw [hc]
  obtain ⟨ls, rfl, h4⟩ := all_map (f := LitR.d) (Q := fun l => Len l.r.l) (fun y hy => by obtain ⟨l, hl, hk⟩ := good_lit (h2 y hy); exact ⟨l, hl, hk⟩)
  rw [List.length_map] at h1
  exact ⟨z, ls, rfl, by simpa [reachBytes] using h1, h4⟩
theorem good_clause {n : Nat} {x : D} (h : Go.Ab.Good Tryd.prog (n + 5) 39 x) : ∃ c : Cl, x = c.d ∧ ClIn c := by
  unfold Go.Ab.Good at h
  rw [Tryd.underlying39] at h
  obtain ⟨ys, rfl, y0, r0, rfl, h0, y1, r1, rfl, h1, y2, r2, rfl, h2, rfl⟩ := h
  obtain ⟨lz, ls, rfl, hls⟩ := good_lits h0
  obtain ⟨tz, ts, rfl, hts, hr⟩ := good_rows h1
  obtain ⟨cz, cs, rfl, hcs⟩ := good_lits h2
  exact ⟨⟨lz, ls, [], tz, ts, [], cz, cs, []⟩, rfl, ⟨hls, hts, hr, hcs⟩⟩
end Go.Proofs.YtollbcdhmnnjeaaDoor.Ab

/- Arguments: rows that are nil have no codes. No condition. -/
set_option linter.unusedVariables false
set_option linter.unusedSimpArgs false
set_option maxRecDepth 100000
namespace Go.Proofs.YtollbcdhmnnjeaaDoor.Ab
open Go Go.Ab Go.Qu Go.Proofs
theorem good_nil {n : Nat} {z : Bool} {l : List Int} (h : Go.Ab.Good Tryd.prog (n + 1) 23 (.sl 1 z (ints l) [])) : z = true → l = [] := by
  unfold Go.Ab.Good at h
  rw [Tryd.underlying23] at h
  obtain ⟨z', xs, he, _, _, h⟩ := h
  simp only [D.sl.injEq] at he
  obtain ⟨_, rfl, rfl, _⟩ := he
  intro hz
  have := congrArg List.length (h hz)
  rw [ints_len] at this
  exact List.length_eq_zero_iff.1 this
theorem good_litnil {n : Nat} {l : LitR} (h : Go.Ab.Good Tryd.prog (n + 3) 35 l.d) (he : l.r.e = []) : l.r.z = true → l.r.l = [] := by
  unfold Go.Ab.Good at h
  rw [Tryd.underlying35] at h
  obtain ⟨ys, hy, y0, r0, rfl, h0, y1, r1, rfl, h1, rfl⟩ := h
  unfold Go.Ab.Good at h0
  rw [Tryd.underlying4] at h0
  obtain ⟨b, rfl⟩ := h0
  obtain ⟨z, m, rfl, _⟩ := good_ints h1
  have h2 := good_nil (n := n + 1) h1
  simp only [LitR.d, List.flatMap_cons, List.flatMap_nil, D.cells, List.cons_append, List.nil_append, List.append_nil, D.agg.injEq, List.cons.injEq, D.bool.injEq, D.sl.injEq, and_true, true_and] at hy
  obtain ⟨_, hz, hm, _⟩ := hy
  intro hz'
  have h3 := h2 (hz ▸ hz')
  rw [h3] at hm
  have := congrArg List.length hm
  rw [ints_len] at this
  exact List.length_eq_zero_iff.1 (by simpa [ints_nil] using this)
theorem good_clauseN {n : Nat} {x : D} (h : Go.Ab.Good Tryd.prog (n + 5) 39 x) : ∃ c : Cl, x = c.d ∧ ClIn c ∧ NilC c := by
  have h' := h
  unfold Go.Ab.Good at h
  rw [Tryd.underlying39] at h
  obtain ⟨ys, rfl, y0, r0, rfl, h0, y1, r1, rfl, h1, y2, r2, rfl, h2, rfl⟩ := h
  obtain ⟨lz, ls, rfl, hls⟩ := good_lits h0
  obtain ⟨tz, ts, rfl, hts, hr⟩ := good_rows h1
  obtain ⟨cz, cs, rfl, hcs⟩ := good_lits h2
  have hL : ∀ {z : Bool} {ls : List LitR}, Go.Ab.Good Tryd.prog (n + 4) 36 (.sl 2 z (lits ls) []) → ∀ l ∈ ls, l.r.z = true → l.r.l = [] := by
    intro z ls hg l hl
    unfold Go.Ab.Good at hg
    rw [Tryd.underlying36] at hg
    obtain ⟨z', xs, he, _, hx, _⟩ := hg
    simp only [D.sl.injEq] at he
    obtain ⟨_, _, rfl, _⟩ := he
    have h5 := hx l.d (List.mem_map.2 ⟨l, hl, rfl⟩)
    obtain ⟨m, hm, _⟩ := good_lit h5
    have h6 : l.r.z = m.r.z ∧ ints l.r.l = ints m.r.l ∧ l.r.e = m.r.e := by
      have := hm
      simp only [LitR.d, D.agg.injEq, List.cons.injEq, D.bool.injEq, D.sl.injEq, and_true, true_and] at this
      exact ⟨this.2.1, this.2.2.1, this.2.2.2⟩
    have h7 : l.r.e = [] := by
      unfold Go.Ab.Good at h5
      rw [Tryd.underlying35] at h5
      obtain ⟨ys, hy, y0, r0, rfl, k0, y1, r1, rfl, k1, rfl⟩ := h5
      obtain ⟨z2, l2, rfl, _⟩ := good_ints k1
      unfold Go.Ab.Good at k0
      rw [Tryd.underlying4] at k0
      obtain ⟨b, rfl⟩ := k0
      simp only [LitR.d, List.flatMap_cons, List.flatMap_nil, D.cells, List.cons_append, List.nil_append, List.append_nil, D.agg.injEq, List.cons.injEq, D.bool.injEq, D.sl.injEq, and_true, true_and] at hy
      exact hy.2.2.2
    exact good_litnil (n := n) h5 h7
  refine ⟨⟨lz, ls, [], tz, ts, [], cz, cs, []⟩, rfl, ⟨hls, hts, hr, hcs⟩, fun r hr' => ?_⟩
  simp only [rowsOf, List.mem_append, List.mem_map] at hr'
  rcases hr' with (⟨l, hl, rfl⟩ | hr') | ⟨l, hl, rfl⟩
  · exact hL h0 l hl
  · unfold Go.Ab.Good at h1
    rw [Tryd.underlying37] at h1
    obtain ⟨z', xs, he, _, hx, _⟩ := h1
    simp only [D.sl.injEq] at he
    obtain ⟨_, _, rfl, _⟩ := he
    have h5 := hx r.d (List.mem_map.2 ⟨r, hr', rfl⟩)
    obtain ⟨z2, l2, he2, _⟩ := good_ints h5
    have h6 : r.e = [] := by
      simp only [Row.d, D.sl.injEq, true_and] at he2
      exact he2.2.2
    have h7 : r.d = .sl 1 r.z (ints r.l) [] := by rw [← h6]; rfl
    rw [h7] at h5
    exact good_nil (n := n + 2) h5
  · exact hL h2 l hl
end Go.Proofs.YtollbcdhmnnjeaaDoor.Ab

/- Written by a program of this session (wip/tools/AbSym.lean). Not trusted: Lean checks it. -/
set_option maxRecDepth 100000
set_option linter.unusedVariables false
namespace Go.Proofs.YtollbcdhmnnjeaaDoor.Ab
open Go Go.Ab Go.Proofs
def L5 : Lps := fun b => match b with
  | _ => [.norm []]
theorem q5 (C J) (z1 : Bool) (x2 : List D) (e3 : List D) (z4 : Bool) (x5 : List D) (e6 : List D) (z7 : Bool) (x8 : List D) (e9 : List D) (z10 : Bool) (x11 : List D) (e12 : List D) (Q) : fnW F C R (L5) J d5 [.d (.sl 4 z1 x2 e3), .d (.agg [.sl 1 z4 x5 e6, .sl 1 z7 x8 e9]), .d (.sl 1 z10 x11 e12)] Q = (∃ w0, C 7 [] = some (IV.d (D.bool w0), []) ∧ condW w0 (∃ w1 w2 w3 w4 w5 w6 w7 w8, C 8 [IV.d (D.sl 4 z1 x2 e3), IV.d (D.agg [D.sl 1 z4 x5 e6, D.sl 1 z7 x8 e9]), IV.d (D.sl 1 z10 x11 e12)] = some (IV.tup [IV.d (D.sl 1 w1 w2 w3), IV.d (D.int IntKind.i64 w4), IV.d (D.int IntKind.i64 w5)], [IV.d w6, IV.d w7, IV.d w8]) ∧ ∃ w9 w10, C 10 [IV.d (D.int IntKind.i64 w5)] = some (IV.d (D.int IntKind.i64 w9), [IV.d w10]) ∧ condW (w9 != 0) (condW ((↑(List.length w2) : Int) == 0) (condW (w4 == 0) (Q (some (IV.d (D.bool true), [IV.d (D.sl 4 z1 x2 e3), IV.d (D.agg [D.sl 1 z4 x5 e6, D.sl 1 z7 x8 e9]), IV.d (D.sl 1 z10 x11 e12)]))) (Q (some (IV.d (D.bool false), [IV.d (D.sl 4 z1 x2 e3), IV.d (D.agg [D.sl 1 z4 x5 e6, D.sl 1 z7 x8 e9]), IV.d (D.sl 1 z10 x11 e12)])))) (Q (some (IV.d (D.bool false), [IV.d (D.sl 4 z1 x2 e3), IV.d (D.agg [D.sl 1 z4 x5 e6, D.sl 1 z7 x8 e9]), IV.d (D.sl 1 z10 x11 e12)])))) (∃ w11 w12 w13 w14 w15 w16 w17 w18, C 8 [IV.d (D.sl 4 z1 x2 e3), IV.d (D.agg [D.sl 1 z4 x5 e6, D.sl 1 z7 x8 e9]), IV.d (D.sl 1 w1 w2 w3)] = some (IV.tup [IV.d (D.sl 1 w11 w12 w13), IV.d (D.int IntKind.i64 w14), IV.d (D.int IntKind.i64 w15)], [IV.d w16, IV.d w17, IV.d w18]) ∧ ∃ w19 w20 w21 w22, C 14 [IV.d (D.sl 4 z1 x2 e3), IV.d (D.sl 1 z10 x11 e12)] = some (IV.tup [IV.d (D.int IntKind.i64 w19), IV.d (D.int IntKind.i64 w20)], [IV.d w21, IV.d w22]) ∧ ∃ w23 w24 w25 w26, C 14 [IV.d (D.sl 4 z1 x2 e3), IV.d (D.sl 1 w1 w2 w3)] = some (IV.tup [IV.d (D.int IntKind.i64 w23), IV.d (D.int IntKind.i64 w24)], [IV.d w25, IV.d w26]) ∧ ∃ w27 w28, C 10 [IV.d (D.int IntKind.i64 w15)] = some (IV.d (D.int IntKind.i64 w27), [IV.d w28]) ∧ condW (w27 == 0) (condW (w14 == 0) (∃ w29 w30 w31, C 13 [IV.d (D.sl 1 w1 w2 w3), IV.d (D.sl 1 w11 w12 w13)] = some (IV.d (D.bool w29), [IV.d w30, IV.d w31]) ∧ condW w29 (∃ w32 w33, C 10 [IV.d (D.int IntKind.i64 w20)] = some (IV.d (D.int IntKind.i64 w32), [IV.d w33]) ∧ condW (w32 == 0) (∃ w34 w35, C 10 [IV.d (D.int IntKind.i64 w24)] = some (IV.d (D.int IntKind.i64 w34), [IV.d w35]) ∧ condW (w34 == 0) (condW (decide (w23 ≤ w19)) (condW (decide (w4 > 0)) (condW (decide (w4 ≥ 0)) (condW (decide (w4 ≤ 100)) (Q (some (IV.d (D.bool true), [IV.d (D.sl 4 z1 x2 e3), IV.d (D.agg [D.sl 1 z4 x5 e6, D.sl 1 z7 x8 e9]), IV.d (D.sl 1 z10 x11 e12)]))) (Q (some (IV.d (D.bool false), [IV.d (D.sl 4 z1 x2 e3), IV.d (D.agg [D.sl 1 z4 x5 e6, D.sl 1 z7 x8 e9]), IV.d (D.sl 1 z10 x11 e12)])))) (Q (some (IV.d (D.bool false), [IV.d (D.sl 4 z1 x2 e3), IV.d (D.agg [D.sl 1 z4 x5 e6, D.sl 1 z7 x8 e9]), IV.d (D.sl 1 z10 x11 e12)])))) (∃ w36 w37 w38, C 13 [IV.d (D.sl 1 w1 w2 w3), IV.d (D.sl 1 z10 x11 e12)] = some (IV.d (D.bool w36), [IV.d w37, IV.d w38]) ∧ condW w36 (condW (decide (w4 ≥ 0)) (condW (decide (w4 ≤ 100)) (Q (some (IV.d (D.bool true), [IV.d (D.sl 4 z1 x2 e3), IV.d (D.agg [D.sl 1 z4 x5 e6, D.sl 1 z7 x8 e9]), IV.d (D.sl 1 z10 x11 e12)]))) (Q (some (IV.d (D.bool false), [IV.d (D.sl 4 z1 x2 e3), IV.d (D.agg [D.sl 1 z4 x5 e6, D.sl 1 z7 x8 e9]), IV.d (D.sl 1 z10 x11 e12)])))) (Q (some (IV.d (D.bool false), [IV.d (D.sl 4 z1 x2 e3), IV.d (D.agg [D.sl 1 z4 x5 e6, D.sl 1 z7 x8 e9]), IV.d (D.sl 1 z10 x11 e12)])))) (Q (some (IV.d (D.bool false), [IV.d (D.sl 4 z1 x2 e3), IV.d (D.agg [D.sl 1 z4 x5 e6, D.sl 1 z7 x8 e9]), IV.d (D.sl 1 z10 x11 e12)]))))) (Q (some (IV.d (D.bool false), [IV.d (D.sl 4 z1 x2 e3), IV.d (D.agg [D.sl 1 z4 x5 e6, D.sl 1 z7 x8 e9]), IV.d (D.sl 1 z10 x11 e12)])))) (Q (some (IV.d (D.bool false), [IV.d (D.sl 4 z1 x2 e3), IV.d (D.agg [D.sl 1 z4 x5 e6, D.sl 1 z7 x8 e9]), IV.d (D.sl 1 z10 x11 e12)])))) (Q (some (IV.d (D.bool false), [IV.d (D.sl 4 z1 x2 e3), IV.d (D.agg [D.sl 1 z4 x5 e6, D.sl 1 z7 x8 e9]), IV.d (D.sl 1 z10 x11 e12)])))) (Q (some (IV.d (D.bool false), [IV.d (D.sl 4 z1 x2 e3), IV.d (D.agg [D.sl 1 z4 x5 e6, D.sl 1 z7 x8 e9]), IV.d (D.sl 1 z10 x11 e12)])))) (Q (some (IV.d (D.bool false), [IV.d (D.sl 4 z1 x2 e3), IV.d (D.agg [D.sl 1 z4 x5 e6, D.sl 1 z7 x8 e9]), IV.d (D.sl 1 z10 x11 e12)])))) (Q (some (IV.d (D.bool false), [IV.d (D.sl 4 z1 x2 e3), IV.d (D.agg [D.sl 1 z4 x5 e6, D.sl 1 z7 x8 e9]), IV.d (D.sl 1 z10 x11 e12)]))))) (Q (some (IV.d (D.bool false), [IV.d (D.sl 4 z1 x2 e3), IV.d (D.agg [D.sl 1 z4 x5 e6, D.sl 1 z7 x8 e9]), IV.d (D.sl 1 z10 x11 e12)])))) := by kernel_rfl
end Go.Proofs.YtollbcdhmnnjeaaDoor.Ab

/- Written by a program of this session (wip/tools/AbSym.lean). Not trusted: Lean checks it. -/
set_option maxRecDepth 100000
set_option linter.unusedVariables false
namespace Go.Proofs.YtollbcdhmnnjeaaDoor.Ab
open Go Go.Ab Go.Proofs
def L3 : Lps := fun b => match b with
  | _ => [.norm []]
theorem q3 (C J) (z1 : Bool) (x2 : List D) (e3 : List D) (z4 : Bool) (x5 : List D) (e6 : List D) (z7 : Bool) (x8 : List D) (e9 : List D) (z10 : Bool) (x11 : List D) (e12 : List D) (Q) : fnW F C R (L3) J d3 [.d (.sl 4 z1 x2 e3), .d (.agg [.sl 1 z4 x5 e6, .sl 1 z7 x8 e9]), .d (.sl 1 z10 x11 e12)] Q = (∃ w0, C 7 [] = some (IV.d (D.bool w0), []) ∧ condW w0 (∃ w1 w2 w3 w4 w5 w6 w7 w8, C 8 [IV.d (D.sl 4 z1 x2 e3), IV.d (D.agg [D.sl 1 z4 x5 e6, D.sl 1 z7 x8 e9]), IV.d (D.sl 1 z10 x11 e12)] = some (IV.tup [IV.d (D.sl 1 w1 w2 w3), IV.d (D.int IntKind.i64 w4), IV.d (D.int IntKind.i64 w5)], [IV.d w6, IV.d w7, IV.d w8]) ∧ ∃ w9 w10 w11 w12 w13, C 9 [IV.d (D.sl 4 z1 x2 e3), IV.d (D.sl 1 z10 x11 e12), IV.d (D.sl 1 w1 w2 w3)] = some (IV.tup [IV.d (D.int IntKind.i64 w9), IV.d (D.int IntKind.i64 w10)], [IV.d w11, IV.d w12, IV.d w13]) ∧ ∃ w14 w15, C 10 [IV.d (D.int IntKind.i64 w5)] = some (IV.d (D.int IntKind.i64 w14), [IV.d w15]) ∧ condW (w14 != 0) (Q (some (IV.d (D.bool true), [IV.d (D.sl 4 z1 x2 e3), IV.d (D.agg [D.sl 1 z4 x5 e6, D.sl 1 z7 x8 e9]), IV.d (D.sl 1 z10 x11 e12)]))) (∃ w16 w17, C 10 [IV.d (D.int IntKind.i64 w10)] = some (IV.d (D.int IntKind.i64 w16), [IV.d w17]) ∧ condW (w16 != 0) (Q (some (IV.d (D.bool true), [IV.d (D.sl 4 z1 x2 e3), IV.d (D.agg [D.sl 1 z4 x5 e6, D.sl 1 z7 x8 e9]), IV.d (D.sl 1 z10 x11 e12)]))) (condW (w4 == 0) (condW (w9 == 1) (Q (some (IV.d (D.bool true), [IV.d (D.sl 4 z1 x2 e3), IV.d (D.agg [D.sl 1 z4 x5 e6, D.sl 1 z7 x8 e9]), IV.d (D.sl 1 z10 x11 e12)]))) (Q (some (IV.d (D.bool false), [IV.d (D.sl 4 z1 x2 e3), IV.d (D.agg [D.sl 1 z4 x5 e6, D.sl 1 z7 x8 e9]), IV.d (D.sl 1 z10 x11 e12)])))) (condW (w9 == 2) (Q (some (IV.d (D.bool true), [IV.d (D.sl 4 z1 x2 e3), IV.d (D.agg [D.sl 1 z4 x5 e6, D.sl 1 z7 x8 e9]), IV.d (D.sl 1 z10 x11 e12)]))) (Q (some (IV.d (D.bool false), [IV.d (D.sl 4 z1 x2 e3), IV.d (D.agg [D.sl 1 z4 x5 e6, D.sl 1 z7 x8 e9]), IV.d (D.sl 1 z10 x11 e12)]))))))) (Q (some (IV.d (D.bool false), [IV.d (D.sl 4 z1 x2 e3), IV.d (D.agg [D.sl 1 z4 x5 e6, D.sl 1 z7 x8 e9]), IV.d (D.sl 1 z10 x11 e12)])))) := by kernel_rfl
end Go.Proofs.YtollbcdhmnnjeaaDoor.Ab

/- Chapter 16's laws SimpDone and SimpLess: for every input the laws return true. No condition. -/
set_option linter.unusedVariables false
set_option linter.unusedSimpArgs false
set_option maxRecDepth 100000
namespace Go.Proofs.YtollbcdhmnnjeaaDoor.Ab
open Go Go.Ab Go.Qu Go.Proofs
theorem good_row1 {n : Nat} {x : D} (h : Go.Ab.Good Tryd.prog (n + 2) 23 x) : ∃ z l, x = .sl 1 z (ints l) [] ∧ (z = true → l = []) := by
  obtain ⟨z, l, rfl, _⟩ := good_ints h
  exact ⟨z, l, rfl, good_nil (n := n + 1) h⟩
theorem good_rewrite {n : Nat} {x : D} (h : Go.Ab.Good Tryd.prog (n + 3) 25 x) : ∃ zL L zR R, x = .agg [.sl 1 zL (ints L) [], .sl 1 zR (ints R) []] ∧ (zL = true → L = []) ∧ (zR = true → R = []) := by
  unfold Go.Ab.Good at h
  rw [Tryd.underlying25] at h
  obtain ⟨ys, rfl, y0, r0, rfl, h0, y1, r1, rfl, h1, rfl⟩ := h
  obtain ⟨zL, L, rfl, k1⟩ := good_row1 h0
  obtain ⟨zR, R, rfl, k2⟩ := good_row1 h1
  exact ⟨zL, L, zR, R, rfl, k1, k2⟩
theorem row_atom {g : List Sym} {r : List Int} (h : rowB g r = true) : atomB g r = false := by
  cases ha : atomB g r with
  | false => rfl
  | true =>
    obtain ⟨_, _, ts, h3, _⟩ := rowB_parts h
    cases r with
    | nil => simp [atomB] at ha
    | cons p r =>
      rcases parts_cases h3 with ⟨h4, _⟩ | ⟨k, us, h4, _⟩
      · cases h4
      · obtain ⟨a, m, h5, _⟩ := lenN_some (n := 0) h4
        unfold atomB at ha
        dsimp only at ha
        split at ha
        · cases ha
        · rename_i h0
          rw [arOf, if_neg h0] at h5
          split at ha
          · cases ha
          · rename_i s hs
            rw [hs] at h5
            simp only [Bool.and_eq_true] at ha
            have hk : s.kind = 0 := by simpa using ha.1.1
            dsimp only at h5
            rw [if_pos hk] at h5
            cases h5
theorem law_simpdone (z zL zR zr : Bool) (g : List Sym) (L R r : List Int) (hzL : zL = true → L = []) (hzR : zR = true → R = []) (hz : zr = true → r = []) :
    C 5 [iG z g [], .d (.agg [.sl 1 zL (ints L) [], .sl 1 zR (ints R) []]), iS zr r []] = some (iB true, [iG z g [], .d (.agg [.sl 1 zL (ints L) [], .sl 1 zR (ints R) []]), iS zr r []]) := by
  refine wfn (lk := []) rfl rfl (fnW_way (q5 _ _ z (syms g) [] zL (ints L) [] zR (ints R) [] zr (ints r) [] _) ?_)
  refine ⟨_, w_awake, condW_t rfl ?_⟩
  obtain ⟨v, h1, h2⟩ := w_srewrite z zL zR zr g [] [] [] [] L R r hzL hzR hz
  unfold postW at h2
  cases hb : (ruB g L R && rowB g r) with
  | false =>
    rw [hb, if_neg (by simp)] at h2
    subst h2
    exact ⟨_, _, _, _, _, _, _, _, h1, _, _, w_num _, condW_t rfl (condW_t rfl (condW_t rfl rfl))⟩
  | true =>
    rw [hb, if_pos rfl] at h2
    rw [Bool.and_eq_true] at hb
    obtain ⟨hru, hro⟩ := hb
    cases hx : rwX g L R (r, 0, 0) with
    | none =>
      rw [hx] at h2
      subst h2
      exact ⟨_, _, _, _, _, _, _, _, h1, _, _, w_num _, condW_t rfl (condW_t rfl (condW_t rfl rfl))⟩
    | some p =>
      obtain ⟨y, k⟩ := p
      rw [hx] at h2
      obtain ⟨zy, hzy, rfl⟩ := h2
      obtain ⟨hg, hL, hR, l1, l2, hm⟩ := ru_more hru
      obtain ⟨hs, hr, ts, h3, _⟩ := rowB_parts hro
      have hn := parts_all _ (Nat.le_refl _) h3
      obtain ⟨a1, a2, a3, _, a5, a6, a7, _⟩ := rw_all hg hL hR hm (n := ts.length) (r, 0, 0) hr (Nat.zero_le _) hn (fun j hj => absurd hj (Nat.not_lt_zero _)) hx
      have hry : rowB g y = true := by
        obtain ⟨us, h5, _⟩ := parts_lenN a1
        rw [List.take_length] at h5
        exact rowB_of hs a2 h5
      have hx2 := rw_same (g := g) (L := L) (R := R) (y, 0, 0) a2 (Nat.zero_le _) a3
      obtain ⟨v2, h6, h7⟩ := w_srewrite z zL zR zy g [] [] [] [] L R y hzL hzR hzy
      unfold postW at h7
      rw [hru, hry, if_pos (show (true && true) = true from rfl), hx2] at h7
      obtain ⟨zy2, hzy2, rfl⟩ := h7
      have hw1 := w_weight z zr g [] [] r
      have hw2 := w_weight z zy g [] [] y
      rw [if_pos hro, if_pos hro] at hw1
      rw [if_pos hry, if_pos hry] at hw2
      have hly : Len y := by unfold Len; omega
      have hsy := w_sameints hly y zy zy2 [] []
      rw [decide_eq_true rfl] at hsy
      have hsr := w_sameints hly r zy zr [] []
      refine ⟨_, _, _, _, _, _, _, _, h1, _, _, w_num _, condW_f rfl ⟨_, _, _, _, _, _, _, _, h6, _, _, _, _, hw1, _, _, _, _, hw2, _, _, w_num _, condW_t rfl (condW_t rfl ⟨_, _, _, hsy, condW_t rfl ⟨_, _, w_num _, condW_t rfl ⟨_, _, w_num _, condW_t rfl (condW_t (decide_eq_true a6) ?_)⟩⟩⟩)⟩⟩
      have c1 : decide ((k : Int) ≥ 0) = true := by simp
      have c2 : decide ((k : Int) ≤ 100) = true := by simp; omega
      by_cases hk : k = 0
      · have : y = r := a7 hk
        rw [decide_eq_true this] at hsr
        have c0 : decide ((k : Int) > 0) = false := by simp; omega
        exact condW_f c0 ⟨_, _, _, hsr, condW_t rfl (condW_t c1 (condW_t c2 rfl))⟩
      · have c0 : decide ((k : Int) > 0) = true := by simp; omega
        exact condW_t c0 (condW_t c1 (condW_t c2 rfl))
theorem law_simpless (z zL zR zr : Bool) (g : List Sym) (L R r : List Int) (hzL : zL = true → L = []) (hzR : zR = true → R = []) (hz : zr = true → r = []) :
    C 3 [iG z g [], .d (.agg [.sl 1 zL (ints L) [], .sl 1 zR (ints R) []]), iS zr r []] = some (iB true, [iG z g [], .d (.agg [.sl 1 zL (ints L) [], .sl 1 zR (ints R) []]), iS zr r []]) := by
  refine wfn (lk := []) rfl rfl (fnW_way (q3 _ _ z (syms g) [] zL (ints L) [] zR (ints R) [] zr (ints r) [] _) ?_)
  refine ⟨_, w_awake, condW_t rfl ?_⟩
  obtain ⟨v, h1, h2⟩ := w_srewrite z zL zR zr g [] [] [] [] L R r hzL hzR hz
  unfold postW at h2
  cases hb : (ruB g L R && rowB g r) with
  | false =>
    rw [hb, if_neg (by simp)] at h2
    subst h2
    exact ⟨_, _, _, _, _, _, _, _, h1, _, _, _, _, _, w_compare z zr true g [] [] [] r [] hz (fun _ => rfl), _, _, w_num _, condW_t rfl rfl⟩
  | true =>
    rw [hb, if_pos rfl] at h2
    rw [Bool.and_eq_true] at hb
    obtain ⟨hru, hro⟩ := hb
    cases hx : rwX g L R (r, 0, 0) with
    | none =>
      rw [hx] at h2
      subst h2
      exact ⟨_, _, _, _, _, _, _, _, h1, _, _, _, _, _, w_compare z zr true g [] [] [] r [] hz (fun _ => rfl), _, _, w_num _, condW_t rfl rfl⟩
    | some p =>
      obtain ⟨y, k⟩ := p
      rw [hx] at h2
      obtain ⟨zy, hzy, rfl⟩ := h2
      have hc := w_compare z zr zy g [] [] [] r y hz hzy
      refine ⟨_, _, _, _, _, _, _, _, h1, _, _, _, _, _, hc, _, _, w_num _, condW_f rfl ⟨_, _, w_num _, ?_⟩⟩
      cases hok : cmpOk g r y with
      | false => exact condW_t (by simp) rfl
      | true =>
        have ho1 : oneB g r = true := by
          have h8 := row_atom hro
          unfold cmpOk at hok
          simp [h8] at hok
          exact hok.1
        obtain ⟨hs, hr, hn⟩ := one_lenN ho1
        obtain ⟨hg, hL, hR, l1, l2, hm⟩ := ru_more hru
        obtain ⟨a1, a2, a3, _, a5, a6, a7, a8⟩ := rw_all hg hL hR hm (n := 1) (r, 0, 0) hr (Nat.zero_le _) hn (fun j hj => absurd hj (Nat.not_lt_zero _)) hx
        have hv : cmpV g r y = if r = y then 1 else if moreB g r y then 2 else if moreB g y r then 0 else 3 := by rw [cmpV, if_neg (by simp [hok])]
        refine condW_f (by simp) ?_
        by_cases hk : k = 0
        · have : y = r := a7 hk
          rw [hv, if_pos this.symm]
          exact condW_t (by simp; omega) rfl
        · have hmr := a8 rfl (show 0 < k by omega)
          have hne : r ≠ y := fun e => by
            have hmr : More g r y := hmr
            rw [← e] at hmr
            exact more_irr hmr
          have hr0 : r ≠ [] := fun e => by subst e; simp [lenN] at hn
          rw [hv, if_neg hne, if_pos ((moreB_iff hr0).2 hmr)]
          exact condW_f (by simp; omega) rfl
theorem call_simpdone (y0 y1 y2 : D) (g0 : Go.Ab.Good Tryd.prog 12 22 y0) (g1 : Go.Ab.Good Tryd.prog 12 25 y1) (g2 : Go.Ab.Good Tryd.prog 12 23 y2) : ∃ outs, C 5 [.d y0, .d y1, .d y2] = some (iB true, outs) := by
  obtain ⟨z, g, rfl⟩ := good_sig g0
  obtain ⟨zL, L, zR, R, rfl, h1, h2⟩ := good_rewrite g1
  obtain ⟨zr, r, rfl, h3⟩ := good_row1 g2
  exact ⟨_, law_simpdone z zL zR zr g L R r h1 h2 h3⟩
theorem call_simpless (y0 y1 y2 : D) (g0 : Go.Ab.Good Tryd.prog 12 22 y0) (g1 : Go.Ab.Good Tryd.prog 12 25 y1) (g2 : Go.Ab.Good Tryd.prog 12 23 y2) : ∃ outs, C 3 [.d y0, .d y1, .d y2] = some (iB true, outs) := by
  obtain ⟨z, g, rfl⟩ := good_sig g0
  obtain ⟨zL, L, zR, R, rfl, h1, h2⟩ := good_rewrite g1
  obtain ⟨zr, r, rfl, h3⟩ := good_row1 g2
  exact ⟨_, law_simpless z zL zR zr g L R r h1 h2 h3⟩
end Go.Proofs.YtollbcdhmnnjeaaDoor.Ab

/- Written by a program of this session (wip/tools/AbSym.lean). Not trusted: Lean checks it. -/
set_option maxRecDepth 100000
set_option linter.unusedVariables false
namespace Go.Proofs.YtollbcdhmnnjeaaDoor.Ab
open Go Go.Ab Go.Proofs
def L4 : Lps := fun b => match b with
  | _ => [.norm []]
theorem q4 (C J) (z1 : Bool) (x2 : List D) (e3 : List D) (z4 : Bool) (x5 : List D) (e6 : List D) (z7 : Bool) (x8 : List D) (e9 : List D) (Q) : fnW F C R (L4) J d4 [.d (.sl 4 z1 x2 e3), .d (.sl 1 z4 x5 e6), .d (.sl 1 z7 x8 e9)] Q = (∃ w0, C 7 [] = some (IV.d (D.bool w0), []) ∧ condW w0 (∃ w1 w2 w3 w4 w5, C 9 [IV.d (D.sl 4 z1 x2 e3), IV.d (D.sl 1 z4 x5 e6), IV.d (D.sl 1 z7 x8 e9)] = some (IV.tup [IV.d (D.int IntKind.i64 w1), IV.d (D.int IntKind.i64 w2)], [IV.d w3, IV.d w4, IV.d w5]) ∧ condW (decide (0 + 1 + List.length x5 ≤ 9223372036854775807)) (condW (decide ((0 + 1 + List.length x5) * 8 ≤ 140737488355328)) (condW (decide (List.length ([D.int IntKind.i64 0] ++ x5) + List.length x8 ≤ 9223372036854775807)) (condW (decide ((List.length ([D.int IntKind.i64 0] ++ x5) + List.length x8) * 8 ≤ 140737488355328)) (∃ w6 w7, C 10 [IV.d (D.int IntKind.i64 w2)] = some (IV.d (D.int IntKind.i64 w6), [IV.d w7]) ∧ condW (w6 != 0) (Q (some (IV.d (D.bool true), [IV.d (D.sl 4 z1 x2 e3), IV.d (D.sl 1 z4 x5 e6), IV.d (D.sl 1 z7 x8 e9)]))) (∃ w8 w9 w10, C 11 [IV.d (D.sl 4 z1 x2 e3), IV.d (D.agg [D.sl 2 false [D.agg [D.bool false, D.sl 1 false (D.int IntKind.i64 0 :: (x5 ++ x8)) []]] [], D.sl 1 true [] [], D.sl 2 true [] []])] = some (IV.d (D.bool w8), [IV.d w9, IV.d w10]) ∧ condW w8 (∃ w11 w12 w13 w14 w15 w16 w17 w18, C 12 [IV.d (D.sl 4 z1 x2 e3), IV.d (D.agg [D.sl 2 false [D.agg [D.bool false, D.sl 1 false (D.int IntKind.i64 0 :: (x5 ++ x8)) []]] [], D.sl 1 true [] [], D.sl 2 true [] []])] = some (IV.tup [IV.agg [IV.own w11 3 1 w12, IV.own w13 3 1 w14], IV.d (D.bool w15), IV.d (D.int IntKind.i64 w16)], [IV.d w17, IV.d w18]) ∧ condW w15 (∃ w19 w20 w21 w22 w23 w24 w25 w26, C 12 [IV.d (D.sl 4 z1 x2 e3), IV.d (D.agg [D.sl 2 false [D.agg [D.bool true, D.sl 1 false (D.int IntKind.i64 0 :: (x5 ++ x8)) []]] [], D.sl 1 true [] [], D.sl 2 true [] []])] = some (IV.tup [IV.agg [IV.own w19 3 1 w20, IV.own w21 3 1 w22], IV.d (D.bool w23), IV.d (D.int IntKind.i64 w24)], [IV.d w25, IV.d w26]) ∧ condW w23 (∃ w27 w28, C 10 [IV.d (D.int IntKind.i64 w16)] = some (IV.d (D.int IntKind.i64 w27), [IV.d w28]) ∧ condW (w27 != 0) (Q (some (IV.d (D.bool false), [IV.d (D.sl 4 z1 x2 e3), IV.d (D.sl 1 z4 x5 e6), IV.d (D.sl 1 z7 x8 e9)]))) (∃ w29 w30, C 10 [IV.d (D.int IntKind.i64 w24)] = some (IV.d (D.int IntKind.i64 w29), [IV.d w30]) ∧ condW (w29 != 0) (Q (some (IV.d (D.bool false), [IV.d (D.sl 4 z1 x2 e3), IV.d (D.sl 1 z4 x5 e6), IV.d (D.sl 1 z7 x8 e9)]))) (Q (some (IV.d (D.bool false), [IV.d (D.sl 4 z1 x2 e3), IV.d (D.sl 1 z4 x5 e6), IV.d (D.sl 1 z7 x8 e9)]))))) (∃ w31 w32, C 10 [IV.d (D.int IntKind.i64 w16)] = some (IV.d (D.int IntKind.i64 w31), [IV.d w32]) ∧ condW (w31 != 0) (Q (some (IV.d (D.bool false), [IV.d (D.sl 4 z1 x2 e3), IV.d (D.sl 1 z4 x5 e6), IV.d (D.sl 1 z7 x8 e9)]))) (∃ w33 w34, C 10 [IV.d (D.int IntKind.i64 w24)] = some (IV.d (D.int IntKind.i64 w33), [IV.d w34]) ∧ condW (w33 != 0) (Q (some (IV.d (D.bool false), [IV.d (D.sl 4 z1 x2 e3), IV.d (D.sl 1 z4 x5 e6), IV.d (D.sl 1 z7 x8 e9)]))) (condW (w1 == 2) (∃ w35 w36 w37, C 13 [IV.d (D.sl 1 w11 w12 []), IV.d (D.sl 1 z4 x5 e6)] = some (IV.d (D.bool w35), [IV.d w36, IV.d w37]) ∧ condW w35 (∃ w38 w39 w40, C 13 [IV.d (D.sl 1 w13 w14 []), IV.d (D.sl 1 z7 x8 e9)] = some (IV.d (D.bool w38), [IV.d w39, IV.d w40]) ∧ condW w38 (Q (some (IV.d (D.bool true), [IV.d (D.sl 4 z1 x2 e3), IV.d (D.sl 1 z4 x5 e6), IV.d (D.sl 1 z7 x8 e9)]))) (Q (some (IV.d (D.bool false), [IV.d (D.sl 4 z1 x2 e3), IV.d (D.sl 1 z4 x5 e6), IV.d (D.sl 1 z7 x8 e9)])))) (Q (some (IV.d (D.bool false), [IV.d (D.sl 4 z1 x2 e3), IV.d (D.sl 1 z4 x5 e6), IV.d (D.sl 1 z7 x8 e9)])))) (condW (w1 == 0) (∃ w41 w42 w43, C 13 [IV.d (D.sl 1 w11 w12 []), IV.d (D.sl 1 z7 x8 e9)] = some (IV.d (D.bool w41), [IV.d w42, IV.d w43]) ∧ condW w41 (∃ w44 w45 w46, C 13 [IV.d (D.sl 1 w13 w14 []), IV.d (D.sl 1 z4 x5 e6)] = some (IV.d (D.bool w44), [IV.d w45, IV.d w46]) ∧ condW w44 (Q (some (IV.d (D.bool true), [IV.d (D.sl 4 z1 x2 e3), IV.d (D.sl 1 z4 x5 e6), IV.d (D.sl 1 z7 x8 e9)]))) (Q (some (IV.d (D.bool false), [IV.d (D.sl 4 z1 x2 e3), IV.d (D.sl 1 z4 x5 e6), IV.d (D.sl 1 z7 x8 e9)])))) (Q (some (IV.d (D.bool false), [IV.d (D.sl 4 z1 x2 e3), IV.d (D.sl 1 z4 x5 e6), IV.d (D.sl 1 z7 x8 e9)])))) (Q (some (IV.d (D.bool false), [IV.d (D.sl 4 z1 x2 e3), IV.d (D.sl 1 z4 x5 e6), IV.d (D.sl 1 z7 x8 e9)])))))))) (∃ w47 w48 w49 w50 w51 w52 w53 w54, C 12 [IV.d (D.sl 4 z1 x2 e3), IV.d (D.agg [D.sl 2 false [D.agg [D.bool true, D.sl 1 false (D.int IntKind.i64 0 :: (x5 ++ x8)) []]] [], D.sl 1 true [] [], D.sl 2 true [] []])] = some (IV.tup [IV.agg [IV.own w47 3 1 w48, IV.own w49 3 1 w50], IV.d (D.bool w51), IV.d (D.int IntKind.i64 w52)], [IV.d w53, IV.d w54]) ∧ condW w51 (∃ w55 w56, C 10 [IV.d (D.int IntKind.i64 w16)] = some (IV.d (D.int IntKind.i64 w55), [IV.d w56]) ∧ condW (w55 != 0) (Q (some (IV.d (D.bool false), [IV.d (D.sl 4 z1 x2 e3), IV.d (D.sl 1 z4 x5 e6), IV.d (D.sl 1 z7 x8 e9)]))) (∃ w57 w58, C 10 [IV.d (D.int IntKind.i64 w52)] = some (IV.d (D.int IntKind.i64 w57), [IV.d w58]) ∧ condW (w57 != 0) (Q (some (IV.d (D.bool false), [IV.d (D.sl 4 z1 x2 e3), IV.d (D.sl 1 z4 x5 e6), IV.d (D.sl 1 z7 x8 e9)]))) (Q (some (IV.d (D.bool false), [IV.d (D.sl 4 z1 x2 e3), IV.d (D.sl 1 z4 x5 e6), IV.d (D.sl 1 z7 x8 e9)]))))) (∃ w59 w60, C 10 [IV.d (D.int IntKind.i64 w16)] = some (IV.d (D.int IntKind.i64 w59), [IV.d w60]) ∧ condW (w59 != 0) (Q (some (IV.d (D.bool false), [IV.d (D.sl 4 z1 x2 e3), IV.d (D.sl 1 z4 x5 e6), IV.d (D.sl 1 z7 x8 e9)]))) (∃ w61 w62, C 10 [IV.d (D.int IntKind.i64 w52)] = some (IV.d (D.int IntKind.i64 w61), [IV.d w62]) ∧ condW (w61 != 0) (Q (some (IV.d (D.bool false), [IV.d (D.sl 4 z1 x2 e3), IV.d (D.sl 1 z4 x5 e6), IV.d (D.sl 1 z7 x8 e9)]))) (condW (w1 == 2) (Q (some (IV.d (D.bool false), [IV.d (D.sl 4 z1 x2 e3), IV.d (D.sl 1 z4 x5 e6), IV.d (D.sl 1 z7 x8 e9)]))) (condW (w1 == 0) (Q (some (IV.d (D.bool false), [IV.d (D.sl 4 z1 x2 e3), IV.d (D.sl 1 z4 x5 e6), IV.d (D.sl 1 z7 x8 e9)]))) (condW (IntKind.wrap IntKind.i64 ((↑(List.length w12) : Int) + (↑(List.length w14) : Int)) == 0) (Q (some (IV.d (D.bool true), [IV.d (D.sl 4 z1 x2 e3), IV.d (D.sl 1 z4 x5 e6), IV.d (D.sl 1 z7 x8 e9)]))) (Q (some (IV.d (D.bool false), [IV.d (D.sl 4 z1 x2 e3), IV.d (D.sl 1 z4 x5 e6), IV.d (D.sl 1 z7 x8 e9)])))))))))) (Q (some (IV.d (D.bool true), [IV.d (D.sl 4 z1 x2 e3), IV.d (D.sl 1 z4 x5 e6), IV.d (D.sl 1 z7 x8 e9)]))))) False) False) False) False) (Q (some (IV.d (D.bool false), [IV.d (D.sl 4 z1 x2 e3), IV.d (D.sl 1 z4 x5 e6), IV.d (D.sl 1 z7 x8 e9)])))) := by kernel_rfl
end Go.Proofs.YtollbcdhmnnjeaaDoor.Ab

/- Chapter 16's law SimpRules: for every input the law returns true. No condition. -/
set_option linter.unusedVariables false
set_option linter.unusedSimpArgs false
set_option maxRecDepth 100000
namespace Go.Proofs.YtollbcdhmnnjeaaDoor.Ab
open Go Go.Ab Go.Qu Go.Proofs
attribute [local simp] and_assoc
theorem w_sides {g : List Sym} (hg : SigOk g) (z z' : Bool) (e e' : List D) {c : Int} {r : List Int} (hr : r.length ≤ 1000) {n : Nat} (h : lenN g r n = some r.length) :
    C 32 [iG z g e, iS z' (c :: r) e'] = some (.own (pcs g r).isEmpty 23 1 (rws (pcR z' (pcs g r))), [iG z g e, iS z' (c :: r) e']) := by
  refine wfn (lk := []) rfl rfl (fnW_way (q32 _ _ z (syms g) e z' (ints (c :: r)) e' _) ?_)
  refine condW_t (by simp [ints_len]; omega) ?_
  have hd : List.drop (Int.toNat 1) (ints (c :: r)) = ints r := rfl
  rw [hd]
  exact ⟨_, _, _, _, w_pieces hg z z' e [] hr h, rfl⟩
/-- A clause of one Lit. -/
def oneC (b : Bool) (a : List Int) : Cl := ⟨false, [⟨b, ⟨false, a, []⟩⟩], [], true, [], [], true, [], []⟩
theorem oneC_d (b : Bool) (a : List Int) : iC (oneC b a) = .d (.agg [.sl 2 false [.agg [.bool b, .sl 1 false (ints a) []]] [], .sl 1 true [] [], .sl 2 true [] []]) := rfl
theorem oneC_may (g : List Sym) (b : Bool) (a : List Int) : clB g (oneC b a) = true → atomB g a = true := by
  intro h
  unfold clB at h
  simp only [Bool.and_eq_true] at h
  have := h.2.2.2.2.1
  simpa [oneC, litsB] using this
theorem oneC_neg (g : List Sym) (b : Bool) (a : List Int) : clB g (oneC b a) = clB g (oneC false a) := rfl
theorem w_unit1 (b : Bool) (a : List Int) : C 31 [iC (oneC b a)] = some (iB true, [iC (oneC b a)]) := by
  refine wfn (lk := []) rfl rfl (fnW_way (q31 _ _ false (lits [⟨b, ⟨false, a, []⟩⟩]) [] true (rws []) [] true (lits []) [] _) ?_)
  exact condW_t rfl (condW_t rfl (condW_t rfl rfl))
theorem w_ruleno (z : Bool) {g : List Sym} (e : List D) {a : List Int} (h : clB g (oneC true a) = true) : C 12 [iG z g e, iC (oneC true a)] = some (.tup [.agg [.own true 3 1 [], .own true 3 1 []], iB false, iI 0], [iG z g e, iC (oneC true a)]) := by
  refine wfn (lk := []) rfl rfl (fnW_way (q12 _ _ z (syms g) e false (lits [⟨true, ⟨false, a, []⟩⟩]) [] true (rws []) [] true (lits []) [] _) ?_)
  have h1 := w_clmay z g e (oneC true a)
  rw [h] at h1
  exact ⟨_, _, _, h1, condW_t rfl ⟨_, _, w_unit1 true a, condW_t rfl ⟨_, _, _, _, rfl, condW_t rfl rfl⟩⟩⟩
abbrev moB (g : List Sym) (a b : List Int) : Bool := cmpOk g a b && decide (cmpV g a b = 2)
abbrev pRet (a b : List Int) : Out := .ret [(4, .ptr 25 0 [.own false 3 1 (ints a), .own false 3 1 (ints b)]), (5, iB true), (6, iI 0)]
theorem l_rule (z : Bool) (g : List Sym) (e : List D) {a b : List Int} (ha : Len a) (hb : Len b) (i : Nat) (hi : i ≤ 2) :
    evP F (Go.Ab.W F) (JW F d12 []) d12 [] [1,1,1,1,0,1] [(0, iG z g e), (4, .ptr 25 0 [.own true 3 1 [], .own true 3 1 []]), (7, .own false 23 1 (rws (pcR false [a, b]))), (43, iI 2), (44, iI i)] = some (if i = 0 ∧ moB g a b = true then pRet a b else if i ≤ 1 ∧ moB g b a = true then pRet b a else .norm [(0, iG z g e), (4, .ptr 25 0 [.own true 3 1 [], .own true 3 1 []]), (7, .own false 23 1 (rws (pcR false [a, b]))), (43, iI 2), (44, iI 2)]) :=
  blk_fun (F := F) (d := d12) (lk := []) (p := [1,1,1,1,0,1,0,0]) (p0 := [1,1,1,1,0,1]) (id := 0) (by kernel_rfl) (st := fun (i : Nat) => [(0, iG z g e), (4, .ptr 25 0 [.own true 3 1 [], .own true 3 1 []]), (7, .own false 23 1 (rws (pcR false [a, b]))), (43, iI 2), (44, iI i)]) (I := fun i => i ≤ 2) (μ := fun i => 2 - i)
    (res := fun i => if i = 0 ∧ moB g a b = true then pRet a b else if i ≤ 1 ∧ moB g b a = true then pRet b a else .norm [(0, iG z g e), (4, .ptr 25 0 [.own true 3 1 [], .own true 3 1 []]), (7, .own false 23 1 (rws (pcR false [a, b]))), (43, iI 2), (44, iI 2)])
    (fun i hi => by
      have hw3 : IntKind.wrap .i64 (0 + 1) = 1 := by rw [wr _ (by omega) (by omega)]; omega
      have hw4 : IntKind.wrap .i64 (1 + 1) = 2 := by rw [wr _ (by omega) (by omega)]; omega
      have hw5 : IntKind.wrap .i64 (1 - 0) = 1 := by rw [wr _ (by omega) (by omega)]; omega
      have hw6 : IntKind.wrap .i64 (1 - 1) = 0 := by rw [wr _ (by omega) (by omega)]; omega
      have x0 : (rws (pcR false [a, b]))[Int.toNat 0]? = some (.sl 1 false (ints a) []) := rfl
      have x1 : (rws (pcR false [a, b]))[Int.toNat 1]? = some (.sl 1 false (ints b) []) := rfl
      have ca := w_clone ha false (by simp) []
      have cb := w_clone hb false (by simp) []
      have m1 : C 33 [iG z g e, iS false a [], iS false b []] = some (iB (moB g a b), [iG z g e, iS false a [], iS false b []]) := w_smore z false false g e [] [] a b (by simp) (by simp)
      have m2 : C 33 [iG z g e, iS false b [], iS false a []] = some (iB (moB g b a), [iG z g e, iS false b [], iS false a []]) := w_smore z false false g e [] [] b a (by simp) (by simp)
      have h3 : i = 0 ∨ i = 1 ∨ i = 2 := by omega
      rcases h3 with rfl | rfl | rfl
      · cases hab : moB g a b with
        | true =>
          rw [hab] at m1
          refine .stop (pRet a b) (wpQ_way (q12_l0a _ _ z (syms g) e true [] true [] false (rws (pcR false [a, b])) 2 0 _) ?_) rfl (by simp [blkO, hab])
          refine condW_t (by decide) (condW_t (by decide) ⟨_, x0, _, _, _, x0, ?_⟩)
          rw [hw5]
          exact condW_t (by decide) ⟨_, x1, _, _, _, x1, _, _, _, _, m1, condW_t rfl (condW_t (by decide) ⟨_, x0, _, _, _, x0, _, _, _, ca, condW_t (by decide) ⟨_, x1, _, _, _, x1, _, _, _, cb, rfl⟩⟩)⟩
        | false =>
          rw [hab] at m1
          refine .go 1 (wpQ_way (q12_l0a _ _ z (syms g) e true [] true [] false (rws (pcR false [a, b])) 2 0 _) ?_) (by omega) (by omega) (by simp [hab])
          refine condW_t (by decide) (condW_t (by decide) ⟨_, x0, _, _, _, x0, ?_⟩)
          rw [hw5, hw3]
          exact condW_t (by decide) ⟨_, x1, _, _, _, x1, _, _, _, _, m1, condW_f rfl rfl⟩
      · cases hba : moB g b a with
        | true =>
          rw [hba] at m2
          refine .stop (pRet b a) (wpQ_way (q12_l0a _ _ z (syms g) e true [] true [] false (rws (pcR false [a, b])) 2 1 _) ?_) rfl (by simp [blkO, hba])
          refine condW_t (by decide) (condW_t (by decide) ⟨_, x1, _, _, _, x1, ?_⟩)
          rw [hw6]
          exact condW_t (by decide) ⟨_, x0, _, _, _, x0, _, _, _, _, m2, condW_t rfl (condW_t (by decide) ⟨_, x1, _, _, _, x1, _, _, _, cb, condW_t (by decide) ⟨_, x0, _, _, _, x0, _, _, _, ca, rfl⟩⟩)⟩
        | false =>
          rw [hba] at m2
          refine .go 2 (wpQ_way (q12_l0a _ _ z (syms g) e true [] true [] false (rws (pcR false [a, b])) 2 1 _) ?_) (by omega) (by omega) (by simp [hba])
          refine condW_t (by decide) (condW_t (by decide) ⟨_, x1, _, _, _, x1, ?_⟩)
          rw [hw6, hw4]
          exact condW_t (by decide) ⟨_, x0, _, _, _, x0, _, _, _, _, m2, condW_f rfl rfl⟩
      · refine .stop (.exit 0 [(0, iG z g e), (4, .ptr 25 0 [.own true 3 1 [], .own true 3 1 []]), (7, .own false 23 1 (rws (pcR false [a, b]))), (43, iI 2), (44, iI 2)]) (wpQ_way (q12_l0a _ _ z (syms g) e true [] true [] false (rws (pcR false [a, b])) 2 2 _) (condW_f (by decide) rfl)) rfl (by simp [blkO])) i hi
theorem w_rule1 (z : Bool) {g : List Sym} (e : List D) {a b : List Int} (h : clB g (oneC false (0 :: (a ++ b))) = true) (ha : One g a) (hb : One g b) (la : a.length ≤ 48) (lb : b.length ≤ 48) :
    C 12 [iG z g e, iC (oneC false (0 :: (a ++ b)))] = some (if moB g a b = true then .tup [.agg [.own false 3 1 (ints a), .own false 3 1 (ints b)], iB true, iI 0] else if moB g b a = true then .tup [.agg [.own false 3 1 (ints b), .own false 3 1 (ints a)], iB true, iI 0] else .tup [.agg [.own true 3 1 [], .own true 3 1 []], iB false, iI 0], [iG z g e, iC (oneC false (0 :: (a ++ b)))]) := by
  refine wfn (lk := []) rfl rfl (fnW_way (q12 _ _ z (syms g) e false (lits [⟨false, ⟨false, 0 :: (a ++ b), []⟩⟩]) [] true (rws []) [] true (lits []) [] _) ?_)
  have h1 := w_clmay z g e (oneC false (0 :: (a ++ b)))
  rw [h] at h1
  have hg := sigOk (atom_sig (oneC_may g false _ h))
  have hn : lenN g (a ++ b) 2 = some (a ++ b).length := by
    have k1 := lenN_split (r := a ++ b) (n := 1) 1 (lenN_app b ha)
    rw [List.drop_left, hb] at k1
    rw [show (2 : Nat) = 1 + 1 from rfl, k1]; simp
  have hp : pcs g (a ++ b) = [a, b] := by
    have := pcs_flat (g := g) (ts := [a, b]) (fun x hx => by
      simp at hx
      rcases hx with rfl | rfl
      · exact ha
      · exact hb)
    simpa using this
  have hs := w_sides hg z false e [] (c := 0) (r := a ++ b) (by simp; omega) hn
  rw [hp] at hs
  have hl := l_rule z g e (a := a) (b := b) (by unfold Len; omega) (by unfold Len; omega) 0 (by omega)
  refine ⟨_, _, _, h1, condW_t rfl ⟨_, _, w_unit1 false _, condW_t rfl ⟨_, _, _, _, rfl, condW_f rfl ⟨_, _, _, _, rfl, _, rfl, condW_f rfl ⟨_, _, _, _, rfl, _, _, _, _, hs, ?_⟩⟩⟩⟩⟩
  cases hab : moB g a b with
  | true =>
    rw [if_pos ⟨rfl, hab⟩] at hl
    exact .inl ⟨_, _, _, _, _, _, hl, rfl⟩
  | false =>
    rw [if_neg (by simp [hab])] at hl
    cases hba : moB g b a with
    | true =>
      rw [if_pos ⟨by omega, hba⟩] at hl
      exact .inl ⟨_, _, _, _, _, _, hl, rfl⟩
    | false =>
      rw [if_neg (by simp [hba])] at hl
      exact .inr ⟨_, _, _, _, _, _, _, _, _, _, _, hl, rfl⟩
theorem atom_ar {g : List Sym} {p : Int} {r : List Int} (ha : atomB g (p :: r) = true) : arOf g p = none := by
  unfold atomB at ha
  dsimp only at ha
  split at ha
  · cases ha
  · rename_i h0
    split at ha
    · cases ha
    · rename_i s hs
      simp only [Bool.and_eq_true] at ha
      have hk : s.kind = 0 := by simpa using ha.1.1
      rw [arOf, if_neg h0, hs]
      dsimp only
      rw [if_pos hk]
theorem sides_terms {g : List Sym} {c : Int} {a b : List Int} (hok : cmpOk g a b = true) (h : atomB g (c :: (a ++ b)) = true) : oneB g a = true ∧ oneB g b = true := by
  cases ha : atomB g a with
  | false =>
    unfold cmpOk at hok
    simpa [ha] using hok
  | true =>
    exfalso
    cases a with
    | nil => simp [atomB] at ha
    | cons p r =>
      have h1 := atom_ar ha
      unfold atomB at h
      dsimp only at h
      split at h
      · cases h
      · split at h
        · cases h
        · simp only [Bool.and_eq_true] at h
          have h2 := h.2
          split at h2
          · rename_i ts hts
            unfold rowP at hts
            split at hts
            · rcases parts_cases hts with ⟨h3, _⟩ | ⟨k, us, h3, _⟩
              · cases h3
              · rw [List.cons_append] at h3
                obtain ⟨a', m, h5, _⟩ := lenN_some (n := 0) h3
                rw [h1] at h5; cases h5
            · cases hts
          · cases h2
theorem law_simprules (z za zb : Bool) (g : List Sym) (a b : List Int) (hza : za = true → a = []) (hzb : zb = true → b = []) (hlen : (1 + a.length + b.length) * 8 ≤ 140737488355328) :
    C 4 [iG z g [], iS za a [], iS zb b []] = some (iB true, [iG z g [], iS za a [], iS zb b []]) := by
  refine wfn (lk := []) rfl rfl (fnW_way (q4 _ _ z (syms g) [] za (ints a) [] zb (ints b) [] _) ?_)
  have hc := w_compare z za zb g [] [] [] a b hza hzb
  have e0 : (D.int .i64 0 :: (ints a ++ ints b)) = ints (0 :: (a ++ b)) := by rw [ints_cons, ints_append]
  rw [e0]
  refine ⟨_, w_awake, condW_t rfl ⟨_, _, _, _, _, hc, condW_t (by rw [ints_len]; simp; omega) (condW_t (by rw [ints_len]; simp; omega) (condW_t (by simp [ints_len]; omega) (condW_t (by simp [ints_len]; omega) ⟨_, _, w_num _, ?_⟩)))⟩⟩
  cases hok : cmpOk g a b with
  | false => exact condW_t rfl rfl
  | true =>
    refine condW_f rfl ?_
    have h1 := w_clmay z g [] (oneC false (0 :: (a ++ b)))
    cases hm : clB g (oneC false (0 :: (a ++ b))) with
    | false => rw [hm] at h1; exact ⟨_, _, _, h1, condW_f rfl rfl⟩
    | true =>
      rw [hm] at h1
      refine ⟨_, _, _, h1, condW_t rfl ?_⟩
      obtain ⟨t1, t2⟩ := sides_terms hok (oneC_may g false _ hm)
      obtain ⟨_, la, ha⟩ := one_lenN t1
      obtain ⟨_, lb, hb⟩ := one_lenN t2
      have hr := w_rule1 z [] hm ha hb la lb
      have hn := w_ruleno z [] (show clB g (oneC true (0 :: (a ++ b))) = true from (oneC_neg g true _).trans hm)
      have hok2 : cmpOk g b a = true := by unfold cmpOk; rw [t1, t2]; rfl
      have hv : cmpV g a b = if a = b then 1 else if moreB g a b then 2 else if moreB g b a then 0 else 3 := by rw [cmpV, if_neg (by simp [hok])]
      have hv2 : cmpV g b a = if b = a then 1 else if moreB g b a then 2 else if moreB g a b then 0 else 3 := by rw [cmpV, if_neg (by simp [hok2])]
      have hLa : Len a := by unfold Len; omega
      have hLb : Len b := by unfold Len; omega
      by_cases h2 : cmpV g a b = 2
      · have hmo : moB g a b = true := by simp [moB, hok, h2]
        rw [if_pos hmo] at hr
        have s1 := w_sameints hLa a false za [] []
        have s2 := w_sameints hLb b false zb [] []
        rw [decide_eq_true rfl] at s1 s2
        rw [h2]
        exact ⟨_, _, _, _, _, _, _, _, hr, condW_t rfl ⟨_, _, _, _, _, _, _, _, hn, condW_f rfl ⟨_, _, w_num _, condW_f rfl ⟨_, _, w_num _, condW_f rfl (condW_t rfl ⟨_, _, _, s1, condW_t rfl ⟨_, _, _, s2, condW_t rfl rfl⟩⟩)⟩⟩⟩⟩
      · have hmo : ¬ moB g a b = true := by simp [moB, hok, h2]
        rw [if_neg hmo] at hr
        have n2 : (cmpV g a b == 2) = false := by simpa using h2
        by_cases h0 : cmpV g a b = 0
        · have h20 : cmpV g b a = 2 := by
            rw [hv] at h0
            split at h0
            · cases h0
            · rename_i hne
              split at h0
              · cases h0
              · split at h0
                · rename_i hm2
                  rw [hv2, if_neg (fun e => hne e.symm), if_pos hm2]
                · cases h0
          have hmo2 : moB g b a = true := by simp [moB, hok2, h20]
          rw [if_pos hmo2] at hr
          have s1 := w_sameints hLb b false zb [] []
          have s2 := w_sameints hLa a false za [] []
          rw [decide_eq_true rfl] at s1 s2
          rw [h0]
          exact ⟨_, _, _, _, _, _, _, _, hr, condW_t rfl ⟨_, _, _, _, _, _, _, _, hn, condW_f rfl ⟨_, _, w_num _, condW_f rfl ⟨_, _, w_num _, condW_f rfl (condW_f rfl (condW_t rfl ⟨_, _, _, s1, condW_t rfl ⟨_, _, _, s2, condW_t rfl rfl⟩⟩))⟩⟩⟩⟩
        · have h20 : ¬ cmpV g b a = 2 := fun e => by
            rw [hv2] at e
            split at e
            · cases e
            · rename_i hne
              split at e
              · rename_i hm2
                rw [hv, if_neg (fun e => hne e.symm)] at h2 h0
                split at h2
                · exact h2 rfl
                · rw [if_pos hm2] at h0
                  rename_i hm3
                  rw [if_neg hm3] at h0
                  exact h0 rfl
              · split at e <;> cases e
          have hmo2 : ¬ moB g b a = true := by simp [moB, hok2, h20]
          rw [if_neg hmo2] at hr
          have n0 : (cmpV g a b == 0) = false := by simpa using h0
          exact ⟨_, _, _, _, _, _, _, _, hr, condW_f rfl ⟨_, _, _, _, _, _, _, _, hn, condW_f rfl ⟨_, _, w_num _, condW_f rfl ⟨_, _, w_num _, condW_f rfl (condW_f n2 (condW_f n0 (condW_t (by decide) rfl)))⟩⟩⟩⟩
theorem call_simprules (y0 y1 y2 : D) (g0 : Go.Ab.Good Tryd.prog 12 22 y0) (g1 : Go.Ab.Good Tryd.prog 12 23 y1) (g2 : Go.Ab.Good Tryd.prog 12 23 y2) (b1 : ∀ z xs, y1 = .sl 1 z xs [] → xs.length ≤ 1048576) (b2 : ∀ z xs, y2 = .sl 1 z xs [] → xs.length ≤ 1048576) : ∃ outs, C 4 [.d y0, .d y1, .d y2] = some (iB true, outs) := by
  obtain ⟨z, g, rfl⟩ := good_sig g0
  obtain ⟨za, a, rfl, h1⟩ := good_row1 g1
  obtain ⟨zb, b, rfl, h2⟩ := good_row1 g2
  have k1 := b1 _ _ rfl
  have k2 := b2 _ _ rfl
  rw [ints_len] at k1 k2
  exact ⟨_, law_simprules z za zb g a b h1 h2 (by omega)⟩
end Go.Proofs.YtollbcdhmnnjeaaDoor.Ab
