/- What the rows of this seat share: the variable that is laid, the world in which it is so. No condition. -/
import Derived.Below
import Derived.ChangeOld
import Derived.LaidMore
import Derived.Lib.SmallJoins
import Derived.OpenShut
import Derived.ProofKit
import Derived.SevenTiedAt
import Derived.ShutString
import Derived.SizedLaws
import Derived.Stop.Joined
import Derived.Test.YtjhganbjbiihoaaDoorCards
import Derived.Test.YtjhganbjbiihoaaDoorRows
import Derived.Test.YtjhganbjbiihoaaDoorTie
import Derived.WalkKit
import Derived.Test.YtjhganbjbiihoaaDoorClauseHolds0
import Derived.Test.YtjhganbjbiihoaaDoorClauseHolds1
import Derived.Test.YtjhganbjbiihoaaDoorClauseHolds2
import Derived.Test.YtjhganbjbiihoaaDoorClauseHolds3
import Derived.Test.YtjhganbjbiihoaaDoorClauseHolds4
import Derived.Test.YtjhganbjbiihoaaDoorClauseHolds5
import Derived.Test.YtjhganbjbiihoaaDoorClauseHolds6
import Derived.Test.YtjhganbjbiihoaaDoorClauseHolds7
import Derived.Test.YtjhganbjbiihoaaDoorClauseHolds8
import Derived.Test.YtjhganbjbiihoaaDoorClauseHolds9
import Derived.Test.YtjhganbjbiihoaaDoorClauseHolds10
import Derived.Test.YtjhganbjbiihoaaDoorClauseHolds11
import Derived.Test.YtjhganbjbiihoaaDoorClauseHolds12
import Derived.Test.YtjhganbjbiihoaaDoorClauseHolds13
import Derived.Test.YtjhganbjbiihoaaDoorClauseHolds14
namespace Go.Proofs.YtjhganbjbiihoaaDoor.Ab
open Go Go.Ab Go.Qu Go.Proofs Go.ChangeShapes Go.WideShapes Go.ChangeAt Go.RowKit Go.Joins
set_option linter.unusedVariables false
set_option maxRecDepth 100000
theorem own : ownKnob Tryd.prog.godebug = none := by kernel_rfl
theorem laidOut : laidOutB Tryd.prog = true := by kernel_rfl
abbrev laid1 : List (String × DataW Unit) := [("quaere/sign.equals", Rows.laid_quaere_sign_equals)]
theorem gEq : Tryd.prog.globalNamed "quaere/sign.equals" = some 0 := by kernel_rfl
theorem tEq : (Tryd.prog.globals[0]?).map (·.type) = some 88 := by kernel_rfl
theorem door_met (os : Os) (args : Array Value) : laidMetH Tryd.prog laid1 ((World.doorLaid Tryd.prog 400 os).forCall (fun _ _ => 0) ⟨#[], args, []⟩).memory :=
  laidMetH_of_parts3 (fuel := 8) (laidMet_of_run' 8 (by kernel_rfl) (by kernel_rfl)) (by kernel_rfl) (by kernel_rfl)
theorem globs {W : World} (h : laidMetH Tryd.prog laid1 W) : GlobOk (Hw W) F.G := by
  rw [MakeChecks.laidMetH_plain _ _ _ (by kernel_rfl)] at h
  obtain ⟨ps, ⟨g0, t0, cs0, f0, p0, q0, hg0, ht0, hv0, hd0, _, _⟩, _, _⟩ := h
  obtain rfl := Option.some.inj (gEq.symm.trans hg0)
  obtain rfl := Option.some.inj (tEq.symm.trans ht0)
  obtain ⟨xs, n, _, hx, hlen, hxl, hf⟩ := DataW.trod_struct Tryd.underlying88 hd0
  have c1 : Tryd.prog.cellsOf 88 = 4 := by kernel_rfl
  have cs : Tryd.prog.cellsOf 9 = 1 := by kernel_rfl
  have ci : Tryd.prog.cellsOf 3 = 1 := by kernel_rfl
  rw [c1] at hlen
  have hx1 : xs.map (·.1) = [.lit (.string [61]), .lit (.int .i64 0), .lit (.int .i64 2), .lit (.int .i64 1)] := by
    simp only [Prod.mk.injEq] at hx
    have h9 := hx.1
    unfold Rows.laid_quaere_sign_equals at h9
    simp only [DataW.agg.injEq] at h9
    exact h9.symm
  have hcs : ∃ a b c d, cs0.toList = [a, b, c, d] := by
    match h : cs0.toList, hlen with
    | [a, b, c, d], _ => exact ⟨a, b, c, d, rfl⟩
  obtain ⟨a, b, c, d, hcs⟩ := hcs
  have hxs : ∃ x0 x1 x2 x3, xs = [x0, x1, x2, x3] := by
    match xs, hxl with
    | [x0, x1, x2, x3], _ => exact ⟨x0, x1, x2, x3, rfl⟩
  obtain ⟨x0, x1, x2, x3, rfl⟩ := hxs
  simp only [List.map_cons, List.map_nil, List.cons.injEq, and_true] at hx1
  obtain ⟨e0, e1, e2, e3⟩ := hx1
  have h0 : DataW.trod (fun _ => ()) Tryd.prog W 0 (fun _ => true) false n 9 ((cs0.toList.drop 0).take (Tryd.prog.cellsOf 9)) = some x0 := hf 0 _ rfl
  have h1 : DataW.trod (fun _ => ()) Tryd.prog W 0 (fun _ => true) false n 3 ((cs0.toList.drop 1).take (Tryd.prog.cellsOf 3)) = some x1 := hf 1 _ rfl
  have h2 : DataW.trod (fun _ => ()) Tryd.prog W 0 (fun _ => true) false n 3 ((cs0.toList.drop 2).take (Tryd.prog.cellsOf 3)) = some x2 := hf 2 _ rfl
  have h3 : DataW.trod (fun _ => ()) Tryd.prog W 0 (fun _ => true) false n 3 ((cs0.toList.drop 3).take (Tryd.prog.cellsOf 3)) = some x3 := hf 3 _ rfl
  rw [hcs, cs] at h0
  rw [hcs, ci] at h1 h2 h3
  obtain ⟨s, ha, hs, _⟩ := DataW.trod_string Tryd.underlying9 h0
  obtain ⟨n1, hb, hn1, _⟩ := DataW.trod_int Tryd.underlying3 h1
  obtain ⟨n2, hc, hn2, _⟩ := DataW.trod_int Tryd.underlying3 h2
  obtain ⟨n3, hd, hn3, _⟩ := DataW.trod_int Tryd.underlying3 h3
  simp at ha hb hc hd
  rw [hs] at e0; rw [hn1] at e1; rw [hn2] at e2; rw [hn3] at e3
  simp at e0 e1 e2 e3
  subst ha hb hc hd e1 e2 e3
  have hse : s = "=".toUTF8 := by
    have h5 : "=".toUTF8.data.toList = [61] := by decide +kernel
    have h6 : s.data = "=".toUTF8.data := Array.toList_inj.1 (e0.trans h5.symm)
    exact (show ∀ (x y : ByteArray), x.data = y.data → x = y by intro ⟨_⟩ ⟨_⟩ h; exact congrArg _ h) _ _ h6
  subst hse
  have hcell : ∀ (j : Nat) u, [Value.string "=".toUTF8, .int .i64 0, .int .i64 2, .int .i64 1][j]? = some u → W.cell? ⟨0, j, none⟩ = some u := fun j u hj => by
    have h7 := World.var?_cell hg0 hv0 j
    have h8 : cs0[j]? = some u := by rw [← Array.getElem?_toList, hcs]; exact hj
    rw [h8] at h7
    simpa using h7
  intro g cs hg
  simp only [F, List.map_cons, List.map_nil, assoc] at hg
  split at hg
  · rename_i hg0
    subst hg0
    simp only [Option.some.injEq] at hg
    subst hg
    refine ⟨[.string "=".toUTF8, .int .i64 0, .int .i64 2, .int .i64 1], ?_, fun j u hj => ?_, by simp [D.isAgg]⟩
    · unfold D.RepL; refine ⟨[_], _, rfl, by unfold D.Rep; rfl, ?_⟩
      unfold D.RepL; refine ⟨[_], _, rfl, by unfold D.Rep; rfl, ?_⟩
      unfold D.RepL; refine ⟨[_], _, rfl, by unfold D.Rep; rfl, ?_⟩
      unfold D.RepL; refine ⟨[_], [], rfl, by unfold D.Rep; rfl, ?_⟩
      unfold D.RepL; rfl
    · refine Hw.cell ?_
      have h9 := hcell j u hj
      unfold Addr.add
      split
      · rename_i hj0; subst hj0; exact h9
      · simpa using h9
  · simp at hg
theorem fxOk : FxOk Tryd.prog F where
  orders := by kernel_rfl
  tab := tab_ok
  code := code_ok.get
  prim := primOk
  ins := insAll
/-! ### Arguments -/
theorem good_sym {n : Nat} {x : D} (h : Go.Ab.Good Tryd.prog (n + 2) 88 x) : ∃ s : Sym, x = s.d := by
  unfold Go.Ab.Good at h
  rw [Tryd.underlying88] at h
  obtain ⟨ys, rfl, y0, r0, rfl, h0, y1, r1, rfl, h1, y2, r2, rfl, h2, y3, r3, rfl, h3, rfl⟩ := h
  unfold Go.Ab.Good at h0 h1 h2 h3
  simp only [Tryd.underlying9, Tryd.underlying3] at h0 h1 h2 h3
  obtain ⟨s, rfl, _⟩ := h0
  obtain ⟨a, rfl, _⟩ := h1
  obtain ⟨b, rfl, _⟩ := h2
  obtain ⟨c, rfl, _⟩ := h3
  exact ⟨⟨s, a, b, c⟩, rfl⟩
theorem good_sig {n : Nat} {x : D} (h : Go.Ab.Good Tryd.prog (n + 3) 22 x) : ∃ z g, x = .sl 4 z (syms g) [] := by
  unfold Go.Ab.Good at h
  rw [Tryd.underlying22] at h
  obtain ⟨z, xs, rfl, _, h2, _⟩ := h
  have hc : Tryd.prog.cellsOf 88 = 4 := by kernel_rfl
  rw [hc]
  obtain ⟨g, rfl, _⟩ := all_map (f := Sym.d) (Q := fun _ => True) (fun y hy => by obtain ⟨s, hs⟩ := good_sym (h2 y hy); exact ⟨s, hs, trivial⟩)
  exact ⟨z, g, rfl⟩
theorem good_int {n : Nat} {x : D} (h : Go.Ab.Good Tryd.prog (n + 1) 3 x) : ∃ a : Int, x = .int .i64 a ∧ -9223372036854775808 ≤ a ∧ a ≤ 9223372036854775807 := by
  unfold Go.Ab.Good at h
  rw [Tryd.underlying3] at h
  obtain ⟨a, rfl, hw⟩ := h
  refine ⟨a, rfl, ?_⟩
  simp [Lit.wf, IntKind.min, IntKind.max, IntKind.bits, IntKind.signed] at hw
  omega
theorem good_ints {n : Nat} {x : D} (h : Go.Ab.Good Tryd.prog (n + 2) 33 x) : ∃ z l, x = .sl 1 z (ints l) [] ∧ Len l := by
  unfold Go.Ab.Good at h
  rw [Tryd.underlying33] at h
  obtain ⟨z, xs, rfl, h1, h2, _⟩ := h
  have hc : Tryd.prog.cellsOf 3 = 1 := by kernel_rfl
  have hb : Tryd.prog.bytesOf 3 = 8 := by kernel_rfl
  rw [hb] at h1
  rw [hc]
  obtain ⟨l, rfl, _⟩ := all_map (f := D.int .i64) (Q := fun _ => True) (fun y hy => by obtain ⟨a, ha, _⟩ := good_int (h2 y hy); exact ⟨a, ha, trivial⟩)
  rw [List.length_map] at h1
  exact ⟨z, l, rfl, by unfold Len; simpa [reachBytes] using h1⟩
theorem good_rows {n : Nat} {x : D} (h : Go.Ab.Good Tryd.prog (n + 3) 24 x) : ∃ z rs, x = .sl 1 z (rws rs) [] ∧ rs.length * 24 ≤ 140737488351232 ∧ ∀ r ∈ rs, Len r.l := by
  unfold Go.Ab.Good at h
  rw [Tryd.underlying24] at h
  obtain ⟨z, xs, rfl, h1, h2, _⟩ := h
  have hc : Tryd.prog.cellsOf 33 = 1 := by kernel_rfl
  have hb : Tryd.prog.bytesOf 33 = 24 := by kernel_rfl
  rw [hb] at h1
  rw [hc]
  obtain ⟨rs, rfl, h4⟩ := all_map (f := Row.d) (Q := fun r => Len r.l) (fun y hy => by obtain ⟨z, l, h, hl⟩ := good_ints (h2 y hy); exact ⟨⟨z, l, []⟩, h, hl⟩)
  rw [List.length_map] at h1
  exact ⟨z, rs, rfl, by simpa [reachBytes] using h1, h4⟩
end Go.Proofs.YtjhganbjbiihoaaDoor.Ab

/- Literals, clauses as arguments. No condition. -/
set_option linter.unusedVariables false
set_option linter.unusedSimpArgs false
set_option maxRecDepth 100000
namespace Go.Proofs.YtjhganbjbiihoaaDoor.Ab
open Go Go.Ab Go.Qu Go.Proofs
theorem good_lit {n : Nat} {x : D} (h : Go.Ab.Good Tryd.prog (n + 3) 57 x) : ∃ l : LitR, x = l.d ∧ Len l.r.l := by
  unfold Go.Ab.Good at h
  rw [Tryd.underlying57] at h
  obtain ⟨ys, rfl, y0, r0, rfl, h0, y1, r1, rfl, h1, rfl⟩ := h
  obtain ⟨z, l, rfl, hl⟩ := good_ints h1
  unfold Go.Ab.Good at h0
  rw [Tryd.underlying4] at h0
  obtain ⟨b, rfl⟩ := h0
  exact ⟨⟨b, ⟨z, l, []⟩⟩, rfl, hl⟩
theorem good_lits {n : Nat} {x : D} (h : Go.Ab.Good Tryd.prog (n + 4) 23 x) : ∃ z ls, x = .sl 2 z (lits ls) [] ∧ LitsIn ls := by
  unfold Go.Ab.Good at h
  rw [Tryd.underlying23] at h
  obtain ⟨z, xs, rfl, h1, h2, _⟩ := h
  have hc : Tryd.prog.cellsOf 57 = 2 := by kernel_rfl
  have hb : Tryd.prog.bytesOf 57 = 32 := by kernel_rfl
  rw [hb] at h1
  rw [hc]
  obtain ⟨ls, rfl, h4⟩ := all_map (f := LitR.d) (Q := fun l => Len l.r.l) (fun y hy => by obtain ⟨l, hl, hk⟩ := good_lit (h2 y hy); exact ⟨l, hl, hk⟩)
  rw [List.length_map] at h1
  exact ⟨z, ls, rfl, by simpa [reachBytes] using h1, h4⟩
end Go.Proofs.YtjhganbjbiihoaaDoor.Ab

/- Arguments: rows that are nil have no codes. No condition. -/
set_option linter.unusedVariables false
set_option linter.unusedSimpArgs false
set_option maxRecDepth 100000
namespace Go.Proofs.YtjhganbjbiihoaaDoor.Ab
open Go Go.Ab Go.Qu Go.Proofs
theorem good_nil {n : Nat} {z : Bool} {l : List Int} (h : Go.Ab.Good Tryd.prog (n + 1) 33 (.sl 1 z (ints l) [])) : z = true → l = [] := by
  unfold Go.Ab.Good at h
  rw [Tryd.underlying33] at h
  obtain ⟨z', xs, he, _, _, h⟩ := h
  simp only [D.sl.injEq] at he
  obtain ⟨_, rfl, rfl, _⟩ := he
  intro hz
  have := congrArg List.length (h hz)
  rw [ints_len] at this
  exact List.length_eq_zero_iff.1 this
theorem good_litnil {n : Nat} {l : LitR} (h : Go.Ab.Good Tryd.prog (n + 3) 57 l.d) (he : l.r.e = []) : l.r.z = true → l.r.l = [] := by
  unfold Go.Ab.Good at h
  rw [Tryd.underlying57] at h
  obtain ⟨ys, hy, y0, r0, rfl, h0, y1, r1, rfl, h1, rfl⟩ := h
  unfold Go.Ab.Good at h0
  rw [Tryd.underlying4] at h0
  obtain ⟨b, rfl⟩ := h0
  obtain ⟨z, m, rfl, _⟩ := good_ints h1
  have h2 := good_nil (n := n + 1) h1
  simp only [LitR.d, List.flatMap_cons, List.flatMap_nil, D.cells, List.cons_append, List.nil_append, List.append_nil, D.agg.injEq, List.cons.injEq, D.bool.injEq, D.sl.injEq, and_true, true_and] at hy
  obtain ⟨_, hz, hm, _⟩ := hy
  intro hz'
  have h3 := h2 (hz ▸ hz')
  rw [h3] at hm
  have := congrArg List.length hm
  rw [ints_len] at this
  exact List.length_eq_zero_iff.1 (by simpa [ints_nil] using this)
theorem good_clauseN {n : Nat} {x : D} (h : Go.Ab.Good Tryd.prog (n + 5) 26 x) : ∃ c : Cl, x = c.d ∧ ClIn c ∧ NilC c := by
  have h' := h
  unfold Go.Ab.Good at h
  rw [Tryd.underlying26] at h
  obtain ⟨ys, rfl, y0, r0, rfl, h0, y1, r1, rfl, h1, y2, r2, rfl, h2, rfl⟩ := h
  obtain ⟨lz, ls, rfl, hls⟩ := good_lits h0
  obtain ⟨tz, ts, rfl, hts, hr⟩ := good_rows h1
  obtain ⟨cz, cs, rfl, hcs⟩ := good_lits h2
  have hL : ∀ {z : Bool} {ls : List LitR}, Go.Ab.Good Tryd.prog (n + 4) 23 (.sl 2 z (lits ls) []) → ∀ l ∈ ls, l.r.z = true → l.r.l = [] := by
    intro z ls hg l hl
    unfold Go.Ab.Good at hg
    rw [Tryd.underlying23] at hg
    obtain ⟨z', xs, he, _, hx, _⟩ := hg
    simp only [D.sl.injEq] at he
    obtain ⟨_, _, rfl, _⟩ := he
    have h5 := hx l.d (List.mem_map.2 ⟨l, hl, rfl⟩)
    obtain ⟨m, hm, _⟩ := good_lit h5
    have h6 : l.r.z = m.r.z ∧ ints l.r.l = ints m.r.l ∧ l.r.e = m.r.e := by
      have := hm
      simp only [LitR.d, D.agg.injEq, List.cons.injEq, D.bool.injEq, D.sl.injEq, and_true, true_and] at this
      exact ⟨this.2.1, this.2.2.1, this.2.2.2⟩
    have h7 : l.r.e = [] := by
      unfold Go.Ab.Good at h5
      rw [Tryd.underlying57] at h5
      obtain ⟨ys, hy, y0, r0, rfl, k0, y1, r1, rfl, k1, rfl⟩ := h5
      obtain ⟨z2, l2, rfl, _⟩ := good_ints k1
      unfold Go.Ab.Good at k0
      rw [Tryd.underlying4] at k0
      obtain ⟨b, rfl⟩ := k0
      simp only [LitR.d, List.flatMap_cons, List.flatMap_nil, D.cells, List.cons_append, List.nil_append, List.append_nil, D.agg.injEq, List.cons.injEq, D.bool.injEq, D.sl.injEq, and_true, true_and] at hy
      exact hy.2.2.2
    exact good_litnil (n := n) h5 h7
  refine ⟨⟨lz, ls, [], tz, ts, [], cz, cs, []⟩, rfl, ⟨hls, hts, hr, hcs⟩, fun r hr' => ?_⟩
  simp only [rowsOf, List.mem_append, List.mem_map] at hr'
  rcases hr' with (⟨l, hl, rfl⟩ | hr') | ⟨l, hl, rfl⟩
  · exact hL h0 l hl
  · unfold Go.Ab.Good at h1
    rw [Tryd.underlying24] at h1
    obtain ⟨z', xs, he, _, hx, _⟩ := h1
    simp only [D.sl.injEq] at he
    obtain ⟨_, _, rfl, _⟩ := he
    have h5 := hx r.d (List.mem_map.2 ⟨r, hr', rfl⟩)
    obtain ⟨z2, l2, he2, _⟩ := good_ints h5
    have h6 : r.e = [] := by
      simp only [Row.d, D.sl.injEq, true_and] at he2
      exact he2.2.2
    have h7 : r.d = .sl 1 r.z (ints r.l) [] := by rw [← h6]; rfl
    rw [h7] at h5
    exact good_nil (n := n + 2) h5
  · exact hL h2 l hl
end Go.Proofs.YtjhganbjbiihoaaDoor.Ab

/- Written by a program of this session (wip/tools/AbSym.lean). Not trusted: Lean checks it. -/
set_option maxRecDepth 100000
set_option linter.unusedVariables false
namespace Go.Proofs.YtjhganbjbiihoaaDoor.Ab
open Go Go.Ab Go.Proofs
def L7 : Lps := fun b => match b with
  | _ => [.norm []]
theorem q7 (C J) (z1 : Bool) (x2 : List D) (e3 : List D) (z4 : Bool) (x5 : List D) (e6 : List D) (z7 : Bool) (x8 : List D) (e9 : List D) (z10 : Bool) (x11 : List D) (e12 : List D) (i13 : Int) (z14 : Bool) (x15 : List D) (e16 : List D) (Q) : fnW F C R (L7) J d7 [.d (.sl 4 z1 x2 e3), .d (.agg [.sl 2 z4 x5 e6, .sl 1 z7 x8 e9, .sl 2 z10 x11 e12]), .d (.int .i64 i13), .d (.sl 1 z14 x15 e16)] Q = (∃ w0, C 23 [] = some (IV.d (D.bool w0), []) ∧ condW w0 ((∃ w1 w2 w3 w4 w5 w6 w7 w8 w9, C 24 [IV.d (D.sl 4 z1 x2 e3), IV.d (D.agg [D.sl 2 z4 x5 e6, D.sl 1 z7 x8 e9, D.sl 2 z10 x11 e12])] = some (IV.tup [IV.agg [IV.own w1 57 2 w2, IV.own w3 33 1 w4, IV.own w5 57 2 w6], IV.d (D.int IntKind.i64 w7)], [IV.d w8, IV.d w9]) ∧ ∃ w10 w11 w12 w13, C 14 [IV.d (D.sl 4 z1 x2 e3), IV.d (D.agg [D.sl 2 z4 x5 e6, D.sl 1 z7 x8 e9, D.sl 2 z10 x11 e12])] = some (IV.tup [IV.d (D.bool w10), IV.d (D.int IntKind.i64 w11)], [IV.d w12, IV.d w13]) ∧ condW w10 (∃ w14 w15 w16 w17 w18, C 12 [IV.d (D.sl 4 z1 x2 e3), IV.d (D.agg [D.sl 2 z4 x5 e6, D.sl 1 z7 x8 e9, D.sl 2 z10 x11 e12])] = some (IV.tup [IV.own w14 3 1 w15, IV.d (D.int IntKind.i64 w16)], [IV.d w17, IV.d w18]) ∧ ∃ w19 w20, C 20 [IV.d (D.int IntKind.i64 w7)] = some (IV.d (D.int IntKind.i64 w19), [IV.d w20]) ∧ condW (w19 != 0) (Q (some (IV.d (D.bool true), [IV.d (D.sl 4 z1 x2 e3), IV.d (D.agg [D.sl 2 z4 x5 e6, D.sl 1 z7 x8 e9, D.sl 2 z10 x11 e12]), IV.d (D.int IntKind.i64 i13), IV.d (D.sl 1 z14 x15 e16)]))) (∃ w21 w22, C 20 [IV.d (D.int IntKind.i64 w11)] = some (IV.d (D.int IntKind.i64 w21), [IV.d w22]) ∧ condW (w21 != 0) (Q (some (IV.d (D.bool false), [IV.d (D.sl 4 z1 x2 e3), IV.d (D.agg [D.sl 2 z4 x5 e6, D.sl 1 z7 x8 e9, D.sl 2 z10 x11 e12]), IV.d (D.int IntKind.i64 i13), IV.d (D.sl 1 z14 x15 e16)]))) (∃ w23 w24, C 20 [IV.d (D.int IntKind.i64 w16)] = some (IV.d (D.int IntKind.i64 w23), [IV.d w24]) ∧ condW (w23 != 0) (Q (some (IV.d (D.bool false), [IV.d (D.sl 4 z1 x2 e3), IV.d (D.agg [D.sl 2 z4 x5 e6, D.sl 1 z7 x8 e9, D.sl 2 z10 x11 e12]), IV.d (D.int IntKind.i64 i13), IV.d (D.sl 1 z14 x15 e16)]))) (∃ w25 w26 w27, C 18 [IV.d (D.sl 4 z1 x2 e3), IV.d (D.agg [D.sl 2 w1 w2 [], D.sl 1 w3 w4 [], D.sl 2 w5 w6 []])] = some (IV.d (D.bool w25), [IV.d w26, IV.d w27]) ∧ condW w25 (∃ w28 w29, C 27 [IV.d (D.sl 1 w14 w15 [])] = some (IV.d (D.bool w28), [IV.d w29]) ∧ condW w28 (condW ((↑(List.length x15) : Int) == 0) (Q (some (IV.d (D.bool true), [IV.d (D.sl 4 z1 x2 e3), IV.d (D.agg [D.sl 2 z4 x5 e6, D.sl 1 z7 x8 e9, D.sl 2 z10 x11 e12]), IV.d (D.int IntKind.i64 i13), IV.d (D.sl 1 z14 x15 e16)]))) (∃ w30 w31 w32 w33 w34 w35, C 28 [IV.d (D.int IntKind.i64 i13), IV.d (D.sl 1 z14 x15 e16)] = some (IV.d (D.agg [D.int IntKind.i64 w30, D.sl 1 w31 w32 w33]), [IV.d w34, IV.d w35]) ∧ ∃ w36 w37 w38 w39, C 29 [IV.d (D.agg [D.int IntKind.i64 w30, D.sl 1 w31 w32 w33]), IV.d (D.sl 4 z1 x2 e3), IV.d (D.agg [D.sl 2 z4 x5 e6, D.sl 1 z7 x8 e9, D.sl 2 z10 x11 e12])] = some (IV.d (D.bool w36), [IV.d w37, IV.d w38, IV.d w39]) ∧ condW w36 (∃ w40 w41 w42 w43, C 29 [IV.d (D.agg [D.int IntKind.i64 w30, D.sl 1 w31 w32 w33]), IV.d (D.sl 4 z1 x2 e3), IV.d (D.agg [D.sl 2 w1 w2 [], D.sl 1 w3 w4 [], D.sl 2 w5 w6 []])] = some (IV.d (D.bool w40), [IV.d w41, IV.d w42, IV.d w43]) ∧ condW w40 (Q (some (IV.d (D.bool true), [IV.d (D.sl 4 z1 x2 e3), IV.d (D.agg [D.sl 2 z4 x5 e6, D.sl 1 z7 x8 e9, D.sl 2 z10 x11 e12]), IV.d (D.int IntKind.i64 i13), IV.d (D.sl 1 z14 x15 e16)]))) (Q (some (IV.d (D.bool false), [IV.d (D.sl 4 z1 x2 e3), IV.d (D.agg [D.sl 2 z4 x5 e6, D.sl 1 z7 x8 e9, D.sl 2 z10 x11 e12]), IV.d (D.int IntKind.i64 i13), IV.d (D.sl 1 z14 x15 e16)])))) (∃ w44 w45 w46 w47, C 29 [IV.d (D.agg [D.int IntKind.i64 w30, D.sl 1 w31 w32 w33]), IV.d (D.sl 4 z1 x2 e3), IV.d (D.agg [D.sl 2 w1 w2 [], D.sl 1 w3 w4 [], D.sl 2 w5 w6 []])] = some (IV.d (D.bool w44), [IV.d w45, IV.d w46, IV.d w47]) ∧ condW w44 (Q (some (IV.d (D.bool false), [IV.d (D.sl 4 z1 x2 e3), IV.d (D.agg [D.sl 2 z4 x5 e6, D.sl 1 z7 x8 e9, D.sl 2 z10 x11 e12]), IV.d (D.int IntKind.i64 i13), IV.d (D.sl 1 z14 x15 e16)]))) (Q (some (IV.d (D.bool false), [IV.d (D.sl 4 z1 x2 e3), IV.d (D.agg [D.sl 2 z4 x5 e6, D.sl 1 z7 x8 e9, D.sl 2 z10 x11 e12]), IV.d (D.int IntKind.i64 i13), IV.d (D.sl 1 z14 x15 e16)])))))) (Q (some (IV.d (D.bool true), [IV.d (D.sl 4 z1 x2 e3), IV.d (D.agg [D.sl 2 z4 x5 e6, D.sl 1 z7 x8 e9, D.sl 2 z10 x11 e12]), IV.d (D.int IntKind.i64 i13), IV.d (D.sl 1 z14 x15 e16)])))) (Q (some (IV.d (D.bool false), [IV.d (D.sl 4 z1 x2 e3), IV.d (D.agg [D.sl 2 z4 x5 e6, D.sl 1 z7 x8 e9, D.sl 2 z10 x11 e12]), IV.d (D.int IntKind.i64 i13), IV.d (D.sl 1 z14 x15 e16)]))))))) (∃ w48 w49 w50 w51 w52, C 12 [IV.d (D.sl 4 z1 x2 e3), IV.d (D.agg [D.sl 2 z4 x5 e6, D.sl 1 z7 x8 e9, D.sl 2 z10 x11 e12])] = some (IV.tup [IV.own w48 3 1 w49, IV.d (D.int IntKind.i64 w50)], [IV.d w51, IV.d w52]) ∧ ∃ w53 w54, C 20 [IV.d (D.int IntKind.i64 w7)] = some (IV.d (D.int IntKind.i64 w53), [IV.d w54]) ∧ condW (w53 != 0) (Q (some (IV.d (D.bool true), [IV.d (D.sl 4 z1 x2 e3), IV.d (D.agg [D.sl 2 z4 x5 e6, D.sl 1 z7 x8 e9, D.sl 2 z10 x11 e12]), IV.d (D.int IntKind.i64 i13), IV.d (D.sl 1 z14 x15 e16)]))) (∃ w55 w56, C 20 [IV.d (D.int IntKind.i64 w11)] = some (IV.d (D.int IntKind.i64 w55), [IV.d w56]) ∧ condW (w55 != 0) (Q (some (IV.d (D.bool false), [IV.d (D.sl 4 z1 x2 e3), IV.d (D.agg [D.sl 2 z4 x5 e6, D.sl 1 z7 x8 e9, D.sl 2 z10 x11 e12]), IV.d (D.int IntKind.i64 i13), IV.d (D.sl 1 z14 x15 e16)]))) (∃ w57 w58, C 20 [IV.d (D.int IntKind.i64 w50)] = some (IV.d (D.int IntKind.i64 w57), [IV.d w58]) ∧ condW (w57 != 0) (Q (some (IV.d (D.bool false), [IV.d (D.sl 4 z1 x2 e3), IV.d (D.agg [D.sl 2 z4 x5 e6, D.sl 1 z7 x8 e9, D.sl 2 z10 x11 e12]), IV.d (D.int IntKind.i64 i13), IV.d (D.sl 1 z14 x15 e16)]))) (∃ w59 w60 w61, C 18 [IV.d (D.sl 4 z1 x2 e3), IV.d (D.agg [D.sl 2 w1 w2 [], D.sl 1 w3 w4 [], D.sl 2 w5 w6 []])] = some (IV.d (D.bool w59), [IV.d w60, IV.d w61]) ∧ condW w59 (∃ w62 w63, C 27 [IV.d (D.sl 1 w48 w49 [])] = some (IV.d (D.bool w62), [IV.d w63]) ∧ condW w62 (condW ((↑(List.length x15) : Int) == 0) (Q (some (IV.d (D.bool true), [IV.d (D.sl 4 z1 x2 e3), IV.d (D.agg [D.sl 2 z4 x5 e6, D.sl 1 z7 x8 e9, D.sl 2 z10 x11 e12]), IV.d (D.int IntKind.i64 i13), IV.d (D.sl 1 z14 x15 e16)]))) (∃ w64 w65 w66 w67 w68 w69, C 28 [IV.d (D.int IntKind.i64 i13), IV.d (D.sl 1 z14 x15 e16)] = some (IV.d (D.agg [D.int IntKind.i64 w64, D.sl 1 w65 w66 w67]), [IV.d w68, IV.d w69]) ∧ ∃ w70 w71 w72 w73, C 29 [IV.d (D.agg [D.int IntKind.i64 w64, D.sl 1 w65 w66 w67]), IV.d (D.sl 4 z1 x2 e3), IV.d (D.agg [D.sl 2 z4 x5 e6, D.sl 1 z7 x8 e9, D.sl 2 z10 x11 e12])] = some (IV.d (D.bool w70), [IV.d w71, IV.d w72, IV.d w73]) ∧ condW w70 (∃ w74 w75 w76 w77, C 29 [IV.d (D.agg [D.int IntKind.i64 w64, D.sl 1 w65 w66 w67]), IV.d (D.sl 4 z1 x2 e3), IV.d (D.agg [D.sl 2 w1 w2 [], D.sl 1 w3 w4 [], D.sl 2 w5 w6 []])] = some (IV.d (D.bool w74), [IV.d w75, IV.d w76, IV.d w77]) ∧ condW w74 (Q (some (IV.d (D.bool true), [IV.d (D.sl 4 z1 x2 e3), IV.d (D.agg [D.sl 2 z4 x5 e6, D.sl 1 z7 x8 e9, D.sl 2 z10 x11 e12]), IV.d (D.int IntKind.i64 i13), IV.d (D.sl 1 z14 x15 e16)]))) (Q (some (IV.d (D.bool false), [IV.d (D.sl 4 z1 x2 e3), IV.d (D.agg [D.sl 2 z4 x5 e6, D.sl 1 z7 x8 e9, D.sl 2 z10 x11 e12]), IV.d (D.int IntKind.i64 i13), IV.d (D.sl 1 z14 x15 e16)])))) (∃ w78 w79 w80 w81, C 29 [IV.d (D.agg [D.int IntKind.i64 w64, D.sl 1 w65 w66 w67]), IV.d (D.sl 4 z1 x2 e3), IV.d (D.agg [D.sl 2 w1 w2 [], D.sl 1 w3 w4 [], D.sl 2 w5 w6 []])] = some (IV.d (D.bool w78), [IV.d w79, IV.d w80, IV.d w81]) ∧ condW w78 (Q (some (IV.d (D.bool false), [IV.d (D.sl 4 z1 x2 e3), IV.d (D.agg [D.sl 2 z4 x5 e6, D.sl 1 z7 x8 e9, D.sl 2 z10 x11 e12]), IV.d (D.int IntKind.i64 i13), IV.d (D.sl 1 z14 x15 e16)]))) (Q (some (IV.d (D.bool true), [IV.d (D.sl 4 z1 x2 e3), IV.d (D.agg [D.sl 2 z4 x5 e6, D.sl 1 z7 x8 e9, D.sl 2 z10 x11 e12]), IV.d (D.int IntKind.i64 i13), IV.d (D.sl 1 z14 x15 e16)])))))) (Q (some (IV.d (D.bool true), [IV.d (D.sl 4 z1 x2 e3), IV.d (D.agg [D.sl 2 z4 x5 e6, D.sl 1 z7 x8 e9, D.sl 2 z10 x11 e12]), IV.d (D.int IntKind.i64 i13), IV.d (D.sl 1 z14 x15 e16)])))) (Q (some (IV.d (D.bool false), [IV.d (D.sl 4 z1 x2 e3), IV.d (D.agg [D.sl 2 z4 x5 e6, D.sl 1 z7 x8 e9, D.sl 2 z10 x11 e12]), IV.d (D.int IntKind.i64 i13), IV.d (D.sl 1 z14 x15 e16)])))))))) ∨ ∃ w82 w83 w84, C 24 [IV.d (D.sl 4 z1 x2 e3), IV.d (D.agg [D.sl 2 z4 x5 e6, D.sl 1 z7 x8 e9, D.sl 2 z10 x11 e12])] = some (IV.tup [IV.d (D.agg [D.sl 2 true [] [], D.sl 1 true [] [], D.sl 2 true [] []]), IV.d (D.int IntKind.i64 w82)], [IV.d w83, IV.d w84]) ∧ ∃ w85 w86 w87 w88, C 14 [IV.d (D.sl 4 z1 x2 e3), IV.d (D.agg [D.sl 2 z4 x5 e6, D.sl 1 z7 x8 e9, D.sl 2 z10 x11 e12])] = some (IV.tup [IV.d (D.bool w85), IV.d (D.int IntKind.i64 w86)], [IV.d w87, IV.d w88]) ∧ condW w85 (∃ w89 w90 w91 w92 w93, C 12 [IV.d (D.sl 4 z1 x2 e3), IV.d (D.agg [D.sl 2 z4 x5 e6, D.sl 1 z7 x8 e9, D.sl 2 z10 x11 e12])] = some (IV.tup [IV.own w89 3 1 w90, IV.d (D.int IntKind.i64 w91)], [IV.d w92, IV.d w93]) ∧ ∃ w94 w95, C 20 [IV.d (D.int IntKind.i64 w82)] = some (IV.d (D.int IntKind.i64 w94), [IV.d w95]) ∧ condW (w94 != 0) (Q (some (IV.d (D.bool true), [IV.d (D.sl 4 z1 x2 e3), IV.d (D.agg [D.sl 2 z4 x5 e6, D.sl 1 z7 x8 e9, D.sl 2 z10 x11 e12]), IV.d (D.int IntKind.i64 i13), IV.d (D.sl 1 z14 x15 e16)]))) (∃ w96 w97, C 20 [IV.d (D.int IntKind.i64 w86)] = some (IV.d (D.int IntKind.i64 w96), [IV.d w97]) ∧ condW (w96 != 0) (Q (some (IV.d (D.bool false), [IV.d (D.sl 4 z1 x2 e3), IV.d (D.agg [D.sl 2 z4 x5 e6, D.sl 1 z7 x8 e9, D.sl 2 z10 x11 e12]), IV.d (D.int IntKind.i64 i13), IV.d (D.sl 1 z14 x15 e16)]))) (∃ w98 w99, C 20 [IV.d (D.int IntKind.i64 w91)] = some (IV.d (D.int IntKind.i64 w98), [IV.d w99]) ∧ condW (w98 != 0) (Q (some (IV.d (D.bool false), [IV.d (D.sl 4 z1 x2 e3), IV.d (D.agg [D.sl 2 z4 x5 e6, D.sl 1 z7 x8 e9, D.sl 2 z10 x11 e12]), IV.d (D.int IntKind.i64 i13), IV.d (D.sl 1 z14 x15 e16)]))) (∃ w100 w101 w102, C 18 [IV.d (D.sl 4 z1 x2 e3), IV.d (D.agg [D.sl 2 true [] [], D.sl 1 true [] [], D.sl 2 true [] []])] = some (IV.d (D.bool w100), [IV.d w101, IV.d w102]) ∧ condW w100 (∃ w103 w104, C 27 [IV.d (D.sl 1 w89 w90 [])] = some (IV.d (D.bool w103), [IV.d w104]) ∧ condW w103 (condW ((↑(List.length x15) : Int) == 0) (Q (some (IV.d (D.bool true), [IV.d (D.sl 4 z1 x2 e3), IV.d (D.agg [D.sl 2 z4 x5 e6, D.sl 1 z7 x8 e9, D.sl 2 z10 x11 e12]), IV.d (D.int IntKind.i64 i13), IV.d (D.sl 1 z14 x15 e16)]))) (∃ w105 w106 w107 w108 w109 w110, C 28 [IV.d (D.int IntKind.i64 i13), IV.d (D.sl 1 z14 x15 e16)] = some (IV.d (D.agg [D.int IntKind.i64 w105, D.sl 1 w106 w107 w108]), [IV.d w109, IV.d w110]) ∧ ∃ w111 w112 w113 w114, C 29 [IV.d (D.agg [D.int IntKind.i64 w105, D.sl 1 w106 w107 w108]), IV.d (D.sl 4 z1 x2 e3), IV.d (D.agg [D.sl 2 z4 x5 e6, D.sl 1 z7 x8 e9, D.sl 2 z10 x11 e12])] = some (IV.d (D.bool w111), [IV.d w112, IV.d w113, IV.d w114]) ∧ condW w111 (∃ w115 w116 w117 w118, C 29 [IV.d (D.agg [D.int IntKind.i64 w105, D.sl 1 w106 w107 w108]), IV.d (D.sl 4 z1 x2 e3), IV.d (D.agg [D.sl 2 true [] [], D.sl 1 true [] [], D.sl 2 true [] []])] = some (IV.d (D.bool w115), [IV.d w116, IV.d w117, IV.d w118]) ∧ condW w115 (Q (some (IV.d (D.bool true), [IV.d (D.sl 4 z1 x2 e3), IV.d (D.agg [D.sl 2 z4 x5 e6, D.sl 1 z7 x8 e9, D.sl 2 z10 x11 e12]), IV.d (D.int IntKind.i64 i13), IV.d (D.sl 1 z14 x15 e16)]))) (Q (some (IV.d (D.bool false), [IV.d (D.sl 4 z1 x2 e3), IV.d (D.agg [D.sl 2 z4 x5 e6, D.sl 1 z7 x8 e9, D.sl 2 z10 x11 e12]), IV.d (D.int IntKind.i64 i13), IV.d (D.sl 1 z14 x15 e16)])))) (∃ w119 w120 w121 w122, C 29 [IV.d (D.agg [D.int IntKind.i64 w105, D.sl 1 w106 w107 w108]), IV.d (D.sl 4 z1 x2 e3), IV.d (D.agg [D.sl 2 true [] [], D.sl 1 true [] [], D.sl 2 true [] []])] = some (IV.d (D.bool w119), [IV.d w120, IV.d w121, IV.d w122]) ∧ condW w119 (Q (some (IV.d (D.bool false), [IV.d (D.sl 4 z1 x2 e3), IV.d (D.agg [D.sl 2 z4 x5 e6, D.sl 1 z7 x8 e9, D.sl 2 z10 x11 e12]), IV.d (D.int IntKind.i64 i13), IV.d (D.sl 1 z14 x15 e16)]))) (Q (some (IV.d (D.bool false), [IV.d (D.sl 4 z1 x2 e3), IV.d (D.agg [D.sl 2 z4 x5 e6, D.sl 1 z7 x8 e9, D.sl 2 z10 x11 e12]), IV.d (D.int IntKind.i64 i13), IV.d (D.sl 1 z14 x15 e16)])))))) (Q (some (IV.d (D.bool true), [IV.d (D.sl 4 z1 x2 e3), IV.d (D.agg [D.sl 2 z4 x5 e6, D.sl 1 z7 x8 e9, D.sl 2 z10 x11 e12]), IV.d (D.int IntKind.i64 i13), IV.d (D.sl 1 z14 x15 e16)])))) (Q (some (IV.d (D.bool false), [IV.d (D.sl 4 z1 x2 e3), IV.d (D.agg [D.sl 2 z4 x5 e6, D.sl 1 z7 x8 e9, D.sl 2 z10 x11 e12]), IV.d (D.int IntKind.i64 i13), IV.d (D.sl 1 z14 x15 e16)]))))))) (∃ w123 w124 w125 w126 w127, C 12 [IV.d (D.sl 4 z1 x2 e3), IV.d (D.agg [D.sl 2 z4 x5 e6, D.sl 1 z7 x8 e9, D.sl 2 z10 x11 e12])] = some (IV.tup [IV.own w123 3 1 w124, IV.d (D.int IntKind.i64 w125)], [IV.d w126, IV.d w127]) ∧ ∃ w128 w129, C 20 [IV.d (D.int IntKind.i64 w82)] = some (IV.d (D.int IntKind.i64 w128), [IV.d w129]) ∧ condW (w128 != 0) (Q (some (IV.d (D.bool true), [IV.d (D.sl 4 z1 x2 e3), IV.d (D.agg [D.sl 2 z4 x5 e6, D.sl 1 z7 x8 e9, D.sl 2 z10 x11 e12]), IV.d (D.int IntKind.i64 i13), IV.d (D.sl 1 z14 x15 e16)]))) (∃ w130 w131, C 20 [IV.d (D.int IntKind.i64 w86)] = some (IV.d (D.int IntKind.i64 w130), [IV.d w131]) ∧ condW (w130 != 0) (Q (some (IV.d (D.bool false), [IV.d (D.sl 4 z1 x2 e3), IV.d (D.agg [D.sl 2 z4 x5 e6, D.sl 1 z7 x8 e9, D.sl 2 z10 x11 e12]), IV.d (D.int IntKind.i64 i13), IV.d (D.sl 1 z14 x15 e16)]))) (∃ w132 w133, C 20 [IV.d (D.int IntKind.i64 w125)] = some (IV.d (D.int IntKind.i64 w132), [IV.d w133]) ∧ condW (w132 != 0) (Q (some (IV.d (D.bool false), [IV.d (D.sl 4 z1 x2 e3), IV.d (D.agg [D.sl 2 z4 x5 e6, D.sl 1 z7 x8 e9, D.sl 2 z10 x11 e12]), IV.d (D.int IntKind.i64 i13), IV.d (D.sl 1 z14 x15 e16)]))) (∃ w134 w135 w136, C 18 [IV.d (D.sl 4 z1 x2 e3), IV.d (D.agg [D.sl 2 true [] [], D.sl 1 true [] [], D.sl 2 true [] []])] = some (IV.d (D.bool w134), [IV.d w135, IV.d w136]) ∧ condW w134 (∃ w137 w138, C 27 [IV.d (D.sl 1 w123 w124 [])] = some (IV.d (D.bool w137), [IV.d w138]) ∧ condW w137 (condW ((↑(List.length x15) : Int) == 0) (Q (some (IV.d (D.bool true), [IV.d (D.sl 4 z1 x2 e3), IV.d (D.agg [D.sl 2 z4 x5 e6, D.sl 1 z7 x8 e9, D.sl 2 z10 x11 e12]), IV.d (D.int IntKind.i64 i13), IV.d (D.sl 1 z14 x15 e16)]))) (∃ w139 w140 w141 w142 w143 w144, C 28 [IV.d (D.int IntKind.i64 i13), IV.d (D.sl 1 z14 x15 e16)] = some (IV.d (D.agg [D.int IntKind.i64 w139, D.sl 1 w140 w141 w142]), [IV.d w143, IV.d w144]) ∧ ∃ w145 w146 w147 w148, C 29 [IV.d (D.agg [D.int IntKind.i64 w139, D.sl 1 w140 w141 w142]), IV.d (D.sl 4 z1 x2 e3), IV.d (D.agg [D.sl 2 z4 x5 e6, D.sl 1 z7 x8 e9, D.sl 2 z10 x11 e12])] = some (IV.d (D.bool w145), [IV.d w146, IV.d w147, IV.d w148]) ∧ condW w145 (∃ w149 w150 w151 w152, C 29 [IV.d (D.agg [D.int IntKind.i64 w139, D.sl 1 w140 w141 w142]), IV.d (D.sl 4 z1 x2 e3), IV.d (D.agg [D.sl 2 true [] [], D.sl 1 true [] [], D.sl 2 true [] []])] = some (IV.d (D.bool w149), [IV.d w150, IV.d w151, IV.d w152]) ∧ condW w149 (Q (some (IV.d (D.bool true), [IV.d (D.sl 4 z1 x2 e3), IV.d (D.agg [D.sl 2 z4 x5 e6, D.sl 1 z7 x8 e9, D.sl 2 z10 x11 e12]), IV.d (D.int IntKind.i64 i13), IV.d (D.sl 1 z14 x15 e16)]))) (Q (some (IV.d (D.bool false), [IV.d (D.sl 4 z1 x2 e3), IV.d (D.agg [D.sl 2 z4 x5 e6, D.sl 1 z7 x8 e9, D.sl 2 z10 x11 e12]), IV.d (D.int IntKind.i64 i13), IV.d (D.sl 1 z14 x15 e16)])))) (∃ w153 w154 w155 w156, C 29 [IV.d (D.agg [D.int IntKind.i64 w139, D.sl 1 w140 w141 w142]), IV.d (D.sl 4 z1 x2 e3), IV.d (D.agg [D.sl 2 true [] [], D.sl 1 true [] [], D.sl 2 true [] []])] = some (IV.d (D.bool w153), [IV.d w154, IV.d w155, IV.d w156]) ∧ condW w153 (Q (some (IV.d (D.bool false), [IV.d (D.sl 4 z1 x2 e3), IV.d (D.agg [D.sl 2 z4 x5 e6, D.sl 1 z7 x8 e9, D.sl 2 z10 x11 e12]), IV.d (D.int IntKind.i64 i13), IV.d (D.sl 1 z14 x15 e16)]))) (Q (some (IV.d (D.bool true), [IV.d (D.sl 4 z1 x2 e3), IV.d (D.agg [D.sl 2 z4 x5 e6, D.sl 1 z7 x8 e9, D.sl 2 z10 x11 e12]), IV.d (D.int IntKind.i64 i13), IV.d (D.sl 1 z14 x15 e16)])))))) (Q (some (IV.d (D.bool true), [IV.d (D.sl 4 z1 x2 e3), IV.d (D.agg [D.sl 2 z4 x5 e6, D.sl 1 z7 x8 e9, D.sl 2 z10 x11 e12]), IV.d (D.int IntKind.i64 i13), IV.d (D.sl 1 z14 x15 e16)])))) (Q (some (IV.d (D.bool false), [IV.d (D.sl 4 z1 x2 e3), IV.d (D.agg [D.sl 2 z4 x5 e6, D.sl 1 z7 x8 e9, D.sl 2 z10 x11 e12]), IV.d (D.int IntKind.i64 i13), IV.d (D.sl 1 z14 x15 e16)])))))))) (Q (some (IV.d (D.bool false), [IV.d (D.sl 4 z1 x2 e3), IV.d (D.agg [D.sl 2 z4 x5 e6, D.sl 1 z7 x8 e9, D.sl 2 z10 x11 e12]), IV.d (D.int IntKind.i64 i13), IV.d (D.sl 1 z14 x15 e16)])))) := by kernel_rfl
end Go.Proofs.YtjhganbjbiihoaaDoor.Ab

/- A function's value from a table of what its calls tell. No condition. -/
set_option linter.unusedVariables false
set_option linter.unusedSimpArgs false
namespace Go.Ab
open Go
mutual
/-- Are two data the same? (Told of some kinds alone.) -/
def D.same : D → D → Bool
  | .int .i64 n, .int .i64 m => decide (n = m)
  | .bool a, .bool b => a == b
  | .str s, .str t => decide (s.data.toList = t.data.toList)
  | .sl a z xs e, .sl b y us f => decide (a = b) && (z == y && (D.sames xs us && D.sames e f))
  | .agg xs, .agg us => D.sames xs us
  | _, _ => false
def D.sames : List D → List D → Bool
  | [], [] => true
  | x :: xs, u :: us => D.same x u && D.sames xs us
  | _, _ => false
end
mutual
theorem D.same_eq : ∀ {x u : D}, D.same x u = true → x = u
  | .int .i64 n, .int .i64 m, h => by
    unfold D.same at h
    rw [of_decide_eq_true h]
  | .bool a, .bool b, h => by
    unfold D.same at h
    rw [eq_of_beq h]
  | .str s, .str t, h => by
    unfold D.same at h
    have h1 := of_decide_eq_true h
    cases s with
    | mk s =>
      cases t with
      | mk t =>
        cases s with
        | mk s =>
          cases t with
          | mk t =>
            have h2 : s = t := h1
            rw [h2]
  | .sl a z xs e, .sl b y us f, h => by
    unfold D.same at h
    simp only [Bool.and_eq_true, decide_eq_true_eq, beq_iff_eq] at h
    obtain ⟨h1, h2, h3, h4⟩ := h
    rw [h1, h2, D.sames_eq h3, D.sames_eq h4]
  | .agg xs, .agg us, h => by
    unfold D.same at h
    rw [D.sames_eq h]
theorem D.sames_eq : ∀ {xs us : List D}, D.sames xs us = true → xs = us
  | [], [], h => rfl
  | x :: xs, u :: us, h => by
    unfold D.sames at h
    rw [Bool.and_eq_true] at h
    rw [D.same_eq h.1, D.sames_eq h.2]
  | [], u :: us, h => by unfold D.sames at h; cases h
  | x :: xs, [], h => by unfold D.sames at h; cases h
end
def sameArgs : List IV → List IV → Bool
  | [], [] => true
  | .d x :: xs, .d u :: us => D.same x u && sameArgs xs us
  | _, _ => false
theorem sameArgs_eq : ∀ {xs us : List IV}, sameArgs xs us = true → xs = us
  | [], [], _ => rfl
  | .d x :: xs, .d u :: us, h => by
    unfold sameArgs at h
    rw [Bool.and_eq_true] at h
    rw [D.same_eq h.1, sameArgs_eq h.2]
abbrev Tbl := List (FuncId × List IV × (IV × List IV))
def tblC : Tbl → Caller
  | [], _, _ => none
  | e :: t, f, args => if e.1 = f ∧ sameArgs e.2.1 args = true then some e.2.2 else tblC t f args
theorem tbl_le {C : Caller} : ∀ {t : Tbl}, (∀ e ∈ t, C e.1 e.2.1 = some e.2.2) → CLe (tblC t) C
  | [], _ => fun f args r h => by unfold tblC at h; cases h
  | e :: t, ht => fun f args r h => by
    unfold tblC at h
    split at h
    · rename_i hh
      have h2 := ht e (by simp)
      rw [hh.1, sameArgs_eq hh.2] at h2
      rw [h2]; exact h
    · exact tbl_le (fun e he => ht e (by simp [he])) f args r h
theorem tbl_up {F : Fx} : ∀ {t : Tbl}, (∀ e ∈ t, W F e.1 e.2.1 = some e.2.2) → ∃ n, ∀ e ∈ t, evF F n e.1 e.2.1 = some e.2.2
  | [], _ => ⟨0, by simp⟩
  | e :: t, ht => by
    obtain ⟨n, hn⟩ := tbl_up (t := t) (fun e he => ht e (by simp [he]))
    obtain ⟨m, hm⟩ := lim_up (ht e (by simp))
    refine ⟨n + m, fun x hx => ?_⟩
    rcases List.mem_cons.1 hx with rfl | hx
    · exact evF_from hm (by omega)
    · exact evF_from (hn x hx) (by omega)
theorem evFn_from {F : Fx} {C : Caller} {d : FnD} {args : List IV} {r : IV × List IV} {n : Nat} (h : evFn F C n d args = some r) : ∀ k, evFn F C (n + k) d args = some r
  | 0 => h
  | k + 1 => evFn_le (CLe.refl C) (evFn_from h k)
theorem W_tbl {F : Fx} {f : FuncId} {d : FnD} {args : List IV} {r : IV × List IV} {n : Nat} (t : Tbl) (hp : F.prim f = none) (hc : F.code f = some d) (ht : ∀ e ∈ t, W F e.1 e.2.1 = some e.2.2) (h : evFn F (tblC t) n d args = some r) : W F f args = some r := by
  obtain ⟨m, hm⟩ := tbl_up ht
  have h1 : CLe (tblC t) (evF F (m + n + 1)) := tbl_le (fun e he => evF_from (hm e he) (by omega))
  have h2 := evFn_from (evFn_le h1 h) m
  rw [show n + 1 + m = m + n + 1 by omega] at h2
  refine lim_of (n := m + n + 1 + 1) (fun n r h => evF_le n _ _ _ h) ?_
  show (match F.prim f with | some p => p args | none => match F.code f with | some fn => evFn F (evF F (m + n + 1)) (m + n + 1) fn args | none => none) = _
  rw [hp, hc]
  exact h2
end Go.Ab

/- The words that chapter 8's laws ask first: true. No condition. -/
set_option linter.unusedVariables false
set_option linter.unusedSimpArgs false
set_option maxRecDepth 100000
namespace Go.Proofs.YtjhganbjbiihoaaDoor.Ab
open Go Go.Ab Go.Qu Go.Proofs
def awG : List Sym := [⟨⟨#[61]⟩, 0, 2, 1⟩, ⟨⟨#[97]⟩, 1, 0, 1⟩, ⟨⟨#[98]⟩, 1, 0, 2⟩, ⟨⟨#[102]⟩, 1, 1, 1⟩, ⟨⟨#[103]⟩, 1, 2, 3⟩, ⟨⟨#[112]⟩, 0, 1, 1⟩, ⟨⟨#[114]⟩, 0, 2, 2⟩]
def awA : Cl := ⟨false, [⟨false, ⟨false, [5, -3], []⟩⟩, ⟨true, ⟨false, [6, -3, -6], []⟩⟩, ⟨false, ⟨false, [5, -3], []⟩⟩], [], false, [⟨false, [-6], []⟩], [], true, [], []⟩
def awD : Cl := ⟨false, [⟨false, ⟨false, [5, -1], []⟩⟩, ⟨true, ⟨false, [6, -1, -2], []⟩⟩], [], false, [⟨false, [-2], []⟩], [], true, [], []⟩
def awT : Cl := ⟨false, [⟨false, ⟨false, [0, 1, 1], []⟩⟩], [], true, [], [], true, [], []⟩
def awE : Cl := ⟨false, [⟨false, ⟨false, [3, 1], []⟩⟩], [], true, [], [], true, [], []⟩
theorem awA_nil : NilC awA := fun r hr hz => by
  simp [rowsOf, awA] at hr
  rcases hr with rfl | rfl | rfl | rfl <;> cases hz
theorem awD_nil : NilC awD := fun r hr hz => by
  simp [rowsOf, awD] at hr
  rcases hr with rfl | rfl | rfl <;> cases hz
theorem awE_nil : NilC awE := fun r hr hz => by
  simp [rowsOf, awE] at hr
  subst hr; cases hz
theorem awA_may : clB awG awA = true := by decide +kernel
theorem awD_may : clB awG awD = true := by decide +kernel
theorem awT_may : clB awG awT = true := by decide +kernel
theorem awE_may : clB awG awE = false := by decide +kernel
theorem awA_new : oC (anewC awA) = .agg [.own false 57 2 (lits awD.ls), .own false 33 1 (rws awD.ts), .own true 57 2 []] := by rfl
theorem aw_normal : C 24 [iG false awG [], iC awA] = some (.tup [.agg [.own false 57 2 (lits awD.ls), .own false 33 1 (rws awD.ts), .own true 57 2 []], iI 0], [iG false awG [], iC awA]) := by
  have h := w_normal false awG [] awA_nil
  rw [awA_may, if_pos rfl, awA_new] at h
  exact h
theorem aw_bad : C 24 [iG false awG [], iC awE] = some (.tup [.d (.agg [.sl 2 true [] [], .sl 1 true [] [], .sl 2 true [] []]), iI 800], [iG false awG [], iC awE]) := by
  have h := w_normal false awG [] awE_nil
  rw [awE_may] at h
  exact h
theorem aw_wt : wtL awG awA.c.ls = 8 := by decide +kernel
theorem aw_weight : C 10 [iG false awG [], iC awA] = some (.tup [iI 8, iI 0], [iG false awG [], iC awA]) := by
  have h := w_clweight false awG [] awA
  rw [awA_may, if_pos rfl, if_pos rfl, aw_wt] at h
  exact h
theorem aw_vs : varsC awA.c.rows = [2, 5] := by decide +kernel
theorem aw_vars : C 12 [iG false awG [], iC awA] = some (.tup [.own false 3 1 (ints [2, 5]), iI 0], [iG false awG [], iC awA]) := by
  have h := w_clvars false awG [] awA_nil
  rw [awA_may, if_pos rfl, if_pos rfl, aw_vs] at h
  exact h
theorem aw_tr : trivB awG awT.c.ls = true := by
  rw [trivB, List.any_eq_true]
  refine ⟨(false, [0, 1, 1]), by simp [awT, Cl.c, LitR.c], ?_⟩
  have h1 := parts_one (g := awG) (r := [1, 1]) (k := 1) (by decide +kernel)
  have h2 : parts awG [1, 1] = some [[1], [1]] := by
    have h3 := parts_some (g := awG) (r := [1, 1]) (k := 1) (by simp) (by decide +kernel)
    have h4 := parts_some (g := awG) (r := [1]) (k := 1) (by simp) (by decide +kernel)
    have h5 : parts awG [] = some [] := parts_nil awG
    simp only [List.drop_succ_cons, List.drop_zero, List.take_succ_cons, List.take_zero] at h3 h4
    rw [h3, h4, h5]
    rfl
  simp only [selfB, List.tail_cons, h2]
  rfl
theorem aw_trivial : C 14 [iG false awG [], iC awT] = some (.tup [iB true, iI 0], [iG false awG [], iC awT]) := by
  have h := w_trivial false awG [] awT
  rw [awT_may, if_pos rfl, aw_tr] at h
  exact h
theorem aw_nc : normC awA.c = normC awD.c := by rfl
theorem aw_variant : C 16 [iG false awG [], iC awA, iC awD] = some (.tup [iB true, iI 0], [iG false awG [], iC awA, iC awD]) := by
  have h := w_variant false awG [] awA_nil awD_nil
  rw [awA_may, awD_may, aw_nc, decide_eq_true rfl] at h
  exact h
theorem aw_in : ClIn awD := ⟨⟨by simp [awD], fun l hl => by
    simp [awD] at hl
    rcases hl with rfl | rfl <;> (unfold Len; simp)⟩, by simp [awD], fun r hr => by
    simp [awD] at hr
    subst hr; unfold Len; simp, ⟨by simp [awD], fun l hl => by simp [awD] at hl⟩⟩
theorem aw_same : C 22 [iC awD, iC awD] = some (iB true, [iC awD, iC awD]) := by
  rw [w_sameclause aw_in awD]; simp
theorem aw_ints : C 21 [iS false [2, 5] [], iS false [2, 5] []] = some (iB true, [iS false [2, 5] [], iS false [2, 5] []]) := by
  have h := w_sameints (a := [2, 5]) (by unfold Len; simp) [2, 5] false false [] []
  rw [decide_eq_true rfl] at h
  exact h
theorem w_words : C 30 [] = some (.own false 88 4 (syms awG), []) := W_ev (n := 60) (by kernel_rfl)
theorem aw_may : C 18 [iG false awG [], iC awA] = some (iB true, [iG false awG [], iC awA]) := by
  have h := w_clmay false awG [] awA
  rw [awA_may] at h
  exact h
def awTbl : Tbl := [(30, [], (.own false 88 4 (syms awG), [])),
  (24, [iG false awG [], iC awA], (.tup [.agg [.own false 57 2 (lits awD.ls), .own false 33 1 (rws awD.ts), .own true 57 2 []], iI 0], [iG false awG [], iC awA])),
  (10, [iG false awG [], iC awA], (.tup [iI 8, iI 0], [iG false awG [], iC awA])),
  (12, [iG false awG [], iC awA], (.tup [.own false 3 1 (ints [2, 5]), iI 0], [iG false awG [], iC awA])),
  (14, [iG false awG [], iC awT], (.tup [iB true, iI 0], [iG false awG [], iC awT])),
  (16, [iG false awG [], iC awA, iC awD], (.tup [iB true, iI 0], [iG false awG [], iC awA, iC awD])),
  (24, [iG false awG [], iC awE], (.tup [.d (.agg [.sl 2 true [] [], .sl 1 true [] [], .sl 2 true [] []]), iI 800], [iG false awG [], iC awE])),
  (20, [iI 0], (iI 0, [iI 0])), (20, [iI 800], (iI 800, [iI 800])),
  (22, [iC awD, iC awD], (iB true, [iC awD, iC awD])),
  (21, [iS false [2, 5] [], iS false [2, 5] []], (iB true, [iS false [2, 5] [], iS false [2, 5] []])),
  (18, [iG false awG [], iC awA], (iB true, [iG false awG [], iC awA]))]
theorem awTbl_ok : ∀ e ∈ awTbl, C e.1 e.2.1 = some e.2.2 := by
  intro e he
  simp only [awTbl, List.mem_cons, List.not_mem_nil, or_false] at he
  rcases he with rfl | rfl | rfl | rfl | rfl | rfl | rfl | rfl | rfl | rfl | rfl | rfl
  · exact w_words
  · exact aw_normal
  · exact aw_weight
  · exact aw_vars
  · exact aw_trivial
  · exact aw_variant
  · exact aw_bad
  · exact w_num 0
  · exact w_num 800
  · exact aw_same
  · exact aw_ints
  · exact aw_may
theorem w_awake : C 23 [] = some (iB true, []) := W_tbl (n := 60) awTbl rfl rfl awTbl_ok (by kernel_rfl)
end Go.Proofs.YtjhganbjbiihoaaDoor.Ab

/- Chapter 8's law ClauseHolds: for every input the law returns true. No condition. -/
set_option linter.unusedVariables false
set_option linter.unusedSimpArgs false
set_option maxRecDepth 100000
namespace Go.Proofs.YtjhganbjbiihoaaDoor.Ab
open Go Go.Ab Go.Qu Go.Proofs
theorem law_clholds (z : Bool) (g : List Sym) {c : Cl} (hn : NilC c) (i : Int) (zn : Bool) {ns : List Int} (hns : Len ns) : C 7 [iG z g [], iC c, iI i, iS zn ns []] = some (iB true, [iG z g [], iC c, iI i, iS zn ns []]) := by
  refine wfn (lk := []) rfl rfl (fnW_way (q7 _ _ z (syms g) [] c.lz (lits c.ls) c.le c.tz (rws c.ts) c.te c.cz (lits c.cs) c.ce i zn (ints ns) [] _) ?_)
  have h1 := w_normal z g [] hn
  have h2 := w_trivial z g [] c
  have v1 := w_clvars z g [] hn
  refine ⟨_, w_awake, condW_t rfl ?_⟩
  cases hc : clB g c with
  | false =>
    rw [hc] at h1 h2 v1
    exact .inr ⟨_, _, _, h1, _, _, _, _, h2, condW_f rfl ⟨_, _, _, _, _, v1, _, _, w_num _, condW_t rfl rfl⟩⟩
  | true =>
  rw [hc] at h1 h2 v1
  rw [if_pos rfl] at h1
  rw [if_pos rfl, if_pos rfl] at v1
  rw [Bool.true_and, if_pos rfl] at h2
  have hc2 := anew_ok hc
  have may := w_clmay z g [] (anewC c)
  rw [hc2] at may
  have hk := clOk.1 ((clB_c g c).symm.trans hc)
  have hg := sigOk hk.sg
  have hs := size_in i
  obtain ⟨b1, p1, m1⟩ := w_mclause hg hs z zn hns [] [] hc
  obtain ⟨b2, p2, m2⟩ := w_mclause hg hs z zn hns [] [] hc2
  have hnorm := holds_norm (tv := tvM (sizeM i) ns) (pv := pvM ns) (qv := qvM ns) hk (sizeM i)
  have e2 : b2 = b1 := Bool.eq_iff_iff.2 (p2.trans (Iff.trans (by unfold holdsM; rw [anew_c]; exact hnorm) p1.symm))
  subst e2
  have hfew := w_few (vs := varsC c.c.rows) (varsC c.c.rows).isEmpty []
  have hnew := w_new i zn ns []
  refine .inl ⟨_, _, _, _, _, _, _, _, _, h1, _, _, _, _, h2, ?_⟩
  cases ht : trivB g c.c.ls with
  | true =>
    have hb : b2 = true := p1.2 (fun ds _ _ => here_triv hk ht _)
    subst hb
    refine condW_t rfl ⟨_, _, _, _, _, v1, _, _, w_num _, condW_f rfl ⟨_, _, w_num _, condW_f rfl ⟨_, _, w_num _, condW_f rfl ⟨_, _, _, may, condW_t rfl ⟨_, _, hfew, ?_⟩⟩⟩⟩⟩
    cases f1 : decide ((varsC c.c.rows).length ≤ 6) with
    | false => exact condW_f rfl rfl
    | true =>
      refine condW_t rfl ?_
      by_cases hnn : ns = []
      · subst hnn
        exact condW_t rfl rfl
      have hpos := List.length_pos_iff.2 hnn
      exact condW_f (by rw [ints_len]; simp; omega) ⟨_, _, _, _, _, _, hnew, _, _, _, _, m1, condW_t rfl ⟨_, _, _, _, m2, condW_t rfl rfl⟩⟩
  | false =>
    refine condW_f rfl ⟨_, _, _, _, _, v1, _, _, w_num _, condW_f rfl ⟨_, _, w_num _, condW_f rfl ⟨_, _, w_num _, condW_f rfl ⟨_, _, _, may, condW_t rfl ⟨_, _, hfew, ?_⟩⟩⟩⟩⟩
    cases f1 : decide ((varsC c.c.rows).length ≤ 6) with
    | false => exact condW_f rfl rfl
    | true =>
      refine condW_t rfl ?_
      by_cases hnn : ns = []
      · subst hnn
        exact condW_t rfl rfl
      have hpos := List.length_pos_iff.2 hnn
      refine condW_f (by rw [ints_len]; simp; omega) ⟨_, _, _, _, _, _, hnew, _, _, _, _, m1, ?_⟩
      cases b2
      · exact condW_f rfl ⟨_, _, _, _, m2, condW_f rfl rfl⟩
      · exact condW_t rfl ⟨_, _, _, _, m2, condW_t rfl rfl⟩
theorem call_clholds (y0 y1 y2 y3 : D) (g0 : Go.Ab.Good Tryd.prog 12 22 y0) (g1 : Go.Ab.Good Tryd.prog 12 26 y1) (g2 : Go.Ab.Good Tryd.prog 12 3 y2) (g3 : Go.Ab.Good Tryd.prog 12 33 y3) : ∃ outs, C 7 [.d y0, .d y1, .d y2, .d y3] = some (iB true, outs) := by
  obtain ⟨z, g, rfl⟩ := good_sig g0
  obtain ⟨c, rfl, _, hn⟩ := good_clauseN g1
  obtain ⟨i, rfl, _⟩ := good_int g2
  obtain ⟨zn, ns, rfl, hns⟩ := good_ints g3
  exact ⟨_, law_clholds z g hn i zn hns⟩
end Go.Proofs.YtjhganbjbiihoaaDoor.Ab
