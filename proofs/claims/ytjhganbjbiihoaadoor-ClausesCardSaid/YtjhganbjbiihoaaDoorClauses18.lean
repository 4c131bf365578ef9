/- What the rows of this seat share: the variable that is laid, the world in which it is so. No condition. -/
import Derived.Below
import Derived.ChangeOld
import Derived.LaidMore
import Derived.Lib.SmallJoins
import Derived.OpenShut
import Derived.ProofKit
import Derived.SevenTiedAt
import Derived.ShutString
import Derived.SizedLaws
import Derived.Stop.Joined
import Derived.Test.YtjhganbjbiihoaaDoorCards
import Derived.Test.YtjhganbjbiihoaaDoorRows
import Derived.Test.YtjhganbjbiihoaaDoorTie
import Derived.WalkKit
import Derived.Test.YtjhganbjbiihoaaDoorClauses0
import Derived.Test.YtjhganbjbiihoaaDoorClauses1
import Derived.Test.YtjhganbjbiihoaaDoorClauses2
import Derived.Test.YtjhganbjbiihoaaDoorClauses3
import Derived.Test.YtjhganbjbiihoaaDoorClauses4
import Derived.Test.YtjhganbjbiihoaaDoorClauses5
import Derived.Test.YtjhganbjbiihoaaDoorClauses6
import Derived.Test.YtjhganbjbiihoaaDoorClauses7
import Derived.Test.YtjhganbjbiihoaaDoorClauses8
import Derived.Test.YtjhganbjbiihoaaDoorClauses9
import Derived.Test.YtjhganbjbiihoaaDoorClauses10
import Derived.Test.YtjhganbjbiihoaaDoorClauses11
import Derived.Test.YtjhganbjbiihoaaDoorClauses12
import Derived.Test.YtjhganbjbiihoaaDoorClauses13
import Derived.Test.YtjhganbjbiihoaaDoorClauses14
import Derived.Test.YtjhganbjbiihoaaDoorClauses15
import Derived.Test.YtjhganbjbiihoaaDoorClauses16
import Derived.Test.YtjhganbjbiihoaaDoorClauses17
namespace Go.Proofs.YtjhganbjbiihoaaDoor.Ab
open Go Go.Ab Go.Qu Go.Proofs Go.ChangeShapes Go.WideShapes Go.ChangeAt Go.RowKit Go.Joins
set_option linter.unusedVariables false
set_option maxRecDepth 100000
theorem own : ownKnob Tryd.prog.godebug = none := by kernel_rfl
theorem laidOut : laidOutB Tryd.prog = true := by kernel_rfl
abbrev laid1 : List (String × DataW Unit) := [("quaere/sign.equals", Rows.laid_quaere_sign_equals)]
theorem gEq : Tryd.prog.globalNamed "quaere/sign.equals" = some 0 := by kernel_rfl
theorem tEq : (Tryd.prog.globals[0]?).map (·.type) = some 88 := by kernel_rfl
theorem door_met (os : Os) (args : Array Value) : laidMetH Tryd.prog laid1 ((World.doorLaid Tryd.prog 400 os).forCall (fun _ _ => 0) ⟨#[], args, []⟩).memory :=
  laidMetH_of_parts3 (fuel := 8) (laidMet_of_run' 8 (by kernel_rfl) (by kernel_rfl)) (by kernel_rfl) (by kernel_rfl)
theorem globs {W : World} (h : laidMetH Tryd.prog laid1 W) : GlobOk (Hw W) F.G := by
  rw [MakeChecks.laidMetH_plain _ _ _ (by kernel_rfl)] at h
  obtain ⟨ps, ⟨g0, t0, cs0, f0, p0, q0, hg0, ht0, hv0, hd0, _, _⟩, _, _⟩ := h
  obtain rfl := Option.some.inj (gEq.symm.trans hg0)
  obtain rfl := Option.some.inj (tEq.symm.trans ht0)
  obtain ⟨xs, n, _, hx, hlen, hxl, hf⟩ := DataW.trod_struct Tryd.underlying88 hd0
  have c1 : Tryd.prog.cellsOf 88 = 4 := by kernel_rfl
  have cs : Tryd.prog.cellsOf 9 = 1 := by kernel_rfl
  have ci : Tryd.prog.cellsOf 3 = 1 := by kernel_rfl
  rw [c1] at hlen
  have hx1 : xs.map (·.1) = [.lit (.string [61]), .lit (.int .i64 0), .lit (.int .i64 2), .lit (.int .i64 1)] := by
    simp only [Prod.mk.injEq] at hx
    have h9 := hx.1
    unfold Rows.laid_quaere_sign_equals at h9
    simp only [DataW.agg.injEq] at h9
    exact h9.symm
  have hcs : ∃ a b c d, cs0.toList = [a, b, c, d] := by
    match h : cs0.toList, hlen with
    | [a, b, c, d], _ => exact ⟨a, b, c, d, rfl⟩
  obtain ⟨a, b, c, d, hcs⟩ := hcs
  have hxs : ∃ x0 x1 x2 x3, xs = [x0, x1, x2, x3] := by
    match xs, hxl with
    | [x0, x1, x2, x3], _ => exact ⟨x0, x1, x2, x3, rfl⟩
  obtain ⟨x0, x1, x2, x3, rfl⟩ := hxs
  simp only [List.map_cons, List.map_nil, List.cons.injEq, and_true] at hx1
  obtain ⟨e0, e1, e2, e3⟩ := hx1
  have h0 : DataW.trod (fun _ => ()) Tryd.prog W 0 (fun _ => true) false n 9 ((cs0.toList.drop 0).take (Tryd.prog.cellsOf 9)) = some x0 := hf 0 _ rfl
  have h1 : DataW.trod (fun _ => ()) Tryd.prog W 0 (fun _ => true) false n 3 ((cs0.toList.drop 1).take (Tryd.prog.cellsOf 3)) = some x1 := hf 1 _ rfl
  have h2 : DataW.trod (fun _ => ()) Tryd.prog W 0 (fun _ => true) false n 3 ((cs0.toList.drop 2).take (Tryd.prog.cellsOf 3)) = some x2 := hf 2 _ rfl
  have h3 : DataW.trod (fun _ => ()) Tryd.prog W 0 (fun _ => true) false n 3 ((cs0.toList.drop 3).take (Tryd.prog.cellsOf 3)) = some x3 := hf 3 _ rfl
  rw [hcs, cs] at h0
  rw [hcs, ci] at h1 h2 h3
  obtain ⟨s, ha, hs, _⟩ := DataW.trod_string Tryd.underlying9 h0
  obtain ⟨n1, hb, hn1, _⟩ := DataW.trod_int Tryd.underlying3 h1
  obtain ⟨n2, hc, hn2, _⟩ := DataW.trod_int Tryd.underlying3 h2
  obtain ⟨n3, hd, hn3, _⟩ := DataW.trod_int Tryd.underlying3 h3
  simp at ha hb hc hd
  rw [hs] at e0; rw [hn1] at e1; rw [hn2] at e2; rw [hn3] at e3
  simp at e0 e1 e2 e3
  subst ha hb hc hd e1 e2 e3
  have hse : s = "=".toUTF8 := by
    have h5 : "=".toUTF8.data.toList = [61] := by decide +kernel
    have h6 : s.data = "=".toUTF8.data := Array.toList_inj.1 (e0.trans h5.symm)
    exact (show ∀ (x y : ByteArray), x.data = y.data → x = y by intro ⟨_⟩ ⟨_⟩ h; exact congrArg _ h) _ _ h6
  subst hse
  refine globOk_cons (heap_of_var hg0 hv0) ?_ (by simp [D.isAgg]) (globOk_nil _)
  rw [hcs]
  unfold D.RepL; refine ⟨[_], _, rfl, by unfold D.Rep; rfl, ?_⟩
  unfold D.RepL; refine ⟨[_], _, rfl, by unfold D.Rep; rfl, ?_⟩
  unfold D.RepL; refine ⟨[_], _, rfl, by unfold D.Rep; rfl, ?_⟩
  unfold D.RepL; refine ⟨[_], [], rfl, by unfold D.Rep; rfl, ?_⟩
  unfold D.RepL; rfl
theorem fxOk : FxOk Tryd.prog F where
  orders := by kernel_rfl
  tab := tab_ok
  code := code_ok.get
  prim := primOk
  ins := insAll
/-! ### Arguments -/
theorem good_sym {n : Nat} {x : D} (h : Go.Ab.Good Tryd.prog (n + 2) 88 x) : ∃ s : Sym, x = s.d := by
  unfold Go.Ab.Good at h
  rw [Tryd.underlying88] at h
  obtain ⟨ys, rfl, y0, r0, rfl, h0, y1, r1, rfl, h1, y2, r2, rfl, h2, y3, r3, rfl, h3, rfl⟩ := h
  unfold Go.Ab.Good at h0 h1 h2 h3
  simp only [Tryd.underlying9, Tryd.underlying3] at h0 h1 h2 h3
  obtain ⟨s, rfl, _⟩ := h0
  obtain ⟨a, rfl, _⟩ := h1
  obtain ⟨b, rfl, _⟩ := h2
  obtain ⟨c, rfl, _⟩ := h3
  exact ⟨⟨s, a, b, c⟩, rfl⟩
theorem good_sig {n : Nat} {x : D} (h : Go.Ab.Good Tryd.prog (n + 3) 22 x) : ∃ z g, x = .sl 4 z (syms g) [] := by
  unfold Go.Ab.Good at h
  rw [Tryd.underlying22] at h
  obtain ⟨z, xs, rfl, _, h2, _⟩ := h
  have hc : Tryd.prog.cellsOf 88 = 4 := by kernel_rfl
  rw [hc]
  obtain ⟨g, rfl, _⟩ := all_map (f := Sym.d) (Q := fun _ => True) (fun y hy => by obtain ⟨s, hs⟩ := good_sym (h2 y hy); exact ⟨s, hs, trivial⟩)
  exact ⟨z, g, rfl⟩
theorem good_int {n : Nat} {x : D} (h : Go.Ab.Good Tryd.prog (n + 1) 3 x) : ∃ a : Int, x = .int .i64 a ∧ -9223372036854775808 ≤ a ∧ a ≤ 9223372036854775807 := by
  unfold Go.Ab.Good at h
  rw [Tryd.underlying3] at h
  obtain ⟨a, rfl, hw⟩ := h
  refine ⟨a, rfl, ?_⟩
  simp [Lit.wf, IntKind.min, IntKind.max, IntKind.bits, IntKind.signed] at hw
  omega
theorem good_ints {n : Nat} {x : D} (h : Go.Ab.Good Tryd.prog (n + 2) 33 x) : ∃ z l, x = .sl 1 z (ints l) [] ∧ Len l := by
  unfold Go.Ab.Good at h
  rw [Tryd.underlying33] at h
  obtain ⟨z, xs, rfl, h1, h2, _⟩ := h
  have hc : Tryd.prog.cellsOf 3 = 1 := by kernel_rfl
  have hb : Tryd.prog.bytesOf 3 = 8 := by kernel_rfl
  rw [hb] at h1
  rw [hc]
  obtain ⟨l, rfl, _⟩ := all_map (f := D.int .i64) (Q := fun _ => True) (fun y hy => by obtain ⟨a, ha, _⟩ := good_int (h2 y hy); exact ⟨a, ha, trivial⟩)
  rw [List.length_map] at h1
  exact ⟨z, l, rfl, by unfold Len; simpa [reachBytes] using h1⟩
theorem good_rows {n : Nat} {x : D} (h : Go.Ab.Good Tryd.prog (n + 3) 24 x) : ∃ z rs, x = .sl 1 z (rws rs) [] ∧ rs.length * 24 ≤ 140737488351232 ∧ ∀ r ∈ rs, Len r.l := by
  unfold Go.Ab.Good at h
  rw [Tryd.underlying24] at h
  obtain ⟨z, xs, rfl, h1, h2, _⟩ := h
  have hc : Tryd.prog.cellsOf 33 = 1 := by kernel_rfl
  have hb : Tryd.prog.bytesOf 33 = 24 := by kernel_rfl
  rw [hb] at h1
  rw [hc]
  obtain ⟨rs, rfl, h4⟩ := all_map (f := Row.d) (Q := fun r => Len r.l) (fun y hy => by obtain ⟨z, l, h, hl⟩ := good_ints (h2 y hy); exact ⟨⟨z, l, []⟩, h, hl⟩)
  rw [List.length_map] at h1
  exact ⟨z, rs, rfl, by simpa [reachBytes] using h1, h4⟩
end Go.Proofs.YtjhganbjbiihoaaDoor.Ab

/- Literals, clauses as arguments. No condition. -/
set_option linter.unusedVariables false
set_option linter.unusedSimpArgs false
set_option maxRecDepth 100000
namespace Go.Proofs.YtjhganbjbiihoaaDoor.Ab
open Go Go.Ab Go.Qu Go.Proofs
theorem good_lit {n : Nat} {x : D} (h : Go.Ab.Good Tryd.prog (n + 3) 57 x) : ∃ l : LitR, x = l.d ∧ Len l.r.l := by
  unfold Go.Ab.Good at h
  rw [Tryd.underlying57] at h
  obtain ⟨ys, rfl, y0, r0, rfl, h0, y1, r1, rfl, h1, rfl⟩ := h
  obtain ⟨z, l, rfl, hl⟩ := good_ints h1
  unfold Go.Ab.Good at h0
  rw [Tryd.underlying4] at h0
  obtain ⟨b, rfl⟩ := h0
  exact ⟨⟨b, ⟨z, l, []⟩⟩, rfl, hl⟩
theorem good_lits {n : Nat} {x : D} (h : Go.Ab.Good Tryd.prog (n + 4) 23 x) : ∃ z ls, x = .sl 2 z (lits ls) [] ∧ LitsIn ls := by
  unfold Go.Ab.Good at h
  rw [Tryd.underlying23] at h
  obtain ⟨z, xs, rfl, h1, h2, _⟩ := h
  have hc : Tryd.prog.cellsOf 57 = 2 := by kernel_rfl
  have hb : Tryd.prog.bytesOf 57 = 32 := by kernel_rfl
  rw [hb] at h1
  rw [hc]
  obtain ⟨ls, rfl, h4⟩ := all_map (f := LitR.d) (Q := fun l => Len l.r.l) (fun y hy => by obtain ⟨l, hl, hk⟩ := good_lit (h2 y hy); exact ⟨l, hl, hk⟩)
  rw [List.length_map] at h1
  exact ⟨z, ls, rfl, by simpa [reachBytes] using h1, h4⟩
end Go.Proofs.YtjhganbjbiihoaaDoor.Ab

/- Arguments: rows that are nil have no codes. No condition. -/
set_option linter.unusedVariables false
set_option linter.unusedSimpArgs false
set_option maxRecDepth 100000
namespace Go.Proofs.YtjhganbjbiihoaaDoor.Ab
open Go Go.Ab Go.Qu Go.Proofs
theorem good_nil {n : Nat} {z : Bool} {l : List Int} (h : Go.Ab.Good Tryd.prog (n + 1) 33 (.sl 1 z (ints l) [])) : z = true → l = [] := by
  unfold Go.Ab.Good at h
  rw [Tryd.underlying33] at h
  obtain ⟨z', xs, he, _, _, h⟩ := h
  simp only [D.sl.injEq] at he
  obtain ⟨_, rfl, rfl, _⟩ := he
  intro hz
  have := congrArg List.length (h hz)
  rw [ints_len] at this
  exact List.length_eq_zero_iff.1 this
theorem good_litnil {n : Nat} {l : LitR} (h : Go.Ab.Good Tryd.prog (n + 3) 57 l.d) (he : l.r.e = []) : l.r.z = true → l.r.l = [] := by
  unfold Go.Ab.Good at h
  rw [Tryd.underlying57] at h
  obtain ⟨ys, hy, y0, r0, rfl, h0, y1, r1, rfl, h1, rfl⟩ := h
  unfold Go.Ab.Good at h0
  rw [Tryd.underlying4] at h0
  obtain ⟨b, rfl⟩ := h0
  obtain ⟨z, m, rfl, _⟩ := good_ints h1
  have h2 := good_nil (n := n + 1) h1
  simp only [LitR.d, List.flatMap_cons, List.flatMap_nil, D.cells, List.cons_append, List.nil_append, List.append_nil, D.agg.injEq, List.cons.injEq, D.bool.injEq, D.sl.injEq, and_true, true_and] at hy
  obtain ⟨_, hz, hm, _⟩ := hy
  intro hz'
  have h3 := h2 (hz ▸ hz')
  rw [h3] at hm
  have := congrArg List.length hm
  rw [ints_len] at this
  exact List.length_eq_zero_iff.1 (by simpa [ints_nil] using this)
theorem good_clauseN {n : Nat} {x : D} (h : Go.Ab.Good Tryd.prog (n + 5) 26 x) : ∃ c : Cl, x = c.d ∧ ClIn c ∧ NilC c := by
  have h' := h
  unfold Go.Ab.Good at h
  rw [Tryd.underlying26] at h
  obtain ⟨ys, rfl, y0, r0, rfl, h0, y1, r1, rfl, h1, y2, r2, rfl, h2, rfl⟩ := h
  obtain ⟨lz, ls, rfl, hls⟩ := good_lits h0
  obtain ⟨tz, ts, rfl, hts, hr⟩ := good_rows h1
  obtain ⟨cz, cs, rfl, hcs⟩ := good_lits h2
  have hL : ∀ {z : Bool} {ls : List LitR}, Go.Ab.Good Tryd.prog (n + 4) 23 (.sl 2 z (lits ls) []) → ∀ l ∈ ls, l.r.z = true → l.r.l = [] := by
    intro z ls hg l hl
    unfold Go.Ab.Good at hg
    rw [Tryd.underlying23] at hg
    obtain ⟨z', xs, he, _, hx, _⟩ := hg
    simp only [D.sl.injEq] at he
    obtain ⟨_, _, rfl, _⟩ := he
    have h5 := hx l.d (List.mem_map.2 ⟨l, hl, rfl⟩)
    obtain ⟨m, hm, _⟩ := good_lit h5
    have h6 : l.r.z = m.r.z ∧ ints l.r.l = ints m.r.l ∧ l.r.e = m.r.e := by
      have := hm
      simp only [LitR.d, D.agg.injEq, List.cons.injEq, D.bool.injEq, D.sl.injEq, and_true, true_and] at this
      exact ⟨this.2.1, this.2.2.1, this.2.2.2⟩
    have h7 : l.r.e = [] := by
      unfold Go.Ab.Good at h5
      rw [Tryd.underlying57] at h5
      obtain ⟨ys, hy, y0, r0, rfl, k0, y1, r1, rfl, k1, rfl⟩ := h5
      obtain ⟨z2, l2, rfl, _⟩ := good_ints k1
      unfold Go.Ab.Good at k0
      rw [Tryd.underlying4] at k0
      obtain ⟨b, rfl⟩ := k0
      simp only [LitR.d, List.flatMap_cons, List.flatMap_nil, D.cells, List.cons_append, List.nil_append, List.append_nil, D.agg.injEq, List.cons.injEq, D.bool.injEq, D.sl.injEq, and_true, true_and] at hy
      exact hy.2.2.2
    exact good_litnil (n := n) h5 h7
  refine ⟨⟨lz, ls, [], tz, ts, [], cz, cs, []⟩, rfl, ⟨hls, hts, hr, hcs⟩, fun r hr' => ?_⟩
  simp only [rowsOf, List.mem_append, List.mem_map] at hr'
  rcases hr' with (⟨l, hl, rfl⟩ | hr') | ⟨l, hl, rfl⟩
  · exact hL h0 l hl
  · unfold Go.Ab.Good at h1
    rw [Tryd.underlying24] at h1
    obtain ⟨z', xs, he, _, hx, _⟩ := h1
    simp only [D.sl.injEq] at he
    obtain ⟨_, _, rfl, _⟩ := he
    have h5 := hx r.d (List.mem_map.2 ⟨r, hr', rfl⟩)
    obtain ⟨z2, l2, he2, _⟩ := good_ints h5
    have h6 : r.e = [] := by
      simp only [Row.d, D.sl.injEq, true_and] at he2
      exact he2.2.2
    have h7 : r.d = .sl 1 r.z (ints r.l) [] := by rw [← h6]; rfl
    rw [h7] at h5
    exact good_nil (n := n + 2) h5
  · exact hL h2 l hl
end Go.Proofs.YtjhganbjbiihoaaDoor.Ab

/- Written by a program of this session (wip/tools/AbSym.lean). Not trusted: Lean checks it. -/
set_option maxRecDepth 100000
set_option linter.unusedVariables false
namespace Go.Proofs.YtjhganbjbiihoaaDoor.Ab
open Go Go.Ab Go.Proofs
def Ra : Rets := fun f => match f with
  | 3 => [(.d (.bool), [.d .any, .d .any, .d .any])]
  | 9 => [(.agg [.own 57 2, .own 33 1, .own 57 2], [.d .any])]
  | 10 => [(.tup [.d (.int .i64), .d (.int .i64)], [.d .any, .d .any])]
  | 11 => [(.tup [.d (.int .i64), .d (.int .i64)], [.d .any, .d .any])]
  | 12 => [(.tup [.own 3 1, .d (.int .i64)], [.d .any, .d .any])]
  | 13 => [(.tup [.own 3 1, .d (.int .i64)], [.d .any, .d .any])]
  | 14 => [(.tup [.d (.boolc false), .d (.int .i64)], [.d .any, .d .any])]
  | 15 => [(.tup [.d (.boolc false), .d (.int .i64)], [.d .any, .d .any])]
  | 16 => [(.tup [.d (.boolc false), .d (.int .i64)], [.d .any, .d .any, .d .any])]
  | 17 => [(.tup [.d (.boolc false), .d (.int .i64)], [.d .any, .d .any, .d .any])]
  | 18 => [(.d (.boolc false), [.d .any, .d .any])]
  | 19 => [(.d (.boolc false), [.d .any, .d .any])]
  | 20 => [(.d (.int .i64), [.d .any])]
  | 21 => [(.d (.boolc true), [.d .any, .d .any])]
  | 22 => [(.d (.boolc true), [.d .any, .d .any])]
  | 23 => [(.d (.boolc true), [])]
  | 24 => [(.tup [.agg [.own 57 2, .own 33 1, .own 57 2], .d (.int .i64)], [.d .any, .d .any]), (.tup [.d (.agg [.nil 2, .nil 1, .nil 2]), .d (.int .i64)], [.d .any, .d .any])]
  | 27 => [(.d (.bool), [.d .any])]
  | 28 => [(.d (.agg [.int .i64, .sl 1]), [.d .any, .d .any])]
  | 29 => [(.d (.bool), [.d .any, .d .any, .d .any])]
  | 31 => [(.own 57 2, [.d .any])]
  | 32 => [(.own 33 1, [.d .any])]
  | 33 => [(.d (.int .i64), [.d .any, .d .any])]
  | 34 => [(.d (.int .i64), [.d .any, .d .any])]
  | 35 => [(.own 57 2, [.d .any])]
  | 36 => [(.own 3 1, [.dead, .d .any])]
  | 37 => [(.own 3 1, [.d .any])]
  | 38 => [(.d (.bool), [.d .any, .d .any])]
  | 39 => [(.d (.bool), [.d .any, .any]), (.d (.bool), [.d .any, .any])]
  | 40 => [(.d (.bool), [.d .any, .any])]
  | 41 => [(.d (.bool), [.d .any, .d .any])]
  | 42 => [(.d (.bool), [.d .any, .d .any])]
  | 43 => [(.d (.bool), [.d .any, .d .any])]
  | 44 => [(.agg [.own 57 2, .own 33 1, .own 57 2], [.d .any])]
  | 45 => [(.d (.bool), [.d .any, .d .any])]
  | 46 => [(.agg [.own 57 2, .own 33 1, .own 57 2], [.d .any])]
  | 47 => [(.d (.bool), [.d .any])]
  | 48 => [(.tup [.d (.int .i64), .d (.bool)], [.d .any, .d .any])]
  | 49 => [(.tup [.d (.int .i64), .d (.bool)], [.d .any, .d .any])]
  | 50 => [(.d (.bool), [.d .any])]
  | 51 => [(.d (.bool), [.d .any, .d .any])]
  | 52 => [(.d (.int .i64), [.d .any, .d .any])]
  | 53 => [(.own 33 1, [.d .any])]
  | 54 => [(.d (.bool), [.d .any, .d .any])]
  | 55 => [(.d (.bool), [.d .any, .d .any])]
  | 58 => [(.own 3 1, [])]
  | 59 => [(.d (.bool), [.d .any, .d .any, .d .any, .d .any])]
  | 60 => [(.d (.bool), [.d .any, .own 3 1, .own 3 1])]
  | 61 => [(.own 3 1, [.d .any])]
  | 62 => [(.d (.int .i64), [.d .any, .d .any])]
  | 63 => [(.own 57 2, [.d .any, .d .any])]
  | 64 => [(.tup [.d (.int .i64), .d (.bool)], [.d .any, .d .any])]
  | 65 => [(.d (.int .i64), [.d .any])]
  | 67 => [(.own 3 1, [.d .any])]
  | 68 => [(.own 33 1, [.d .any, .d .any])]
  | 69 => [(.d (.int .i64), [.d .any, .any]), (.d (.int .i64), [.d .any, .any])]
  | 70 => [(.own 33 1, [.d .any, .d .any])]
  | 71 => [(.d (.bool), [.d .any, .d .any])]
  | 72 => [(.d (.bool), [.d .any, .d .any, .d .any])]
  | 73 => [(.d (.bool), [.d .any, .d .any])]
  | 74 => [(.d (.bool), [.d .any, .d .any, .d .any])]
  | 75 => [(.own 57 2, [.d .any])]
  | 76 => [(.d (.bool), [.d .any, .any])]
  | 77 => [(.d (.bool), [.d .any, .any])]
  | 78 => [(.agg [.own 57 2, .own 33 1, .own 57 2], [.d .any, .fn 79 [.dboxv 101 0, .dbox 3 0 [.int .i64]]])]
  | 79 => [(.own 3 1, [.d .any, .dboxv 101 0, .dbox 3 0 [.int .i64]])]
  | 80 => [(.own 3 1, [.d .any])]
  | 81 => [(.own 57 2, [.d .any])]
  | 82 => [(.d (.int .i64), [.d .any, .d .any])]
  | 83 => [(.agg [.own 57 2, .own 33 1, .own 57 2], [.d .any, .d .any])]
  | 84 => [(.d (.bool), [.d .any])]
  | 85 => [(.d (.int .i64), [.d .any, .d .any])]
  | 86 => [(.d (.bool), [.d .any, .d .any])]
  | 87 => [(.tup [.d (.int .i64), .d (.int .i64)], [.d .any, .d .any])]
  | 88 => [(.d (.bool), [.d .any])]
  | 89 => [(.d (.int .i64), [.d .any, .d .any])]
  | 90 => [(.d (.bool), [.d .any, .d .any])]
  | 91 => [(.d (.int .i64), [.d .any, .d .any, .d .any])]
  | 93 => [(.d (.bool), [.d .any, .d .any, .d .any, .d .any])]
  | 94 => [(.d (.bool), [.d .any, .d .any, .d .any, .d .any])]
  | 95 => [(.d (.bool), [.d .any, .d .any])]
  | 96 => [(.d (.bool), [.d .any])]
  | 99 => [(.d (.bool), [.d .any, .d .any])]
  | 100 => [(.tup [.d (.int .i64), .d (.bool)], [.d .any, .d .any, .d .any])]
  | 101 => [(.d (.int .i64), [.d .any, .d .any, .d .any])]
  | 102 => [(.d (.bool), [.d .any, .any])]
  | 103 => [(.d (.int .i64), [.d .any, .any])]
  | 104 => [(.d (.bool), [.d .any, .d .any])]
  | 105 => [(.own 3 1, [.d .any, .d .any])]
  | 106 => [(.d (.bool), [.d .any])]
  | 107 => [(.d (.bool), [.d .any, .d .any])]
  | 108 => [(.tup [.own 3 1, .d (.bool)], [.d .any, .d .any])]
  | 109 => [(.d (.bool), [.d .any])]
  | 110 => [(.d (.bool), [.d .any, .d .any, .d .any, .d .any])]
  | 111 => [(.d (.int .i64), [.d .any, .d .any, .d .any])]
  | 112 => [(.own 3 1, [.d .any, .d .any, .d .any, .d .any])]
  | 113 => [(.d (.bool), [.d .any])]
  | 115 => [(.tup [.d (.int .i64), .d (.bool)], [.d .any, .d .any])]
  | 116 => [(.d (.bool), [.d .any])]
  | 117 => [(.tup [.d (.int .i64), .d (.int .i64)], [.d .any, .d .any, .d .any, .d .any, .d .any])]
  | _ => [(.any, [])]
def L3a : Lps := fun b => match b with
  | _ => [.norm []]
theorem q3a (C J) (z1 : Bool) (x2 : List D) (e3 : List D) (z4 : Bool) (x5 : List D) (e6 : List D) (z7 : Bool) (x8 : List D) (e9 : List D) (z10 : Bool) (x11 : List D) (e12 : List D) (z13 : Bool) (x14 : List D) (e15 : List D) (z16 : Bool) (x17 : List D) (e18 : List D) (z19 : Bool) (x20 : List D) (e21 : List D) (Q) : fnW F C Ra (L3a) J d3 [.d (.sl 4 z1 x2 e3), .d (.agg [.sl 2 z4 x5 e6, .sl 1 z7 x8 e9, .sl 2 z10 x11 e12]), .d (.agg [.sl 2 z13 x14 e15, .sl 1 z16 x17 e18, .sl 2 z19 x20 e21])] Q = (∃ w0 w1 w2 w3 w4 w5 w6, C 9 [IV.d (D.agg [D.sl 2 z4 x5 e6, D.sl 1 z7 x8 e9, D.sl 2 z10 x11 e12])] = some (IV.agg [IV.own w0 57 2 w1, IV.own w2 33 1 w3, IV.own w4 57 2 w5], [IV.d w6]) ∧ ∃ w7 w8 w9 w10, C 10 [IV.d (D.sl 4 z1 x2 e3), IV.d (D.agg [D.sl 2 z4 x5 e6, D.sl 1 z7 x8 e9, D.sl 2 z10 x11 e12])] = some (IV.tup [IV.d (D.int IntKind.i64 w7), IV.d (D.int IntKind.i64 w8)], [IV.d w9, IV.d w10]) ∧ ∃ w11 w12 w13 w14, C 11 [IV.d (D.sl 4 z1 x2 e3), IV.d (D.agg [D.sl 2 z4 x5 e6, D.sl 1 z7 x8 e9, D.sl 2 z10 x11 e12])] = some (IV.tup [IV.d (D.int IntKind.i64 w11), IV.d (D.int IntKind.i64 w12)], [IV.d w13, IV.d w14]) ∧ ∃ w15 w16 w17 w18 w19, C 12 [IV.d (D.sl 4 z1 x2 e3), IV.d (D.agg [D.sl 2 z4 x5 e6, D.sl 1 z7 x8 e9, D.sl 2 z10 x11 e12])] = some (IV.tup [IV.own w15 3 1 w16, IV.d (D.int IntKind.i64 w17)], [IV.d w18, IV.d w19]) ∧ ∃ w20 w21 w22 w23 w24, C 13 [IV.d (D.sl 4 z1 x2 e3), IV.d (D.agg [D.sl 2 z4 x5 e6, D.sl 1 z7 x8 e9, D.sl 2 z10 x11 e12])] = some (IV.tup [IV.own w20 3 1 w21, IV.d (D.int IntKind.i64 w22)], [IV.d w23, IV.d w24]) ∧ ∃ w25 w26 w27, C 14 [IV.d (D.sl 4 z1 x2 e3), IV.d (D.agg [D.sl 2 z4 x5 e6, D.sl 1 z7 x8 e9, D.sl 2 z10 x11 e12])] = some (IV.tup [IV.d (D.bool false), IV.d (D.int IntKind.i64 w25)], [IV.d w26, IV.d w27]) ∧ ∃ w28 w29 w30, C 15 [IV.d (D.sl 4 z1 x2 e3), IV.d (D.agg [D.sl 2 z4 x5 e6, D.sl 1 z7 x8 e9, D.sl 2 z10 x11 e12])] = some (IV.tup [IV.d (D.bool false), IV.d (D.int IntKind.i64 w28)], [IV.d w29, IV.d w30]) ∧ ∃ w31 w32 w33 w34, C 16 [IV.d (D.sl 4 z1 x2 e3), IV.d (D.agg [D.sl 2 z4 x5 e6, D.sl 1 z7 x8 e9, D.sl 2 z10 x11 e12]), IV.d (D.agg [D.sl 2 z13 x14 e15, D.sl 1 z16 x17 e18, D.sl 2 z19 x20 e21])] = some (IV.tup [IV.d (D.bool false), IV.d (D.int IntKind.i64 w31)], [IV.d w32, IV.d w33, IV.d w34]) ∧ ∃ w35 w36 w37 w38, C 17 [IV.d (D.sl 4 z1 x2 e3), IV.d (D.agg [D.sl 2 z4 x5 e6, D.sl 1 z7 x8 e9, D.sl 2 z10 x11 e12]), IV.d (D.agg [D.sl 2 z13 x14 e15, D.sl 1 z16 x17 e18, D.sl 2 z19 x20 e21])] = some (IV.tup [IV.d (D.bool false), IV.d (D.int IntKind.i64 w35)], [IV.d w36, IV.d w37, IV.d w38]) ∧ ∃ w39 w40, C 18 [IV.d (D.sl 4 z1 x2 e3), IV.d (D.agg [D.sl 2 z4 x5 e6, D.sl 1 z7 x8 e9, D.sl 2 z10 x11 e12])] = some (IV.d (D.bool false), [IV.d w39, IV.d w40]) ∧ ∃ w41 w42, C 19 [IV.d (D.sl 4 z1 x2 e3), IV.d (D.agg [D.sl 2 z4 x5 e6, D.sl 1 z7 x8 e9, D.sl 2 z10 x11 e12])] = some (IV.d (D.bool false), [IV.d w41, IV.d w42]) ∧ condW (w7 == w11) (∃ w43 w44, C 20 [IV.d (D.int IntKind.i64 w8)] = some (IV.d (D.int IntKind.i64 w43), [IV.d w44]) ∧ condW (w43 == w12) (∃ w45 w46, C 21 [IV.d (D.sl 1 w15 w16 []), IV.d (D.sl 1 w20 w21 [])] = some (IV.d (D.bool true), [IV.d w45, IV.d w46]) ∧ ∃ w47 w48, C 20 [IV.d (D.int IntKind.i64 w17)] = some (IV.d (D.int IntKind.i64 w47), [IV.d w48]) ∧ condW (w47 == w22) (∃ w49 w50, C 20 [IV.d (D.int IntKind.i64 w25)] = some (IV.d (D.int IntKind.i64 w49), [IV.d w50]) ∧ condW (w49 == w28) (∃ w51 w52, C 20 [IV.d (D.int IntKind.i64 w31)] = some (IV.d (D.int IntKind.i64 w51), [IV.d w52]) ∧ condW (w51 == w35) (∃ w53 w54, C 22 [IV.d (D.agg [D.sl 2 z4 x5 e6, D.sl 1 z7 x8 e9, D.sl 2 z10 x11 e12]), IV.d (D.agg [D.sl 2 w0 w1 [], D.sl 1 w2 w3 [], D.sl 2 w4 w5 []])] = some (IV.d (D.bool true), [IV.d w53, IV.d w54]) ∧ C 23 [] = some (IV.d (D.bool true), []) ∧ Q (some (IV.d (D.bool true), [IV.d (D.sl 4 z1 x2 e3), IV.d (D.agg [D.sl 2 z4 x5 e6, D.sl 1 z7 x8 e9, D.sl 2 z10 x11 e12]), IV.d (D.agg [D.sl 2 z13 x14 e15, D.sl 1 z16 x17 e18, D.sl 2 z19 x20 e21])]))) (Q (some (IV.d (D.bool false), [IV.d (D.sl 4 z1 x2 e3), IV.d (D.agg [D.sl 2 z4 x5 e6, D.sl 1 z7 x8 e9, D.sl 2 z10 x11 e12]), IV.d (D.agg [D.sl 2 z13 x14 e15, D.sl 1 z16 x17 e18, D.sl 2 z19 x20 e21])])))) (Q (some (IV.d (D.bool false), [IV.d (D.sl 4 z1 x2 e3), IV.d (D.agg [D.sl 2 z4 x5 e6, D.sl 1 z7 x8 e9, D.sl 2 z10 x11 e12]), IV.d (D.agg [D.sl 2 z13 x14 e15, D.sl 1 z16 x17 e18, D.sl 2 z19 x20 e21])])))) (Q (some (IV.d (D.bool false), [IV.d (D.sl 4 z1 x2 e3), IV.d (D.agg [D.sl 2 z4 x5 e6, D.sl 1 z7 x8 e9, D.sl 2 z10 x11 e12]), IV.d (D.agg [D.sl 2 z13 x14 e15, D.sl 1 z16 x17 e18, D.sl 2 z19 x20 e21])])))) (Q (some (IV.d (D.bool false), [IV.d (D.sl 4 z1 x2 e3), IV.d (D.agg [D.sl 2 z4 x5 e6, D.sl 1 z7 x8 e9, D.sl 2 z10 x11 e12]), IV.d (D.agg [D.sl 2 z13 x14 e15, D.sl 1 z16 x17 e18, D.sl 2 z19 x20 e21])])))) (Q (some (IV.d (D.bool false), [IV.d (D.sl 4 z1 x2 e3), IV.d (D.agg [D.sl 2 z4 x5 e6, D.sl 1 z7 x8 e9, D.sl 2 z10 x11 e12]), IV.d (D.agg [D.sl 2 z13 x14 e15, D.sl 1 z16 x17 e18, D.sl 2 z19 x20 e21])])))) := by kernel_rfl
end Go.Proofs.YtjhganbjbiihoaaDoor.Ab

/- Written by a program of this session (wip/tools/AbSym.lean). Not trusted: Lean checks it. -/
set_option maxRecDepth 100000
set_option linter.unusedVariables false
namespace Go.Proofs.YtjhganbjbiihoaaDoor.Ab
open Go Go.Ab Go.Proofs
def Rb : Rets := fun f => match f with
  | 3 => [(.d (.bool), [.d .any, .d .any, .d .any])]
  | 9 => [(.agg [.own 57 2, .own 33 1, .own 57 2], [.d .any])]
  | 10 => [(.tup [.d (.int .i64), .d (.int .i64)], [.d .any, .d .any])]
  | 11 => [(.tup [.d (.int .i64), .d (.int .i64)], [.d .any, .d .any])]
  | 12 => [(.tup [.own 3 1, .d (.int .i64)], [.d .any, .d .any])]
  | 13 => [(.tup [.own 3 1, .d (.int .i64)], [.d .any, .d .any])]
  | 14 => [(.tup [.d (.boolc false), .d (.int .i64)], [.d .any, .d .any])]
  | 15 => [(.tup [.d (.boolc false), .d (.int .i64)], [.d .any, .d .any])]
  | 16 => [(.tup [.d (.boolc false), .d (.int .i64)], [.d .any, .d .any, .d .any])]
  | 17 => [(.tup [.d (.boolc false), .d (.int .i64)], [.d .any, .d .any, .d .any])]
  | 18 => [(.d (.boolc true), [.d .any, .d .any])]
  | 19 => [(.d (.boolc true), [.d .any, .d .any])]
  | 20 => [(.d (.int .i64), [.d .any])]
  | 21 => [(.d (.boolc true), [.d .any, .d .any])]
  | 22 => [(.d (.boolc true), [.d .any, .d .any])]
  | 23 => [(.d (.boolc true), [])]
  | 24 => [(.tup [.agg [.own 57 2, .own 33 1, .own 57 2], .d (.int .i64)], [.d .any, .d .any]), (.tup [.d (.agg [.nil 2, .nil 1, .nil 2]), .d (.int .i64)], [.d .any, .d .any])]
  | 27 => [(.d (.bool), [.d .any])]
  | 28 => [(.d (.agg [.int .i64, .sl 1]), [.d .any, .d .any])]
  | 29 => [(.d (.bool), [.d .any, .d .any, .d .any])]
  | 31 => [(.own 57 2, [.d .any])]
  | 32 => [(.own 33 1, [.d .any])]
  | 33 => [(.d (.int .i64), [.d .any, .d .any])]
  | 34 => [(.d (.int .i64), [.d .any, .d .any])]
  | 35 => [(.own 57 2, [.d .any])]
  | 36 => [(.own 3 1, [.dead, .d .any])]
  | 37 => [(.own 3 1, [.d .any])]
  | 38 => [(.d (.bool), [.d .any, .d .any])]
  | 39 => [(.d (.bool), [.d .any, .any]), (.d (.bool), [.d .any, .any])]
  | 40 => [(.d (.bool), [.d .any, .any])]
  | 41 => [(.d (.bool), [.d .any, .d .any])]
  | 42 => [(.d (.bool), [.d .any, .d .any])]
  | 43 => [(.d (.bool), [.d .any, .d .any])]
  | 44 => [(.agg [.own 57 2, .own 33 1, .own 57 2], [.d .any])]
  | 45 => [(.d (.bool), [.d .any, .d .any])]
  | 46 => [(.agg [.own 57 2, .own 33 1, .own 57 2], [.d .any])]
  | 47 => [(.d (.bool), [.d .any])]
  | 48 => [(.tup [.d (.int .i64), .d (.bool)], [.d .any, .d .any])]
  | 49 => [(.tup [.d (.int .i64), .d (.bool)], [.d .any, .d .any])]
  | 50 => [(.d (.bool), [.d .any])]
  | 51 => [(.d (.bool), [.d .any, .d .any])]
  | 52 => [(.d (.int .i64), [.d .any, .d .any])]
  | 53 => [(.own 33 1, [.d .any])]
  | 54 => [(.d (.bool), [.d .any, .d .any])]
  | 55 => [(.d (.bool), [.d .any, .d .any])]
  | 58 => [(.own 3 1, [])]
  | 59 => [(.d (.bool), [.d .any, .d .any, .d .any, .d .any])]
  | 60 => [(.d (.bool), [.d .any, .own 3 1, .own 3 1])]
  | 61 => [(.own 3 1, [.d .any])]
  | 62 => [(.d (.int .i64), [.d .any, .d .any])]
  | 63 => [(.own 57 2, [.d .any, .d .any])]
  | 64 => [(.tup [.d (.int .i64), .d (.bool)], [.d .any, .d .any])]
  | 65 => [(.d (.int .i64), [.d .any])]
  | 67 => [(.own 3 1, [.d .any])]
  | 68 => [(.own 33 1, [.d .any, .d .any])]
  | 69 => [(.d (.int .i64), [.d .any, .any]), (.d (.int .i64), [.d .any, .any])]
  | 70 => [(.own 33 1, [.d .any, .d .any])]
  | 71 => [(.d (.bool), [.d .any, .d .any])]
  | 72 => [(.d (.bool), [.d .any, .d .any, .d .any])]
  | 73 => [(.d (.bool), [.d .any, .d .any])]
  | 74 => [(.d (.bool), [.d .any, .d .any, .d .any])]
  | 75 => [(.own 57 2, [.d .any])]
  | 76 => [(.d (.bool), [.d .any, .any])]
  | 77 => [(.d (.bool), [.d .any, .any])]
  | 78 => [(.agg [.own 57 2, .own 33 1, .own 57 2], [.d .any, .fn 79 [.dboxv 101 0, .dbox 3 0 [.int .i64]]])]
  | 79 => [(.own 3 1, [.d .any, .dboxv 101 0, .dbox 3 0 [.int .i64]])]
  | 80 => [(.own 3 1, [.d .any])]
  | 81 => [(.own 57 2, [.d .any])]
  | 82 => [(.d (.int .i64), [.d .any, .d .any])]
  | 83 => [(.agg [.own 57 2, .own 33 1, .own 57 2], [.d .any, .d .any])]
  | 84 => [(.d (.bool), [.d .any])]
  | 85 => [(.d (.int .i64), [.d .any, .d .any])]
  | 86 => [(.d (.bool), [.d .any, .d .any])]
  | 87 => [(.tup [.d (.int .i64), .d (.int .i64)], [.d .any, .d .any])]
  | 88 => [(.d (.bool), [.d .any])]
  | 89 => [(.d (.int .i64), [.d .any, .d .any])]
  | 90 => [(.d (.bool), [.d .any, .d .any])]
  | 91 => [(.d (.int .i64), [.d .any, .d .any, .d .any])]
  | 93 => [(.d (.bool), [.d .any, .d .any, .d .any, .d .any])]
  | 94 => [(.d (.bool), [.d .any, .d .any, .d .any, .d .any])]
  | 95 => [(.d (.bool), [.d .any, .d .any])]
  | 96 => [(.d (.bool), [.d .any])]
  | 99 => [(.d (.bool), [.d .any, .d .any])]
  | 100 => [(.tup [.d (.int .i64), .d (.bool)], [.d .any, .d .any, .d .any])]
  | 101 => [(.d (.int .i64), [.d .any, .d .any, .d .any])]
  | 102 => [(.d (.bool), [.d .any, .any])]
  | 103 => [(.d (.int .i64), [.d .any, .any])]
  | 104 => [(.d (.bool), [.d .any, .d .any])]
  | 105 => [(.own 3 1, [.d .any, .d .any])]
  | 106 => [(.d (.bool), [.d .any])]
  | 107 => [(.d (.bool), [.d .any, .d .any])]
  | 108 => [(.tup [.own 3 1, .d (.bool)], [.d .any, .d .any])]
  | 109 => [(.d (.bool), [.d .any])]
  | 110 => [(.d (.bool), [.d .any, .d .any, .d .any, .d .any])]
  | 111 => [(.d (.int .i64), [.d .any, .d .any, .d .any])]
  | 112 => [(.own 3 1, [.d .any, .d .any, .d .any, .d .any])]
  | 113 => [(.d (.bool), [.d .any])]
  | 115 => [(.tup [.d (.int .i64), .d (.bool)], [.d .any, .d .any])]
  | 116 => [(.d (.bool), [.d .any])]
  | 117 => [(.tup [.d (.int .i64), .d (.int .i64)], [.d .any, .d .any, .d .any, .d .any, .d .any])]
  | _ => [(.any, [])]
def L3b : Lps := fun b => match b with
  | _ => [.norm []]
theorem q3b (C J) (z1 : Bool) (x2 : List D) (e3 : List D) (z4 : Bool) (x5 : List D) (e6 : List D) (z7 : Bool) (x8 : List D) (e9 : List D) (z10 : Bool) (x11 : List D) (e12 : List D) (z13 : Bool) (x14 : List D) (e15 : List D) (z16 : Bool) (x17 : List D) (e18 : List D) (z19 : Bool) (x20 : List D) (e21 : List D) (Q) : fnW F C Rb (L3b) J d3 [.d (.sl 4 z1 x2 e3), .d (.agg [.sl 2 z4 x5 e6, .sl 1 z7 x8 e9, .sl 2 z10 x11 e12]), .d (.agg [.sl 2 z13 x14 e15, .sl 1 z16 x17 e18, .sl 2 z19 x20 e21])] Q = (∃ w0 w1 w2 w3 w4 w5 w6, C 9 [IV.d (D.agg [D.sl 2 z4 x5 e6, D.sl 1 z7 x8 e9, D.sl 2 z10 x11 e12])] = some (IV.agg [IV.own w0 57 2 w1, IV.own w2 33 1 w3, IV.own w4 57 2 w5], [IV.d w6]) ∧ ∃ w7 w8 w9 w10, C 10 [IV.d (D.sl 4 z1 x2 e3), IV.d (D.agg [D.sl 2 z4 x5 e6, D.sl 1 z7 x8 e9, D.sl 2 z10 x11 e12])] = some (IV.tup [IV.d (D.int IntKind.i64 w7), IV.d (D.int IntKind.i64 w8)], [IV.d w9, IV.d w10]) ∧ ∃ w11 w12 w13 w14, C 11 [IV.d (D.sl 4 z1 x2 e3), IV.d (D.agg [D.sl 2 z4 x5 e6, D.sl 1 z7 x8 e9, D.sl 2 z10 x11 e12])] = some (IV.tup [IV.d (D.int IntKind.i64 w11), IV.d (D.int IntKind.i64 w12)], [IV.d w13, IV.d w14]) ∧ ∃ w15 w16 w17 w18 w19, C 12 [IV.d (D.sl 4 z1 x2 e3), IV.d (D.agg [D.sl 2 z4 x5 e6, D.sl 1 z7 x8 e9, D.sl 2 z10 x11 e12])] = some (IV.tup [IV.own w15 3 1 w16, IV.d (D.int IntKind.i64 w17)], [IV.d w18, IV.d w19]) ∧ ∃ w20 w21 w22 w23 w24, C 13 [IV.d (D.sl 4 z1 x2 e3), IV.d (D.agg [D.sl 2 z4 x5 e6, D.sl 1 z7 x8 e9, D.sl 2 z10 x11 e12])] = some (IV.tup [IV.own w20 3 1 w21, IV.d (D.int IntKind.i64 w22)], [IV.d w23, IV.d w24]) ∧ ∃ w25 w26 w27, C 14 [IV.d (D.sl 4 z1 x2 e3), IV.d (D.agg [D.sl 2 z4 x5 e6, D.sl 1 z7 x8 e9, D.sl 2 z10 x11 e12])] = some (IV.tup [IV.d (D.bool false), IV.d (D.int IntKind.i64 w25)], [IV.d w26, IV.d w27]) ∧ ∃ w28 w29 w30, C 15 [IV.d (D.sl 4 z1 x2 e3), IV.d (D.agg [D.sl 2 z4 x5 e6, D.sl 1 z7 x8 e9, D.sl 2 z10 x11 e12])] = some (IV.tup [IV.d (D.bool false), IV.d (D.int IntKind.i64 w28)], [IV.d w29, IV.d w30]) ∧ ∃ w31 w32 w33 w34, C 16 [IV.d (D.sl 4 z1 x2 e3), IV.d (D.agg [D.sl 2 z4 x5 e6, D.sl 1 z7 x8 e9, D.sl 2 z10 x11 e12]), IV.d (D.agg [D.sl 2 z13 x14 e15, D.sl 1 z16 x17 e18, D.sl 2 z19 x20 e21])] = some (IV.tup [IV.d (D.bool false), IV.d (D.int IntKind.i64 w31)], [IV.d w32, IV.d w33, IV.d w34]) ∧ ∃ w35 w36 w37 w38, C 17 [IV.d (D.sl 4 z1 x2 e3), IV.d (D.agg [D.sl 2 z4 x5 e6, D.sl 1 z7 x8 e9, D.sl 2 z10 x11 e12]), IV.d (D.agg [D.sl 2 z13 x14 e15, D.sl 1 z16 x17 e18, D.sl 2 z19 x20 e21])] = some (IV.tup [IV.d (D.bool false), IV.d (D.int IntKind.i64 w35)], [IV.d w36, IV.d w37, IV.d w38]) ∧ ∃ w39 w40, C 18 [IV.d (D.sl 4 z1 x2 e3), IV.d (D.agg [D.sl 2 z4 x5 e6, D.sl 1 z7 x8 e9, D.sl 2 z10 x11 e12])] = some (IV.d (D.bool true), [IV.d w39, IV.d w40]) ∧ ∃ w41 w42, C 19 [IV.d (D.sl 4 z1 x2 e3), IV.d (D.agg [D.sl 2 z4 x5 e6, D.sl 1 z7 x8 e9, D.sl 2 z10 x11 e12])] = some (IV.d (D.bool true), [IV.d w41, IV.d w42]) ∧ condW (w7 == w11) (∃ w43 w44, C 20 [IV.d (D.int IntKind.i64 w8)] = some (IV.d (D.int IntKind.i64 w43), [IV.d w44]) ∧ condW (w43 == w12) (∃ w45 w46, C 21 [IV.d (D.sl 1 w15 w16 []), IV.d (D.sl 1 w20 w21 [])] = some (IV.d (D.bool true), [IV.d w45, IV.d w46]) ∧ ∃ w47 w48, C 20 [IV.d (D.int IntKind.i64 w17)] = some (IV.d (D.int IntKind.i64 w47), [IV.d w48]) ∧ condW (w47 == w22) (∃ w49 w50, C 20 [IV.d (D.int IntKind.i64 w25)] = some (IV.d (D.int IntKind.i64 w49), [IV.d w50]) ∧ condW (w49 == w28) (∃ w51 w52, C 20 [IV.d (D.int IntKind.i64 w31)] = some (IV.d (D.int IntKind.i64 w51), [IV.d w52]) ∧ condW (w51 == w35) (∃ w53 w54, C 22 [IV.d (D.agg [D.sl 2 z4 x5 e6, D.sl 1 z7 x8 e9, D.sl 2 z10 x11 e12]), IV.d (D.agg [D.sl 2 w0 w1 [], D.sl 1 w2 w3 [], D.sl 2 w4 w5 []])] = some (IV.d (D.bool true), [IV.d w53, IV.d w54]) ∧ C 23 [] = some (IV.d (D.bool true), []) ∧ Q (some (IV.d (D.bool true), [IV.d (D.sl 4 z1 x2 e3), IV.d (D.agg [D.sl 2 z4 x5 e6, D.sl 1 z7 x8 e9, D.sl 2 z10 x11 e12]), IV.d (D.agg [D.sl 2 z13 x14 e15, D.sl 1 z16 x17 e18, D.sl 2 z19 x20 e21])]))) (Q (some (IV.d (D.bool false), [IV.d (D.sl 4 z1 x2 e3), IV.d (D.agg [D.sl 2 z4 x5 e6, D.sl 1 z7 x8 e9, D.sl 2 z10 x11 e12]), IV.d (D.agg [D.sl 2 z13 x14 e15, D.sl 1 z16 x17 e18, D.sl 2 z19 x20 e21])])))) (Q (some (IV.d (D.bool false), [IV.d (D.sl 4 z1 x2 e3), IV.d (D.agg [D.sl 2 z4 x5 e6, D.sl 1 z7 x8 e9, D.sl 2 z10 x11 e12]), IV.d (D.agg [D.sl 2 z13 x14 e15, D.sl 1 z16 x17 e18, D.sl 2 z19 x20 e21])])))) (Q (some (IV.d (D.bool false), [IV.d (D.sl 4 z1 x2 e3), IV.d (D.agg [D.sl 2 z4 x5 e6, D.sl 1 z7 x8 e9, D.sl 2 z10 x11 e12]), IV.d (D.agg [D.sl 2 z13 x14 e15, D.sl 1 z16 x17 e18, D.sl 2 z19 x20 e21])])))) (Q (some (IV.d (D.bool false), [IV.d (D.sl 4 z1 x2 e3), IV.d (D.agg [D.sl 2 z4 x5 e6, D.sl 1 z7 x8 e9, D.sl 2 z10 x11 e12]), IV.d (D.agg [D.sl 2 z13 x14 e15, D.sl 1 z16 x17 e18, D.sl 2 z19 x20 e21])])))) (Q (some (IV.d (D.bool false), [IV.d (D.sl 4 z1 x2 e3), IV.d (D.agg [D.sl 2 z4 x5 e6, D.sl 1 z7 x8 e9, D.sl 2 z10 x11 e12]), IV.d (D.agg [D.sl 2 z13 x14 e15, D.sl 1 z16 x17 e18, D.sl 2 z19 x20 e21])])))) := by kernel_rfl
end Go.Proofs.YtjhganbjbiihoaaDoor.Ab

/- Written by a program of this session (wip/tools/AbSym.lean). Not trusted: Lean checks it. -/
set_option maxRecDepth 100000
set_option linter.unusedVariables false
namespace Go.Proofs.YtjhganbjbiihoaaDoor.Ab
open Go Go.Ab Go.Proofs
def Rc : Rets := fun f => match f with
  | 3 => [(.d (.bool), [.d .any, .d .any, .d .any])]
  | 9 => [(.agg [.own 57 2, .own 33 1, .own 57 2], [.d .any])]
  | 10 => [(.tup [.d (.int .i64), .d (.int .i64)], [.d .any, .d .any])]
  | 11 => [(.tup [.d (.int .i64), .d (.int .i64)], [.d .any, .d .any])]
  | 12 => [(.tup [.own 3 1, .d (.int .i64)], [.d .any, .d .any])]
  | 13 => [(.tup [.own 3 1, .d (.int .i64)], [.d .any, .d .any])]
  | 14 => [(.tup [.d (.boolc true), .d (.int .i64)], [.d .any, .d .any])]
  | 15 => [(.tup [.d (.boolc true), .d (.int .i64)], [.d .any, .d .any])]
  | 16 => [(.tup [.d (.boolc false), .d (.int .i64)], [.d .any, .d .any, .d .any])]
  | 17 => [(.tup [.d (.boolc false), .d (.int .i64)], [.d .any, .d .any, .d .any])]
  | 18 => [(.d (.boolc true), [.d .any, .d .any])]
  | 19 => [(.d (.boolc true), [.d .any, .d .any])]
  | 20 => [(.d (.int .i64), [.d .any])]
  | 21 => [(.d (.boolc true), [.d .any, .d .any])]
  | 22 => [(.d (.boolc true), [.d .any, .d .any])]
  | 23 => [(.d (.boolc true), [])]
  | 24 => [(.tup [.agg [.own 57 2, .own 33 1, .own 57 2], .d (.int .i64)], [.d .any, .d .any]), (.tup [.d (.agg [.nil 2, .nil 1, .nil 2]), .d (.int .i64)], [.d .any, .d .any])]
  | 27 => [(.d (.bool), [.d .any])]
  | 28 => [(.d (.agg [.int .i64, .sl 1]), [.d .any, .d .any])]
  | 29 => [(.d (.bool), [.d .any, .d .any, .d .any])]
  | 31 => [(.own 57 2, [.d .any])]
  | 32 => [(.own 33 1, [.d .any])]
  | 33 => [(.d (.int .i64), [.d .any, .d .any])]
  | 34 => [(.d (.int .i64), [.d .any, .d .any])]
  | 35 => [(.own 57 2, [.d .any])]
  | 36 => [(.own 3 1, [.dead, .d .any])]
  | 37 => [(.own 3 1, [.d .any])]
  | 38 => [(.d (.bool), [.d .any, .d .any])]
  | 39 => [(.d (.bool), [.d .any, .any]), (.d (.bool), [.d .any, .any])]
  | 40 => [(.d (.bool), [.d .any, .any])]
  | 41 => [(.d (.bool), [.d .any, .d .any])]
  | 42 => [(.d (.bool), [.d .any, .d .any])]
  | 43 => [(.d (.bool), [.d .any, .d .any])]
  | 44 => [(.agg [.own 57 2, .own 33 1, .own 57 2], [.d .any])]
  | 45 => [(.d (.bool), [.d .any, .d .any])]
  | 46 => [(.agg [.own 57 2, .own 33 1, .own 57 2], [.d .any])]
  | 47 => [(.d (.bool), [.d .any])]
  | 48 => [(.tup [.d (.int .i64), .d (.bool)], [.d .any, .d .any])]
  | 49 => [(.tup [.d (.int .i64), .d (.bool)], [.d .any, .d .any])]
  | 50 => [(.d (.bool), [.d .any])]
  | 51 => [(.d (.bool), [.d .any, .d .any])]
  | 52 => [(.d (.int .i64), [.d .any, .d .any])]
  | 53 => [(.own 33 1, [.d .any])]
  | 54 => [(.d (.bool), [.d .any, .d .any])]
  | 55 => [(.d (.bool), [.d .any, .d .any])]
  | 58 => [(.own 3 1, [])]
  | 59 => [(.d (.bool), [.d .any, .d .any, .d .any, .d .any])]
  | 60 => [(.d (.bool), [.d .any, .own 3 1, .own 3 1])]
  | 61 => [(.own 3 1, [.d .any])]
  | 62 => [(.d (.int .i64), [.d .any, .d .any])]
  | 63 => [(.own 57 2, [.d .any, .d .any])]
  | 64 => [(.tup [.d (.int .i64), .d (.bool)], [.d .any, .d .any])]
  | 65 => [(.d (.int .i64), [.d .any])]
  | 67 => [(.own 3 1, [.d .any])]
  | 68 => [(.own 33 1, [.d .any, .d .any])]
  | 69 => [(.d (.int .i64), [.d .any, .any]), (.d (.int .i64), [.d .any, .any])]
  | 70 => [(.own 33 1, [.d .any, .d .any])]
  | 71 => [(.d (.bool), [.d .any, .d .any])]
  | 72 => [(.d (.bool), [.d .any, .d .any, .d .any])]
  | 73 => [(.d (.bool), [.d .any, .d .any])]
  | 74 => [(.d (.bool), [.d .any, .d .any, .d .any])]
  | 75 => [(.own 57 2, [.d .any])]
  | 76 => [(.d (.bool), [.d .any, .any])]
  | 77 => [(.d (.bool), [.d .any, .any])]
  | 78 => [(.agg [.own 57 2, .own 33 1, .own 57 2], [.d .any, .fn 79 [.dboxv 101 0, .dbox 3 0 [.int .i64]]])]
  | 79 => [(.own 3 1, [.d .any, .dboxv 101 0, .dbox 3 0 [.int .i64]])]
  | 80 => [(.own 3 1, [.d .any])]
  | 81 => [(.own 57 2, [.d .any])]
  | 82 => [(.d (.int .i64), [.d .any, .d .any])]
  | 83 => [(.agg [.own 57 2, .own 33 1, .own 57 2], [.d .any, .d .any])]
  | 84 => [(.d (.bool), [.d .any])]
  | 85 => [(.d (.int .i64), [.d .any, .d .any])]
  | 86 => [(.d (.bool), [.d .any, .d .any])]
  | 87 => [(.tup [.d (.int .i64), .d (.int .i64)], [.d .any, .d .any])]
  | 88 => [(.d (.bool), [.d .any])]
  | 89 => [(.d (.int .i64), [.d .any, .d .any])]
  | 90 => [(.d (.bool), [.d .any, .d .any])]
  | 91 => [(.d (.int .i64), [.d .any, .d .any, .d .any])]
  | 93 => [(.d (.bool), [.d .any, .d .any, .d .any, .d .any])]
  | 94 => [(.d (.bool), [.d .any, .d .any, .d .any, .d .any])]
  | 95 => [(.d (.bool), [.d .any, .d .any])]
  | 96 => [(.d (.bool), [.d .any])]
  | 99 => [(.d (.bool), [.d .any, .d .any])]
  | 100 => [(.tup [.d (.int .i64), .d (.bool)], [.d .any, .d .any, .d .any])]
  | 101 => [(.d (.int .i64), [.d .any, .d .any, .d .any])]
  | 102 => [(.d (.bool), [.d .any, .any])]
  | 103 => [(.d (.int .i64), [.d .any, .any])]
  | 104 => [(.d (.bool), [.d .any, .d .any])]
  | 105 => [(.own 3 1, [.d .any, .d .any])]
  | 106 => [(.d (.bool), [.d .any])]
  | 107 => [(.d (.bool), [.d .any, .d .any])]
  | 108 => [(.tup [.own 3 1, .d (.bool)], [.d .any, .d .any])]
  | 109 => [(.d (.bool), [.d .any])]
  | 110 => [(.d (.bool), [.d .any, .d .any, .d .any, .d .any])]
  | 111 => [(.d (.int .i64), [.d .any, .d .any, .d .any])]
  | 112 => [(.own 3 1, [.d .any, .d .any, .d .any, .d .any])]
  | 113 => [(.d (.bool), [.d .any])]
  | 115 => [(.tup [.d (.int .i64), .d (.bool)], [.d .any, .d .any])]
  | 116 => [(.d (.bool), [.d .any])]
  | 117 => [(.tup [.d (.int .i64), .d (.int .i64)], [.d .any, .d .any, .d .any, .d .any, .d .any])]
  | _ => [(.any, [])]
def L3c : Lps := fun b => match b with
  | _ => [.norm []]
theorem q3c (C J) (z1 : Bool) (x2 : List D) (e3 : List D) (z4 : Bool) (x5 : List D) (e6 : List D) (z7 : Bool) (x8 : List D) (e9 : List D) (z10 : Bool) (x11 : List D) (e12 : List D) (z13 : Bool) (x14 : List D) (e15 : List D) (z16 : Bool) (x17 : List D) (e18 : List D) (z19 : Bool) (x20 : List D) (e21 : List D) (Q) : fnW F C Rc (L3c) J d3 [.d (.sl 4 z1 x2 e3), .d (.agg [.sl 2 z4 x5 e6, .sl 1 z7 x8 e9, .sl 2 z10 x11 e12]), .d (.agg [.sl 2 z13 x14 e15, .sl 1 z16 x17 e18, .sl 2 z19 x20 e21])] Q = (∃ w0 w1 w2 w3 w4 w5 w6, C 9 [IV.d (D.agg [D.sl 2 z4 x5 e6, D.sl 1 z7 x8 e9, D.sl 2 z10 x11 e12])] = some (IV.agg [IV.own w0 57 2 w1, IV.own w2 33 1 w3, IV.own w4 57 2 w5], [IV.d w6]) ∧ ∃ w7 w8 w9 w10, C 10 [IV.d (D.sl 4 z1 x2 e3), IV.d (D.agg [D.sl 2 z4 x5 e6, D.sl 1 z7 x8 e9, D.sl 2 z10 x11 e12])] = some (IV.tup [IV.d (D.int IntKind.i64 w7), IV.d (D.int IntKind.i64 w8)], [IV.d w9, IV.d w10]) ∧ ∃ w11 w12 w13 w14, C 11 [IV.d (D.sl 4 z1 x2 e3), IV.d (D.agg [D.sl 2 z4 x5 e6, D.sl 1 z7 x8 e9, D.sl 2 z10 x11 e12])] = some (IV.tup [IV.d (D.int IntKind.i64 w11), IV.d (D.int IntKind.i64 w12)], [IV.d w13, IV.d w14]) ∧ ∃ w15 w16 w17 w18 w19, C 12 [IV.d (D.sl 4 z1 x2 e3), IV.d (D.agg [D.sl 2 z4 x5 e6, D.sl 1 z7 x8 e9, D.sl 2 z10 x11 e12])] = some (IV.tup [IV.own w15 3 1 w16, IV.d (D.int IntKind.i64 w17)], [IV.d w18, IV.d w19]) ∧ ∃ w20 w21 w22 w23 w24, C 13 [IV.d (D.sl 4 z1 x2 e3), IV.d (D.agg [D.sl 2 z4 x5 e6, D.sl 1 z7 x8 e9, D.sl 2 z10 x11 e12])] = some (IV.tup [IV.own w20 3 1 w21, IV.d (D.int IntKind.i64 w22)], [IV.d w23, IV.d w24]) ∧ ∃ w25 w26 w27, C 14 [IV.d (D.sl 4 z1 x2 e3), IV.d (D.agg [D.sl 2 z4 x5 e6, D.sl 1 z7 x8 e9, D.sl 2 z10 x11 e12])] = some (IV.tup [IV.d (D.bool true), IV.d (D.int IntKind.i64 w25)], [IV.d w26, IV.d w27]) ∧ ∃ w28 w29 w30, C 15 [IV.d (D.sl 4 z1 x2 e3), IV.d (D.agg [D.sl 2 z4 x5 e6, D.sl 1 z7 x8 e9, D.sl 2 z10 x11 e12])] = some (IV.tup [IV.d (D.bool true), IV.d (D.int IntKind.i64 w28)], [IV.d w29, IV.d w30]) ∧ ∃ w31 w32 w33 w34, C 16 [IV.d (D.sl 4 z1 x2 e3), IV.d (D.agg [D.sl 2 z4 x5 e6, D.sl 1 z7 x8 e9, D.sl 2 z10 x11 e12]), IV.d (D.agg [D.sl 2 z13 x14 e15, D.sl 1 z16 x17 e18, D.sl 2 z19 x20 e21])] = some (IV.tup [IV.d (D.bool false), IV.d (D.int IntKind.i64 w31)], [IV.d w32, IV.d w33, IV.d w34]) ∧ ∃ w35 w36 w37 w38, C 17 [IV.d (D.sl 4 z1 x2 e3), IV.d (D.agg [D.sl 2 z4 x5 e6, D.sl 1 z7 x8 e9, D.sl 2 z10 x11 e12]), IV.d (D.agg [D.sl 2 z13 x14 e15, D.sl 1 z16 x17 e18, D.sl 2 z19 x20 e21])] = some (IV.tup [IV.d (D.bool false), IV.d (D.int IntKind.i64 w35)], [IV.d w36, IV.d w37, IV.d w38]) ∧ ∃ w39 w40, C 18 [IV.d (D.sl 4 z1 x2 e3), IV.d (D.agg [D.sl 2 z4 x5 e6, D.sl 1 z7 x8 e9, D.sl 2 z10 x11 e12])] = some (IV.d (D.bool true), [IV.d w39, IV.d w40]) ∧ ∃ w41 w42, C 19 [IV.d (D.sl 4 z1 x2 e3), IV.d (D.agg [D.sl 2 z4 x5 e6, D.sl 1 z7 x8 e9, D.sl 2 z10 x11 e12])] = some (IV.d (D.bool true), [IV.d w41, IV.d w42]) ∧ condW (w7 == w11) (∃ w43 w44, C 20 [IV.d (D.int IntKind.i64 w8)] = some (IV.d (D.int IntKind.i64 w43), [IV.d w44]) ∧ condW (w43 == w12) (∃ w45 w46, C 21 [IV.d (D.sl 1 w15 w16 []), IV.d (D.sl 1 w20 w21 [])] = some (IV.d (D.bool true), [IV.d w45, IV.d w46]) ∧ ∃ w47 w48, C 20 [IV.d (D.int IntKind.i64 w17)] = some (IV.d (D.int IntKind.i64 w47), [IV.d w48]) ∧ condW (w47 == w22) (∃ w49 w50, C 20 [IV.d (D.int IntKind.i64 w25)] = some (IV.d (D.int IntKind.i64 w49), [IV.d w50]) ∧ condW (w49 == w28) (∃ w51 w52, C 20 [IV.d (D.int IntKind.i64 w31)] = some (IV.d (D.int IntKind.i64 w51), [IV.d w52]) ∧ condW (w51 == w35) (∃ w53 w54, C 22 [IV.d (D.agg [D.sl 2 z4 x5 e6, D.sl 1 z7 x8 e9, D.sl 2 z10 x11 e12]), IV.d (D.agg [D.sl 2 w0 w1 [], D.sl 1 w2 w3 [], D.sl 2 w4 w5 []])] = some (IV.d (D.bool true), [IV.d w53, IV.d w54]) ∧ C 23 [] = some (IV.d (D.bool true), []) ∧ Q (some (IV.d (D.bool true), [IV.d (D.sl 4 z1 x2 e3), IV.d (D.agg [D.sl 2 z4 x5 e6, D.sl 1 z7 x8 e9, D.sl 2 z10 x11 e12]), IV.d (D.agg [D.sl 2 z13 x14 e15, D.sl 1 z16 x17 e18, D.sl 2 z19 x20 e21])]))) (Q (some (IV.d (D.bool false), [IV.d (D.sl 4 z1 x2 e3), IV.d (D.agg [D.sl 2 z4 x5 e6, D.sl 1 z7 x8 e9, D.sl 2 z10 x11 e12]), IV.d (D.agg [D.sl 2 z13 x14 e15, D.sl 1 z16 x17 e18, D.sl 2 z19 x20 e21])])))) (Q (some (IV.d (D.bool false), [IV.d (D.sl 4 z1 x2 e3), IV.d (D.agg [D.sl 2 z4 x5 e6, D.sl 1 z7 x8 e9, D.sl 2 z10 x11 e12]), IV.d (D.agg [D.sl 2 z13 x14 e15, D.sl 1 z16 x17 e18, D.sl 2 z19 x20 e21])])))) (Q (some (IV.d (D.bool false), [IV.d (D.sl 4 z1 x2 e3), IV.d (D.agg [D.sl 2 z4 x5 e6, D.sl 1 z7 x8 e9, D.sl 2 z10 x11 e12]), IV.d (D.agg [D.sl 2 z13 x14 e15, D.sl 1 z16 x17 e18, D.sl 2 z19 x20 e21])])))) (Q (some (IV.d (D.bool false), [IV.d (D.sl 4 z1 x2 e3), IV.d (D.agg [D.sl 2 z4 x5 e6, D.sl 1 z7 x8 e9, D.sl 2 z10 x11 e12]), IV.d (D.agg [D.sl 2 z13 x14 e15, D.sl 1 z16 x17 e18, D.sl 2 z19 x20 e21])])))) (Q (some (IV.d (D.bool false), [IV.d (D.sl 4 z1 x2 e3), IV.d (D.agg [D.sl 2 z4 x5 e6, D.sl 1 z7 x8 e9, D.sl 2 z10 x11 e12]), IV.d (D.agg [D.sl 2 z13 x14 e15, D.sl 1 z16 x17 e18, D.sl 2 z19 x20 e21])])))) := by kernel_rfl
end Go.Proofs.YtjhganbjbiihoaaDoor.Ab

/- Written by a program of this session (wip/tools/AbSym.lean). Not trusted: Lean checks it. -/
set_option maxRecDepth 100000
set_option linter.unusedVariables false
namespace Go.Proofs.YtjhganbjbiihoaaDoor.Ab
open Go Go.Ab Go.Proofs
def Rd : Rets := fun f => match f with
  | 3 => [(.d (.bool), [.d .any, .d .any, .d .any])]
  | 9 => [(.agg [.own 57 2, .own 33 1, .own 57 2], [.d .any])]
  | 10 => [(.tup [.d (.int .i64), .d (.int .i64)], [.d .any, .d .any])]
  | 11 => [(.tup [.d (.int .i64), .d (.int .i64)], [.d .any, .d .any])]
  | 12 => [(.tup [.own 3 1, .d (.int .i64)], [.d .any, .d .any])]
  | 13 => [(.tup [.own 3 1, .d (.int .i64)], [.d .any, .d .any])]
  | 14 => [(.tup [.d (.boolc false), .d (.int .i64)], [.d .any, .d .any])]
  | 15 => [(.tup [.d (.boolc false), .d (.int .i64)], [.d .any, .d .any])]
  | 16 => [(.tup [.d (.boolc true), .d (.int .i64)], [.d .any, .d .any, .d .any])]
  | 17 => [(.tup [.d (.boolc true), .d (.int .i64)], [.d .any, .d .any, .d .any])]
  | 18 => [(.d (.boolc true), [.d .any, .d .any])]
  | 19 => [(.d (.boolc true), [.d .any, .d .any])]
  | 20 => [(.d (.int .i64), [.d .any])]
  | 21 => [(.d (.boolc true), [.d .any, .d .any])]
  | 22 => [(.d (.boolc true), [.d .any, .d .any])]
  | 23 => [(.d (.boolc true), [])]
  | 24 => [(.tup [.agg [.own 57 2, .own 33 1, .own 57 2], .d (.int .i64)], [.d .any, .d .any]), (.tup [.d (.agg [.nil 2, .nil 1, .nil 2]), .d (.int .i64)], [.d .any, .d .any])]
  | 27 => [(.d (.bool), [.d .any])]
  | 28 => [(.d (.agg [.int .i64, .sl 1]), [.d .any, .d .any])]
  | 29 => [(.d (.bool), [.d .any, .d .any, .d .any])]
  | 31 => [(.own 57 2, [.d .any])]
  | 32 => [(.own 33 1, [.d .any])]
  | 33 => [(.d (.int .i64), [.d .any, .d .any])]
  | 34 => [(.d (.int .i64), [.d .any, .d .any])]
  | 35 => [(.own 57 2, [.d .any])]
  | 36 => [(.own 3 1, [.dead, .d .any])]
  | 37 => [(.own 3 1, [.d .any])]
  | 38 => [(.d (.bool), [.d .any, .d .any])]
  | 39 => [(.d (.bool), [.d .any, .any]), (.d (.bool), [.d .any, .any])]
  | 40 => [(.d (.bool), [.d .any, .any])]
  | 41 => [(.d (.bool), [.d .any, .d .any])]
  | 42 => [(.d (.bool), [.d .any, .d .any])]
  | 43 => [(.d (.bool), [.d .any, .d .any])]
  | 44 => [(.agg [.own 57 2, .own 33 1, .own 57 2], [.d .any])]
  | 45 => [(.d (.bool), [.d .any, .d .any])]
  | 46 => [(.agg [.own 57 2, .own 33 1, .own 57 2], [.d .any])]
  | 47 => [(.d (.bool), [.d .any])]
  | 48 => [(.tup [.d (.int .i64), .d (.bool)], [.d .any, .d .any])]
  | 49 => [(.tup [.d (.int .i64), .d (.bool)], [.d .any, .d .any])]
  | 50 => [(.d (.bool), [.d .any])]
  | 51 => [(.d (.bool), [.d .any, .d .any])]
  | 52 => [(.d (.int .i64), [.d .any, .d .any])]
  | 53 => [(.own 33 1, [.d .any])]
  | 54 => [(.d (.bool), [.d .any, .d .any])]
  | 55 => [(.d (.bool), [.d .any, .d .any])]
  | 58 => [(.own 3 1, [])]
  | 59 => [(.d (.bool), [.d .any, .d .any, .d .any, .d .any])]
  | 60 => [(.d (.bool), [.d .any, .own 3 1, .own 3 1])]
  | 61 => [(.own 3 1, [.d .any])]
  | 62 => [(.d (.int .i64), [.d .any, .d .any])]
  | 63 => [(.own 57 2, [.d .any, .d .any])]
  | 64 => [(.tup [.d (.int .i64), .d (.bool)], [.d .any, .d .any])]
  | 65 => [(.d (.int .i64), [.d .any])]
  | 67 => [(.own 3 1, [.d .any])]
  | 68 => [(.own 33 1, [.d .any, .d .any])]
  | 69 => [(.d (.int .i64), [.d .any, .any]), (.d (.int .i64), [.d .any, .any])]
  | 70 => [(.own 33 1, [.d .any, .d .any])]
  | 71 => [(.d (.bool), [.d .any, .d .any])]
  | 72 => [(.d (.bool), [.d .any, .d .any, .d .any])]
  | 73 => [(.d (.bool), [.d .any, .d .any])]
  | 74 => [(.d (.bool), [.d .any, .d .any, .d .any])]
  | 75 => [(.own 57 2, [.d .any])]
  | 76 => [(.d (.bool), [.d .any, .any])]
  | 77 => [(.d (.bool), [.d .any, .any])]
  | 78 => [(.agg [.own 57 2, .own 33 1, .own 57 2], [.d .any, .fn 79 [.dboxv 101 0, .dbox 3 0 [.int .i64]]])]
  | 79 => [(.own 3 1, [.d .any, .dboxv 101 0, .dbox 3 0 [.int .i64]])]
  | 80 => [(.own 3 1, [.d .any])]
  | 81 => [(.own 57 2, [.d .any])]
  | 82 => [(.d (.int .i64), [.d .any, .d .any])]
  | 83 => [(.agg [.own 57 2, .own 33 1, .own 57 2], [.d .any, .d .any])]
  | 84 => [(.d (.bool), [.d .any])]
  | 85 => [(.d (.int .i64), [.d .any, .d .any])]
  | 86 => [(.d (.bool), [.d .any, .d .any])]
  | 87 => [(.tup [.d (.int .i64), .d (.int .i64)], [.d .any, .d .any])]
  | 88 => [(.d (.bool), [.d .any])]
  | 89 => [(.d (.int .i64), [.d .any, .d .any])]
  | 90 => [(.d (.bool), [.d .any, .d .any])]
  | 91 => [(.d (.int .i64), [.d .any, .d .any, .d .any])]
  | 93 => [(.d (.bool), [.d .any, .d .any, .d .any, .d .any])]
  | 94 => [(.d (.bool), [.d .any, .d .any, .d .any, .d .any])]
  | 95 => [(.d (.bool), [.d .any, .d .any])]
  | 96 => [(.d (.bool), [.d .any])]
  | 99 => [(.d (.bool), [.d .any, .d .any])]
  | 100 => [(.tup [.d (.int .i64), .d (.bool)], [.d .any, .d .any, .d .any])]
  | 101 => [(.d (.int .i64), [.d .any, .d .any, .d .any])]
  | 102 => [(.d (.bool), [.d .any, .any])]
  | 103 => [(.d (.int .i64), [.d .any, .any])]
  | 104 => [(.d (.bool), [.d .any, .d .any])]
  | 105 => [(.own 3 1, [.d .any, .d .any])]
  | 106 => [(.d (.bool), [.d .any])]
  | 107 => [(.d (.bool), [.d .any, .d .any])]
  | 108 => [(.tup [.own 3 1, .d (.bool)], [.d .any, .d .any])]
  | 109 => [(.d (.bool), [.d .any])]
  | 110 => [(.d (.bool), [.d .any, .d .any, .d .any, .d .any])]
  | 111 => [(.d (.int .i64), [.d .any, .d .any, .d .any])]
  | 112 => [(.own 3 1, [.d .any, .d .any, .d .any, .d .any])]
  | 113 => [(.d (.bool), [.d .any])]
  | 115 => [(.tup [.d (.int .i64), .d (.bool)], [.d .any, .d .any])]
  | 116 => [(.d (.bool), [.d .any])]
  | 117 => [(.tup [.d (.int .i64), .d (.int .i64)], [.d .any, .d .any, .d .any, .d .any, .d .any])]
  | _ => [(.any, [])]
def L3d : Lps := fun b => match b with
  | _ => [.norm []]
theorem q3d (C J) (z1 : Bool) (x2 : List D) (e3 : List D) (z4 : Bool) (x5 : List D) (e6 : List D) (z7 : Bool) (x8 : List D) (e9 : List D) (z10 : Bool) (x11 : List D) (e12 : List D) (z13 : Bool) (x14 : List D) (e15 : List D) (z16 : Bool) (x17 : List D) (e18 : List D) (z19 : Bool) (x20 : List D) (e21 : List D) (Q) : fnW F C Rd (L3d) J d3 [.d (.sl 4 z1 x2 e3), .d (.agg [.sl 2 z4 x5 e6, .sl 1 z7 x8 e9, .sl 2 z10 x11 e12]), .d (.agg [.sl 2 z13 x14 e15, .sl 1 z16 x17 e18, .sl 2 z19 x20 e21])] Q = (∃ w0 w1 w2 w3 w4 w5 w6, C 9 [IV.d (D.agg [D.sl 2 z4 x5 e6, D.sl 1 z7 x8 e9, D.sl 2 z10 x11 e12])] = some (IV.agg [IV.own w0 57 2 w1, IV.own w2 33 1 w3, IV.own w4 57 2 w5], [IV.d w6]) ∧ ∃ w7 w8 w9 w10, C 10 [IV.d (D.sl 4 z1 x2 e3), IV.d (D.agg [D.sl 2 z4 x5 e6, D.sl 1 z7 x8 e9, D.sl 2 z10 x11 e12])] = some (IV.tup [IV.d (D.int IntKind.i64 w7), IV.d (D.int IntKind.i64 w8)], [IV.d w9, IV.d w10]) ∧ ∃ w11 w12 w13 w14, C 11 [IV.d (D.sl 4 z1 x2 e3), IV.d (D.agg [D.sl 2 z4 x5 e6, D.sl 1 z7 x8 e9, D.sl 2 z10 x11 e12])] = some (IV.tup [IV.d (D.int IntKind.i64 w11), IV.d (D.int IntKind.i64 w12)], [IV.d w13, IV.d w14]) ∧ ∃ w15 w16 w17 w18 w19, C 12 [IV.d (D.sl 4 z1 x2 e3), IV.d (D.agg [D.sl 2 z4 x5 e6, D.sl 1 z7 x8 e9, D.sl 2 z10 x11 e12])] = some (IV.tup [IV.own w15 3 1 w16, IV.d (D.int IntKind.i64 w17)], [IV.d w18, IV.d w19]) ∧ ∃ w20 w21 w22 w23 w24, C 13 [IV.d (D.sl 4 z1 x2 e3), IV.d (D.agg [D.sl 2 z4 x5 e6, D.sl 1 z7 x8 e9, D.sl 2 z10 x11 e12])] = some (IV.tup [IV.own w20 3 1 w21, IV.d (D.int IntKind.i64 w22)], [IV.d w23, IV.d w24]) ∧ ∃ w25 w26 w27, C 14 [IV.d (D.sl 4 z1 x2 e3), IV.d (D.agg [D.sl 2 z4 x5 e6, D.sl 1 z7 x8 e9, D.sl 2 z10 x11 e12])] = some (IV.tup [IV.d (D.bool false), IV.d (D.int IntKind.i64 w25)], [IV.d w26, IV.d w27]) ∧ ∃ w28 w29 w30, C 15 [IV.d (D.sl 4 z1 x2 e3), IV.d (D.agg [D.sl 2 z4 x5 e6, D.sl 1 z7 x8 e9, D.sl 2 z10 x11 e12])] = some (IV.tup [IV.d (D.bool false), IV.d (D.int IntKind.i64 w28)], [IV.d w29, IV.d w30]) ∧ ∃ w31 w32 w33 w34, C 16 [IV.d (D.sl 4 z1 x2 e3), IV.d (D.agg [D.sl 2 z4 x5 e6, D.sl 1 z7 x8 e9, D.sl 2 z10 x11 e12]), IV.d (D.agg [D.sl 2 z13 x14 e15, D.sl 1 z16 x17 e18, D.sl 2 z19 x20 e21])] = some (IV.tup [IV.d (D.bool true), IV.d (D.int IntKind.i64 w31)], [IV.d w32, IV.d w33, IV.d w34]) ∧ ∃ w35 w36 w37 w38, C 17 [IV.d (D.sl 4 z1 x2 e3), IV.d (D.agg [D.sl 2 z4 x5 e6, D.sl 1 z7 x8 e9, D.sl 2 z10 x11 e12]), IV.d (D.agg [D.sl 2 z13 x14 e15, D.sl 1 z16 x17 e18, D.sl 2 z19 x20 e21])] = some (IV.tup [IV.d (D.bool true), IV.d (D.int IntKind.i64 w35)], [IV.d w36, IV.d w37, IV.d w38]) ∧ ∃ w39 w40, C 18 [IV.d (D.sl 4 z1 x2 e3), IV.d (D.agg [D.sl 2 z4 x5 e6, D.sl 1 z7 x8 e9, D.sl 2 z10 x11 e12])] = some (IV.d (D.bool true), [IV.d w39, IV.d w40]) ∧ ∃ w41 w42, C 19 [IV.d (D.sl 4 z1 x2 e3), IV.d (D.agg [D.sl 2 z4 x5 e6, D.sl 1 z7 x8 e9, D.sl 2 z10 x11 e12])] = some (IV.d (D.bool true), [IV.d w41, IV.d w42]) ∧ condW (w7 == w11) (∃ w43 w44, C 20 [IV.d (D.int IntKind.i64 w8)] = some (IV.d (D.int IntKind.i64 w43), [IV.d w44]) ∧ condW (w43 == w12) (∃ w45 w46, C 21 [IV.d (D.sl 1 w15 w16 []), IV.d (D.sl 1 w20 w21 [])] = some (IV.d (D.bool true), [IV.d w45, IV.d w46]) ∧ ∃ w47 w48, C 20 [IV.d (D.int IntKind.i64 w17)] = some (IV.d (D.int IntKind.i64 w47), [IV.d w48]) ∧ condW (w47 == w22) (∃ w49 w50, C 20 [IV.d (D.int IntKind.i64 w25)] = some (IV.d (D.int IntKind.i64 w49), [IV.d w50]) ∧ condW (w49 == w28) (∃ w51 w52, C 20 [IV.d (D.int IntKind.i64 w31)] = some (IV.d (D.int IntKind.i64 w51), [IV.d w52]) ∧ condW (w51 == w35) (∃ w53 w54, C 22 [IV.d (D.agg [D.sl 2 z4 x5 e6, D.sl 1 z7 x8 e9, D.sl 2 z10 x11 e12]), IV.d (D.agg [D.sl 2 w0 w1 [], D.sl 1 w2 w3 [], D.sl 2 w4 w5 []])] = some (IV.d (D.bool true), [IV.d w53, IV.d w54]) ∧ C 23 [] = some (IV.d (D.bool true), []) ∧ Q (some (IV.d (D.bool true), [IV.d (D.sl 4 z1 x2 e3), IV.d (D.agg [D.sl 2 z4 x5 e6, D.sl 1 z7 x8 e9, D.sl 2 z10 x11 e12]), IV.d (D.agg [D.sl 2 z13 x14 e15, D.sl 1 z16 x17 e18, D.sl 2 z19 x20 e21])]))) (Q (some (IV.d (D.bool false), [IV.d (D.sl 4 z1 x2 e3), IV.d (D.agg [D.sl 2 z4 x5 e6, D.sl 1 z7 x8 e9, D.sl 2 z10 x11 e12]), IV.d (D.agg [D.sl 2 z13 x14 e15, D.sl 1 z16 x17 e18, D.sl 2 z19 x20 e21])])))) (Q (some (IV.d (D.bool false), [IV.d (D.sl 4 z1 x2 e3), IV.d (D.agg [D.sl 2 z4 x5 e6, D.sl 1 z7 x8 e9, D.sl 2 z10 x11 e12]), IV.d (D.agg [D.sl 2 z13 x14 e15, D.sl 1 z16 x17 e18, D.sl 2 z19 x20 e21])])))) (Q (some (IV.d (D.bool false), [IV.d (D.sl 4 z1 x2 e3), IV.d (D.agg [D.sl 2 z4 x5 e6, D.sl 1 z7 x8 e9, D.sl 2 z10 x11 e12]), IV.d (D.agg [D.sl 2 z13 x14 e15, D.sl 1 z16 x17 e18, D.sl 2 z19 x20 e21])])))) (Q (some (IV.d (D.bool false), [IV.d (D.sl 4 z1 x2 e3), IV.d (D.agg [D.sl 2 z4 x5 e6, D.sl 1 z7 x8 e9, D.sl 2 z10 x11 e12]), IV.d (D.agg [D.sl 2 z13 x14 e15, D.sl 1 z16 x17 e18, D.sl 2 z19 x20 e21])])))) (Q (some (IV.d (D.bool false), [IV.d (D.sl 4 z1 x2 e3), IV.d (D.agg [D.sl 2 z4 x5 e6, D.sl 1 z7 x8 e9, D.sl 2 z10 x11 e12]), IV.d (D.agg [D.sl 2 z13 x14 e15, D.sl 1 z16 x17 e18, D.sl 2 z19 x20 e21])])))) := by kernel_rfl
end Go.Proofs.YtjhganbjbiihoaaDoor.Ab

/- Written by a program of this session (wip/tools/AbSym.lean). Not trusted: Lean checks it. -/
set_option maxRecDepth 100000
set_option linter.unusedVariables false
namespace Go.Proofs.YtjhganbjbiihoaaDoor.Ab
open Go Go.Ab Go.Proofs
def Re : Rets := fun f => match f with
  | 3 => [(.d (.bool), [.d .any, .d .any, .d .any])]
  | 9 => [(.agg [.own 57 2, .own 33 1, .own 57 2], [.d .any])]
  | 10 => [(.tup [.d (.int .i64), .d (.int .i64)], [.d .any, .d .any])]
  | 11 => [(.tup [.d (.int .i64), .d (.int .i64)], [.d .any, .d .any])]
  | 12 => [(.tup [.own 3 1, .d (.int .i64)], [.d .any, .d .any])]
  | 13 => [(.tup [.own 3 1, .d (.int .i64)], [.d .any, .d .any])]
  | 14 => [(.tup [.d (.boolc true), .d (.int .i64)], [.d .any, .d .any])]
  | 15 => [(.tup [.d (.boolc true), .d (.int .i64)], [.d .any, .d .any])]
  | 16 => [(.tup [.d (.boolc true), .d (.int .i64)], [.d .any, .d .any, .d .any])]
  | 17 => [(.tup [.d (.boolc true), .d (.int .i64)], [.d .any, .d .any, .d .any])]
  | 18 => [(.d (.boolc true), [.d .any, .d .any])]
  | 19 => [(.d (.boolc true), [.d .any, .d .any])]
  | 20 => [(.d (.int .i64), [.d .any])]
  | 21 => [(.d (.boolc true), [.d .any, .d .any])]
  | 22 => [(.d (.boolc true), [.d .any, .d .any])]
  | 23 => [(.d (.boolc true), [])]
  | 24 => [(.tup [.agg [.own 57 2, .own 33 1, .own 57 2], .d (.int .i64)], [.d .any, .d .any]), (.tup [.d (.agg [.nil 2, .nil 1, .nil 2]), .d (.int .i64)], [.d .any, .d .any])]
  | 27 => [(.d (.bool), [.d .any])]
  | 28 => [(.d (.agg [.int .i64, .sl 1]), [.d .any, .d .any])]
  | 29 => [(.d (.bool), [.d .any, .d .any, .d .any])]
  | 31 => [(.own 57 2, [.d .any])]
  | 32 => [(.own 33 1, [.d .any])]
  | 33 => [(.d (.int .i64), [.d .any, .d .any])]
  | 34 => [(.d (.int .i64), [.d .any, .d .any])]
  | 35 => [(.own 57 2, [.d .any])]
  | 36 => [(.own 3 1, [.dead, .d .any])]
  | 37 => [(.own 3 1, [.d .any])]
  | 38 => [(.d (.bool), [.d .any, .d .any])]
  | 39 => [(.d (.bool), [.d .any, .any]), (.d (.bool), [.d .any, .any])]
  | 40 => [(.d (.bool), [.d .any, .any])]
  | 41 => [(.d (.bool), [.d .any, .d .any])]
  | 42 => [(.d (.bool), [.d .any, .d .any])]
  | 43 => [(.d (.bool), [.d .any, .d .any])]
  | 44 => [(.agg [.own 57 2, .own 33 1, .own 57 2], [.d .any])]
  | 45 => [(.d (.bool), [.d .any, .d .any])]
  | 46 => [(.agg [.own 57 2, .own 33 1, .own 57 2], [.d .any])]
  | 47 => [(.d (.bool), [.d .any])]
  | 48 => [(.tup [.d (.int .i64), .d (.bool)], [.d .any, .d .any])]
  | 49 => [(.tup [.d (.int .i64), .d (.bool)], [.d .any, .d .any])]
  | 50 => [(.d (.bool), [.d .any])]
  | 51 => [(.d (.bool), [.d .any, .d .any])]
  | 52 => [(.d (.int .i64), [.d .any, .d .any])]
  | 53 => [(.own 33 1, [.d .any])]
  | 54 => [(.d (.bool), [.d .any, .d .any])]
  | 55 => [(.d (.bool), [.d .any, .d .any])]
  | 58 => [(.own 3 1, [])]
  | 59 => [(.d (.bool), [.d .any, .d .any, .d .any, .d .any])]
  | 60 => [(.d (.bool), [.d .any, .own 3 1, .own 3 1])]
  | 61 => [(.own 3 1, [.d .any])]
  | 62 => [(.d (.int .i64), [.d .any, .d .any])]
  | 63 => [(.own 57 2, [.d .any, .d .any])]
  | 64 => [(.tup [.d (.int .i64), .d (.bool)], [.d .any, .d .any])]
  | 65 => [(.d (.int .i64), [.d .any])]
  | 67 => [(.own 3 1, [.d .any])]
  | 68 => [(.own 33 1, [.d .any, .d .any])]
  | 69 => [(.d (.int .i64), [.d .any, .any]), (.d (.int .i64), [.d .any, .any])]
  | 70 => [(.own 33 1, [.d .any, .d .any])]
  | 71 => [(.d (.bool), [.d .any, .d .any])]
  | 72 => [(.d (.bool), [.d .any, .d .any, .d .any])]
  | 73 => [(.d (.bool), [.d .any, .d .any])]
  | 74 => [(.d (.bool), [.d .any, .d .any, .d .any])]
  | 75 => [(.own 57 2, [.d .any])]
  | 76 => [(.d (.bool), [.d .any, .any])]
  | 77 => [(.d (.bool), [.d .any, .any])]
  | 78 => [(.agg [.own 57 2, .own 33 1, .own 57 2], [.d .any, .fn 79 [.dboxv 101 0, .dbox 3 0 [.int .i64]]])]
  | 79 => [(.own 3 1, [.d .any, .dboxv 101 0, .dbox 3 0 [.int .i64]])]
  | 80 => [(.own 3 1, [.d .any])]
  | 81 => [(.own 57 2, [.d .any])]
  | 82 => [(.d (.int .i64), [.d .any, .d .any])]
  | 83 => [(.agg [.own 57 2, .own 33 1, .own 57 2], [.d .any, .d .any])]
  | 84 => [(.d (.bool), [.d .any])]
  | 85 => [(.d (.int .i64), [.d .any, .d .any])]
  | 86 => [(.d (.bool), [.d .any, .d .any])]
  | 87 => [(.tup [.d (.int .i64), .d (.int .i64)], [.d .any, .d .any])]
  | 88 => [(.d (.bool), [.d .any])]
  | 89 => [(.d (.int .i64), [.d .any, .d .any])]
  | 90 => [(.d (.bool), [.d .any, .d .any])]
  | 91 => [(.d (.int .i64), [.d .any, .d .any, .d .any])]
  | 93 => [(.d (.bool), [.d .any, .d .any, .d .any, .d .any])]
  | 94 => [(.d (.bool), [.d .any, .d .any, .d .any, .d .any])]
  | 95 => [(.d (.bool), [.d .any, .d .any])]
  | 96 => [(.d (.bool), [.d .any])]
  | 99 => [(.d (.bool), [.d .any, .d .any])]
  | 100 => [(.tup [.d (.int .i64), .d (.bool)], [.d .any, .d .any, .d .any])]
  | 101 => [(.d (.int .i64), [.d .any, .d .any, .d .any])]
  | 102 => [(.d (.bool), [.d .any, .any])]
  | 103 => [(.d (.int .i64), [.d .any, .any])]
  | 104 => [(.d (.bool), [.d .any, .d .any])]
  | 105 => [(.own 3 1, [.d .any, .d .any])]
  | 106 => [(.d (.bool), [.d .any])]
  | 107 => [(.d (.bool), [.d .any, .d .any])]
  | 108 => [(.tup [.own 3 1, .d (.bool)], [.d .any, .d .any])]
  | 109 => [(.d (.bool), [.d .any])]
  | 110 => [(.d (.bool), [.d .any, .d .any, .d .any, .d .any])]
  | 111 => [(.d (.int .i64), [.d .any, .d .any, .d .any])]
  | 112 => [(.own 3 1, [.d .any, .d .any, .d .any, .d .any])]
  | 113 => [(.d (.bool), [.d .any])]
  | 115 => [(.tup [.d (.int .i64), .d (.bool)], [.d .any, .d .any])]
  | 116 => [(.d (.bool), [.d .any])]
  | 117 => [(.tup [.d (.int .i64), .d (.int .i64)], [.d .any, .d .any, .d .any, .d .any, .d .any])]
  | _ => [(.any, [])]
def L3e : Lps := fun b => match b with
  | _ => [.norm []]
theorem q3e (C J) (z1 : Bool) (x2 : List D) (e3 : List D) (z4 : Bool) (x5 : List D) (e6 : List D) (z7 : Bool) (x8 : List D) (e9 : List D) (z10 : Bool) (x11 : List D) (e12 : List D) (z13 : Bool) (x14 : List D) (e15 : List D) (z16 : Bool) (x17 : List D) (e18 : List D) (z19 : Bool) (x20 : List D) (e21 : List D) (Q) : fnW F C Re (L3e) J d3 [.d (.sl 4 z1 x2 e3), .d (.agg [.sl 2 z4 x5 e6, .sl 1 z7 x8 e9, .sl 2 z10 x11 e12]), .d (.agg [.sl 2 z13 x14 e15, .sl 1 z16 x17 e18, .sl 2 z19 x20 e21])] Q = (∃ w0 w1 w2 w3 w4 w5 w6, C 9 [IV.d (D.agg [D.sl 2 z4 x5 e6, D.sl 1 z7 x8 e9, D.sl 2 z10 x11 e12])] = some (IV.agg [IV.own w0 57 2 w1, IV.own w2 33 1 w3, IV.own w4 57 2 w5], [IV.d w6]) ∧ ∃ w7 w8 w9 w10, C 10 [IV.d (D.sl 4 z1 x2 e3), IV.d (D.agg [D.sl 2 z4 x5 e6, D.sl 1 z7 x8 e9, D.sl 2 z10 x11 e12])] = some (IV.tup [IV.d (D.int IntKind.i64 w7), IV.d (D.int IntKind.i64 w8)], [IV.d w9, IV.d w10]) ∧ ∃ w11 w12 w13 w14, C 11 [IV.d (D.sl 4 z1 x2 e3), IV.d (D.agg [D.sl 2 z4 x5 e6, D.sl 1 z7 x8 e9, D.sl 2 z10 x11 e12])] = some (IV.tup [IV.d (D.int IntKind.i64 w11), IV.d (D.int IntKind.i64 w12)], [IV.d w13, IV.d w14]) ∧ ∃ w15 w16 w17 w18 w19, C 12 [IV.d (D.sl 4 z1 x2 e3), IV.d (D.agg [D.sl 2 z4 x5 e6, D.sl 1 z7 x8 e9, D.sl 2 z10 x11 e12])] = some (IV.tup [IV.own w15 3 1 w16, IV.d (D.int IntKind.i64 w17)], [IV.d w18, IV.d w19]) ∧ ∃ w20 w21 w22 w23 w24, C 13 [IV.d (D.sl 4 z1 x2 e3), IV.d (D.agg [D.sl 2 z4 x5 e6, D.sl 1 z7 x8 e9, D.sl 2 z10 x11 e12])] = some (IV.tup [IV.own w20 3 1 w21, IV.d (D.int IntKind.i64 w22)], [IV.d w23, IV.d w24]) ∧ ∃ w25 w26 w27, C 14 [IV.d (D.sl 4 z1 x2 e3), IV.d (D.agg [D.sl 2 z4 x5 e6, D.sl 1 z7 x8 e9, D.sl 2 z10 x11 e12])] = some (IV.tup [IV.d (D.bool true), IV.d (D.int IntKind.i64 w25)], [IV.d w26, IV.d w27]) ∧ ∃ w28 w29 w30, C 15 [IV.d (D.sl 4 z1 x2 e3), IV.d (D.agg [D.sl 2 z4 x5 e6, D.sl 1 z7 x8 e9, D.sl 2 z10 x11 e12])] = some (IV.tup [IV.d (D.bool true), IV.d (D.int IntKind.i64 w28)], [IV.d w29, IV.d w30]) ∧ ∃ w31 w32 w33 w34, C 16 [IV.d (D.sl 4 z1 x2 e3), IV.d (D.agg [D.sl 2 z4 x5 e6, D.sl 1 z7 x8 e9, D.sl 2 z10 x11 e12]), IV.d (D.agg [D.sl 2 z13 x14 e15, D.sl 1 z16 x17 e18, D.sl 2 z19 x20 e21])] = some (IV.tup [IV.d (D.bool true), IV.d (D.int IntKind.i64 w31)], [IV.d w32, IV.d w33, IV.d w34]) ∧ ∃ w35 w36 w37 w38, C 17 [IV.d (D.sl 4 z1 x2 e3), IV.d (D.agg [D.sl 2 z4 x5 e6, D.sl 1 z7 x8 e9, D.sl 2 z10 x11 e12]), IV.d (D.agg [D.sl 2 z13 x14 e15, D.sl 1 z16 x17 e18, D.sl 2 z19 x20 e21])] = some (IV.tup [IV.d (D.bool true), IV.d (D.int IntKind.i64 w35)], [IV.d w36, IV.d w37, IV.d w38]) ∧ ∃ w39 w40, C 18 [IV.d (D.sl 4 z1 x2 e3), IV.d (D.agg [D.sl 2 z4 x5 e6, D.sl 1 z7 x8 e9, D.sl 2 z10 x11 e12])] = some (IV.d (D.bool true), [IV.d w39, IV.d w40]) ∧ ∃ w41 w42, C 19 [IV.d (D.sl 4 z1 x2 e3), IV.d (D.agg [D.sl 2 z4 x5 e6, D.sl 1 z7 x8 e9, D.sl 2 z10 x11 e12])] = some (IV.d (D.bool true), [IV.d w41, IV.d w42]) ∧ condW (w7 == w11) (∃ w43 w44, C 20 [IV.d (D.int IntKind.i64 w8)] = some (IV.d (D.int IntKind.i64 w43), [IV.d w44]) ∧ condW (w43 == w12) (∃ w45 w46, C 21 [IV.d (D.sl 1 w15 w16 []), IV.d (D.sl 1 w20 w21 [])] = some (IV.d (D.bool true), [IV.d w45, IV.d w46]) ∧ ∃ w47 w48, C 20 [IV.d (D.int IntKind.i64 w17)] = some (IV.d (D.int IntKind.i64 w47), [IV.d w48]) ∧ condW (w47 == w22) (∃ w49 w50, C 20 [IV.d (D.int IntKind.i64 w25)] = some (IV.d (D.int IntKind.i64 w49), [IV.d w50]) ∧ condW (w49 == w28) (∃ w51 w52, C 20 [IV.d (D.int IntKind.i64 w31)] = some (IV.d (D.int IntKind.i64 w51), [IV.d w52]) ∧ condW (w51 == w35) (∃ w53 w54, C 22 [IV.d (D.agg [D.sl 2 z4 x5 e6, D.sl 1 z7 x8 e9, D.sl 2 z10 x11 e12]), IV.d (D.agg [D.sl 2 w0 w1 [], D.sl 1 w2 w3 [], D.sl 2 w4 w5 []])] = some (IV.d (D.bool true), [IV.d w53, IV.d w54]) ∧ C 23 [] = some (IV.d (D.bool true), []) ∧ Q (some (IV.d (D.bool true), [IV.d (D.sl 4 z1 x2 e3), IV.d (D.agg [D.sl 2 z4 x5 e6, D.sl 1 z7 x8 e9, D.sl 2 z10 x11 e12]), IV.d (D.agg [D.sl 2 z13 x14 e15, D.sl 1 z16 x17 e18, D.sl 2 z19 x20 e21])]))) (Q (some (IV.d (D.bool false), [IV.d (D.sl 4 z1 x2 e3), IV.d (D.agg [D.sl 2 z4 x5 e6, D.sl 1 z7 x8 e9, D.sl 2 z10 x11 e12]), IV.d (D.agg [D.sl 2 z13 x14 e15, D.sl 1 z16 x17 e18, D.sl 2 z19 x20 e21])])))) (Q (some (IV.d (D.bool false), [IV.d (D.sl 4 z1 x2 e3), IV.d (D.agg [D.sl 2 z4 x5 e6, D.sl 1 z7 x8 e9, D.sl 2 z10 x11 e12]), IV.d (D.agg [D.sl 2 z13 x14 e15, D.sl 1 z16 x17 e18, D.sl 2 z19 x20 e21])])))) (Q (some (IV.d (D.bool false), [IV.d (D.sl 4 z1 x2 e3), IV.d (D.agg [D.sl 2 z4 x5 e6, D.sl 1 z7 x8 e9, D.sl 2 z10 x11 e12]), IV.d (D.agg [D.sl 2 z13 x14 e15, D.sl 1 z16 x17 e18, D.sl 2 z19 x20 e21])])))) (Q (some (IV.d (D.bool false), [IV.d (D.sl 4 z1 x2 e3), IV.d (D.agg [D.sl 2 z4 x5 e6, D.sl 1 z7 x8 e9, D.sl 2 z10 x11 e12]), IV.d (D.agg [D.sl 2 z13 x14 e15, D.sl 1 z16 x17 e18, D.sl 2 z19 x20 e21])])))) (Q (some (IV.d (D.bool false), [IV.d (D.sl 4 z1 x2 e3), IV.d (D.agg [D.sl 2 z4 x5 e6, D.sl 1 z7 x8 e9, D.sl 2 z10 x11 e12]), IV.d (D.agg [D.sl 2 z13 x14 e15, D.sl 1 z16 x17 e18, D.sl 2 z19 x20 e21])])))) := by kernel_rfl
end Go.Proofs.YtjhganbjbiihoaaDoor.Ab

/- A function's value from a table of what its calls tell. No condition. -/
set_option linter.unusedVariables false
set_option linter.unusedSimpArgs false
namespace Go.Ab
open Go
mutual
/-- Are two data the same? (Told of some kinds alone.) -/
def D.same : D → D → Bool
  | .int .i64 n, .int .i64 m => decide (n = m)
  | .bool a, .bool b => a == b
  | .str s, .str t => decide (s.data.toList = t.data.toList)
  | .sl a z xs e, .sl b y us f => decide (a = b) && (z == y && (D.sames xs us && D.sames e f))
  | .agg xs, .agg us => D.sames xs us
  | _, _ => false
def D.sames : List D → List D → Bool
  | [], [] => true
  | x :: xs, u :: us => D.same x u && D.sames xs us
  | _, _ => false
end
mutual
theorem D.same_eq : ∀ {x u : D}, D.same x u = true → x = u
  | .int .i64 n, .int .i64 m, h => by
    unfold D.same at h
    rw [of_decide_eq_true h]
  | .bool a, .bool b, h => by
    unfold D.same at h
    rw [eq_of_beq h]
  | .str s, .str t, h => by
    unfold D.same at h
    have h1 := of_decide_eq_true h
    cases s with
    | mk s =>
      cases t with
      | mk t =>
        cases s with
        | mk s =>
          cases t with
          | mk t =>
            have h2 : s = t := h1
            rw [h2]
  | .sl a z xs e, .sl b y us f, h => by
    unfold D.same at h
    simp only [Bool.and_eq_true, decide_eq_true_eq, beq_iff_eq] at h
    obtain ⟨h1, h2, h3, h4⟩ := h
    rw [h1, h2, D.sames_eq h3, D.sames_eq h4]
  | .agg xs, .agg us, h => by
    unfold D.same at h
    rw [D.sames_eq h]
theorem D.sames_eq : ∀ {xs us : List D}, D.sames xs us = true → xs = us
  | [], [], h => rfl
  | x :: xs, u :: us, h => by
    unfold D.sames at h
    rw [Bool.and_eq_true] at h
    rw [D.same_eq h.1, D.sames_eq h.2]
  | [], u :: us, h => by unfold D.sames at h; cases h
  | x :: xs, [], h => by unfold D.sames at h; cases h
end
def sameArgs : List IV → List IV → Bool
  | [], [] => true
  | .d x :: xs, .d u :: us => D.same x u && sameArgs xs us
  | _, _ => false
theorem sameArgs_eq : ∀ {xs us : List IV}, sameArgs xs us = true → xs = us
  | [], [], _ => rfl
  | .d x :: xs, .d u :: us, h => by
    unfold sameArgs at h
    rw [Bool.and_eq_true] at h
    rw [D.same_eq h.1, sameArgs_eq h.2]
abbrev Tbl := List (FuncId × List IV × (IV × List IV))
def tblC : Tbl → Caller
  | [], _, _ => none
  | e :: t, f, args => if e.1 = f ∧ sameArgs e.2.1 args = true then some e.2.2 else tblC t f args
theorem tbl_le {C : Caller} : ∀ {t : Tbl}, (∀ e ∈ t, C e.1 e.2.1 = some e.2.2) → CLe (tblC t) C
  | [], _ => fun f args r h => by unfold tblC at h; cases h
  | e :: t, ht => fun f args r h => by
    unfold tblC at h
    split at h
    · rename_i hh
      have h2 := ht e (by simp)
      rw [hh.1, sameArgs_eq hh.2] at h2
      rw [h2]; exact h
    · exact tbl_le (fun e he => ht e (by simp [he])) f args r h
theorem tbl_up {F : Fx} : ∀ {t : Tbl}, (∀ e ∈ t, W F e.1 e.2.1 = some e.2.2) → ∃ n, ∀ e ∈ t, evF F n e.1 e.2.1 = some e.2.2
  | [], _ => ⟨0, by simp⟩
  | e :: t, ht => by
    obtain ⟨n, hn⟩ := tbl_up (t := t) (fun e he => ht e (by simp [he]))
    obtain ⟨m, hm⟩ := lim_up (ht e (by simp))
    refine ⟨n + m, fun x hx => ?_⟩
    rcases List.mem_cons.1 hx with rfl | hx
    · exact evF_from hm (by omega)
    · exact evF_from (hn x hx) (by omega)
theorem evFn_from {F : Fx} {C : Caller} {d : FnD} {args : List IV} {r : IV × List IV} {n : Nat} (h : evFn F C n d args = some r) : ∀ k, evFn F C (n + k) d args = some r
  | 0 => h
  | k + 1 => evFn_le (CLe.refl C) (evFn_from h k)
theorem W_tbl {F : Fx} {f : FuncId} {d : FnD} {args : List IV} {r : IV × List IV} {n : Nat} (t : Tbl) (hp : F.prim f = none) (hc : F.code f = some d) (ht : ∀ e ∈ t, W F e.1 e.2.1 = some e.2.2) (h : evFn F (tblC t) n d args = some r) : W F f args = some r := by
  obtain ⟨m, hm⟩ := tbl_up ht
  have h1 : CLe (tblC t) (evF F (m + n + 1)) := tbl_le (fun e he => evF_from (hm e he) (by omega))
  have h2 := evFn_from (evFn_le h1 h) m
  rw [show n + 1 + m = m + n + 1 by omega] at h2
  refine lim_of (n := m + n + 1 + 1) (fun n r h => evF_le n _ _ _ h) ?_
  show (match F.prim f with | some p => p args | none => match F.code f with | some fn => evFn F (evF F (m + n + 1)) (m + n + 1) fn args | none => none) = _
  rw [hp, hc]
  exact h2
end Go.Ab

/- The words that chapter 8's laws ask first: true. No condition. -/
set_option linter.unusedVariables false
set_option linter.unusedSimpArgs false
set_option maxRecDepth 100000
namespace Go.Proofs.YtjhganbjbiihoaaDoor.Ab
open Go Go.Ab Go.Qu Go.Proofs
def awG : List Sym := [⟨⟨#[61]⟩, 0, 2, 1⟩, ⟨⟨#[97]⟩, 1, 0, 1⟩, ⟨⟨#[98]⟩, 1, 0, 2⟩, ⟨⟨#[102]⟩, 1, 1, 1⟩, ⟨⟨#[103]⟩, 1, 2, 3⟩, ⟨⟨#[112]⟩, 0, 1, 1⟩, ⟨⟨#[114]⟩, 0, 2, 2⟩]
def awA : Cl := ⟨false, [⟨false, ⟨false, [5, -3], []⟩⟩, ⟨true, ⟨false, [6, -3, -6], []⟩⟩, ⟨false, ⟨false, [5, -3], []⟩⟩], [], false, [⟨false, [-6], []⟩], [], true, [], []⟩
def awD : Cl := ⟨false, [⟨false, ⟨false, [5, -1], []⟩⟩, ⟨true, ⟨false, [6, -1, -2], []⟩⟩], [], false, [⟨false, [-2], []⟩], [], true, [], []⟩
def awT : Cl := ⟨false, [⟨false, ⟨false, [0, 1, 1], []⟩⟩], [], true, [], [], true, [], []⟩
def awE : Cl := ⟨false, [⟨false, ⟨false, [3, 1], []⟩⟩], [], true, [], [], true, [], []⟩
theorem awA_nil : NilC awA := fun r hr hz => by
  simp [rowsOf, awA] at hr
  rcases hr with rfl | rfl | rfl | rfl <;> cases hz
theorem awD_nil : NilC awD := fun r hr hz => by
  simp [rowsOf, awD] at hr
  rcases hr with rfl | rfl | rfl <;> cases hz
theorem awE_nil : NilC awE := fun r hr hz => by
  simp [rowsOf, awE] at hr
  subst hr; cases hz
theorem awA_may : clB awG awA = true := by decide +kernel
theorem awD_may : clB awG awD = true := by decide +kernel
theorem awT_may : clB awG awT = true := by decide +kernel
theorem awE_may : clB awG awE = false := by decide +kernel
theorem awA_new : oC (anewC awA) = .agg [.own false 57 2 (lits awD.ls), .own false 33 1 (rws awD.ts), .own true 57 2 []] := by rfl
theorem aw_normal : C 24 [iG false awG [], iC awA] = some (.tup [.agg [.own false 57 2 (lits awD.ls), .own false 33 1 (rws awD.ts), .own true 57 2 []], iI 0], [iG false awG [], iC awA]) := by
  have h := w_normal false awG [] awA_nil
  rw [awA_may, if_pos rfl, awA_new] at h
  exact h
theorem aw_bad : C 24 [iG false awG [], iC awE] = some (.tup [.d (.agg [.sl 2 true [] [], .sl 1 true [] [], .sl 2 true [] []]), iI 800], [iG false awG [], iC awE]) := by
  have h := w_normal false awG [] awE_nil
  rw [awE_may] at h
  exact h
theorem aw_wt : wtL awG awA.c.ls = 8 := by decide +kernel
theorem aw_weight : C 10 [iG false awG [], iC awA] = some (.tup [iI 8, iI 0], [iG false awG [], iC awA]) := by
  have h := w_clweight false awG [] awA
  rw [awA_may, if_pos rfl, if_pos rfl, aw_wt] at h
  exact h
theorem aw_vs : varsC awA.c.rows = [2, 5] := by decide +kernel
theorem aw_vars : C 12 [iG false awG [], iC awA] = some (.tup [.own false 3 1 (ints [2, 5]), iI 0], [iG false awG [], iC awA]) := by
  have h := w_clvars false awG [] awA_nil
  rw [awA_may, if_pos rfl, if_pos rfl, aw_vs] at h
  exact h
theorem aw_tr : trivB awG awT.c.ls = true := by
  rw [trivB, List.any_eq_true]
  refine ⟨(false, [0, 1, 1]), by simp [awT, Cl.c, LitR.c], ?_⟩
  have h1 := parts_one (g := awG) (r := [1, 1]) (k := 1) (by decide +kernel)
  have h2 : parts awG [1, 1] = some [[1], [1]] := by
    have h3 := parts_some (g := awG) (r := [1, 1]) (k := 1) (by simp) (by decide +kernel)
    have h4 := parts_some (g := awG) (r := [1]) (k := 1) (by simp) (by decide +kernel)
    have h5 : parts awG [] = some [] := parts_nil awG
    simp only [List.drop_succ_cons, List.drop_zero, List.take_succ_cons, List.take_zero] at h3 h4
    rw [h3, h4, h5]
    rfl
  simp only [selfB, List.tail_cons, h2]
  rfl
theorem aw_trivial : C 14 [iG false awG [], iC awT] = some (.tup [iB true, iI 0], [iG false awG [], iC awT]) := by
  have h := w_trivial false awG [] awT
  rw [awT_may, if_pos rfl, aw_tr] at h
  exact h
theorem aw_nc : normC awA.c = normC awD.c := by rfl
theorem aw_variant : C 16 [iG false awG [], iC awA, iC awD] = some (.tup [iB true, iI 0], [iG false awG [], iC awA, iC awD]) := by
  have h := w_variant false awG [] awA_nil awD_nil
  rw [awA_may, awD_may, aw_nc, decide_eq_true rfl] at h
  exact h
theorem aw_in : ClIn awD := ⟨⟨by simp [awD], fun l hl => by
    simp [awD] at hl
    rcases hl with rfl | rfl <;> (unfold Len; simp)⟩, by simp [awD], fun r hr => by
    simp [awD] at hr
    subst hr; unfold Len; simp, ⟨by simp [awD], fun l hl => by simp [awD] at hl⟩⟩
theorem aw_same : C 22 [iC awD, iC awD] = some (iB true, [iC awD, iC awD]) := by
  rw [w_sameclause aw_in awD]; simp
theorem aw_ints : C 21 [iS false [2, 5] [], iS false [2, 5] []] = some (iB true, [iS false [2, 5] [], iS false [2, 5] []]) := by
  have h := w_sameints (a := [2, 5]) (by unfold Len; simp) [2, 5] false false [] []
  rw [decide_eq_true rfl] at h
  exact h
theorem w_words : C 30 [] = some (.own false 88 4 (syms awG), []) := W_ev (n := 60) (by kernel_rfl)
theorem aw_may : C 18 [iG false awG [], iC awA] = some (iB true, [iG false awG [], iC awA]) := by
  have h := w_clmay false awG [] awA
  rw [awA_may] at h
  exact h
def awTbl : Tbl := [(30, [], (.own false 88 4 (syms awG), [])),
  (24, [iG false awG [], iC awA], (.tup [.agg [.own false 57 2 (lits awD.ls), .own false 33 1 (rws awD.ts), .own true 57 2 []], iI 0], [iG false awG [], iC awA])),
  (10, [iG false awG [], iC awA], (.tup [iI 8, iI 0], [iG false awG [], iC awA])),
  (12, [iG false awG [], iC awA], (.tup [.own false 3 1 (ints [2, 5]), iI 0], [iG false awG [], iC awA])),
  (14, [iG false awG [], iC awT], (.tup [iB true, iI 0], [iG false awG [], iC awT])),
  (16, [iG false awG [], iC awA, iC awD], (.tup [iB true, iI 0], [iG false awG [], iC awA, iC awD])),
  (24, [iG false awG [], iC awE], (.tup [.d (.agg [.sl 2 true [] [], .sl 1 true [] [], .sl 2 true [] []]), iI 800], [iG false awG [], iC awE])),
  (20, [iI 0], (iI 0, [iI 0])), (20, [iI 800], (iI 800, [iI 800])),
  (22, [iC awD, iC awD], (iB true, [iC awD, iC awD])),
  (21, [iS false [2, 5] [], iS false [2, 5] []], (iB true, [iS false [2, 5] [], iS false [2, 5] []])),
  (18, [iG false awG [], iC awA], (iB true, [iG false awG [], iC awA]))]
theorem awTbl_ok : ∀ e ∈ awTbl, C e.1 e.2.1 = some e.2.2 := by
  intro e he
  simp only [awTbl, List.mem_cons, List.not_mem_nil, or_false] at he
  rcases he with rfl | rfl | rfl | rfl | rfl | rfl | rfl | rfl | rfl | rfl | rfl | rfl
  · exact w_words
  · exact aw_normal
  · exact aw_weight
  · exact aw_vars
  · exact aw_trivial
  · exact aw_variant
  · exact aw_bad
  · exact w_num 0
  · exact w_num 800
  · exact aw_same
  · exact aw_ints
  · exact aw_may
theorem w_awake : C 23 [] = some (iB true, []) := W_tbl (n := 60) awTbl rfl rfl awTbl_ok (by kernel_rfl)
end Go.Proofs.YtjhganbjbiihoaaDoor.Ab

/- Chapter 8's law Clauses: for every input the law returns true. No condition. -/
set_option linter.unusedVariables false
set_option linter.unusedSimpArgs false
set_option maxRecDepth 100000
namespace Go.Proofs.YtjhganbjbiihoaaDoor.Ab
open Go Go.Ab Go.Qu Go.Proofs
theorem w_copyC {c : Cl} (h : ClIn c) : C 9 [iC c] = some (oC (freshC c), [iC c]) := w_copyclause h
theorem law_clauses (z : Bool) (g : List Sym) {c d : Cl} (hc : ClIn c) (hn : NilC c) (hm : NilC d) : C 3 [iG z g [], iC c, iC d] = some (iB true, [iG z g [], iC c, iC d]) := by
  have k9 := w_copyC hc
  have k10 := w_clweight z g [] c
  have k11 := w_rweight z g [] c
  have k12 := w_clvars z g [] hn
  have k13 := w_rvarsc z g [] c
  have k14 := w_trivial z g [] c
  have k15 := w_rtrivial z g [] c
  have k16 := w_variant z g [] hn hm
  have k17 := w_rvariant z g [] c d
  have k18 := w_clmay z g [] c
  have k19 := w_rclmay z g [] c
  have k22 := w_sameclause hc (freshC c)
  rw [decide_eq_true (freshC_key c).symm] at k22
  have hvl : Len (if clB g c = true then varsC c.c.rows else []) := by
    cases h : clB g c with
    | false => simp [Len]
    | true =>
      have hk := clN_of h
      have h1 := vars_len c.c
      have h2 := seenC_len (cl_ok h)
      rw [if_pos rfl]
      unfold Len
      omega
  have k21 := w_sameints hvl (if clB g c = true then varsC c.c.rows else []) (if clB g c = true then varsC c.c.rows else []).isEmpty (if clB g c = true then varsC c.c.rows else []).isEmpty [] []
  rw [decide_eq_true rfl] at k21
  generalize ht : (clB g c && trivB g c.c.ls) = tb at k14 k15
  generalize hv : ((clB g c && clB g d) && decide (normC c.c = normC d.c)) = vb at k16 k17
  generalize hb : clB g c = mb at k18 k19
  cases mb <;> cases tb <;> cases vb
  · exact wfn (lk := []) rfl rfl (fnW_way (q3a _ _ z (syms g) [] c.lz (lits c.ls) c.le c.tz (rws c.ts) c.te c.cz (lits c.cs) c.ce d.lz (lits d.ls) d.le d.tz (rws d.ts) d.te d.cz (lits d.cs) d.ce _) ⟨_, _, _, _, _, _, _, k9, _, _, _, _, k10, _, _, _, _, k11, _, _, _, _, _, k12, _, _, _, _, _, k13, _, _, _, k14, _, _, _, k15, _, _, _, _, k16, _, _, _, _, k17, _, _, k18, _, _, k19, condW_t (beq_self_eq_true _) ⟨_, _, w_num _, condW_t (beq_self_eq_true _) ⟨_, _, k21, _, _, w_num _, condW_t (beq_self_eq_true _) ⟨_, _, w_num _, condW_t (beq_self_eq_true _) ⟨_, _, w_num _, condW_t (beq_self_eq_true _) ⟨_, _, k22, w_awake, rfl⟩⟩⟩⟩⟩⟩)
  · simp [hb] at hv
  · simp [hb] at ht
  · simp [hb] at ht
  · exact wfn (lk := []) rfl rfl (fnW_way (q3b _ _ z (syms g) [] c.lz (lits c.ls) c.le c.tz (rws c.ts) c.te c.cz (lits c.cs) c.ce d.lz (lits d.ls) d.le d.tz (rws d.ts) d.te d.cz (lits d.cs) d.ce _) ⟨_, _, _, _, _, _, _, k9, _, _, _, _, k10, _, _, _, _, k11, _, _, _, _, _, k12, _, _, _, _, _, k13, _, _, _, k14, _, _, _, k15, _, _, _, _, k16, _, _, _, _, k17, _, _, k18, _, _, k19, condW_t (beq_self_eq_true _) ⟨_, _, w_num _, condW_t (beq_self_eq_true _) ⟨_, _, k21, _, _, w_num _, condW_t (beq_self_eq_true _) ⟨_, _, w_num _, condW_t (beq_self_eq_true _) ⟨_, _, w_num _, condW_t (beq_self_eq_true _) ⟨_, _, k22, w_awake, rfl⟩⟩⟩⟩⟩⟩)
  · exact wfn (lk := []) rfl rfl (fnW_way (q3d _ _ z (syms g) [] c.lz (lits c.ls) c.le c.tz (rws c.ts) c.te c.cz (lits c.cs) c.ce d.lz (lits d.ls) d.le d.tz (rws d.ts) d.te d.cz (lits d.cs) d.ce _) ⟨_, _, _, _, _, _, _, k9, _, _, _, _, k10, _, _, _, _, k11, _, _, _, _, _, k12, _, _, _, _, _, k13, _, _, _, k14, _, _, _, k15, _, _, _, _, k16, _, _, _, _, k17, _, _, k18, _, _, k19, condW_t (beq_self_eq_true _) ⟨_, _, w_num _, condW_t (beq_self_eq_true _) ⟨_, _, k21, _, _, w_num _, condW_t (beq_self_eq_true _) ⟨_, _, w_num _, condW_t (beq_self_eq_true _) ⟨_, _, w_num _, condW_t (beq_self_eq_true _) ⟨_, _, k22, w_awake, rfl⟩⟩⟩⟩⟩⟩)
  · exact wfn (lk := []) rfl rfl (fnW_way (q3c _ _ z (syms g) [] c.lz (lits c.ls) c.le c.tz (rws c.ts) c.te c.cz (lits c.cs) c.ce d.lz (lits d.ls) d.le d.tz (rws d.ts) d.te d.cz (lits d.cs) d.ce _) ⟨_, _, _, _, _, _, _, k9, _, _, _, _, k10, _, _, _, _, k11, _, _, _, _, _, k12, _, _, _, _, _, k13, _, _, _, k14, _, _, _, k15, _, _, _, _, k16, _, _, _, _, k17, _, _, k18, _, _, k19, condW_t (beq_self_eq_true _) ⟨_, _, w_num _, condW_t (beq_self_eq_true _) ⟨_, _, k21, _, _, w_num _, condW_t (beq_self_eq_true _) ⟨_, _, w_num _, condW_t (beq_self_eq_true _) ⟨_, _, w_num _, condW_t (beq_self_eq_true _) ⟨_, _, k22, w_awake, rfl⟩⟩⟩⟩⟩⟩)
  · exact wfn (lk := []) rfl rfl (fnW_way (q3e _ _ z (syms g) [] c.lz (lits c.ls) c.le c.tz (rws c.ts) c.te c.cz (lits c.cs) c.ce d.lz (lits d.ls) d.le d.tz (rws d.ts) d.te d.cz (lits d.cs) d.ce _) ⟨_, _, _, _, _, _, _, k9, _, _, _, _, k10, _, _, _, _, k11, _, _, _, _, _, k12, _, _, _, _, _, k13, _, _, _, k14, _, _, _, k15, _, _, _, _, k16, _, _, _, _, k17, _, _, k18, _, _, k19, condW_t (beq_self_eq_true _) ⟨_, _, w_num _, condW_t (beq_self_eq_true _) ⟨_, _, k21, _, _, w_num _, condW_t (beq_self_eq_true _) ⟨_, _, w_num _, condW_t (beq_self_eq_true _) ⟨_, _, w_num _, condW_t (beq_self_eq_true _) ⟨_, _, k22, w_awake, rfl⟩⟩⟩⟩⟩⟩)
theorem call_clauses (y0 y1 y2 : D) (g0 : Go.Ab.Good Tryd.prog 12 22 y0) (g1 : Go.Ab.Good Tryd.prog 12 26 y1) (g2 : Go.Ab.Good Tryd.prog 12 26 y2) : ∃ outs, C 3 [.d y0, .d y1, .d y2] = some (iB true, outs) := by
  obtain ⟨z, g, rfl⟩ := good_sig g0
  obtain ⟨c, rfl, hc, hn⟩ := good_clauseN g1
  obtain ⟨d, rfl, _, hm⟩ := good_clauseN g2
  exact ⟨_, law_clauses z g hc hn hm⟩
end Go.Proofs.YtjhganbjbiihoaaDoor.Ab
