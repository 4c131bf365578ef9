/- What the rows of this seat share: the variable that is laid, the world in which it is so. No condition. -/
import Derived.Below
import Derived.ChangeOld
import Derived.LaidMore
import Derived.Lib.SmallJoins
import Derived.OpenShut
import Derived.ProofKit
import Derived.SevenTiedAt
import Derived.ShutString
import Derived.SizedLaws
import Derived.Stop.Joined
import Derived.Test.YtmldmhbdeejcnaaDoorCards
import Derived.Test.YtmldmhbdeejcnaaDoorRows
import Derived.Test.YtmldmhbdeejcnaaDoorTie
import Derived.WalkKit
import Derived.Test.YtmldmhbdeejcnaaDoorSimpHolds0
import Derived.Test.YtmldmhbdeejcnaaDoorSimpHolds1
import Derived.Test.YtmldmhbdeejcnaaDoorSimpHolds2
import Derived.Test.YtmldmhbdeejcnaaDoorSimpHolds3
import Derived.Test.YtmldmhbdeejcnaaDoorSimpHolds4
import Derived.Test.YtmldmhbdeejcnaaDoorSimpHolds5
import Derived.Test.YtmldmhbdeejcnaaDoorSimpHolds6
import Derived.Test.YtmldmhbdeejcnaaDoorSimpHolds7
import Derived.Test.YtmldmhbdeejcnaaDoorSimpHolds8
import Derived.Test.YtmldmhbdeejcnaaDoorSimpHolds9
import Derived.Test.YtmldmhbdeejcnaaDoorSimpHolds10
import Derived.Test.YtmldmhbdeejcnaaDoorSimpHolds11
import Derived.Test.YtmldmhbdeejcnaaDoorSimpHolds12
import Derived.Test.YtmldmhbdeejcnaaDoorSimpHolds13
import Derived.Test.YtmldmhbdeejcnaaDoorSimpHolds14
import Derived.Test.YtmldmhbdeejcnaaDoorSimpHolds15
namespace Go.Proofs.YtmldmhbdeejcnaaDoor.Ab
open Go Go.Ab Go.Qu Go.Proofs Go.ChangeShapes Go.WideShapes Go.ChangeAt Go.RowKit Go.Joins
set_option linter.unusedVariables false
set_option maxRecDepth 100000
theorem own : ownKnob Tryd.prog.godebug = none := by kernel_rfl
theorem laidOut : laidOutB Tryd.prog = true := by kernel_rfl
abbrev laid1 : List (String × DataW Unit) := [("quaere/sign.equals", Rows.laid_quaere_sign_equals)]
theorem gEq : Tryd.prog.globalNamed "quaere/sign.equals" = some 0 := by kernel_rfl
theorem tEq : (Tryd.prog.globals[0]?).map (·.type) = some 92 := by kernel_rfl
theorem door_met (os : Os) (args : Array Value) : laidMetH Tryd.prog laid1 ((World.doorLaid Tryd.prog 400 os).forCall (fun _ _ => 0) ⟨#[], args, []⟩).memory :=
  laidMetH_of_parts3 (fuel := 8) (laidMet_of_run' 8 (by kernel_rfl) (by kernel_rfl)) (by kernel_rfl) (by kernel_rfl)
theorem globs {W : World} (h : laidMetH Tryd.prog laid1 W) : GlobOk (Hw W) F.G := by
  rw [MakeChecks.laidMetH_plain _ _ _ (by kernel_rfl)] at h
  obtain ⟨ps, ⟨g0, t0, cs0, f0, p0, q0, hg0, ht0, hv0, hd0, _, _⟩, _, _⟩ := h
  obtain rfl := Option.some.inj (gEq.symm.trans hg0)
  obtain rfl := Option.some.inj (tEq.symm.trans ht0)
  obtain ⟨xs, n, _, hx, hlen, hxl, hf⟩ := DataW.trod_struct Tryd.underlying92 hd0
  have c1 : Tryd.prog.cellsOf 92 = 4 := by kernel_rfl
  have cs : Tryd.prog.cellsOf 9 = 1 := by kernel_rfl
  have ci : Tryd.prog.cellsOf 3 = 1 := by kernel_rfl
  rw [c1] at hlen
  have hx1 : xs.map (·.1) = [.lit (.string [61]), .lit (.int .i64 0), .lit (.int .i64 2), .lit (.int .i64 1)] := by
    simp only [Prod.mk.injEq] at hx
    have h9 := hx.1
    unfold Rows.laid_quaere_sign_equals at h9
    simp only [DataW.agg.injEq] at h9
    exact h9.symm
  have hcs : ∃ a b c d, cs0.toList = [a, b, c, d] := by
    match h : cs0.toList, hlen with
    | [a, b, c, d], _ => exact ⟨a, b, c, d, rfl⟩
  obtain ⟨a, b, c, d, hcs⟩ := hcs
  have hxs : ∃ x0 x1 x2 x3, xs = [x0, x1, x2, x3] := by
    match xs, hxl with
    | [x0, x1, x2, x3], _ => exact ⟨x0, x1, x2, x3, rfl⟩
  obtain ⟨x0, x1, x2, x3, rfl⟩ := hxs
  simp only [List.map_cons, List.map_nil, List.cons.injEq, and_true] at hx1
  obtain ⟨e0, e1, e2, e3⟩ := hx1
  have h0 : DataW.trod (fun _ => ()) Tryd.prog W 0 (fun _ => true) false n 9 ((cs0.toList.drop 0).take (Tryd.prog.cellsOf 9)) = some x0 := hf 0 _ rfl
  have h1 : DataW.trod (fun _ => ()) Tryd.prog W 0 (fun _ => true) false n 3 ((cs0.toList.drop 1).take (Tryd.prog.cellsOf 3)) = some x1 := hf 1 _ rfl
  have h2 : DataW.trod (fun _ => ()) Tryd.prog W 0 (fun _ => true) false n 3 ((cs0.toList.drop 2).take (Tryd.prog.cellsOf 3)) = some x2 := hf 2 _ rfl
  have h3 : DataW.trod (fun _ => ()) Tryd.prog W 0 (fun _ => true) false n 3 ((cs0.toList.drop 3).take (Tryd.prog.cellsOf 3)) = some x3 := hf 3 _ rfl
  rw [hcs, cs] at h0
  rw [hcs, ci] at h1 h2 h3
  obtain ⟨s, ha, hs, _⟩ := DataW.trod_string Tryd.underlying9 h0
  obtain ⟨n1, hb, hn1, _⟩ := DataW.trod_int Tryd.underlying3 h1
  obtain ⟨n2, hc, hn2, _⟩ := DataW.trod_int Tryd.underlying3 h2
  obtain ⟨n3, hd, hn3, _⟩ := DataW.trod_int Tryd.underlying3 h3
  simp at ha hb hc hd
  rw [hs] at e0; rw [hn1] at e1; rw [hn2] at e2; rw [hn3] at e3
  simp at e0 e1 e2 e3
  subst ha hb hc hd e1 e2 e3
  have hse : s = "=".toUTF8 := by
    have h5 : "=".toUTF8.data.toList = [61] := by decide +kernel
    have h6 : s.data = "=".toUTF8.data := Array.toList_inj.1 (e0.trans h5.symm)
    exact (show ∀ (x y : ByteArray), x.data = y.data → x = y by intro ⟨_⟩ ⟨_⟩ h; exact congrArg _ h) _ _ h6
  subst hse
  have hcell : ∀ (j : Nat) u, [Value.string "=".toUTF8, .int .i64 0, .int .i64 2, .int .i64 1][j]? = some u → W.cell? ⟨0, j, none⟩ = some u := fun j u hj => by
    have h7 := World.var?_cell hg0 hv0 j
    have h8 : cs0[j]? = some u := by rw [← Array.getElem?_toList, hcs]; exact hj
    rw [h8] at h7
    simpa using h7
  intro g cs hg
  simp only [F, List.map_cons, List.map_nil, assoc] at hg
  split at hg
  · rename_i hg0
    subst hg0
    simp only [Option.some.injEq] at hg
    subst hg
    refine ⟨[.string "=".toUTF8, .int .i64 0, .int .i64 2, .int .i64 1], ?_, fun j u hj => ?_, by simp [D.isAgg]⟩
    · unfold D.RepL; refine ⟨[_], _, rfl, by unfold D.Rep; rfl, ?_⟩
      unfold D.RepL; refine ⟨[_], _, rfl, by unfold D.Rep; rfl, ?_⟩
      unfold D.RepL; refine ⟨[_], _, rfl, by unfold D.Rep; rfl, ?_⟩
      unfold D.RepL; refine ⟨[_], [], rfl, by unfold D.Rep; rfl, ?_⟩
      unfold D.RepL; rfl
    · refine Hw.cell ?_
      have h9 := hcell j u hj
      unfold Addr.add
      split
      · rename_i hj0; subst hj0; exact h9
      · simpa using h9
  · simp at hg
theorem fxOk : FxOk Tryd.prog F where
  orders := by kernel_rfl
  tab := tab_ok
  code := code_ok.get
  prim := primOk
  ins := insAll
/-! ### Arguments -/
theorem good_sym {n : Nat} {x : D} (h : Go.Ab.Good Tryd.prog (n + 2) 92 x) : ∃ s : Sym, x = s.d := by
  unfold Go.Ab.Good at h
  rw [Tryd.underlying92] at h
  obtain ⟨ys, rfl, y0, r0, rfl, h0, y1, r1, rfl, h1, y2, r2, rfl, h2, y3, r3, rfl, h3, rfl⟩ := h
  unfold Go.Ab.Good at h0 h1 h2 h3
  simp only [Tryd.underlying9, Tryd.underlying3] at h0 h1 h2 h3
  obtain ⟨s, rfl, _⟩ := h0
  obtain ⟨a, rfl, _⟩ := h1
  obtain ⟨b, rfl, _⟩ := h2
  obtain ⟨c, rfl, _⟩ := h3
  exact ⟨⟨s, a, b, c⟩, rfl⟩
theorem good_sig {n : Nat} {x : D} (h : Go.Ab.Good Tryd.prog (n + 3) 22 x) : ∃ z g, x = .sl 4 z (syms g) [] := by
  unfold Go.Ab.Good at h
  rw [Tryd.underlying22] at h
  obtain ⟨z, xs, rfl, _, h2, _⟩ := h
  have hc : Tryd.prog.cellsOf 92 = 4 := by kernel_rfl
  rw [hc]
  obtain ⟨g, rfl, _⟩ := all_map (f := Sym.d) (Q := fun _ => True) (fun y hy => by obtain ⟨s, hs⟩ := good_sym (h2 y hy); exact ⟨s, hs, trivial⟩)
  exact ⟨z, g, rfl⟩
theorem good_int {n : Nat} {x : D} (h : Go.Ab.Good Tryd.prog (n + 1) 3 x) : ∃ a : Int, x = .int .i64 a ∧ -9223372036854775808 ≤ a ∧ a ≤ 9223372036854775807 := by
  unfold Go.Ab.Good at h
  rw [Tryd.underlying3] at h
  obtain ⟨a, rfl, hw⟩ := h
  refine ⟨a, rfl, ?_⟩
  simp [Lit.wf, IntKind.min, IntKind.max, IntKind.bits, IntKind.signed] at hw
  omega
theorem good_ints {n : Nat} {x : D} (h : Go.Ab.Good Tryd.prog (n + 2) 23 x) : ∃ z l, x = .sl 1 z (ints l) [] ∧ Len l := by
  unfold Go.Ab.Good at h
  rw [Tryd.underlying23] at h
  obtain ⟨z, xs, rfl, h1, h2, _⟩ := h
  have hc : Tryd.prog.cellsOf 3 = 1 := by kernel_rfl
  have hb : Tryd.prog.bytesOf 3 = 8 := by kernel_rfl
  rw [hb] at h1
  rw [hc]
  obtain ⟨l, rfl, _⟩ := all_map (f := D.int .i64) (Q := fun _ => True) (fun y hy => by obtain ⟨a, ha, _⟩ := good_int (h2 y hy); exact ⟨a, ha, trivial⟩)
  rw [List.length_map] at h1
  exact ⟨z, l, rfl, by unfold Len; simpa [reachBytes] using h1⟩
theorem good_rows {n : Nat} {x : D} (h : Go.Ab.Good Tryd.prog (n + 3) 37 x) : ∃ z rs, x = .sl 1 z (rws rs) [] ∧ rs.length * 24 ≤ 140737488351232 ∧ ∀ r ∈ rs, Len r.l := by
  unfold Go.Ab.Good at h
  rw [Tryd.underlying37] at h
  obtain ⟨z, xs, rfl, h1, h2, _⟩ := h
  have hc : Tryd.prog.cellsOf 23 = 1 := by kernel_rfl
  have hb : Tryd.prog.bytesOf 23 = 24 := by kernel_rfl
  rw [hb] at h1
  rw [hc]
  obtain ⟨rs, rfl, h4⟩ := all_map (f := Row.d) (Q := fun r => Len r.l) (fun y hy => by obtain ⟨z, l, h, hl⟩ := good_ints (h2 y hy); exact ⟨⟨z, l, []⟩, h, hl⟩)
  rw [List.length_map] at h1
  exact ⟨z, rs, rfl, by simpa [reachBytes] using h1, h4⟩
end Go.Proofs.YtmldmhbdeejcnaaDoor.Ab

/- Literals, clauses as arguments. No condition. -/
set_option linter.unusedVariables false
set_option linter.unusedSimpArgs false
set_option maxRecDepth 100000
namespace Go.Proofs.YtmldmhbdeejcnaaDoor.Ab
open Go Go.Ab Go.Qu Go.Proofs
theorem good_lit {n : Nat} {x : D} (h : Go.Ab.Good Tryd.prog (n + 3) 35 x) : ∃ l : LitR, x = l.d ∧ Len l.r.l := by
  unfold Go.Ab.Good at h
  rw [Tryd.underlying35] at h
  obtain ⟨ys, rfl, y0, r0, rfl, h0, y1, r1, rfl, h1, rfl⟩ := h
  obtain ⟨z, l, rfl, hl⟩ := good_ints h1
  unfold Go.Ab.Good at h0
  rw [Tryd.underlying4] at h0
  obtain ⟨b, rfl⟩ := h0
  exact ⟨⟨b, ⟨z, l, []⟩⟩, rfl, hl⟩
theorem good_lits {n : Nat} {x : D} (h : Go.Ab.Good Tryd.prog (n + 4) 36 x) : ∃ z ls, x = .sl 2 z (lits ls) [] ∧ LitsIn ls := by
  unfold Go.Ab.Good at h
  rw [Tryd.underlying36] at h
  obtain ⟨z, xs, rfl, h1, h2, _⟩ := h
  have hc : Tryd.prog.cellsOf 35 = 2 := by kernel_rfl
  have hb : Tryd.prog.bytesOf 35 = 32 := by kernel_rfl
  rw [hb] at h1
  rw [hc]
  obtain ⟨ls, rfl, h4⟩ := all_map (f := LitR.d) (Q := fun l => Len l.r.l) (fun y hy => by obtain ⟨l, hl, hk⟩ := good_lit (h2 y hy); exact ⟨l, hl, hk⟩)
  rw [List.length_map] at h1
  exact ⟨z, ls, rfl, by simpa [reachBytes] using h1, h4⟩
end Go.Proofs.YtmldmhbdeejcnaaDoor.Ab

/- Arguments: rows that are nil have no codes. No condition. -/
set_option linter.unusedVariables false
set_option linter.unusedSimpArgs false
set_option maxRecDepth 100000
namespace Go.Proofs.YtmldmhbdeejcnaaDoor.Ab
open Go Go.Ab Go.Qu Go.Proofs
theorem good_nil {n : Nat} {z : Bool} {l : List Int} (h : Go.Ab.Good Tryd.prog (n + 1) 23 (.sl 1 z (ints l) [])) : z = true → l = [] := by
  unfold Go.Ab.Good at h
  rw [Tryd.underlying23] at h
  obtain ⟨z', xs, he, _, _, h⟩ := h
  simp only [D.sl.injEq] at he
  obtain ⟨_, rfl, rfl, _⟩ := he
  intro hz
  have := congrArg List.length (h hz)
  rw [ints_len] at this
  exact List.length_eq_zero_iff.1 this
theorem good_litnil {n : Nat} {l : LitR} (h : Go.Ab.Good Tryd.prog (n + 3) 35 l.d) (he : l.r.e = []) : l.r.z = true → l.r.l = [] := by
  unfold Go.Ab.Good at h
  rw [Tryd.underlying35] at h
  obtain ⟨ys, hy, y0, r0, rfl, h0, y1, r1, rfl, h1, rfl⟩ := h
  unfold Go.Ab.Good at h0
  rw [Tryd.underlying4] at h0
  obtain ⟨b, rfl⟩ := h0
  obtain ⟨z, m, rfl, _⟩ := good_ints h1
  have h2 := good_nil (n := n + 1) h1
  simp only [LitR.d, List.flatMap_cons, List.flatMap_nil, D.cells, List.cons_append, List.nil_append, List.append_nil, D.agg.injEq, List.cons.injEq, D.bool.injEq, D.sl.injEq, and_true, true_and] at hy
  obtain ⟨_, hz, hm, _⟩ := hy
  intro hz'
  have h3 := h2 (hz ▸ hz')
  rw [h3] at hm
  have := congrArg List.length hm
  rw [ints_len] at this
  exact List.length_eq_zero_iff.1 (by simpa [ints_nil] using this)
theorem good_clauseN {n : Nat} {x : D} (h : Go.Ab.Good Tryd.prog (n + 5) 39 x) : ∃ c : Cl, x = c.d ∧ ClIn c ∧ NilC c := by
  have h' := h
  unfold Go.Ab.Good at h
  rw [Tryd.underlying39] at h
  obtain ⟨ys, rfl, y0, r0, rfl, h0, y1, r1, rfl, h1, y2, r2, rfl, h2, rfl⟩ := h
  obtain ⟨lz, ls, rfl, hls⟩ := good_lits h0
  obtain ⟨tz, ts, rfl, hts, hr⟩ := good_rows h1
  obtain ⟨cz, cs, rfl, hcs⟩ := good_lits h2
  have hL : ∀ {z : Bool} {ls : List LitR}, Go.Ab.Good Tryd.prog (n + 4) 36 (.sl 2 z (lits ls) []) → ∀ l ∈ ls, l.r.z = true → l.r.l = [] := by
    intro z ls hg l hl
    unfold Go.Ab.Good at hg
    rw [Tryd.underlying36] at hg
    obtain ⟨z', xs, he, _, hx, _⟩ := hg
    simp only [D.sl.injEq] at he
    obtain ⟨_, _, rfl, _⟩ := he
    have h5 := hx l.d (List.mem_map.2 ⟨l, hl, rfl⟩)
    obtain ⟨m, hm, _⟩ := good_lit h5
    have h6 : l.r.z = m.r.z ∧ ints l.r.l = ints m.r.l ∧ l.r.e = m.r.e := by
      have := hm
      simp only [LitR.d, D.agg.injEq, List.cons.injEq, D.bool.injEq, D.sl.injEq, and_true, true_and] at this
      exact ⟨this.2.1, this.2.2.1, this.2.2.2⟩
    have h7 : l.r.e = [] := by
      unfold Go.Ab.Good at h5
      rw [Tryd.underlying35] at h5
      obtain ⟨ys, hy, y0, r0, rfl, k0, y1, r1, rfl, k1, rfl⟩ := h5
      obtain ⟨z2, l2, rfl, _⟩ := good_ints k1
      unfold Go.Ab.Good at k0
      rw [Tryd.underlying4] at k0
      obtain ⟨b, rfl⟩ := k0
      simp only [LitR.d, List.flatMap_cons, List.flatMap_nil, D.cells, List.cons_append, List.nil_append, List.append_nil, D.agg.injEq, List.cons.injEq, D.bool.injEq, D.sl.injEq, and_true, true_and] at hy
      exact hy.2.2.2
    exact good_litnil (n := n) h5 h7
  refine ⟨⟨lz, ls, [], tz, ts, [], cz, cs, []⟩, rfl, ⟨hls, hts, hr, hcs⟩, fun r hr' => ?_⟩
  simp only [rowsOf, List.mem_append, List.mem_map] at hr'
  rcases hr' with (⟨l, hl, rfl⟩ | hr') | ⟨l, hl, rfl⟩
  · exact hL h0 l hl
  · unfold Go.Ab.Good at h1
    rw [Tryd.underlying37] at h1
    obtain ⟨z', xs, he, _, hx, _⟩ := h1
    simp only [D.sl.injEq] at he
    obtain ⟨_, _, rfl, _⟩ := he
    have h5 := hx r.d (List.mem_map.2 ⟨r, hr', rfl⟩)
    obtain ⟨z2, l2, he2, _⟩ := good_ints h5
    have h6 : r.e = [] := by
      simp only [Row.d, D.sl.injEq, true_and] at he2
      exact he2.2.2
    have h7 : r.d = .sl 1 r.z (ints r.l) [] := by rw [← h6]; rfl
    rw [h7] at h5
    exact good_nil (n := n + 2) h5
  · exact hL h2 l hl
end Go.Proofs.YtmldmhbdeejcnaaDoor.Ab

/- simp.Cut: what it hands back. For every input; no condition. -/
set_option linter.unusedVariables false
set_option linter.unusedSimpArgs false
set_option maxRecDepth 100000
namespace Go.Proofs.YtmldmhbdeejcnaaDoor.Ab
open Go Go.Ab Go.Qu Go.Proofs
attribute [local simp] and_assoc
theorem filter_len {p : LitR → Bool} : ∀ (ls : List LitR), (ls.filter p).length ≤ ls.length := fun ls => List.length_filter_le p ls
theorem lenI_filter {p : LC → Bool} : ∀ (ls : List LC), lenI ((ls.filter p).map (·.2)) ≤ lenI (ls.map (·.2))
  | [] => by simp [lenI]
  | l :: ls => by
    have ih := lenI_filter (p := p) ls
    rw [List.filter_cons]
    split
    · simp [lenI]; omega
    · simp [lenI]; omega
theorem ok_filter {g : List Sym} {c : CC} (h : ClOk g c) (p : LC → Bool) : ClOk g ⟨c.ls.filter p, c.ts, c.cs⟩ where
  sg := h.sg
  l5 := Nat.le_trans (List.length_filter_le p c.ls) h.l5
  t3 := h.t3
  c3 := h.c3
  la := fun l hl => h.la l (List.mem_filter.1 hl).1
  tr := h.tr
  ca := h.ca
  sum := by
    have h1 := h.sum
    simp only [CC.rows, lenI_app] at h1 ⊢
    have h2 := lenI_filter (p := p) c.ls
    omega
/-- The Lits that stay. -/
def keptL (g : List Sym) (un : Bool) (ua : List Int) (ls : List LitR) : List LitR := ls.filter fun l => !cutB g un ua l
def cutC (g : List Sym) (un : Bool) (ua : List Int) (c : Cl) : Cl := ⟨(c.ls.map cpL).isEmpty, keptL g un ua (c.ls.map cpL), [], (c.ts.map cpR).isEmpty, c.ts.map cpR, [], (c.cs.map cpL).isEmpty, c.cs.map cpL, []⟩
def keptC (g : List Sym) (un : Bool) (ua : List Int) (c : Cl) : Cl := ⟨(keptL g un ua c.ls).isEmpty, keptL g un ua c.ls, [], c.tz, c.ts, c.te, c.cz, c.cs, c.ce⟩
def cutP (g : List Sym) (un : Bool) (ua : List Int) (l : LC) : Bool := (l.1 != un) && okB g (fun _ => none) ua l.2
theorem kept_c (g : List Sym) (un : Bool) (ua : List Int) (ls : List LitR) : (keptL g un ua ls).map LitR.c = (ls.map LitR.c).filter fun l => !cutP g un ua l := by
  unfold keptL
  rw [List.filter_map]
  rfl
theorem cpL_c (ls : List LitR) : (ls.map cpL).map LitR.c = ls.map LitR.c := by rw [List.map_map]; rfl
theorem cpR_c (ts : List Row) : (ts.map cpR).map (·.l) = ts.map (·.l) := by rw [List.map_map]; rfl
theorem keptC_c (g : List Sym) (un : Bool) (ua : List Int) (c : Cl) : (keptC g un ua c).c = ⟨c.c.ls.filter fun l => !cutP g un ua l, c.c.ts, c.c.cs⟩ := by
  unfold keptC Cl.c; dsimp only; rw [kept_c]
theorem cutC_c (g : List Sym) (un : Bool) (ua : List Int) (c : Cl) : (cutC g un ua c).c = (keptC g un ua c).c := by
  rw [keptC_c]; unfold cutC Cl.c; dsimp only; rw [kept_c, cpL_c, cpL_c, cpR_c]
theorem keptC_ok {g : List Sym} {un : Bool} {ua : List Int} {c : Cl} (h : clB g c = true) : clB g (keptC g un ua c) = true := by
  rw [clB_c] at h ⊢
  rw [keptC_c]
  exact clOk.2 (ok_filter (clOk.1 h) _)
theorem cutC_ok {g : List Sym} {un : Bool} {ua : List Int} {c : Cl} (h : clB g c = true) : clB g (cutC g un ua c) = true := by
  rw [clB_c, cutC_c, ← clB_c]; exact keptC_ok h
theorem cutC_nil {g : List Sym} {un : Bool} {ua : List Int} {c : Cl} (h : NilC c) : NilC (cutC g un ua c) := fun r hr hz => by
  simp only [rowsOf, cutC, keptL, List.mem_append, List.mem_map, List.mem_filter] at hr
  rcases hr with (⟨l, ⟨⟨m, hm, rfl⟩, _⟩, rfl⟩ | ⟨m, hm, rfl⟩) | ⟨l, ⟨m, hm, rfl⟩, rfl⟩
  · exact h m.r (by simp only [rowsOf, List.mem_append, List.mem_map]; exact .inl (.inl ⟨m, hm, rfl⟩)) hz
  · exact h m (by simp only [rowsOf, List.mem_append]; exact .inl (.inr hm)) hz
  · exact h m.r (by simp only [rowsOf, List.mem_append, List.mem_map]; exact .inr ⟨m, hm, rfl⟩) hz
theorem lit_nil {c : Cl} (h : NilC c) {l : LitR} (hl : l ∈ c.ls) : l.r.z = true → l.r.l = [] := fun hz => h l.r (by simp only [rowsOf, List.mem_append, List.mem_map]; exact .inl (.inl ⟨l, hl, rfl⟩)) hz
theorem lit_atom {g : List Sym} {c : Cl} (h : clB g c = true) {l : LitR} (hl : l ∈ c.ls) : atomB g l.r.l = true := by
  rw [clB_c] at h
  exact (clOk.1 h).la l.c (by simp only [Cl.c]; exact List.mem_map_of_mem hl)
theorem w_cut (z : Bool) (g : List Sym) (e : List D) (un uz : Bool) (ua : List Int) (ue : List D) {c : Cl} (hn : NilC c) :
    C 16 [iG z g e, iLit un uz ua ue, iC c] = some (if (atomB g ua && clB g c) = true then .tup [oC (anewC (cutC g un ua c)), iI ((c.ls.length - (keptL g un ua c.ls).length : Nat) : Int), iI 0] else .tup [.d (.agg [.sl 2 true [] [], .sl 1 true [] [], .sl 2 true [] []]), iI 0, iI 1600], [iG z g e, iLit un uz ua ue, iC c]) := by
  refine wfn (lk := []) rfl rfl (fnW_way (q16 _ _ z (syms g) e un uz (ints ua) ue c.lz (lits c.ls) c.le c.tz (rws c.ts) c.te c.cz (lits c.cs) c.ce _) ?_)
  refine ⟨_, _, _, w_litmay z g e un uz ua ue, ?_⟩
  cases ha : atomB g ua with
  | false => exact condW_f rfl rfl
  | true =>
    refine condW_t rfl ⟨_, _, _, w_clmay z g e c, ?_⟩
    cases hc : clB g c with
    | false => exact condW_f rfl rfl
    | true =>
      have hr := clRow_of hc hn
      have hk := clOk.1 ((clB_c g c).symm.trans hc)
      have hg := sigOk hk.sg
      have hua := atom_codes ha
      have hl5 : c.ls.length ≤ 5 := by have := hk.l5; simpa [Cl.c] using this
      have hdel := w_delete hg z e un uz ue (ua := ua) (by omega) (fun x hx => (hua.2.1 x hx).1) (ls := c.ls.map cpL) (by simp; omega) (fun l hl => by
        obtain ⟨m, hm, rfl⟩ := List.mem_map.1 hl
        have h1 := atom_codes (lit_atom hc hm)
        exact ⟨by have := h1.1; simp only [cpL]; omega, fun hz => (show m.r.l = [] from lit_nil (l := m) hn hm hz)⟩) (c.ls.map cpL).isEmpty
      have hnm := w_normal z g e (cutC_nil (g := g) (un := un) (ua := ua) hn)
      rw [if_pos (cutC_ok hc)] at hnm
      refine condW_t rfl ⟨_, _, _, _, _, _, _, w_clcopy hr, _, _, _, _, _, _, _, _, _, hdel, .inl ⟨_, _, _, _, _, _, _, _, _, hnm, ?_⟩⟩
      have hlen : (List.filter (fun l => !cutB g un ua l) (c.ls.map cpL)).length = (keptL g un ua c.ls).length := by
        have h1 := congrArg List.length (kept_c g un ua (c.ls.map cpL))
        have h2 := congrArg List.length (kept_c g un ua c.ls)
        rw [cpL_c] at h1
        rw [List.length_map] at h1 h2
        rw [h2]; exact h1
      have hle := filter_len (p := fun l => !cutB g un ua l) c.ls
      have hw : IntKind.wrap .i64 (((lits c.ls).length : Int) - ((lits (List.filter (fun l => !cutB g un ua l) (c.ls.map cpL))).length : Int)) = ((c.ls.length - (keptL g un ua c.ls).length : Nat) : Int) := by
        rw [lits_len, lits_len, hlen, wr _ (by unfold keptL; omega) (by omega)]
        unfold keptL; omega
      rw [hw]; rfl
theorem atom_cons {g : List Sym} {a : List Int} (h : atomB g a = true) : ∃ p r, a = p :: r ∧ 0 ≤ p ∧ rowB g r = true := by
  cases a with
  | nil => simp [atomB] at h
  | cons p r =>
    have hs := atom_sig h
    refine ⟨p, r, rfl, ?_, ?_⟩
    · unfold atomB at h
      dsimp only at h
      split at h
      · cases h
      · omega
    · unfold atomB at h
      dsimp only at h
      split at h
      · cases h
      · split at h
        · cases h
        · simp only [Bool.and_eq_true] at h
          have h2 := h.2
          unfold rowB
          rw [hs]
          split at h2
          · rename_i ts hts; rw [hts]; rfl
          · cases h2
end Go.Proofs.YtmldmhbdeejcnaaDoor.Ab

/- The variables of rows, added to those of others, as the program's functions tell them. For every input; no condition. -/
set_option linter.unusedVariables false
set_option linter.unusedSimpArgs false
set_option maxRecDepth 100000
namespace Go.Proofs.YtmldmhbdeejcnaaDoor.Ab
open Go Go.Ab Go.Qu Go.Proofs
attribute [local simp] and_assoc
theorem w_seen2 {us r : List Int} (hu : Up us) (hl : us.length ≤ 100000) (hr : r.length ≤ 100000) (hc : ∀ c ∈ r, -1000000 ≤ c) (z : Bool) (e : List D) : C 51 [.own us.isEmpty 3 1 (ints us), iS z r e] = some (.own (seenF us r).isEmpty 3 1 (ints (seenF us r)), [.dead, iS z r e]) := by
  refine wfn (lk := []) rfl rfl (fnW_way (q51 _ _ us.isEmpty (ints us) z (ints r) e _) ?_)
  have h1 := fun x hx => blk_fun (F := F) (d := d51) (lk := []) (p := [1,0,1,0,0]) (p0 := [1,0,1]) (id := 0) (by kernel_rfl) (st := fun (x : List Int × Nat) => [(0, .own x.1.isEmpty 3 1 (ints x.1)), (9, iS z r e), (10, iI r.length), (11, iI x.2)]) (I := fun x => x.2 ≤ r.length ∧ Up x.1 ∧ x.1.length ≤ us.length + x.2) (μ := fun x => r.length - x.2)
    (res := fun x => .norm [(0, .own (seenF x.1 (r.drop x.2)).isEmpty 3 1 (ints (seenF x.1 (r.drop x.2)))), (9, iS z r e), (10, iI r.length), (11, iI r.length)])
    (fun x hx => by
      obtain ⟨vs, i⟩ := x
      obtain ⟨hx1, hx2, hx3⟩ := hx
      dsimp only at hx1 hx2 hx3
      by_cases hi : i < r.length
      · have hci := hc _ (gi_mem hi)
        have hi' : (i : Int) < r.length := by omega
        by_cases h0 : 0 ≤ gi r i
        · have h0n : ¬ gi r i < 0 := by omega
          refine .go (vs, i + 1) (wpQ_way (q51_l0a _ _ _ (ints vs) z (ints r) e _ i _) ?_) ⟨by dsimp only; omega, hx2, by dsimp only; omega⟩ (by dsimp only; omega) ?_
          · simp [-Bool.exists_bool, -getElem?_pos, -Int.natCast_add, hi', Go.Ab.ints_at hi, h0, h0n, wr1 hi (by omega)]
          · dsimp only
            rw [gi_drop hi, seenF, if_neg (by omega)]
        · have hw : IntKind.wrap .i64 (-1 - gi r i) = -1 - gi r i := wr _ (by omega) (by omega)
          have hn := w_number (gi r i)
          rw [hw] at hn
          have hb := w_binsearch hx2 (by omega) vs.isEmpty [] (-1 - gi r i)
          by_cases hm : (-1 - gi r i) ∈ vs
          · refine .go (vs, i + 1) (wpQ_way (q51_l0a _ _ _ (ints vs) z (ints r) e _ i _) ?_) ⟨by dsimp only; omega, hx2, by dsimp only; omega⟩ (by dsimp only; omega) ?_
            · simp [-Bool.exists_bool, -getElem?_pos, -Int.natCast_add, hi', Go.Ab.ints_at hi, h0, hn, hb, hm, wr1 hi (by omega)]
            · dsimp only
              rw [gi_drop hi, seenF, if_pos (by omega), insS, if_pos hm]
          · have hlow := low_le (vs := vs) (v := -1 - gi r i)
            have hl' : (lowS vs (-1 - gi r i) : Int) ≤ vs.length := by omega
            have hil : insS vs (-1 - gi r i) = vs.take (lowS vs (-1 - gi r i)) ++ (-1 - gi r i) :: vs.drop (lowS vs (-1 - gi r i)) := by rw [insS, if_neg hm]
            refine .go (insS vs (-1 - gi r i), i + 1) (wpQ_way (q51_l0a _ _ _ (ints vs) z (ints r) e _ i _) ?_) ⟨by dsimp only; omega, up_ins hx2, by have := ins_len (vs := vs) (v := -1 - gi r i); dsimp only; omega⟩ (by dsimp only; omega) ?_
            · have hbig : (vs.length + 1) * 8 ≤ 140737488355328 := by omega
              have hin : ints (insS vs (-1 - gi r i)) = (ints vs).take (lowS vs (-1 - gi r i)) ++ .int .i64 (-1 - gi r i) :: (ints vs).drop (lowS vs (-1 - gi r i)) := by
                rw [hil]; simp [ints]
              have hne : (insS vs (-1 - gi r i)).isEmpty = false := by rw [hil]; simp
              dsimp only
              rw [hne, hin]
              simp [-Bool.exists_bool, -getElem?_pos, -Int.natCast_add, hi', Go.Ab.ints_at hi, h0, hn, hb, hm, wr1 hi (by omega), ints_len, hl', hbig, hlow]
            · dsimp only
              rw [gi_drop hi, seenF, if_pos (by omega)]
      · have e1 : i = r.length := by omega
        subst e1
        refine .stop (.exit 0 [(0, .own vs.isEmpty 3 1 (ints vs)), (9, iS z r e), (10, iI r.length), (11, iI r.length)]) (wpQ_way (q51_l0a _ _ _ (ints vs) z (ints r) e _ _ _) (by simp)) rfl ?_
        simp [blkO, seenF]) x hx
  have h2 : evP F (Go.Ab.W F) (JW F d51 []) d51 [] [1,0,1] [(0, .own us.isEmpty 3 1 (ints us)), (9, iS z r e), (10, iI r.length), (11, iI 0)] = _ := h1 (us, 0) ⟨Nat.zero_le _, hu, Nat.le_refl _⟩
  rw [List.drop_zero] at h2
  simp [-Bool.exists_bool, ints_len, h2]
end Go.Proofs.YtmldmhbdeejcnaaDoor.Ab

/- What clauses weigh, their variables: what the program's functions hand back. For every input; no condition. -/
set_option linter.unusedVariables false
set_option linter.unusedSimpArgs false
set_option maxRecDepth 100000
namespace Go.Proofs.YtmldmhbdeejcnaaDoor.Ab
open Go Go.Ab Go.Qu Go.Proofs
attribute [local simp] and_assoc
theorem w_grow (n : Nat) (hn : n ≤ 1000000) : C 73 [.d (.sl 2 true [] []), iI n] = some (.own (decide ((n : Int) = 0)) 35 2 [], [.d (.sl 2 true [] []), iI n]) := by
  refine W_prim (p := growP 35 2) rfl ?_
  unfold growP
  dsimp only
  rw [if_pos ⟨by omega, by omega⟩]
theorem lits_empty (a : List LitR) : (lits a).isEmpty = a.isEmpty := by cases a <;> rfl
theorem w_concat {a b : List LitR} (ha : a.length ≤ 1000) (hb : b.length ≤ 1000) (z z' : Bool) (e e' : List D) : C 50 [.d (.sl 1 false [.sl 2 z (lits a) e, .sl 2 z' (lits b) e'] [])] = some (.own (decide (((a.length + b.length : Nat) : Int) = 0)) 35 2 (lits (a ++ b)), [.d (.sl 1 false [.sl 2 z (lits a) e, .sl 2 z' (lits b) e'] [])]) := by
  refine wfn (lk := []) rfl rfl (fnW_way (q50 _ _ false [.sl 2 z (lits a) e, .sl 2 z' (lits b) e'] [] _) ?_)
  have h1 := blk_fun (F := F) (d := d50) (lk := []) (p := [1,1,0,1,0,0]) (p0 := [1,1,0,1]) (id := 0) (by kernel_rfl) (st := fun (i : Nat) => [(0, .d (.sl 1 false [.sl 2 z (lits a) e, .sl 2 z' (lits b) e'] [])), (3, iI (if i = 0 then 0 else if i = 1 then (a.length : Int) else ((a.length + b.length : Nat) : Int))), (9, .d (.sl 1 false [.sl 2 z (lits a) e, .sl 2 z' (lits b) e'] [])), (10, iI 2), (11, iI i)]) (I := fun i => i ≤ 2) (μ := fun i => 2 - i)
    (res := fun _ => .norm [(0, .d (.sl 1 false [.sl 2 z (lits a) e, .sl 2 z' (lits b) e'] [])), (3, iI ((a.length + b.length : Nat) : Int)), (9, .d (.sl 1 false [.sl 2 z (lits a) e, .sl 2 z' (lits b) e'] [])), (10, iI 2), (11, iI 2)])
    (fun i hi => by
      have hw1 : IntKind.wrap .i64 (0 + (a.length : Int)) = (a.length : Int) := by rw [wr _ (by omega) (by omega)]; omega
      have hw2 : IntKind.wrap .i64 ((a.length : Int) + (b.length : Int)) = ((a.length + b.length : Nat) : Int) := by rw [wr _ (by omega) (by omega)]; omega
      have hn1 : ¬ (a.length : Int) < 0 := by omega
      have hn2 : ¬ ((a.length + b.length : Nat) : Int) < 0 := by omega
      have hw3 : IntKind.wrap .i64 (0 + 1) = 1 := by rw [wr _ (by omega) (by omega)]; omega
      have hw4 : IntKind.wrap .i64 (1 + 1) = 2 := by rw [wr _ (by omega) (by omega)]; omega
      have h3 : i = 0 ∨ i = 1 ∨ i = 2 := by omega
      rcases h3 with rfl | rfl | rfl
      · refine .go 1 (wpQ_way (q50_l0a _ _ false [.sl 2 z (lits a) e, .sl 2 z' (lits b) e'] [] 0 false [.sl 2 z (lits a) e, .sl 2 z' (lits b) e'] [] 2 0 _) ?_) (by omega) (by omega) rfl
        refine condW_t (by decide) (condW_t (by decide) ⟨_, _, _, rfl, ?_⟩)
        rw [lits_len, hw1]
        exact condW_f (decide_eq_false hn1) (by rw [hw3]; rfl)
      · refine .go 2 (wpQ_way (q50_l0a _ _ false [.sl 2 z (lits a) e, .sl 2 z' (lits b) e'] [] a.length false [.sl 2 z (lits a) e, .sl 2 z' (lits b) e'] [] 2 1 _) ?_) (by omega) (by omega) rfl
        refine condW_t (by decide) (condW_t (by decide) ⟨_, _, _, rfl, ?_⟩)
        rw [lits_len, hw2]
        exact condW_f (decide_eq_false hn2) (by rw [hw4]; rfl)
      · exact .stop (.exit 0 [(0, .d (.sl 1 false [.sl 2 z (lits a) e, .sl 2 z' (lits b) e'] [])), (3, iI ((a.length + b.length : Nat) : Int)), (9, .d (.sl 1 false [.sl 2 z (lits a) e, .sl 2 z' (lits b) e'] [])), (10, iI 2), (11, iI 2)]) (wpQ_way (q50_l0a _ _ false [.sl 2 z (lits a) e, .sl 2 z' (lits b) e'] [] _ false [.sl 2 z (lits a) e, .sl 2 z' (lits b) e'] [] 2 2 _) (condW_f (by decide) rfl)) rfl rfl) 0 (Nat.zero_le _)
  have hg := w_grow (a.length + b.length) (by omega)
  generalize hzf : decide (((a.length + b.length : Nat) : Int) = 0) = zf at hg ⊢
  have hza : (zf && (lits a).isEmpty) = zf := by
    rw [← hzf, lits_empty]
    by_cases h0 : a.length + b.length = 0
    · have : a = [] := List.length_eq_zero_iff.1 (by omega)
      subst this; simp
    · have : ¬ ((a.length + b.length : Nat) : Int) = 0 := by omega
      rw [decide_eq_false this]; rfl
  have hzb : (zf && (lits b).isEmpty) = zf := by
    rw [← hzf, lits_empty]
    by_cases h0 : a.length + b.length = 0
    · have : b = [] := List.length_eq_zero_iff.1 (by omega)
      subst this; simp
    · have : ¬ ((a.length + b.length : Nat) : Int) = 0 := by omega
      rw [decide_eq_false this]; rfl
  have h2 := blk_fun (F := F) (d := d50) (lk := []) (p := [1,1,1,1,0,1,0,0]) (p0 := [1,1,1,1,0,1]) (id := 2) (by kernel_rfl) (st := fun (i : Nat) => [(6, .own zf 35 2 (lits (if i = 0 then [] else if i = 1 then a else a ++ b))), (25, .d (.sl 1 false [.sl 2 z (lits a) e, .sl 2 z' (lits b) e'] [])), (26, iI 2), (27, iI i)]) (I := fun i => i ≤ 2) (μ := fun i => 2 - i)
    (res := fun _ => .norm [(6, .own zf 35 2 (lits (a ++ b))), (25, .d (.sl 1 false [.sl 2 z (lits a) e, .sl 2 z' (lits b) e'] [])), (26, iI 2), (27, iI 2)])
    (fun i hi => by
      have hw3 : IntKind.wrap .i64 (0 + 1) = 1 := by rw [wr _ (by omega) (by omega)]; omega
      have hw4 : IntKind.wrap .i64 (1 + 1) = 2 := by rw [wr _ (by omega) (by omega)]; omega
      have h3 : i = 0 ∨ i = 1 ∨ i = 2 := by omega
      rcases h3 with rfl | rfl | rfl
      · refine .go 1 (wpQ_way (q50_l2a _ _ zf (lits []) false [.sl 2 z (lits a) e, .sl 2 z' (lits b) e'] [] 2 0 _) ?_) (by omega) (by omega) rfl
        refine condW_t (by decide) (condW_t (by decide) ⟨_, _, _, rfl, condW_t (by simp [lits_len, lits_nil]; omega) (condW_t (by simp [lits_len, lits_nil]; omega) ?_)⟩)
        rw [hza, hw3]; rfl
      · refine .go 2 (wpQ_way (q50_l2a _ _ zf (lits a) false [.sl 2 z (lits a) e, .sl 2 z' (lits b) e'] [] 2 1 _) ?_) (by omega) (by omega) rfl
        refine condW_t (by decide) (condW_t (by decide) ⟨_, _, _, rfl, condW_t (by simp [lits_len]; omega) (condW_t (by simp [lits_len]; omega) ?_)⟩)
        rw [hzb, hw4, ← lits_append]; rfl
      · exact .stop (.exit 2 [(6, .own zf 35 2 (lits (a ++ b))), (25, .d (.sl 1 false [.sl 2 z (lits a) e, .sl 2 z' (lits b) e'] [])), (26, iI 2), (27, iI 2)]) (wpQ_way (q50_l2a _ _ zf (lits (a ++ b)) false [.sl 2 z (lits a) e, .sl 2 z' (lits b) e'] [] 2 2 _) (condW_f (by decide) rfl)) rfl rfl) 0 (Nat.zero_le _)
  exact ⟨_, _, _, _, _, _, _, _, _, h1, _, _, _, _, hg, _, _, _, _, _, _, _, h2, rfl⟩
theorem seen_len : ∀ (r vs : List Int), (seenF vs r).length ≤ vs.length + r.length
  | [], vs => by simp [seenF]
  | c :: r, vs => by
    rw [seenF]
    have := seen_len r (if c < 0 then insS vs (-1 - c) else vs)
    have h2 : (if c < 0 then insS vs (-1 - c) else vs).length ≤ vs.length + 1 := by
      split
      · exact ins_len
      · omega
    simp; omega
abbrev fold (us : List Int) (rs : List (List Int)) : List Int := rs.foldl seenF us
theorem w_clvars (z : Bool) (g : List Sym) (e : List D) {c : Cl} (hn : NilC c) : C 20 [iG z g e, iC c] = some (.tup [.own (if clB g c = true then varsC c.c.rows else []).isEmpty 3 1 (ints (if clB g c = true then varsC c.c.rows else [])), iI (if clB g c = true then 0 else 800)], [iG z g e, iC c]) := by
  refine wfn (lk := []) rfl rfl (fnW_way (q20 _ _ z (syms g) e c.lz (lits c.ls) c.le c.tz (rws c.ts) c.te c.cz (lits c.cs) c.ce _) ?_)
  refine ⟨_, _, _, w_clmay z g e c, ?_⟩
  cases hb : clB g c
  · rfl
  rw [condW_tt]
  have hr := clRow_of hb hn
  have hk := clOk.1 ((clB_c g c).symm.trans hb)
  have e1 : c.ls.length ≤ 5 := by have := hk.l5; simpa [Cl.c] using this
  have e2 : c.ts.length ≤ 3 := by have := hk.t3; simpa [Cl.c] using this
  have e3 : c.cs.length ≤ 3 := by have := hk.c3; simpa [Cl.c] using this
  have h49 : ∀ r ∈ rowsOf c, r.l.length ≤ 49 ∧ ∀ x ∈ r.l, -24 ≤ x := fun r hr' => by
    simp only [rowsOf, List.mem_append, List.mem_map] at hr'
    rcases hr' with (⟨l, hl, rfl⟩ | hr') | ⟨l, hl, rfl⟩
    · have := atom_codes (hk.la l.c (by simp [Cl.c]; exact ⟨l, hl, rfl⟩))
      exact ⟨this.1, fun x hx => (this.2.1 x hx).1⟩
    · obtain ⟨k, hk⟩ := hk.tr
      have h1 := (hk r.l (by simp [Cl.c]; exact ⟨r, hr', rfl⟩)).1
      have := (rowB_parts h1).2.1
      exact ⟨by omega, fun x hx => (row_codes h1 x hx).1⟩
    · have := atom_codes (hk.ca l.c (by simp [Cl.c]; exact ⟨l, hl, rfl⟩))
      exact ⟨this.1, fun x hx => (this.2.1 x hx).1⟩
  have hcc := w_concat (a := c.ls) (b := c.cs) (by omega) (by omega) c.lz c.cz c.le c.ce
  obtain ⟨L, hL⟩ : ∃ L, L = c.ls ++ c.cs := ⟨_, rfl⟩
  rw [← hL] at hcc
  have hLn : L.length ≤ 8 := by rw [hL]; simp; omega
  have hLm : ∀ l ∈ L, l.r ∈ rowsOf c := fun l hl => by
    rw [hL, List.mem_append] at hl
    simp only [rowsOf, List.mem_append, List.mem_map]
    rcases hl with hl | hl
    · exact .inl (.inl ⟨l, hl, rfl⟩)
    · exact .inr ⟨l, hl, rfl⟩
  generalize hzf : decide (((c.ls.length + c.cs.length : Nat) : Int) = 0) = zf at hcc
  have h1 := fun x hx => blk_fun (F := F) (d := d20) (lk := []) (p := [1,1,1,0,1,0,0]) (p0 := [1,1,1,0,1]) (id := 0) (by kernel_rfl) (st := fun (x : List Int × Nat) => [(3, bC c), (6, .own x.1.isEmpty 3 1 (ints x.1)), (20, .own zf 35 2 (lits L)), (21, iI L.length), (22, iI x.2)]) (I := fun x => x.2 ≤ L.length ∧ Up x.1 ∧ x.1.length ≤ 49 * x.2) (μ := fun x => L.length - x.2)
    (res := fun x => .norm [(3, bC c), (6, .own (fold x.1 ((L.drop x.2).map fun l => l.r.l)).isEmpty 3 1 (ints (fold x.1 ((L.drop x.2).map fun l => l.r.l)))), (20, .own zf 35 2 (lits L)), (21, iI L.length), (22, iI L.length)])
    (fun x hx => by
      obtain ⟨us, i⟩ := x
      obtain ⟨hx1, hx2, hx3⟩ := hx
      dsimp only at hx1 hx2 hx3
      by_cases hi : i < L.length
      · obtain ⟨l, hl1⟩ := at_lt hi
        have hd : L.drop i = l :: L.drop (i + 1) := by
          rw [List.drop_eq_getElem_cons hi]
          rw [List.getElem?_eq_getElem hi] at hl1
          cases hl1; rfl
        have hlr := h49 l.r (hLm l (List.mem_of_getElem? hl1))
        have hs := w_seen2 hx2 (by omega) (r := l.r.l) (by omega) (fun x hx => by have := hlr.2 x hx; omega) l.r.z l.r.e
        have hlen := seen_len l.r.l us
        have hi' : (i : Int) < L.length := by omega
        refine .go (seenF us l.r.l, i + 1) (wpQ_way (q20_l0a _ _ c.lz (lits c.ls) c.le c.tz (rws c.ts) c.te c.cz (lits c.cs) c.ce us.isEmpty (ints us) zf (lits L) _ i _) ?_) ⟨by dsimp only; omega, up_seen hx2, by dsimp only; omega⟩ (by dsimp only; omega) ?_
        · simp [-Bool.exists_bool, -getElem?_pos, -Int.natCast_add, hi', lits_at hl1, hs, wr1 hi (by omega)]
        · dsimp only; rw [hd]; rfl
      · have ei : i = L.length := by omega
        subst ei
        refine .stop (.exit 0 [(3, bC c), (6, .own us.isEmpty 3 1 (ints us)), (20, .own zf 35 2 (lits L)), (21, iI L.length), (22, iI L.length)]) (wpQ_way (q20_l0a _ _ c.lz (lits c.ls) c.le c.tz (rws c.ts) c.te c.cz (lits c.cs) c.ce us.isEmpty (ints us) zf (lits L) _ _ _) (by simp)) rfl ?_
        simp [blkO, fold]) x hx
  have h2 := fun x hx => blk_fun (F := F) (d := d20) (lk := []) (p := [1,1,1,1,0,1,0,0]) (p0 := [1,1,1,1,0,1]) (id := 2) (by kernel_rfl) (st := fun (x : List Int × Nat) => [(6, .own x.1.isEmpty 3 1 (ints x.1)), (32, iR c.tz c.ts c.te), (33, iI c.ts.length), (34, iI x.2)]) (I := fun x => x.2 ≤ c.ts.length ∧ Up x.1 ∧ x.1.length ≤ 400 + 49 * x.2) (μ := fun x => c.ts.length - x.2)
    (res := fun x => .norm [(6, .own (fold x.1 ((c.ts.drop x.2).map fun r => r.l)).isEmpty 3 1 (ints (fold x.1 ((c.ts.drop x.2).map fun r => r.l)))), (32, iR c.tz c.ts c.te), (33, iI c.ts.length), (34, iI c.ts.length)])
    (fun x hx => by
      obtain ⟨us, i⟩ := x
      obtain ⟨hx1, hx2, hx3⟩ := hx
      dsimp only at hx1 hx2 hx3
      by_cases hi : i < c.ts.length
      · obtain ⟨l, hl1⟩ := at_lt hi
        have hd : c.ts.drop i = l :: c.ts.drop (i + 1) := by
          rw [List.drop_eq_getElem_cons hi]
          rw [List.getElem?_eq_getElem hi] at hl1
          cases hl1; rfl
        have hlr := h49 l (by simp [rowsOf, List.mem_of_getElem? hl1])
        have hs := w_seen2 hx2 (by omega) (r := l.l) (by omega) (fun x hx => by have := hlr.2 x hx; omega) l.z l.e
        have hlen := seen_len l.l us
        have hi' : (i : Int) < c.ts.length := by omega
        refine .go (seenF us l.l, i + 1) (wpQ_way (q20_l2a _ _ us.isEmpty (ints us) c.tz (rws c.ts) c.te _ i _) ?_) ⟨by dsimp only; omega, up_seen hx2, by dsimp only; omega⟩ (by dsimp only; omega) ?_
        · simp [-Bool.exists_bool, -getElem?_pos, -Int.natCast_add, hi', rws_at hl1, hs, wr1 hi (by omega)]
        · dsimp only; rw [hd]; rfl
      · have ei : i = c.ts.length := by omega
        subst ei
        refine .stop (.exit 2 [(6, .own us.isEmpty 3 1 (ints us)), (32, iR c.tz c.ts c.te), (33, iI c.ts.length), (34, iI c.ts.length)]) (wpQ_way (q20_l2a _ _ us.isEmpty (ints us) c.tz (rws c.ts) c.te _ _ _) (by simp)) rfl ?_
        simp [blkO, fold]) x hx
  have h3 : evP F (Go.Ab.W F) (JW F d20 []) d20 [] [1,1,1,0,1] [(3, bC c), (6, .own true 3 1 []), (20, .own zf 35 2 (lits L)), (21, iI L.length), (22, iI 0)] = _ := h1 ([], 0) ⟨Nat.zero_le _, List.Pairwise.nil, Nat.le_refl _⟩
  rw [List.drop_zero] at h3
  have hup : Up (fold [] (L.map fun l => l.r.l)) := up_folds List.Pairwise.nil
  have hfl : ∀ (rs : List (List Int)) (us : List Int), (∀ r ∈ rs, r.length ≤ 49) → (fold us rs).length ≤ us.length + 49 * rs.length := by
    intro rs
    induction rs with
    | nil => intro us _; simp [fold]
    | cons r rs ih =>
      intro us h
      have h4 := ih (seenF us r) (fun x hx => h x (by simp [hx]))
      have h5 := seen_len r us
      have h6 := h r (by simp)
      simp only [fold, List.foldl_cons, List.length_cons] at h4 ⊢
      omega
  have hfn : (fold [] (L.map fun l => l.r.l)).length ≤ 400 := by
    have := hfl (L.map fun l => l.r.l) [] (fun r hr' => by
      obtain ⟨l, hl, rfl⟩ := List.mem_map.1 hr'
      exact (h49 l.r (hLm l hl)).1)
    simp at this; omega
  have h4 := h2 (fold [] (L.map fun l => l.r.l), 0) ⟨Nat.zero_le _, hup, by dsimp only; omega⟩
  rw [List.drop_zero] at h4
  have hall : fold (fold [] (L.map fun l => l.r.l)) (c.ts.map fun r => r.l) = varsC c.c.rows := by
    have h5 : fold (fold [] (L.map fun l => l.r.l)) (c.ts.map fun r => r.l) = varsC ((L.map fun l => l.r.l) ++ (c.ts.map fun r => r.l)) := by
      unfold varsC; rw [List.foldl_append]
    rw [h5]
    refine vars_ext fun r => ?_
    rw [hL]
    simp only [CC.rows, Cl.c, List.map_append, List.map_map, List.mem_append]
    constructor
    · rintro ((h | h) | h)
      · exact .inl (.inl h)
      · exact .inr h
      · exact .inl (.inr h)
    · rintro ((h | h) | h)
      · exact .inl (.inl h)
      · exact .inr h
      · exact .inl (.inr h)
  dsimp only at h3 h4
  rw [hall] at h4
  refine ⟨_, _, _, hcc, ?_⟩
  rw [lits_len]
  refine ⟨_, _, _, _, _, _, _, _, _, _, _, _, _, _, _, h3, ?_⟩
  rw [rws_len]
  exact ⟨_, _, _, _, _, _, _, h4, rfl⟩
end Go.Proofs.YtmldmhbdeejcnaaDoor.Ab

/- Structures of a few things: what holds in them holds of a clause just where it holds of its normal one; what says nothing holds in all. Plain lists; no condition. -/
set_option linter.unusedVariables false
set_option linter.unusedSimpArgs false
namespace Go.Qu
open Go Go.Ab

/-- The values of so many terms; `tv` tells what a symbol means. -/
def evT (g : List Sym) (tv : Int → List Int → Int) (env : Int → Int) : List Int → Nat → List Int
  | _, 0 => []
  | [], _ + 1 => []
  | c :: r, n + 1 => if c < 0 then env c :: evT g tv env r n else
    tv c ((evT g tv env r (n + (arOf g c).getD 0)).take ((arOf g c).getD 0)) :: (evT g tv env r (n + (arOf g c).getD 0)).drop ((arOf g c).getD 0)
theorem evT_len {g : List Sym} {tv : Int → List Int → Int} {env : Int → Int} : ∀ {r : List Int} {n k : Nat}, lenN g r n = some k → (evT g tv env r n).length = n
  | r, 0, k, h => by cases r <;> rfl
  | [], n + 1, k, h => by simp [lenN] at h
  | c :: r, n + 1, k, h => by
    obtain ⟨a, m, ha, hm, rfl⟩ := lenN_some h
    have ih := evT_len (tv := tv) (env := env) hm
    rw [evT, ha]
    split
    · have : a = 0 := by
        rename_i h0
        rw [arOf, if_pos h0] at ha
        split at ha
        · cases ha; rfl
        · cases ha
      subst this
      simpa using ih
    · simp [ih]
theorem evT_app {g : List Sym} {tv : Int → List Int → Int} {env : Int → Int} : ∀ {r : List Int} {n k : Nat} (m : Nat), lenN g r n = some k → evT g tv env r (n + m) = evT g tv env r n ++ evT g tv env (r.drop k) m
  | r, 0, k, m, h => by
    have : k = 0 := by cases r <;> (simp [lenN] at h; exact h.symm)
    subst this
    cases r <;> simp [evT]
  | [], n + 1, k, m, h => by simp [lenN] at h
  | c :: r, n + 1, k, m, h => by
    obtain ⟨a, j, ha, hj, rfl⟩ := lenN_some h
    have ih := evT_app (tv := tv) (env := env) m hj
    have hl := evT_len (tv := tv) (env := env) hj
    rw [show n + 1 + m = (n + m) + 1 by omega, evT, evT, ha]
    simp only [Option.getD_some, List.drop_succ_cons]
    rw [show n + m + a = n + a + m by omega, ih]
    split
    · have : a = 0 := by
        rename_i h0
        rw [arOf, if_pos h0] at ha
        split at ha
        · cases ha; rfl
        · cases ha
      subst this
      have e1 : evT g tv env r (n + m) = evT g tv env r n ++ evT g tv env (r.drop j) m := by simpa using ih
      simp [e1]
    · rw [List.take_append_of_le_length (by omega), List.drop_append_of_le_length (by omega)]; rfl
theorem evT_take {g : List Sym} {tv : Int → List Int → Int} {env : Int → Int} : ∀ {r : List Int} {n k : Nat}, lenN g r n = some k → evT g tv env (r.take k) n = evT g tv env r n
  | r, 0, k, h => by cases r <;> cases k <;> rfl
  | [], n + 1, k, h => by simp [lenN] at h
  | c :: r, n + 1, k, h => by
    obtain ⟨a, m, ha, hm, rfl⟩ := lenN_some h
    have ih := evT_take (tv := tv) (env := env) hm
    rw [List.take_succ_cons, evT, evT, ha]
    simp only [Option.getD_some]
    rw [ih]
    split
    · have : a = 0 := by
        rename_i h0
        rw [arOf, if_pos h0] at ha
        split at ha
        · cases ha; rfl
        · cases ha
      subst this
      have e1 : evT g tv env (r.take m) n = evT g tv env r n := by simpa using ih
      rw [e1]
    · rfl
theorem evT_map {g : List Sym} {tv : Int → List Int → Int} {env env' : Int → Int} (f : Int → Int) (hf : ∀ c, (f c < 0 ↔ c < 0) ∧ (0 ≤ c → f c = c)) : ∀ {r : List Int} {n : Nat}, (∀ c ∈ r, c < 0 → env (f c) = env' c) → evT g tv env (r.map f) n = evT g tv env' r n
  | r, 0, h => by cases r <;> rfl
  | [], n + 1, h => rfl
  | c :: r, n + 1, h => by
    have hr : ∀ x ∈ r, x < 0 → env (f x) = env' x := fun x hx => h x (by simp [hx])
    simp only [List.map_cons, evT]
    by_cases h0 : c < 0
    · rw [if_pos ((hf c).1.2 h0), if_pos h0, h c (by simp) h0, evT_map f hf hr]
    · rw [if_neg (fun h1 => h0 ((hf c).1.1 h1)), if_neg h0, (hf c).2 (by omega), evT_map f hf hr]
theorem evT_ext {g : List Sym} {tv : Int → List Int → Int} {env env' : Int → Int} {r : List Int} {n : Nat} (h : ∀ c ∈ r, c < 0 → env c = env' c) : evT g tv env r n = evT g tv env' r n := by
  have := evT_map (g := g) (tv := tv) (env := env) (env' := env') id (fun c => ⟨Iff.rfl, fun _ => rfl⟩) (r := r) (n := n) h
  rwa [List.map_id] at this
def valsF (g : List Sym) (tv : Int → List Int → Int) (env : Int → Int) (r : List Int) : List Int := evT g tv env r (termsN g r)
/-- Does an atom hold? `pv` tells it of a predicate. -/
def atomH (g : List Sym) (tv : Int → List Int → Int) (pv : Int → List Int → Bool) (env : Int → Int) (a : List Int) : Bool :=
  if gi a 0 = 0 then decide (gi (valsF g tv env a.tail) 0 = gi (valsF g tv env a.tail) 1) else pv (gi a 0) (valsF g tv env a.tail)
def litH (g : List Sym) (tv : Int → List Int → Int) (pv : Int → List Int → Bool) (env : Int → Int) (l : LC) : Bool := atomH g tv pv env l.2 != l.1
def tupH (g : List Sym) (tv : Int → List Int → Int) (qv : List Int → Bool) (env : Int → Int) (r : List Int) : Bool := qv (valsF g tv env r)
def hereH (g : List Sym) (tv : Int → List Int → Int) (pv : Int → List Int → Bool) (qv : List Int → Bool) (c : CC) (env : Int → Int) : Bool :=
  c.cs.any (fun l => !litH g tv pv env l) || (c.ls.any (litH g tv pv env) || c.ts.any (tupH g tv qv env))
theorem any_mem {α : Type} {l m : List α} (p : α → Bool) (h : ∀ x, x ∈ l ↔ x ∈ m) : l.any p = m.any p := by
  rw [Bool.eq_iff_iff, List.any_eq_true, List.any_eq_true]; simp only [h]
theorem here_once {g : List Sym} {tv : Int → List Int → Int} {pv : Int → List Int → Bool} {qv : List Int → Bool} (c : CC) (env : Int → Int) : hereH g tv pv qv (onceC c) env = hereH g tv pv qv c env := by
  unfold hereH onceC
  rw [any_mem _ (fun x => by rw [mem_once]; simp : ∀ x, x ∈ onceK id [] c.cs ↔ x ∈ c.cs), any_mem _ (fun x => by rw [mem_once]; simp : ∀ x, x ∈ onceK id [] c.ls ↔ x ∈ c.ls), any_mem _ (fun x => by rw [mem_once]; simp : ∀ x, x ∈ onceK id [] c.ts ↔ x ∈ c.ts)]
theorem any_ext {α : Type} {l : List α} {p q : α → Bool} (h : ∀ x ∈ l, p x = q x) : l.any p = l.any q := by
  induction l with
  | nil => rfl
  | cons x l ih => rw [List.any_cons, List.any_cons, h x (by simp), ih (fun y hy => h y (by simp [hy]))]
theorem atom_row {g : List Sym} {p : Int} {r : List Int} (h : atomB g (p :: r) = true) : 0 ≤ p ∧ rowB g r = true := by
  simp only [atomB] at h
  split at h
  · cases h
  · split at h
    · cases h
    · simp only [Bool.and_eq_true] at h
      refine ⟨by omega, ?_⟩
      unfold rowB
      cases hp : rowP g r with
      | none => rw [hp] at h; simp at h
      | some ts => simp [h.1.2]
theorem atom_ren {g : List Sym} {tv : Int → List Int → Int} {pv : Int → List Int → Bool} {env env' : Int → Int} {s : List Int} (hs : s.length ≤ 24) {a : List Int} (ha : atomB g a = true) (hm : ∀ c ∈ a, c < 0 → c ∈ s) (h : ∀ c ∈ a, c < 0 → env (renC s c) = env' c) : atomH g tv pv env (renR s a) = atomH g tv pv env' a := by
  cases a with
  | nil => simp [atomB] at ha
  | cons p r =>
    obtain ⟨h0, h1⟩ := atom_row ha
    have hp : renC s p = p := by simp [renC, h0]
    have h2 := ren_row hs h1 (fun c hc => hm c (by simp [hc]))
    have h3 : valsF g tv env (renR s r) = valsF g tv env' r := by
      unfold valsF
      rw [h2.2]
      exact evT_map (renC s) (fun c => ⟨ren_neg s c, fun h => by simp [renC, h]⟩) (fun c hc => h c (by simp [hc]))
    have h4 : renR s (p :: r) = p :: renR s r := by simp [renR, hp]
    rw [h4, atomH, atomH, List.tail_cons, List.tail_cons, h3]; rfl
theorem here_ren {g : List Sym} {tv : Int → List Int → Int} {pv : Int → List Int → Bool} {qv : List Int → Bool} {env env' : Int → Int} {s : List Int} (hs : s.length ≤ 24) {c : CC} (hc : ClOk g c) (hm : ∀ r ∈ c.rows, ∀ x ∈ r, x < 0 → x ∈ s) (h : ∀ r ∈ c.rows, ∀ x ∈ r, x < 0 → env (renC s x) = env' x) : hereH g tv pv qv (renCC s c) env = hereH g tv pv qv c env' := by
  unfold hereH renCC
  simp only [List.any_map]
  have h1 : ∀ l ∈ c.ls, litH g tv pv env (renL s l) = litH g tv pv env' l := fun l hl => by
    unfold litH renL
    rw [atom_ren hs (hc.la l hl) (hm _ (in_ls hl)) (h _ (in_ls hl))]
  have h2 : ∀ l ∈ c.cs, litH g tv pv env (renL s l) = litH g tv pv env' l := fun l hl => by
    unfold litH renL
    rw [atom_ren hs (hc.ca l hl) (hm _ (in_cs hl)) (h _ (in_cs hl))]
  have h3 : ∀ r ∈ c.ts, tupH g tv qv env (renR s r) = tupH g tv qv env' r := fun r hr => by
    obtain ⟨k, hk⟩ := hc.tr
    have hin : r ∈ c.rows := by simp [CC.rows, hr]
    unfold tupH valsF
    rw [(ren_row hs (hk r hr).1 (hm r hin)).2]
    exact congrArg qv (evT_map (renC s) (fun c => ⟨ren_neg s c, fun h => by simp [renC, h]⟩) (h r hin))
  have k1 : c.cs.any ((fun l => !litH g tv pv env l) ∘ renL s) = c.cs.any fun l => !litH g tv pv env' l := any_ext fun l hl => congrArg (fun b => !b) (h2 l hl)
  have k2 : c.ls.any (litH g tv pv env ∘ renL s) = c.ls.any (litH g tv pv env') := any_ext fun l hl => h1 l hl
  have k3 : c.ts.any (tupH g tv qv env ∘ renR s) = c.ts.any (tupH g tv qv env') := any_ext fun l hl => h3 l hl
  rw [k1, k2, k3]
theorem here_ext {g : List Sym} {tv : Int → List Int → Int} {pv : Int → List Int → Bool} {qv : List Int → Bool} {env env' : Int → Int} {c : CC} (h : ∀ r ∈ c.rows, ∀ x ∈ r, x < 0 → env x = env' x) : hereH g tv pv qv c env = hereH g tv pv qv c env' := by
  have hv : ∀ (a b : List Int), a.tail = b → (∀ x ∈ a, x < 0 → env x = env' x) → valsF g tv env b = valsF g tv env' b := fun a b hb ha => evT_ext (fun c hc => ha c (List.mem_of_mem_tail (hb ▸ hc)))
  have h1 : ∀ l ∈ c.ls, litH g tv pv env l = litH g tv pv env' l := fun l hl => by
    unfold litH atomH; rw [hv l.2 _ rfl (h _ (in_ls hl))]
  have h2 : ∀ l ∈ c.cs, litH g tv pv env l = litH g tv pv env' l := fun l hl => by
    unfold litH atomH; rw [hv l.2 _ rfl (h _ (in_cs hl))]
  have h3 : ∀ r ∈ c.ts, tupH g tv qv env r = tupH g tv qv env' r := fun r hr =>
    congrArg qv (evT_ext (h r (by simp [CC.rows, hr])))
  unfold hereH
  rw [any_ext (q := fun l => !litH g tv pv env' l) (fun l hl => by rw [h2 l hl]), any_ext h1, any_ext h3]
/-- What stands for variables. -/
def envV (vs ds : List Int) (c : Int) : Int := if (-1 - c) ∈ vs then gi ds (vs.idxOf (-1 - c)) else 0
/-- Whatever stands for the variables. -/
def holdsP (sz : Int) (vs : List Int) (here : (Int → Int) → Bool) : Prop := ∀ ds : List Int, ds.length = vs.length → (∀ d ∈ ds, 0 ≤ d ∧ d < sz) → here (envV vs ds) = true
theorem gi_map {α : Type} (f : α → Int) : ∀ (l : List α) (i : Nat) (h : i < l.length), gi (l.map f) i = f l[i] := fun l i h => by simp [gi, h]
theorem holds_norm {g : List Sym} {tv : Int → List Int → Int} {pv : Int → List Int → Bool} {qv : List Int → Bool} {c : CC} (hc : ClOk g c) (sz : Int) : holdsP sz (varsC (normC c).rows) (hereH g tv pv qv (normC c)) ↔ holdsP sz (varsC c.rows) (hereH g tv pv qv c) := by
  have hs := seenC_len hc
  have hm : ∀ r ∈ c.rows, ∀ x ∈ r, x < 0 → x ∈ seenC c := fun r hr x hx h0 => mem_seenC.2 ⟨h0, r, hr, hx⟩
  have ho : ClOk g (onceC c) := by
    obtain ⟨k, hk⟩ := hc.tr
    refine ⟨hc.sg, Nat.le_trans (once_len id c.ls []) (by simpa using hc.l5), Nat.le_trans (once_len id c.ts []) (by simpa using hc.t3), Nat.le_trans (once_len id c.cs []) (by simpa using hc.c3), fun l hl => hc.la l (by simpa using (mem_once c.ls [] l).1 hl), ⟨k, fun r hr => hk r (by simpa using (mem_once c.ts [] r).1 hr)⟩, fun l hl => hc.ca l (by simpa using (mem_once c.cs [] l).1 hl), ?_⟩
    refine Nat.le_trans ?_ hc.sum
    simp only [CC.rows, onceC, lenI_app]
    have h1 := lenI_once (fun l : LC => l.2) c.ls []
    have h2 := lenI_once (fun l : List Int => l) c.ts []
    have h3 := lenI_once (fun l : LC => l.2) c.cs []
    simp [lenI] at h1 h2 h3
    omega
  have hh : ∀ env env' : Int → Int, (∀ x ∈ seenC c, env (renC (seenC c) x) = env' x) → hereH g tv pv qv (normC c) env = hereH g tv pv qv c env' := fun env env' h => by
    rw [normC, here_ren hs ho (fun r hr => hm r (mem_onceC.1 hr)) (fun r hr x hx h0 => h x (hm r (mem_onceC.1 hr) x hx h0)), here_once]
  have hl := vars_len c
  rw [vars_norm]
  have hidx : ∀ x ∈ seenC c, x < 0 := fun x hx => (mem_seenC.1 hx).1
  have hR : ∀ i, i < (seenC c).length → (((List.range (seenC c).length).map fun (i : Nat) => (i : Int)).idxOf (i : Int)) = i := by
    intro i hi
    have hn : ((List.range (seenC c).length).map fun (i : Nat) => (i : Int)).Nodup := by
      rw [List.nodup_iff_pairwise_ne]
      exact List.pairwise_map.2 (List.pairwise_lt_range.imp (fun h => by omega))
    have := hn.idxOf_getElem i (by simpa using hi)
    simpa using this
  have hE : ∀ (ds : List Int) (x : Int), x ∈ seenC c → envV ((List.range (seenC c).length).map fun (i : Nat) => (i : Int)) ds (renC (seenC c) x) = gi ds ((seenC c).idxOf x) := by
    intro ds x hx
    have h0 := hidx x hx
    have h1 := List.idxOf_lt_length_of_mem hx
    have h2 : -1 - renC (seenC c) x = (((seenC c).idxOf x : Nat) : Int) := by rw [renC, if_neg (by omega)]; omega
    rw [envV, h2, if_pos (List.mem_map.2 ⟨_, List.mem_range.2 h1, rfl⟩), hR _ h1]
  constructor
  · intro h ds hd1 hd2
    have h1 := h ((seenC c).map fun x => envV (varsC c.rows) ds x) (by simp) (by
      intro d hd
      obtain ⟨x, hx, rfl⟩ := List.mem_map.1 hd
      unfold envV
      split
      · rename_i h2
        exact hd2 _ (gi_mem (by rw [hd1]; exact List.idxOf_lt_length_of_mem h2))
      · rename_i h2
        refine absurd ((vars_seen c).2 ⟨by have := hidx x hx; omega, ?_⟩) h2
        rw [show (-1 - (-1 - x) : Int) = x by omega]; exact hx)
    rw [hh _ (envV (varsC c.rows) ds) (fun x hx => by
      rw [hE _ x hx, gi_map _ _ _ (List.idxOf_lt_length_of_mem hx), List.getElem_idxOf])] at h1
    exact h1
  · intro h ds hd1 hd2
    have hd3 : ds.length = (seenC c).length := by simpa using hd1
    have h1 := h ((varsC c.rows).map fun v => gi ds ((seenC c).idxOf (-1 - v))) (by simp) (by
      intro d hd
      obtain ⟨v, hv, rfl⟩ := List.mem_map.1 hd
      exact hd2 _ (gi_mem (by rw [hd3]; exact List.idxOf_lt_length_of_mem ((vars_seen c).1 hv).2)))
    rw [hh _ _ (fun x hx => ?_)]
    · exact h1
    · rw [hE _ x hx]
      have h0 := hidx x hx
      have h2 : (-1 - x) ∈ varsC c.rows := (vars_seen c).2 ⟨by omega, by rw [show (-1 - (-1 - x) : Int) = x by omega]; exact hx⟩
      rw [envV, if_pos h2, gi_map _ _ _ (List.idxOf_lt_length_of_mem h2), List.getElem_idxOf, show (-1 - (-1 - x) : Int) = x by omega]
end Go.Qu

/- Structures of a few things: what the reference's functions hand back. For every input; no condition. -/
set_option linter.unusedVariables false
set_option linter.unusedSimpArgs false
set_option maxRecDepth 100000
namespace Go.Proofs.YtmldmhbdeejcnaaDoor.Ab
open Go Go.Ab Go.Qu Go.Proofs
attribute [local simp] and_assoc
def hashS (h a : Int) : Int := IntKind.wrap .u64 (IntKind.wrap .u64 (IntKind.wrap .u64 (h * 5) + IntKind.wrap .u64 a) + 3)
def hashF (h : Int) (l : List Int) : Int := l.foldl hashS h
def hash0 (c : Int) : Int := IntKind.wrap .u64 (IntKind.wrap .i64 (IntKind.wrap .i64 (c * 7) + 1))
def andI (w m : Int) : Int := IntKind.wrap .i64 ((BitVec.toNat (BitVec.ofInt (IntKind.bits .i64) w &&& BitVec.ofInt (IntKind.bits .i64) m) : Nat) : Int)
def lookI (ns : List Int) (c : Int) (l : List Int) : Int := IntKind.wrap .i64 (Int.tmod (hashF (hash0 c) l) (IntKind.wrap .u64 (ns.length : Int)))
def lookV (ns : List Int) (c : Int) (l : List Int) : Int := if ns = [] then 0 else andI (gi ns (lookI ns c l).toNat) 255
theorem u64_ge (x : Int) : 0 ≤ IntKind.wrap .u64 x ∧ IntKind.wrap .u64 x < 18446744073709551616 := by
  unfold IntKind.wrap
  simp [IntKind.signed, IntKind.bits]
  omega
theorem u64_len {n : Nat} (h : n < 20000000000000) : IntKind.wrap .u64 (n : Int) = n := by
  unfold IntKind.wrap
  simp [IntKind.signed, IntKind.bits]
  omega
theorem hashF_ge : ∀ (l : List Int) {h : Int}, 0 ≤ h → 0 ≤ hashF h l
  | [], h, h0 => h0
  | a :: l, h, _ => hashF_ge l (h := hashS h a) (u64_ge _).1
theorem lookI_in {ns : List Int} (hn : ns ≠ []) (hl : ns.length < 20000000000000) (c : Int) (l : List Int) : 0 ≤ lookI ns c l ∧ lookI ns c l < ns.length := by
  unfold lookI
  rw [u64_len hl]
  have h0 := hashF_ge l (h := hash0 c) (u64_ge _).1
  have h1 : (0 : Int) < ns.length := by have := List.length_pos_iff.2 hn; omega
  have h2 := Int.tmod_nonneg (ns.length : Int) h0
  have h3 := Int.tmod_lt_of_pos (hashF (hash0 c) l) h1
  rw [wr _ (by omega) (by omega)]
  exact ⟨h2, h3⟩
theorem and255 (w : Int) : 0 ≤ andI w 255 ∧ andI w 255 ≤ 255 := by
  unfold andI
  have h1 : (BitVec.toNat (BitVec.ofInt (IntKind.bits .i64) w &&& BitVec.ofInt (IntKind.bits .i64) 255)) ≤ 255 := by
    rw [BitVec.toNat_and]
    exact Nat.le_trans Nat.and_le_right (by decide)
  rw [wr _ (by omega) (by omega)]
  omega
theorem lookV_ge (ns : List Int) (c : Int) (l : List Int) : 0 ≤ lookV ns c l := by
  unfold lookV
  split
  · omega
  · exact (and255 _).1
/-- A structure. -/
abbrev dM (sz : Int) (zn : Bool) (ns : List Int) (en : List D) : List D := [.int .i64 sz, .sl 1 zn (ints ns) en]
abbrev iM (sz : Int) (zn : Bool) (ns : List Int) (en : List D) : IV := .d (.agg (dM sz zn ns en))
abbrev bMd (sz : Int) (zn : Bool) (ns : List Int) (en : List D) : IV := .dbox 59 0 (dM sz zn ns en)
theorem l_look (sz : Int) (zn : Bool) (ns : List Int) (en : List D) {l : List Int} (hl : Len l) (z : Bool) (e : List D) (x : Int × Nat) (hx : x.2 ≤ l.length) :
    evP F (Go.Ab.W F) (JW F d95 []) d95 [] [1,1,1,0,1] [(2, iS z l e), (3, bMd sz zn ns en), (7, .d (.int .u64 x.1)), (8, iI x.2)] = some (.norm [(2, iS z l e), (3, bMd sz zn ns en), (7, .d (.int .u64 (hashF x.1 (l.drop x.2)))), (8, iI l.length)]) :=
  blk_fun (F := F) (d := d95) (lk := []) (p := [1,1,1,0,1,0,0]) (p0 := [1,1,1,0,1]) (id := 0) (by kernel_rfl) (st := fun (x : Int × Nat) => [(2, iS z l e), (3, bMd sz zn ns en), (7, .d (.int .u64 x.1)), (8, iI x.2)]) (I := fun x => x.2 ≤ l.length) (μ := fun x => l.length - x.2)
    (res := fun x => .norm [(2, iS z l e), (3, bMd sz zn ns en), (7, .d (.int .u64 (hashF x.1 (l.drop x.2)))), (8, iI l.length)])
    (fun x hx => by
      obtain ⟨h, i⟩ := x
      dsimp only at hx
      have hlt := hl.lt
      by_cases hi : i < l.length
      · have hi' : (i : Int) < l.length := by omega
        refine .go (hashS h (gi l i), i + 1) (wpQ_way (q95_l0a _ _ z (ints l) e sz zn (ints ns) en h i _) ?_) hi (by dsimp only; omega) ?_
        · refine condW_t (by rw [ints_len]; exact decide_eq_true hi') (condW_t (by simp) ⟨_, Go.Ab.ints_at hi, ?_⟩)
          rw [wr1 hi (by omega)]; rfl
        · dsimp only
          rw [gi_drop hi]; rfl
      · have e0 : i = l.length := by omega
        subst e0
        refine .stop (.exit 0 [(2, iS z l e), (3, bMd sz zn ns en), (7, .d (.int .u64 h)), (8, iI l.length)]) (wpQ_way (q95_l0a _ _ z (ints l) e sz zn (ints ns) en h l.length _) (condW_f (by rw [ints_len]; simp) rfl)) rfl ?_
        rw [List.drop_length]; rfl) x hx
theorem w_look (sz : Int) (zn : Bool) {ns : List Int} (hns : Len ns) (en : List D) (c : Int) {l : List Int} (hl : Len l) (z : Bool) (e : List D) : C 95 [iM sz zn ns en, iI c, iS z l e] = some (iI (lookV ns c l), [iM sz zn ns en, iI c, iS z l e]) := by
  refine wfn (lk := []) rfl rfl (fnW_way (q95 _ _ sz zn (ints ns) en c z (ints l) e _) ?_)
  unfold lookV
  by_cases hn : ns = []
  · subst hn
    exact condW_t rfl (by rw [if_pos rfl])
  · rw [if_neg hn]
    have hpos := List.length_pos_iff.2 hn
    refine condW_f (by rw [ints_len]; simp; omega) ?_
    have h1 := l_look sz zn ns en hl z e (hash0 c, 0) (Nat.zero_le _)
    dsimp only at h1
    rw [List.drop_zero] at h1
    obtain ⟨i0, i1⟩ := lookI_in hn hns.lt c l
    refine ⟨_, _, _, _, _, _, _, _, _, h1, ?_⟩
    rw [ints_len]
    have hu : (!IntKind.wrap .u64 (ns.length : Int) == 0) = true := by rw [u64_len hns.lt]; simp; omega
    refine condW_t hu ?_
    have e1 : IntKind.wrap .i64 (Int.tmod (hashF (hash0 c) l) (IntKind.wrap .u64 (ns.length : Int))) = lookI ns c l := rfl
    rw [e1]
    exact condW_t (decide_eq_true i0) ⟨_, Go.Ab.ints_at (by omega), rfl⟩
/-! ### Values -/
def tvM (sz : Int) (ns : List Int) (c : Int) (l : List Int) : Int := Int.tmod (lookV ns c l) sz
def envF (env : List Int) (c : Int) : Int := gi env (-1 - c).toNat
theorem tv_in {sz : Int} (hs : 1 ≤ sz) (ns : List Int) (c : Int) (l : List Int) : 0 ≤ tvM sz ns c l ∧ tvM sz ns c l < sz :=
  ⟨Int.tmod_nonneg _ (lookV_ge ns c l), Int.tmod_lt_of_pos _ (by omega)⟩
section
variable {g : List Sym} (hg : SigOk g) {sz : Int} (hs : 1 ≤ sz) (z zn ze : Bool) {ns : List Int} (hns : Len ns) (e en ee : List D) {env : List Int} (he : env.length = 24)
include hg hs hns he
theorem w_value (zr : Bool) (er : List D) {r : List Int} (hr : r.length ≤ 1000) : ∀ (k : Nat) {i : Nat}, lenN g (r.drop i) 1 = some k → C 100 [iM sz zn ns en, iG z g e, iS zr r er, iI i, iS ze env ee] = some (.tup [iI (gi (evT g (tvM sz ns) (envF env) (r.drop i) 1) 0), iI ((i + k : Nat) : Int)], [iM sz zn ns en, iG z g e, iS zr r er, iI i, iS ze env ee]) := by
  intro k
  induction k using Nat.strongRecOn with
  | _ k ih =>
    intro i hk
    have hle := lenN_le hk
    simp only [List.length_drop] at hle
    have hi : i < r.length := by omega
    refine wfn (lk := []) rfl rfl (fnW_way (q100 _ _ sz zn (ints ns) en z (syms g) e zr (ints r) er i ze (ints env) ee _) ?_)
    refine condW_t (by simp) ⟨gi r i, Go.Ab.ints_at hi, ?_⟩
    have hd := gi_drop hi
    have hw1 := wr1 hi (show r.length ≤ 9223372036854775807 by omega)
    rw [hd] at hk ⊢
    obtain ⟨a, m, ha, hm, hkm⟩ := lenN_some (n := 0) hk
    rw [Nat.zero_add] at hm
    by_cases h0 : gi r i < 0
    · have h24 : -24 ≤ gi r i := by
        rw [arOf, if_pos h0] at ha
        split at ha
        · assumption
        · cases ha
      have ha0 : a = 0 := by
        rw [arOf_var h0 h24] at ha
        cases ha; rfl
      subst ha0
      have hm0 : m = 0 := by
        have : lenN g (r.drop (i + 1)) 0 = some 0 := by cases r.drop (i + 1) <;> rfl
        rw [this] at hm; cases hm; rfl
      subst hm0
      have hwn : IntKind.wrap .i64 (-1 - gi r i) = -1 - gi r i := wr _ (by omega) (by omega)
      refine condW_t (decide_eq_true h0) ?_
      rw [hwn]
      have hidx : (-1 - gi r i).toNat < env.length := by omega
      refine condW_t (decide_eq_true (by omega)) ⟨_, Go.Ab.ints_at hidx, ?_⟩
      have e1 : gi (evT g (tvM sz ns) (envF env) (gi r i :: r.drop (i + 1)) 1) 0 = gi env (-1 - gi r i).toNat := by
        rw [evT, if_pos h0]; rfl
      rw [e1, hw1, hkm]
    · refine condW_f (decide_eq_false h0) ?_
      have hs' : ∃ s, g[(gi r i).toNat]? = some s ∧ a = s.ar.toNat := by
        rw [arOf, if_neg h0] at ha
        split at ha
        · cases ha
        · rename_i s hs'
          split at ha
          · cases ha
          · cases ha; exact ⟨s, hs', rfl⟩
      obtain ⟨s, hsy, has⟩ := hs'
      have hnum := hg.nums _ _ hsy
      have hfl := evT_len (tv := tvM sz ns) (env := envF env) hm
      obtain ⟨full, hfull⟩ : ∃ full, full = evT g (tvM sz ns) (envF env) (r.drop (i + 1)) a := ⟨_, rfl⟩
      rw [← hfull] at hfl
      have hml := lenN_le hm
      simp only [List.length_drop] at hml
      have hloop := blk_fun (F := F) (d := d100) (lk := []) (p := [1,1,1,1,1,0,1,0,0]) (p0 := [1,1,1,1,1,0,1]) (id := 0) (by kernel_rfl) (st := fun (x : List Int × Nat × Nat) => [(1, iG z g e), (2, iS zr r er), (3, iI x.2.1), (4, iS ze env ee), (5, bMd sz zn ns en), (12, iI (gi r i)), (13, .own x.1.isEmpty 3 1 (ints x.1)), (14, iI x.2.2)])
        (I := fun x => x.2.2 ≤ a ∧ x.1.length = x.2.2 ∧ i + 1 ≤ x.2.1 ∧ x.2.1 ≤ i + 1 + m ∧ lenN g (r.drop x.2.1) (a - x.2.2) = some (i + 1 + m - x.2.1) ∧ x.1 ++ evT g (tvM sz ns) (envF env) (r.drop x.2.1) (a - x.2.2) = full) (μ := fun x => a - x.2.2)
        (res := fun _ => .norm [(1, iG z g e), (2, iS zr r er), (3, iI ((i + 1 + m : Nat) : Int)), (4, iS ze env ee), (5, bMd sz zn ns en), (12, iI (gi r i)), (13, .own full.isEmpty 3 1 (ints full)), (14, iI a)])
        (fun x hx => by
          obtain ⟨vs, q, j⟩ := x
          obtain ⟨x1, x2, x3, x4, x5, x6⟩ := hx
          dsimp only at x1 x2 x3 x4 x5 x6
          by_cases hj : j < a
          · obtain ⟨n', hn'⟩ : ∃ n', a - j = n' + 1 := ⟨a - j - 1, by omega⟩
            rw [hn'] at x5 x6
            obtain ⟨k1, k2, y1, y2, y3⟩ := lenN_first x5
            have hk1 := lenN_le y1
            have hrec := ih k1 (by omega) y1
            rw [Nat.add_comm n' 1, evT_app n' y1] at x6
            have hl1 := evT_len (tv := tvM sz ns) (env := envF env) y1
            have hv : evT g (tvM sz ns) (envF env) (r.drop q) 1 = [gi (evT g (tvM sz ns) (envF env) (r.drop q) 1) 0] := by
              match hvv : evT g (tvM sz ns) (envF env) (r.drop q) 1, hl1 with
              | [v], _ => rfl
            have hjs : (j : Int) < s.ar := by omega
            refine .go (vs ++ [gi (evT g (tvM sz ns) (envF env) (r.drop q) 1) 0], q + k1, j + 1) (wpQ_way (q100_l0a _ _ z (syms g) e zr (ints r) er q ze (ints env) ee sz zn (ints ns) en (gi r i) vs.isEmpty (ints vs) j _) ?_) ⟨hj, by simp; omega, by dsimp only; omega, by dsimp only; omega, ?_, ?_⟩ (by dsimp only; omega) rfl
            · refine condW_t (decide_eq_true (by omega)) ⟨_, _, _, _, syms_at hsy, condW_t (decide_eq_true hjs) ⟨_, _, _, _, _, _, _, hrec, condW_t (by rw [ints_len]; simp; omega) (condW_t (by rw [ints_len]; simp; omega) ?_)⟩⟩
              rw [wr1 (show j < 1000 by omega) (by omega)]
              have hem : (vs ++ [gi (evT g (tvM sz ns) (envF env) (r.drop q) 1) 0]).isEmpty = false := by simp
              dsimp only
              rw [hem, ints_append]
              simp [ints_cons, ints_nil]
            · dsimp only
              rw [← List.drop_drop, show a - (j + 1) = n' by omega, y2]; congr 1; omega
            · dsimp only
              rw [← List.drop_drop, show a - (j + 1) = n' by omega, List.append_assoc, ← hv]; exact x6
          · have e0 : j = a := by omega
            subst e0
            have hjs : ¬ ((vs.length : Nat) : Int) < s.ar := by omega
            rw [Nat.sub_self] at x5 x6
            have y0 : lenN g (r.drop q) 0 = some 0 := by cases r.drop q <;> rfl
            have y1 : evT g (tvM sz ns) (envF env) (r.drop q) 0 = [] := by cases r.drop q <;> rfl
            rw [y0] at x5
            simp only [Option.some.injEq] at x5
            rw [y1, List.append_nil] at x6
            subst x6
            have hq : q = i + 1 + m := by omega
            subst hq
            refine .stop (.exit 0 [(1, iG z g e), (2, iS zr r er), (3, iI ((i + 1 + m : Nat) : Int)), (4, iS ze env ee), (5, bMd sz zn ns en), (12, iI (gi r i)), (13, .own vs.isEmpty 3 1 (ints vs)), (14, iI j)]) (wpQ_way (q100_l0a _ _ z (syms g) e zr (ints r) er (i + 1 + m : Nat) ze (ints env) ee sz zn (ints ns) en (gi r i) vs.isEmpty (ints vs) j _) ?_) rfl rfl
            refine condW_t (decide_eq_true (by omega)) ⟨_, _, _, _, syms_at hsy, condW_f (decide_eq_false (by omega)) rfl⟩) ([], i + 1, 0) ⟨Nat.zero_le _, rfl, Nat.le_refl _, by dsimp only; omega, by dsimp only; rw [Nat.sub_zero, hm]; congr 1; omega, by dsimp only; rw [Nat.sub_zero, ← hfull]; rfl⟩
      rw [hw1]
      have hlf : Len full := by unfold Len; omega
      have hlk := w_look sz zn hns en (gi r i) hlf full.isEmpty []
      refine ⟨_, _, _, _, _, _, _, _, _, _, _, _, _, _, _, _, _, _, hloop, _, _, _, _, hlk, condW_t (by simp; omega) ?_⟩
      have e1 : gi (evT g (tvM sz ns) (envF env) (gi r i :: r.drop (i + 1)) 1) 0 = Int.tmod (lookV ns (gi r i) full) sz := by
        rw [evT, if_neg h0, ha]
        simp only [Option.getD_some, Nat.zero_add]
        rw [← hfull, List.take_of_length_le (by omega)]
        rfl
      have e2 : i + 1 + m = i + k := by omega
      rw [e1, e2]
theorem w_values (zr : Bool) (er : List D) {r : List Int} (hr : r.length ≤ 1000) {n : Nat} (hn : lenN g r n = some r.length) : C 96 [iM sz zn ns en, iG z g e, iS zr r er, iS ze env ee] = some (.own (evT g (tvM sz ns) (envF env) r n).isEmpty 3 1 (ints (evT g (tvM sz ns) (envF env) r n)), [iM sz zn ns en, iG z g e, iS zr r er, iS ze env ee]) := by
  refine wfn (lk := []) rfl rfl (fnW_way (q96 _ _ sz zn (ints ns) en z (syms g) e zr (ints r) er ze (ints env) ee _) ?_)
  obtain ⟨full, hfull⟩ : ∃ full, full = evT g (tvM sz ns) (envF env) r n := ⟨_, rfl⟩
  have hfl := evT_len (tv := tvM sz ns) (env := envF env) hn
  rw [← hfull] at hfl ⊢
  have hnl := (lenN_le hn).2
  have hloop := blk_fun (F := F) (d := d96) (lk := []) (p := [1,1,1,0,0,0]) (p0 := [1,1,1,0]) (id := 0) (by kernel_rfl) (st := fun (x : List Int × Nat × Nat) => [(1, iG z g e), (2, iS zr r er), (3, iS ze env ee), (4, bMd sz zn ns en), (9, .own x.1.isEmpty 3 1 (ints x.1)), (10, iI x.2.1)])
    (I := fun x => x.2.1 ≤ r.length ∧ x.1.length + x.2.2 = n ∧ lenN g (r.drop x.2.1) x.2.2 = some (r.length - x.2.1) ∧ x.1 ++ evT g (tvM sz ns) (envF env) (r.drop x.2.1) x.2.2 = full) (μ := fun x => r.length - x.2.1)
    (res := fun _ => .norm [(1, iG z g e), (2, iS zr r er), (3, iS ze env ee), (4, bMd sz zn ns en), (9, .own full.isEmpty 3 1 (ints full)), (10, iI r.length)])
    (fun x hx => by
      obtain ⟨vs, q, n'⟩ := x
      obtain ⟨x1, x2, x3, x4⟩ := hx
      dsimp only at x1 x2 x3 x4
      by_cases hq : q < r.length
      · obtain ⟨n1, rfl⟩ : ∃ n1, n' = n1 + 1 := by
          cases n' with
          | zero =>
            have y0 : lenN g (r.drop q) 0 = some 0 := by cases r.drop q <;> rfl
            rw [y0] at x3
            simp only [Option.some.injEq] at x3
            omega
          | succ n1 => exact ⟨n1, rfl⟩
        obtain ⟨k1, k2, y1, y2, y3⟩ := lenN_first x3
        have hk1 := lenN_le y1
        simp only [List.length_drop] at hk1
        have hrec := w_value hg hs z zn ze hns e en ee he zr er hr k1 y1
        rw [Nat.add_comm n1 1, evT_app n1 y1] at x4
        have hl1 := evT_len (tv := tvM sz ns) (env := envF env) y1
        have hv : evT g (tvM sz ns) (envF env) (r.drop q) 1 = [gi (evT g (tvM sz ns) (envF env) (r.drop q) 1) 0] := by
          match hvv : evT g (tvM sz ns) (envF env) (r.drop q) 1, hl1 with
          | [v], _ => rfl
        refine .go (vs ++ [gi (evT g (tvM sz ns) (envF env) (r.drop q) 1) 0], q + k1, n1) (wpQ_way (q96_l0a _ _ z (syms g) e zr (ints r) er ze (ints env) ee sz zn (ints ns) en vs.isEmpty (ints vs) q _) ?_) ⟨by dsimp only; omega, by simp; omega, ?_, ?_⟩ (by dsimp only; omega) rfl
        · refine condW_t (by rw [ints_len]; exact decide_eq_true (by omega)) ⟨_, _, _, _, _, _, _, hrec, condW_t (by rw [ints_len]; simp; omega) (condW_t (by rw [ints_len]; simp; omega) ?_)⟩
          have hem : (vs ++ [gi (evT g (tvM sz ns) (envF env) (r.drop q) 1) 0]).isEmpty = false := by simp
          dsimp only
          rw [hem, ints_append]
          simp [ints_cons, ints_nil]
        · dsimp only
          rw [← List.drop_drop, y2]; congr 1; omega
        · dsimp only
          rw [← List.drop_drop, List.append_assoc, ← hv]; exact x4
      · have e0 : q = r.length := by omega
        subst e0
        refine .stop (.exit 0 [(1, iG z g e), (2, iS zr r er), (3, iS ze env ee), (4, bMd sz zn ns en), (9, .own vs.isEmpty 3 1 (ints vs)), (10, iI r.length)]) (wpQ_way (q96_l0a _ _ z (syms g) e zr (ints r) er ze (ints env) ee sz zn (ints ns) en vs.isEmpty (ints vs) r.length _) (condW_f (by rw [ints_len]; simp) rfl)) rfl ?_
        have hn0 : n' = 0 := by
          have := (lenN_le x3).2; omega
        subst hn0
        rw [List.drop_length] at x4
        have y1 : evT g (tvM sz ns) (envF env) [] 0 = [] := rfl
        rw [y1, List.append_nil] at x4
        rw [x4]; rfl) ([], 0, n) ⟨Nat.zero_le _, by simp, by dsimp only; simpa using hn, by dsimp only; rw [List.drop_zero, ← hfull]; rfl⟩
  exact ⟨_, _, _, _, _, _, _, _, _, _, _, _, _, _, _, _, hloop, rfl⟩
def pvM (ns : List Int) (c : Int) (l : List Int) : Bool := decide (andI (lookV ns c l) 1 = 1)
def qvM (ns : List Int) (l : List Int) : Bool := decide (andI (lookV ns 101 l) 2 = 2)
theorem w_matom (za : Bool) (ea : List D) {a : List Int} (ha : atomB g a = true) : C 94 [iM sz zn ns en, iG z g e, iS za a ea, iS ze env ee] = some (iB (atomH g (tvM sz ns) (pvM ns) (envF env) a), [iM sz zn ns en, iG z g e, iS za a ea, iS ze env ee]) := by
  obtain ⟨hl, _, _⟩ := atom_codes ha
  obtain ⟨p, r, rfl⟩ : ∃ p r, a = p :: r := by cases a with | nil => simp [atomB] at ha | cons p r => exact ⟨p, r, rfl⟩
  obtain ⟨hp, hrb⟩ := atom_row ha
  obtain ⟨hsg, hr48, ts, hts, hrp⟩ := rowB_parts hrb
  have hn := parts_all _ (Nat.le_refl _) hts
  have htn : termsN g r = ts.length := termsN_of hsg hr48 hts
  have hv := w_values hg hs z zn ze hns e en ee he za [] (r := r) (by omega) hn
  have hvl := evT_len (tv := tvM sz ns) (env := envF env) hn
  refine wfn (lk := []) rfl rfl (fnW_way (q94 _ _ sz zn (ints ns) en z (syms g) e za (ints (p :: r)) ea ze (ints env) ee _) ?_)
  have hd : List.drop (Int.toNat 1) (ints (p :: r)) = ints r := rfl
  rw [hd]
  have hH : atomH g (tvM sz ns) (pvM ns) (envF env) (p :: r) = if p = 0 then decide (gi (evT g (tvM sz ns) (envF env) r ts.length) 0 = gi (evT g (tvM sz ns) (envF env) r ts.length) 1) else pvM ns p (evT g (tvM sz ns) (envF env) r ts.length) := by
    unfold atomH valsF
    rw [List.tail_cons, htn]; rfl
  rw [hH]
  refine condW_t (by simp [ints_len]; omega) ⟨_, _, _, _, _, _, hv, p, rfl, ?_⟩
  by_cases h0 : p = 0
  · subst h0
    have h2 : ts.length = 2 := by
      have hg0 : ∃ s, g[0]? = some s ∧ s.ar = 2 := by
        unfold sigB at hsg
        simp only [Bool.and_eq_true] at hsg
        have h3 := hsg.1.2
        split at h3
        · rename_i s hs0
          simp only [eqSym, Bool.and_eq_true, beq_iff_eq] at h3
          exact ⟨s, hs0, h3.2.2.1⟩
        · cases h3
      obtain ⟨s, hs0, har⟩ := hg0
      unfold atomB at ha
      dsimp only at ha
      rw [if_neg (by omega), show Int.toNat 0 = 0 from rfl, hs0] at ha
      dsimp only at ha
      rw [hrp] at ha
      simp only [Bool.and_eq_true, beq_iff_eq] at ha
      have := ha.2
      omega
    rw [h2] at hvl hv ⊢
    rw [if_pos rfl]
    have i0 := Go.Ab.ints_at (l := evT g (tvM sz ns) (envF env) r 2) (i := 0) (by omega)
    have i1 := Go.Ab.ints_at (l := evT g (tvM sz ns) (envF env) r 2) (i := 1) (by omega)
    refine condW_t rfl ⟨_, i0, _, i0, _, i1, _, i1, ?_⟩
    by_cases he2 : gi (evT g (tvM sz ns) (envF env) r 2) 0 = gi (evT g (tvM sz ns) (envF env) r 2) 1
    · rw [decide_eq_true he2]; exact condW_t (by simpa using he2) rfl
    · rw [decide_eq_false he2]; exact condW_f (by simpa using he2) rfl
  · rw [if_neg h0]
    have hlk := w_look sz zn hns en p (l := evT g (tvM sz ns) (envF env) r ts.length) (by have := (lenN_le hn).2; unfold Len; omega) (evT g (tvM sz ns) (envF env) r ts.length).isEmpty []
    refine condW_f (by simpa using h0) ⟨p, rfl, _, _, _, _, hlk, ?_⟩
    unfold pvM
    by_cases h1 : andI (lookV ns p (evT g (tvM sz ns) (envF env) r ts.length)) 1 = 1
    · rw [decide_eq_true h1]; exact condW_t (by simpa [andI] using h1) rfl
    · rw [decide_eq_false h1]; exact condW_f (by simpa [andI] using h1) rfl
theorem w_mlit {l : LitR} (hl : atomB g l.r.l = true) : C 78 [iM sz zn ns en, iG z g e, iLit l.neg l.r.z l.r.l l.r.e, iS ze env ee] = some (iB (litH g (tvM sz ns) (pvM ns) (envF env) l.c), [iM sz zn ns en, iG z g e, iLit l.neg l.r.z l.r.l l.r.e, iS ze env ee]) := by
  refine wfn (lk := []) rfl rfl (fnW_way (q78 _ _ sz zn (ints ns) en z (syms g) e l.neg l.r.z (ints l.r.l) l.r.e ze (ints env) ee _) ?_)
  have h1 := w_matom hg hs z zn ze hns e en ee he l.r.z l.r.e hl
  refine ⟨_, _, _, _, _, h1, ?_⟩
  have hc : litH g (tvM sz ns) (pvM ns) (envF env) l.c = (atomH g (tvM sz ns) (pvM ns) (envF env) l.r.l != l.neg) := rfl
  rw [hc]
  cases atomH g (tvM sz ns) (pvM ns) (envF env) l.r.l <;> cases l.neg <;> rfl
theorem w_mtuple {r : Row} (hr : rowB g r.l = true) : C 79 [iM sz zn ns en, iG z g e, iS r.z r.l r.e, iS ze env ee] = some (iB (tupH g (tvM sz ns) (qvM ns) (envF env) r.l), [iM sz zn ns en, iG z g e, iS r.z r.l r.e, iS ze env ee]) := by
  obtain ⟨hsg, hr48, ts, hts, hrp⟩ := rowB_parts hr
  have hn := parts_all _ (Nat.le_refl _) hts
  have htn : termsN g r.l = ts.length := termsN_of hsg hr48 hts
  have hv := w_values hg hs z zn ze hns e en ee he r.z r.e (r := r.l) (by omega) hn
  have hvl := evT_len (tv := tvM sz ns) (env := envF env) hn
  refine wfn (lk := []) rfl rfl (fnW_way (q79 _ _ sz zn (ints ns) en z (syms g) e r.z (ints r.l) r.e ze (ints env) ee _) ?_)
  have hlk := w_look sz zn hns en 101 (l := evT g (tvM sz ns) (envF env) r.l ts.length) (by have := (lenN_le hn).2; unfold Len; omega) (evT g (tvM sz ns) (envF env) r.l ts.length).isEmpty []
  refine ⟨_, _, _, _, _, _, hv, _, _, _, _, hlk, ?_⟩
  unfold tupH qvM valsF
  rw [htn]
  by_cases h1 : andI (lookV ns 101 (evT g (tvM sz ns) (envF env) r.l ts.length)) 2 = 2
  · rw [decide_eq_true h1]; exact condW_t (by simpa [andI] using h1) rfl
  · rw [decide_eq_false h1]; exact condW_f (by simpa [andI] using h1) rfl
end
end Go.Proofs.YtmldmhbdeejcnaaDoor.Ab

/- Structures of a few things: all that may stand for variables, one by one; what says as much holds as far. Plain lists; no condition. -/
set_option linter.unusedVariables false
set_option linter.unusedSimpArgs false
namespace Go.Qu
open Go Go.Ab
/-! ### Counting -/
def incD (sz : Int) : List Int → Option (List Int)
  | [] => none
  | d :: ds => if d + 1 < sz then some ((d + 1) :: ds) else (incD sz ds).map (0 :: ·)
def valD (sz : Int) : List Int → Int
  | [] => 0
  | d :: ds => d + sz * valD sz ds
def okD (sz : Int) (ds : List Int) : Prop := ∀ d ∈ ds, 0 ≤ d ∧ d < sz
theorem okD_cons {sz d : Int} {ds : List Int} : okD sz (d :: ds) ↔ (0 ≤ d ∧ d < sz) ∧ okD sz ds := by
  unfold okD
  exact ⟨fun h => ⟨h d (by simp), fun x hx => h x (by simp [hx])⟩, fun h x hx => by
    rcases List.mem_cons.1 hx with rfl | hx
    · exact h.1
    · exact h.2 x hx⟩
theorem val_ge {sz : Int} (hs : 1 ≤ sz) : ∀ {ds : List Int}, okD sz ds → 0 ≤ valD sz ds
  | [], _ => by simp [valD]
  | d :: ds, h => by
    have h1 := okD_cons.1 h
    have ih := val_ge hs h1.2
    have : 0 ≤ sz * valD sz ds := Int.mul_nonneg (by omega) ih
    rw [valD]; omega
theorem mul_step {sz a b : Int} (hs : 1 ≤ sz) (h : a < b) : sz * a + sz ≤ sz * b := by
  have : sz * (a + 1) ≤ sz * b := Int.mul_le_mul_of_nonneg_left (by omega) (by omega)
  rw [Int.mul_add, Int.mul_one] at this
  exact this
theorem val_inj {sz : Int} (hs : 1 ≤ sz) : ∀ {ds es : List Int}, ds.length = es.length → okD sz ds → okD sz es → valD sz ds = valD sz es → ds = es
  | [], [], _, _, _, _ => rfl
  | [], e :: es, h, _, _, _ => by simp at h
  | d :: ds, [], h, _, _, _ => by simp at h
  | d :: ds, e :: es, h, h1, h2, hv => by
    have k1 := okD_cons.1 h1
    have k2 := okD_cons.1 h2
    rw [valD, valD] at hv
    have hlt : ¬ valD sz ds < valD sz es := fun hl => by have := mul_step hs hl; omega
    have hgt : ¬ valD sz es < valD sz ds := fun hl => by have := mul_step hs hl; omega
    have he : valD sz ds = valD sz es := by omega
    rw [he] at hv
    have hd : d = e := by omega
    rw [hd, val_inj hs (by simpa using h) k1.2 k2.2 he]
theorem inc_some {sz : Int} (hs : 1 ≤ sz) : ∀ {ds es : List Int}, okD sz ds → incD sz ds = some es → okD sz es ∧ es.length = ds.length ∧ valD sz es = valD sz ds + 1
  | [], es, h, he => by simp [incD] at he
  | d :: ds, es, h, he => by
    have k := okD_cons.1 h
    rw [incD] at he
    split at he
    · simp only [Option.some.injEq] at he
      subst he
      exact ⟨okD_cons.2 ⟨⟨by omega, by assumption⟩, k.2⟩, by simp, by rw [valD, valD]; omega⟩
    · obtain ⟨es', h1, rfl⟩ := Option.map_eq_some_iff.1 he
      obtain ⟨h2, h3, h4⟩ := inc_some hs k.2 h1
      refine ⟨okD_cons.2 ⟨⟨by omega, by omega⟩, h2⟩, by simp [h3], ?_⟩
      rw [valD, valD, h4, Int.mul_add, Int.mul_one]
      have : d = sz - 1 := by omega
      omega
theorem inc_none {sz : Int} (hs : 1 ≤ sz) : ∀ {ds es : List Int}, okD sz ds → incD sz ds = none → es.length = ds.length → okD sz es → valD sz es ≤ valD sz ds
  | [], es, h, _, hl, _ => by
    have : es = [] := List.length_eq_zero_iff.1 hl
    subst this; exact Int.le_refl _
  | d :: ds, [], h, _, hl, _ => by simp at hl
  | d :: ds, e :: es, h, hn, hl, he => by
    have k := okD_cons.1 h
    have k2 := okD_cons.1 he
    rw [incD] at hn
    split at hn
    · cases hn
    · have hn' : incD sz ds = none := by
        cases hi : incD sz ds with
        | none => rfl
        | some x => rw [hi] at hn; cases hn
      have ih := inc_none hs k.2 hn' (by simpa using hl) k2.2
      have := Int.mul_le_mul_of_nonneg_left ih (show (0 : Int) ≤ sz by omega)
      rw [valD, valD]; omega
theorem val_zero (sz : Int) : ∀ (n : Nat), valD sz (List.replicate n 0) = 0
  | 0 => rfl
  | n + 1 => by rw [List.replicate_succ, valD, val_zero sz n]; simp
theorem ok_zero {sz : Int} (hs : 1 ≤ sz) (n : Nat) : okD sz (List.replicate n 0) := fun d hd => by
  rw [(List.mem_replicate.1 hd).2]; omega
theorem val_max {sz : Int} (hs : 1 ≤ sz) {ds : List Int} (h : okD sz ds) : valD sz ds ≤ valD sz (List.replicate ds.length (sz - 1)) := by
  induction ds with
  | nil => exact Int.le_refl _
  | cons d ds ih =>
    have k := okD_cons.1 h
    have := Int.mul_le_mul_of_nonneg_left (ih k.2) (show (0 : Int) ≤ sz by omega)
    rw [List.length_cons, List.replicate_succ, valD, valD]; omega
/-! ### What stands for variables, as a row of things -/
def envOf (vs ds : List Int) : List Int := (List.range 24).map fun (v : Nat) => if (v : Int) ∈ vs then gi ds (vs.idxOf (v : Int)) else 0
theorem envOf_len (vs ds : List Int) : (envOf vs ds).length = 24 := by simp [envOf]
theorem envOf_at (vs ds : List Int) {v : Nat} (hv : v < 24) : gi (envOf vs ds) v = if (v : Int) ∈ vs then gi ds (vs.idxOf (v : Int)) else 0 := by
  simp [gi, envOf, hv]
theorem envOf_V (vs ds : List Int) {c : Int} (h : c < 0) (h24 : -24 ≤ c) : gi (envOf vs ds) (-1 - c).toNat = envV vs ds c := by
  rw [envOf_at _ _ (by omega)]
  have e : (((-1 - c).toNat : Nat) : Int) = -1 - c := by omega
  rw [e]; rfl
theorem gi_set (l : List Int) (i j : Nat) (x : Int) (hi : i < l.length) : gi (l.set i x) j = if i = j then x else gi l j := by
  unfold gi
  rw [List.getD_eq_getElem?_getD, List.getD_eq_getElem?_getD, List.getElem?_set]
  split
  · rename_i h; subst h; simp [hi]
  · rfl
theorem env_set {vs ds : List Int} (hv : vs.Nodup) (hl : ds.length = vs.length) {i : Nat} (hi : i < vs.length) (h0 : 0 ≤ vs[i]) (h24 : vs[i] < 24) (x : Int) : (envOf vs ds).set vs[i].toNat x = envOf vs (ds.set i x) := by
  refine List.ext_getElem (by simp [envOf]) (fun n h1 h2 => ?_)
  have hn : n < 24 := by simpa [envOf] using h1
  rw [List.getElem_set]
  have hidx : vs.idxOf vs[i] = i := hv.idxOf_getElem i hi
  by_cases e : vs[i].toNat = n
  · rw [if_pos e]
    have en : (n : Int) = vs[i] := by omega
    simp only [envOf, List.getElem_map, List.getElem_range]
    rw [en, if_pos (List.getElem_mem hi), hidx, gi_set _ _ _ _ (by omega), if_pos rfl]
  · rw [if_neg e]
    simp only [envOf, List.getElem_map, List.getElem_range]
    by_cases hm : (n : Int) ∈ vs
    · rw [if_pos hm, if_pos hm, gi_set _ _ _ _ (by omega), if_neg (fun e2 => e (by
        have h3 := List.getElem_idxOf (x := (n : Int)) (xs := vs) (List.idxOf_lt_length_of_mem hm)
        have h4 : vs[i] = (n : Int) := by
          rw [← h3]; congr 1
        omega))]
    · rw [if_neg hm, if_neg hm]
theorem env_get {vs ds : List Int} (hv : vs.Nodup) {i : Nat} (hi : i < vs.length) (h0 : 0 ≤ vs[i]) (h24 : vs[i] < 24) : gi (envOf vs ds) vs[i].toNat = gi ds i := by
  rw [envOf_at _ _ (by omega)]
  have e : ((vs[i].toNat : Nat) : Int) = vs[i] := by omega
  rw [e, if_pos (List.getElem_mem hi), hv.idxOf_getElem i hi]
/-- The next things. -/
def nextF (sz : Int) : List Int → List Int → List Int × Bool
  | [], env => (env, false)
  | v :: vs, env => if gi env v.toNat + 1 < sz then (env.set v.toNat (gi env v.toNat + 1), true) else nextF sz vs ((env.set v.toNat (gi env v.toNat + 1)).set v.toNat 0)
theorem next_env {sz : Int} {vs : List Int} (hv : vs.Nodup) (hr : ∀ v ∈ vs, 0 ≤ v ∧ v < 24) : ∀ (suf dsuf : List Int) (i : Nat), vs.drop i = suf → i + suf.length = vs.length → dsuf.length = suf.length →
    nextF sz suf (envOf vs (List.replicate i 0 ++ dsuf)) = (match incD sz dsuf with | some d => (envOf vs (List.replicate i 0 ++ d), true) | none => (envOf vs (List.replicate vs.length 0), false))
  | [], dsuf, i, h1, h2, h3 => by
    have : dsuf = [] := List.length_eq_zero_iff.1 h3
    subst this
    simp only [List.length_nil, Nat.add_zero] at h2
    rw [nextF, incD, List.append_nil, h2]
  | v :: suf, [], i, h1, h2, h3 => by simp at h3
  | v :: suf, d :: dsuf, i, h1, h2, h3 => by
    simp only [List.length_cons] at h2 h3
    have hi : i < vs.length := by omega
    have hvi : vs[i] = v := by
      have := List.drop_eq_getElem_cons hi
      rw [h1] at this
      exact (List.cons.inj this).1.symm
    have hsuf : vs.drop (i + 1) = suf := by
      have := List.drop_eq_getElem_cons hi
      rw [h1] at this
      exact (List.cons.inj this).2.symm
    have hb := hr v (hvi ▸ List.getElem_mem hi)
    have hlen : (List.replicate i (0 : Int) ++ d :: dsuf).length = vs.length := by simp; omega
    have hg : gi (envOf vs (List.replicate i 0 ++ d :: dsuf)) v.toNat = d := by
      have := env_get (ds := List.replicate i 0 ++ d :: dsuf) hv hi (by rw [hvi]; exact hb.1) (by rw [hvi]; exact hb.2)
      rw [hvi] at this
      rw [this]
      simp [gi]
    have hset : ∀ x, (envOf vs (List.replicate i 0 ++ d :: dsuf)).set v.toNat x = envOf vs (List.replicate i 0 ++ x :: dsuf) := fun x => by
      have := env_set (ds := List.replicate i 0 ++ d :: dsuf) hv hlen hi (by rw [hvi]; exact hb.1) (by rw [hvi]; exact hb.2) x
      rw [hvi] at this
      rw [this]
      congr 1
      rw [List.set_append_right _ _ (by simp)]
      simp
    rw [nextF, hg, incD]
    split
    · rw [hset]
    · rw [List.set_set, hset]
      have ih := next_env hv hr suf dsuf (i + 1) hsuf (by omega) (by omega) (sz := sz)
      have e1 : List.replicate i (0 : Int) ++ 0 :: dsuf = List.replicate (i + 1) 0 ++ dsuf := by
        rw [List.replicate_succ', List.append_assoc]; rfl
      rw [e1, ih]
      cases incD sz dsuf with
      | none => rfl
      | some x =>
        dsimp only [Option.map]
        have e2 : List.replicate (i + 1) (0 : Int) ++ x = List.replicate i 0 ++ 0 :: x := by
          rw [List.replicate_succ', List.append_assoc]; rfl
        rw [e2]
theorem next_all {sz : Int} {vs ds : List Int} (hv : vs.Nodup) (hr : ∀ v ∈ vs, 0 ≤ v ∧ v < 24) (hl : ds.length = vs.length) : nextF sz vs (envOf vs ds) = (match incD sz ds with | some d => (envOf vs d, true) | none => (envOf vs (List.replicate vs.length 0), false)) := by
  have := next_env (sz := sz) hv hr vs ds 0 rfl (by simp) hl
  simpa using this
theorem envOf_zero (vs : List Int) (n : Nat) : envOf vs (List.replicate n 0) = List.replicate 24 0 := by
  refine List.ext_getElem (by simp [envOf]) (fun i h1 h2 => ?_)
  simp only [envOf, List.getElem_map, List.getElem_range, List.getElem_replicate]
  split
  · unfold gi
    rw [List.getD_eq_getElem?_getD, List.getElem?_replicate]
    split <;> rfl
  · rfl
/-! ### What says as much holds as far -/
theorem evT_sub {g : List Sym} {tv : Int → List Int → Int} {env : Int → Int} {σ : Sb} (hσ : σ.Ok g) : ∀ {r : List Int} {n : Nat}, lenN g r n = some r.length → evT g tv env (app σ r) n = evT g tv (fun c => gi (evT g tv env (σ (vN c)) 1) 0) r n
  | [], 0, h => rfl
  | c :: r, 0, h => by simp [lenN] at h
  | [], n + 1, h => by simp [lenN] at h
  | c :: r, n + 1, h => by
    obtain ⟨a, m, ha, hm, hk⟩ := lenN_some h
    simp only [List.length_cons, Nat.add_right_cancel_iff] at hk
    have hm' : lenN g r (n + a) = some r.length := by rw [hm, hk]
    have ih := evT_sub (tv := tv) (env := env) hσ hm'
    rw [app_cons]
    unfold appC
    by_cases h0 : 0 ≤ c
    · rw [if_pos h0, List.singleton_append, evT, evT, if_neg (by omega), if_neg (by omega), ha]
      simp only [Option.getD_some]
      rw [ih]
    · rw [if_neg h0]
      have ha0 : a = 0 := by
        rw [arOf, if_pos (by omega)] at ha
        split at ha
        · cases ha; rfl
        · cases ha
      subst ha0
      rw [Nat.add_zero] at ih
      have hv := hσ (vN c)
      have h1 := lenN_app (app σ r) hv
      have e1 := evT_app (tv := tv) (env := env) n h1
      rw [Nat.add_comm 1 n, List.drop_left] at e1
      have e2 := evT_take (tv := tv) (env := env) h1
      rw [List.take_left] at e2
      have hl := evT_len (tv := tv) (env := env) hv
      rw [e1, ← e2, ih, evT, if_pos (by omega)]
      match hvv : evT g tv env (σ (vN c)) 1, hl with
      | [x], _ => simp [gi]
theorem row_full {g : List Sym} {r : List Int} (h : rowB g r = true) : lenN g r (termsN g r) = some r.length := by
  obtain ⟨hs, h48, ts, hts, _⟩ := rowB_parts h
  rw [termsN_of hs h48 hts]
  exact parts_all _ (Nat.le_refl _) hts
theorem row_app_terms {g : List Sym} {σ : Sb} (hσ : σ.Ok g) {r : List Int} (h : rowB g r = true) (h' : rowB g (app σ r) = true) : termsN g (app σ r) = termsN g r := by
  have h1 := app_lenN hσ (row_full h)
  have h2 := row_full h'
  by_cases e : termsN g (app σ r) = termsN g r
  · exact e
  · exfalso
    rcases Nat.lt_or_gt_of_ne e with hl | hl
    · obtain ⟨d, hd⟩ : ∃ d, termsN g r = termsN g (app σ r) + (d + 1) := ⟨termsN g r - termsN g (app σ r) - 1, by omega⟩
      have := lenN_split (d + 1) h2
      rw [← hd, h1, List.drop_length] at this
      cases h3 : lenN g ([] : List Int) (d + 1) with
      | none => rw [h3] at this; cases this
      | some k => simp [lenN] at h3
    · obtain ⟨d, hd⟩ : ∃ d, termsN g (app σ r) = termsN g r + (d + 1) := ⟨termsN g (app σ r) - termsN g r - 1, by omega⟩
      have := lenN_split (d + 1) h1
      rw [← hd, h2, List.drop_length] at this
      cases h3 : lenN g ([] : List Int) (d + 1) with
      | none => rw [h3] at this; cases this
      | some k => simp [lenN] at h3
theorem vals_sub {g : List Sym} {tv : Int → List Int → Int} {env : Int → Int} {σ : Sb} (hσ : σ.Ok g) {r : List Int} (h : rowB g r = true) (h' : rowB g (app σ r) = true) : valsF g tv env (app σ r) = valsF g tv (fun c => gi (evT g tv env (σ (vN c)) 1) 0) r := by
  unfold valsF
  rw [row_app_terms hσ h h', evT_sub hσ (row_full h)]
theorem atom_sub {g : List Sym} {tv : Int → List Int → Int} {pv : Int → List Int → Bool} {env : Int → Int} {σ : Sb} (hσ : σ.Ok g) {a : List Int} (h : atomB g a = true) (h' : atomB g (app σ a) = true) : atomH g tv pv env (app σ a) = atomH g tv pv (fun c => gi (evT g tv env (σ (vN c)) 1) 0) a := by
  cases a with
  | nil => simp [atomB] at h
  | cons p r =>
    obtain ⟨hp, hr⟩ := atom_row h
    have e : app σ (p :: r) = p :: app σ r := by rw [app_cons]; unfold appC; rw [if_pos hp]; rfl
    rw [e] at h' ⊢
    obtain ⟨_, hr'⟩ := atom_row h'
    unfold atomH
    rw [List.tail_cons, List.tail_cons, vals_sub hσ hr hr']
    rfl
theorem evT_in {g : List Sym} {tv : Int → List Int → Int} {env : Int → Int} {sz : Int} (ht : ∀ c l, 0 ≤ tv c l ∧ tv c l < sz) (he : ∀ c, 0 ≤ env c ∧ env c < sz) {t : List Int} (h : lenN g t 1 = some t.length) : 0 ≤ gi (evT g tv env t 1) 0 ∧ gi (evT g tv env t 1) 0 < sz := by
  cases t with
  | nil => simp [lenN] at h
  | cons c r =>
    rw [evT]
    split
    · exact he c
    · exact ht _ _
end Go.Qu

/- Structures of a few things: clauses in them. For every input; no condition. -/
set_option linter.unusedVariables false
set_option linter.unusedSimpArgs false
set_option maxRecDepth 100000
namespace Go.Proofs.YtmldmhbdeejcnaaDoor.Ab
open Go Go.Ab Go.Qu Go.Proofs
attribute [local simp] and_assoc
abbrev hM (g : List Sym) (sz : Int) (ns : List Int) (c : CC) (env : Int → Int) : Bool := hereH g (tvM sz ns) (pvM ns) (qvM ns) c env
def atQ {α : Type} (p : α → Bool) (l : List α) (j : Nat) : Bool := match l[j]? with | some x => p x | none => false
theorem atQ_at {α : Type} {p : α → Bool} {l : List α} {j : Nat} {x : α} (h : l[j]? = some x) : atQ p l j = p x := by unfold atQ; rw [h]
theorem atQ_any {α : Type} {p : α → Bool} {l : List α} {j : Nat} (hj : j < l.length) (h : atQ p l j = true) : l.any p = true := by
  obtain ⟨x, hx⟩ := at_lt hj
  rw [atQ_at hx] at h
  exact List.any_eq_true.2 ⟨x, List.mem_of_getElem? hx, h⟩
theorem atQ_none {α : Type} {p : α → Bool} {l : List α} (h : ∀ j, 0 ≤ j → j < l.length → atQ p l j = false) : l.any p = false := by
  rw [List.any_eq_false]
  intro x hx
  obtain ⟨j, hj, rfl⟩ := List.getElem_of_mem hx
  have := h j (Nat.zero_le _) hj
  rw [atQ_at (List.getElem?_eq_getElem hj)] at this
  simpa using this
theorem cl_cs {g : List Sym} {c : Cl} (h : clB g c = true) {l : LitR} (hl : l ∈ c.cs) : atomB g l.r.l = true := by
  rw [clB_c] at h
  exact (clOk.1 h).ca l.c (by simp only [Cl.c]; exact List.mem_map_of_mem hl)
theorem cl_ls {g : List Sym} {c : Cl} (h : clB g c = true) {l : LitR} (hl : l ∈ c.ls) : atomB g l.r.l = true := by
  rw [clB_c] at h
  exact (clOk.1 h).la l.c (by simp only [Cl.c]; exact List.mem_map_of_mem hl)
theorem cl_ts {g : List Sym} {c : Cl} (h : clB g c = true) {r : Row} (hr : r ∈ c.ts) : rowB g r.l = true := by
  rw [clB_c] at h
  obtain ⟨k, hk⟩ := (clOk.1 h).tr
  exact (hk r.l (by simp only [Cl.c]; exact List.mem_map_of_mem hr)).1
section
variable {g : List Sym} (hg : SigOk g) {sz : Int} (hs : 1 ≤ sz) (z zn ze : Bool) {ns : List Int} (hns : Len ns) (e en ee : List D) {env : List Int} (he : env.length = 24)
include hg hs hns he
theorem w_here {c : Cl} (hc : clB g c = true) : C 54 [iM sz zn ns en, iG z g e, iC c, iS ze env ee] = some (iB (hM g sz ns c.c (envF env)), [iM sz zn ns en, iG z g e, iC c, iS ze env ee]) := by
  have hk := clOk.1 ((clB_c g c).symm.trans hc)
  have n1 : c.ls.length ≤ 5 := by have := hk.l5; simpa [Cl.c] using this
  have n2 : c.ts.length ≤ 3 := by have := hk.t3; simpa [Cl.c] using this
  have n3 : c.cs.length ≤ 3 := by have := hk.c3; simpa [Cl.c] using this
  have hcl := fun (l : LitR) (hl : atomB g l.r.l = true) => w_mlit hg hs z zn ze hns e en ee he (l := l) hl
  have hct := fun (r : Row) (hr : rowB g r.l = true) => w_mtuple hg hs z zn ze hns e en ee he (r := r) hr
  refine wfn (lk := []) rfl rfl (fnW_way (q54 _ _ sz zn (ints ns) en z (syms g) e c.lz (lits c.ls) c.le c.tz (rws c.ts) c.te c.cz (lits c.cs) c.ce ze (ints env) ee _) ?_)
  have L0 := blk_find (F := F) (d := d54) (lk := []) (p := [1,0,1,0,0]) (p0 := [1,0,1]) (by kernel_rfl) (n := c.cs.length) (id := 0) (st := fun i => [(1, iG z g e), (3, iS ze env ee), (4, bMd sz zn ns en), (6, bC c), (9, iI i)]) (q := atQ (fun l : LitR => !litH g (tvM sz ns) (pvM ns) (envF env) l.c) c.cs) (rt := fun _ => [(8, iB true)]) (e := [(1, iG z g e), (3, iS ze env ee), (4, bMd sz zn ns en), (6, bC c), (9, iI c.cs.length)])
    (fun i hi hq => by
      obtain ⟨l, hl⟩ := at_lt hi
      rw [atQ_at hl] at hq
      have h1 := hcl l (cl_cs hc (List.mem_of_getElem? hl))
      have hq' : litH g (tvM sz ns) (pvM ns) (envF env) l.c = true := by simpa using hq
      rw [hq'] at h1
      refine wpQ_way (q54_l0a _ _ z (syms g) e ze (ints env) ee sz zn (ints ns) en c.lz (lits c.ls) c.le c.tz (rws c.ts) c.te c.cz (lits c.cs) c.ce i _) ?_
      refine condW_t (by rw [lits_len]; exact decide_eq_true (by omega)) (condW_t (by simp) ⟨_, _, _, _, lits_at hl, _, _, _, _, _, h1, condW_t rfl ?_⟩)
      rw [wr1 hi (by omega)])
    (fun i hi hq => by
      obtain ⟨l, hl⟩ := at_lt hi
      rw [atQ_at hl] at hq
      have h1 := hcl l (cl_cs hc (List.mem_of_getElem? hl))
      have hq' : litH g (tvM sz ns) (pvM ns) (envF env) l.c = false := by simpa using hq
      rw [hq'] at h1
      refine wpQ_way (q54_l0a _ _ z (syms g) e ze (ints env) ee sz zn (ints ns) en c.lz (lits c.ls) c.le c.tz (rws c.ts) c.te c.cz (lits c.cs) c.ce i _) ?_
      exact condW_t (by rw [lits_len]; exact decide_eq_true (by omega)) (condW_t (by simp) ⟨_, _, _, _, lits_at hl, _, _, _, _, _, h1, condW_f rfl rfl⟩))
    (wpQ_way (q54_l0a _ _ z (syms g) e ze (ints env) ee sz zn (ints ns) en c.lz (lits c.ls) c.le c.tz (rws c.ts) c.te c.cz (lits c.cs) c.ce c.cs.length _) (condW_f (by rw [lits_len]; simp) rfl)) 0 (Nat.zero_le _)
  have L2 := blk_find (F := F) (d := d54) (lk := []) (p := [1,1,0,1,0,0]) (p0 := [1,1,0,1]) (by kernel_rfl) (n := c.ls.length) (id := 2) (st := fun i => [(1, iG z g e), (3, iS ze env ee), (4, bMd sz zn ns en), (6, bC c), (10, iI i)]) (q := atQ (fun l : LitR => litH g (tvM sz ns) (pvM ns) (envF env) l.c) c.ls) (rt := fun _ => [(8, iB true)]) (e := [(1, iG z g e), (3, iS ze env ee), (4, bMd sz zn ns en), (6, bC c), (10, iI c.ls.length)])
    (fun i hi hq => by
      obtain ⟨l, hl⟩ := at_lt hi
      rw [atQ_at hl] at hq
      have h1 := hcl l (cl_ls hc (List.mem_of_getElem? hl))
      have hq' : litH g (tvM sz ns) (pvM ns) (envF env) l.c = false := hq
      rw [hq'] at h1
      refine wpQ_way (q54_l2b _ _ z (syms g) e ze (ints env) ee sz zn (ints ns) en c.lz (lits c.ls) c.le c.tz (rws c.ts) c.te c.cz (lits c.cs) c.ce i _) ?_
      refine condW_t (by rw [lits_len]; exact decide_eq_true (by omega)) (condW_t (by simp) ⟨_, _, _, _, lits_at hl, _, _, _, _, _, h1, condW_f rfl ?_⟩)
      rw [wr1 hi (by omega)])
    (fun i hi hq => by
      obtain ⟨l, hl⟩ := at_lt hi
      rw [atQ_at hl] at hq
      have h1 := hcl l (cl_ls hc (List.mem_of_getElem? hl))
      have hq' : litH g (tvM sz ns) (pvM ns) (envF env) l.c = true := hq
      rw [hq'] at h1
      refine wpQ_way (q54_l2b _ _ z (syms g) e ze (ints env) ee sz zn (ints ns) en c.lz (lits c.ls) c.le c.tz (rws c.ts) c.te c.cz (lits c.cs) c.ce i _) ?_
      exact condW_t (by rw [lits_len]; exact decide_eq_true (by omega)) (condW_t (by simp) ⟨_, _, _, _, lits_at hl, _, _, _, _, _, h1, condW_t rfl rfl⟩))
    (wpQ_way (q54_l2b _ _ z (syms g) e ze (ints env) ee sz zn (ints ns) en c.lz (lits c.ls) c.le c.tz (rws c.ts) c.te c.cz (lits c.cs) c.ce c.ls.length _) (condW_f (by rw [lits_len]; simp) rfl)) 0 (Nat.zero_le _)
  have L4 := blk_find (F := F) (d := d54) (lk := []) (p := [1,1,1,0,1,0,0]) (p0 := [1,1,1,0,1]) (by kernel_rfl) (n := c.ts.length) (id := 4) (st := fun i => [(1, iG z g e), (3, iS ze env ee), (4, bMd sz zn ns en), (6, bC c), (11, iI i)]) (q := atQ (fun r : Row => tupH g (tvM sz ns) (qvM ns) (envF env) r.l) c.ts) (rt := fun _ => [(8, iB true)]) (e := [(1, iG z g e), (3, iS ze env ee), (4, bMd sz zn ns en), (6, bC c), (11, iI c.ts.length)])
    (fun i hi hq => by
      obtain ⟨r, hr⟩ := at_lt hi
      rw [atQ_at hr] at hq
      have h1 := hct r (cl_ts hc (List.mem_of_getElem? hr))
      have hq' : tupH g (tvM sz ns) (qvM ns) (envF env) r.l = false := hq
      rw [hq'] at h1
      refine wpQ_way (q54_l4b _ _ z (syms g) e ze (ints env) ee sz zn (ints ns) en c.lz (lits c.ls) c.le c.tz (rws c.ts) c.te c.cz (lits c.cs) c.ce i _) ?_
      refine condW_t (by rw [rws_len]; exact decide_eq_true (by omega)) (condW_t (by simp) ⟨_, _, _, rws_at hr, _, _, _, _, _, h1, condW_f rfl ?_⟩)
      rw [wr1 hi (by omega)])
    (fun i hi hq => by
      obtain ⟨r, hr⟩ := at_lt hi
      rw [atQ_at hr] at hq
      have h1 := hct r (cl_ts hc (List.mem_of_getElem? hr))
      have hq' : tupH g (tvM sz ns) (qvM ns) (envF env) r.l = true := hq
      rw [hq'] at h1
      refine wpQ_way (q54_l4b _ _ z (syms g) e ze (ints env) ee sz zn (ints ns) en c.lz (lits c.ls) c.le c.tz (rws c.ts) c.te c.cz (lits c.cs) c.ce i _) ?_
      exact condW_t (by rw [rws_len]; exact decide_eq_true (by omega)) (condW_t (by simp) ⟨_, _, _, rws_at hr, _, _, _, _, _, h1, condW_t rfl rfl⟩))
    (wpQ_way (q54_l4b _ _ z (syms g) e ze (ints env) ee sz zn (ints ns) en c.lz (lits c.ls) c.le c.tz (rws c.ts) c.te c.cz (lits c.cs) c.ce c.ts.length _) (condW_f (by rw [rws_len]; simp) rfl)) 0 (Nat.zero_le _)
  have hH : hM g sz ns c.c (envF env) = (c.cs.any (fun l => !litH g (tvM sz ns) (pvM ns) (envF env) l.c) || (c.ls.any (fun l => litH g (tvM sz ns) (pvM ns) (envF env) l.c) || c.ts.any (fun r => tupH g (tvM sz ns) (qvM ns) (envF env) r.l))) := by
    unfold hM hereH Cl.c
    simp only [List.any_map]; rfl
  rw [hH]
  rcases L0 with ⟨a1, a2⟩ | ⟨j, a1, a2, a3, _, a4⟩
  rotate_left
  · rw [atQ_any a2 a3]
    exact .inl ⟨_, a4, rfl⟩
  rw [atQ_none a1, Bool.false_or]
  refine .inr ⟨_, _, _, _, _, _, _, _, _, _, _, _, _, _, _, _, _, _, _, _, a2, ?_⟩
  rcases L2 with ⟨b1, b2⟩ | ⟨j, b1, b2, b3, _, b4⟩
  rotate_left
  · rw [atQ_any b2 b3]
    exact .inl ⟨_, b4, rfl⟩
  rw [atQ_none b1, Bool.false_or]
  refine .inr ⟨_, _, _, _, _, _, _, _, _, _, _, _, _, _, _, _, _, _, _, _, b2, ?_⟩
  rcases L4 with ⟨d1, d2⟩ | ⟨j, d1, d2, d3, _, d4⟩
  rotate_left
  · rw [atQ_any d2 d3]
    exact .inl ⟨_, d4, rfl⟩
  rw [atQ_none d1]
  exact .inr ⟨_, _, _, _, _, _, _, _, _, _, _, _, _, _, _, _, _, _, _, _, d2, rfl⟩
end
end Go.Proofs.YtmldmhbdeejcnaaDoor.Ab

/- Structures of a few things: whether a clause holds in them, whatever stands for its variables. For every input; no condition. -/
set_option linter.unusedVariables false
set_option linter.unusedSimpArgs false
set_option maxRecDepth 100000
namespace Go.Proofs.YtmldmhbdeejcnaaDoor.Ab
open Go Go.Ab Go.Qu Go.Proofs
attribute [local simp] and_assoc
/-- Things, as they stand for variables. -/
structure EnvOk (sz : Int) (env : List Int) : Prop where
  len : env.length = 24
  rng : ∀ j, j < 24 → 0 ≤ gi env j ∧ gi env j < sz
theorem ints_set (l : List Int) (i : Nat) (x : Int) : (ints l).set i (.int .i64 x) = ints (l.set i x) := by simp [ints, List.map_set]
theorem w_mnext {sz : Int} (hs : 1 ≤ sz ∧ sz ≤ 3) (zn : Bool) (ns : List Int) (en : List D) (zE zV : Bool) {vs : List Int} (hv : ∀ v ∈ vs, 0 ≤ v ∧ v < 24) (hvl : vs.length ≤ 1000) {env : List Int} (he : EnvOk sz env) : C 55 [iM sz zn ns en, .lrow zE 3 1 (ints env), .lrow zV 3 1 (ints vs)] = some (iB (nextF sz vs env).2, [iM sz zn ns en, .own zE 3 1 (ints (nextF sz vs env).1), .own zV 3 1 (ints vs)]) := by
  refine wfn (lk := [1, 2]) rfl rfl (fnW_way (q55 _ _ sz zn (ints ns) en zE (ints env) zV (ints vs) _) ?_)
  have h1 := fun x hx => blk_fun (F := F) (d := d55) (lk := [1, 2]) (p := [1,0,1,0,0]) (p0 := [1,0,1]) (id := 0) (by kernel_rfl) (st := fun (x : List Int × Nat) => [(1, .own zE 3 1 (ints x.1)), (2, .own zV 3 1 (ints vs)), (3, bMd sz zn ns en), (7, iI x.2)]) (I := fun x => EnvOk sz x.1 ∧ x.2 ≤ vs.length) (μ := fun x => vs.length - x.2)
    (res := fun x => if (nextF sz (vs.drop x.2) x.1).2 = true then .ret [(1, .own zE 3 1 (ints (nextF sz (vs.drop x.2) x.1).1)), (2, .own zV 3 1 (ints vs)), (6, iB true)] else .norm [(1, .own zE 3 1 (ints (nextF sz (vs.drop x.2) x.1).1)), (2, .own zV 3 1 (ints vs)), (3, bMd sz zn ns en), (7, iI vs.length)])
    (fun x hx => by
      obtain ⟨env, i⟩ := x
      obtain ⟨hx1, hx2⟩ := hx
      dsimp only at hx1 hx2
      by_cases hi : i < vs.length
      rotate_left
      · have e0 : i = vs.length := by omega
        subst e0
        refine .stop (.exit 0 [(1, .own zE 3 1 (ints env)), (2, .own zV 3 1 (ints vs)), (3, bMd sz zn ns en), (7, iI vs.length)]) (wpQ_way (q55_l0a _ _ zE (ints env) zV (ints vs) sz zn (ints ns) en vs.length _) (condW_f (by rw [ints_len]; simp) rfl)) rfl ?_
        rw [List.drop_length]; rfl
      obtain ⟨v, hvv⟩ : ∃ v, v = gi vs i := ⟨_, rfl⟩
      have hvr := hv (gi vs i) (gi_mem hi)
      have hvi := Go.Ab.ints_at hi
      rw [← hvv] at hvr hvi
      obtain ⟨m, hm⟩ : ∃ m : Nat, v = m := ⟨v.toNat, by omega⟩
      subst hm
      have hm24 : m < 24 := by omega
      have hge := hx1.rng m hm24
      have hem : m < env.length := by rw [hx1.len]; exact hm24
      have hei := Go.Ab.ints_at hem
      have hw : IntKind.wrap .i64 (gi env m + 1) = gi env m + 1 := wr _ (by omega) (by omega)
      have hset := ints_set env m (gi env m + 1)
      have hem2 : m < (env.set m (gi env m + 1)).length := by simpa using hem
      have hei2 := Go.Ab.ints_at hem2
      have hg2 : gi (env.set m (gi env m + 1)) m = gi env m + 1 := by rw [gi_set _ _ _ _ hem, if_pos rfl]
      rw [hg2] at hei2
      have hd := gi_drop hi
      rw [← hvv] at hd
      have b1 : decide ((i : Int) < ((ints vs).length : Int)) = true := by rw [ints_len]; exact decide_eq_true (by omega)
      have b2 : decide ((0 : Int) ≤ (i : Int)) = true := by simp
      have b3 : decide ((0 : Int) ≤ (m : Int)) = true := by simp
      by_cases hlt : gi env m + 1 < sz
      · refine .stop (.ret [(1, .own zE 3 1 (ints (env.set m (gi env m + 1)))), (2, .own zV 3 1 (ints vs)), (6, iB true)]) (wpQ_way (q55_l0a _ _ zE (ints env) zV (ints vs) sz zn (ints ns) en i _) ?_) rfl ?_
        · refine condW_t b1 (condW_t b2 ⟨_, hvi, _, hvi, condW_t b3 ⟨_, hei, _, hei, condW_t b3 ⟨_, hei, _, hei, condW_t b2 ⟨_, hvi, _, hvi, condW_t b3 ?_⟩⟩⟩⟩)
          rw [Int.toNat_natCast, hw, hset]
          exact ⟨_, hei2, _, hei2, condW_t (decide_eq_true hlt) rfl⟩
        · have e1 : nextF sz (vs.drop i) env = (env.set m (gi env m + 1), true) := by
            rw [hd, nextF, Int.toNat_natCast, if_pos hlt]
          rw [e1]; rfl
      · refine .go ((env.set m (gi env m + 1)).set m 0, i + 1) (wpQ_way (q55_l0a _ _ zE (ints env) zV (ints vs) sz zn (ints ns) en i _) ?_) ⟨⟨by simpa using hx1.len, fun j hj => ?_⟩, hi⟩ (by dsimp only; omega) ?_
        · refine condW_t b1 (condW_t b2 ⟨_, hvi, _, hvi, condW_t b3 ⟨_, hei, _, hei, condW_t b3 ⟨_, hei, _, hei, condW_t b2 ⟨_, hvi, _, hvi, condW_t b3 ?_⟩⟩⟩⟩)
          rw [Int.toNat_natCast, hw, hset]
          refine ⟨_, hei2, _, hei2, condW_f (decide_eq_false hlt) (condW_t b2 ⟨_, hvi, _, hvi, condW_t b3 ⟨_, hei2, _, hei2, ?_⟩⟩)⟩
          rw [ints_set, wr1 hi (by omega)]; rfl
        · dsimp only
          rw [gi_set _ _ _ _ hem2, gi_set _ _ _ _ hem]
          split
          · omega
          · exact hx1.rng j hj
        · have e1 : nextF sz (vs.drop i) env = nextF sz (vs.drop (i + 1)) ((env.set m (gi env m + 1)).set m 0) := by
            rw [hd, nextF, Int.toNat_natCast, if_neg hlt]
          dsimp only
          rw [e1]) x hx
  have h2 := h1 (env, 0) ⟨he, Nat.zero_le _⟩
  dsimp only at h2
  rw [List.drop_zero] at h2
  cases hb : (nextF sz vs env).2 with
  | true =>
    rw [if_pos hb] at h2
    exact .inl ⟨_, _, _, _, _, h2, rfl⟩
  | false =>
    rw [if_neg (by simp [hb])] at h2
    exact .inr ⟨_, _, _, _, _, _, _, _, _, h2, rfl⟩
theorem w_rvo {g : List Sym} {c : Cl} (hc : clB g c = true) : C 52 [iC c] = some (.own (varsC c.c.rows).isEmpty 3 1 (ints (varsC c.c.rows)), [iC c]) := by
  have hk := clOk.1 ((clB_c g c).symm.trans hc)
  have n1 : c.ls.length ≤ 5 := by have := hk.l5; simpa [Cl.c] using this
  have n2 : c.ts.length ≤ 3 := by have := hk.t3; simpa [Cl.c] using this
  have n3 : c.cs.length ≤ 3 := by have := hk.c3; simpa [Cl.c] using this
  have hrr : (rowsOf c).map (·.l) = c.c.rows := by
    simp [rowsOf, CC.rows, Cl.c, List.map_append, List.map_map, Function.comp_def, LitR.c]
  have hnr : (rowsOf c).length ≤ 11 := by simp [rowsOf]; omega
  have h49 : ∀ r ∈ rowsOf c, r.l.length ≤ 49 := fun r hr => by
    have hm : r.l ∈ c.c.rows := by rw [← hrr]; exact List.mem_map_of_mem hr
    simp only [CC.rows, List.mem_append, List.mem_map] at hm
    rcases hm with (⟨l, hl, e⟩ | hm) | ⟨l, hl, e⟩
    · have := (atom_codes (hk.la l hl)).1; rw [e] at this; exact this
    · obtain ⟨k, hk2⟩ := hk.tr
      have := rowB_len (hk2 _ hm).1; omega
    · have := (atom_codes (hk.ca l hl)).1; rw [e] at this; exact this
  have hfl : ∀ (rs : List Row), (∀ r ∈ rs, r.l.length ≤ 49) → (rs.flatMap (·.l)).length ≤ 49 * rs.length := by
    intro rs
    induction rs with
    | nil => intro _; simp
    | cons r rs ih =>
      intro h
      have h1 := h r (by simp)
      have h2 := ih (fun x hx => h x (by simp [hx]))
      rw [List.flatMap_cons, List.length_append, List.length_cons]; omega
  refine wfn (lk := []) rfl rfl (fnW_way (q52 _ _ c.lz (lits c.ls) c.le c.tz (rws c.ts) c.te c.cz (lits c.cs) c.ce _) ?_)
  refine ⟨_, _, _, w_rrows (c := c) (by omega) (by omega) (by omega), ?_⟩
  have h1 := fun x hx => blk_fun (F := F) (d := d52) (lk := []) (p := [1,1,1,0,1,0,0]) (p0 := [1,1,1,0,1]) (id := 0) (by kernel_rfl) (st := fun (x : List Int × Nat) => [(3, .own x.1.isEmpty 3 1 (ints x.1)), (4, .own (rowsOf c).isEmpty 23 1 (rws (rowsOf c))), (5, iI x.2)]) (I := fun x => x.2 ≤ (rowsOf c).length ∧ x.1.length ≤ 49 * x.2 ∧ x.1 ++ ((rowsOf c).drop x.2).flatMap (·.l) = (rowsOf c).flatMap (·.l)) (μ := fun x => (rowsOf c).length - x.2)
    (res := fun x => .norm [(3, .own ((rowsOf c).flatMap (·.l)).isEmpty 3 1 (ints ((rowsOf c).flatMap (·.l)))), (4, .own (rowsOf c).isEmpty 23 1 (rws (rowsOf c))), (5, iI (rowsOf c).length)])
    (fun x hx => by
      obtain ⟨acc, i⟩ := x
      obtain ⟨x1, x2, x3⟩ := hx
      dsimp only at x1 x2 x3
      by_cases hi : i < (rowsOf c).length
      · obtain ⟨r, hr⟩ := at_lt hi
        have hd : (rowsOf c).drop i = r :: (rowsOf c).drop (i + 1) := by
          rw [List.drop_eq_getElem_cons hi]
          rw [List.getElem?_eq_getElem hi] at hr
          cases hr; rfl
        have hrl := h49 r (List.mem_of_getElem? hr)
        rw [hd, List.flatMap_cons] at x3
        refine .go (acc ++ r.l, i + 1) (wpQ_way (q52_l0a _ _ acc.isEmpty (ints acc) (rowsOf c).isEmpty (rws (rowsOf c)) i _) ?_) ⟨hi, by simp; omega, by dsimp only; rw [List.append_assoc]; exact x3⟩ (by dsimp only; omega) rfl
        refine condW_t (by rw [rws_len]; exact decide_eq_true (by omega)) (condW_t (by simp) ⟨_, rws_at hr, _, _, _, rws_at hr, condW_t (by rw [ints_len, ints_len]; exact decide_eq_true (by omega)) (condW_t (by rw [ints_len, ints_len]; exact decide_eq_true (by omega)) ?_)⟩)
        rw [wr1 hi (by omega)]
        dsimp only
        rw [ints_append]
        have hem : (acc ++ r.l).isEmpty = (acc.isEmpty && (ints r.l).isEmpty) := by
          cases acc <;> cases r.l <;> simp [ints]
        rw [hem]
      · have e0 : i = (rowsOf c).length := by omega
        subst e0
        refine .stop (.exit 0 [(3, .own acc.isEmpty 3 1 (ints acc)), (4, .own (rowsOf c).isEmpty 23 1 (rws (rowsOf c))), (5, iI (rowsOf c).length)]) (wpQ_way (q52_l0a _ _ acc.isEmpty (ints acc) (rowsOf c).isEmpty (rws (rowsOf c)) (rowsOf c).length _) (condW_f (by rw [rws_len]; simp) rfl)) rfl ?_
        rw [List.drop_length, List.flatMap_nil, List.append_nil] at x3
        rw [x3]; rfl) x hx
  have h2 := h1 ([], 0) ⟨Nat.zero_le _, by simp, rfl⟩
  dsimp only at h2
  have hff : (rowsOf c).flatMap (·.l) = c.c.rows.flatten := by rw [← hrr, List.flatMap_def]
  have hvc : varsC c.c.rows = varsM c.c.rows.flatten := vars_flat (fun r hr x hx => (cl_codes hk r hr x hx).1)
  have hl := hfl (rowsOf c) h49
  have h3 := w_varsof (a := (rowsOf c).flatMap (·.l)) (by unfold Len; omega) ((rowsOf c).flatMap (·.l)).isEmpty []
  rw [hvc, ← hff]
  exact ⟨_, _, _, _, _, h2, _, _, _, h3, rfl⟩
theorem w_env : C 53 [] = some (.own false 3 1 (ints (List.replicate 24 0)), []) := wfn (lk := []) rfl rfl (fnW_way (q53 _ _ _) rfl)
theorem w_few {vs : List Int} (z : Bool) (e : List D) : C 21 [iS z vs e] = some (iB (decide (vs.length ≤ 6)), [iS z vs e]) := by
  refine wfn (lk := []) rfl rfl (fnW_way (q21 _ _ z (ints vs) e _) ?_)
  rw [ints_len]
  by_cases h : vs.length ≤ 6
  · rw [decide_eq_true h]; exact condW_t (decide_eq_true (by omega)) rfl
  · rw [decide_eq_false h]; exact condW_f (decide_eq_false (by omega)) rfl
/-- How many things there are. -/
def sizeM (i : Int) : Int := 1 + Int.tmod (IntKind.wrap .u64 i) 3
theorem size_in (i : Int) : 1 ≤ sizeM i ∧ sizeM i ≤ 3 := by
  unfold sizeM
  have h0 := (u64_ge i).1
  have h1 := Int.tmod_nonneg 3 h0
  have h2 := Int.tmod_lt_of_pos (IntKind.wrap .u64 i) (show (0 : Int) < 3 by omega)
  omega
theorem w_new (i : Int) (zn : Bool) (ns : List Int) (en : List D) : C 22 [iI i, iS zn ns en] = some (iM (sizeM i) zn ns en, [iI i, iS zn ns en]) := by
  refine wfn (lk := []) rfl rfl (fnW_way (q22 _ _ i zn (ints ns) en _) ?_)
  have h := size_in i
  have h0 := (u64_ge i).1
  have h1 := Int.tmod_nonneg 3 h0
  have h2 := Int.tmod_lt_of_pos (IntKind.wrap .u64 i) (show (0 : Int) < 3 by omega)
  have e1 : IntKind.wrap .i64 (1 + IntKind.wrap .i64 (Int.tmod (IntKind.wrap .u64 i) 3)) = sizeM i := by
    rw [wr (Int.tmod (IntKind.wrap .u64 i) 3) (by omega) (by omega)]
    exact wr _ (by unfold sizeM at h; omega) (by unfold sizeM at h; omega)
  rw [e1]
section
variable {g : List Sym} (hg : SigOk g) {sz : Int} (hs : 1 ≤ sz ∧ sz ≤ 3) (z zn : Bool) {ns : List Int} (hns : Len ns) (e en : List D)
include hg hs hns
/-- Does it hold, whatever stands for its variables? -/
def holdsM (g : List Sym) (sz : Int) (ns : List Int) (c : CC) : Prop := holdsP sz (varsC c.rows) (hM g sz ns c)
theorem w_mclause {c : Cl} (hc : clB g c = true) : ∃ b : Bool, (b = true ↔ holdsM g sz ns c.c) ∧ C 23 [iM sz zn ns en, iG z g e, iC c] = some (iB b, [iM sz zn ns en, iG z g e, iC c]) := by
  have hk := clOk.1 ((clB_c g c).symm.trans hc)
  have hcod := cl_codes hk
  obtain ⟨vs, hvs⟩ : ∃ vs, vs = varsC c.c.rows := ⟨_, rfl⟩
  have hvr : ∀ v ∈ vs, 0 ≤ v ∧ v < 24 := fun v hv => by
    rw [hvs] at hv
    obtain ⟨h0, r, hr, hx⟩ := vars_mem.1 hv
    have := (hcod r hr _ hx).1
    omega
  have hnd : vs.Nodup := by
    rw [hvs, vars_flat (fun r hr x hx => (hcod r hr x hx).1)]
    exact up_nodup up_varsFrom
  have hvl : vs.length ≤ 24 := by
    rw [hvs, vars_flat (fun r hr x hx => (hcod r hr x hx).1)]
    have : ∀ (k v : Nat), (varsFrom c.c.rows.flatten k v).length ≤ k := by
      intro k
      induction k with
      | zero => intro v; simp [varsFrom]
      | succ k ih =>
        intro v
        have := ih (v + 1)
        rw [varsFrom]
        split <;> simp <;> omega
    exact this 24 0
  have hhere : ∀ ds : List Int, hM g sz ns c.c (envF (envOf vs ds)) = hM g sz ns c.c (envV vs ds) := fun ds => here_ext (fun r hr x hx h0 => by
    unfold envF
    exact envOf_V vs ds h0 (hcod r hr x hx).1)
  have henv : ∀ ds : List Int, ds.length = vs.length → okD sz ds → EnvOk sz (envOf vs ds) := fun ds hl ho => ⟨envOf_len vs ds, fun j hj => by
    rw [envOf_at _ _ hj]
    split
    · rename_i hm
      have hi := List.idxOf_lt_length_of_mem hm
      have : gi ds (vs.idxOf (j : Int)) = ds[vs.idxOf (j : Int)]'(by omega) := by simp [gi, show vs.idxOf (j : Int) < ds.length by omega]
      rw [this]
      exact ho _ (List.getElem_mem _)
    · omega⟩
  have hloop := blk_rule (F := F) (d := d23) (lk := []) (p := [1,1,1,0,0]) (p0 := [1,1,1]) 0 (by kernel_rfl) (fun (ds : List Int) => [(1, iG z g e), (3, bMd sz zn ns en), (5, bC c), (7, .own vs.isEmpty 3 1 (ints vs)), (8, .own false 3 1 (ints (envOf vs ds)))])
    (fun ds => ds.length = vs.length ∧ okD sz ds) (fun ds => (valD sz (List.replicate vs.length (sz - 1)) - valD sz ds).toNat)
    (fun ds o => ∃ b : Bool, o = .ret [(6, iB b)] ∧ (b = true ↔ ∀ es : List Int, es.length = vs.length → okD sz es → valD sz ds ≤ valD sz es → hM g sz ns c.c (envV vs es) = true))
    (fun ds hx => by
      obtain ⟨hl, ho⟩ := hx
      have h1 := w_here hg hs.1 z zn false hns e en [] (envOf_len vs ds) hc
      rw [hhere ds] at h1
      have h2 := w_mnext hs zn ns en false vs.isEmpty hvr (by omega) (henv ds hl ho)
      rw [next_all hnd hvr hl] at h2
      cases hh : hM g sz ns c.c (envV vs ds) with
      | false =>
        rw [hh] at h1
        refine .inr ⟨.ret [(6, iB false)], wpQ_way (q23_l0a _ _ z (syms g) e sz zn (ints ns) en c.lz (lits c.ls) c.le c.tz (rws c.ts) c.te c.cz (lits c.cs) c.ce vs.isEmpty (ints vs) false (ints (envOf vs ds)) _) ⟨_, _, _, _, _, h1, condW_f rfl rfl⟩, rfl, false, rfl, ?_⟩
        constructor
        · intro hf; cases hf
        · intro hall
          have := hall ds hl ho (Int.le_refl _)
          rw [hh] at this; exact this
      | true =>
        rw [hh] at h1
        cases hi : incD sz ds with
        | some ds' =>
          rw [hi] at h2
          obtain ⟨k1, k2, k3⟩ := inc_some hs.1 ho hi
          have hmx := val_max hs.1 k1
          rw [k2, hl] at hmx
          refine .inl ⟨ds', wpQ_way (q23_l0a _ _ z (syms g) e sz zn (ints ns) en c.lz (lits c.ls) c.le c.tz (rws c.ts) c.te c.cz (lits c.cs) c.ce vs.isEmpty (ints vs) false (ints (envOf vs ds)) _) ⟨_, _, _, _, _, h1, condW_t rfl ⟨_, _, _, _, _, _, h2, condW_t rfl rfl⟩⟩, ⟨by omega, k1⟩, by omega, fun o ⟨b, ho1, ho2⟩ => ⟨b, ho1, ho2.trans ?_⟩⟩
          constructor
          · intro hall es e1 e2 e3
            by_cases hq : valD sz ds' ≤ valD sz es
            · exact hall es e1 e2 hq
            · have : ds = es := val_inj hs.1 (by omega) ho e2 (by omega)
              subst this; exact hh
          · intro hall es e1 e2 e3
            exact hall es e1 e2 (by omega)
        | none =>
          rw [hi] at h2
          refine .inr ⟨.ret [(6, iB true)], wpQ_way (q23_l0a _ _ z (syms g) e sz zn (ints ns) en c.lz (lits c.ls) c.le c.tz (rws c.ts) c.te c.cz (lits c.cs) c.ce vs.isEmpty (ints vs) false (ints (envOf vs ds)) _) ⟨_, _, _, _, _, h1, condW_t rfl ⟨_, _, _, _, _, _, h2, condW_f rfl rfl⟩⟩, rfl, true, rfl, ?_⟩
          constructor
          · intro _ es e1 e2 e3
            have hle := inc_none hs.1 ho hi (by omega) e2
            have : ds = es := val_inj hs.1 (by omega) ho e2 (by omega)
            subst this; exact hh
          · intro _; rfl) (List.replicate vs.length 0) ⟨by simp, ok_zero hs.1 _⟩
  obtain ⟨o, h1, b, rfl, hb⟩ := hloop
  rw [envOf_zero] at h1
  refine ⟨b, ?_, wfn (lk := []) rfl rfl (fnW_way (q23 _ _ sz zn (ints ns) en z (syms g) e c.lz (lits c.ls) c.le c.tz (rws c.ts) c.te c.cz (lits c.cs) c.ce _) ?_)⟩
  · rw [hb]
    unfold holdsM holdsP
    rw [← hvs]
    constructor
    · intro h es e1 e2
      exact h es e1 e2 (by rw [val_zero]; exact val_ge hs.1 e2)
    · intro h es e1 e2 _
      exact h es e1 e2
  · have h3 := w_rvo hc
    rw [← hvs] at h3
    exact ⟨_, _, _, h3, _, _, w_env, _, h1, rfl⟩
end
end Go.Proofs.YtmldmhbdeejcnaaDoor.Ab

/- Where an equation holds, what is rewritten by it means the same; where a unit holds, its opposites mean nothing. Plain lists; no condition. -/
set_option linter.unusedVariables false
set_option linter.unusedSimpArgs false
namespace Go.Qu
open Go Go.Ab
def inR (sz : Int) (env : Int → Int) : Prop := ∀ x, 0 ≤ env x ∧ env x < sz
theorem envV_in {sz : Int} (hs : 1 ≤ sz) {vs ds : List Int} (hl : ds.length = vs.length) (hds : ∀ d ∈ ds, 0 ≤ d ∧ d < sz) : inR sz (envV vs ds) := fun x => by
  unfold envV
  split
  · rename_i hm
    have hi := List.idxOf_lt_length_of_mem hm
    rw [← hl] at hi
    have : gi ds (vs.idxOf (-1 - x)) = ds[vs.idxOf (-1 - x)] := by simp [gi, hi]
    rw [this]
    exact hds _ (List.getElem_mem hi)
  · omega
/-- Whatever stands for the variables: whatever stands for all. -/
theorem holds_all {g : List Sym} {tv : Int → List Int → Int} {pv : Int → List Int → Bool} {qv : List Int → Bool} {sz : Int} (hs : 1 ≤ sz) {c : CC} : holdsP sz (varsC c.rows) (hereH g tv pv qv c) ↔ ∀ env, inR sz env → hereH g tv pv qv c env = true := by
  constructor
  · intro hh env hin
    have h4 := hh ((varsC c.rows).map fun v => env (-1 - v)) (by simp) (fun x hx => by
      obtain ⟨v, _, rfl⟩ := List.mem_map.1 hx
      exact hin _)
    rw [← h4]
    refine here_ext (fun r hr x hx h0 => ?_)
    have hm : (-1 - x) ∈ varsC c.rows := vars_mem.2 ⟨by omega, r, hr, by rw [show (-1 - (-1 - x) : Int) = x by omega]; exact hx⟩
    unfold envV
    rw [if_pos hm]
    have hi := List.idxOf_lt_length_of_mem hm
    rw [gi_map _ _ _ hi, List.getElem_idxOf hi, show (-1 - (-1 - x) : Int) = x by omega]
  · intro h ds hl hds
    exact h _ (envV_in hs hl hds)
theorem evT_zero {g : List Sym} {tv : Int → List Int → Int} {env : Int → Int} (r : List Int) : evT g tv env r 0 = [] := by cases r <;> rfl
theorem evT_repl {g : List Sym} {tv : Int → List Int → Int} {env : Int → Int} {s t : List Int} (hs : One g s) (ht : One g t) (he : evT g tv env s 1 = evT g tv env t 1) : ∀ {p q : List Int} {n k : Nat}, lenN g (p ++ (s ++ q)) n = some k → evT g tv env (p ++ (s ++ q)) n = evT g tv env (p ++ (t ++ q)) n
  | p, q, 0, k, h => by rw [evT_zero, evT_zero]
  | [], q, n + 1, k, h => by
    rw [List.nil_append, List.nil_append]
    have e1 := evT_app (tv := tv) (env := env) n (lenN_app q hs)
    have e2 := evT_app (tv := tv) (env := env) n (lenN_app q ht)
    have e3 := evT_take (tv := tv) (env := env) (lenN_app q hs)
    have e4 := evT_take (tv := tv) (env := env) (lenN_app q ht)
    rw [List.take_left] at e3 e4
    rw [List.drop_left, Nat.add_comm 1 n] at e1 e2
    rw [e1, e2, ← e3, ← e4, he]
  | c :: p, q, n + 1, k, h => by
    rw [List.cons_append] at h
    obtain ⟨a, m, h1, h2, rfl⟩ := lenN_some h
    have ih := evT_repl hs ht he h2
    rw [List.cons_append, List.cons_append, evT, evT, h1]
    simp only [Option.getD_some]
    split
    · rename_i h0
      have ha0 : a = 0 := by
        rw [arOf, if_pos h0] at h1
        split at h1
        · cases h1; rfl
        · cases h1
      subst ha0
      rw [Nat.add_zero] at ih
      rw [ih]
    · rw [ih]
theorem hit_sub {g : List Sym} {L R : List Int} (hR : One g R) (hsub : ∀ c ∈ R, c < 0 → c ∈ L) {out o : List Int} {i : Nat} (h : hitF g L R out i = some o) :
    ∃ (σ : Sb) (p q : List Int), σ.Ok g ∧ out = p ++ (app σ L ++ q) ∧ o = p ++ (app σ R ++ q) := by
  unfold hitF at h
  split at h
  · cases h
  · rename_i k hk
    split at h
    · cases h
    · rename_i u hu
      simp only [Option.some.injEq] at h
      obtain ⟨h1, h2, h3⟩ := list_u hu
      rw [on_list (one_24 hR) (fun c hc h0 => h1 c (hsub c hc h0) h0)] at h
      refine ⟨defS u, out.take i, out.drop (i + k), h2, ?_, h.symm⟩
      rw [h3, ← List.drop_drop, List.take_append_drop, List.take_append_drop]
theorem hit_vals {g : List Sym} {tv : Int → List Int → Int} {sz : Int} (ht : ∀ c l, 0 ≤ tv c l ∧ tv c l < sz) {L R : List Int} (hL : One g L) (hR : One g R) (hsub : ∀ c ∈ R, c < 0 → c ∈ L) (hE : ∀ env, inR sz env → evT g tv env L 1 = evT g tv env R 1) {env : Int → Int} (hin : inR sz env) {out o : List Int} {i n k : Nat} (h : hitF g L R out i = some o) (hn : lenN g out n = some k) : evT g tv env out n = evT g tv env o n := by
  obtain ⟨σ, p, q, hσ, rfl, rfl⟩ := hit_sub hR hsub h
  refine evT_repl (app_lenN hσ hL) (app_lenN hσ hR) ?_ hn
  rw [evT_sub hσ hL, evT_sub hσ hR]
  exact hE _ fun x => evT_in ht hin (hσ _)
theorem rw_vals {g : List Sym} {tv : Int → List Int → Int} {sz : Int} (hg : SigOk g) (ht : ∀ c l, 0 ≤ tv c l ∧ tv c l < sz) {L R : List Int} (hL : One g L) (hR : One g R) (hsub : ∀ c ∈ R, c < 0 → c ∈ L) (hE : ∀ env, inR sz env → evT g tv env L 1 = evT g tv env R 1) {env : Int → Int} (hin : inR sz env) {n : Nat} : ∀ (x : List Int × Nat × Nat), x.1.length ≤ 48 → x.2.1 ≤ 100 → lenN g x.1 n = some x.1.length → ∀ {y : List Int} {k : Nat}, rwX g L R x = some (y, k) →
    lenN g y n = some y.length ∧ y.length ≤ 48 ∧ evT g tv env y n = evT g tv env x.1 n := by
  intro x
  induction x using rwX.induct (g := g) (L := L) (R := R) with
  | case1 x h hh ih =>
    intro h1 h2 h3 y k hy
    rw [rwX_no h.1 h.2.1 h.2.2 hh] at hy
    exact ih h1 h2 h3 hy
  | case2 x h o hh hto =>
    intro h1 h2 h3 y k hy
    rw [rwX_yes h.1 h.2.1 h.2.2 hh, if_pos hto] at hy
    cases hy
  | case3 x h o hh hto hl =>
    intro h1 h2 h3 y k hy
    rw [rwX_yes h.1 h.2.1 h.2.2 hh, if_neg hto, if_pos hl] at hy
    cases hy
  | case4 x h o hh hto hl ih =>
    intro h1 h2 h3 y k hy
    rw [rwX_yes h.1 h.2.1 h.2.2 hh, if_neg hto, if_neg hl] at hy
    have hv := hit_vals ht hL hR hsub hE hin hh h3
    obtain ⟨p, s, t, q, e1, e2, hs, ho, hp⟩ := hit_row hg hL hR hsub hh
    have hs1 := lenN_le hs
    have hx : lenN g o n = some o.length := by
      rw [e1] at h3
      obtain ⟨m, _, _, h5⟩ := repl_lenN hs ho h3 (by simp; omega)
      rw [e2, h5]; simp; omega
    obtain ⟨k1, k2, k3⟩ := ih (by dsimp only; omega) (by dsimp only; omega) hx hy
    exact ⟨k1, k2, k3.trans hv.symm⟩
  | case5 x h =>
    intro h1 h2 h3 y k hy
    have hi : ¬ x.2.2 < x.1.length := fun e => h ⟨e, h1, h2⟩
    rw [rwX_end hi] at hy
    cases hy
    exact ⟨h3, h1, rfl⟩
theorem rw_short {g : List Sym} {L R : List Int} : ∀ (x : List Int × Nat × Nat), x.1.length ≤ 48 → x.2.1 ≤ 100 → ∀ {y : List Int} {k : Nat}, rwX g L R x = some (y, k) → y.length ≤ 48 := by
  intro x
  induction x using rwX.induct (g := g) (L := L) (R := R) with
  | case1 x h hh ih =>
    intro h1 h2 y k hy
    rw [rwX_no h.1 h.2.1 h.2.2 hh] at hy
    exact ih h1 h2 hy
  | case2 x h o hh hto =>
    intro h1 h2 y k hy
    rw [rwX_yes h.1 h.2.1 h.2.2 hh, if_pos hto] at hy
    cases hy
  | case3 x h o hh hto hl =>
    intro h1 h2 y k hy
    rw [rwX_yes h.1 h.2.1 h.2.2 hh, if_neg hto, if_pos hl] at hy
    cases hy
  | case4 x h o hh hto hl ih =>
    intro h1 h2 y k hy
    rw [rwX_yes h.1 h.2.1 h.2.2 hh, if_neg hto, if_neg hl] at hy
    exact ih (by dsimp only; omega) (by dsimp only; omega) hy
  | case5 x h =>
    intro h1 h2 y k hy
    have hi : ¬ x.2.2 < x.1.length := fun e => h ⟨e, h1, h2⟩
    rw [rwX_end hi] at hy
    cases hy
    exact h1
theorem rw_len48 {g : List Sym} {L R r y : List Int} {k : Nat} (hr : r.length ≤ 48) (h : rwX g L R (r, 0, 0) = some (y, k)) : y.length ≤ 48 := rw_short (r, 0, 0) hr (Nat.zero_le _) h
theorem terms_uniq {g : List Sym} {r : List Int} {n : Nat} (h : rowB g r = true) (h' : lenN g r n = some r.length) : termsN g r = n := by
  have h2 := row_full h
  by_cases e : n = termsN g r
  · exact e.symm
  · exfalso
    rcases Nat.lt_or_gt_of_ne e with hl | hl
    · obtain ⟨d, hd⟩ : ∃ d, termsN g r = n + (d + 1) := ⟨termsN g r - n - 1, by omega⟩
      have := lenN_split (d + 1) h'
      rw [← hd, h2, List.drop_length] at this
      cases h3 : lenN g ([] : List Int) (d + 1) with
      | none => rw [h3] at this; cases this
      | some k => simp [lenN] at h3
    · obtain ⟨d, hd⟩ : ∃ d, n = termsN g r + (d + 1) := ⟨n - termsN g r - 1, by omega⟩
      have := lenN_split (d + 1) h2
      rw [← hd, h', List.drop_length] at this
      cases h3 : lenN g ([] : List Int) (d + 1) with
      | none => rw [h3] at this; cases this
      | some k => simp [lenN] at h3
/-- A literal whose row was rewritten. -/
def rwL (g : List Sym) (L R : List Int) (l m : LC) : Prop := m.1 = l.1 ∧ ∃ p r y k, l.2 = p :: r ∧ m.2 = p :: y ∧ rwX g L R (r, 0, 0) = some (y, k)
theorem rwL_same {g : List Sym} {tv : Int → List Int → Int} {pv : Int → List Int → Bool} {sz : Int} (hg : SigOk g) (ht : ∀ c l, 0 ≤ tv c l ∧ tv c l < sz) {L R : List Int} (hL : One g L) (hR : One g R) (hsub : ∀ c ∈ R, c < 0 → c ∈ L) (hE : ∀ env, inR sz env → evT g tv env L 1 = evT g tv env R 1) {env : Int → Int} (hin : inR sz env) {l m : LC} (hl : atomB g l.2 = true) (hm : atomB g m.2 = true) (h : rwL g L R l m) : litH g tv pv env m = litH g tv pv env l := by
  obtain ⟨h1, p, r, y, k, e1, e2, h2⟩ := h
  rw [e1] at hl; rw [e2] at hm
  obtain ⟨_, hr⟩ := atom_row hl
  obtain ⟨_, hy⟩ := atom_row hm
  have hr48 := (rowB_parts hr).2.1
  obtain ⟨k1, k2, k3⟩ := rw_vals hg ht hL hR hsub hE hin (r, 0, 0) hr48 (Nat.zero_le _) (row_full hr) h2
  have ht2 := terms_uniq hy k1
  unfold litH atomH
  rw [e1, e2, List.tail_cons, List.tail_cons, h1]
  unfold valsF
  rw [ht2, k3]
  rfl
theorem any_two {α : Type} {p : α → Bool} : ∀ {l m : List α}, l.length = m.length → (∀ (i : Nat) a b, l[i]? = some a → m[i]? = some b → p b = p a) → m.any p = l.any p
  | [], [], _, _ => rfl
  | a :: l, b :: m, h, hh => by
    rw [List.any_cons, List.any_cons, hh 0 a b rfl rfl, any_two (by simpa using h) (fun i a b ha hb => hh (i + 1) a b (by simpa using ha) (by simpa using hb))]
theorem rw_holds {g : List Sym} {tv : Int → List Int → Int} {pv : Int → List Int → Bool} {qv : List Int → Bool} {sz : Int} (hs : 1 ≤ sz) (ht : ∀ c l, 0 ≤ tv c l ∧ tv c l < sz) {L R : List Int} (hL : One g L) (hR : One g R) (hsub : ∀ c ∈ R, c < 0 → c ∈ L) (hE : ∀ env, inR sz env → evT g tv env L 1 = evT g tv env R 1) {d e : CC} (hd : ClOk g d) (he : ClOk g e) (hlen : d.ls.length = e.ls.length) (hls : ∀ (i : Nat) a b, d.ls[i]? = some a → e.ls[i]? = some b → rwL g L R a b) (hts : e.ts = d.ts) (hcs : e.cs = d.cs) :
    holdsP sz (varsC e.rows) (hereH g tv pv qv e) ↔ holdsP sz (varsC d.rows) (hereH g tv pv qv d) := by
  rw [holds_all hs, holds_all hs]
  have key : ∀ env, inR sz env → hereH g tv pv qv e env = hereH g tv pv qv d env := fun env hin => by
    unfold hereH
    rw [hts, hcs, any_two hlen (fun i a b ha hb => rwL_same (sigOk hd.sg) ht hL hR hsub hE hin (hd.la a (List.mem_of_getElem? ha)) (he.la b (List.mem_of_getElem? hb)) (hls i a b ha hb))]
  constructor
  · intro h env hin; rw [← key env hin]; exact h env hin
  · intro h env hin; rw [key env hin]; exact h env hin
/-- A unit that holds makes each opposite of its instances nothing. -/
theorem cut_holds {g : List Sym} {tv : Int → List Int → Int} {pv : Int → List Int → Bool} {qv : List Int → Bool} {sz : Int} (hs : 1 ≤ sz) (ht : ∀ c l, 0 ≤ tv c l ∧ tv c l < sz) {u : LC} (hu : atomB g u.2 = true) (hun : ∀ env, inR sz env → litH g tv pv env u = true) {d : CC} (hd : ClOk g d) {q : LC → Bool} (hq : ∀ l ∈ d.ls, q l = false → l.1 ≠ u.1 ∧ ∃ σ : Sb, σ.Ok g ∧ app σ u.2 = l.2) :
    holdsP sz (varsC (CC.mk (d.ls.filter q) d.ts d.cs).rows) (hereH g tv pv qv ⟨d.ls.filter q, d.ts, d.cs⟩) ↔ holdsP sz (varsC d.rows) (hereH g tv pv qv d) := by
  rw [holds_all hs, holds_all hs]
  have key : ∀ env, inR sz env → hereH g tv pv qv ⟨d.ls.filter q, d.ts, d.cs⟩ env = hereH g tv pv qv d env := fun env hin => by
    unfold hereH
    congr 2
    rw [Bool.eq_iff_iff, List.any_eq_true, List.any_eq_true]
    constructor
    · rintro ⟨l, hl, hh⟩
      exact ⟨l, (List.mem_filter.1 hl).1, hh⟩
    · rintro ⟨l, hl, hh⟩
      refine ⟨l, List.mem_filter.2 ⟨hl, ?_⟩, hh⟩
      cases hql : q l with
      | true => rfl
      | false =>
        exfalso
        obtain ⟨hne, σ, hσ, e⟩ := hq l hl hql
        have h1 := atom_sub (tv := tv) (pv := pv) (env := env) hσ hu (by rw [e]; exact hd.la l hl)
        have h2 := hun _ (fun x => evT_in ht hin (hσ (vN x)))
        unfold litH at hh h2
        rw [← h1, e] at h2
        cases hb : atomH g tv pv env l.2 <;> rw [hb] at hh h2 <;> cases h3 : l.1 <;> cases h4 : u.1 <;> simp_all
  constructor
  · intro h env hin; rw [← key env hin]; exact h env hin
  · intro h env hin; rw [key env hin]; exact h env hin
/-- A unit holds just where its literal does. -/
theorem unit_lit {g : List Sym} {tv : Int → List Int → Int} {pv : Int → List Int → Bool} {qv : List Int → Bool} {u : LC} {env : Int → Int} (h : hereH g tv pv qv ⟨[u], [], []⟩ env = true) : litH g tv pv env u = true := by
  simpa [hereH] using h
/-- An equation that holds: its sides mean the same. -/
theorem eq_vals {g : List Sym} {tv : Int → List Int → Int} {pv : Int → List Int → Bool} {a b : List Int} {env : Int → Int} (ha : One g a) (hb : One g b) (hr : rowB g (a ++ b) = true) (h : litH g tv pv env (false, 0 :: (a ++ b)) = true) : evT g tv env a 1 = evT g tv env b 1 := by
  have h2 : lenN g (a ++ b) 2 = some (a ++ b).length := by
    have k1 := lenN_split (r := a ++ b) (n := 1) 1 (lenN_app b ha)
    rw [List.drop_left, hb] at k1
    rw [show (2 : Nat) = 1 + 1 from rfl, k1]; simp
  have hn := terms_uniq hr h2
  have e1 := evT_app (tv := tv) (env := env) 1 (lenN_app b ha)
  have e2 := evT_take (tv := tv) (env := env) (lenN_app b ha)
  rw [List.take_left] at e2
  rw [List.drop_left, ← e2] at e1
  have l1 := evT_len (tv := tv) (env := env) ha
  have l2 := evT_len (tv := tv) (env := env) hb
  unfold litH atomH at h
  rw [if_pos (by rfl)] at h
  rw [List.tail_cons] at h
  unfold valsF at h
  rw [hn] at h
  have e3 : evT g tv env (a ++ b) 2 = evT g tv env a 1 ++ evT g tv env b 1 := e1
  rw [e3] at h
  match h1 : evT g tv env a 1, h3 : evT g tv env b 1, l1, l2 with
  | [x], [y], _, _ =>
    rw [h1, h3] at h
    simp [gi] at h
    rw [h]
theorem eq_sides {g : List Sym} {r : List Int} (h : atomB g (0 :: r) = true) : ∃ a b, r = a ++ b ∧ One g a ∧ One g b := by
  simp only [atomB] at h
  split at h
  · cases h
  split at h
  · cases h
  rename_i s hs
  simp only [Bool.and_eq_true] at h
  obtain ⟨⟨_, h2⟩, h3⟩ := h
  have har : s.ar = 2 := by
    unfold sigB at h2
    have hs' : g[0]? = some s := hs
    rw [hs'] at h2
    simp only [Bool.and_eq_true] at h2
    have := h2.1.2
    unfold eqSym at this
    simp only [Bool.and_eq_true] at this
    simpa using this.2.2.1
  unfold rowP at h3
  by_cases hr : r.length ≤ 48
  · rw [if_pos hr] at h3
    cases hps : parts g r with
    | none => rw [hps] at h3; cases h3
    | some ts =>
      rw [hps, har] at h3
      have hl : ts.length = 2 := by
        have : ((ts.length : Int) == 2) = true := h3
        simp at this
        omega
      have hn := parts_all _ (Nat.le_refl _) hps
      rw [hl] at hn
      obtain ⟨k1, k2, k3⟩ := pcs_row hn
      match hp : pcs g r, k3 with
      | [a, b], _ =>
        rw [hp] at k1 k2
        exact ⟨a, b, by simpa using k2.symm, k1 a (by simp), k1 b (by simp)⟩
  · rw [if_neg hr] at h3; cases h3
end Go.Qu

/- simp.Clause: what it hands back. For every input; no condition. -/
set_option linter.unusedVariables false
set_option linter.unusedSimpArgs false
set_option maxRecDepth 100000
namespace Go.Proofs.YtmldmhbdeejcnaaDoor.Ab
open Go Go.Ab Go.Qu Go.Proofs
/-- A literal whose row was rewritten, as it lies in memory. -/
def RW (g : List Sym) (L R : List Int) (l m : LitR) : Prop := m.neg = l.neg ∧ (m.r.z = false ∧ m.r.e = []) ∧ ∃ p r y k, l.r.l = p :: r ∧ m.r.l = p :: y ∧ rwX g L R (r, 0, 0) = some (y, k)
/-- How often a literal's row was rewritten; all of them. -/
def timesR (g : List Sym) (L R : List Int) (l : LitR) : Nat := match rwX g L R (l.r.l.tail, 0, 0) with | some (_, k) => k | none => 0
def totF (g : List Sym) (L R : List Int) (ls : List LitR) : Int := ls.foldl (fun a l => IntKind.wrap .i64 (a + (timesR g L R l : Int))) 0
abbrev zC0 : IV := .dbox 39 0 [.sl 2 true [] [], .sl 1 true [] [], .sl 2 true [] []]
abbrev rB (zL zR : Bool) (eL eR : List D) (L R : List Int) : IV := .dbox 25 0 [.sl 1 zL (ints L) eL, .sl 1 zR (ints R) eR]
abbrev pC (z1 z2 z3 : Bool) (xs : List LitR) (ts : List Row) (cs : List LitR) : IV := .ptr 39 0 [.own z1 35 2 (lits xs), .own z2 23 1 (rws ts), .own z3 35 2 (lits cs)]
def postS (g : List Sym) (z zL zR z1 z2 z3 : Bool) (e eL eR : List D) (L R : List Int) (l0 : List LitR) (ts : List Row) (cs : List LitR) (o : Out) : Prop :=
  (o = .ret [(6, zC0), (7, iI 0), (8, iI 1601)] ∧ ∃ l ∈ l0, rwX g L R (l.r.l.tail, 0, 0) = none) ∨ ∃ (ys : List LitR), o = .norm [(0, iG z g e), (4, rB zL zR eL eR L R), (6, zC0), (9, pC z1 z2 z3 ys ts cs), (10, iI (totF g L R l0)), (33, iI l0.length), (34, iI l0.length), (102032088, .dead)] ∧ ys.length = l0.length ∧ ∀ (j : Nat) a b, l0[j]? = some a → ys[j]? = some b → RW g L R a b
theorem l_sclause {g : List Sym} (hg : SigOk g) (z zL zR z1 z2 z3 : Bool) (e eL eR : List D) {L R : List Int} (hL : One g L) (hR : One g R) (hL48 : L.length ≤ 48) (hR48 : R.length ≤ 48) (hsub : ∀ c ∈ R, c < 0 → c ∈ L) (l0 : List LitR) (hl0 : l0.length ≤ 1000) (hat : ∀ l ∈ l0, atomB g l.r.l = true ∧ (l.r.z = true → l.r.l = [])) (ts : List Row) (cs : List LitR) :
    ∀ x : List LitR × Int × Nat, (x.2.2 ≤ l0.length ∧ x.2.1 = totF g L R (l0.take x.2.2) ∧ x.1.length = l0.length ∧ (∀ (j : Nat) a b, j < x.2.2 → l0[j]? = some a → x.1[j]? = some b → RW g L R a b) ∧ ∀ j, x.2.2 ≤ j → x.1[j]? = l0[j]?) →
    ∃ o, evP F (Go.Ab.W F) (JW F d24 []) d24 [] [1,1,1,0,1] [(0, iG z g e), (4, rB zL zR eL eR L R), (6, zC0), (9, pC z1 z2 z3 x.1 ts cs), (10, iI x.2.1), (33, iI l0.length), (34, iI x.2.2), (102032088, .dead)] = some o ∧ postS g z zL zR z1 z2 z3 e eL eR L R l0 ts cs o :=
  blk_rule (F := F) (d := d24) (lk := []) (p := [1,1,1,0,1,0,0]) (p0 := [1,1,1,0,1]) 0 (by kernel_rfl) (fun (x : List LitR × Int × Nat) => [(0, iG z g e), (4, rB zL zR eL eR L R), (6, zC0), (9, pC z1 z2 z3 x.1 ts cs), (10, iI x.2.1), (33, iI l0.length), (34, iI x.2.2), (102032088, .dead)]) _ (fun x => l0.length - x.2.2) (fun _ o => postS g z zL zR z1 z2 z3 e eL eR L R l0 ts cs o) (fun x hx => by
    obtain ⟨xs, all, i⟩ := x
    obtain ⟨h1, h5, h2, h3, h4⟩ := hx
    dsimp only at h1 h2 h3 h4 h5 ⊢
    by_cases h : i < l0.length
    rotate_left
    · have e0 : i = l0.length := by omega
      subst e0
      refine .inr ⟨.exit 0 [(0, iG z g e), (4, rB zL zR eL eR L R), (6, zC0), (9, pC z1 z2 z3 xs ts cs), (10, iI all), (33, iI l0.length), (34, iI l0.length), (102032088, .dead)], wpQ_way (q24_l0a _ _ z (syms g) e zL (ints L) eL zR (ints R) eR z1 (lits xs) z2 (rws ts) z3 (lits cs) all l0.length l0.length _) (condW_f (decide_eq_false (by omega)) rfl), rfl, .inr ⟨xs, by rw [h5, List.take_length]; rfl, h2, fun j a b ha hb => h3 j a b (lt_at ha) ha hb⟩⟩
    obtain ⟨l, hl⟩ := at_lt h
    have hxl : xs[i]? = some l := by rw [h4 i (Nat.le_refl _)]; exact hl
    obtain ⟨ha, hz⟩ := hat l (List.mem_of_getElem? hl)
    obtain ⟨p, r, hpr, hp0, hrow⟩ := atom_cons ha
    have hr48 := (rowB_parts hrow).2.1
    have hzl : l.r.z = false := by
      cases hq : l.r.z with
      | false => rfl
      | true => have := hz hq; rw [hpr] at this; cases this
    have hx := lits_at hxl
    rw [hzl, hpr] at hx
    have t1 : decide ((i : Int) < (l0.length : Int)) = true := decide_eq_true (by omega)
    have t2 : decide ((0 : Int) ≤ (i : Int)) = true := decide_eq_true (by omega)
    have t3 : decide ((1 : Int) ≤ ((ints (p :: r)).length : Int)) = true := decide_eq_true (by rw [ints_len]; simp; omega)
    obtain ⟨v, hv, hpost⟩ := w_rewrite hg z zL zR e eL eR hL hR hL48 hR48 hsub (n := termsN g r) hr48 (row_full hrow) false (by simp) []
    cases hx2 : rwX g L R (r, 0, 0) with
    | none =>
      rw [hx2] at hpost
      have hpost : v = .tup [iS true [] [], iI 0, iB false] := hpost
      subst hpost
      refine .inr ⟨.ret [(6, zC0), (7, iI 0), (8, iI 1601)], wpQ_way (q24_l0a _ _ z (syms g) e zL (ints L) eL zR (ints R) eR z1 (lits xs) z2 (rws ts) z3 (lits cs) all l0.length i _) ?_, rfl, .inl ⟨rfl, l, List.mem_of_getElem? hl, by rw [hpr]; exact hx2⟩⟩
      exact condW_t t1 (condW_t t2 ⟨_, hx, _, _, _, _, hx, condW_t t3 ⟨_, _, _, _, _, _, _, _, hv, condW_f rfl rfl⟩⟩)
    | some q =>
      obtain ⟨y, k⟩ := q
      rw [hx2] at hpost
      obtain ⟨zy, hzy, hve⟩ := hpost
      subst hve
      have hy48 := rw_len48 hr48 hx2
      have hw := wr1 h (show l0.length ≤ 9223372036854775807 by omega)
      refine .inl ⟨(xs.set i ⟨l.neg, ⟨false, p :: y, []⟩⟩, IntKind.wrap .i64 (all + (k : Int)), i + 1), wpQ_way (q24_l0a _ _ z (syms g) e zL (ints L) eL zR (ints R) eR z1 (lits xs) z2 (rws ts) z3 (lits cs) all l0.length i _) ?_, ⟨h, ?_, by simp [h2], ?_, ?_⟩, by dsimp only; omega, fun o ho => ho⟩
      · refine condW_t t1 (condW_t t2 ⟨_, hx, _, _, _, _, hx, condW_t t3 ⟨_, _, _, _, _, _, _, _, hv, condW_t rfl ⟨p, rfl, condW_t (decide_eq_true (by rw [ints_len]; omega)) (condW_t (decide_eq_true (by rw [ints_len]; omega)) (condW_t t2 ⟨_, hx, _, _, _, _, hx, ?_⟩))⟩⟩⟩)
        rw [hw]
        dsimp only
        have hset : pC z1 z2 z3 (xs.set i ⟨l.neg, ⟨false, p :: y, []⟩⟩) ts cs = .ptr 39 0 [.own z1 35 2 ((lits xs).set i (.agg [.bool l.neg, .sl 1 false (ints (p :: y)) []])), .own z2 23 1 (rws ts), .own z3 35 2 (lits cs)] := by
          unfold pC
          rw [← lits_set]
        rw [hset]
        rfl
      · dsimp only
        have e1 : l0.take (i + 1) = l0.take i ++ [l] := by rw [List.take_add_one, hl]; rfl
        have e2 : timesR g L R l = k := by unfold timesR; rw [hpr, List.tail_cons, hx2]
        rw [h5, e1, totF, totF, List.foldl_append]
        simp [e2]
      · intro j a b hj ha' hb
        by_cases hji : j = i
        · subst hji
          rw [hl] at ha'
          cases ha'
          rw [List.getElem?_set_self (by omega)] at hb
          cases hb
          exact ⟨rfl, ⟨rfl, rfl⟩, p, r, y, k, hpr, rfl, hx2⟩
        · rw [List.getElem?_set_ne (by omega)] at hb
          exact h3 j a b (by dsimp only at hj; omega) ha' hb
      · intro j hj
        dsimp only at hj ⊢
        rw [List.getElem?_set_ne (by omega)]
        exact h4 j (by omega))
def rwC (ys : List LitR) (d : Cl) : Cl := ⟨(d.ls.map cpL).isEmpty, ys, [], (d.ts.map cpR).isEmpty, d.ts.map cpR, [], (d.cs.map cpL).isEmpty, d.cs.map cpL, []⟩
theorem rwC_nil {g : List Sym} {L R : List Int} {ys : List LitR} {d : Cl} (hn : NilC d) (hl : ys.length = (d.ls.map cpL).length) (h : ∀ (j : Nat) a b, (d.ls.map cpL)[j]? = some a → ys[j]? = some b → RW g L R a b) : NilC (rwC ys d) := fun r hr hz => by
  simp only [rowsOf, rwC, List.mem_append, List.mem_map] at hr
  rcases hr with (⟨l, hl2, rfl⟩ | ⟨m, hm, rfl⟩) | ⟨l, ⟨m, hm, rfl⟩, rfl⟩
  · exfalso
    obtain ⟨j, hj⟩ := List.getElem?_of_mem hl2
    obtain ⟨a, ha⟩ := at_lt (l := d.ls.map cpL) (i := j) (by rw [← hl]; exact lt_at hj)
    have := (h j a l ha hj).2.1.1
    rw [this] at hz; cases hz
  · exact hn m (by simp only [rowsOf, List.mem_append]; exact .inl (.inr hm)) hz
  · exact hn m.r (by simp only [rowsOf, List.mem_append, List.mem_map]; exact .inr ⟨m, hm, rfl⟩) hz
theorem w_sclause (z zL zR : Bool) {g : List Sym} (e eL eR : List D) {L R : List Int} (hru : ruB g L R = true) (hzL : zL = true → L = []) (hzR : zR = true → R = []) {d : Cl} (hd : clB g d = true) (hn : NilC d) :
    ∃ v, C 24 [iG z g e, .d (.agg [.sl 1 zL (ints L) eL, .sl 1 zR (ints R) eR]), iC d] = some (v, [iG z g e, .d (.agg [.sl 1 zL (ints L) eL, .sl 1 zR (ints R) eR]), iC d]) ∧
    ((v = .tup [.d (.agg [.sl 2 true [] [], .sl 1 true [] [], .sl 2 true [] []]), iI 0, iI 1601] ∧ ((∃ l ∈ d.ls, rwX g L R (l.r.l.tail, 0, 0) = none) ∨ ∃ ys : List LitR, clB g (rwC ys d) = false ∧ ys.length = d.ls.length ∧ ∀ (j : Nat) a b, d.ls[j]? = some a → ys[j]? = some b → RW g L R a b)) ∨ ∃ (ys : List LitR), v = .tup [oC (anewC (rwC ys d)), iI (totF g L R (d.ls.map cpL)), iI 0] ∧ clB g (rwC ys d) = true ∧ ys.length = d.ls.length ∧ ∀ (j : Nat) a b, d.ls[j]? = some a → ys[j]? = some b → RW g L R a b) := by
  have h1 := w_rewritemay z zL zR g e eL eR L R hzL hzR
  have h2 := w_clmay z g e d
  rw [hru] at h1
  rw [hd] at h2
  have hr := clRow_of hd hn
  have hk := clOk.1 ((clB_c g d).symm.trans hd)
  have hg := sigOk hk.sg
  have hl5 : d.ls.length ≤ 5 := by have := hk.l5; simpa [Cl.c] using this
  obtain ⟨_, k1, k2, k3, k4, hmore⟩ := ru_more hru
  have hl := l_sclause hg z zL zR (d.ls.map cpL).isEmpty (d.ts.map cpR).isEmpty (d.cs.map cpL).isEmpty e eL eR k1 k2 k3 k4 (more_sub k2 hmore) (d.ls.map cpL) (by simp; omega) (fun l hl => by
    obtain ⟨m, hm, rfl⟩ := List.mem_map.1 hl
    exact ⟨(show atomB g m.r.l = true from lit_atom hd hm), fun hz => (show m.r.l = [] from lit_nil (l := m) hn hm hz)⟩) (d.ts.map cpR) (d.cs.map cpL) (d.ls.map cpL, 0, 0) ⟨Nat.zero_le _, rfl, rfl, fun j a b hj => absurd hj (Nat.not_lt_zero _), fun j _ => rfl⟩
  obtain ⟨o, hl1, hl2⟩ := hl
  have hll : ((lits (cpC d).ls).length : Int) = ((d.ls.map cpL).length : Int) := by rw [lits_len]; rfl
  rcases hl2 with ⟨rfl, l, hl3, hl4⟩ | ⟨ys, rfl, hy, hyy⟩
  · refine ⟨_, wfn (lk := []) rfl rfl (fnW_way (q24 _ _ z (syms g) e zL (ints L) eL zR (ints R) eR d.lz (lits d.ls) d.le d.tz (rws d.ts) d.te d.cz (lits d.cs) d.ce _) ?_), .inl ⟨rfl, .inl (by obtain ⟨m, hm, rfl⟩ := List.mem_map.1 hl3; exact ⟨m, hm, hl4⟩)⟩⟩
    refine ⟨_, _, _, h1, condW_t rfl ⟨_, _, _, h2, condW_t rfl ⟨_, _, _, _, _, _, _, w_clcopy hr, ?_⟩⟩⟩
    rw [hll]
    exact .inl ⟨_, _, hl1, rfl⟩
  · have hnil := rwC_nil hn hy hyy
    have hnm := w_normal z g e hnil
    cases hc : clB g (rwC ys d) with
    | false =>
      rw [hc] at hnm
      refine ⟨_, wfn (lk := []) rfl rfl (fnW_way (q24 _ _ z (syms g) e zL (ints L) eL zR (ints R) eR d.lz (lits d.ls) d.le d.tz (rws d.ts) d.te d.cz (lits d.cs) d.ce _) ?_), .inl ⟨rfl, .inr ⟨ys, hc, by simpa using hy, fun j a b ha hb => hyy j (cpL a) b (by rw [List.getElem?_map, ha]; rfl) hb⟩⟩⟩
      refine ⟨_, _, _, h1, condW_t rfl ⟨_, _, _, h2, condW_t rfl ⟨_, _, _, _, _, _, _, w_clcopy hr, ?_⟩⟩⟩
      rw [hll]
      exact .inr ⟨_, _, _, _, _, _, _, _, _, _, _, _, _, _, _, _, _, _, hl1, .inr ⟨_, _, _, hnm, condW_t rfl rfl⟩⟩
    | true =>
      rw [hc] at hnm
      refine ⟨_, wfn (lk := []) rfl rfl (fnW_way (q24 _ _ z (syms g) e zL (ints L) eL zR (ints R) eR d.lz (lits d.ls) d.le d.tz (rws d.ts) d.te d.cz (lits d.cs) d.ce _) ?_),   .inr ⟨ys, rfl, hc, by simpa using hy, fun j a b ha hb => hyy j (cpL a) b (by rw [List.getElem?_map, ha]; rfl) hb⟩⟩
      refine ⟨_, _, _, h1, condW_t rfl ⟨_, _, _, h2, condW_t rfl ⟨_, _, _, _, _, _, _, w_clcopy hr, ?_⟩⟩⟩
      rw [hll]
      exact .inr ⟨_, _, _, _, _, _, _, _, _, _, _, _, _, _, _, _, _, _, hl1, .inl ⟨_, _, _, _, _, _, _, _, _, hnm, condW_f rfl rfl⟩⟩
end Go.Proofs.YtmldmhbdeejcnaaDoor.Ab

/- simp.Rule: what it hands back. For every input; no condition. -/
set_option linter.unusedVariables false
set_option linter.unusedSimpArgs false
set_option maxRecDepth 100000
namespace Go.Proofs.YtmldmhbdeejcnaaDoor.Ab
open Go Go.Ab Go.Qu Go.Proofs
attribute [local simp] and_assoc
theorem w_sides {g : List Sym} (hg : SigOk g) (z z' : Bool) (e e' : List D) {c : Int} {r : List Int} (hr : r.length ≤ 1000) {n : Nat} (h : lenN g r n = some r.length) :
    C 37 [iG z g e, iS z' (c :: r) e'] = some (.own (pcs g r).isEmpty 23 1 (rws (pcR z' (pcs g r))), [iG z g e, iS z' (c :: r) e']) := by
  refine wfn (lk := []) rfl rfl (fnW_way (q37 _ _ z (syms g) e z' (ints (c :: r)) e' _) ?_)
  refine condW_t (by simp [ints_len]; omega) ?_
  have hd : List.drop (Int.toNat 1) (ints (c :: r)) = ints r := rfl
  rw [hd]
  exact ⟨_, _, _, _, w_pieces hg z z' e [] hr h, rfl⟩
abbrev moB (g : List Sym) (a b : List Int) : Bool := cmpOk g a b && decide (cmpV g a b = 2)
abbrev pRet (a b : List Int) : Out := .ret [(4, .ptr 25 0 [.own false 3 1 (ints a), .own false 3 1 (ints b)]), (5, iB true), (6, iI 0)]
theorem l_rule (z : Bool) (g : List Sym) (e : List D) {a b : List Int} (ha : Len a) (hb : Len b) (i : Nat) (hi : i ≤ 2) :
    evP F (Go.Ab.W F) (JW F d13 []) d13 [] [1,1,1,1,0,1] [(0, iG z g e), (4, .ptr 25 0 [.own true 3 1 [], .own true 3 1 []]), (7, .own false 23 1 (rws (pcR false [a, b]))), (43, iI 2), (44, iI i)] = some (if i = 0 ∧ moB g a b = true then pRet a b else if i ≤ 1 ∧ moB g b a = true then pRet b a else .norm [(0, iG z g e), (4, .ptr 25 0 [.own true 3 1 [], .own true 3 1 []]), (7, .own false 23 1 (rws (pcR false [a, b]))), (43, iI 2), (44, iI 2)]) :=
  blk_fun (F := F) (d := d13) (lk := []) (p := [1,1,1,1,0,1,0,0]) (p0 := [1,1,1,1,0,1]) (id := 0) (by kernel_rfl) (st := fun (i : Nat) => [(0, iG z g e), (4, .ptr 25 0 [.own true 3 1 [], .own true 3 1 []]), (7, .own false 23 1 (rws (pcR false [a, b]))), (43, iI 2), (44, iI i)]) (I := fun i => i ≤ 2) (μ := fun i => 2 - i)
    (res := fun i => if i = 0 ∧ moB g a b = true then pRet a b else if i ≤ 1 ∧ moB g b a = true then pRet b a else .norm [(0, iG z g e), (4, .ptr 25 0 [.own true 3 1 [], .own true 3 1 []]), (7, .own false 23 1 (rws (pcR false [a, b]))), (43, iI 2), (44, iI 2)])
    (fun i hi => by
      have hw3 : IntKind.wrap .i64 (0 + 1) = 1 := by rw [wr _ (by omega) (by omega)]; omega
      have hw4 : IntKind.wrap .i64 (1 + 1) = 2 := by rw [wr _ (by omega) (by omega)]; omega
      have hw5 : IntKind.wrap .i64 (1 - 0) = 1 := by rw [wr _ (by omega) (by omega)]; omega
      have hw6 : IntKind.wrap .i64 (1 - 1) = 0 := by rw [wr _ (by omega) (by omega)]; omega
      have x0 : (rws (pcR false [a, b]))[Int.toNat 0]? = some (.sl 1 false (ints a) []) := rfl
      have x1 : (rws (pcR false [a, b]))[Int.toNat 1]? = some (.sl 1 false (ints b) []) := rfl
      have ca := w_clone ha false (by simp) []
      have cb := w_clone hb false (by simp) []
      have m1 : C 38 [iG z g e, iS false a [], iS false b []] = some (iB (moB g a b), [iG z g e, iS false a [], iS false b []]) := w_smore z false false g e [] [] a b (by simp) (by simp)
      have m2 : C 38 [iG z g e, iS false b [], iS false a []] = some (iB (moB g b a), [iG z g e, iS false b [], iS false a []]) := w_smore z false false g e [] [] b a (by simp) (by simp)
      have h3 : i = 0 ∨ i = 1 ∨ i = 2 := by omega
      rcases h3 with rfl | rfl | rfl
      · cases hab : moB g a b with
        | true =>
          rw [hab] at m1
          refine .stop (pRet a b) (wpQ_way (q13_l0a _ _ z (syms g) e true [] true [] false (rws (pcR false [a, b])) 2 0 _) ?_) rfl (by simp [blkO, hab])
          refine condW_t (by decide) (condW_t (by decide) ⟨_, x0, _, _, _, x0, ?_⟩)
          rw [hw5]
          exact condW_t (by decide) ⟨_, x1, _, _, _, x1, _, _, _, _, m1, condW_t rfl (condW_t (by decide) ⟨_, x0, _, _, _, x0, _, _, _, ca, condW_t (by decide) ⟨_, x1, _, _, _, x1, _, _, _, cb, rfl⟩⟩)⟩
        | false =>
          rw [hab] at m1
          refine .go 1 (wpQ_way (q13_l0a _ _ z (syms g) e true [] true [] false (rws (pcR false [a, b])) 2 0 _) ?_) (by omega) (by omega) (by simp [hab])
          refine condW_t (by decide) (condW_t (by decide) ⟨_, x0, _, _, _, x0, ?_⟩)
          rw [hw5, hw3]
          exact condW_t (by decide) ⟨_, x1, _, _, _, x1, _, _, _, _, m1, condW_f rfl rfl⟩
      · cases hba : moB g b a with
        | true =>
          rw [hba] at m2
          refine .stop (pRet b a) (wpQ_way (q13_l0a _ _ z (syms g) e true [] true [] false (rws (pcR false [a, b])) 2 1 _) ?_) rfl (by simp [blkO, hba])
          refine condW_t (by decide) (condW_t (by decide) ⟨_, x1, _, _, _, x1, ?_⟩)
          rw [hw6]
          exact condW_t (by decide) ⟨_, x0, _, _, _, x0, _, _, _, _, m2, condW_t rfl (condW_t (by decide) ⟨_, x1, _, _, _, x1, _, _, _, cb, condW_t (by decide) ⟨_, x0, _, _, _, x0, _, _, _, ca, rfl⟩⟩)⟩
        | false =>
          rw [hba] at m2
          refine .go 2 (wpQ_way (q13_l0a _ _ z (syms g) e true [] true [] false (rws (pcR false [a, b])) 2 1 _) ?_) (by omega) (by omega) (by simp [hba])
          refine condW_t (by decide) (condW_t (by decide) ⟨_, x1, _, _, _, x1, ?_⟩)
          rw [hw6, hw4]
          exact condW_t (by decide) ⟨_, x0, _, _, _, x0, _, _, _, _, m2, condW_f rfl rfl⟩
      · refine .stop (.exit 0 [(0, iG z g e), (4, .ptr 25 0 [.own true 3 1 [], .own true 3 1 []]), (7, .own false 23 1 (rws (pcR false [a, b]))), (43, iI 2), (44, iI 2)]) (wpQ_way (q13_l0a _ _ z (syms g) e true [] true [] false (rws (pcR false [a, b])) 2 2 _) (condW_f (by decide) rfl)) rfl (by simp [blkO])) i hi
end Go.Proofs.YtmldmhbdeejcnaaDoor.Ab

/- Chapter 16's law SimpHolds: what it needs. No condition. -/
set_option linter.unusedVariables false
set_option linter.unusedSimpArgs false
set_option maxRecDepth 100000
namespace Go.Proofs.YtmldmhbdeejcnaaDoor.Ab
open Go Go.Ab Go.Qu Go.Proofs
theorem w_unitU (lz tz cz : Bool) (le te ce : List D) (l : LitR) : C 36 [iC ⟨lz, [l], le, tz, [], te, cz, [], ce⟩] = some (iB true, [iC ⟨lz, [l], le, tz, [], te, cz, [], ce⟩]) := by
  refine wfn (lk := []) rfl rfl (fnW_way (q36 _ _ lz (lits [l]) le tz (rws []) te cz (lits []) ce _) ?_)
  exact condW_t rfl (condW_t rfl (condW_t rfl rfl))
abbrev noRule : IV := .tup [.agg [.own true 3 1 [], .own true 3 1 []], iB false, iI 0]
theorem w_ruleU (z : Bool) {g : List Sym} (e : List D) (lz tz cz : Bool) (le te ce : List D) {l : LitR} (hc : clB g ⟨lz, [l], le, tz, [], te, cz, [], ce⟩ = true) (hz : l.r.z = true → l.r.l = []) :
    ∃ v, C 13 [iG z g e, iC ⟨lz, [l], le, tz, [], te, cz, [], ce⟩] = some (v, [iG z g e, iC ⟨lz, [l], le, tz, [], te, cz, [], ce⟩]) ∧ (v = noRule ∨ ∃ a b L R, l.neg = false ∧ l.r.l = 0 :: (a ++ b) ∧ One g a ∧ One g b ∧ ((L = a ∧ R = b) ∨ (L = b ∧ R = a)) ∧ moB g L R = true ∧ v = .tup [.agg [.own false 3 1 (ints L), .own false 3 1 (ints R)], iB true, iI 0]) := by
  have h1 := w_clmay z g e ⟨lz, [l], le, tz, [], te, cz, [], ce⟩
  rw [hc] at h1
  have ha : atomB g l.r.l = true := lit_atom hc (by simp)
  have hg := sigOk (atom_sig ha)
  obtain ⟨p, r, hpr, hp0, hrow⟩ := atom_cons ha
  have hr48 := (rowB_parts hrow).2.1
  obtain ⟨neg, ⟨rz, rl, re⟩⟩ := l
  dsimp only at hpr hz ha
  subst hpr
  have hrz : rz = false := by
    cases rz with
    | false => rfl
    | true => have := hz rfl; cases this
  subst hrz
  cases neg with
  | true =>
    refine ⟨_, wfn (lk := []) rfl rfl (fnW_way (q13 _ _ z (syms g) e lz (lits [⟨true, ⟨false, p :: r, re⟩⟩]) le tz (rws []) te cz (lits []) ce _) ?_), .inl rfl⟩
    exact ⟨_, _, _, h1, condW_t rfl ⟨_, _, w_unitU lz tz cz le te ce _, condW_t rfl ⟨_, _, _, _, rfl, condW_t rfl rfl⟩⟩⟩
  | false =>
    by_cases hp : p = 0
    · subst hp
      obtain ⟨a, b, rfl, ha1, hb1⟩ := eq_sides ha
      have hla := lenN_le ha1
      have hlb := lenN_le hb1
      have hlab : a.length + b.length ≤ 48 := by simpa using hr48
      have hn : lenN g (a ++ b) 2 = some (a ++ b).length := by
        have k1 := lenN_split (r := a ++ b) (n := 1) 1 (lenN_app b ha1)
        rw [List.drop_left, hb1] at k1
        rw [show (2 : Nat) = 1 + 1 from rfl, k1]; simp
      have hp : pcs g (a ++ b) = [a, b] := by
        have := pcs_flat (g := g) (ts := [a, b]) (fun x hx => by
          simp at hx
          rcases hx with rfl | rfl
          · exact ha1
          · exact hb1)
        simpa using this
      have hs := w_sides hg z false e re (c := 0) (r := a ++ b) (by simp; omega) hn
      rw [hp] at hs
      have hl := l_rule z g e (a := a) (b := b) (by unfold Len; omega) (by unfold Len; omega) 0 (by omega)
      cases hab : moB g a b with
      | true =>
        rw [if_pos ⟨rfl, hab⟩] at hl
        refine ⟨_, wfn (lk := []) rfl rfl (fnW_way (q13 _ _ z (syms g) e lz (lits [⟨false, ⟨false, 0 :: (a ++ b), re⟩⟩]) le tz (rws []) te cz (lits []) ce _) ?_), .inr ⟨a, b, a, b, rfl, rfl, ha1, hb1, .inl ⟨rfl, rfl⟩, hab, rfl⟩⟩
        exact ⟨_, _, _, h1, condW_t rfl ⟨_, _, w_unitU lz tz cz le te ce _, condW_t rfl ⟨_, _, _, _, rfl, condW_f rfl ⟨_, _, _, _, rfl, _, rfl, condW_f rfl ⟨_, _, _, _, rfl, _, _, _, _, hs, .inl ⟨_, _, _, _, _, _, hl, rfl⟩⟩⟩⟩⟩⟩
      | false =>
        rw [if_neg (by simp [hab])] at hl
        cases hba : moB g b a with
        | true =>
          rw [if_pos ⟨by omega, hba⟩] at hl
          refine ⟨_, wfn (lk := []) rfl rfl (fnW_way (q13 _ _ z (syms g) e lz (lits [⟨false, ⟨false, 0 :: (a ++ b), re⟩⟩]) le tz (rws []) te cz (lits []) ce _) ?_), .inr ⟨a, b, b, a, rfl, rfl, ha1, hb1, .inr ⟨rfl, rfl⟩, hba, rfl⟩⟩
          exact ⟨_, _, _, h1, condW_t rfl ⟨_, _, w_unitU lz tz cz le te ce _, condW_t rfl ⟨_, _, _, _, rfl, condW_f rfl ⟨_, _, _, _, rfl, _, rfl, condW_f rfl ⟨_, _, _, _, rfl, _, _, _, _, hs, .inl ⟨_, _, _, _, _, _, hl, rfl⟩⟩⟩⟩⟩⟩
        | false =>
          rw [if_neg (by simp [hba])] at hl
          refine ⟨_, wfn (lk := []) rfl rfl (fnW_way (q13 _ _ z (syms g) e lz (lits [⟨false, ⟨false, 0 :: (a ++ b), re⟩⟩]) le tz (rws []) te cz (lits []) ce _) ?_), .inl rfl⟩
          exact ⟨_, _, _, h1, condW_t rfl ⟨_, _, w_unitU lz tz cz le te ce _, condW_t rfl ⟨_, _, _, _, rfl, condW_f rfl ⟨_, _, _, _, rfl, _, rfl, condW_f rfl ⟨_, _, _, _, rfl, _, _, _, _, hs, .inr ⟨_, _, _, _, _, _, _, _, _, _, _, hl, rfl⟩⟩⟩⟩⟩⟩
    · refine ⟨_, wfn (lk := []) rfl rfl (fnW_way (q13 _ _ z (syms g) e lz (lits [⟨false, ⟨false, p :: r, re⟩⟩]) le tz (rws []) te cz (lits []) ce _) ?_), .inl rfl⟩
      exact ⟨_, _, _, h1, condW_t rfl ⟨_, _, w_unitU lz tz cz le te ce _, condW_t rfl ⟨_, _, _, _, rfl, condW_f rfl ⟨_, _, _, _, rfl, _, rfl, condW_t (by simpa using hp) rfl⟩⟩⟩⟩
theorem mo_ru {g : List Sym} {a b : List Int} (ha : oneB g a = true) (hb : oneB g b = true) (h : moB g a b = true) : ruB g a b = true := by
  unfold ruB
  rw [ha, hb]
  exact h
/-- What holds of a clause without the opposites of a unit's instances. -/
theorem cut_same {g : List Sym} {sz : Int} (hs : 1 ≤ sz) {ns : List Int} {un : Bool} {ua : List Int} (hu : atomB g ua = true) (hun : ∀ env, inR sz env → litH g (tvM sz ns) (pvM ns) env (un, ua) = true) {d : Cl} (hd : clB g d = true) : holdsM g sz ns (anewC (cutC g un ua d)).c ↔ holdsM g sz ns d.c := by
  have hk := clOk.1 ((clB_c g d).symm.trans hd)
  have hk2 := clOk.1 ((clB_c g _).symm.trans (cutC_ok (un := un) (ua := ua) hd))
  have h1 := holds_norm (tv := tvM sz ns) (pv := pvM ns) (qv := qvM ns) hk2 sz
  have h2 := cut_holds (tv := tvM sz ns) (pv := pvM ns) (qv := qvM ns) hs (fun c l => tv_in hs ns c l) (u := (un, ua)) hu hun hk (q := fun l => !cutP g un ua l) (fun l hl hq => by
    have hc : cutP g un ua l = true := by simpa using hq
    unfold cutP at hc
    rw [Bool.and_eq_true] at hc
    refine ⟨by simpa using hc.1, ?_⟩
    obtain ⟨u, hu2⟩ := Option.isSome_iff_exists.1 hc.2
    obtain ⟨_, h5, h6⟩ := list_u hu2
    exact ⟨_, h5, h6⟩)
  have e1 : (cutC g un ua d).c = ⟨d.c.ls.filter fun l => !cutP g un ua l, d.c.ts, d.c.cs⟩ := by rw [cutC_c, keptC_c]
  unfold holdsM
  rw [anew_c]
  rw [e1] at h1 ⊢
  exact h1.trans h2
theorem rw_same' {g : List Sym} {sz : Int} (hs : 1 ≤ sz) {ns : List Int} {L R : List Int} (hru : ruB g L R = true) (hE : ∀ env, inR sz env → evT g (tvM sz ns) env L 1 = evT g (tvM sz ns) env R 1) {d : Cl} (hd : clB g d = true) {ys : List LitR} (hy : clB g (rwC ys d) = true) (hl : ys.length = d.ls.length) (hyy : ∀ (j : Nat) a b, d.ls[j]? = some a → ys[j]? = some b → RW g L R a b) : holdsM g sz ns (anewC (rwC ys d)).c ↔ holdsM g sz ns d.c := by
  have hk := clOk.1 ((clB_c g d).symm.trans hd)
  have hk2 := clOk.1 ((clB_c g _).symm.trans hy)
  obtain ⟨_, k1, k2, _, _, hmore⟩ := ru_more hru
  have h1 := holds_norm (tv := tvM sz ns) (pv := pvM ns) (qv := qvM ns) hk2 sz
  have h2 := rw_holds (tv := tvM sz ns) (pv := pvM ns) (qv := qvM ns) hs (fun c l => tv_in hs ns c l) k1 k2 (more_sub k2 hmore) hE hk hk2 (by simp [Cl.c, rwC, hl]) (fun i a b ha hb => by
    simp only [Cl.c, rwC, List.getElem?_map, Option.map_eq_some_iff] at ha hb
    obtain ⟨x, hx, rfl⟩ := ha
    obtain ⟨y, hy2, rfl⟩ := hb
    obtain ⟨q1, _, p, r, y', k, q2, q3, q4⟩ := hyy i x y hx hy2
    exact ⟨q1, p, r, y', k, q2, q3, q4⟩) (by simp only [Cl.c, rwC]; exact cpR_c d.ts) (by simp only [Cl.c, rwC]; exact cpL_c d.cs)
  unfold holdsM
  rw [anew_c]
  exact h1.trans h2
end Go.Proofs.YtmldmhbdeejcnaaDoor.Ab

/- Written by a program of this session (wip/tools/AbSym.lean). Not trusted: Lean checks it. -/
set_option maxRecDepth 100000
set_option linter.unusedVariables false
namespace Go.Proofs.YtmldmhbdeejcnaaDoor.Ab
open Go Go.Ab Go.Proofs
def L7 : Lps := fun b => match b with
  | _ => [.norm []]
theorem q7 (C J) (z1 : Bool) (x2 : List D) (e3 : List D) (z4 : Bool) (x5 : List D) (e6 : List D) (z7 : Bool) (x8 : List D) (e9 : List D) (z10 : Bool) (x11 : List D) (e12 : List D) (z13 : Bool) (x14 : List D) (e15 : List D) (z16 : Bool) (x17 : List D) (e18 : List D) (z19 : Bool) (x20 : List D) (e21 : List D) (i22 : Int) (z23 : Bool) (x24 : List D) (e25 : List D) (Q) : fnW F C R (L7) J d7 [.d (.sl 4 z1 x2 e3), .d (.agg [.sl 2 z4 x5 e6, .sl 1 z7 x8 e9, .sl 2 z10 x11 e12]), .d (.agg [.sl 2 z13 x14 e15, .sl 1 z16 x17 e18, .sl 2 z19 x20 e21]), .d (.int .i64 i22), .d (.sl 1 z23 x24 e25)] Q = (∃ w0, C 8 [] = some (IV.d (D.bool w0), []) ∧ condW w0 (∃ w1 w2 w3 w4 w5, C 20 [IV.d (D.sl 4 z1 x2 e3), IV.d (D.agg [D.sl 2 z4 x5 e6, D.sl 1 z7 x8 e9, D.sl 2 z10 x11 e12])] = some (IV.tup [IV.own w1 3 1 w2, IV.d (D.int IntKind.i64 w3)], [IV.d w4, IV.d w5]) ∧ ∃ w6 w7 w8 w9 w10, C 20 [IV.d (D.sl 4 z1 x2 e3), IV.d (D.agg [D.sl 2 z13 x14 e15, D.sl 1 z16 x17 e18, D.sl 2 z19 x20 e21])] = some (IV.tup [IV.own w6 3 1 w7, IV.d (D.int IntKind.i64 w8)], [IV.d w9, IV.d w10]) ∧ ∃ w11 w12, C 11 [IV.d (D.int IntKind.i64 w3)] = some (IV.d (D.int IntKind.i64 w11), [IV.d w12]) ∧ condW (w11 != 0) (Q (some (IV.d (D.bool true), [IV.d (D.sl 4 z1 x2 e3), IV.d (D.agg [D.sl 2 z4 x5 e6, D.sl 1 z7 x8 e9, D.sl 2 z10 x11 e12]), IV.d (D.agg [D.sl 2 z13 x14 e15, D.sl 1 z16 x17 e18, D.sl 2 z19 x20 e21]), IV.d (D.int IntKind.i64 i22), IV.d (D.sl 1 z23 x24 e25)]))) (∃ w13 w14, C 11 [IV.d (D.int IntKind.i64 w8)] = some (IV.d (D.int IntKind.i64 w13), [IV.d w14]) ∧ condW (w13 != 0) (Q (some (IV.d (D.bool true), [IV.d (D.sl 4 z1 x2 e3), IV.d (D.agg [D.sl 2 z4 x5 e6, D.sl 1 z7 x8 e9, D.sl 2 z10 x11 e12]), IV.d (D.agg [D.sl 2 z13 x14 e15, D.sl 1 z16 x17 e18, D.sl 2 z19 x20 e21]), IV.d (D.int IntKind.i64 i22), IV.d (D.sl 1 z23 x24 e25)]))) (condW ((↑(List.length x24) : Int) == 0) (Q (some (IV.d (D.bool true), [IV.d (D.sl 4 z1 x2 e3), IV.d (D.agg [D.sl 2 z4 x5 e6, D.sl 1 z7 x8 e9, D.sl 2 z10 x11 e12]), IV.d (D.agg [D.sl 2 z13 x14 e15, D.sl 1 z16 x17 e18, D.sl 2 z19 x20 e21]), IV.d (D.int IntKind.i64 i22), IV.d (D.sl 1 z23 x24 e25)]))) (∃ w15 w16, C 21 [IV.d (D.sl 1 w1 w2 [])] = some (IV.d (D.bool w15), [IV.d w16]) ∧ condW w15 (∃ w17 w18, C 21 [IV.d (D.sl 1 w6 w7 [])] = some (IV.d (D.bool w17), [IV.d w18]) ∧ condW w17 (condW ((↑(List.length x5) : Int) != 1) (Q (some (IV.d (D.bool true), [IV.d (D.sl 4 z1 x2 e3), IV.d (D.agg [D.sl 2 z4 x5 e6, D.sl 1 z7 x8 e9, D.sl 2 z10 x11 e12]), IV.d (D.agg [D.sl 2 z13 x14 e15, D.sl 1 z16 x17 e18, D.sl 2 z19 x20 e21]), IV.d (D.int IntKind.i64 i22), IV.d (D.sl 1 z23 x24 e25)]))) (condW (decide (IntKind.wrap IntKind.i64 ((↑(List.length x8) : Int) + (↑(List.length x11) : Int)) > 0)) (Q (some (IV.d (D.bool true), [IV.d (D.sl 4 z1 x2 e3), IV.d (D.agg [D.sl 2 z4 x5 e6, D.sl 1 z7 x8 e9, D.sl 2 z10 x11 e12]), IV.d (D.agg [D.sl 2 z13 x14 e15, D.sl 1 z16 x17 e18, D.sl 2 z19 x20 e21]), IV.d (D.int IntKind.i64 i22), IV.d (D.sl 1 z23 x24 e25)]))) (∃ w19 w20 w21 w22 w23 w24, C 22 [IV.d (D.int IntKind.i64 i22), IV.d (D.sl 1 z23 x24 e25)] = some (IV.d (D.agg [D.int IntKind.i64 w19, D.sl 1 w20 w21 w22]), [IV.d w23, IV.d w24]) ∧ ∃ w25 w26 w27 w28, C 23 [IV.d (D.agg [D.int IntKind.i64 w19, D.sl 1 w20 w21 w22]), IV.d (D.sl 4 z1 x2 e3), IV.d (D.agg [D.sl 2 z4 x5 e6, D.sl 1 z7 x8 e9, D.sl 2 z10 x11 e12])] = some (IV.d (D.bool w25), [IV.d w26, IV.d w27, IV.d w28]) ∧ condW w25 (∃ w29 w30 w31 w32, C 23 [IV.d (D.agg [D.int IntKind.i64 w19, D.sl 1 w20 w21 w22]), IV.d (D.sl 4 z1 x2 e3), IV.d (D.agg [D.sl 2 z13 x14 e15, D.sl 1 z16 x17 e18, D.sl 2 z19 x20 e21])] = some (IV.d (D.bool w29), [IV.d w30, IV.d w31, IV.d w32]) ∧ condW w29 (∃ w33 w34 w35 w36, x5[0]? = some (D.agg [D.bool w33, D.sl 1 w34 w35 w36]) ∧ ((∃ w37 w38 w39 w40 w41 w42 w43 w44 w45 w46 w47, C 16 [IV.d (D.sl 4 z1 x2 e3), IV.d (D.agg [D.bool w33, D.sl 1 w34 w35 w36]), IV.d (D.agg [D.sl 2 z13 x14 e15, D.sl 1 z16 x17 e18, D.sl 2 z19 x20 e21])] = some (IV.tup [IV.agg [IV.own w37 35 2 w38, IV.own w39 23 1 w40, IV.own w41 35 2 w42], IV.d (D.int IntKind.i64 w43), IV.d (D.int IntKind.i64 w44)], [IV.d w45, IV.d w46, IV.d w47]) ∧ ∃ w48 w49, C 11 [IV.d (D.int IntKind.i64 w44)] = some (IV.d (D.int IntKind.i64 w48), [IV.d w49]) ∧ condW (w48 != 0) (Q (some (IV.d (D.bool false), [IV.d (D.sl 4 z1 x2 e3), IV.d (D.agg [D.sl 2 z4 x5 e6, D.sl 1 z7 x8 e9, D.sl 2 z10 x11 e12]), IV.d (D.agg [D.sl 2 z13 x14 e15, D.sl 1 z16 x17 e18, D.sl 2 z19 x20 e21]), IV.d (D.int IntKind.i64 i22), IV.d (D.sl 1 z23 x24 e25)]))) (∃ w50 w51 w52, C 12 [IV.d (D.sl 4 z1 x2 e3), IV.d (D.agg [D.sl 2 w37 w38 [], D.sl 1 w39 w40 [], D.sl 2 w41 w42 []])] = some (IV.d (D.bool w50), [IV.d w51, IV.d w52]) ∧ condW w50 (∃ w53 w54 w55 w56, C 23 [IV.d (D.agg [D.int IntKind.i64 w19, D.sl 1 w20 w21 w22]), IV.d (D.sl 4 z1 x2 e3), IV.d (D.agg [D.sl 2 w37 w38 [], D.sl 1 w39 w40 [], D.sl 2 w41 w42 []])] = some (IV.d (D.bool w53), [IV.d w54, IV.d w55, IV.d w56]) ∧ condW w53 (∃ w57 w58 w59 w60 w61 w62 w63 w64, C 13 [IV.d (D.sl 4 z1 x2 e3), IV.d (D.agg [D.sl 2 z4 x5 e6, D.sl 1 z7 x8 e9, D.sl 2 z10 x11 e12])] = some (IV.tup [IV.agg [IV.own w57 3 1 w58, IV.own w59 3 1 w60], IV.d (D.bool w61), IV.d (D.int IntKind.i64 w62)], [IV.d w63, IV.d w64]) ∧ condW w61 (∃ w65 w66, C 11 [IV.d (D.int IntKind.i64 w62)] = some (IV.d (D.int IntKind.i64 w65), [IV.d w66]) ∧ condW (w65 != 0) (∃ w67 w68, C 11 [IV.d (D.int IntKind.i64 w62)] = some (IV.d (D.int IntKind.i64 w67), [IV.d w68]) ∧ condW (w67 == 0) (Q (some (IV.d (D.bool true), [IV.d (D.sl 4 z1 x2 e3), IV.d (D.agg [D.sl 2 z4 x5 e6, D.sl 1 z7 x8 e9, D.sl 2 z10 x11 e12]), IV.d (D.agg [D.sl 2 z13 x14 e15, D.sl 1 z16 x17 e18, D.sl 2 z19 x20 e21]), IV.d (D.int IntKind.i64 i22), IV.d (D.sl 1 z23 x24 e25)]))) (Q (some (IV.d (D.bool false), [IV.d (D.sl 4 z1 x2 e3), IV.d (D.agg [D.sl 2 z4 x5 e6, D.sl 1 z7 x8 e9, D.sl 2 z10 x11 e12]), IV.d (D.agg [D.sl 2 z13 x14 e15, D.sl 1 z16 x17 e18, D.sl 2 z19 x20 e21]), IV.d (D.int IntKind.i64 i22), IV.d (D.sl 1 z23 x24 e25)])))) ((∃ w69 w70 w71 w72 w73, C 24 [IV.d (D.sl 4 z1 x2 e3), IV.d (D.agg [D.sl 1 w57 w58 [], D.sl 1 w59 w60 []]), IV.d (D.agg [D.sl 2 z13 x14 e15, D.sl 1 z16 x17 e18, D.sl 2 z19 x20 e21])] = some (IV.tup [IV.d (D.agg [D.sl 2 true [] [], D.sl 1 true [] [], D.sl 2 true [] []]), IV.d (D.int IntKind.i64 w69), IV.d (D.int IntKind.i64 w70)], [IV.d w71, IV.d w72, IV.d w73]) ∧ ∃ w74 w75, C 11 [IV.d (D.int IntKind.i64 w70)] = some (IV.d (D.int IntKind.i64 w74), [IV.d w75]) ∧ condW (w74 != 0) (Q (some (IV.d (D.bool true), [IV.d (D.sl 4 z1 x2 e3), IV.d (D.agg [D.sl 2 z4 x5 e6, D.sl 1 z7 x8 e9, D.sl 2 z10 x11 e12]), IV.d (D.agg [D.sl 2 z13 x14 e15, D.sl 1 z16 x17 e18, D.sl 2 z19 x20 e21]), IV.d (D.int IntKind.i64 i22), IV.d (D.sl 1 z23 x24 e25)]))) (∃ w76 w77 w78, C 12 [IV.d (D.sl 4 z1 x2 e3), IV.d (D.agg [D.sl 2 true [] [], D.sl 1 true [] [], D.sl 2 true [] []])] = some (IV.d (D.bool w76), [IV.d w77, IV.d w78]) ∧ condW w76 (∃ w79 w80 w81 w82, C 23 [IV.d (D.agg [D.int IntKind.i64 w19, D.sl 1 w20 w21 w22]), IV.d (D.sl 4 z1 x2 e3), IV.d (D.agg [D.sl 2 true [] [], D.sl 1 true [] [], D.sl 2 true [] []])] = some (IV.d (D.bool w79), [IV.d w80, IV.d w81, IV.d w82]) ∧ condW w79 (Q (some (IV.d (D.bool true), [IV.d (D.sl 4 z1 x2 e3), IV.d (D.agg [D.sl 2 z4 x5 e6, D.sl 1 z7 x8 e9, D.sl 2 z10 x11 e12]), IV.d (D.agg [D.sl 2 z13 x14 e15, D.sl 1 z16 x17 e18, D.sl 2 z19 x20 e21]), IV.d (D.int IntKind.i64 i22), IV.d (D.sl 1 z23 x24 e25)]))) (Q (some (IV.d (D.bool false), [IV.d (D.sl 4 z1 x2 e3), IV.d (D.agg [D.sl 2 z4 x5 e6, D.sl 1 z7 x8 e9, D.sl 2 z10 x11 e12]), IV.d (D.agg [D.sl 2 z13 x14 e15, D.sl 1 z16 x17 e18, D.sl 2 z19 x20 e21]), IV.d (D.int IntKind.i64 i22), IV.d (D.sl 1 z23 x24 e25)])))) (Q (some (IV.d (D.bool false), [IV.d (D.sl 4 z1 x2 e3), IV.d (D.agg [D.sl 2 z4 x5 e6, D.sl 1 z7 x8 e9, D.sl 2 z10 x11 e12]), IV.d (D.agg [D.sl 2 z13 x14 e15, D.sl 1 z16 x17 e18, D.sl 2 z19 x20 e21]), IV.d (D.int IntKind.i64 i22), IV.d (D.sl 1 z23 x24 e25)]))))) ∨ ∃ w83 w84 w85 w86 w87 w88 w89 w90 w91 w92 w93, C 24 [IV.d (D.sl 4 z1 x2 e3), IV.d (D.agg [D.sl 1 w57 w58 [], D.sl 1 w59 w60 []]), IV.d (D.agg [D.sl 2 z13 x14 e15, D.sl 1 z16 x17 e18, D.sl 2 z19 x20 e21])] = some (IV.tup [IV.agg [IV.own w83 35 2 w84, IV.own w85 23 1 w86, IV.own w87 35 2 w88], IV.d (D.int IntKind.i64 w89), IV.d (D.int IntKind.i64 w90)], [IV.d w91, IV.d w92, IV.d w93]) ∧ ∃ w94 w95, C 11 [IV.d (D.int IntKind.i64 w90)] = some (IV.d (D.int IntKind.i64 w94), [IV.d w95]) ∧ condW (w94 != 0) (Q (some (IV.d (D.bool true), [IV.d (D.sl 4 z1 x2 e3), IV.d (D.agg [D.sl 2 z4 x5 e6, D.sl 1 z7 x8 e9, D.sl 2 z10 x11 e12]), IV.d (D.agg [D.sl 2 z13 x14 e15, D.sl 1 z16 x17 e18, D.sl 2 z19 x20 e21]), IV.d (D.int IntKind.i64 i22), IV.d (D.sl 1 z23 x24 e25)]))) (∃ w96 w97 w98, C 12 [IV.d (D.sl 4 z1 x2 e3), IV.d (D.agg [D.sl 2 w83 w84 [], D.sl 1 w85 w86 [], D.sl 2 w87 w88 []])] = some (IV.d (D.bool w96), [IV.d w97, IV.d w98]) ∧ condW w96 (∃ w99 w100 w101 w102, C 23 [IV.d (D.agg [D.int IntKind.i64 w19, D.sl 1 w20 w21 w22]), IV.d (D.sl 4 z1 x2 e3), IV.d (D.agg [D.sl 2 w83 w84 [], D.sl 1 w85 w86 [], D.sl 2 w87 w88 []])] = some (IV.d (D.bool w99), [IV.d w100, IV.d w101, IV.d w102]) ∧ condW w99 (Q (some (IV.d (D.bool true), [IV.d (D.sl 4 z1 x2 e3), IV.d (D.agg [D.sl 2 z4 x5 e6, D.sl 1 z7 x8 e9, D.sl 2 z10 x11 e12]), IV.d (D.agg [D.sl 2 z13 x14 e15, D.sl 1 z16 x17 e18, D.sl 2 z19 x20 e21]), IV.d (D.int IntKind.i64 i22), IV.d (D.sl 1 z23 x24 e25)]))) (Q (some (IV.d (D.bool false), [IV.d (D.sl 4 z1 x2 e3), IV.d (D.agg [D.sl 2 z4 x5 e6, D.sl 1 z7 x8 e9, D.sl 2 z10 x11 e12]), IV.d (D.agg [D.sl 2 z13 x14 e15, D.sl 1 z16 x17 e18, D.sl 2 z19 x20 e21]), IV.d (D.int IntKind.i64 i22), IV.d (D.sl 1 z23 x24 e25)])))) (Q (some (IV.d (D.bool false), [IV.d (D.sl 4 z1 x2 e3), IV.d (D.agg [D.sl 2 z4 x5 e6, D.sl 1 z7 x8 e9, D.sl 2 z10 x11 e12]), IV.d (D.agg [D.sl 2 z13 x14 e15, D.sl 1 z16 x17 e18, D.sl 2 z19 x20 e21]), IV.d (D.int IntKind.i64 i22), IV.d (D.sl 1 z23 x24 e25)])))))) (∃ w103 w104, C 11 [IV.d (D.int IntKind.i64 w62)] = some (IV.d (D.int IntKind.i64 w103), [IV.d w104]) ∧ condW (w103 != 0) (∃ w105 w106, C 11 [IV.d (D.int IntKind.i64 w62)] = some (IV.d (D.int IntKind.i64 w105), [IV.d w106]) ∧ condW (w105 == 0) (Q (some (IV.d (D.bool true), [IV.d (D.sl 4 z1 x2 e3), IV.d (D.agg [D.sl 2 z4 x5 e6, D.sl 1 z7 x8 e9, D.sl 2 z10 x11 e12]), IV.d (D.agg [D.sl 2 z13 x14 e15, D.sl 1 z16 x17 e18, D.sl 2 z19 x20 e21]), IV.d (D.int IntKind.i64 i22), IV.d (D.sl 1 z23 x24 e25)]))) (Q (some (IV.d (D.bool false), [IV.d (D.sl 4 z1 x2 e3), IV.d (D.agg [D.sl 2 z4 x5 e6, D.sl 1 z7 x8 e9, D.sl 2 z10 x11 e12]), IV.d (D.agg [D.sl 2 z13 x14 e15, D.sl 1 z16 x17 e18, D.sl 2 z19 x20 e21]), IV.d (D.int IntKind.i64 i22), IV.d (D.sl 1 z23 x24 e25)])))) (∃ w107 w108, C 11 [IV.d (D.int IntKind.i64 w62)] = some (IV.d (D.int IntKind.i64 w107), [IV.d w108]) ∧ condW (w107 == 0) (Q (some (IV.d (D.bool true), [IV.d (D.sl 4 z1 x2 e3), IV.d (D.agg [D.sl 2 z4 x5 e6, D.sl 1 z7 x8 e9, D.sl 2 z10 x11 e12]), IV.d (D.agg [D.sl 2 z13 x14 e15, D.sl 1 z16 x17 e18, D.sl 2 z19 x20 e21]), IV.d (D.int IntKind.i64 i22), IV.d (D.sl 1 z23 x24 e25)]))) (Q (some (IV.d (D.bool false), [IV.d (D.sl 4 z1 x2 e3), IV.d (D.agg [D.sl 2 z4 x5 e6, D.sl 1 z7 x8 e9, D.sl 2 z10 x11 e12]), IV.d (D.agg [D.sl 2 z13 x14 e15, D.sl 1 z16 x17 e18, D.sl 2 z19 x20 e21]), IV.d (D.int IntKind.i64 i22), IV.d (D.sl 1 z23 x24 e25)])))))) (Q (some (IV.d (D.bool false), [IV.d (D.sl 4 z1 x2 e3), IV.d (D.agg [D.sl 2 z4 x5 e6, D.sl 1 z7 x8 e9, D.sl 2 z10 x11 e12]), IV.d (D.agg [D.sl 2 z13 x14 e15, D.sl 1 z16 x17 e18, D.sl 2 z19 x20 e21]), IV.d (D.int IntKind.i64 i22), IV.d (D.sl 1 z23 x24 e25)])))) (Q (some (IV.d (D.bool false), [IV.d (D.sl 4 z1 x2 e3), IV.d (D.agg [D.sl 2 z4 x5 e6, D.sl 1 z7 x8 e9, D.sl 2 z10 x11 e12]), IV.d (D.agg [D.sl 2 z13 x14 e15, D.sl 1 z16 x17 e18, D.sl 2 z19 x20 e21]), IV.d (D.int IntKind.i64 i22), IV.d (D.sl 1 z23 x24 e25)]))))) ∨ ∃ w109 w110 w111 w112 w113, C 16 [IV.d (D.sl 4 z1 x2 e3), IV.d (D.agg [D.bool w33, D.sl 1 w34 w35 w36]), IV.d (D.agg [D.sl 2 z13 x14 e15, D.sl 1 z16 x17 e18, D.sl 2 z19 x20 e21])] = some (IV.tup [IV.d (D.agg [D.sl 2 true [] [], D.sl 1 true [] [], D.sl 2 true [] []]), IV.d (D.int IntKind.i64 w109), IV.d (D.int IntKind.i64 w110)], [IV.d w111, IV.d w112, IV.d w113]) ∧ ∃ w114 w115, C 11 [IV.d (D.int IntKind.i64 w110)] = some (IV.d (D.int IntKind.i64 w114), [IV.d w115]) ∧ condW (w114 != 0) (Q (some (IV.d (D.bool false), [IV.d (D.sl 4 z1 x2 e3), IV.d (D.agg [D.sl 2 z4 x5 e6, D.sl 1 z7 x8 e9, D.sl 2 z10 x11 e12]), IV.d (D.agg [D.sl 2 z13 x14 e15, D.sl 1 z16 x17 e18, D.sl 2 z19 x20 e21]), IV.d (D.int IntKind.i64 i22), IV.d (D.sl 1 z23 x24 e25)]))) (∃ w116 w117 w118, C 12 [IV.d (D.sl 4 z1 x2 e3), IV.d (D.agg [D.sl 2 true [] [], D.sl 1 true [] [], D.sl 2 true [] []])] = some (IV.d (D.bool w116), [IV.d w117, IV.d w118]) ∧ condW w116 (∃ w119 w120 w121 w122, C 23 [IV.d (D.agg [D.int IntKind.i64 w19, D.sl 1 w20 w21 w22]), IV.d (D.sl 4 z1 x2 e3), IV.d (D.agg [D.sl 2 true [] [], D.sl 1 true [] [], D.sl 2 true [] []])] = some (IV.d (D.bool w119), [IV.d w120, IV.d w121, IV.d w122]) ∧ condW w119 (∃ w123 w124 w125 w126 w127 w128 w129 w130, C 13 [IV.d (D.sl 4 z1 x2 e3), IV.d (D.agg [D.sl 2 z4 x5 e6, D.sl 1 z7 x8 e9, D.sl 2 z10 x11 e12])] = some (IV.tup [IV.agg [IV.own w123 3 1 w124, IV.own w125 3 1 w126], IV.d (D.bool w127), IV.d (D.int IntKind.i64 w128)], [IV.d w129, IV.d w130]) ∧ condW w127 (∃ w131 w132, C 11 [IV.d (D.int IntKind.i64 w128)] = some (IV.d (D.int IntKind.i64 w131), [IV.d w132]) ∧ condW (w131 != 0) (∃ w133 w134, C 11 [IV.d (D.int IntKind.i64 w128)] = some (IV.d (D.int IntKind.i64 w133), [IV.d w134]) ∧ condW (w133 == 0) (Q (some (IV.d (D.bool true), [IV.d (D.sl 4 z1 x2 e3), IV.d (D.agg [D.sl 2 z4 x5 e6, D.sl 1 z7 x8 e9, D.sl 2 z10 x11 e12]), IV.d (D.agg [D.sl 2 z13 x14 e15, D.sl 1 z16 x17 e18, D.sl 2 z19 x20 e21]), IV.d (D.int IntKind.i64 i22), IV.d (D.sl 1 z23 x24 e25)]))) (Q (some (IV.d (D.bool false), [IV.d (D.sl 4 z1 x2 e3), IV.d (D.agg [D.sl 2 z4 x5 e6, D.sl 1 z7 x8 e9, D.sl 2 z10 x11 e12]), IV.d (D.agg [D.sl 2 z13 x14 e15, D.sl 1 z16 x17 e18, D.sl 2 z19 x20 e21]), IV.d (D.int IntKind.i64 i22), IV.d (D.sl 1 z23 x24 e25)])))) ((∃ w135 w136 w137 w138 w139, C 24 [IV.d (D.sl 4 z1 x2 e3), IV.d (D.agg [D.sl 1 w123 w124 [], D.sl 1 w125 w126 []]), IV.d (D.agg [D.sl 2 z13 x14 e15, D.sl 1 z16 x17 e18, D.sl 2 z19 x20 e21])] = some (IV.tup [IV.d (D.agg [D.sl 2 true [] [], D.sl 1 true [] [], D.sl 2 true [] []]), IV.d (D.int IntKind.i64 w135), IV.d (D.int IntKind.i64 w136)], [IV.d w137, IV.d w138, IV.d w139]) ∧ ∃ w140 w141, C 11 [IV.d (D.int IntKind.i64 w136)] = some (IV.d (D.int IntKind.i64 w140), [IV.d w141]) ∧ condW (w140 != 0) (Q (some (IV.d (D.bool true), [IV.d (D.sl 4 z1 x2 e3), IV.d (D.agg [D.sl 2 z4 x5 e6, D.sl 1 z7 x8 e9, D.sl 2 z10 x11 e12]), IV.d (D.agg [D.sl 2 z13 x14 e15, D.sl 1 z16 x17 e18, D.sl 2 z19 x20 e21]), IV.d (D.int IntKind.i64 i22), IV.d (D.sl 1 z23 x24 e25)]))) (∃ w142 w143 w144, C 12 [IV.d (D.sl 4 z1 x2 e3), IV.d (D.agg [D.sl 2 true [] [], D.sl 1 true [] [], D.sl 2 true [] []])] = some (IV.d (D.bool w142), [IV.d w143, IV.d w144]) ∧ condW w142 (∃ w145 w146 w147 w148, C 23 [IV.d (D.agg [D.int IntKind.i64 w19, D.sl 1 w20 w21 w22]), IV.d (D.sl 4 z1 x2 e3), IV.d (D.agg [D.sl 2 true [] [], D.sl 1 true [] [], D.sl 2 true [] []])] = some (IV.d (D.bool w145), [IV.d w146, IV.d w147, IV.d w148]) ∧ condW w145 (Q (some (IV.d (D.bool true), [IV.d (D.sl 4 z1 x2 e3), IV.d (D.agg [D.sl 2 z4 x5 e6, D.sl 1 z7 x8 e9, D.sl 2 z10 x11 e12]), IV.d (D.agg [D.sl 2 z13 x14 e15, D.sl 1 z16 x17 e18, D.sl 2 z19 x20 e21]), IV.d (D.int IntKind.i64 i22), IV.d (D.sl 1 z23 x24 e25)]))) (Q (some (IV.d (D.bool false), [IV.d (D.sl 4 z1 x2 e3), IV.d (D.agg [D.sl 2 z4 x5 e6, D.sl 1 z7 x8 e9, D.sl 2 z10 x11 e12]), IV.d (D.agg [D.sl 2 z13 x14 e15, D.sl 1 z16 x17 e18, D.sl 2 z19 x20 e21]), IV.d (D.int IntKind.i64 i22), IV.d (D.sl 1 z23 x24 e25)])))) (Q (some (IV.d (D.bool false), [IV.d (D.sl 4 z1 x2 e3), IV.d (D.agg [D.sl 2 z4 x5 e6, D.sl 1 z7 x8 e9, D.sl 2 z10 x11 e12]), IV.d (D.agg [D.sl 2 z13 x14 e15, D.sl 1 z16 x17 e18, D.sl 2 z19 x20 e21]), IV.d (D.int IntKind.i64 i22), IV.d (D.sl 1 z23 x24 e25)]))))) ∨ ∃ w149 w150 w151 w152 w153 w154 w155 w156 w157 w158 w159, C 24 [IV.d (D.sl 4 z1 x2 e3), IV.d (D.agg [D.sl 1 w123 w124 [], D.sl 1 w125 w126 []]), IV.d (D.agg [D.sl 2 z13 x14 e15, D.sl 1 z16 x17 e18, D.sl 2 z19 x20 e21])] = some (IV.tup [IV.agg [IV.own w149 35 2 w150, IV.own w151 23 1 w152, IV.own w153 35 2 w154], IV.d (D.int IntKind.i64 w155), IV.d (D.int IntKind.i64 w156)], [IV.d w157, IV.d w158, IV.d w159]) ∧ ∃ w160 w161, C 11 [IV.d (D.int IntKind.i64 w156)] = some (IV.d (D.int IntKind.i64 w160), [IV.d w161]) ∧ condW (w160 != 0) (Q (some (IV.d (D.bool true), [IV.d (D.sl 4 z1 x2 e3), IV.d (D.agg [D.sl 2 z4 x5 e6, D.sl 1 z7 x8 e9, D.sl 2 z10 x11 e12]), IV.d (D.agg [D.sl 2 z13 x14 e15, D.sl 1 z16 x17 e18, D.sl 2 z19 x20 e21]), IV.d (D.int IntKind.i64 i22), IV.d (D.sl 1 z23 x24 e25)]))) (∃ w162 w163 w164, C 12 [IV.d (D.sl 4 z1 x2 e3), IV.d (D.agg [D.sl 2 w149 w150 [], D.sl 1 w151 w152 [], D.sl 2 w153 w154 []])] = some (IV.d (D.bool w162), [IV.d w163, IV.d w164]) ∧ condW w162 (∃ w165 w166 w167 w168, C 23 [IV.d (D.agg [D.int IntKind.i64 w19, D.sl 1 w20 w21 w22]), IV.d (D.sl 4 z1 x2 e3), IV.d (D.agg [D.sl 2 w149 w150 [], D.sl 1 w151 w152 [], D.sl 2 w153 w154 []])] = some (IV.d (D.bool w165), [IV.d w166, IV.d w167, IV.d w168]) ∧ condW w165 (Q (some (IV.d (D.bool true), [IV.d (D.sl 4 z1 x2 e3), IV.d (D.agg [D.sl 2 z4 x5 e6, D.sl 1 z7 x8 e9, D.sl 2 z10 x11 e12]), IV.d (D.agg [D.sl 2 z13 x14 e15, D.sl 1 z16 x17 e18, D.sl 2 z19 x20 e21]), IV.d (D.int IntKind.i64 i22), IV.d (D.sl 1 z23 x24 e25)]))) (Q (some (IV.d (D.bool false), [IV.d (D.sl 4 z1 x2 e3), IV.d (D.agg [D.sl 2 z4 x5 e6, D.sl 1 z7 x8 e9, D.sl 2 z10 x11 e12]), IV.d (D.agg [D.sl 2 z13 x14 e15, D.sl 1 z16 x17 e18, D.sl 2 z19 x20 e21]), IV.d (D.int IntKind.i64 i22), IV.d (D.sl 1 z23 x24 e25)])))) (Q (some (IV.d (D.bool false), [IV.d (D.sl 4 z1 x2 e3), IV.d (D.agg [D.sl 2 z4 x5 e6, D.sl 1 z7 x8 e9, D.sl 2 z10 x11 e12]), IV.d (D.agg [D.sl 2 z13 x14 e15, D.sl 1 z16 x17 e18, D.sl 2 z19 x20 e21]), IV.d (D.int IntKind.i64 i22), IV.d (D.sl 1 z23 x24 e25)])))))) (∃ w169 w170, C 11 [IV.d (D.int IntKind.i64 w128)] = some (IV.d (D.int IntKind.i64 w169), [IV.d w170]) ∧ condW (w169 != 0) (∃ w171 w172, C 11 [IV.d (D.int IntKind.i64 w128)] = some (IV.d (D.int IntKind.i64 w171), [IV.d w172]) ∧ condW (w171 == 0) (Q (some (IV.d (D.bool true), [IV.d (D.sl 4 z1 x2 e3), IV.d (D.agg [D.sl 2 z4 x5 e6, D.sl 1 z7 x8 e9, D.sl 2 z10 x11 e12]), IV.d (D.agg [D.sl 2 z13 x14 e15, D.sl 1 z16 x17 e18, D.sl 2 z19 x20 e21]), IV.d (D.int IntKind.i64 i22), IV.d (D.sl 1 z23 x24 e25)]))) (Q (some (IV.d (D.bool false), [IV.d (D.sl 4 z1 x2 e3), IV.d (D.agg [D.sl 2 z4 x5 e6, D.sl 1 z7 x8 e9, D.sl 2 z10 x11 e12]), IV.d (D.agg [D.sl 2 z13 x14 e15, D.sl 1 z16 x17 e18, D.sl 2 z19 x20 e21]), IV.d (D.int IntKind.i64 i22), IV.d (D.sl 1 z23 x24 e25)])))) (∃ w173 w174, C 11 [IV.d (D.int IntKind.i64 w128)] = some (IV.d (D.int IntKind.i64 w173), [IV.d w174]) ∧ condW (w173 == 0) (Q (some (IV.d (D.bool true), [IV.d (D.sl 4 z1 x2 e3), IV.d (D.agg [D.sl 2 z4 x5 e6, D.sl 1 z7 x8 e9, D.sl 2 z10 x11 e12]), IV.d (D.agg [D.sl 2 z13 x14 e15, D.sl 1 z16 x17 e18, D.sl 2 z19 x20 e21]), IV.d (D.int IntKind.i64 i22), IV.d (D.sl 1 z23 x24 e25)]))) (Q (some (IV.d (D.bool false), [IV.d (D.sl 4 z1 x2 e3), IV.d (D.agg [D.sl 2 z4 x5 e6, D.sl 1 z7 x8 e9, D.sl 2 z10 x11 e12]), IV.d (D.agg [D.sl 2 z13 x14 e15, D.sl 1 z16 x17 e18, D.sl 2 z19 x20 e21]), IV.d (D.int IntKind.i64 i22), IV.d (D.sl 1 z23 x24 e25)])))))) (Q (some (IV.d (D.bool false), [IV.d (D.sl 4 z1 x2 e3), IV.d (D.agg [D.sl 2 z4 x5 e6, D.sl 1 z7 x8 e9, D.sl 2 z10 x11 e12]), IV.d (D.agg [D.sl 2 z13 x14 e15, D.sl 1 z16 x17 e18, D.sl 2 z19 x20 e21]), IV.d (D.int IntKind.i64 i22), IV.d (D.sl 1 z23 x24 e25)])))) (Q (some (IV.d (D.bool false), [IV.d (D.sl 4 z1 x2 e3), IV.d (D.agg [D.sl 2 z4 x5 e6, D.sl 1 z7 x8 e9, D.sl 2 z10 x11 e12]), IV.d (D.agg [D.sl 2 z13 x14 e15, D.sl 1 z16 x17 e18, D.sl 2 z19 x20 e21]), IV.d (D.int IntKind.i64 i22), IV.d (D.sl 1 z23 x24 e25)])))))) (∃ w175 w176 w177 w178, x5[0]? = some (D.agg [D.bool w175, D.sl 1 w176 w177 w178]) ∧ ((∃ w179 w180 w181 w182 w183 w184 w185 w186 w187 w188 w189, C 16 [IV.d (D.sl 4 z1 x2 e3), IV.d (D.agg [D.bool w175, D.sl 1 w176 w177 w178]), IV.d (D.agg [D.sl 2 z13 x14 e15, D.sl 1 z16 x17 e18, D.sl 2 z19 x20 e21])] = some (IV.tup [IV.agg [IV.own w179 35 2 w180, IV.own w181 23 1 w182, IV.own w183 35 2 w184], IV.d (D.int IntKind.i64 w185), IV.d (D.int IntKind.i64 w186)], [IV.d w187, IV.d w188, IV.d w189]) ∧ ∃ w190 w191, C 11 [IV.d (D.int IntKind.i64 w186)] = some (IV.d (D.int IntKind.i64 w190), [IV.d w191]) ∧ condW (w190 != 0) (Q (some (IV.d (D.bool false), [IV.d (D.sl 4 z1 x2 e3), IV.d (D.agg [D.sl 2 z4 x5 e6, D.sl 1 z7 x8 e9, D.sl 2 z10 x11 e12]), IV.d (D.agg [D.sl 2 z13 x14 e15, D.sl 1 z16 x17 e18, D.sl 2 z19 x20 e21]), IV.d (D.int IntKind.i64 i22), IV.d (D.sl 1 z23 x24 e25)]))) (∃ w192 w193 w194, C 12 [IV.d (D.sl 4 z1 x2 e3), IV.d (D.agg [D.sl 2 w179 w180 [], D.sl 1 w181 w182 [], D.sl 2 w183 w184 []])] = some (IV.d (D.bool w192), [IV.d w193, IV.d w194]) ∧ condW w192 (∃ w195 w196 w197 w198, C 23 [IV.d (D.agg [D.int IntKind.i64 w19, D.sl 1 w20 w21 w22]), IV.d (D.sl 4 z1 x2 e3), IV.d (D.agg [D.sl 2 w179 w180 [], D.sl 1 w181 w182 [], D.sl 2 w183 w184 []])] = some (IV.d (D.bool w195), [IV.d w196, IV.d w197, IV.d w198]) ∧ condW w195 (Q (some (IV.d (D.bool false), [IV.d (D.sl 4 z1 x2 e3), IV.d (D.agg [D.sl 2 z4 x5 e6, D.sl 1 z7 x8 e9, D.sl 2 z10 x11 e12]), IV.d (D.agg [D.sl 2 z13 x14 e15, D.sl 1 z16 x17 e18, D.sl 2 z19 x20 e21]), IV.d (D.int IntKind.i64 i22), IV.d (D.sl 1 z23 x24 e25)]))) (∃ w199 w200 w201 w202 w203 w204 w205 w206, C 13 [IV.d (D.sl 4 z1 x2 e3), IV.d (D.agg [D.sl 2 z4 x5 e6, D.sl 1 z7 x8 e9, D.sl 2 z10 x11 e12])] = some (IV.tup [IV.agg [IV.own w199 3 1 w200, IV.own w201 3 1 w202], IV.d (D.bool w203), IV.d (D.int IntKind.i64 w204)], [IV.d w205, IV.d w206]) ∧ condW w203 (∃ w207 w208, C 11 [IV.d (D.int IntKind.i64 w204)] = some (IV.d (D.int IntKind.i64 w207), [IV.d w208]) ∧ condW (w207 != 0) (∃ w209 w210, C 11 [IV.d (D.int IntKind.i64 w204)] = some (IV.d (D.int IntKind.i64 w209), [IV.d w210]) ∧ condW (w209 == 0) (Q (some (IV.d (D.bool true), [IV.d (D.sl 4 z1 x2 e3), IV.d (D.agg [D.sl 2 z4 x5 e6, D.sl 1 z7 x8 e9, D.sl 2 z10 x11 e12]), IV.d (D.agg [D.sl 2 z13 x14 e15, D.sl 1 z16 x17 e18, D.sl 2 z19 x20 e21]), IV.d (D.int IntKind.i64 i22), IV.d (D.sl 1 z23 x24 e25)]))) (Q (some (IV.d (D.bool false), [IV.d (D.sl 4 z1 x2 e3), IV.d (D.agg [D.sl 2 z4 x5 e6, D.sl 1 z7 x8 e9, D.sl 2 z10 x11 e12]), IV.d (D.agg [D.sl 2 z13 x14 e15, D.sl 1 z16 x17 e18, D.sl 2 z19 x20 e21]), IV.d (D.int IntKind.i64 i22), IV.d (D.sl 1 z23 x24 e25)])))) ((∃ w211 w212 w213 w214 w215, C 24 [IV.d (D.sl 4 z1 x2 e3), IV.d (D.agg [D.sl 1 w199 w200 [], D.sl 1 w201 w202 []]), IV.d (D.agg [D.sl 2 z13 x14 e15, D.sl 1 z16 x17 e18, D.sl 2 z19 x20 e21])] = some (IV.tup [IV.d (D.agg [D.sl 2 true [] [], D.sl 1 true [] [], D.sl 2 true [] []]), IV.d (D.int IntKind.i64 w211), IV.d (D.int IntKind.i64 w212)], [IV.d w213, IV.d w214, IV.d w215]) ∧ ∃ w216 w217, C 11 [IV.d (D.int IntKind.i64 w212)] = some (IV.d (D.int IntKind.i64 w216), [IV.d w217]) ∧ condW (w216 != 0) (Q (some (IV.d (D.bool true), [IV.d (D.sl 4 z1 x2 e3), IV.d (D.agg [D.sl 2 z4 x5 e6, D.sl 1 z7 x8 e9, D.sl 2 z10 x11 e12]), IV.d (D.agg [D.sl 2 z13 x14 e15, D.sl 1 z16 x17 e18, D.sl 2 z19 x20 e21]), IV.d (D.int IntKind.i64 i22), IV.d (D.sl 1 z23 x24 e25)]))) (∃ w218 w219 w220, C 12 [IV.d (D.sl 4 z1 x2 e3), IV.d (D.agg [D.sl 2 true [] [], D.sl 1 true [] [], D.sl 2 true [] []])] = some (IV.d (D.bool w218), [IV.d w219, IV.d w220]) ∧ condW w218 (∃ w221 w222 w223 w224, C 23 [IV.d (D.agg [D.int IntKind.i64 w19, D.sl 1 w20 w21 w22]), IV.d (D.sl 4 z1 x2 e3), IV.d (D.agg [D.sl 2 true [] [], D.sl 1 true [] [], D.sl 2 true [] []])] = some (IV.d (D.bool w221), [IV.d w222, IV.d w223, IV.d w224]) ∧ condW w221 (Q (some (IV.d (D.bool false), [IV.d (D.sl 4 z1 x2 e3), IV.d (D.agg [D.sl 2 z4 x5 e6, D.sl 1 z7 x8 e9, D.sl 2 z10 x11 e12]), IV.d (D.agg [D.sl 2 z13 x14 e15, D.sl 1 z16 x17 e18, D.sl 2 z19 x20 e21]), IV.d (D.int IntKind.i64 i22), IV.d (D.sl 1 z23 x24 e25)]))) (Q (some (IV.d (D.bool true), [IV.d (D.sl 4 z1 x2 e3), IV.d (D.agg [D.sl 2 z4 x5 e6, D.sl 1 z7 x8 e9, D.sl 2 z10 x11 e12]), IV.d (D.agg [D.sl 2 z13 x14 e15, D.sl 1 z16 x17 e18, D.sl 2 z19 x20 e21]), IV.d (D.int IntKind.i64 i22), IV.d (D.sl 1 z23 x24 e25)])))) (Q (some (IV.d (D.bool false), [IV.d (D.sl 4 z1 x2 e3), IV.d (D.agg [D.sl 2 z4 x5 e6, D.sl 1 z7 x8 e9, D.sl 2 z10 x11 e12]), IV.d (D.agg [D.sl 2 z13 x14 e15, D.sl 1 z16 x17 e18, D.sl 2 z19 x20 e21]), IV.d (D.int IntKind.i64 i22), IV.d (D.sl 1 z23 x24 e25)]))))) ∨ ∃ w225 w226 w227 w228 w229 w230 w231 w232 w233 w234 w235, C 24 [IV.d (D.sl 4 z1 x2 e3), IV.d (D.agg [D.sl 1 w199 w200 [], D.sl 1 w201 w202 []]), IV.d (D.agg [D.sl 2 z13 x14 e15, D.sl 1 z16 x17 e18, D.sl 2 z19 x20 e21])] = some (IV.tup [IV.agg [IV.own w225 35 2 w226, IV.own w227 23 1 w228, IV.own w229 35 2 w230], IV.d (D.int IntKind.i64 w231), IV.d (D.int IntKind.i64 w232)], [IV.d w233, IV.d w234, IV.d w235]) ∧ ∃ w236 w237, C 11 [IV.d (D.int IntKind.i64 w232)] = some (IV.d (D.int IntKind.i64 w236), [IV.d w237]) ∧ condW (w236 != 0) (Q (some (IV.d (D.bool true), [IV.d (D.sl 4 z1 x2 e3), IV.d (D.agg [D.sl 2 z4 x5 e6, D.sl 1 z7 x8 e9, D.sl 2 z10 x11 e12]), IV.d (D.agg [D.sl 2 z13 x14 e15, D.sl 1 z16 x17 e18, D.sl 2 z19 x20 e21]), IV.d (D.int IntKind.i64 i22), IV.d (D.sl 1 z23 x24 e25)]))) (∃ w238 w239 w240, C 12 [IV.d (D.sl 4 z1 x2 e3), IV.d (D.agg [D.sl 2 w225 w226 [], D.sl 1 w227 w228 [], D.sl 2 w229 w230 []])] = some (IV.d (D.bool w238), [IV.d w239, IV.d w240]) ∧ condW w238 (∃ w241 w242 w243 w244, C 23 [IV.d (D.agg [D.int IntKind.i64 w19, D.sl 1 w20 w21 w22]), IV.d (D.sl 4 z1 x2 e3), IV.d (D.agg [D.sl 2 w225 w226 [], D.sl 1 w227 w228 [], D.sl 2 w229 w230 []])] = some (IV.d (D.bool w241), [IV.d w242, IV.d w243, IV.d w244]) ∧ condW w241 (Q (some (IV.d (D.bool false), [IV.d (D.sl 4 z1 x2 e3), IV.d (D.agg [D.sl 2 z4 x5 e6, D.sl 1 z7 x8 e9, D.sl 2 z10 x11 e12]), IV.d (D.agg [D.sl 2 z13 x14 e15, D.sl 1 z16 x17 e18, D.sl 2 z19 x20 e21]), IV.d (D.int IntKind.i64 i22), IV.d (D.sl 1 z23 x24 e25)]))) (Q (some (IV.d (D.bool true), [IV.d (D.sl 4 z1 x2 e3), IV.d (D.agg [D.sl 2 z4 x5 e6, D.sl 1 z7 x8 e9, D.sl 2 z10 x11 e12]), IV.d (D.agg [D.sl 2 z13 x14 e15, D.sl 1 z16 x17 e18, D.sl 2 z19 x20 e21]), IV.d (D.int IntKind.i64 i22), IV.d (D.sl 1 z23 x24 e25)])))) (Q (some (IV.d (D.bool false), [IV.d (D.sl 4 z1 x2 e3), IV.d (D.agg [D.sl 2 z4 x5 e6, D.sl 1 z7 x8 e9, D.sl 2 z10 x11 e12]), IV.d (D.agg [D.sl 2 z13 x14 e15, D.sl 1 z16 x17 e18, D.sl 2 z19 x20 e21]), IV.d (D.int IntKind.i64 i22), IV.d (D.sl 1 z23 x24 e25)])))))) (∃ w245 w246, C 11 [IV.d (D.int IntKind.i64 w204)] = some (IV.d (D.int IntKind.i64 w245), [IV.d w246]) ∧ condW (w245 != 0) (∃ w247 w248, C 11 [IV.d (D.int IntKind.i64 w204)] = some (IV.d (D.int IntKind.i64 w247), [IV.d w248]) ∧ condW (w247 == 0) (Q (some (IV.d (D.bool true), [IV.d (D.sl 4 z1 x2 e3), IV.d (D.agg [D.sl 2 z4 x5 e6, D.sl 1 z7 x8 e9, D.sl 2 z10 x11 e12]), IV.d (D.agg [D.sl 2 z13 x14 e15, D.sl 1 z16 x17 e18, D.sl 2 z19 x20 e21]), IV.d (D.int IntKind.i64 i22), IV.d (D.sl 1 z23 x24 e25)]))) (Q (some (IV.d (D.bool false), [IV.d (D.sl 4 z1 x2 e3), IV.d (D.agg [D.sl 2 z4 x5 e6, D.sl 1 z7 x8 e9, D.sl 2 z10 x11 e12]), IV.d (D.agg [D.sl 2 z13 x14 e15, D.sl 1 z16 x17 e18, D.sl 2 z19 x20 e21]), IV.d (D.int IntKind.i64 i22), IV.d (D.sl 1 z23 x24 e25)])))) (∃ w249 w250, C 11 [IV.d (D.int IntKind.i64 w204)] = some (IV.d (D.int IntKind.i64 w249), [IV.d w250]) ∧ condW (w249 == 0) (Q (some (IV.d (D.bool true), [IV.d (D.sl 4 z1 x2 e3), IV.d (D.agg [D.sl 2 z4 x5 e6, D.sl 1 z7 x8 e9, D.sl 2 z10 x11 e12]), IV.d (D.agg [D.sl 2 z13 x14 e15, D.sl 1 z16 x17 e18, D.sl 2 z19 x20 e21]), IV.d (D.int IntKind.i64 i22), IV.d (D.sl 1 z23 x24 e25)]))) (Q (some (IV.d (D.bool false), [IV.d (D.sl 4 z1 x2 e3), IV.d (D.agg [D.sl 2 z4 x5 e6, D.sl 1 z7 x8 e9, D.sl 2 z10 x11 e12]), IV.d (D.agg [D.sl 2 z13 x14 e15, D.sl 1 z16 x17 e18, D.sl 2 z19 x20 e21]), IV.d (D.int IntKind.i64 i22), IV.d (D.sl 1 z23 x24 e25)]))))))) (Q (some (IV.d (D.bool false), [IV.d (D.sl 4 z1 x2 e3), IV.d (D.agg [D.sl 2 z4 x5 e6, D.sl 1 z7 x8 e9, D.sl 2 z10 x11 e12]), IV.d (D.agg [D.sl 2 z13 x14 e15, D.sl 1 z16 x17 e18, D.sl 2 z19 x20 e21]), IV.d (D.int IntKind.i64 i22), IV.d (D.sl 1 z23 x24 e25)]))))) ∨ ∃ w251 w252 w253 w254 w255, C 16 [IV.d (D.sl 4 z1 x2 e3), IV.d (D.agg [D.bool w175, D.sl 1 w176 w177 w178]), IV.d (D.agg [D.sl 2 z13 x14 e15, D.sl 1 z16 x17 e18, D.sl 2 z19 x20 e21])] = some (IV.tup [IV.d (D.agg [D.sl 2 true [] [], D.sl 1 true [] [], D.sl 2 true [] []]), IV.d (D.int IntKind.i64 w251), IV.d (D.int IntKind.i64 w252)], [IV.d w253, IV.d w254, IV.d w255]) ∧ ∃ w256 w257, C 11 [IV.d (D.int IntKind.i64 w252)] = some (IV.d (D.int IntKind.i64 w256), [IV.d w257]) ∧ condW (w256 != 0) (Q (some (IV.d (D.bool false), [IV.d (D.sl 4 z1 x2 e3), IV.d (D.agg [D.sl 2 z4 x5 e6, D.sl 1 z7 x8 e9, D.sl 2 z10 x11 e12]), IV.d (D.agg [D.sl 2 z13 x14 e15, D.sl 1 z16 x17 e18, D.sl 2 z19 x20 e21]), IV.d (D.int IntKind.i64 i22), IV.d (D.sl 1 z23 x24 e25)]))) (∃ w258 w259 w260, C 12 [IV.d (D.sl 4 z1 x2 e3), IV.d (D.agg [D.sl 2 true [] [], D.sl 1 true [] [], D.sl 2 true [] []])] = some (IV.d (D.bool w258), [IV.d w259, IV.d w260]) ∧ condW w258 (∃ w261 w262 w263 w264, C 23 [IV.d (D.agg [D.int IntKind.i64 w19, D.sl 1 w20 w21 w22]), IV.d (D.sl 4 z1 x2 e3), IV.d (D.agg [D.sl 2 true [] [], D.sl 1 true [] [], D.sl 2 true [] []])] = some (IV.d (D.bool w261), [IV.d w262, IV.d w263, IV.d w264]) ∧ condW w261 (Q (some (IV.d (D.bool false), [IV.d (D.sl 4 z1 x2 e3), IV.d (D.agg [D.sl 2 z4 x5 e6, D.sl 1 z7 x8 e9, D.sl 2 z10 x11 e12]), IV.d (D.agg [D.sl 2 z13 x14 e15, D.sl 1 z16 x17 e18, D.sl 2 z19 x20 e21]), IV.d (D.int IntKind.i64 i22), IV.d (D.sl 1 z23 x24 e25)]))) (∃ w265 w266 w267 w268 w269 w270 w271 w272, C 13 [IV.d (D.sl 4 z1 x2 e3), IV.d (D.agg [D.sl 2 z4 x5 e6, D.sl 1 z7 x8 e9, D.sl 2 z10 x11 e12])] = some (IV.tup [IV.agg [IV.own w265 3 1 w266, IV.own w267 3 1 w268], IV.d (D.bool w269), IV.d (D.int IntKind.i64 w270)], [IV.d w271, IV.d w272]) ∧ condW w269 (∃ w273 w274, C 11 [IV.d (D.int IntKind.i64 w270)] = some (IV.d (D.int IntKind.i64 w273), [IV.d w274]) ∧ condW (w273 != 0) (∃ w275 w276, C 11 [IV.d (D.int IntKind.i64 w270)] = some (IV.d (D.int IntKind.i64 w275), [IV.d w276]) ∧ condW (w275 == 0) (Q (some (IV.d (D.bool true), [IV.d (D.sl 4 z1 x2 e3), IV.d (D.agg [D.sl 2 z4 x5 e6, D.sl 1 z7 x8 e9, D.sl 2 z10 x11 e12]), IV.d (D.agg [D.sl 2 z13 x14 e15, D.sl 1 z16 x17 e18, D.sl 2 z19 x20 e21]), IV.d (D.int IntKind.i64 i22), IV.d (D.sl 1 z23 x24 e25)]))) (Q (some (IV.d (D.bool false), [IV.d (D.sl 4 z1 x2 e3), IV.d (D.agg [D.sl 2 z4 x5 e6, D.sl 1 z7 x8 e9, D.sl 2 z10 x11 e12]), IV.d (D.agg [D.sl 2 z13 x14 e15, D.sl 1 z16 x17 e18, D.sl 2 z19 x20 e21]), IV.d (D.int IntKind.i64 i22), IV.d (D.sl 1 z23 x24 e25)])))) ((∃ w277 w278 w279 w280 w281, C 24 [IV.d (D.sl 4 z1 x2 e3), IV.d (D.agg [D.sl 1 w265 w266 [], D.sl 1 w267 w268 []]), IV.d (D.agg [D.sl 2 z13 x14 e15, D.sl 1 z16 x17 e18, D.sl 2 z19 x20 e21])] = some (IV.tup [IV.d (D.agg [D.sl 2 true [] [], D.sl 1 true [] [], D.sl 2 true [] []]), IV.d (D.int IntKind.i64 w277), IV.d (D.int IntKind.i64 w278)], [IV.d w279, IV.d w280, IV.d w281]) ∧ ∃ w282 w283, C 11 [IV.d (D.int IntKind.i64 w278)] = some (IV.d (D.int IntKind.i64 w282), [IV.d w283]) ∧ condW (w282 != 0) (Q (some (IV.d (D.bool true), [IV.d (D.sl 4 z1 x2 e3), IV.d (D.agg [D.sl 2 z4 x5 e6, D.sl 1 z7 x8 e9, D.sl 2 z10 x11 e12]), IV.d (D.agg [D.sl 2 z13 x14 e15, D.sl 1 z16 x17 e18, D.sl 2 z19 x20 e21]), IV.d (D.int IntKind.i64 i22), IV.d (D.sl 1 z23 x24 e25)]))) (∃ w284 w285 w286, C 12 [IV.d (D.sl 4 z1 x2 e3), IV.d (D.agg [D.sl 2 true [] [], D.sl 1 true [] [], D.sl 2 true [] []])] = some (IV.d (D.bool w284), [IV.d w285, IV.d w286]) ∧ condW w284 (∃ w287 w288 w289 w290, C 23 [IV.d (D.agg [D.int IntKind.i64 w19, D.sl 1 w20 w21 w22]), IV.d (D.sl 4 z1 x2 e3), IV.d (D.agg [D.sl 2 true [] [], D.sl 1 true [] [], D.sl 2 true [] []])] = some (IV.d (D.bool w287), [IV.d w288, IV.d w289, IV.d w290]) ∧ condW w287 (Q (some (IV.d (D.bool false), [IV.d (D.sl 4 z1 x2 e3), IV.d (D.agg [D.sl 2 z4 x5 e6, D.sl 1 z7 x8 e9, D.sl 2 z10 x11 e12]), IV.d (D.agg [D.sl 2 z13 x14 e15, D.sl 1 z16 x17 e18, D.sl 2 z19 x20 e21]), IV.d (D.int IntKind.i64 i22), IV.d (D.sl 1 z23 x24 e25)]))) (Q (some (IV.d (D.bool true), [IV.d (D.sl 4 z1 x2 e3), IV.d (D.agg [D.sl 2 z4 x5 e6, D.sl 1 z7 x8 e9, D.sl 2 z10 x11 e12]), IV.d (D.agg [D.sl 2 z13 x14 e15, D.sl 1 z16 x17 e18, D.sl 2 z19 x20 e21]), IV.d (D.int IntKind.i64 i22), IV.d (D.sl 1 z23 x24 e25)])))) (Q (some (IV.d (D.bool false), [IV.d (D.sl 4 z1 x2 e3), IV.d (D.agg [D.sl 2 z4 x5 e6, D.sl 1 z7 x8 e9, D.sl 2 z10 x11 e12]), IV.d (D.agg [D.sl 2 z13 x14 e15, D.sl 1 z16 x17 e18, D.sl 2 z19 x20 e21]), IV.d (D.int IntKind.i64 i22), IV.d (D.sl 1 z23 x24 e25)]))))) ∨ ∃ w291 w292 w293 w294 w295 w296 w297 w298 w299 w300 w301, C 24 [IV.d (D.sl 4 z1 x2 e3), IV.d (D.agg [D.sl 1 w265 w266 [], D.sl 1 w267 w268 []]), IV.d (D.agg [D.sl 2 z13 x14 e15, D.sl 1 z16 x17 e18, D.sl 2 z19 x20 e21])] = some (IV.tup [IV.agg [IV.own w291 35 2 w292, IV.own w293 23 1 w294, IV.own w295 35 2 w296], IV.d (D.int IntKind.i64 w297), IV.d (D.int IntKind.i64 w298)], [IV.d w299, IV.d w300, IV.d w301]) ∧ ∃ w302 w303, C 11 [IV.d (D.int IntKind.i64 w298)] = some (IV.d (D.int IntKind.i64 w302), [IV.d w303]) ∧ condW (w302 != 0) (Q (some (IV.d (D.bool true), [IV.d (D.sl 4 z1 x2 e3), IV.d (D.agg [D.sl 2 z4 x5 e6, D.sl 1 z7 x8 e9, D.sl 2 z10 x11 e12]), IV.d (D.agg [D.sl 2 z13 x14 e15, D.sl 1 z16 x17 e18, D.sl 2 z19 x20 e21]), IV.d (D.int IntKind.i64 i22), IV.d (D.sl 1 z23 x24 e25)]))) (∃ w304 w305 w306, C 12 [IV.d (D.sl 4 z1 x2 e3), IV.d (D.agg [D.sl 2 w291 w292 [], D.sl 1 w293 w294 [], D.sl 2 w295 w296 []])] = some (IV.d (D.bool w304), [IV.d w305, IV.d w306]) ∧ condW w304 (∃ w307 w308 w309 w310, C 23 [IV.d (D.agg [D.int IntKind.i64 w19, D.sl 1 w20 w21 w22]), IV.d (D.sl 4 z1 x2 e3), IV.d (D.agg [D.sl 2 w291 w292 [], D.sl 1 w293 w294 [], D.sl 2 w295 w296 []])] = some (IV.d (D.bool w307), [IV.d w308, IV.d w309, IV.d w310]) ∧ condW w307 (Q (some (IV.d (D.bool false), [IV.d (D.sl 4 z1 x2 e3), IV.d (D.agg [D.sl 2 z4 x5 e6, D.sl 1 z7 x8 e9, D.sl 2 z10 x11 e12]), IV.d (D.agg [D.sl 2 z13 x14 e15, D.sl 1 z16 x17 e18, D.sl 2 z19 x20 e21]), IV.d (D.int IntKind.i64 i22), IV.d (D.sl 1 z23 x24 e25)]))) (Q (some (IV.d (D.bool true), [IV.d (D.sl 4 z1 x2 e3), IV.d (D.agg [D.sl 2 z4 x5 e6, D.sl 1 z7 x8 e9, D.sl 2 z10 x11 e12]), IV.d (D.agg [D.sl 2 z13 x14 e15, D.sl 1 z16 x17 e18, D.sl 2 z19 x20 e21]), IV.d (D.int IntKind.i64 i22), IV.d (D.sl 1 z23 x24 e25)])))) (Q (some (IV.d (D.bool false), [IV.d (D.sl 4 z1 x2 e3), IV.d (D.agg [D.sl 2 z4 x5 e6, D.sl 1 z7 x8 e9, D.sl 2 z10 x11 e12]), IV.d (D.agg [D.sl 2 z13 x14 e15, D.sl 1 z16 x17 e18, D.sl 2 z19 x20 e21]), IV.d (D.int IntKind.i64 i22), IV.d (D.sl 1 z23 x24 e25)])))))) (∃ w311 w312, C 11 [IV.d (D.int IntKind.i64 w270)] = some (IV.d (D.int IntKind.i64 w311), [IV.d w312]) ∧ condW (w311 != 0) (∃ w313 w314, C 11 [IV.d (D.int IntKind.i64 w270)] = some (IV.d (D.int IntKind.i64 w313), [IV.d w314]) ∧ condW (w313 == 0) (Q (some (IV.d (D.bool true), [IV.d (D.sl 4 z1 x2 e3), IV.d (D.agg [D.sl 2 z4 x5 e6, D.sl 1 z7 x8 e9, D.sl 2 z10 x11 e12]), IV.d (D.agg [D.sl 2 z13 x14 e15, D.sl 1 z16 x17 e18, D.sl 2 z19 x20 e21]), IV.d (D.int IntKind.i64 i22), IV.d (D.sl 1 z23 x24 e25)]))) (Q (some (IV.d (D.bool false), [IV.d (D.sl 4 z1 x2 e3), IV.d (D.agg [D.sl 2 z4 x5 e6, D.sl 1 z7 x8 e9, D.sl 2 z10 x11 e12]), IV.d (D.agg [D.sl 2 z13 x14 e15, D.sl 1 z16 x17 e18, D.sl 2 z19 x20 e21]), IV.d (D.int IntKind.i64 i22), IV.d (D.sl 1 z23 x24 e25)])))) (∃ w315 w316, C 11 [IV.d (D.int IntKind.i64 w270)] = some (IV.d (D.int IntKind.i64 w315), [IV.d w316]) ∧ condW (w315 == 0) (Q (some (IV.d (D.bool true), [IV.d (D.sl 4 z1 x2 e3), IV.d (D.agg [D.sl 2 z4 x5 e6, D.sl 1 z7 x8 e9, D.sl 2 z10 x11 e12]), IV.d (D.agg [D.sl 2 z13 x14 e15, D.sl 1 z16 x17 e18, D.sl 2 z19 x20 e21]), IV.d (D.int IntKind.i64 i22), IV.d (D.sl 1 z23 x24 e25)]))) (Q (some (IV.d (D.bool false), [IV.d (D.sl 4 z1 x2 e3), IV.d (D.agg [D.sl 2 z4 x5 e6, D.sl 1 z7 x8 e9, D.sl 2 z10 x11 e12]), IV.d (D.agg [D.sl 2 z13 x14 e15, D.sl 1 z16 x17 e18, D.sl 2 z19 x20 e21]), IV.d (D.int IntKind.i64 i22), IV.d (D.sl 1 z23 x24 e25)]))))))) (Q (some (IV.d (D.bool false), [IV.d (D.sl 4 z1 x2 e3), IV.d (D.agg [D.sl 2 z4 x5 e6, D.sl 1 z7 x8 e9, D.sl 2 z10 x11 e12]), IV.d (D.agg [D.sl 2 z13 x14 e15, D.sl 1 z16 x17 e18, D.sl 2 z19 x20 e21]), IV.d (D.int IntKind.i64 i22), IV.d (D.sl 1 z23 x24 e25)]))))))) (Q (some (IV.d (D.bool true), [IV.d (D.sl 4 z1 x2 e3), IV.d (D.agg [D.sl 2 z4 x5 e6, D.sl 1 z7 x8 e9, D.sl 2 z10 x11 e12]), IV.d (D.agg [D.sl 2 z13 x14 e15, D.sl 1 z16 x17 e18, D.sl 2 z19 x20 e21]), IV.d (D.int IntKind.i64 i22), IV.d (D.sl 1 z23 x24 e25)])))))) (Q (some (IV.d (D.bool true), [IV.d (D.sl 4 z1 x2 e3), IV.d (D.agg [D.sl 2 z4 x5 e6, D.sl 1 z7 x8 e9, D.sl 2 z10 x11 e12]), IV.d (D.agg [D.sl 2 z13 x14 e15, D.sl 1 z16 x17 e18, D.sl 2 z19 x20 e21]), IV.d (D.int IntKind.i64 i22), IV.d (D.sl 1 z23 x24 e25)])))) (Q (some (IV.d (D.bool true), [IV.d (D.sl 4 z1 x2 e3), IV.d (D.agg [D.sl 2 z4 x5 e6, D.sl 1 z7 x8 e9, D.sl 2 z10 x11 e12]), IV.d (D.agg [D.sl 2 z13 x14 e15, D.sl 1 z16 x17 e18, D.sl 2 z19 x20 e21]), IV.d (D.int IntKind.i64 i22), IV.d (D.sl 1 z23 x24 e25)]))))))) (Q (some (IV.d (D.bool false), [IV.d (D.sl 4 z1 x2 e3), IV.d (D.agg [D.sl 2 z4 x5 e6, D.sl 1 z7 x8 e9, D.sl 2 z10 x11 e12]), IV.d (D.agg [D.sl 2 z13 x14 e15, D.sl 1 z16 x17 e18, D.sl 2 z19 x20 e21]), IV.d (D.int IntKind.i64 i22), IV.d (D.sl 1 z23 x24 e25)])))) := by kernel_rfl
end Go.Proofs.YtmldmhbdeejcnaaDoor.Ab

/- Written by a program of this session (wip/tools/AbSym.lean). Not trusted: Lean checks it. -/
set_option maxRecDepth 100000
set_option linter.unusedVariables false
namespace Go.Proofs.YtmldmhbdeejcnaaDoor.Ab
open Go Go.Ab Go.Proofs
def L8 : Lps := fun b => match b with
  | _ => [.norm []]
theorem q8 (C J)  (Q) : fnW F C R (L8) J d8 [] Q = (∃ w0 w1, C 25 [] = some (IV.own w0 92 4 w1, []) ∧ ∃ w2 w3 w4 w5 w6 w7 w8 w9, C 13 [IV.d (D.sl 4 w0 w1 []), IV.d (D.agg [D.sl 2 false [D.agg [D.bool false, D.sl 1 false [D.int IntKind.i64 0, D.int IntKind.i64 (-1), D.int IntKind.i64 3, D.int IntKind.i64 (-1)] []]] [], D.sl 1 true [] [], D.sl 2 true [] []])] = some (IV.tup [IV.agg [IV.own w2 3 1 w3, IV.own w4 3 1 w5], IV.d (D.bool w6), IV.d (D.int IntKind.i64 w7)], [IV.d w8, IV.d w9]) ∧ condW w6 (∃ w10 w11, C 25 [] = some (IV.own w10 92 4 w11, []) ∧ ∃ w12 w13 w14 w15 w16 w17 w18 w19, C 9 [IV.d (D.sl 4 w10 w11 []), IV.d (D.agg [D.sl 1 w2 w3 [], D.sl 1 w4 w5 []]), IV.d (D.sl 1 false [D.int IntKind.i64 4, D.int IntKind.i64 3, D.int IntKind.i64 3, D.int IntKind.i64 1, D.int IntKind.i64 (-1)] [])] = some (IV.tup [IV.d (D.sl 1 w12 w13 w14), IV.d (D.int IntKind.i64 w15), IV.d (D.int IntKind.i64 w16)], [IV.d w17, IV.d w18, IV.d w19]) ∧ ∃ w20 w21, C 25 [] = some (IV.own w20 92 4 w21, []) ∧ ((∃ w22 w23 w24 w25 w26, C 24 [IV.d (D.sl 4 w20 w21 []), IV.d (D.agg [D.sl 1 w2 w3 [], D.sl 1 w4 w5 []]), IV.d (D.agg [D.sl 2 false [D.agg [D.bool false, D.sl 1 false [D.int IntKind.i64 5, D.int IntKind.i64 3, D.int IntKind.i64 2] []]] [], D.sl 1 true [] [], D.sl 2 true [] []])] = some (IV.tup [IV.d (D.agg [D.sl 2 true [] [], D.sl 1 true [] [], D.sl 2 true [] []]), IV.d (D.int IntKind.i64 w22), IV.d (D.int IntKind.i64 w23)], [IV.d w24, IV.d w25, IV.d w26]) ∧ ∃ w27 w28, C 25 [] = some (IV.own w27 92 4 w28, []) ∧ ((∃ w29 w30 w31 w32 w33 w34 w35 w36 w37 w38 w39, C 16 [IV.d (D.sl 4 w27 w28 []), IV.d (D.agg [D.bool false, D.sl 1 false [D.int IntKind.i64 5, D.int IntKind.i64 (-1)] []]), IV.d (D.agg [D.sl 2 false [D.agg [D.bool true, D.sl 1 false [D.int IntKind.i64 5, D.int IntKind.i64 1] []], D.agg [D.bool false, D.sl 1 false [D.int IntKind.i64 5, D.int IntKind.i64 2] []]] [], D.sl 1 true [] [], D.sl 2 true [] []])] = some (IV.tup [IV.agg [IV.own w29 35 2 w30, IV.own w31 23 1 w32, IV.own w33 35 2 w34], IV.d (D.int IntKind.i64 w35), IV.d (D.int IntKind.i64 w36)], [IV.d w37, IV.d w38, IV.d w39]) ∧ ∃ w40 w41, C 25 [] = some (IV.own w40 92 4 w41, []) ∧ ∃ w42 w43 w44 w45 w46 w47 w48 w49, C 9 [IV.d (D.sl 4 w40 w41 []), IV.d (D.agg [D.sl 1 false [D.int IntKind.i64 1] [], D.sl 1 false [D.int IntKind.i64 2] []]), IV.d (D.sl 1 true [] [])] = some (IV.tup [IV.d (D.sl 1 w42 w43 w44), IV.d (D.int IntKind.i64 w45), IV.d (D.int IntKind.i64 w46)], [IV.d w47, IV.d w48, IV.d w49]) ∧ ∃ w50 w51, C 11 [IV.d (D.int IntKind.i64 w7)] = some (IV.d (D.int IntKind.i64 w50), [IV.d w51]) ∧ condW (w50 == 0) (∃ w52 w53 w54, C 14 [IV.d (D.sl 1 w2 w3 []), IV.d (D.sl 1 false [D.int IntKind.i64 3, D.int IntKind.i64 (-1)] [])] = some (IV.d (D.bool w52), [IV.d w53, IV.d w54]) ∧ condW w52 (∃ w55 w56 w57, C 14 [IV.d (D.sl 1 w4 w5 []), IV.d (D.sl 1 false [D.int IntKind.i64 (-1)] [])] = some (IV.d (D.bool w55), [IV.d w56, IV.d w57]) ∧ condW w55 (∃ w58 w59 w60, C 14 [IV.d (D.sl 1 w12 w13 w14), IV.d (D.sl 1 false [D.int IntKind.i64 4, D.int IntKind.i64 1, D.int IntKind.i64 (-1)] [])] = some (IV.d (D.bool w58), [IV.d w59, IV.d w60]) ∧ condW w58 (condW (w15 == 2) (∃ w61 w62, C 11 [IV.d (D.int IntKind.i64 w16)] = some (IV.d (D.int IntKind.i64 w61), [IV.d w62]) ∧ condW (w61 == 0) (condW (w22 == 1) (∃ w63 w64, C 11 [IV.d (D.int IntKind.i64 w23)] = some (IV.d (D.int IntKind.i64 w63), [IV.d w64]) ∧ condW (w63 == 0) (∃ w65 w66 w67, C 19 [IV.d (D.agg [D.sl 2 true [] [], D.sl 1 true [] [], D.sl 2 true [] []]), IV.d (D.agg [D.sl 2 false [D.agg [D.bool false, D.sl 1 false [D.int IntKind.i64 5, D.int IntKind.i64 2] []]] [], D.sl 1 true [] [], D.sl 2 true [] []])] = some (IV.d (D.bool w65), [IV.d w66, IV.d w67]) ∧ condW w65 (condW (w35 == 1) (∃ w68 w69, C 11 [IV.d (D.int IntKind.i64 w36)] = some (IV.d (D.int IntKind.i64 w68), [IV.d w69]) ∧ condW (w68 == 0) (∃ w70 w71 w72, C 19 [IV.d (D.agg [D.sl 2 w29 w30 [], D.sl 1 w31 w32 [], D.sl 2 w33 w34 []]), IV.d (D.agg [D.sl 2 false [D.agg [D.bool false, D.sl 1 false [D.int IntKind.i64 5, D.int IntKind.i64 2] []]] [], D.sl 1 true [] [], D.sl 2 true [] []])] = some (IV.d (D.bool w70), [IV.d w71, IV.d w72]) ∧ condW w70 (∃ w73 w74, C 11 [IV.d (D.int IntKind.i64 w46)] = some (IV.d (D.int IntKind.i64 w73), [IV.d w74]) ∧ condW (w73 == 1600) (Q (some (IV.d (D.bool true), []))) (Q (some (IV.d (D.bool false), [])))) (Q (some (IV.d (D.bool false), [])))) (Q (some (IV.d (D.bool false), [])))) (Q (some (IV.d (D.bool false), [])))) (Q (some (IV.d (D.bool false), [])))) (Q (some (IV.d (D.bool false), [])))) (Q (some (IV.d (D.bool false), [])))) (Q (some (IV.d (D.bool false), [])))) (Q (some (IV.d (D.bool false), [])))) (Q (some (IV.d (D.bool false), [])))) (Q (some (IV.d (D.bool false), [])))) (Q (some (IV.d (D.bool false), [])))) (Q (some (IV.d (D.bool false), [])))) ∨ ∃ w75 w76 w77 w78 w79, C 16 [IV.d (D.sl 4 w27 w28 []), IV.d (D.agg [D.bool false, D.sl 1 false [D.int IntKind.i64 5, D.int IntKind.i64 (-1)] []]), IV.d (D.agg [D.sl 2 false [D.agg [D.bool true, D.sl 1 false [D.int IntKind.i64 5, D.int IntKind.i64 1] []], D.agg [D.bool false, D.sl 1 false [D.int IntKind.i64 5, D.int IntKind.i64 2] []]] [], D.sl 1 true [] [], D.sl 2 true [] []])] = some (IV.tup [IV.d (D.agg [D.sl 2 true [] [], D.sl 1 true [] [], D.sl 2 true [] []]), IV.d (D.int IntKind.i64 w75), IV.d (D.int IntKind.i64 w76)], [IV.d w77, IV.d w78, IV.d w79]) ∧ ∃ w80 w81, C 25 [] = some (IV.own w80 92 4 w81, []) ∧ ∃ w82 w83 w84 w85 w86 w87 w88 w89, C 9 [IV.d (D.sl 4 w80 w81 []), IV.d (D.agg [D.sl 1 false [D.int IntKind.i64 1] [], D.sl 1 false [D.int IntKind.i64 2] []]), IV.d (D.sl 1 true [] [])] = some (IV.tup [IV.d (D.sl 1 w82 w83 w84), IV.d (D.int IntKind.i64 w85), IV.d (D.int IntKind.i64 w86)], [IV.d w87, IV.d w88, IV.d w89]) ∧ ∃ w90 w91, C 11 [IV.d (D.int IntKind.i64 w7)] = some (IV.d (D.int IntKind.i64 w90), [IV.d w91]) ∧ condW (w90 == 0) (∃ w92 w93 w94, C 14 [IV.d (D.sl 1 w2 w3 []), IV.d (D.sl 1 false [D.int IntKind.i64 3, D.int IntKind.i64 (-1)] [])] = some (IV.d (D.bool w92), [IV.d w93, IV.d w94]) ∧ condW w92 (∃ w95 w96 w97, C 14 [IV.d (D.sl 1 w4 w5 []), IV.d (D.sl 1 false [D.int IntKind.i64 (-1)] [])] = some (IV.d (D.bool w95), [IV.d w96, IV.d w97]) ∧ condW w95 (∃ w98 w99 w100, C 14 [IV.d (D.sl 1 w12 w13 w14), IV.d (D.sl 1 false [D.int IntKind.i64 4, D.int IntKind.i64 1, D.int IntKind.i64 (-1)] [])] = some (IV.d (D.bool w98), [IV.d w99, IV.d w100]) ∧ condW w98 (condW (w15 == 2) (∃ w101 w102, C 11 [IV.d (D.int IntKind.i64 w16)] = some (IV.d (D.int IntKind.i64 w101), [IV.d w102]) ∧ condW (w101 == 0) (condW (w22 == 1) (∃ w103 w104, C 11 [IV.d (D.int IntKind.i64 w23)] = some (IV.d (D.int IntKind.i64 w103), [IV.d w104]) ∧ condW (w103 == 0) (∃ w105 w106 w107, C 19 [IV.d (D.agg [D.sl 2 true [] [], D.sl 1 true [] [], D.sl 2 true [] []]), IV.d (D.agg [D.sl 2 false [D.agg [D.bool false, D.sl 1 false [D.int IntKind.i64 5, D.int IntKind.i64 2] []]] [], D.sl 1 true [] [], D.sl 2 true [] []])] = some (IV.d (D.bool w105), [IV.d w106, IV.d w107]) ∧ condW w105 (condW (w75 == 1) (∃ w108 w109, C 11 [IV.d (D.int IntKind.i64 w76)] = some (IV.d (D.int IntKind.i64 w108), [IV.d w109]) ∧ condW (w108 == 0) (∃ w110 w111 w112, C 19 [IV.d (D.agg [D.sl 2 true [] [], D.sl 1 true [] [], D.sl 2 true [] []]), IV.d (D.agg [D.sl 2 false [D.agg [D.bool false, D.sl 1 false [D.int IntKind.i64 5, D.int IntKind.i64 2] []]] [], D.sl 1 true [] [], D.sl 2 true [] []])] = some (IV.d (D.bool w110), [IV.d w111, IV.d w112]) ∧ condW w110 (∃ w113 w114, C 11 [IV.d (D.int IntKind.i64 w86)] = some (IV.d (D.int IntKind.i64 w113), [IV.d w114]) ∧ condW (w113 == 1600) (Q (some (IV.d (D.bool true), []))) (Q (some (IV.d (D.bool false), [])))) (Q (some (IV.d (D.bool false), [])))) (Q (some (IV.d (D.bool false), [])))) (Q (some (IV.d (D.bool false), [])))) (Q (some (IV.d (D.bool false), [])))) (Q (some (IV.d (D.bool false), [])))) (Q (some (IV.d (D.bool false), [])))) (Q (some (IV.d (D.bool false), [])))) (Q (some (IV.d (D.bool false), [])))) (Q (some (IV.d (D.bool false), [])))) (Q (some (IV.d (D.bool false), [])))) (Q (some (IV.d (D.bool false), [])))) (Q (some (IV.d (D.bool false), []))))) ∨ ∃ w115 w116 w117 w118 w119 w120 w121 w122 w123 w124 w125, C 24 [IV.d (D.sl 4 w20 w21 []), IV.d (D.agg [D.sl 1 w2 w3 [], D.sl 1 w4 w5 []]), IV.d (D.agg [D.sl 2 false [D.agg [D.bool false, D.sl 1 false [D.int IntKind.i64 5, D.int IntKind.i64 3, D.int IntKind.i64 2] []]] [], D.sl 1 true [] [], D.sl 2 true [] []])] = some (IV.tup [IV.agg [IV.own w115 35 2 w116, IV.own w117 23 1 w118, IV.own w119 35 2 w120], IV.d (D.int IntKind.i64 w121), IV.d (D.int IntKind.i64 w122)], [IV.d w123, IV.d w124, IV.d w125]) ∧ ∃ w126 w127, C 25 [] = some (IV.own w126 92 4 w127, []) ∧ ((∃ w128 w129 w130 w131 w132 w133 w134 w135 w136 w137 w138, C 16 [IV.d (D.sl 4 w126 w127 []), IV.d (D.agg [D.bool false, D.sl 1 false [D.int IntKind.i64 5, D.int IntKind.i64 (-1)] []]), IV.d (D.agg [D.sl 2 false [D.agg [D.bool true, D.sl 1 false [D.int IntKind.i64 5, D.int IntKind.i64 1] []], D.agg [D.bool false, D.sl 1 false [D.int IntKind.i64 5, D.int IntKind.i64 2] []]] [], D.sl 1 true [] [], D.sl 2 true [] []])] = some (IV.tup [IV.agg [IV.own w128 35 2 w129, IV.own w130 23 1 w131, IV.own w132 35 2 w133], IV.d (D.int IntKind.i64 w134), IV.d (D.int IntKind.i64 w135)], [IV.d w136, IV.d w137, IV.d w138]) ∧ ∃ w139 w140, C 25 [] = some (IV.own w139 92 4 w140, []) ∧ ∃ w141 w142 w143 w144 w145 w146 w147 w148, C 9 [IV.d (D.sl 4 w139 w140 []), IV.d (D.agg [D.sl 1 false [D.int IntKind.i64 1] [], D.sl 1 false [D.int IntKind.i64 2] []]), IV.d (D.sl 1 true [] [])] = some (IV.tup [IV.d (D.sl 1 w141 w142 w143), IV.d (D.int IntKind.i64 w144), IV.d (D.int IntKind.i64 w145)], [IV.d w146, IV.d w147, IV.d w148]) ∧ ∃ w149 w150, C 11 [IV.d (D.int IntKind.i64 w7)] = some (IV.d (D.int IntKind.i64 w149), [IV.d w150]) ∧ condW (w149 == 0) (∃ w151 w152 w153, C 14 [IV.d (D.sl 1 w2 w3 []), IV.d (D.sl 1 false [D.int IntKind.i64 3, D.int IntKind.i64 (-1)] [])] = some (IV.d (D.bool w151), [IV.d w152, IV.d w153]) ∧ condW w151 (∃ w154 w155 w156, C 14 [IV.d (D.sl 1 w4 w5 []), IV.d (D.sl 1 false [D.int IntKind.i64 (-1)] [])] = some (IV.d (D.bool w154), [IV.d w155, IV.d w156]) ∧ condW w154 (∃ w157 w158 w159, C 14 [IV.d (D.sl 1 w12 w13 w14), IV.d (D.sl 1 false [D.int IntKind.i64 4, D.int IntKind.i64 1, D.int IntKind.i64 (-1)] [])] = some (IV.d (D.bool w157), [IV.d w158, IV.d w159]) ∧ condW w157 (condW (w15 == 2) (∃ w160 w161, C 11 [IV.d (D.int IntKind.i64 w16)] = some (IV.d (D.int IntKind.i64 w160), [IV.d w161]) ∧ condW (w160 == 0) (condW (w121 == 1) (∃ w162 w163, C 11 [IV.d (D.int IntKind.i64 w122)] = some (IV.d (D.int IntKind.i64 w162), [IV.d w163]) ∧ condW (w162 == 0) (∃ w164 w165 w166, C 19 [IV.d (D.agg [D.sl 2 w115 w116 [], D.sl 1 w117 w118 [], D.sl 2 w119 w120 []]), IV.d (D.agg [D.sl 2 false [D.agg [D.bool false, D.sl 1 false [D.int IntKind.i64 5, D.int IntKind.i64 2] []]] [], D.sl 1 true [] [], D.sl 2 true [] []])] = some (IV.d (D.bool w164), [IV.d w165, IV.d w166]) ∧ condW w164 (condW (w134 == 1) (∃ w167 w168, C 11 [IV.d (D.int IntKind.i64 w135)] = some (IV.d (D.int IntKind.i64 w167), [IV.d w168]) ∧ condW (w167 == 0) (∃ w169 w170 w171, C 19 [IV.d (D.agg [D.sl 2 w128 w129 [], D.sl 1 w130 w131 [], D.sl 2 w132 w133 []]), IV.d (D.agg [D.sl 2 false [D.agg [D.bool false, D.sl 1 false [D.int IntKind.i64 5, D.int IntKind.i64 2] []]] [], D.sl 1 true [] [], D.sl 2 true [] []])] = some (IV.d (D.bool w169), [IV.d w170, IV.d w171]) ∧ condW w169 (∃ w172 w173, C 11 [IV.d (D.int IntKind.i64 w145)] = some (IV.d (D.int IntKind.i64 w172), [IV.d w173]) ∧ condW (w172 == 1600) (Q (some (IV.d (D.bool true), []))) (Q (some (IV.d (D.bool false), [])))) (Q (some (IV.d (D.bool false), [])))) (Q (some (IV.d (D.bool false), [])))) (Q (some (IV.d (D.bool false), [])))) (Q (some (IV.d (D.bool false), [])))) (Q (some (IV.d (D.bool false), [])))) (Q (some (IV.d (D.bool false), [])))) (Q (some (IV.d (D.bool false), [])))) (Q (some (IV.d (D.bool false), [])))) (Q (some (IV.d (D.bool false), [])))) (Q (some (IV.d (D.bool false), [])))) (Q (some (IV.d (D.bool false), [])))) (Q (some (IV.d (D.bool false), [])))) ∨ ∃ w174 w175 w176 w177 w178, C 16 [IV.d (D.sl 4 w126 w127 []), IV.d (D.agg [D.bool false, D.sl 1 false [D.int IntKind.i64 5, D.int IntKind.i64 (-1)] []]), IV.d (D.agg [D.sl 2 false [D.agg [D.bool true, D.sl 1 false [D.int IntKind.i64 5, D.int IntKind.i64 1] []], D.agg [D.bool false, D.sl 1 false [D.int IntKind.i64 5, D.int IntKind.i64 2] []]] [], D.sl 1 true [] [], D.sl 2 true [] []])] = some (IV.tup [IV.d (D.agg [D.sl 2 true [] [], D.sl 1 true [] [], D.sl 2 true [] []]), IV.d (D.int IntKind.i64 w174), IV.d (D.int IntKind.i64 w175)], [IV.d w176, IV.d w177, IV.d w178]) ∧ ∃ w179 w180, C 25 [] = some (IV.own w179 92 4 w180, []) ∧ ∃ w181 w182 w183 w184 w185 w186 w187 w188, C 9 [IV.d (D.sl 4 w179 w180 []), IV.d (D.agg [D.sl 1 false [D.int IntKind.i64 1] [], D.sl 1 false [D.int IntKind.i64 2] []]), IV.d (D.sl 1 true [] [])] = some (IV.tup [IV.d (D.sl 1 w181 w182 w183), IV.d (D.int IntKind.i64 w184), IV.d (D.int IntKind.i64 w185)], [IV.d w186, IV.d w187, IV.d w188]) ∧ ∃ w189 w190, C 11 [IV.d (D.int IntKind.i64 w7)] = some (IV.d (D.int IntKind.i64 w189), [IV.d w190]) ∧ condW (w189 == 0) (∃ w191 w192 w193, C 14 [IV.d (D.sl 1 w2 w3 []), IV.d (D.sl 1 false [D.int IntKind.i64 3, D.int IntKind.i64 (-1)] [])] = some (IV.d (D.bool w191), [IV.d w192, IV.d w193]) ∧ condW w191 (∃ w194 w195 w196, C 14 [IV.d (D.sl 1 w4 w5 []), IV.d (D.sl 1 false [D.int IntKind.i64 (-1)] [])] = some (IV.d (D.bool w194), [IV.d w195, IV.d w196]) ∧ condW w194 (∃ w197 w198 w199, C 14 [IV.d (D.sl 1 w12 w13 w14), IV.d (D.sl 1 false [D.int IntKind.i64 4, D.int IntKind.i64 1, D.int IntKind.i64 (-1)] [])] = some (IV.d (D.bool w197), [IV.d w198, IV.d w199]) ∧ condW w197 (condW (w15 == 2) (∃ w200 w201, C 11 [IV.d (D.int IntKind.i64 w16)] = some (IV.d (D.int IntKind.i64 w200), [IV.d w201]) ∧ condW (w200 == 0) (condW (w121 == 1) (∃ w202 w203, C 11 [IV.d (D.int IntKind.i64 w122)] = some (IV.d (D.int IntKind.i64 w202), [IV.d w203]) ∧ condW (w202 == 0) (∃ w204 w205 w206, C 19 [IV.d (D.agg [D.sl 2 w115 w116 [], D.sl 1 w117 w118 [], D.sl 2 w119 w120 []]), IV.d (D.agg [D.sl 2 false [D.agg [D.bool false, D.sl 1 false [D.int IntKind.i64 5, D.int IntKind.i64 2] []]] [], D.sl 1 true [] [], D.sl 2 true [] []])] = some (IV.d (D.bool w204), [IV.d w205, IV.d w206]) ∧ condW w204 (condW (w174 == 1) (∃ w207 w208, C 11 [IV.d (D.int IntKind.i64 w175)] = some (IV.d (D.int IntKind.i64 w207), [IV.d w208]) ∧ condW (w207 == 0) (∃ w209 w210 w211, C 19 [IV.d (D.agg [D.sl 2 true [] [], D.sl 1 true [] [], D.sl 2 true [] []]), IV.d (D.agg [D.sl 2 false [D.agg [D.bool false, D.sl 1 false [D.int IntKind.i64 5, D.int IntKind.i64 2] []]] [], D.sl 1 true [] [], D.sl 2 true [] []])] = some (IV.d (D.bool w209), [IV.d w210, IV.d w211]) ∧ condW w209 (∃ w212 w213, C 11 [IV.d (D.int IntKind.i64 w185)] = some (IV.d (D.int IntKind.i64 w212), [IV.d w213]) ∧ condW (w212 == 1600) (Q (some (IV.d (D.bool true), []))) (Q (some (IV.d (D.bool false), [])))) (Q (some (IV.d (D.bool false), [])))) (Q (some (IV.d (D.bool false), [])))) (Q (some (IV.d (D.bool false), [])))) (Q (some (IV.d (D.bool false), [])))) (Q (some (IV.d (D.bool false), [])))) (Q (some (IV.d (D.bool false), [])))) (Q (some (IV.d (D.bool false), [])))) (Q (some (IV.d (D.bool false), [])))) (Q (some (IV.d (D.bool false), [])))) (Q (some (IV.d (D.bool false), [])))) (Q (some (IV.d (D.bool false), [])))) (Q (some (IV.d (D.bool false), [])))))) (∃ w214 w215, C 25 [] = some (IV.own w214 92 4 w215, []) ∧ ∃ w216 w217 w218 w219 w220 w221 w222 w223, C 9 [IV.d (D.sl 4 w214 w215 []), IV.d (D.agg [D.sl 1 w2 w3 [], D.sl 1 w4 w5 []]), IV.d (D.sl 1 false [D.int IntKind.i64 4, D.int IntKind.i64 3, D.int IntKind.i64 3, D.int IntKind.i64 1, D.int IntKind.i64 (-1)] [])] = some (IV.tup [IV.d (D.sl 1 w216 w217 w218), IV.d (D.int IntKind.i64 w219), IV.d (D.int IntKind.i64 w220)], [IV.d w221, IV.d w222, IV.d w223]) ∧ ∃ w224 w225, C 25 [] = some (IV.own w224 92 4 w225, []) ∧ ((∃ w226 w227 w228 w229 w230, C 24 [IV.d (D.sl 4 w224 w225 []), IV.d (D.agg [D.sl 1 w2 w3 [], D.sl 1 w4 w5 []]), IV.d (D.agg [D.sl 2 false [D.agg [D.bool false, D.sl 1 false [D.int IntKind.i64 5, D.int IntKind.i64 3, D.int IntKind.i64 2] []]] [], D.sl 1 true [] [], D.sl 2 true [] []])] = some (IV.tup [IV.d (D.agg [D.sl 2 true [] [], D.sl 1 true [] [], D.sl 2 true [] []]), IV.d (D.int IntKind.i64 w226), IV.d (D.int IntKind.i64 w227)], [IV.d w228, IV.d w229, IV.d w230]) ∧ ∃ w231 w232, C 25 [] = some (IV.own w231 92 4 w232, []) ∧ ((∃ w233 w234 w235 w236 w237 w238 w239 w240 w241 w242 w243, C 16 [IV.d (D.sl 4 w231 w232 []), IV.d (D.agg [D.bool false, D.sl 1 false [D.int IntKind.i64 5, D.int IntKind.i64 (-1)] []]), IV.d (D.agg [D.sl 2 false [D.agg [D.bool true, D.sl 1 false [D.int IntKind.i64 5, D.int IntKind.i64 1] []], D.agg [D.bool false, D.sl 1 false [D.int IntKind.i64 5, D.int IntKind.i64 2] []]] [], D.sl 1 true [] [], D.sl 2 true [] []])] = some (IV.tup [IV.agg [IV.own w233 35 2 w234, IV.own w235 23 1 w236, IV.own w237 35 2 w238], IV.d (D.int IntKind.i64 w239), IV.d (D.int IntKind.i64 w240)], [IV.d w241, IV.d w242, IV.d w243]) ∧ ∃ w244 w245, C 25 [] = some (IV.own w244 92 4 w245, []) ∧ ∃ w246 w247 w248 w249 w250 w251 w252 w253, C 9 [IV.d (D.sl 4 w244 w245 []), IV.d (D.agg [D.sl 1 false [D.int IntKind.i64 1] [], D.sl 1 false [D.int IntKind.i64 2] []]), IV.d (D.sl 1 true [] [])] = some (IV.tup [IV.d (D.sl 1 w246 w247 w248), IV.d (D.int IntKind.i64 w249), IV.d (D.int IntKind.i64 w250)], [IV.d w251, IV.d w252, IV.d w253]) ∧ Q (some (IV.d (D.bool false), []))) ∨ ∃ w254 w255 w256 w257 w258, C 16 [IV.d (D.sl 4 w231 w232 []), IV.d (D.agg [D.bool false, D.sl 1 false [D.int IntKind.i64 5, D.int IntKind.i64 (-1)] []]), IV.d (D.agg [D.sl 2 false [D.agg [D.bool true, D.sl 1 false [D.int IntKind.i64 5, D.int IntKind.i64 1] []], D.agg [D.bool false, D.sl 1 false [D.int IntKind.i64 5, D.int IntKind.i64 2] []]] [], D.sl 1 true [] [], D.sl 2 true [] []])] = some (IV.tup [IV.d (D.agg [D.sl 2 true [] [], D.sl 1 true [] [], D.sl 2 true [] []]), IV.d (D.int IntKind.i64 w254), IV.d (D.int IntKind.i64 w255)], [IV.d w256, IV.d w257, IV.d w258]) ∧ ∃ w259 w260, C 25 [] = some (IV.own w259 92 4 w260, []) ∧ ∃ w261 w262 w263 w264 w265 w266 w267 w268, C 9 [IV.d (D.sl 4 w259 w260 []), IV.d (D.agg [D.sl 1 false [D.int IntKind.i64 1] [], D.sl 1 false [D.int IntKind.i64 2] []]), IV.d (D.sl 1 true [] [])] = some (IV.tup [IV.d (D.sl 1 w261 w262 w263), IV.d (D.int IntKind.i64 w264), IV.d (D.int IntKind.i64 w265)], [IV.d w266, IV.d w267, IV.d w268]) ∧ Q (some (IV.d (D.bool false), [])))) ∨ ∃ w269 w270 w271 w272 w273 w274 w275 w276 w277 w278 w279, C 24 [IV.d (D.sl 4 w224 w225 []), IV.d (D.agg [D.sl 1 w2 w3 [], D.sl 1 w4 w5 []]), IV.d (D.agg [D.sl 2 false [D.agg [D.bool false, D.sl 1 false [D.int IntKind.i64 5, D.int IntKind.i64 3, D.int IntKind.i64 2] []]] [], D.sl 1 true [] [], D.sl 2 true [] []])] = some (IV.tup [IV.agg [IV.own w269 35 2 w270, IV.own w271 23 1 w272, IV.own w273 35 2 w274], IV.d (D.int IntKind.i64 w275), IV.d (D.int IntKind.i64 w276)], [IV.d w277, IV.d w278, IV.d w279]) ∧ ∃ w280 w281, C 25 [] = some (IV.own w280 92 4 w281, []) ∧ ((∃ w282 w283 w284 w285 w286 w287 w288 w289 w290 w291 w292, C 16 [IV.d (D.sl 4 w280 w281 []), IV.d (D.agg [D.bool false, D.sl 1 false [D.int IntKind.i64 5, D.int IntKind.i64 (-1)] []]), IV.d (D.agg [D.sl 2 false [D.agg [D.bool true, D.sl 1 false [D.int IntKind.i64 5, D.int IntKind.i64 1] []], D.agg [D.bool false, D.sl 1 false [D.int IntKind.i64 5, D.int IntKind.i64 2] []]] [], D.sl 1 true [] [], D.sl 2 true [] []])] = some (IV.tup [IV.agg [IV.own w282 35 2 w283, IV.own w284 23 1 w285, IV.own w286 35 2 w287], IV.d (D.int IntKind.i64 w288), IV.d (D.int IntKind.i64 w289)], [IV.d w290, IV.d w291, IV.d w292]) ∧ ∃ w293 w294, C 25 [] = some (IV.own w293 92 4 w294, []) ∧ ∃ w295 w296 w297 w298 w299 w300 w301 w302, C 9 [IV.d (D.sl 4 w293 w294 []), IV.d (D.agg [D.sl 1 false [D.int IntKind.i64 1] [], D.sl 1 false [D.int IntKind.i64 2] []]), IV.d (D.sl 1 true [] [])] = some (IV.tup [IV.d (D.sl 1 w295 w296 w297), IV.d (D.int IntKind.i64 w298), IV.d (D.int IntKind.i64 w299)], [IV.d w300, IV.d w301, IV.d w302]) ∧ Q (some (IV.d (D.bool false), []))) ∨ ∃ w303 w304 w305 w306 w307, C 16 [IV.d (D.sl 4 w280 w281 []), IV.d (D.agg [D.bool false, D.sl 1 false [D.int IntKind.i64 5, D.int IntKind.i64 (-1)] []]), IV.d (D.agg [D.sl 2 false [D.agg [D.bool true, D.sl 1 false [D.int IntKind.i64 5, D.int IntKind.i64 1] []], D.agg [D.bool false, D.sl 1 false [D.int IntKind.i64 5, D.int IntKind.i64 2] []]] [], D.sl 1 true [] [], D.sl 2 true [] []])] = some (IV.tup [IV.d (D.agg [D.sl 2 true [] [], D.sl 1 true [] [], D.sl 2 true [] []]), IV.d (D.int IntKind.i64 w303), IV.d (D.int IntKind.i64 w304)], [IV.d w305, IV.d w306, IV.d w307]) ∧ ∃ w308 w309, C 25 [] = some (IV.own w308 92 4 w309, []) ∧ ∃ w310 w311 w312 w313 w314 w315 w316 w317, C 9 [IV.d (D.sl 4 w308 w309 []), IV.d (D.agg [D.sl 1 false [D.int IntKind.i64 1] [], D.sl 1 false [D.int IntKind.i64 2] []]), IV.d (D.sl 1 true [] [])] = some (IV.tup [IV.d (D.sl 1 w310 w311 w312), IV.d (D.int IntKind.i64 w313), IV.d (D.int IntKind.i64 w314)], [IV.d w315, IV.d w316, IV.d w317]) ∧ Q (some (IV.d (D.bool false), [])))))) := by kernel_rfl
end Go.Proofs.YtmldmhbdeejcnaaDoor.Ab

/- The words that chapter 16's laws ask first: true. No condition. -/
set_option linter.unusedVariables false
set_option maxRecDepth 100000
namespace Go.Proofs.YtmldmhbdeejcnaaDoor.Ab
open Go Go.Ab Go.Qu Go.Proofs
def awG : List Sym := [⟨⟨#[61]⟩, 0, 2, 1⟩, ⟨⟨#[97]⟩, 1, 0, 1⟩, ⟨⟨#[98]⟩, 1, 0, 2⟩, ⟨⟨#[102]⟩, 1, 1, 1⟩, ⟨⟨#[103]⟩, 1, 2, 3⟩, ⟨⟨#[112]⟩, 0, 1, 1⟩, ⟨⟨#[114]⟩, 0, 2, 2⟩]
theorem aw_rule : C 13 [iG false awG [], .d (.agg [.sl 2 false [.agg [.bool false, .sl 1 false (ints [0, -1, 3, -1]) []]] [], .sl 1 true [] [], .sl 2 true [] []])] = some (.tup [.agg [.own false 3 1 (ints [3, -1]), .own false 3 1 (ints [-1])], iB true, iI 0], [iG false awG [], .d (.agg [.sl 2 false [.agg [.bool false, .sl 1 false (ints [0, -1, 3, -1]) []]] [], .sl 1 true [] [], .sl 2 true [] []])]) := W_ev (n := 60) (by kernel_rfl)
theorem aw_rew : C 9 [iG false awG [], .d (.agg [.sl 1 false (ints [3, -1]) [], .sl 1 false (ints [-1]) []]), iS false [4, 3, 3, 1, -1] []] = some (.tup [iS false [4, 1, -1] [], iI 2, iI 0], [iG false awG [], .d (.agg [.sl 1 false (ints [3, -1]) [], .sl 1 false (ints [-1]) []]), iS false [4, 3, 3, 1, -1] []]) := W_ev (n := 60) (by kernel_rfl)
def awD0 : Cl := ⟨false, [⟨false, ⟨false, [5, 3, 2], []⟩⟩], [], true, [], [], true, [], []⟩
def awM : LitR := ⟨false, ⟨false, [5, 2], []⟩⟩
theorem awD0_nil : NilC awD0 := fun r hr hz => by
  simp [rowsOf, awD0] at hr
  subst hr; cases hz
theorem awD0_may : clB awG awD0 = true := by decide +kernel
theorem awM_may : clB awG (rwC [awM] awD0) = true := by decide +kernel
theorem aw_ru : ruB awG [3, -1] [-1] = true := by
  have h1 := w_rewritemay false false false awG [] [] [] [3, -1] [-1] (by simp) (by simp)
  have h2 : C 26 [iG false awG [], .d (.agg [.sl 1 false (ints [3, -1]) [], .sl 1 false (ints [-1]) []])] = some (iB true, [iG false awG [], .d (.agg [.sl 1 false (ints [3, -1]) [], .sl 1 false (ints [-1]) []])]) := W_ev (n := 60) (by kernel_rfl)
  rw [h2] at h1
  simp only [Option.some.injEq, Prod.mk.injEq, IV.d.injEq, D.bool.injEq] at h1
  exact h1.1.symm
theorem aw_n1 : lenN awG [3, 2] 1 = some 2 := by decide +kernel
theorem aw_n2 : lenN awG [2] 1 = some 1 := by decide +kernel
theorem aw_on : onB (listF (Bs.upd (fun _ => none) 0 [2]) 24 0) [-1] = [2] := by decide +kernel
theorem aw_h1 : hitF awG [3, -1] [-1] [3, 2] 0 = some [2] := by
  unfold hitF
  rw [List.drop_zero, aw_n1]
  have h : growF awG (fun _ => none) [3, -1] (List.take 2 [3, 2]) = some (Bs.upd (fun _ => none) 0 [2]) := by
    simp [growF, aw_n2, vN]
  simp only [h]
  rw [aw_on]
  rfl
theorem aw_h2 : hitF awG [3, -1] [-1] [2] 0 = none := by
  unfold hitF
  rw [List.drop_zero, aw_n2]
  have h : growF awG (fun _ => none) [3, -1] (List.take 1 [2]) = none := by
    simp [growF]
  simp only [h]
theorem aw_rw : rwX awG [3, -1] [-1] ([3, 2], 0, 0) = some ([2], 1) := by
  rw [rwX_yes (by decide) (by decide) (by decide) aw_h1, if_neg (by decide), if_neg (by decide), rwX_no (by decide) (by decide) (by decide) aw_h2, rwX_end (by decide)]
theorem aw_tot : totF awG [3, -1] [-1] (awD0.ls.map cpL) = 1 := by
  have h : timesR awG [3, -1] [-1] (cpL ⟨false, ⟨false, [5, 3, 2], []⟩⟩) = 1 := by
    unfold timesR cpL
    dsimp only
    rw [List.tail_cons, aw_rw]
  simp only [awD0, List.map_cons, List.map_nil, totF, List.foldl_cons, List.foldl_nil]
  rw [h]
  decide
theorem aw_ys {ys : List LitR} (hl : ys.length = awD0.ls.length) (h : ∀ (j : Nat) a b, awD0.ls[j]? = some a → ys[j]? = some b → RW awG [3, -1] [-1] a b) : ys = [awM] := by
  match ys, hl with
  | [m], _ =>
    obtain ⟨h1, ⟨h2, h3⟩, p, r, y, k, h4, h5, h6⟩ := h 0 ⟨false, ⟨false, [5, 3, 2], []⟩⟩ m rfl rfl
    dsimp only at h4
    injection h4 with h7 h8
    subst h7; subst h8
    rw [aw_rw] at h6
    simp only [Option.some.injEq, Prod.mk.injEq] at h6
    obtain ⟨rfl, _⟩ := h6
    obtain ⟨mn, ⟨mz, ml, me⟩⟩ := m
    dsimp only at h1 h2 h3 h5
    subst h1; subst h2; subst h3; subst h5
    rfl
theorem aw_new : oC (anewC (rwC [awM] awD0)) = .agg [.own false 35 2 [.agg [.bool false, .sl 1 false (ints [5, 2]) []]], .own true 23 1 [], .own true 35 2 []] := by rfl
theorem aw_cl : C 24 [iG false awG [], .d (.agg [.sl 1 false (ints [3, -1]) [], .sl 1 false (ints [-1]) []]), .d (.agg [.sl 2 false [.agg [.bool false, .sl 1 false (ints [5, 3, 2]) []]] [], .sl 1 true [] [], .sl 2 true [] []])] = some (.tup [.agg [.own false 35 2 [.agg [.bool false, .sl 1 false (ints [5, 2]) []]], .own true 23 1 [], .own true 35 2 []], iI 1, iI 0], [iG false awG [], .d (.agg [.sl 1 false (ints [3, -1]) [], .sl 1 false (ints [-1]) []]), .d (.agg [.sl 2 false [.agg [.bool false, .sl 1 false (ints [5, 3, 2]) []]] [], .sl 1 true [] [], .sl 2 true [] []])]) := by
  obtain ⟨v, h1, h2⟩ := w_sclause false false false (g := awG) [] [] [] aw_ru (by simp) (by simp) awD0_may awD0_nil
  rcases h2 with ⟨_, ⟨l, hl, h3⟩ | ⟨ys, h3, h4, h5⟩⟩ | ⟨ys, rfl, _, h4, h5⟩
  · simp [awD0] at hl
    subst hl
    rw [List.tail_cons, aw_rw] at h3
    cases h3
  · rw [aw_ys h4 h5, awM_may] at h3; cases h3
  · rw [aw_ys h4 h5, aw_tot, aw_new] at h1
    exact h1
theorem aw_cut : C 16 [iG false awG [], .d (.agg [.bool false, .sl 1 false (ints [5, -1]) []]), .d (.agg [.sl 2 false [.agg [.bool true, .sl 1 false (ints [5, 1]) []], .agg [.bool false, .sl 1 false (ints [5, 2]) []]] [], .sl 1 true [] [], .sl 2 true [] []])] = some (.tup [.agg [.own false 35 2 [.agg [.bool false, .sl 1 false (ints [5, 2]) []]], .own true 23 1 [], .own true 35 2 []], iI 1, iI 0], [iG false awG [], .d (.agg [.bool false, .sl 1 false (ints [5, -1]) []]), .d (.agg [.sl 2 false [.agg [.bool true, .sl 1 false (ints [5, 1]) []], .agg [.bool false, .sl 1 false (ints [5, 2]) []]] [], .sl 1 true [] [], .sl 2 true [] []])]) := W_ev (n := 60) (by kernel_rfl)
theorem aw_err : C 9 [iG false awG [], .d (.agg [.sl 1 false (ints [1]) [], .sl 1 false (ints [2]) []]), iS true [] []] = some (.tup [iS true [] [], iI 0, iI 1600], [iG false awG [], .d (.agg [.sl 1 false (ints [1]) [], .sl 1 false (ints [2]) []]), iS true [] []]) := W_ev (n := 60) (by kernel_rfl)
theorem w_words : C 25 [] = some (.own false 92 4 (syms awG), []) := W_ev (n := 60) (by kernel_rfl)
theorem aw_same : C 19 [.d (.agg [.sl 2 false [.agg [.bool false, .sl 1 false (ints [5, 2]) []]] [], .sl 1 true [] [], .sl 2 true [] []]), .d (.agg [.sl 2 false [.agg [.bool false, .sl 1 false (ints [5, 2]) []]] [], .sl 1 true [] [], .sl 2 true [] []])] = some (iB true, [.d (.agg [.sl 2 false [.agg [.bool false, .sl 1 false (ints [5, 2]) []]] [], .sl 1 true [] [], .sl 2 true [] []]), .d (.agg [.sl 2 false [.agg [.bool false, .sl 1 false (ints [5, 2]) []]] [], .sl 1 true [] [], .sl 2 true [] []])]) := W_ev (n := 60) (by kernel_rfl)
theorem aw_i1 : C 14 [iS false [3, -1] [], iS false [3, -1] []] = some (iB true, [iS false [3, -1] [], iS false [3, -1] []]) := W_ev (n := 60) (by kernel_rfl)
theorem aw_i2 : C 14 [iS false [-1] [], iS false [-1] []] = some (iB true, [iS false [-1] [], iS false [-1] []]) := W_ev (n := 60) (by kernel_rfl)
theorem aw_i3 : C 14 [iS false [4, 1, -1] [], iS false [4, 1, -1] []] = some (iB true, [iS false [4, 1, -1] [], iS false [4, 1, -1] []]) := W_ev (n := 60) (by kernel_rfl)
theorem w_awake : C 8 [] = some (iB true, []) := by
  refine wfn (lk := []) rfl rfl (fnW_way (q8 _ _ _) ?_)
  refine ⟨_, _, w_words, _, _, _, _, _, _, _, _, aw_rule, condW_t rfl ⟨_, _, w_words, _, _, _, _, _, _, _, _, aw_rew, _, _, w_words, .inr ⟨_, _, _, _, _, _, _, _, _, _, _, aw_cl, _, _, w_words, .inl ⟨_, _, _, _, _, _, _, _, _, _, _, aw_cut, _, _, w_words, _, _, _, _, _, _, _, _, aw_err, ?_⟩⟩⟩⟩
  refine ⟨_, _, w_num _, condW_t rfl ⟨_, _, _, aw_i1, condW_t rfl ⟨_, _, _, aw_i2, condW_t rfl ⟨_, _, _, aw_i3, condW_t rfl (condW_t rfl ⟨_, _, w_num _, condW_t rfl (condW_t rfl ⟨_, _, w_num _, condW_t rfl ⟨_, _, _, aw_same, condW_t rfl (condW_t rfl ⟨_, _, w_num _, condW_t rfl ⟨_, _, _, aw_same, condW_t rfl ⟨_, _, w_num _, condW_t rfl rfl⟩⟩⟩)⟩⟩)⟩)⟩⟩⟩⟩
end Go.Proofs.YtmldmhbdeejcnaaDoor.Ab

/- Chapter 16's law SimpHolds: for every input the law returns true. No condition. -/
set_option linter.unusedVariables false
set_option linter.unusedSimpArgs false
set_option maxRecDepth 100000
namespace Go.Proofs.YtmldmhbdeejcnaaDoor.Ab
open Go Go.Ab Go.Qu Go.Proofs
theorem law_simpholds (z : Bool) (g : List Sym) {c d : Cl} (hn : NilC c) (hm : NilC d) (i : Int) (zn : Bool) {ns : List Int} (hns : Len ns) : C 7 [iG z g [], iC c, iC d, iI i, iS zn ns []] = some (iB true, [iG z g [], iC c, iC d, iI i, iS zn ns []]) := by
  refine wfn (lk := []) rfl rfl (fnW_way (q7 _ _ z (syms g) [] c.lz (lits c.ls) c.le c.tz (rws c.ts) c.te c.cz (lits c.cs) c.ce d.lz (lits d.ls) d.le d.tz (rws d.ts) d.te d.cz (lits d.cs) d.ce i zn (ints ns) [] _) ?_)
  have v1 := w_clvars z g [] hn
  have v2 := w_clvars z g [] hm
  refine ⟨_, w_awake, condW_t rfl ⟨_, _, _, _, _, v1, _, _, _, _, _, v2, ?_⟩⟩
  cases hc : clB g c with
  | false => exact ⟨_, _, w_num _, condW_t (by simp) rfl⟩
  | true =>
  refine ⟨_, _, w_num _, condW_f (by simp) ?_⟩
  cases hd : clB g d with
  | false => exact ⟨_, _, w_num _, condW_t (by simp) rfl⟩
  | true =>
  refine ⟨_, _, w_num _, condW_f (by simp) ?_⟩
  by_cases hnn : ns = []
  · subst hnn
    exact condW_t rfl rfl
  have hpos := List.length_pos_iff.2 hnn
  refine condW_f (by rw [ints_len]; simp; omega) ⟨_, _, w_few _ _, ?_⟩
  rw [if_pos rfl]
  cases f1 : decide ((varsC c.c.rows).length ≤ 6) with
  | false => exact condW_f rfl rfl
  | true =>
  refine condW_t rfl ⟨_, _, w_few _ _, ?_⟩
  rw [if_pos rfl]
  cases f2 : decide ((varsC d.c.rows).length ≤ 6) with
  | false => exact condW_f rfl rfl
  | true =>
  refine condW_t rfl ?_
  by_cases hl1 : c.ls.length = 1
  rotate_left
  · exact condW_t (by rw [lits_len]; simp; omega) rfl
  refine condW_f (by rw [lits_len]; simp; omega) ?_
  have hkc := clOk.1 ((clB_c g c).symm.trans hc)
  have hkd := clOk.1 ((clB_c g d).symm.trans hd)
  have ht3 : c.ts.length ≤ 3 := by have := hkc.t3; simpa [Cl.c] using this
  have hc3 : c.cs.length ≤ 3 := by have := hkc.c3; simpa [Cl.c] using this
  have hwr : IntKind.wrap .i64 (((rws c.ts).length : Int) + ((lits c.cs).length : Int)) = ((c.ts.length + c.cs.length : Nat) : Int) := by
    rw [rws_len, lits_len, wr _ (by omega) (by omega)]; omega
  rw [hwr]
  by_cases h0 : c.ts.length + c.cs.length = 0
  rotate_left
  · exact condW_t (decide_eq_true (by omega)) rfl
  refine condW_f (decide_eq_false (by omega)) ?_
  have hg := sigOk hkc.sg
  have hs := size_in i
  obtain ⟨b1, p1, m1⟩ := w_mclause hg hs z zn hns [] [] hc
  obtain ⟨b2, p2, m2⟩ := w_mclause hg hs z zn hns [] [] hd
  refine ⟨_, _, _, _, _, _, w_new i zn ns [], _, _, _, _, m1, ?_⟩
  cases hb1 : b1 with
  | false => exact condW_f rfl rfl
  | true =>
  refine condW_t rfl ⟨_, _, _, _, m2, ?_⟩
  obtain ⟨lz, ls, le, tz, ts, te, cz, cs, ce⟩ := c
  dsimp only at hl1 h0
  have e2 : ts = [] := List.length_eq_zero_iff.1 (by omega)
  have e3 : cs = [] := List.length_eq_zero_iff.1 (by omega)
  subst e2; subst e3
  obtain ⟨l, rfl⟩ := List.length_eq_one_iff.1 hl1
  have hla : atomB g l.r.l = true := lit_atom hc (by simp)
  have hlz : l.r.z = true → l.r.l = [] := lit_nil (l := l) hn (by simp)
  have hun : ∀ env, inR (sizeM i) env → litH g (tvM (sizeM i) ns) (pvM ns) env (l.neg, l.r.l) = true := fun env hin => by
    have h1 := (holds_all (tv := tvM (sizeM i) ns) (pv := pvM ns) (qv := qvM ns) hs.1 (c := Cl.c ⟨lz, [l], le, tz, [], te, cz, [], ce⟩)).1 (p1.1 hb1) env hin
    exact unit_lit h1
  have hcut := w_cut z g [] l.neg l.r.z l.r.l l.r.e hm
  rw [hla, hd, Bool.and_true, if_pos rfl] at hcut
  have okx := anew_ok (cutC_ok (un := l.neg) (ua := l.r.l) hd)
  have mayx := w_clmay z g [] (anewC (cutC g l.neg l.r.l d))
  rw [okx] at mayx
  obtain ⟨b3, p3, m3⟩ := w_mclause hg hs z zn hns [] [] okx
  have e3 : b3 = b2 := Bool.eq_iff_iff.2 ((p3.trans (cut_same hs.1 hla hun hd)).trans p2.symm)
  subst e3
  obtain ⟨v, hrule, hv⟩ := w_ruleU z (g := g) [] lz tz cz le te ce hc hlz
  have hat : (lits [l])[0]? = some (.agg [.bool l.neg, .sl 1 l.r.z (ints l.r.l) l.r.e]) := rfl
  rcases hv with rfl | ⟨a, b, L, R, hneg, hrl, ha1, hb1', hLR, hmo, rfl⟩
  · cases b3
    · exact condW_f rfl ⟨_, _, _, _, hat, .inl ⟨_, _, _, _, _, _, _, _, _, _, _, hcut, _, _, w_num _, condW_f rfl ⟨_, _, _, mayx, condW_t rfl ⟨_, _, _, _, m3, condW_f rfl ⟨_, _, _, _, _, _, _, _, hrule, condW_f rfl ⟨_, _, w_num _, condW_f rfl ⟨_, _, w_num _, condW_t rfl rfl⟩⟩⟩⟩⟩⟩⟩
    · exact condW_t rfl ⟨_, _, _, _, hat, .inl ⟨_, _, _, _, _, _, _, _, _, _, _, hcut, _, _, w_num _, condW_f rfl ⟨_, _, _, mayx, condW_t rfl ⟨_, _, _, _, m3, condW_t rfl ⟨_, _, _, _, _, _, _, _, hrule, condW_f rfl ⟨_, _, w_num _, condW_f rfl ⟨_, _, w_num _, condW_t rfl rfl⟩⟩⟩⟩⟩⟩⟩
  · rw [hrl] at hla
    have hrow : rowB g (a ++ b) = true := (atom_row hla).2
    have hst : oneB g a = true ∧ oneB g b = true := by
      have h48 := (rowB_parts hrow).2.1
      rw [List.length_append] at h48
      exact ⟨one_of hkc.sg (by omega) ha1, one_of hkc.sg (by omega) hb1'⟩
    have hEab : ∀ env, inR (sizeM i) env → evT g (tvM (sizeM i) ns) env a 1 = evT g (tvM (sizeM i) ns) env b 1 := fun env hin => by
      have h1 := hun env hin
      rw [hneg, hrl] at h1
      exact eq_vals ha1 hb1' hrow h1
    have hru : ruB g L R = true := by
      rcases hLR with ⟨rfl, rfl⟩ | ⟨rfl, rfl⟩
      · exact mo_ru hst.1 hst.2 hmo
      · exact mo_ru hst.2 hst.1 hmo
    have hE : ∀ env, inR (sizeM i) env → evT g (tvM (sizeM i) ns) env L 1 = evT g (tvM (sizeM i) ns) env R 1 := by
      rcases hLR with ⟨rfl, rfl⟩ | ⟨rfl, rfl⟩
      · exact hEab
      · exact fun env hin => (hEab env hin).symm
    obtain ⟨v, hcl, hv⟩ := w_sclause z false false (g := g) [] [] [] hru (by simp) (by simp) hd hm
    rcases hv with ⟨rfl, _⟩ | ⟨ys, rfl, hy, hyl, hyy⟩
    · cases b3
      · exact condW_f rfl ⟨_, _, _, _, hat, .inl ⟨_, _, _, _, _, _, _, _, _, _, _, hcut, _, _, w_num _, condW_f rfl ⟨_, _, _, mayx, condW_t rfl ⟨_, _, _, _, m3, condW_f rfl ⟨_, _, _, _, _, _, _, _, hrule, condW_t rfl ⟨_, _, w_num _, condW_f rfl (.inl ⟨_, _, _, _, _, hcl, _, _, w_num _, condW_t rfl rfl⟩)⟩⟩⟩⟩⟩⟩
      · exact condW_t rfl ⟨_, _, _, _, hat, .inl ⟨_, _, _, _, _, _, _, _, _, _, _, hcut, _, _, w_num _, condW_f rfl ⟨_, _, _, mayx, condW_t rfl ⟨_, _, _, _, m3, condW_t rfl ⟨_, _, _, _, _, _, _, _, hrule, condW_t rfl ⟨_, _, w_num _, condW_f rfl (.inl ⟨_, _, _, _, _, hcl, _, _, w_num _, condW_t rfl rfl⟩)⟩⟩⟩⟩⟩⟩
    · have oky := anew_ok hy
      have mayy := w_clmay z g [] (anewC (rwC ys d))
      rw [oky] at mayy
      obtain ⟨b4, p4, m4⟩ := w_mclause hg hs z zn hns [] [] oky
      have e4 : b4 = b3 := Bool.eq_iff_iff.2 ((p4.trans (rw_same' hs.1 hru hE hd hy hyl hyy)).trans p2.symm)
      subst e4
      cases b4
      · exact condW_f rfl ⟨_, _, _, _, hat, .inl ⟨_, _, _, _, _, _, _, _, _, _, _, hcut, _, _, w_num _, condW_f rfl ⟨_, _, _, mayx, condW_t rfl ⟨_, _, _, _, m3, condW_f rfl ⟨_, _, _, _, _, _, _, _, hrule, condW_t rfl ⟨_, _, w_num _, condW_f rfl (.inr ⟨_, _, _, _, _, _, _, _, _, _, _, hcl, _, _, w_num _, condW_f rfl ⟨_, _, _, mayy, condW_t rfl ⟨_, _, _, _, m4, condW_f rfl rfl⟩⟩⟩)⟩⟩⟩⟩⟩⟩
      · exact condW_t rfl ⟨_, _, _, _, hat, .inl ⟨_, _, _, _, _, _, _, _, _, _, _, hcut, _, _, w_num _, condW_f rfl ⟨_, _, _, mayx, condW_t rfl ⟨_, _, _, _, m3, condW_t rfl ⟨_, _, _, _, _, _, _, _, hrule, condW_t rfl ⟨_, _, w_num _, condW_f rfl (.inr ⟨_, _, _, _, _, _, _, _, _, _, _, hcl, _, _, w_num _, condW_f rfl ⟨_, _, _, mayy, condW_t rfl ⟨_, _, _, _, m4, condW_t rfl rfl⟩⟩⟩)⟩⟩⟩⟩⟩⟩
theorem call_simpholds (y0 y1 y2 y3 y4 : D) (g0 : Go.Ab.Good Tryd.prog 12 22 y0) (g1 : Go.Ab.Good Tryd.prog 12 39 y1) (g2 : Go.Ab.Good Tryd.prog 12 39 y2) (g3 : Go.Ab.Good Tryd.prog 12 3 y3) (g4 : Go.Ab.Good Tryd.prog 12 23 y4) : ∃ outs, C 7 [.d y0, .d y1, .d y2, .d y3, .d y4] = some (iB true, outs) := by
  obtain ⟨z, g, rfl⟩ := good_sig g0
  obtain ⟨c, rfl, _, hn⟩ := good_clauseN g1
  obtain ⟨d, rfl, _, hm⟩ := good_clauseN g2
  obtain ⟨i, rfl, _⟩ := good_int g3
  obtain ⟨zn, ns, rfl, hns⟩ := good_ints g4
  exact ⟨_, law_simpholds z g hn hm i zn hns⟩
end Go.Proofs.YtmldmhbdeejcnaaDoor.Ab
