/- What the rows of this seat share: the variable that is laid, the world in which it is so. No condition. -/
import Derived.Below
import Derived.ChangeOld
import Derived.LaidMore
import Derived.Lib.SmallJoins
import Derived.OpenShut
import Derived.ProofKit
import Derived.SevenTiedAt
import Derived.ShutString
import Derived.SizedLaws
import Derived.Stop.Joined
import Derived.Test.YthemimhlhjfdaaaDoorCards
import Derived.Test.YthemimhlhjfdaaaDoorRows
import Derived.Test.YthemimhlhjfdaaaDoorTie
import Derived.WalkKit
import Derived.Test.YthemimhlhjfdaaaDoorPointClauses0
import Derived.Test.YthemimhlhjfdaaaDoorPointClauses1
import Derived.Test.YthemimhlhjfdaaaDoorPointClauses2
import Derived.Test.YthemimhlhjfdaaaDoorPointClauses3
import Derived.Test.YthemimhlhjfdaaaDoorPointClauses4
import Derived.Test.YthemimhlhjfdaaaDoorPointClauses5
import Derived.Test.YthemimhlhjfdaaaDoorPointClauses6
import Derived.Test.YthemimhlhjfdaaaDoorPointClauses7
import Derived.Test.YthemimhlhjfdaaaDoorPointClauses8
import Derived.Test.YthemimhlhjfdaaaDoorPointClauses9
import Derived.Test.YthemimhlhjfdaaaDoorPointClauses10
import Derived.Test.YthemimhlhjfdaaaDoorPointClauses11
import Derived.Test.YthemimhlhjfdaaaDoorPointClauses12
namespace Go.Proofs.YthemimhlhjfdaaaDoor.Ab
open Go Go.Ab Go.Qu Go.Proofs Go.ChangeShapes Go.WideShapes Go.ChangeAt Go.RowKit Go.Joins
set_option linter.unusedVariables false
set_option maxRecDepth 100000
theorem own : ownKnob Tryd.prog.godebug = none := by kernel_rfl
theorem laidOut : laidOutB Tryd.prog = true := by kernel_rfl
abbrev laid1 : List (String × DataW Unit) := [("quaere/sign.equals", Rows.laid_quaere_sign_equals)]
theorem gEq : Tryd.prog.globalNamed "quaere/sign.equals" = some 0 := by kernel_rfl
theorem tEq : (Tryd.prog.globals[0]?).map (·.type) = some 77 := by kernel_rfl
theorem door_met (os : Os) (args : Array Value) : laidMetH Tryd.prog laid1 ((World.doorLaid Tryd.prog 400 os).forCall (fun _ _ => 0) ⟨#[], args, []⟩).memory :=
  laidMetH_of_parts3 (fuel := 8) (laidMet_of_run' 8 (by kernel_rfl) (by kernel_rfl)) (by kernel_rfl) (by kernel_rfl)
theorem globs {W : World} (h : laidMetH Tryd.prog laid1 W) : GlobOk (Hw W) F.G := by
  rw [MakeChecks.laidMetH_plain _ _ _ (by kernel_rfl)] at h
  obtain ⟨ps, ⟨g0, t0, cs0, f0, p0, q0, hg0, ht0, hv0, hd0, _, _⟩, _, _⟩ := h
  obtain rfl := Option.some.inj (gEq.symm.trans hg0)
  obtain rfl := Option.some.inj (tEq.symm.trans ht0)
  obtain ⟨xs, n, _, hx, hlen, hxl, hf⟩ := DataW.trod_struct Tryd.underlying77 hd0
  have c1 : Tryd.prog.cellsOf 77 = 4 := by kernel_rfl
  have cs : Tryd.prog.cellsOf 9 = 1 := by kernel_rfl
  have ci : Tryd.prog.cellsOf 3 = 1 := by kernel_rfl
  rw [c1] at hlen
  have hx1 : xs.map (·.1) = [.lit (.string [61]), .lit (.int .i64 0), .lit (.int .i64 2), .lit (.int .i64 1)] := by
    simp only [Prod.mk.injEq] at hx
    have h9 := hx.1
    unfold Rows.laid_quaere_sign_equals at h9
    simp only [DataW.agg.injEq] at h9
    exact h9.symm
  have hcs : ∃ a b c d, cs0.toList = [a, b, c, d] := by
    match h : cs0.toList, hlen with
    | [a, b, c, d], _ => exact ⟨a, b, c, d, rfl⟩
  obtain ⟨a, b, c, d, hcs⟩ := hcs
  have hxs : ∃ x0 x1 x2 x3, xs = [x0, x1, x2, x3] := by
    match xs, hxl with
    | [x0, x1, x2, x3], _ => exact ⟨x0, x1, x2, x3, rfl⟩
  obtain ⟨x0, x1, x2, x3, rfl⟩ := hxs
  simp only [List.map_cons, List.map_nil, List.cons.injEq, and_true] at hx1
  obtain ⟨e0, e1, e2, e3⟩ := hx1
  have h0 : DataW.trod (fun _ => ()) Tryd.prog W 0 (fun _ => true) false n 9 ((cs0.toList.drop 0).take (Tryd.prog.cellsOf 9)) = some x0 := hf 0 _ rfl
  have h1 : DataW.trod (fun _ => ()) Tryd.prog W 0 (fun _ => true) false n 3 ((cs0.toList.drop 1).take (Tryd.prog.cellsOf 3)) = some x1 := hf 1 _ rfl
  have h2 : DataW.trod (fun _ => ()) Tryd.prog W 0 (fun _ => true) false n 3 ((cs0.toList.drop 2).take (Tryd.prog.cellsOf 3)) = some x2 := hf 2 _ rfl
  have h3 : DataW.trod (fun _ => ()) Tryd.prog W 0 (fun _ => true) false n 3 ((cs0.toList.drop 3).take (Tryd.prog.cellsOf 3)) = some x3 := hf 3 _ rfl
  rw [hcs, cs] at h0
  rw [hcs, ci] at h1 h2 h3
  obtain ⟨s, ha, hs, _⟩ := DataW.trod_string Tryd.underlying9 h0
  obtain ⟨n1, hb, hn1, _⟩ := DataW.trod_int Tryd.underlying3 h1
  obtain ⟨n2, hc, hn2, _⟩ := DataW.trod_int Tryd.underlying3 h2
  obtain ⟨n3, hd, hn3, _⟩ := DataW.trod_int Tryd.underlying3 h3
  simp at ha hb hc hd
  rw [hs] at e0; rw [hn1] at e1; rw [hn2] at e2; rw [hn3] at e3
  simp at e0 e1 e2 e3
  subst ha hb hc hd e1 e2 e3
  have hse : s = "=".toUTF8 := by
    have h5 : "=".toUTF8.data.toList = [61] := by decide +kernel
    have h6 : s.data = "=".toUTF8.data := Array.toList_inj.1 (e0.trans h5.symm)
    exact (show ∀ (x y : ByteArray), x.data = y.data → x = y by intro ⟨_⟩ ⟨_⟩ h; exact congrArg _ h) _ _ h6
  subst hse
  have hcell : ∀ (j : Nat) u, [Value.string "=".toUTF8, .int .i64 0, .int .i64 2, .int .i64 1][j]? = some u → W.cell? ⟨0, j, none⟩ = some u := fun j u hj => by
    have h7 := World.var?_cell hg0 hv0 j
    have h8 : cs0[j]? = some u := by rw [← Array.getElem?_toList, hcs]; exact hj
    rw [h8] at h7
    simpa using h7
  intro g cs hg
  simp only [F, List.map_cons, List.map_nil, assoc] at hg
  split at hg
  · rename_i hg0
    subst hg0
    simp only [Option.some.injEq] at hg
    subst hg
    refine ⟨[.string "=".toUTF8, .int .i64 0, .int .i64 2, .int .i64 1], ?_, fun j u hj => ?_, by simp [D.isAgg]⟩
    · unfold D.RepL; refine ⟨[_], _, rfl, by unfold D.Rep; rfl, ?_⟩
      unfold D.RepL; refine ⟨[_], _, rfl, by unfold D.Rep; rfl, ?_⟩
      unfold D.RepL; refine ⟨[_], _, rfl, by unfold D.Rep; rfl, ?_⟩
      unfold D.RepL; refine ⟨[_], [], rfl, by unfold D.Rep; rfl, ?_⟩
      unfold D.RepL; rfl
    · refine Hw.cell ?_
      have h9 := hcell j u hj
      unfold Addr.add
      split
      · rename_i hj0; subst hj0; exact h9
      · simpa using h9
  · simp at hg
theorem fxOk : FxOk Tryd.prog F where
  orders := by kernel_rfl
  tab := tab_ok
  code := code_ok.get
  prim := fun f p args r outs h => by cases h
/-! ### Arguments -/
theorem good_sym {n : Nat} {x : D} (h : Go.Ab.Good Tryd.prog (n + 2) 77 x) : ∃ s : Sym, x = s.d := by
  unfold Go.Ab.Good at h
  rw [Tryd.underlying77] at h
  obtain ⟨ys, rfl, y0, r0, rfl, h0, y1, r1, rfl, h1, y2, r2, rfl, h2, y3, r3, rfl, h3, rfl⟩ := h
  unfold Go.Ab.Good at h0 h1 h2 h3
  simp only [Tryd.underlying9, Tryd.underlying3] at h0 h1 h2 h3
  obtain ⟨s, rfl, _⟩ := h0
  obtain ⟨a, rfl, _⟩ := h1
  obtain ⟨b, rfl, _⟩ := h2
  obtain ⟨c, rfl, _⟩ := h3
  exact ⟨⟨s, a, b, c⟩, rfl⟩
theorem good_sig {n : Nat} {x : D} (h : Go.Ab.Good Tryd.prog (n + 3) 43 x) : ∃ z g, x = .sl 4 z (syms g) [] := by
  unfold Go.Ab.Good at h
  rw [Tryd.underlying43] at h
  obtain ⟨z, xs, rfl, _, h2, _⟩ := h
  have hc : Tryd.prog.cellsOf 77 = 4 := by kernel_rfl
  rw [hc]
  obtain ⟨g, rfl, _⟩ := all_map (f := Sym.d) (Q := fun _ => True) (fun y hy => by obtain ⟨s, hs⟩ := good_sym (h2 y hy); exact ⟨s, hs, trivial⟩)
  exact ⟨z, g, rfl⟩
theorem good_int {n : Nat} {x : D} (h : Go.Ab.Good Tryd.prog (n + 1) 3 x) : ∃ a : Int, x = .int .i64 a ∧ -9223372036854775808 ≤ a ∧ a ≤ 9223372036854775807 := by
  unfold Go.Ab.Good at h
  rw [Tryd.underlying3] at h
  obtain ⟨a, rfl, hw⟩ := h
  refine ⟨a, rfl, ?_⟩
  simp [Lit.wf, IntKind.min, IntKind.max, IntKind.bits, IntKind.signed] at hw
  omega
theorem good_ints {n : Nat} {x : D} (h : Go.Ab.Good Tryd.prog (n + 2) 56 x) : ∃ z l, x = .sl 1 z (ints l) [] ∧ Len l := by
  unfold Go.Ab.Good at h
  rw [Tryd.underlying56] at h
  obtain ⟨z, xs, rfl, h1, h2, _⟩ := h
  have hc : Tryd.prog.cellsOf 3 = 1 := by kernel_rfl
  have hb : Tryd.prog.bytesOf 3 = 8 := by kernel_rfl
  rw [hb] at h1
  rw [hc]
  obtain ⟨l, rfl, _⟩ := all_map (f := D.int .i64) (Q := fun _ => True) (fun y hy => by obtain ⟨a, ha, _⟩ := good_int (h2 y hy); exact ⟨a, ha, trivial⟩)
  rw [List.length_map] at h1
  exact ⟨z, l, rfl, by unfold Len; simpa [reachBytes] using h1⟩
theorem good_rows {n : Nat} {x : D} (h : Go.Ab.Good Tryd.prog (n + 3) 45 x) : ∃ z rs, x = .sl 1 z (rws rs) [] ∧ rs.length * 24 ≤ 140737488351232 ∧ ∀ r ∈ rs, Len r.l := by
  unfold Go.Ab.Good at h
  rw [Tryd.underlying45] at h
  obtain ⟨z, xs, rfl, h1, h2, _⟩ := h
  have hc : Tryd.prog.cellsOf 56 = 1 := by kernel_rfl
  have hb : Tryd.prog.bytesOf 56 = 24 := by kernel_rfl
  rw [hb] at h1
  rw [hc]
  obtain ⟨rs, rfl, h4⟩ := all_map (f := Row.d) (Q := fun r => Len r.l) (fun y hy => by obtain ⟨z, l, h, hl⟩ := good_ints (h2 y hy); exact ⟨⟨z, l, []⟩, h, hl⟩)
  rw [List.length_map] at h1
  exact ⟨z, rs, rfl, by simpa [reachBytes] using h1, h4⟩
end Go.Proofs.YthemimhlhjfdaaaDoor.Ab

/- Rows of terms, atoms: what the program's and the reference's functions hand back. For every input; no condition. -/
set_option linter.unusedVariables false
set_option linter.unusedSimpArgs false
set_option maxRecDepth 100000
namespace Go.Proofs.YthemimhlhjfdaaaDoor.Ab
open Go Go.Ab Go.Qu Go.Proofs
attribute [local simp] and_assoc
theorem w_number (c : Int) : C 68 [iI c] = some (iI (IntKind.wrap .i64 (-1 - c)), [iI c]) :=
  wfn (lk := []) rfl rfl (fnW_way (q68 _ _ c _) (by simp))
theorem w_number23 : C 68 [iI 23] = some (iI (-24), [iI 23]) := by rw [w_number, wr _ (by omega) (by omega)]; rfl
theorem w_args {g : List Sym} (hg : SigOk g) (z : Bool) (e : List D) (c : Int) : C 67 [iG z g e, iI c] = some (.tup [iI (arV g c), iB (arOf g c).isSome], [iG z g e, iI c]) := by
  refine wfn (lk := []) rfl rfl (fnW_way (q67 _ _ z (syms g) e c _) ?_)
  by_cases h0 : c < 0
  · by_cases h1 : -24 ≤ c
    · simp [h0, h1, arV, arOf, w_number23]
    · simp [h0, h1, arV, arOf, w_number23]; omega
  by_cases h2 : c < g.length
  · obtain ⟨s, hs⟩ := at_lt (l := g) (i := c.toNat) (by omega)
    have hn := hg.nums _ _ hs
    have h3 : 0 ≤ c := by omega
    have h4 : ¬ (g.length : Int) ≤ c := by omega
    by_cases hk : s.kind = 0
    · simp [-getElem?_pos, h0, h2, h3, h4, syms_len, syms_at hs, arV, arOf, hs, hk]
    · simp [-getElem?_pos, h0, h2, h3, h4, syms_len, syms_at hs, arV, arOf, hs, hk]; omega
  · have hs : g[c.toNat]? = none := List.getElem?_eq_none (by omega)
    have h4 : (g.length : Int) ≤ c := by omega
    simp [h0, h4, syms_len, arV, arOf, hs]
theorem l_skip {g : List Sym} (hg : SigOk g) (z z' : Bool) (e e' : List D) {r : List Int} (hr : r.length < 20000000000000) : ∀ x : Nat × Nat, (1 ≤ x.2 ∧ x.2 ≤ 3 * x.1 + 1 ∧ x.1 ≤ r.length) →
    ∃ o, evG (JW F d66 []) d66 [1, 0] 0 [(0, iG z g e), (1, iS z' r e'), (2, iI x.1), (8, iI x.2)] = some o ∧ o = .ret [(6, iI (skV g r x.1 x.2)), (7, iB (skB g r x.1 x.2))] :=
  label_rule (F := F) (d := d66) (lk := []) (p := [1, 0]) (fun _ => 0) (fun (x : Nat × Nat) => [(0, iG z g e), (1, iS z' r e'), (2, iI x.1), (8, iI x.2)]) _ (fun x => r.length - x.1) (fun x o => o = .ret [(6, iI (skV g r x.1 x.2)), (7, iB (skB g r x.1 x.2))]) (fun _ _ => by decide +kernel) (fun x hx => by
    obtain ⟨i, n⟩ := x
    obtain ⟨h1, h2, h3⟩ := hx
    dsimp only at h1 h2 h3 ⊢
    by_cases hi : i < r.length
    · have hi' : ¬ (r.length : Int) ≤ i := by omega
      cases ha : arOf g (gi r i) with
      | none =>
        refine .inr ⟨_, wpR_way (q66_l1000000a _ _ z (syms g) e z' (ints r) e' i n _) ?_, rfl, rfl⟩
        simp [-getElem?_pos, ints_len, hi', Go.Ab.ints_at hi, w_args hg, ha, skV, skB, lenN_no hi h1 ha]
      | some k =>
        have hk := arOf_le hg ha
        have hw1 : IntKind.wrap .i64 ((k : Int) - 1) = (k : Int) - 1 := wr _ (by omega) (by omega)
        have hw2 : IntKind.wrap .i64 ((n : Int) + ((k : Int) - 1)) = ((n + k - 1 : Nat) : Int) := by rw [wr _ (by omega) (by omega)]; omega
        have hw3 := wr1 hi (by omega)
        by_cases hn : 0 < n + k - 1
        · refine .inl ⟨(i + 1, n + k - 1), wpR_way (q66_l1000000a _ _ z (syms g) e z' (ints r) e' i n _) ?_, ⟨by dsimp only; omega, by dsimp only; omega, by dsimp only; omega⟩, by dsimp only; omega, fun o ho => ?_⟩
          · simp [-getElem?_pos, -Int.natCast_add, ints_len, hi', Go.Ab.ints_at hi, w_args hg, ha, arV, hw1, hw2, hw3, hn]
          · rw [ho]
            simp only [skV, skB, lenN_go hi h1 ha]
            cases lenN g (r.drop (i + 1)) (n + k - 1) <;> simp; omega
        · refine .inr ⟨_, wpR_way (q66_l1000000a _ _ z (syms g) e z' (ints r) e' i n _) ?_, rfl, rfl⟩
          have hz : n + k - 1 = 0 := by omega
          have hl : lenN g (r.drop i) n = some 1 := by rw [lenN_go hi h1 ha, hz]; simp [lenN]
          simp [-getElem?_pos, -Int.natCast_add, ints_len, hi', Go.Ab.ints_at hi, w_args hg, ha, arV, hw1, hw2, hw3, hz, skV, skB, hl]
    · have hi' : (r.length : Int) ≤ i := by omega
      refine .inr ⟨_, wpR_way (q66_l1000000a _ _ z (syms g) e z' (ints r) e' i n _) ?_, rfl, rfl⟩
      simp [ints_len, hi', skV, skB, lenN_end hi h1])
theorem w_skip {g : List Sym} (hg : SigOk g) (z z' : Bool) (e e' : List D) {r : List Int} (hr : r.length < 20000000000000) (i : Nat) : C 66 [iG z g e, iS z' r e', iI i] = some (.tup [iI (skV g r i 1), iB (skB g r i 1)], [iG z g e, iS z' r e', iI i]) := by
  refine wfn (lk := []) rfl rfl (fnW_way (q66 _ _ z (syms g) e z' (ints r) e' i _) ?_)
  by_cases hi : i < r.length
  · have hi' : ¬ (r.length : Int) ≤ i := by omega
    cases ha : arOf g (gi r i) with
    | none => simp [-getElem?_pos, ints_len, hi', Go.Ab.ints_at hi, w_args hg, ha, skV, skB, lenN_no hi (Nat.le_refl 1) ha]
    | some k =>
      have hk := arOf_le hg ha
      have hw1 : IntKind.wrap .i64 ((k : Int) - 1) = (k : Int) - 1 := wr _ (by omega) (by omega)
      have hw2 : IntKind.wrap .i64 (1 + ((k : Int) - 1)) = (k : Int) := by rw [wr _ (by omega) (by omega)]; omega
      have hw3 := wr1 hi (by omega)
      by_cases hn : 0 < k
      · obtain ⟨o, h1, rfl⟩ := l_skip hg z z' e e' hr (i + 1, k) ⟨hn, by dsimp only; omega, hi⟩
        have hl := lenN_go hi (Nat.le_refl 1) ha
        rw [show 1 + k - 1 = k by omega] at hl
        have e1 : skV g r i 1 = skV g r (i + 1) k := by
          simp only [skV, hl]
          cases lenN g (r.drop (i + 1)) k <;> simp; omega
        have e2 : skB g r i 1 = skB g r (i + 1) k := by simp [skB, hl]
        simp [-getElem?_pos, -Int.natCast_add, ints_len, hi', Go.Ab.ints_at hi, w_args hg, ha, arV, hw1, hw2, hw3, hn, h1, e1, e2]
      · have hz : k = 0 := by omega
        subst hz
        have hl : lenN g (r.drop i) 1 = some 1 := by rw [lenN_go hi (Nat.le_refl 1) ha]; simp [lenN]
        have hw0 : IntKind.wrap .i64 (-1) = -1 := wr _ (by omega) (by omega)
        have hw4 : IntKind.wrap .i64 0 = 0 := wr _ (by omega) (by omega)
        simp [-getElem?_pos, -Int.natCast_add, ints_len, hi', Go.Ab.ints_at hi, w_args hg, ha, arV, hw0, hw4, hw3, skV, skB, hl]
  · have hi' : (r.length : Int) ≤ i := by omega
    simp [ints_len, hi', skV, skB, lenN_end hi (Nat.le_refl 1)]
theorem l_begins {g : List Sym} (hg : sigB g = true) (z z' : Bool) (e e' : List D) {r : List Int} (hr : r.length ≤ 48) : ∀ x : List Int × Nat, (x.1.length ≤ x.2 ∧ x.2 ≤ r.length ∧ x.1 ≠ []) →
    ∃ o, evG (JW F d63 []) d63 [1, 0] 0 [(0, iG z g e), (1, iS z' r e'), (6, .own false 3 1 (ints x.1)), (7, iI x.2)] = some o ∧
      match parts g (r.drop x.2) with | some ts => o = .ret [(4, .own false 3 1 (ints (x.1 ++ begs x.2 ts))), (5, iB true)] | none => o = .ret [(4, .own true 3 1 []), (5, iB false)] :=
  label_rule (F := F) (d := d63) (lk := []) (p := [1, 0]) (fun _ => 0) (fun (x : List Int × Nat) => [(0, iG z g e), (1, iS z' r e'), (6, .own false 3 1 (ints x.1)), (7, iI x.2)]) _ (fun x => r.length - x.2) (fun x o => match parts g (r.drop x.2) with | some ts => o = .ret [(4, .own false 3 1 (ints (x.1 ++ begs x.2 ts))), (5, iB true)] | none => o = .ret [(4, .own true 3 1 []), (5, iB false)]) (fun _ _ => by decide +kernel) (fun x hx => by
    obtain ⟨acc, i⟩ := x
    obtain ⟨h1, h2, h3⟩ := hx
    dsimp only at h1 h2 h3 ⊢
    by_cases hi : i = r.length
    · refine .inr ⟨.ret [(4, .own false 3 1 (ints acc)), (5, iB true)], wpR_way (q63_l1000000a _ _ z (syms g) e z' (ints r) e' false (ints acc) i _) ?_, rfl, ?_⟩
      · simp [ints_len, hi]
      · rw [List.drop_of_length_le (by omega), parts_nil]; simp [begs]
    · have hne : r.drop i ≠ [] := by simp; omega
      have hsk := w_skip (sigOk hg) z z' e e' (r := r) (by omega) i
      have hi' : ¬ ((i : Int) = r.length) := by omega
      cases hl : lenN g (r.drop i) 1 with
      | none =>
        refine .inr ⟨.ret [(4, .own true 3 1 []), (5, iB false)], wpR_way (q63_l1000000a _ _ z (syms g) e z' (ints r) e' false (ints acc) i _) ?_, rfl, ?_⟩
        · simp [ints_len, hi', hsk, skV, skB, hl]
        · rw [parts_none hne hl]
      | some k =>
        have hle := lenN_le hl
        simp at hle
        refine .inl ⟨(acc ++ [(i : Int)], i + k), wpR_way (q63_l1000000a _ _ z (syms g) e z' (ints r) e' false (ints acc) i _) ?_, ⟨by simp; omega, by dsimp only; omega, by simp⟩, by dsimp only; omega, fun o ho => ?_⟩
        · simp [ints_len, hi', hsk, skV, skB, hl, ints_append, ints_cons, ints_nil]
          omega
        · rw [parts_some hne hl]
          rw [List.drop_drop]
          dsimp only at ho
          cases hp : parts g (r.drop (i + k)) with
          | none => rw [hp] at ho; exact ho
          | some ts =>
            rw [hp] at ho
            simp only [Option.map_some] at ho ⊢
            rw [ho]
            simp [begs, List.length_take]
            rw [show min k (r.length - i) = k by omega])
theorem w_begins (z z' : Bool) (g : List Sym) (e e' : List D) (r : List Int) : C 63 [iG z g e, iS z' r e'] = some (.tup [.own (begsM g r).isEmpty 3 1 (ints (begsM g r)), iB (rowB g r)], [iG z g e, iS z' r e']) := by
  refine wfn (lk := []) rfl rfl (fnW_way (q63 _ _ z (syms g) e z' (ints r) e' _) ?_)
  have hm := w_may z g e
  cases hg : sigB g
  · simp [hm, hg, begsM, rowB, ints_nil]
  by_cases hr : r.length ≤ 48
  rotate_left
  · have e1 : 48 < (r.length : Int) := by omega
    simp [hm, hg, begsM, rowB, ints_nil, rowP, hr, e1, ints_len]
  have e1 : ¬ 48 < (r.length : Int) := by omega
  by_cases h0 : r = []
  · subst h0
    simp [hm, hg, begsM, rowB, ints_nil, rowP, parts_nil, begs]
  have h0' : ¬ r.length = 0 := fun e => h0 (List.length_eq_zero_iff.1 e)
  have h0'' : ¬ ((0 : Int) = r.length) := by omega
  have hsk : C 66 [iG z g e, iS z' r e', iI 0] = some (.tup [iI (skV g r 0 1), iB (skB g r 0 1)], [iG z g e, iS z' r e', iI 0]) := w_skip (sigOk hg) z z' e e' (r := r) (by omega) 0
  cases hl : lenN g r 1 with
  | none =>
    simp [hm, hg, begsM, rowB, ints_nil, rowP, hr, e1, ints_len, h0'', hsk, skV, skB, hl, parts_none h0 hl]
  | some k =>
    have hle := lenN_le hl
    obtain ⟨o, h1, h2⟩ := l_begins hg z z' e e' hr ([0], k) ⟨by simp; omega, hle.1, by simp⟩
    dsimp only at h2
    simp only [ints_cons, ints_nil] at h1
    have hp := parts_some h0 hl
    cases hq : parts g (r.drop k) with
    | none =>
      rw [hq] at h2 hp
      subst h2
      simp [hm, hg, begsM, rowB, ints_nil, rowP, hr, e1, ints_len, h0'', hsk, skV, skB, hl, hp, h1]
    | some ts =>
      rw [hq] at h2 hp
      subst h2
      simp [hm, hg, begsM, rowB, ints_nil, rowP, hr, e1, ints_len, h0'', hsk, skV, skB, hl, hp, h1, begs, Nat.min_eq_left hle.1]
theorem w_isatom (z z' : Bool) (g : List Sym) (e e' : List D) (a : List Int) : C 62 [iG z g e, iS z' a e'] = some (iB (atomB g a), [iG z g e, iS z' a e']) := by
  refine wfn (lk := []) rfl rfl (fnW_way (q62 _ _ z (syms g) e z' (ints a) e' _) ?_)
  cases a with
  | nil => simp [ints_nil, atomB]
  | cons p r =>
    have e0 : ¬ ((r.length : Int) + 1 = 0) := by omega
    by_cases h0 : p < 0
    · have h3 : ¬ 0 ≤ p := by omega
      simp [ints_cons, ints_len, atomB, h0, e0, h3]
    by_cases h2 : p < g.length
    · obtain ⟨s, hs⟩ := at_lt (l := g) (i := p.toNat) (by omega)
      have h3 : 0 ≤ p := by omega
      have h4 : ¬ (g.length : Int) ≤ p := by omega
      have e1 : (1 : Int) ≤ (r.length : Int) + 1 := by omega
      have hb := w_begins z z' g e [] r
      by_cases hk : s.kind = 0
      · cases hg : sigB g
        · simp [-getElem?_pos, List.getElem?_cons_zero, ints_cons, ints_len, atomB, h0, e0, e1, h2, h3, h4, syms_len, syms_at hs, hs, hk, hb, hg, rowB]
        · cases hp : rowP g r with
          | none => simp [-getElem?_pos, List.getElem?_cons_zero, ints_cons, ints_len, atomB, h0, e0, e1, h2, h3, h4, syms_len, syms_at hs, hs, hk, hb, hg, rowB, hp]
          | some ts =>
            by_cases hc : (ts.length : Int) = s.ar
            · simp [-getElem?_pos, List.getElem?_cons_zero, ints_cons, ints_len, atomB, h0, e0, e1, h2, h3, h4, syms_len, syms_at hs, hs, hk, hb, hg, rowB, hp, begsM, begs_len, hc]
            · simp [-getElem?_pos, List.getElem?_cons_zero, ints_cons, ints_len, atomB, h0, e0, e1, h2, h3, h4, syms_len, syms_at hs, hs, hk, hb, hg, rowB, hp, begsM, begs_len, hc]
      · simp [-getElem?_pos, List.getElem?_cons_zero, ints_cons, ints_len, atomB, h0, e0, e1, h2, h3, h4, syms_len, syms_at hs, hs, hk]
    · have hs : g[p.toNat]? = none := List.getElem?_eq_none (by omega)
      have h4 : (g.length : Int) ≤ p := by omega
      simp [ints_cons, ints_len, atomB, h0, h2, e0, h4, syms_len, hs]
end Go.Proofs.YthemimhlhjfdaaaDoor.Ab

/- Rows of terms, atoms: what the reference's functions hand back. For every input; no condition. -/
set_option linter.unusedVariables false
set_option linter.unusedSimpArgs false
set_option maxRecDepth 100000
namespace Go.Proofs.YthemimhlhjfdaaaDoor.Ab
open Go Go.Ab Go.Qu Go.Proofs
attribute [local simp] and_assoc
theorem l_rend {g : List Sym} (hg : SigOk g) (z z' : Bool) (e e' : List D) {r : List Int} (hr : r.length < 20000000000000) (x : Nat × Nat) (hx : x.1 ≤ r.length ∧ x.2 ≤ 3 * x.1 + 1) :
    evP F (Go.Ab.W F) (JW F d60 []) d60 [] [1,1,0] [(0, iG z g e), (1, iS z' r e'), (7, iI x.2), (8, iI x.1)] = some (match lenN g (r.drop x.1) x.2 with | some k => .norm [(0, iG z g e), (1, iS z' r e'), (7, iI 0), (8, iI (x.1 + k : Nat))] | none => .ret [(6, iI (-1))]) :=
  blk_fun (F := F) (d := d60) (lk := []) (p := [1,1,0,0,0]) (p0 := [1,1,0]) (id := 0) (by kernel_rfl) (st := fun (x : Nat × Nat) => [(0, iG z g e), (1, iS z' r e'), (7, iI x.2), (8, iI x.1)]) (I := fun x => x.1 ≤ r.length ∧ x.2 ≤ 3 * x.1 + 1) (μ := fun x => r.length - x.1)
    (res := fun x => match lenN g (r.drop x.1) x.2 with | some k => .norm [(0, iG z g e), (1, iS z' r e'), (7, iI 0), (8, iI (x.1 + k : Nat))] | none => .ret [(6, iI (-1))])
    (fun x hx => by
      obtain ⟨i, n⟩ := x
      obtain ⟨h1, h2⟩ := hx
      dsimp only at h1 h2
      by_cases hn : n = 0
      · subst hn
        refine .stop (.exit 0 [(0, iG z g e), (1, iS z' r e'), (7, iI 0), (8, iI i)]) (wpQ_way (q60_l0a _ _ z (syms g) e z' (ints r) e' 0 i _) (by simp)) rfl ?_
        dsimp only
        cases r.drop i <;> simp [lenN, blkO]
      have hn1 : 1 ≤ n := by omega
      have hn2 : 0 < n := by omega
      by_cases hi : i < r.length
      rotate_left
      · have hi' : (r.length : Int) ≤ i := by omega
        refine .stop (.ret [(6, iI (-1))]) (wpQ_way (q60_l0a _ _ z (syms g) e z' (ints r) e' n i _) (by simp [hn2, ints_len, hi', hn])) rfl ?_
        dsimp only
        rw [lenN_end hi hn1]; rfl
      have hi' : ¬ (r.length : Int) ≤ i := by omega
      have hw0 : IntKind.wrap .i64 ((n : Int) - 1) = ((n : Int) - 1) := wr _ (by omega) (by omega)
      have hw3 := wr1 hi (by omega)
      have fin : ∀ {k : Nat}, arOf g (gi r i) = some k → (match lenN g (r.drop (i + 1)) (n + k - 1) with | some k => Out.norm [(0, iG z g e), (1, iS z' r e'), (7, iI 0), (8, iI (i + 1 + k : Nat))] | none => .ret [(6, iI (-1))]) = (match lenN g (r.drop i) n with | some k => Out.norm [(0, iG z g e), (1, iS z' r e'), (7, iI 0), (8, iI (i + k : Nat))] | none => .ret [(6, iI (-1))]) := fun {k} ha => by
        rw [lenN_go hi hn1 ha]
        cases lenN g (r.drop (i + 1)) (n + k - 1) <;> simp; omega
      by_cases h0 : gi r i < 0
      · have c1 : ¬ 0 ≤ gi r i := by omega
        have c3 : ¬ (g.length : Int) ≤ gi r i := by omega
        by_cases h3 : -24 ≤ gi r i
        · have c2 : ¬ gi r i < -24 := by omega
          have ha : arOf g (gi r i) = some 0 := by simp [arOf, h0, h3]
          have hcast : (n : Int) - 1 = ((n + 0 - 1 : Nat) : Int) := by omega
          refine .go (i + 1, n + 0 - 1) (wpQ_way (q60_l0a _ _ z (syms g) e z' (ints r) e' n i _) ?_) ⟨by dsimp only; omega, by dsimp only; omega⟩ (by dsimp only; omega) (fin ha)
          simp [-getElem?_pos, -Int.natCast_add, hn2, ints_len, hi', Go.Ab.ints_at hi, c1, c2, c3, hw0, hw3, syms_len]; omega
        · have c2 : gi r i < -24 := by omega
          refine .stop (.ret [(6, iI (-1))]) (wpQ_way (q60_l0a _ _ z (syms g) e z' (ints r) e' n i _) ?_) rfl (by dsimp only; rw [lenN_no hi hn1 (by simp [arOf, h0, h3])]; rfl)
          simp [-getElem?_pos, hn2, ints_len, hi', Go.Ab.ints_at hi, c2, h3]
      have c1 : 0 ≤ gi r i := by omega
      have c2 : ¬ gi r i < -24 := by omega
      by_cases h4 : gi r i < g.length
      · obtain ⟨s, hs⟩ := at_lt (l := g) (i := (gi r i).toNat) (by omega)
        have hnn := hg.nums _ _ hs
        have c3 : ¬ (g.length : Int) ≤ gi r i := by omega
        by_cases hk : s.kind = 0
        · refine .stop (.ret [(6, iI (-1))]) (wpQ_way (q60_l0a _ _ z (syms g) e z' (ints r) e' n i _) ?_) rfl (by dsimp only; rw [lenN_no hi hn1 (by simp [arOf, h0, hs, hk])]; rfl)
          simp [-getElem?_pos, hn2, ints_len, hi', Go.Ab.ints_at hi, c1, c2, c3, syms_len, syms_at hs, hk]
        · have hw1 : IntKind.wrap .i64 ((n : Int) - 1 + s.ar) = ((n + s.ar.toNat - 1 : Nat) : Int) := by rw [wr _ (by omega) (by omega)]; omega
          have ha : arOf g (gi r i) = some s.ar.toNat := by simp [arOf, h0, hs, hk]
          refine .go (i + 1, n + s.ar.toNat - 1) (wpQ_way (q60_l0a _ _ z (syms g) e z' (ints r) e' n i _) ?_) ⟨by dsimp only; omega, by dsimp only; omega⟩ (by dsimp only; omega) (fin ha)
          simp [-getElem?_pos, -Int.natCast_add, hn2, ints_len, hi', Go.Ab.ints_at hi, c1, c2, c3, syms_len, syms_at hs, hk, hw0, hw1, hw3]
          omega
      · have hs : g[(gi r i).toNat]? = none := List.getElem?_eq_none (by omega)
        have c3 : (g.length : Int) ≤ gi r i := by omega
        refine .stop (.ret [(6, iI (-1))]) (wpQ_way (q60_l0a _ _ z (syms g) e z' (ints r) e' n i _) ?_) rfl (by dsimp only; rw [lenN_no hi hn1 (by simp [arOf, h0, hs])]; rfl)
        simp [-getElem?_pos, hn2, ints_len, hi', Go.Ab.ints_at hi, c1, c2, c3, syms_len]) x hx
theorem w_rend {g : List Sym} (hg : SigOk g) (z z' : Bool) (e e' : List D) {r : List Int} (hr : r.length < 20000000000000) (i : Nat) (hi0 : i ≤ r.length) : C 60 [iG z g e, iS z' r e', iI i] = some (iI (skR g r i 1), [iG z g e, iS z' r e', iI i]) := by
  refine wfn (lk := []) rfl rfl (fnW_way (q60 _ _ z (syms g) e z' (ints r) e' i _) ?_)
  have h1 : evP F (Go.Ab.W F) (JW F d60 []) d60 [] [1,1,0] [(0, iG z g e), (1, iS z' r e'), (7, iI 1), (8, iI i)] = _ := l_rend hg z z' e e' hr (i, 1) ⟨hi0, by dsimp only; omega⟩
  cases hl : lenN g (r.drop i) 1 with
  | none => simp only [hl] at h1; simp [h1, skR, hl]
  | some k => simp only [hl] at h1; simp [h1, skR, hl]
/-- How many terms; -1: it is no row of terms. -/
theorem l_rterms {g : List Sym} (hg : SigOk g) (z z' : Bool) (e e' : List D) {r : List Int} (hr : r.length < 20000000000000) (x : Nat × Nat) (hx : x.2 ≤ r.length ∧ x.1 ≤ x.2) :
    evP F (Go.Ab.W F) (JW F d50 []) d50 [] [1,1,1,0] [(0, iG z g e), (1, iS z' r e'), (5, iI x.1), (6, iI x.2)] = some (match parts g (r.drop x.2) with | some ts => .norm [(0, iG z g e), (1, iS z' r e'), (5, iI (x.1 + ts.length : Nat)), (6, iI r.length)] | none => .ret [(4, iI (-1))]) :=
  blk_fun (F := F) (d := d50) (lk := []) (p := [1,1,1,0,0,0]) (p0 := [1,1,1,0]) (id := 0) (by kernel_rfl) (st := fun (x : Nat × Nat) => [(0, iG z g e), (1, iS z' r e'), (5, iI x.1), (6, iI x.2)]) (I := fun x => x.2 ≤ r.length ∧ x.1 ≤ x.2) (μ := fun x => r.length - x.2)
    (res := fun x => match parts g (r.drop x.2) with | some ts => .norm [(0, iG z g e), (1, iS z' r e'), (5, iI (x.1 + ts.length : Nat)), (6, iI r.length)] | none => .ret [(4, iI (-1))])
    (fun x hx => by
      obtain ⟨n, i⟩ := x
      obtain ⟨h1, h2⟩ := hx
      dsimp only at h1 h2
      by_cases hi : i < r.length
      · have hi' : (i : Int) < r.length := by omega
        have hne : r.drop i ≠ [] := by simp; omega
        have he := w_rend hg z z' e e' hr i h1
        have hw : IntKind.wrap .i64 ((n : Int) + 1) = ((n + 1 : Nat) : Int) := by rw [wr _ (by omega) (by omega)]; omega
        cases hl : lenN g (r.drop i) 1 with
        | none =>
          refine .stop (.ret [(4, iI (-1))]) (wpQ_way (q50_l0a _ _ z (syms g) e z' (ints r) e' n i _) ?_) rfl (by dsimp only; rw [parts_none hne hl]; rfl)
          simp [ints_len, hi, he, skR, hl]
        | some k =>
          have hle := lenN_le hl
          simp at hle
          refine .go (n + 1, i + k) (wpQ_way (q50_l0a _ _ z (syms g) e z' (ints r) e' n i _) ?_) ⟨by dsimp only; omega, by dsimp only; omega⟩ (by dsimp only; omega) ?_
          · simp [-Int.natCast_add, ints_len, hi, he, skR, hl, hw]
          · dsimp only
            rw [parts_some hne hl, List.drop_drop]
            cases parts g (r.drop (i + k)) <;> simp; omega
      · have hir : i = r.length := by omega
        refine .stop (.exit 0 [(0, iG z g e), (1, iS z' r e'), (5, iI n), (6, iI i)]) (wpQ_way (q50_l0a _ _ z (syms g) e z' (ints r) e' n i _) ?_) rfl ?_
        · simp [ints_len, hir]
        · dsimp only
          rw [List.drop_of_length_le (by omega), parts_nil]; simp [blkO, hir]) x hx
def termsM (g : List Sym) (r : List Int) : Int := match rowP g r with | some ts => (ts.length : Int) | none => -1
theorem w_rterms {g : List Sym} (hg : SigOk g) (z z' : Bool) (e e' : List D) (r : List Int) : C 50 [iG z g e, iS z' r e'] = some (iI (termsM g r), [iG z g e, iS z' r e']) := by
  refine wfn (lk := []) rfl rfl (fnW_way (q50 _ _ z (syms g) e z' (ints r) e' _) ?_)
  by_cases hr : r.length ≤ 48
  · have e1 : ¬ 48 < (r.length : Int) := by omega
    have h1 : evP F (Go.Ab.W F) (JW F d50 []) d50 [] [1,1,1,0] [(0, iG z g e), (1, iS z' r e'), (5, iI 0), (6, iI 0)] = some (match parts g r with | some ts => .norm [(0, iG z g e), (1, iS z' r e'), (5, iI (0 + ts.length : Nat)), (6, iI r.length)] | none => .ret [(4, iI (-1))]) := l_rterms hg z z' e e' (r := r) (by omega) (0, 0) ⟨Nat.zero_le _, Nat.le_refl _⟩
    cases hp : parts g r with
    | none => simp only [hp] at h1; simp [ints_len, e1, h1, termsM, rowP, hr, hp]
    | some ts => simp only [hp] at h1; simp [ints_len, e1, h1, termsM, rowP, hr, hp]
  · have e1 : 48 < (r.length : Int) := by omega
    simp [ints_len, e1, termsM, rowP, hr]
/-- Of a signature that may be. -/
theorem w_risatom {g : List Sym} (hg : sigB g = true) (z z' : Bool) (e e' : List D) (a : List Int) : C 59 [iG z g e, iS z' a e'] = some (iB (atomB g a), [iG z g e, iS z' a e']) := by
  refine wfn (lk := []) rfl rfl (fnW_way (q59 _ _ z (syms g) e z' (ints a) e' _) ?_)
  cases a with
  | nil => simp [ints_nil, atomB]
  | cons p r =>
    have e0 : (0 : Int) < (r.length : Int) + 1 := by omega
    by_cases h0 : p < 0
    · have h3 : ¬ 0 ≤ p := by omega
      simp [ints_cons, ints_len, atomB, h0, e0, h3]
    have h3 : 0 ≤ p := by omega
    by_cases h2 : p < g.length
    · obtain ⟨s, hs⟩ := at_lt (l := g) (i := p.toNat) (by omega)
      have e1 : (1 : Int) ≤ (r.length : Int) + 1 := by omega
      have hb := w_rterms (sigOk hg) z z' e [] r
      have hn := (sigOk hg).nums _ _ hs
      by_cases hk : s.kind = 0
      · cases hp : rowP g r with
        | none =>
          have hc : ¬ (-1 = s.ar) := by omega
          simp [-getElem?_pos, List.getElem?_cons_zero, ints_cons, ints_len, atomB, h0, e0, e1, h2, h3, syms_len, syms_at hs, hs, hk, hb, hg, termsM, hp, hc]
        | some ts =>
          by_cases hc : (ts.length : Int) = s.ar
          · simp [-getElem?_pos, List.getElem?_cons_zero, ints_cons, ints_len, atomB, h0, e0, e1, h2, h3, syms_len, syms_at hs, hs, hk, hb, hg, termsM, hp, hc]
          · simp [-getElem?_pos, List.getElem?_cons_zero, ints_cons, ints_len, atomB, h0, e0, e1, h2, h3, syms_len, syms_at hs, hs, hk, hb, hg, termsM, hp, hc]
      · simp [-getElem?_pos, List.getElem?_cons_zero, ints_cons, ints_len, atomB, h0, e0, e1, h2, h3, syms_len, syms_at hs, hs, hk]
    · have hs : g[p.toNat]? = none := List.getElem?_eq_none (by omega)
      simp [ints_cons, ints_len, atomB, h0, e0, h2, h3, syms_len, hs]; omega
end Go.Proofs.YthemimhlhjfdaaaDoor.Ab

/- Rows of numbers: the same, copied, their least, their variables. For every input; no condition. -/
set_option linter.unusedVariables false
set_option linter.unusedSimpArgs false
set_option maxRecDepth 100000
namespace Go.Proofs.YthemimhlhjfdaaaDoor.Ab
open Go Go.Ab Go.Qu Go.Proofs
attribute [local simp] and_assoc
@[simp] theorem w_num (c : Int) : C 21 [iI c] = some (iI c, [iI c]) :=
  wfn (lk := []) rfl rfl (fnW_way (q21 _ _ c _) (by simp))
theorem w_sameints {a : List Int} (ha : Len a) (b : List Int) (z z' : Bool) (e e' : List D) : C 52 [iS z a e, iS z' b e'] = some (iB (decide (a = b)), [iS z a e, iS z' b e']) := by
  refine wfn (lk := []) rfl rfl (fnW_way (q52 _ _ z (ints a) e z' (ints b) e' _) ?_)
  have hal := ha.lt
  by_cases hl : a.length = b.length
  rotate_left
  · have e1 : ¬ (a.length : Int) = b.length := by omega
    have e2 : ¬ a = b := fun h => hl (by rw [h])
    simp [ints_len, e1, e2]
  rcases blk_all (F := F) (d := d52) (lk := []) (p := [1,1,0,1,0,0]) (p0 := [1,1,0,1]) (by kernel_rfl) (n := a.length) (id := 0) (st := fun i => [(0, iS z a e), (1, iS z' b e'), (5, iI i)]) (q := fun i => gi a i == gi b i) (rt := [(4, iB false)]) (e := [(0, iS z a e), (1, iS z' b e'), (5, iI a.length)])
    (fun i hi hq => wpQ_way (q52_l0a _ _ z (ints a) e z' (ints b) e' i _) (by simp at hq; simp [-getElem?_pos, ints_len, wr1 hi (by omega), hi, Go.Ab.ints_at hi, Go.Ab.ints_at (hl ▸ hi), hq]))
    (fun i hi hq => wpQ_way (q52_l0a _ _ z (ints a) e z' (ints b) e' i _) (by simp at hq; simp [-getElem?_pos, ints_len, hi, Go.Ab.ints_at hi, Go.Ab.ints_at (hl ▸ hi), hq]))
    (wpQ_way (q52_l0a _ _ z (ints a) e z' (ints b) e' a.length _) (by simp [ints_len])) 0 (Nat.zero_le _) with ⟨h2, h3⟩ | ⟨⟨j, h2, h4, h5⟩, h3⟩
  · have hab : a = b := ints_ext hl (fun i hi => by simpa using h2 i (Nat.zero_le _) hi)
    simp at h3
    simp [-Bool.exists_bool, ints_len, hab]
    rw [hab] at h3
    simp [-Bool.exists_bool, h3]
  · have hab : ¬ a = b := fun h => by rw [h] at h5; simp at h5
    simp at h3
    simp [ints_len, hl, hab]
    simp [h3]
theorem w_copyints {a : List Int} (ha : Len a) (z : Bool) (e : List D) : C 43 [iS z a e] = some (.own false 3 1 (ints a), [iS z a e]) := by
  unfold Len at ha
  refine wfn (lk := []) rfl rfl (fnW_way (q43 _ _ z (ints a) e _) ?_)
  simp [ints_len]
  omega
/-- Rows that are new. -/
def fresh (r : Row) : Row := ⟨false, r.l, []⟩
theorem w_copyrows {rs : List Row} (hn : rs.length * 24 ≤ 140737488351232) (hr : ∀ r ∈ rs, Len r.l) (z : Bool) (e : List D) : C 35 [iR z rs e] = some (.own rs.isEmpty 56 1 (rws (rs.map fresh)), [iR z rs e]) := by
  refine wfn (lk := []) rfl rfl (fnW_way (q35 _ _ z (rws rs) e _) ?_)
  have h1 := blk_fun (F := F) (d := d35) (lk := []) (p := [1,1,0,1,0,0]) (p0 := [1,1,0,1]) (id := 0) (by kernel_rfl) (st := fun (i : Nat) => [(0, iR z rs e), (3, .own (rs.take i).isEmpty 56 1 (rws ((rs.take i).map fresh))), (4, iI i)]) (I := fun i => i ≤ rs.length) (μ := fun i => rs.length - i)
    (res := fun _ => .norm [(0, iR z rs e), (3, .own rs.isEmpty 56 1 (rws (rs.map fresh))), (4, iI rs.length)])
    (fun i hi => by
      by_cases h : i < rs.length
      · obtain ⟨r, hr1⟩ := at_lt h
        have hL := hr r (List.mem_of_getElem? hr1)
        have e1 : rs.take (i + 1) = rs.take i ++ [r] := by rw [List.take_add_one, hr1]; rfl
        refine .go (i + 1) (wpQ_way (q35_l0a _ _ z (rws rs) e _ _ i _) ?_) h (by omega) rfl
        have e2 : min i rs.length = i := by omega
        simp [-getElem?_pos, rws_len, h, rws_at hr1, w_copyints hL, wr1 h (by omega), e1, rws_append, rws_cons, rws_nil, fresh, e2]
        omega
      · have e1 : i = rs.length := by omega
        subst e1
        refine .stop (.exit 0 [(0, iR z rs e), (3, .own rs.isEmpty 56 1 (rws (rs.map fresh))), (4, iI rs.length)]) (wpQ_way (q35_l0a _ _ z (rws rs) e _ _ rs.length _) ?_) rfl rfl
        simp [rws_len]) 0 (Nat.zero_le _)
  simp [rws_nil] at h1
  simp [h1]
theorem w_samerows {a : List Row} (hn : a.length * 24 ≤ 140737488351232) (ha : ∀ r ∈ a, Len r.l) (b : List Row) (z z' : Bool) (e e' : List D) : C 42 [iR z a e, iR z' b e'] = some (iB (decide (a.map (·.l) = b.map (·.l))), [iR z a e, iR z' b e']) := by
  refine wfn (lk := []) rfl rfl (fnW_way (q42 _ _ z (rws a) e z' (rws b) e' _) ?_)
  by_cases hl : a.length = b.length
  rotate_left
  · have e1 : ¬ (a.length : Int) = b.length := by omega
    have e2 : ¬ a.map (·.l) = b.map (·.l) := fun h => hl (by have := congrArg List.length h; simpa using this)
    simp [rws_len, e1, e2]
  rcases blk_all (F := F) (d := d42) (lk := []) (p := [1,1,0,1,0,0]) (p0 := [1,1,0,1]) (by kernel_rfl) (n := a.length) (id := 0) (st := fun i => [(0, iR z a e), (1, iR z' b e'), (5, iI i)]) (q := fun i => (a[i]?.map (·.l)) == (b[i]?.map (·.l))) (rt := [(4, iB false)]) (e := [(0, iR z a e), (1, iR z' b e'), (5, iI a.length)])
    (fun i hi hq => by
      obtain ⟨x, hx⟩ := at_lt hi
      obtain ⟨y, hy⟩ := at_lt (show i < b.length by omega)
      simp [hx, hy] at hq
      exact wpQ_way (q42_l0a _ _ z (rws a) e z' (rws b) e' i _) (by simp [-getElem?_pos, rws_len, wr1 hi (by omega), hi, rws_at hx, rws_at hy, w_sameints (ha x (List.mem_of_getElem? hx)), hq.symm]))
    (fun i hi hq => by
      obtain ⟨x, hx⟩ := at_lt hi
      obtain ⟨y, hy⟩ := at_lt (show i < b.length by omega)
      simp [hx, hy] at hq
      exact wpQ_way (q42_l0a _ _ z (rws a) e z' (rws b) e' i _) (by simp [-getElem?_pos, rws_len, hi, rws_at hx, rws_at hy, w_sameints (ha x (List.mem_of_getElem? hx)), hq]))
    (wpQ_way (q42_l0a _ _ z (rws a) e z' (rws b) e' a.length _) (by simp [rws_len])) 0 (Nat.zero_le _) with ⟨h2, h3⟩ | ⟨⟨j, h2, h4, h5⟩, h3⟩
  · have hab : a.map (·.l) = b.map (·.l) := by
      refine List.ext_getElem? (fun i => ?_)
      by_cases hi : i < a.length
      · have := h2 i (Nat.zero_le _) hi
        simpa using this
      · rw [List.getElem?_eq_none (by simpa using hi), List.getElem?_eq_none (by simp; omega)]
    simp at h3
    simp [rws_len, hl, hab, h3]
  · have hab : ¬ a.map (·.l) = b.map (·.l) := fun h => by
      have := congrArg (·[j]?) h
      simp at this h5
      exact h5 this
    simp at h3
    simp [rws_len, hl, hab, h3]
end Go.Proofs.YthemimhlhjfdaaaDoor.Ab

/- Tables of facts: what may be one, where a fact stands. Plain lists; no condition. -/
set_option linter.unusedVariables false
set_option linter.unusedSimpArgs false
namespace Go.Qu
open Go Go.Ab

def hashF (h : Int) : List Int → Int
  | [] => h
  | c :: a => hashF ((h * 31 + c + 1) % 1009) a
def hashM (a : List Int) : Int := hashF 7 a
theorem hashF_lt : ∀ (a : List Int) (h : Int), 0 ≤ h → h < 1009 → 0 ≤ hashF h a ∧ hashF h a < 1009
  | [], h, h1, h2 => ⟨h1, h2⟩
  | c :: a, h, h1, h2 => hashF_lt a _ (Int.emod_nonneg _ (by omega)) (Int.emod_lt_of_pos _ (by omega))
theorem hashM_lt (a : List Int) : 0 ≤ hashM a ∧ hashM a < 1009 := hashF_lt a 7 (by omega) (by omega)
/-- Codes that are none of variables, and not great. -/
def Small (a : List Int) : Prop := ∀ c ∈ a, 0 ≤ c ∧ c ≤ 1000000
def factB (g : List Sym) (a : List Int) : Bool := sigB g && (atomB g a && a.all fun c => decide (0 ≤ c))
theorem gi_mem {a : List Int} {i : Nat} (h : i < a.length) : gi a i ∈ a := by
  simp only [gi, List.getD_eq_getElem?_getD, List.getElem?_eq_getElem h, Option.getD_some]; exact List.getElem_mem h
theorem lenN_codes {g : List Sym} : ∀ {r : List Int} {n k : Nat}, lenN g r n = some k → ∀ c ∈ r.take k, (arOf g c).isSome = true
  | r, 0, k, h, c, hc => by cases r <;> (simp [lenN] at h; subst h; simp at hc)
  | [], n + 1, k, h, c, hc => by simp [lenN] at h
  | x :: r, n + 1, k, h, c, hc => by
    unfold lenN at h
    split at h
    · cases h
    · rename_i a ha
      obtain ⟨m, hm, rfl⟩ := Option.map_eq_some_iff.1 h
      rw [List.take_succ_cons] at hc
      rcases List.mem_cons.1 hc with rfl | hc
      · rw [ha]; rfl
      · exact lenN_codes hm c hc
theorem parts_codes {g : List Sym} : ∀ (n : Nat) (r : List Int) {ts : List (List Int)}, r.length ≤ n → parts g r = some ts → ∀ c ∈ r, (arOf g c).isSome = true
  | n, [], ts, hn, h, c, hc => by simp at hc
  | 0, x :: r, ts, hn, h, c, hc => by simp at hn
  | n + 1, x :: r, ts, hn, h, c, hc => by
    cases hl : lenN g (x :: r) 1 with
    | none => rw [parts_none (by simp) hl] at h; cases h
    | some k =>
      rw [parts_some (by simp) hl] at h
      obtain ⟨us, h1, rfl⟩ := Option.map_eq_some_iff.1 h
      have h2 := lenN_le hl
      have hsplit : c ∈ (x :: r).take k ∨ c ∈ (x :: r).drop k := by
        rw [← List.mem_append, List.take_append_drop]; exact hc
      rcases hsplit with hc | hc
      · exact lenN_codes hl c hc
      · exact parts_codes n _ (by simp at hn ⊢; omega) h1 c hc
theorem arOf_lt {g : List Sym} {c : Int} (h : (arOf g c).isSome = true) : -24 ≤ c ∧ c < g.length := by
  unfold arOf at h
  split at h
  · split at h
    · omega
    · cases h
  · split at h
    · cases h
    · rename_i s hs
      have := lt_at hs
      omega
/-- The codes of an atom. -/
theorem atom_codes {g : List Sym} {a : List Int} (h : atomB g a = true) : a.length ≤ 49 ∧ (∀ c ∈ a, -24 ≤ c ∧ c < g.length) ∧ g.length ≤ 20 := by
  cases a with
  | nil => simp [atomB] at h
  | cons p r =>
    simp only [atomB] at h
    split at h
    · cases h
    · rename_i hp
      split at h
      · cases h
      · rename_i s hs
        simp only [Bool.and_eq_true] at h
        obtain ⟨⟨h1, h2⟩, h3⟩ := h
        have hl := lt_at hs
        have hg := sigOk h2
        unfold rowP at h3
        by_cases hr : r.length ≤ 48
        · rw [if_pos hr] at h3
          cases hps : parts g r with
          | none => rw [hps] at h3; cases h3
          | some ts =>
            refine ⟨by simp; omega, fun c hc => ?_, hg.hi⟩
            rcases List.mem_cons.1 hc with rfl | hc
            · omega
            · exact arOf_lt (parts_codes _ r (Nat.le_refl _) hps c hc)
        · rw [if_neg hr] at h3; cases h3
theorem fact_small {g : List Sym} {a : List Int} (h : factB g a = true) : Small a ∧ Len a := by
  simp only [factB, Bool.and_eq_true, List.all_eq_true, decide_eq_true_eq] at h
  obtain ⟨h1, h2, h3⟩ := h
  have h4 := atom_codes h2
  exact ⟨fun c hc => ⟨h3 c hc, by have := (h4.2.1 c hc).2; omega⟩, by unfold Len; omega⟩
theorem varsFrom_nil (a : List Int) : ∀ (k v : Nat), varsFrom a k v = [] ↔ ∀ j, v ≤ j → j < v + k → ¬ (-1 - (j : Int)) ∈ a
  | 0, v => by simp [varsFrom]; intro j; omega
  | k + 1, v => by
    unfold varsFrom
    cases hc : a.contains (-1 - (v : Int)) with
    | true =>
      rw [List.contains_eq_mem, decide_eq_true_iff] at hc
      simp only [if_true]
      constructor
      · intro h; cases h
      · intro h; exact absurd hc (h v (Nat.le_refl _) (by omega))
    | false =>
      rw [List.contains_eq_mem, decide_eq_false_iff_not] at hc
      simp only [Bool.false_eq_true, if_false]
      rw [varsFrom_nil a k (v + 1)]
      constructor
      · intro h j h1 h2
        by_cases hj : j = v
        · subst hj; exact hc
        · exact h j (by omega) (by omega)
      · intro h j h1 h2
        exact h j (by omega) (by omega)
theorem vars_none {g : List Sym} {a : List Int} (h : atomB g a = true) : ((varsM a).length = 0) ↔ a.all (fun c => decide (0 ≤ c)) = true := by
  have h4 := atom_codes h
  rw [List.length_eq_zero_iff, varsM, varsFrom_nil]
  simp only [List.all_eq_true, decide_eq_true_eq]
  constructor
  · intro h5 c hc
    have h6 := h4.2.1 c hc
    by_cases h7 : 0 ≤ c
    · exact h7
    · have := h5 (-1 - c).toNat (Nat.zero_le _) (by omega)
      rw [show (-1 - (((-1 - c).toNat : Nat) : Int)) = c by omega] at this
      exact absurd hc this
  · intro h5 j _ hj hm
    have := h5 _ hm
    omega
/-! ### Where a fact stands -/
def probe (h k : Nat) : Nat := (h + k) % 32
def slotF (sl : List Int) (fs : List (List Int)) (a : List Int) (h : Nat) : Nat → Nat → Int
  | 0, _ => -1
  | n + 1, k => if gi sl (probe h k) = -1 then -1 else if 0 ≤ gi sl (probe h k) ∧ fs[(gi sl (probe h k)).toNat]? = some a then (probe h k : Int) else slotF sl fs a h n (k + 1)
def slotM (sl : List Int) (fs : List (List Int)) (a : List Int) : Int := slotF sl fs a (hashM a).toNat 32 0
/-- Slots that fit so many facts. -/
def slotsF (n : Nat) : List Int → List Bool → Nat → Bool
  | [], _, k => k == n
  | x :: r, seen, k => if x = -1 ∨ x = -2 then slotsF n r seen k else if x < 0 ∨ (n : Int) ≤ x ∨ seen[x.toNat]? = some true then false else slotsF n r (seen.set x.toNat true) (k + 1)
def slotsB (sl : List Int) (n : Nat) : Bool := slotsF n sl (List.replicate n false) 0
def tblB (g : List Sym) (sl : List Int) (fs : List (List Int)) : Bool :=
  sigB g && (decide (sl.length = 32) && (decide (fs.length ≤ 24) && (slotsB sl fs.length && (fs.all (factB g) && (List.range fs.length).all fun i => match fs[i]? with | some a => decide (0 ≤ slotM sl fs a) && (gi sl (slotM sl fs a).toNat == (i : Int)) | none => true))))
/-! ### The reference's words -/
def whereF (a : List Int) : List (List Int) → Nat → Int
  | [], _ => -1
  | b :: fs, i => if b = a then (i : Int) else whereF a fs (i + 1)
def whereM (fs : List (List Int)) (a : List Int) : Int := whereF a fs 0
def lastF (x : Int) : List Int → Nat → Int → Int
  | [], _, at_ => at_
  | y :: sl, i, at_ => lastF x sl (i + 1) (if y = x then (i : Int) else at_)
def lastM (sl : List Int) (x : Int) : Int := lastF x sl 0 (-1)
/-- From a slot on: is none free ahead of another one? -/
def roadF (sl : List Int) (at_ : Nat) : Nat → Nat → Bool
  | 0, _ => true
  | n + 1, i => if i = at_ then true else if gi sl i = -1 then false else roadF sl at_ n ((i + 1) % 32)
def takenF : List Int → Nat → Nat
  | [], k => k
  | x :: sl, k => takenF sl (if 0 ≤ x then k + 1 else k)
def eachB (g : List Sym) (sl : List Int) (fs : List (List Int)) (k : Nat) : Bool := match fs[k]? with
  | some a => factB g a && ((whereM fs a == (k : Int)) && (decide (0 ≤ lastM sl k) && roadF sl (lastM sl k).toNat 32 ((hashM a).toNat % 32)))
  | none => true
def rtblB (g : List Sym) (sl : List Int) (fs : List (List Int)) : Bool :=
  sigB g && (decide (sl.length = 32) && (decide (fs.length ≤ 24) && (sl.all (fun x => decide (-2 ≤ x) && decide (x < fs.length)) && ((takenF sl 0 == fs.length) && (List.range fs.length).all (eachB g sl fs)))))

/-! ### For the walks -/
abbrev iT (zs : Bool) (sl : List Int) (es : List D) (zf : Bool) (fs : List Row) (ef : List D) : IV := .d (.agg [.sl 1 zs (ints sl) es, .sl 1 zf (rws fs) ef])
def fl (fs : List Row) : List (List Int) := fs.map (·.l)
theorem fl_len (fs : List Row) : (fl fs).length = fs.length := by simp [fl]
theorem fl_at {fs : List Row} {i : Nat} {r : Row} (h : fs[i]? = some r) : (fl fs)[i]? = some r.l := by simp [fl, h]
def bls (l : List Bool) : List D := l.map D.bool
theorem bls_len (l : List Bool) : (bls l).length = l.length := by simp [bls]
theorem bls_at {l : List Bool} {i : Nat} {b : Bool} (h : l[i]? = some b) : (bls l)[i]? = some (.bool b) := by simp [bls, h]
theorem bls_set (l : List Bool) (i : Nat) (b : Bool) : (bls l).set i (.bool b) = bls (l.set i b) := by simp [bls, List.map_set]
theorem bls_rep (n : Nat) : List.replicate n (D.bool false) = bls (List.replicate n false) := by simp [bls]
theorem slotF_lt (sl : List Int) (fs : List (List Int)) (a : List Int) (h : Nat) : ∀ n k, slotF sl fs a h n k = -1 ∨ (0 ≤ slotF sl fs a h n k ∧ slotF sl fs a h n k < 32)
  | 0, k => .inl rfl
  | n + 1, k => by
    unfold slotF
    split
    · exact .inl rfl
    · split
      · right; unfold probe; omega
      · exact slotF_lt sl fs a h n (k + 1)
theorem slotM_lt (sl : List Int) (fs : List (List Int)) (a : List Int) : slotM sl fs a = -1 ∨ (0 ≤ slotM sl fs a ∧ slotM sl fs a < 32) := slotF_lt sl fs a _ 32 0
theorem slotsF_lt {n : Nat} : ∀ {sl : List Int} {seen : List Bool} {k : Nat}, slotsF n sl seen k = true → ∀ x ∈ sl, -2 ≤ x ∧ x < n
  | [], seen, k, h, x, hx => by simp at hx
  | y :: sl, seen, k, h, x, hx => by
    unfold slotsF at h
    split at h
    · rcases List.mem_cons.1 hx with rfl | hx
      · omega
      · exact slotsF_lt h x hx
    · split at h
      · cases h
      · rcases List.mem_cons.1 hx with rfl | hx
        · omega
        · exact slotsF_lt h x hx
theorem lastF_lt (x : Int) : ∀ (sl : List Int) (i : Nat) (at_ : Int), lastF x sl i at_ = at_ ∨ ((i : Int) ≤ lastF x sl i at_ ∧ lastF x sl i at_ < i + sl.length)
  | [], i, at_ => .inl rfl
  | y :: sl, i, at_ => by
    unfold lastF
    rcases lastF_lt x sl (i + 1) (if y = x then (i : Int) else at_) with h | h
    · rw [h]
      split
      · right; simp; omega
      · exact .inl rfl
    · right; simp; omega
theorem lastM_lt (sl : List Int) (x : Int) : lastM sl x = -1 ∨ (0 ≤ lastM sl x ∧ lastM sl x < sl.length) := by
  have := lastF_lt x sl 0 (-1)
  unfold lastM
  rcases this with h | h
  · exact .inl h
  · right; simpa using h
theorem roadF_more (sl : List Int) {at_ : Nat} (ha : at_ < 32) : ∀ (n i : Nat), i < 32 → (at_ + 32 - i) % 32 < n → roadF sl at_ n i = roadF sl at_ (n + 1) i
  | 0, i, hi, h => by omega
  | n + 1, i, hi, h => by
    by_cases he : i = at_
    · simp [roadF, he]
    · by_cases hf : gi sl i = -1
      · simp [roadF, he, hf]
      · have := roadF_more sl ha n ((i + 1) % 32) (Nat.mod_lt _ (by omega)) (by omega)
        rw [roadF, if_neg he, if_neg hf, this]
        conv => rhs; rw [roadF, if_neg he, if_neg hf]
theorem roadF_go (sl : List Int) {at_ i : Nat} (ha : at_ < 32) (hi : i < 32) (he : i ≠ at_) (hf : gi sl i ≠ -1) : roadF sl at_ 32 ((i + 1) % 32) = roadF sl at_ 32 i := by
  rw [← roadF_more sl ha 31 ((i + 1) % 32) (Nat.mod_lt _ (by omega)) (by omega)]
  conv => rhs; rw [roadF, if_neg he, if_neg hf]
end Go.Qu

/- Literals, clauses: what may be, what they weigh. Plain lists; no condition. -/
set_option linter.unusedVariables false
set_option linter.unusedSimpArgs false
namespace Go.Qu
open Go Go.Ab

structure LitR where
  neg : Bool
  r : Row
def LitR.d (l : LitR) : D := .agg [.bool l.neg, .sl 1 l.r.z (ints l.r.l) l.r.e]
def lits (ls : List LitR) : List D := ls.map LitR.d
abbrev iL (z : Bool) (ls : List LitR) (e : List D) : IV := .d (.sl 2 z (lits ls) e)
abbrev iLit (b : Bool) (z : Bool) (l : List Int) (e : List D) : IV := .d (.agg [.bool b, .sl 1 z (ints l) e])
theorem lits_len (l : List LitR) : (lits l).length = l.length := by simp [lits]
theorem lits_at {l : List LitR} {i : Nat} {s : LitR} (h : l[i]? = some s) : (lits l)[i]? = some (.agg [.bool s.neg, .sl 1 s.r.z (ints s.r.l) s.r.e]) := by simp [lits, h, LitR.d]
theorem lits_nil : lits [] = [] := rfl
theorem lits_cons (x : LitR) (l : List LitR) : lits (x :: l) = .agg [.bool x.neg, .sl 1 x.r.z (ints x.r.l) x.r.e] :: lits l := rfl
theorem lits_append (l m : List LitR) : lits (l ++ m) = lits l ++ lits m := by simp [lits]
/-- A clause as it lies in memory. -/
structure Cl where
  lz : Bool
  ls : List LitR
  le : List D
  tz : Bool
  ts : List Row
  te : List D
  cz : Bool
  cs : List LitR
  ce : List D
abbrev Cl.d (c : Cl) : D := .agg [.sl 2 c.lz (lits c.ls) c.le, .sl 1 c.tz (rws c.ts) c.te, .sl 2 c.cz (lits c.cs) c.ce]
abbrev iC (c : Cl) : IV := .d (.agg [.sl 2 c.lz (lits c.ls) c.le, .sl 1 c.tz (rws c.ts) c.te, .sl 2 c.cz (lits c.cs) c.ce])
/-! ### What may be -/
def litsB (g : List Sym) (ls : List LitR) : Bool := ls.all fun l => atomB g l.r.l
def lenL : List LitR → Nat
  | [] => 0
  | l :: ls => l.r.l.length + lenL ls
def lenR : List Row → Nat
  | [] => 0
  | r :: rs => r.l.length + lenR rs
def termsN (g : List Sym) (r : List Int) : Nat := (begsM g r).length
def rowsF (g : List Sym) (k : Nat) (ts : List Row) : Bool := ts.all fun r => rowB g r.l && (termsN g r.l == k)
def rowsB (g : List Sym) (ts : List Row) : Bool := match ts with
  | [] => true
  | r :: _ => rowsF g (termsN g r.l) ts
def clB (g : List Sym) (c : Cl) : Bool := sigB g && (decide (c.ls.length ≤ 5) && (decide (c.ts.length ≤ 3) && (decide (c.cs.length ≤ 3) && (litsB g c.ls && (rowsB g c.ts && (litsB g c.cs && decide (lenL c.ls + lenR c.ts + lenL c.cs ≤ 240)))))))
theorem lenL_le {g : List Sym} : ∀ {ls : List LitR}, litsB g ls = true → lenL ls ≤ 49 * ls.length
  | [], h => by simp [lenL]
  | l :: ls, h => by
    simp only [litsB, List.all_cons, Bool.and_eq_true] at h
    have h1 := (atom_codes h.1).1
    have h2 := lenL_le (ls := ls) h.2
    simp [lenL]; omega
theorem rowB_len {g : List Sym} {r : List Int} (h : rowB g r = true) : r.length ≤ 48 := by
  simp only [rowB, Bool.and_eq_true, rowP] at h
  by_cases h1 : r.length ≤ 48
  · exact h1
  · rw [if_neg h1] at h; simp at h
theorem lenR_le {g : List Sym} {k : Nat} : ∀ {ts : List Row}, rowsF g k ts = true → lenR ts ≤ 48 * ts.length
  | [], h => by simp [lenR]
  | r :: ts, h => by
    simp only [rowsF, List.all_cons, Bool.and_eq_true] at h
    have h1 := rowB_len h.1.1
    have h2 := lenR_le (ts := ts) (k := k) h.2
    simp [lenR]; omega
/-! ### What they weigh -/
def codeW (g : List Sym) (c : Int) : Int := if c < 0 then 1 else match g[c.toNat]? with | some s => s.wt | none => 0
def sumW (g : List Sym) : List Int → Int
  | [] => 0
  | c :: r => codeW g c + sumW g r
/-- Codes that a signature knows. -/
def Known (g : List Sym) (r : List Int) : Prop := ∀ c ∈ r, c < g.length
theorem atom_known {g : List Sym} {a : List Int} (h : atomB g a = true) : Known g a := fun c hc => ((atom_codes h).2.1 c hc).2
theorem codeW_le {g : List Sym} (hg : SigOk g) (c : Int) (h : c < g.length) : 1 ≤ codeW g c ∧ codeW g c ≤ 20 := by
  unfold codeW
  split
  · omega
  · obtain ⟨s, hs⟩ := at_lt (l := g) (i := c.toNat) (by omega)
    rw [hs]
    have := hg.nums _ _ hs
    dsimp only; omega
theorem sumW_le {g : List Sym} (hg : SigOk g) : ∀ (r : List Int), Known g r → (r.length : Int) ≤ sumW g r ∧ sumW g r ≤ 20 * r.length
  | [], h => by simp [sumW]
  | c :: r, h => by
    have h1 := codeW_le hg c (h c (by simp))
    have h2 := sumW_le hg r (fun x hx => h x (by simp [hx]))
    simp only [sumW, List.length_cons]; omega
/-- The parts of a clause's point. -/
def ptF (g : List Sym) : List LitR → Int → Int → Int × Int
  | [], a, b => (a, b)
  | l :: ls, a, b => if l.neg then ptF g ls a (if sumW g l.r.l > b then sumW g l.r.l else b) else ptF g ls (if sumW g l.r.l > a then sumW g l.r.l else a) b
def ptM (g : List Sym) (c : Cl) : Int × Int := ptF g c.ls 0 0
end Go.Qu

/- Literals, clauses: what the program's and the reference's functions hand back. For every input; no condition. -/
set_option linter.unusedVariables false
set_option linter.unusedSimpArgs false
set_option maxRecDepth 100000
namespace Go.Proofs.YthemimhlhjfdaaaDoor.Ab
open Go Go.Ab Go.Qu Go.Proofs
attribute [local simp] and_assoc
theorem w_litmay (z : Bool) (g : List Sym) (e : List D) (b z' : Bool) (a : List Int) (e' : List D) : C 55 [iG z g e, iLit b z' a e'] = some (iB (atomB g a), [iG z g e, iLit b z' a e']) := by
  refine wfn (lk := []) rfl rfl (fnW_way (q55 _ _ z (syms g) e b z' (ints a) e' _) ?_)
  have h1 := w_isatom z z' g e e' a
  cases h : atomB g a <;> simp [-Bool.exists_bool, h1, h]
theorem w_row (z z' : Bool) (g : List Sym) (e e' : List D) (r : List Int) : C 56 [iG z g e, iS z' r e'] = some (.tup [iI (termsN g r), iI (if rowB g r = true then 0 else 200)], [iG z g e, iS z' r e']) := by
  refine wfn (lk := []) rfl rfl (fnW_way (q56 _ _ z (syms g) e z' (ints r) e' _) ?_)
  have h1 := w_begins z z' g e e' r
  cases h : rowB g r
  · have h0 : termsN g r = 0 := by
      simp only [rowB, Bool.and_eq_false_iff] at h
      unfold termsN begsM
      rcases h with h | h
      · simp [h]
      · cases hp : rowP g r with
        | none => simp
        | some ts => rw [hp] at h; simp at h
    simp [-Bool.exists_bool, h1, h, h0]
  · simp [-Bool.exists_bool, h1, h, ints_len, termsN]
theorem w_litsmay (z z' : Bool) (g : List Sym) (e e' : List D) {ls : List LitR} (hl : ls.length ≤ 1000) : C 45 [iG z g e, iL z' ls e'] = some (.tup [iI (if litsB g ls = true then (lenL ls : Int) else 0), iB (litsB g ls)], [iG z g e, iL z' ls e']) := by
  refine wfn (lk := []) rfl rfl (fnW_way (q45 _ _ z (syms g) e z' (lits ls) e' _) ?_)
  have h1 := fun x hx => blk_fun (F := F) (d := d45) (lk := []) (p := [1,1,0,1,0,0]) (p0 := [1,1,0,1]) (id := 0) (by kernel_rfl) (st := fun (x : Nat × Nat) => [(0, iG z g e), (6, iI x.2), (9, iL z' ls e'), (10, iI ls.length), (11, iI x.1)]) (I := fun x => x.1 ≤ ls.length ∧ x.2 ≤ 49 * x.1) (μ := fun x => ls.length - x.1)
    (res := fun x => if litsB g (ls.drop x.1) = true then .norm [(0, iG z g e), (6, iI (x.2 + lenL (ls.drop x.1) : Nat)), (9, iL z' ls e'), (10, iI ls.length), (11, iI ls.length)] else .ret [(4, iI 0), (5, iB false)])
    (fun x hx => by
      obtain ⟨i, k⟩ := x
      obtain ⟨hx1, hx2⟩ := hx
      dsimp only at hx1 hx2
      by_cases hi : i < ls.length
      · obtain ⟨l, hl1⟩ := at_lt hi
        have hd : ls.drop i = l :: ls.drop (i + 1) := by
          rw [List.drop_eq_getElem_cons hi]
          rw [List.getElem?_eq_getElem hi] at hl1
          cases hl1; rfl
        have hm := w_litmay z g e l.neg l.r.z l.r.l l.r.e
        have hi' : (i : Int) < ls.length := by omega
        cases hb : atomB g l.r.l
        · refine .stop (.ret [(4, iI 0), (5, iB false)]) (wpQ_way (q45_l0a _ _ z (syms g) e k z' (lits ls) e' _ i _) ?_) rfl ?_
          · simp [-Bool.exists_bool, -getElem?_pos, hi', lits_at hl1, hm, hb]
          · dsimp only; rw [hd]; simp [litsB, hb, blkO]
        · have h49 := (atom_codes hb).1
          have hw : IntKind.wrap .i64 ((k : Int) + (l.r.l.length : Int)) = ((k + l.r.l.length : Nat) : Int) := by rw [wr _ (by omega) (by omega)]; omega
          refine .go (i + 1, k + l.r.l.length) (wpQ_way (q45_l0a _ _ z (syms g) e k z' (lits ls) e' _ i _) ?_) ⟨by dsimp only; omega, by dsimp only; omega⟩ (by dsimp only; omega) ?_
          · simp [-Bool.exists_bool, -getElem?_pos, -Int.natCast_add, hi', lits_at hl1, hm, hb, ints_len, hw, wr1 hi (by omega)]
          · dsimp only; rw [hd]
            have h3 : litsB g (l :: ls.drop (i + 1)) = litsB g (ls.drop (i + 1)) := by simp [litsB, hb]
            rw [h3, lenL, ← Nat.add_assoc]
      · have e1 : i = ls.length := by omega
        subst e1
        refine .stop (.exit 0 [(0, iG z g e), (6, iI k), (9, iL z' ls e'), (10, iI ls.length), (11, iI ls.length)]) (wpQ_way (q45_l0a _ _ z (syms g) e k z' (lits ls) e' _ _ _) (by simp)) rfl ?_
        simp [blkO, litsB, lenL]) x hx
  have h2 : evP F (Go.Ab.W F) (JW F d45 []) d45 [] [1,1,0,1] [(0, iG z g e), (6, iI 0), (9, iL z' ls e'), (10, iI ls.length), (11, iI 0)] = _ := h1 (0, 0) ⟨Nat.zero_le _, Nat.le_refl _⟩
  rw [List.drop_zero, Nat.zero_add] at h2
  cases h : litsB g ls
  · rw [h] at h2
    simp only [Bool.false_eq_true, if_false] at h2
    simp [-Bool.exists_bool, lits_len, h2]
  · rw [h] at h2
    simp only [if_true] at h2
    simp [-Bool.exists_bool, lits_len, h2]
theorem w_rowsmay (z z' : Bool) (g : List Sym) (e e' : List D) {ts : List Row} (hl : ts.length ≤ 1000) : C 46 [iG z g e, iR z' ts e'] = some (.tup [iI (if rowsB g ts = true then (lenR ts : Int) else 0), iB (rowsB g ts)], [iG z g e, iR z' ts e']) := by
  refine wfn (lk := []) rfl rfl (fnW_way (q46 _ _ z (syms g) e z' (rws ts) e' _) ?_)
  cases ts with
  | nil =>
    have h2 : evP F (Go.Ab.W F) (JW F d46 []) d46 [] [1,1,0,1] [(0, iG z g e), (6, iI 0), (7, iI 0), (12, iR z' [] e'), (13, iI 0), (14, iI 0)] = some (.norm [(0, iG z g e), (6, iI 0), (7, iI 0), (12, iR z' [] e'), (13, iI 0), (14, iI 0)]) :=
      blk_fun (F := F) (d := d46) (lk := []) (p := [1,1,0,1,0,0]) (p0 := [1,1,0,1]) (id := 0) (by kernel_rfl) (st := fun (_ : Unit) => [(0, iG z g e), (6, iI 0), (7, iI 0), (12, iR z' [] e'), (13, iI 0), (14, iI 0)]) (I := fun _ => True) (μ := fun _ => 0) (res := fun _ => .norm [(0, iG z g e), (6, iI 0), (7, iI 0), (12, iR z' [] e'), (13, iI 0), (14, iI 0)])
        (fun _ _ => .stop (.exit 0 [(0, iG z g e), (6, iI 0), (7, iI 0), (12, iR z' [] e'), (13, iI 0), (14, iI 0)]) (wpQ_way (q46_l0a _ _ z (syms g) e 0 0 z' (rws []) e' _ _ _) (by simp)) rfl (by simp [blkO])) () trivial
    simp only [iR, rws_nil] at h2
    simp [-Bool.exists_bool, rws_nil, rowsB, lenR, h2]
  | cons r0 tl =>
    have hsp : ∀ n : Nat, n = termsN g r0.l → rowsB g (r0 :: tl) = rowsF g n (r0 :: tl) := fun n h => by rw [h]; rfl
    have h1 := fun x hx => blk_fun (F := F) (d := d46) (lk := []) (p := [1,1,0,1,0,0]) (p0 := [1,1,0,1]) (id := 0) (by kernel_rfl) (st := fun (x : Nat × Nat) => [(0, iG z g e), (6, iI x.2), (7, iI (if x.1 = 0 then 0 else (termsN g r0.l : Int))), (12, iR z' (r0 :: tl) e'), (13, iI (r0 :: tl).length), (14, iI x.1)]) (I := fun x => x.1 ≤ (r0 :: tl).length ∧ x.2 ≤ 48 * x.1) (μ := fun x => (r0 :: tl).length - x.1)
      (res := fun x => if rowsF g (termsN g r0.l) ((r0 :: tl).drop x.1) = true then .norm [(0, iG z g e), (6, iI (x.2 + lenR ((r0 :: tl).drop x.1) : Nat)), (7, iI (termsN g r0.l)), (12, iR z' (r0 :: tl) e'), (13, iI (r0 :: tl).length), (14, iI (r0 :: tl).length)] else .ret [(4, iI 0), (5, iB false)])
      (fun x hx => by
        obtain ⟨i, k⟩ := x
        obtain ⟨hx1, hx2⟩ := hx
        dsimp only at hx1 hx2
        by_cases hi : i < (r0 :: tl).length
        · obtain ⟨r, hr1⟩ := at_lt hi
          have hd : (r0 :: tl).drop i = r :: (r0 :: tl).drop (i + 1) := by
            rw [List.drop_eq_getElem_cons hi]
            rw [List.getElem?_eq_getElem hi] at hr1
            cases hr1; rfl
          have h0r : i = 0 → r = r0 := fun h => by subst h; simp at hr1; exact hr1.symm
          have hm := w_row z r.z g e r.e r.l
          have hi' : (i : Int) < (r0 :: tl).length := by omega
          generalize r0 :: tl = ts at *
          cases hb : rowB g r.l
          · refine .stop (.ret [(4, iI 0), (5, iB false)]) (wpQ_way (q46_l0a _ _ z (syms g) e k _ z' (rws ts) e' _ i _) ?_) rfl ?_
            · rw [hb] at hm
              simp [-Bool.exists_bool, -getElem?_pos, hi', rws_at hr1, hm]
            · dsimp only; rw [hd]; simp [rowsF, hb, blkO]
          · have h48 := rowB_len hb
            rw [hb] at hm
            by_cases hn : termsN g r.l = termsN g r0.l
            · have hw : IntKind.wrap .i64 ((k : Int) + (r.l.length : Int)) = ((k + r.l.length : Nat) : Int) := by rw [wr _ (by omega) (by omega)]; omega
              refine .go (i + 1, k + r.l.length) (wpQ_way (q46_l0a _ _ z (syms g) e k _ z' (rws ts) e' _ i _) ?_) ⟨by dsimp only; omega, by dsimp only; omega⟩ (by dsimp only; omega) ?_
              · by_cases h0 : i = 0
                · simp [-Bool.exists_bool, -getElem?_pos, -Int.natCast_add, hi', rws_at hr1, hm, ints_len, hw, wr1 hi (by omega), hn, h0] at hr1 ⊢
                  subst h0
                  simp [-Bool.exists_bool, -getElem?_pos, -Int.natCast_add, hi', rws_at hr1, hm, ints_len, hw, wr1 hi (by omega), hn]
                  exact ⟨hi, wr _ (by omega) (by omega)⟩
                · simp [-Bool.exists_bool, -getElem?_pos, -Int.natCast_add, hi', rws_at hr1, hm, ints_len, hw, wr1 hi (by omega), hn, h0]
              · dsimp only; rw [hd]
                have h3 : rowsF g (termsN g r0.l) (r :: ts.drop (i + 1)) = rowsF g (termsN g r0.l) (ts.drop (i + 1)) := by simp [rowsF, hb, hn]
                rw [h3, lenR, ← Nat.add_assoc]
            · have h0 : ¬ i = 0 := fun h => hn (by rw [h0r h])
              have hn' : ¬ (termsN g r.l : Int) = termsN g r0.l := by omega
              refine .stop (.ret [(4, iI 0), (5, iB false)]) (wpQ_way (q46_l0a _ _ z (syms g) e k _ z' (rws ts) e' _ i _) ?_) rfl ?_
              · simp [-Bool.exists_bool, -getElem?_pos, hi', rws_at hr1, hm, h0, hn']
              · dsimp only; rw [hd]; simp [rowsF, hb, hn, blkO]
        · have e1 : i = (r0 :: tl).length := by omega
          have h0 : ¬ i = 0 := by simp at e1; omega
          refine .stop (.exit 0 [(0, iG z g e), (6, iI k), (7, iI (termsN g r0.l)), (12, iR z' (r0 :: tl) e'), (13, iI (r0 :: tl).length), (14, iI (r0 :: tl).length)]) (wpQ_way (q46_l0a _ _ z (syms g) e k _ z' (rws (r0 :: tl)) e' _ _ _) ?_) rfl ?_
          · subst e1; simp
          · subst e1; simp [blkO, rowsF, lenR]) x hx
    have h2 : evP F (Go.Ab.W F) (JW F d46 []) d46 [] [1,1,0,1] [(0, iG z g e), (6, iI 0), (7, iI 0), (12, iR z' (r0 :: tl) e'), (13, iI (r0 :: tl).length), (14, iI 0)] = _ := h1 (0, 0) ⟨Nat.zero_le _, Nat.le_refl _⟩
    rw [List.drop_zero, Nat.zero_add, ← hsp _ rfl] at h2
    generalize r0 :: tl = ts at *
    cases h : rowsB g ts
    · rw [h] at h2
      simp only [Bool.false_eq_true, if_false] at h2
      simp [-Bool.exists_bool, rws_len, h2]
    · rw [h] at h2
      simp only [if_true] at h2
      simp [-Bool.exists_bool, rws_len, h2]
theorem w_clmay (z : Bool) (g : List Sym) (e : List D) (c : Cl) : C 36 [iG z g e, iC c] = some (iB (clB g c), [iG z g e, iC c]) := by
  refine wfn (lk := []) rfl rfl (fnW_way (q36 _ _ z (syms g) e c.lz (lits c.ls) c.le c.tz (rws c.ts) c.te c.cz (lits c.cs) c.ce _) ?_)
  have h1 := w_may z g e
  cases hg : sigB g
  · simp [-Bool.exists_bool, h1, hg, clB]
  by_cases l1 : c.ls.length ≤ 5
  rotate_left
  · have l1' : 5 < (c.ls.length : Int) := by omega
    simp [-Bool.exists_bool, h1, hg, clB, lits_len, l1, l1']
  by_cases l2 : c.ts.length ≤ 3
  rotate_left
  · have l1' : ¬ 5 < (c.ls.length : Int) := by omega
    have l2' : 3 < (c.ts.length : Int) := by omega
    simp [-Bool.exists_bool, h1, hg, clB, lits_len, rws_len, l1, l1', l2, l2']
  by_cases l3 : c.cs.length ≤ 3
  rotate_left
  · have l1' : ¬ 5 < (c.ls.length : Int) := by omega
    have l2' : ¬ 3 < (c.ts.length : Int) := by omega
    have l3' : 3 < (c.cs.length : Int) := by omega
    simp [-Bool.exists_bool, h1, hg, clB, lits_len, rws_len, l1, l1', l2, l2', l3, l3']
  have l1' : ¬ 5 < (c.ls.length : Int) := by omega
  have l2' : ¬ 3 < (c.ts.length : Int) := by omega
  have l3' : ¬ 3 < (c.cs.length : Int) := by omega
  have h2 := w_litsmay z c.lz g e c.le (ls := c.ls) (by omega)
  have h3 := w_rowsmay z c.tz g e c.te (ts := c.ts) (by omega)
  have h4 := w_litsmay z c.cz g e c.ce (ls := c.cs) (by omega)
  cases b1 : litsB g c.ls
  · rw [b1] at h2
    cases b2 : rowsB g c.ts <;> cases b3 : litsB g c.cs <;> simp [-Bool.exists_bool, h1, hg, clB, lits_len, rws_len, l1, l1', l2, l2', l3, l3', h2, h3, h4, b1, b2, b3]
  cases b2 : rowsB g c.ts
  · rw [b2] at h3
    cases b3 : litsB g c.cs <;> simp [-Bool.exists_bool, h1, hg, clB, lits_len, rws_len, l1, l1', l2, l2', l3, l3', h2, h3, h4, b1, b2, b3]
  cases b3 : litsB g c.cs
  · simp [-Bool.exists_bool, h1, hg, clB, lits_len, rws_len, l1, l1', l2, l2', l3, l3', h2, h3, h4, b1, b2, b3]
  have k1 := lenL_le b1
  have k3 := lenL_le b3
  have k2 : lenR c.ts ≤ 48 * c.ts.length := by
    cases ht : c.ts with
    | nil => simp [lenR]
    | cons r tl => rw [ht] at b2; exact lenR_le b2
  rw [b1] at h2; rw [b2] at h3; rw [b3] at h4
  simp only [if_true] at h2 h3 h4
  have hw : IntKind.wrap .i64 (IntKind.wrap .i64 ((lenL c.ls : Int) + (lenR c.ts : Int)) + (lenL c.cs : Int)) = ((lenL c.ls + lenR c.ts + lenL c.cs : Nat) : Int) := by
    rw [wr ((lenL c.ls : Int) + (lenR c.ts : Int)) (by omega) (by omega), wr _ (by omega) (by omega)]; omega
  by_cases k : lenL c.ls + lenR c.ts + lenL c.cs ≤ 240
  · have k' : ((lenL c.ls + lenR c.ts + lenL c.cs : Nat) : Int) ≤ 240 := by omega
    simp [-Bool.exists_bool, -Int.natCast_add, h1, hg, clB, lits_len, rws_len, l1, l1', l2, l2', l3, l3', h2, h3, h4, b1, b2, b3, hw, k, k']
  · have k' : ¬ ((lenL c.ls + lenR c.ts + lenL c.cs : Nat) : Int) ≤ 240 := by omega
    simp [-Bool.exists_bool, -Int.natCast_add, h1, hg, clB, lits_len, rws_len, l1, l1', l2, l2', l3, l3', h2, h3, h4, b1, b2, b3, hw, k, k']
    omega
end Go.Proofs.YthemimhlhjfdaaaDoor.Ab

/- Literals, clauses: what the reference's functions hand back; weights; copies. For every input; no condition. -/
set_option linter.unusedVariables false
set_option linter.unusedSimpArgs false
set_option maxRecDepth 100000
namespace Go.Proofs.YthemimhlhjfdaaaDoor.Ab
open Go Go.Ab Go.Qu Go.Proofs
attribute [local simp] and_assoc
theorem w_sum {g : List Sym} (hg : SigOk g) {r : List Int} (hr : Len r) (hk : Known g r) (z z' : Bool) (e e' : List D) : C 47 [iG z g e, iS z' r e'] = some (iI (sumW g r), [iG z g e, iS z' r e']) := by
  have hrl := hr.lt
  refine wfn (lk := []) rfl rfl (fnW_way (q47 _ _ z (syms g) e z' (ints r) e' _) ?_)
  have h1 := fun x hx => blk_fun (F := F) (d := d47) (lk := []) (p := [1,1,0,1,0,0]) (p0 := [1,1,0,1]) (id := 0) (by kernel_rfl) (st := fun (x : Nat × Int) => [(0, iG z g e), (5, iI x.2), (8, iS z' r e'), (9, iI r.length), (10, iI x.1)]) (I := fun x => x.1 ≤ r.length ∧ 0 ≤ x.2 ∧ x.2 ≤ 20 * x.1) (μ := fun x => r.length - x.1)
    (res := fun x => .norm [(0, iG z g e), (5, iI (x.2 + sumW g (r.drop x.1))), (8, iS z' r e'), (9, iI r.length), (10, iI r.length)])
    (fun x hx => by
      obtain ⟨i, k⟩ := x
      obtain ⟨hx1, hx2, hx3⟩ := hx
      dsimp only at hx1 hx2 hx3
      by_cases hi : i < r.length
      · have hc := hk _ (gi_mem hi)
        have hcw := codeW_le hg _ hc
        have hi' : (i : Int) < r.length := by omega
        have hw : IntKind.wrap .i64 (k + codeW g (gi r i)) = k + codeW g (gi r i) := wr _ (by omega) (by omega)
        refine .go (i + 1, k + codeW g (gi r i)) (wpQ_way (q47_l0a _ _ z (syms g) e k z' (ints r) e' _ i _) ?_) ⟨by dsimp only; omega, by dsimp only; omega, by dsimp only; omega⟩ (by dsimp only; omega) ?_
        · by_cases h0 : gi r i < 0
          · have e1 : codeW g (gi r i) = 1 := by simp [codeW, h0]
            have h0n : ¬ 0 ≤ gi r i := by omega
            rw [e1] at hw ⊢
            simp [-Bool.exists_bool, -getElem?_pos, -Int.natCast_add, hi', Go.Ab.ints_at hi, h0, h0n, hw, wr1 hi (by omega)]
          · have h0' : 0 ≤ gi r i := by omega
            obtain ⟨s, hs⟩ := at_lt (l := g) (i := (gi r i).toNat) (by omega)
            have e1 : codeW g (gi r i) = s.wt := by simp [codeW, h0, hs]
            rw [e1] at hw ⊢
            simp [-Bool.exists_bool, -getElem?_pos, -Int.natCast_add, hi', Go.Ab.ints_at hi, h0, h0', syms_at hs, hw, wr1 hi (by omega)]
        · dsimp only
          rw [gi_drop hi, sumW, Int.add_assoc]
      · have e1 : i = r.length := by omega
        subst e1
        refine .stop (.exit 0 [(0, iG z g e), (5, iI k), (8, iS z' r e'), (9, iI r.length), (10, iI r.length)]) (wpQ_way (q47_l0a _ _ z (syms g) e k z' (ints r) e' _ _ _) (by simp)) rfl ?_
        simp [blkO, sumW]) x hx
  have h2 : evP F (Go.Ab.W F) (JW F d47 []) d47 [] [1,1,0,1] [(0, iG z g e), (5, iI 0), (8, iS z' r e'), (9, iI r.length), (10, iI 0)] = _ := h1 (0, 0) ⟨Nat.zero_le _, by decide, by decide⟩
  rw [List.drop_zero, Int.zero_add] at h2
  simp [-Bool.exists_bool, ints_len, h2]
theorem w_heavy {g : List Sym} (hg : SigOk g) {r : List Int} (hr : Len r) (hk : Known g r) (z z' : Bool) (e e' : List D) : C 40 [iG z g e, iS z' r e'] = some (iI (sumW g r), [iG z g e, iS z' r e']) := by
  have hrl := hr.lt
  refine wfn (lk := []) rfl rfl (fnW_way (q40 _ _ z (syms g) e z' (ints r) e' _) ?_)
  have h1 := fun x hx => blk_fun (F := F) (d := d40) (lk := []) (p := [1,1,0,1,0,0]) (p0 := [1,1,0,1]) (id := 0) (by kernel_rfl) (st := fun (x : Nat × Int) => [(0, iG z g e), (1, iS z' r e'), (5, iI x.2), (6, iI x.1)]) (I := fun x => x.1 ≤ r.length ∧ 0 ≤ x.2 ∧ x.2 ≤ 20 * x.1) (μ := fun x => r.length - x.1)
    (res := fun x => .norm [(0, iG z g e), (1, iS z' r e'), (5, iI (x.2 + sumW g (r.drop x.1))), (6, iI r.length)])
    (fun x hx => by
      obtain ⟨i, k⟩ := x
      obtain ⟨hx1, hx2, hx3⟩ := hx
      dsimp only at hx1 hx2 hx3
      by_cases hi : i < r.length
      · have hc := hk _ (gi_mem hi)
        have hcw := codeW_le hg _ hc
        have hi' : (i : Int) < r.length := by omega
        have hw : IntKind.wrap .i64 (k + codeW g (gi r i)) = k + codeW g (gi r i) := wr _ (by omega) (by omega)
        refine .go (i + 1, k + codeW g (gi r i)) (wpQ_way (q40_l0a _ _ z (syms g) e z' (ints r) e' k i _) ?_) ⟨by dsimp only; omega, by dsimp only; omega, by dsimp only; omega⟩ (by dsimp only; omega) ?_
        · by_cases h0 : gi r i < 0
          · have e1 : codeW g (gi r i) = 1 := by simp [codeW, h0]
            have h0n : ¬ 0 ≤ gi r i := by omega
            rw [e1] at hw ⊢
            simp [-Bool.exists_bool, -getElem?_pos, -Int.natCast_add, ints_len, hi', Go.Ab.ints_at hi, h0, h0n, hw, wr1 hi (by omega)]
          · have h0' : 0 ≤ gi r i := by omega
            obtain ⟨s, hs⟩ := at_lt (l := g) (i := (gi r i).toNat) (by omega)
            have e1 : codeW g (gi r i) = s.wt := by simp [codeW, h0, hs]
            rw [e1] at hw ⊢
            simp [-Bool.exists_bool, -getElem?_pos, -Int.natCast_add, ints_len, hi', Go.Ab.ints_at hi, h0, h0', syms_at hs, hw, wr1 hi (by omega)]
        · dsimp only
          rw [gi_drop hi, sumW, Int.add_assoc]
      · have e1 : i = r.length := by omega
        subst e1
        refine .stop (.exit 0 [(0, iG z g e), (1, iS z' r e'), (5, iI k), (6, iI r.length)]) (wpQ_way (q40_l0a _ _ z (syms g) e z' (ints r) e' k _ _) (by simp [ints_len])) rfl ?_
        simp [blkO, sumW]) x hx
  have h2 : evP F (Go.Ab.W F) (JW F d40 []) d40 [] [1,1,0,1] [(0, iG z g e), (1, iS z' r e'), (5, iI 0), (6, iI 0)] = _ := h1 (0, 0) ⟨Nat.zero_le _, by decide, by decide⟩
  rw [List.drop_zero, Int.zero_add] at h2
  simp [-Bool.exists_bool, h2]
theorem atom_sig {g : List Sym} {a : List Int} (h : atomB g a = true) : sigB g = true := by
  cases a with
  | nil => simp [atomB] at h
  | cons p r =>
    simp only [atomB] at h
    split at h
    · cases h
    · split at h
      · cases h
      · simp only [Bool.and_eq_true] at h; exact h.1.2
theorem w_rlitmay (z : Bool) (g : List Sym) (e : List D) (b z' : Bool) (a : List Int) (e' : List D) : C 49 [iG z g e, iLit b z' a e'] = some (iB (atomB g a), [iG z g e, iLit b z' a e']) := by
  refine wfn (lk := []) rfl rfl (fnW_way (q49 _ _ z (syms g) e b z' (ints a) e' _) ?_)
  have h1 := w_rmay z g e
  cases hg : sigB g
  · have hb : atomB g a = false := by
      cases h : atomB g a
      · rfl
      · rw [atom_sig h] at hg; cases hg
    simp [-Bool.exists_bool, h1, hg, hb]
  have h2 := w_risatom hg z z' e e' a
  cases h : atomB g a <;> simp [-Bool.exists_bool, h1, hg, h2, h]
/-- All rows of a clause. -/
def rowsOf (c : Cl) : List Row := c.ls.map (·.r) ++ c.ts ++ c.cs.map (·.r)
theorem w_rrows {c : Cl} (l1 : c.ls.length ≤ 1000) (l2 : c.ts.length ≤ 1000) (l3 : c.cs.length ≤ 1000) : C 51 [iC c] = some (.own (rowsOf c).isEmpty 56 1 (rws (rowsOf c)), [iC c]) := by
  refine wfn (lk := []) rfl rfl (fnW_way (q51 _ _ c.lz (lits c.ls) c.le c.tz (rws c.ts) c.te c.cz (lits c.cs) c.ce _) ?_)
  have h1 := blk_fun (F := F) (d := d51) (lk := []) (p := [1,1,0,1,0,0]) (p0 := [1,1,0,1]) (id := 0) (by kernel_rfl) (st := fun (i : Nat) => [(1, .dbox 47 0 [.sl 2 c.lz (lits c.ls) c.le, .sl 1 c.tz (rws c.ts) c.te, .sl 2 c.cz (lits c.cs) c.ce]), (3, .own (c.ls.take i).isEmpty 56 1 (rws ((c.ls.take i).map (·.r)))), (4, iI i)]) (I := fun i => i ≤ c.ls.length) (μ := fun i => c.ls.length - i)
    (res := fun _ => .norm [(1, .dbox 47 0 [.sl 2 c.lz (lits c.ls) c.le, .sl 1 c.tz (rws c.ts) c.te, .sl 2 c.cz (lits c.cs) c.ce]), (3, .own c.ls.isEmpty 56 1 (rws (c.ls.map (·.r)))), (4, iI c.ls.length)])
    (fun i hi => by
      by_cases h : i < c.ls.length
      · obtain ⟨l, hl⟩ := at_lt h
        have e1 : c.ls.take (i + 1) = c.ls.take i ++ [l] := by rw [List.take_add_one, hl]; rfl
        have e2 : (rws ((c.ls.take i).map (·.r))).length = i := by rw [rws_len, List.length_map, List.length_take]; omega
        have hi' : (i : Int) < c.ls.length := by omega
        refine .go (i + 1) (wpQ_way (q51_l0a _ _ c.lz (lits c.ls) c.le c.tz (rws c.ts) c.te c.cz (lits c.cs) c.ce _ _ i _) ?_) h (by omega) rfl
        simp [-Bool.exists_bool, -getElem?_pos, -Int.natCast_add, -List.map_take, lits_len, hi', lits_at hl, wr1 h (by omega), e1, rws_append, rws_cons, rws_nil, e2]
        omega
      · have e1 : i = c.ls.length := by omega
        subst e1
        refine .stop (.exit 0 [(1, .dbox 47 0 [.sl 2 c.lz (lits c.ls) c.le, .sl 1 c.tz (rws c.ts) c.te, .sl 2 c.cz (lits c.cs) c.ce]), (3, .own c.ls.isEmpty 56 1 (rws (c.ls.map (·.r)))), (4, iI c.ls.length)]) (wpQ_way (q51_l0a _ _ c.lz (lits c.ls) c.le c.tz (rws c.ts) c.te c.cz (lits c.cs) c.ce _ _ _ _) ?_) rfl rfl
        simp [lits_len]) 0 (Nat.zero_le _)
  have h2 := blk_fun (F := F) (d := d51) (lk := []) (p := [1,1,1,0,1,0,0]) (p0 := [1,1,1,0,1]) (id := 2) (by kernel_rfl) (st := fun (i : Nat) => [(1, .dbox 47 0 [.sl 2 c.lz (lits c.ls) c.le, .sl 1 c.tz (rws c.ts) c.te, .sl 2 c.cz (lits c.cs) c.ce]), (3, .own (c.ls.isEmpty && (c.ts.take i).isEmpty) 56 1 (rws (c.ls.map (·.r) ++ c.ts.take i))), (5, iI i)]) (I := fun i => i ≤ c.ts.length) (μ := fun i => c.ts.length - i)
    (res := fun _ => .norm [(1, .dbox 47 0 [.sl 2 c.lz (lits c.ls) c.le, .sl 1 c.tz (rws c.ts) c.te, .sl 2 c.cz (lits c.cs) c.ce]), (3, .own (c.ls.isEmpty && c.ts.isEmpty) 56 1 (rws (c.ls.map (·.r) ++ c.ts))), (5, iI c.ts.length)])
    (fun i hi => by
      by_cases h : i < c.ts.length
      · obtain ⟨l, hl⟩ := at_lt h
        have e1 : c.ts.take (i + 1) = c.ts.take i ++ [l] := by rw [List.take_add_one, hl]; rfl
        have e2 : (rws (c.ls.map (·.r) ++ c.ts.take i)).length = c.ls.length + i := by rw [rws_len, List.length_append, List.length_map, List.length_take]; omega
        have hi' : (i : Int) < c.ts.length := by omega
        refine .go (i + 1) (wpQ_way (q51_l2b _ _ c.lz (lits c.ls) c.le c.tz (rws c.ts) c.te c.cz (lits c.cs) c.ce _ _ i _) ?_) h (by omega) rfl
        have e3 : rws (c.ls.map (·.r) ++ c.ts.take (i + 1)) = rws (c.ls.map (·.r) ++ c.ts.take i) ++ [.sl 1 l.z (ints l.l) l.e] := by rw [e1, ← List.append_assoc, rws_append]; rfl
        simp [-Bool.exists_bool, -getElem?_pos, -Int.natCast_add, -List.map_take, rws_len, hi', rws_at hl, wr1 h (by omega), e2, e3]
        exact ⟨by omega, by omega, fun _ he => by rw [he] at h; simp at h⟩
      · have e1 : i = c.ts.length := by omega
        subst e1
        refine .stop (.exit 2 [(1, .dbox 47 0 [.sl 2 c.lz (lits c.ls) c.le, .sl 1 c.tz (rws c.ts) c.te, .sl 2 c.cz (lits c.cs) c.ce]), (3, .own (c.ls.isEmpty && c.ts.isEmpty) 56 1 (rws (c.ls.map (·.r) ++ c.ts))), (5, iI c.ts.length)]) (wpQ_way (q51_l2b _ _ c.lz (lits c.ls) c.le c.tz (rws c.ts) c.te c.cz (lits c.cs) c.ce _ _ _ _) ?_) rfl rfl
        simp [rws_len]) 0 (Nat.zero_le _)
  have h3 := blk_fun (F := F) (d := d51) (lk := []) (p := [1,1,1,1,0,1,0,0]) (p0 := [1,1,1,1,0,1]) (id := 4) (by kernel_rfl) (st := fun (i : Nat) => [(1, .dbox 47 0 [.sl 2 c.lz (lits c.ls) c.le, .sl 1 c.tz (rws c.ts) c.te, .sl 2 c.cz (lits c.cs) c.ce]), (3, .own ((c.ls.isEmpty && c.ts.isEmpty) && (c.cs.take i).isEmpty) 56 1 (rws ((c.ls.map (·.r) ++ c.ts) ++ (c.cs.take i).map (·.r)))), (6, iI i)]) (I := fun i => i ≤ c.cs.length) (μ := fun i => c.cs.length - i)
    (res := fun _ => .norm [(1, .dbox 47 0 [.sl 2 c.lz (lits c.ls) c.le, .sl 1 c.tz (rws c.ts) c.te, .sl 2 c.cz (lits c.cs) c.ce]), (3, .own ((c.ls.isEmpty && c.ts.isEmpty) && c.cs.isEmpty) 56 1 (rws ((c.ls.map (·.r) ++ c.ts) ++ c.cs.map (·.r)))), (6, iI c.cs.length)])
    (fun i hi => by
      by_cases h : i < c.cs.length
      · obtain ⟨l, hl⟩ := at_lt h
        have e1 : c.cs.take (i + 1) = c.cs.take i ++ [l] := by rw [List.take_add_one, hl]; rfl
        have e2 : (rws ((c.ls.map (·.r) ++ c.ts) ++ (c.cs.take i).map (·.r))).length = c.ls.length + c.ts.length + i := by rw [rws_len, List.length_append, List.length_append, List.length_map, List.length_map, List.length_take]; omega
        have hi' : (i : Int) < c.cs.length := by omega
        refine .go (i + 1) (wpQ_way (q51_l4b _ _ c.lz (lits c.ls) c.le c.tz (rws c.ts) c.te c.cz (lits c.cs) c.ce _ _ i _) ?_) h (by omega) rfl
        have e3 : rws ((c.ls.map (·.r) ++ c.ts) ++ (c.cs.take (i + 1)).map (·.r)) = rws ((c.ls.map (·.r) ++ c.ts) ++ (c.cs.take i).map (·.r)) ++ [.sl 1 l.r.z (ints l.r.l) l.r.e] := by rw [e1, List.map_append, ← List.append_assoc, rws_append]; rfl
        simp [-Bool.exists_bool, -getElem?_pos, -Int.natCast_add, -List.map_take, -List.append_assoc, lits_len, hi', lits_at hl, wr1 h (by omega), e2, e3]
        exact ⟨by omega, by omega, fun _ _ he => by rw [he] at h; simp at h⟩
      · have e1 : i = c.cs.length := by omega
        subst e1
        refine .stop (.exit 4 [(1, .dbox 47 0 [.sl 2 c.lz (lits c.ls) c.le, .sl 1 c.tz (rws c.ts) c.te, .sl 2 c.cz (lits c.cs) c.ce]), (3, .own ((c.ls.isEmpty && c.ts.isEmpty) && c.cs.isEmpty) 56 1 (rws ((c.ls.map (·.r) ++ c.ts) ++ c.cs.map (·.r)))), (6, iI c.cs.length)]) (wpQ_way (q51_l4b _ _ c.lz (lits c.ls) c.le c.tz (rws c.ts) c.te c.cz (lits c.cs) c.ce _ _ _ _) ?_) rfl rfl
        simp [lits_len]) 0 (Nat.zero_le _)
  have h1' : evP F (Go.Ab.W F) (JW F d51 []) d51 [] [1,1,0,1] [(1, .dbox 47 0 [.sl 2 c.lz (lits c.ls) c.le, .sl 1 c.tz (rws c.ts) c.te, .sl 2 c.cz (lits c.cs) c.ce]), (3, .own true 56 1 []), (4, iI 0)] = _ := h1
  have h2' := h2
  simp only [List.take_zero, List.append_nil, List.isEmpty_nil, Bool.and_true, Int.natCast_zero] at h2'
  have h3' := h3
  simp only [List.take_zero, List.map_nil, List.append_nil, List.isEmpty_nil, Bool.and_true, Int.natCast_zero] at h3'
  have hz : (rowsOf c).isEmpty = ((c.ls.isEmpty && c.ts.isEmpty) && c.cs.isEmpty) := by
    unfold rowsOf
    cases c.ls <;> cases c.ts <;> cases c.cs <;> simp
  refine ⟨_, _, _, _, _, _, _, _, _, _, _, _, h1', _, _, _, _, _, _, _, _, _, _, _, _, h2', _, _, _, _, _, _, _, _, _, _, _, _, h3', ?_⟩
  rw [hz]; rfl
end Go.Proofs.YthemimhlhjfdaaaDoor.Ab

/- Clauses: what the reference may; copies; the same. For every input; no condition. -/
set_option linter.unusedVariables false
set_option linter.unusedSimpArgs false
set_option maxRecDepth 100000
namespace Go.Proofs.YthemimhlhjfdaaaDoor.Ab
open Go Go.Ab Go.Qu Go.Proofs
attribute [local simp] and_assoc
theorem terms_row {g : List Sym} (hg : sigB g = true) (r : List Int) : (rowB g r = true ∧ termsM g r = (termsN g r : Int)) ∨ (rowB g r = false ∧ termsM g r = -1) := by
  unfold rowB termsM termsN begsM
  cases h : rowP g r with
  | none => right; simp
  | some ts => left; simp [hg, begs_len]
theorem l_rclmay0 {g : List Sym} (hg : sigB g = true) (z : Bool) (e : List D) (c : Cl) (l0 : c.ls.length ≤ 1000) (l2 : c.ts.length ≤ 1000) (l3 : c.cs.length ≤ 1000) : ((∀ j, 0 ≤ j → j < c.ls.length → (fun i => match c.ls[i]? with | some l => atomB g l.r.l | none => true) j = true) ∧ evP F (Go.Ab.W F) (JW F d39 []) d39 [] [1,1,0,1] [(0, iG z g e), (3, .dbox 47 0 [.sl 2 c.lz (lits c.ls) c.le, .sl 1 c.tz (rws c.ts) c.te, .sl 2 c.cz (lits c.cs) c.ce]), (5, iI 0)] = some (.norm [(0, iG z g e), (3, .dbox 47 0 [.sl 2 c.lz (lits c.ls) c.le, .sl 1 c.tz (rws c.ts) c.te, .sl 2 c.cz (lits c.cs) c.ce]), (5, iI c.ls.length)])) ∨ ((∃ j, 0 ≤ j ∧ j < c.ls.length ∧ (fun i => match c.ls[i]? with | some l => atomB g l.r.l | none => true) j = false) ∧ evP F (Go.Ab.W F) (JW F d39 []) d39 [] [1,1,0,1] [(0, iG z g e), (3, .dbox 47 0 [.sl 2 c.lz (lits c.ls) c.le, .sl 1 c.tz (rws c.ts) c.te, .sl 2 c.cz (lits c.cs) c.ce]), (5, iI 0)] = some (.ret [(4, iB false)])) := by
  have hso := sigOk hg
  exact blk_all (F := F) (d := d39) (lk := []) (p := [1,1,0,1,0,0]) (p0 := [1,1,0,1]) (by kernel_rfl) (n := c.ls.length) (id := 0) (st := fun i => [(0, iG z g e), (3, .dbox 47 0 [.sl 2 c.lz (lits c.ls) c.le, .sl 1 c.tz (rws c.ts) c.te, .sl 2 c.cz (lits c.cs) c.ce]), (5, iI i)]) (q := fun i => match c.ls[i]? with | some l => atomB g l.r.l | none => true) (rt := [(4, iB false)]) (e := [(0, iG z g e), (3, .dbox 47 0 [.sl 2 c.lz (lits c.ls) c.le, .sl 1 c.tz (rws c.ts) c.te, .sl 2 c.cz (lits c.cs) c.ce]), (5, iI c.ls.length)])
    (fun i hi hq => by
      obtain ⟨l, hl⟩ := at_lt hi
      rw [hl] at hq
      dsimp only at hq
      have hm := w_rlitmay z g e l.neg l.r.z l.r.l l.r.e
      have hi' : (i : Int) < c.ls.length := by omega
      exact wpQ_way (q39_l0a _ _ z (syms g) e c.lz (lits c.ls) c.le c.tz (rws c.ts) c.te c.cz (lits c.cs) c.ce i _) (by simp [-Bool.exists_bool, -getElem?_pos, -Int.natCast_add, lits_len, hi', lits_at hl, hm, hq, wr1 hi (by omega)]))
    (fun i hi hq => by
      obtain ⟨l, hl⟩ := at_lt hi
      rw [hl] at hq
      dsimp only at hq
      have hm := w_rlitmay z g e l.neg l.r.z l.r.l l.r.e
      have hi' : (i : Int) < c.ls.length := by omega
      exact wpQ_way (q39_l0a _ _ z (syms g) e c.lz (lits c.ls) c.le c.tz (rws c.ts) c.te c.cz (lits c.cs) c.ce i _) (by simp [-Bool.exists_bool, -getElem?_pos, -Int.natCast_add, lits_len, hi', lits_at hl, hm, hq]))
    (wpQ_way (q39_l0a _ _ z (syms g) e c.lz (lits c.ls) c.le c.tz (rws c.ts) c.te c.cz (lits c.cs) c.ce _ _) (by simp [lits_len])) 0 (Nat.zero_le _)
theorem l_rclmay2 {g : List Sym} (hg : sigB g = true) (z : Bool) (e : List D) (c : Cl) (l0 : c.ls.length ≤ 1000) (l2 : c.ts.length ≤ 1000) (l3 : c.cs.length ≤ 1000) : ((∀ j, 0 ≤ j → j < c.cs.length → (fun i => match c.cs[i]? with | some l => atomB g l.r.l | none => true) j = true) ∧ evP F (Go.Ab.W F) (JW F d39 []) d39 [] [1,1,1,0,1] [(0, iG z g e), (3, .dbox 47 0 [.sl 2 c.lz (lits c.ls) c.le, .sl 1 c.tz (rws c.ts) c.te, .sl 2 c.cz (lits c.cs) c.ce]), (6, iI 0)] = some (.norm [(0, iG z g e), (3, .dbox 47 0 [.sl 2 c.lz (lits c.ls) c.le, .sl 1 c.tz (rws c.ts) c.te, .sl 2 c.cz (lits c.cs) c.ce]), (6, iI c.cs.length)])) ∨ ((∃ j, 0 ≤ j ∧ j < c.cs.length ∧ (fun i => match c.cs[i]? with | some l => atomB g l.r.l | none => true) j = false) ∧ evP F (Go.Ab.W F) (JW F d39 []) d39 [] [1,1,1,0,1] [(0, iG z g e), (3, .dbox 47 0 [.sl 2 c.lz (lits c.ls) c.le, .sl 1 c.tz (rws c.ts) c.te, .sl 2 c.cz (lits c.cs) c.ce]), (6, iI 0)] = some (.ret [(4, iB false)])) := by
  have hso := sigOk hg
  exact blk_all (F := F) (d := d39) (lk := []) (p := [1,1,1,0,1,0,0]) (p0 := [1,1,1,0,1]) (by kernel_rfl) (n := c.cs.length) (id := 2) (st := fun i => [(0, iG z g e), (3, .dbox 47 0 [.sl 2 c.lz (lits c.ls) c.le, .sl 1 c.tz (rws c.ts) c.te, .sl 2 c.cz (lits c.cs) c.ce]), (6, iI i)]) (q := fun i => match c.cs[i]? with | some l => atomB g l.r.l | none => true) (rt := [(4, iB false)]) (e := [(0, iG z g e), (3, .dbox 47 0 [.sl 2 c.lz (lits c.ls) c.le, .sl 1 c.tz (rws c.ts) c.te, .sl 2 c.cz (lits c.cs) c.ce]), (6, iI c.cs.length)])
    (fun i hi hq => by
      obtain ⟨l, hl⟩ := at_lt hi
      rw [hl] at hq
      dsimp only at hq
      have hm := w_rlitmay z g e l.neg l.r.z l.r.l l.r.e
      have hi' : (i : Int) < c.cs.length := by omega
      exact wpQ_way (q39_l2b _ _ z (syms g) e c.lz (lits c.ls) c.le c.tz (rws c.ts) c.te c.cz (lits c.cs) c.ce i _) (by simp [-Bool.exists_bool, -getElem?_pos, -Int.natCast_add, lits_len, hi', lits_at hl, hm, hq, wr1 hi (by omega)]))
    (fun i hi hq => by
      obtain ⟨l, hl⟩ := at_lt hi
      rw [hl] at hq
      dsimp only at hq
      have hm := w_rlitmay z g e l.neg l.r.z l.r.l l.r.e
      have hi' : (i : Int) < c.cs.length := by omega
      exact wpQ_way (q39_l2b _ _ z (syms g) e c.lz (lits c.ls) c.le c.tz (rws c.ts) c.te c.cz (lits c.cs) c.ce i _) (by simp [-Bool.exists_bool, -getElem?_pos, -Int.natCast_add, lits_len, hi', lits_at hl, hm, hq]))
    (wpQ_way (q39_l2b _ _ z (syms g) e c.lz (lits c.ls) c.le c.tz (rws c.ts) c.te c.cz (lits c.cs) c.ce _ _) (by simp [lits_len])) 0 (Nat.zero_le _)
theorem l_rclmay4 {g : List Sym} (hg : sigB g = true) (z : Bool) (e : List D) (c : Cl) (l0 : c.ls.length ≤ 1000) (l2 : c.ts.length ≤ 1000) (l3 : c.cs.length ≤ 1000) : ((∀ j, 0 ≤ j → j < c.ts.length → (fun i => match c.ts[i]?, c.ts[0]? with | some r, some s => decide (0 ≤ termsM g r.l) && (termsM g r.l == termsM g s.l) | _, _ => true) j = true) ∧ evP F (Go.Ab.W F) (JW F d39 []) d39 [] [1,1,1,1,0,1] [(0, iG z g e), (3, .dbox 47 0 [.sl 2 c.lz (lits c.ls) c.le, .sl 1 c.tz (rws c.ts) c.te, .sl 2 c.cz (lits c.cs) c.ce]), (7, iI 0)] = some (.norm [(0, iG z g e), (3, .dbox 47 0 [.sl 2 c.lz (lits c.ls) c.le, .sl 1 c.tz (rws c.ts) c.te, .sl 2 c.cz (lits c.cs) c.ce]), (7, iI c.ts.length)])) ∨ ((∃ j, 0 ≤ j ∧ j < c.ts.length ∧ (fun i => match c.ts[i]?, c.ts[0]? with | some r, some s => decide (0 ≤ termsM g r.l) && (termsM g r.l == termsM g s.l) | _, _ => true) j = false) ∧ evP F (Go.Ab.W F) (JW F d39 []) d39 [] [1,1,1,1,0,1] [(0, iG z g e), (3, .dbox 47 0 [.sl 2 c.lz (lits c.ls) c.le, .sl 1 c.tz (rws c.ts) c.te, .sl 2 c.cz (lits c.cs) c.ce]), (7, iI 0)] = some (.ret [(4, iB false)])) := by
  have hso := sigOk hg
  exact blk_all (F := F) (d := d39) (lk := []) (p := [1,1,1,1,0,1,0,0]) (p0 := [1,1,1,1,0,1]) (by kernel_rfl) (n := c.ts.length) (id := 4) (st := fun i => [(0, iG z g e), (3, .dbox 47 0 [.sl 2 c.lz (lits c.ls) c.le, .sl 1 c.tz (rws c.ts) c.te, .sl 2 c.cz (lits c.cs) c.ce]), (7, iI i)]) (q := fun i => match c.ts[i]?, c.ts[0]? with | some r, some s => decide (0 ≤ termsM g r.l) && (termsM g r.l == termsM g s.l) | _, _ => true) (rt := [(4, iB false)]) (e := [(0, iG z g e), (3, .dbox 47 0 [.sl 2 c.lz (lits c.ls) c.le, .sl 1 c.tz (rws c.ts) c.te, .sl 2 c.cz (lits c.cs) c.ce]), (7, iI c.ts.length)])
    (fun i hi hq => by
      obtain ⟨r, hr⟩ := at_lt hi
      obtain ⟨s, hs⟩ := at_lt (l := c.ts) (i := 0) (by omega)
      rw [hr, hs] at hq
      simp only [Bool.and_eq_true, beq_iff_eq, decide_eq_true_eq] at hq
      have hi' : (i : Int) < c.ts.length := by omega
      have hm := w_rterms hso z r.z e r.e r.l
      have hm2 := w_rterms hso z s.z e s.e s.l
      rw [← hq.2] at hm2
      have hn : ¬ termsM g r.l < 0 := by omega
      exact wpQ_way (q39_l4b _ _ z (syms g) e c.lz (lits c.ls) c.le c.tz (rws c.ts) c.te c.cz (lits c.cs) c.ce i _) (by simp [-Bool.exists_bool, -getElem?_pos, -Int.natCast_add, rws_len, hi', rws_at hr, rws_at hs, hm, hm2, hn, hq.1, wr1 hi (by omega)]))
    (fun i hi hq => by
      obtain ⟨r, hr⟩ := at_lt hi
      obtain ⟨s, hs⟩ := at_lt (l := c.ts) (i := 0) (by omega)
      rw [hr, hs] at hq
      have hi' : (i : Int) < c.ts.length := by omega
      have hm := w_rterms hso z r.z e r.e r.l
      have hm2 := w_rterms hso z s.z e s.e s.l
      refine wpQ_way (q39_l4b _ _ z (syms g) e c.lz (lits c.ls) c.le c.tz (rws c.ts) c.te c.cz (lits c.cs) c.ce i _) ?_
      by_cases hn : termsM g r.l < 0
      · have hn2 : ¬ 0 ≤ termsM g r.l := by omega
        simp [-Bool.exists_bool, -getElem?_pos, -Int.natCast_add, rws_len, hi', rws_at hr, rws_at hs, hm, hm2, hn, hn2]
      · have hn' : 0 ≤ termsM g r.l := by omega
        simp [hn'] at hq
        simp [-Bool.exists_bool, -getElem?_pos, -Int.natCast_add, rws_len, hi', rws_at hr, rws_at hs, hm, hm2, hn, hn', hq])
    (wpQ_way (q39_l4b _ _ z (syms g) e c.lz (lits c.ls) c.le c.tz (rws c.ts) c.te c.cz (lits c.cs) c.ce _ _) (by simp [rws_len])) 0 (Nat.zero_le _)
theorem lits_all_at {g : List Sym} (ls : List LitR) : (∀ j, 0 ≤ j → j < ls.length → (match ls[j]? with | some l => atomB g l.r.l | none => true) = true) → litsB g ls = true := fun h => by
    unfold litsB
    rw [List.all_eq_true]
    intro l hl
    obtain ⟨i, hi, he⟩ := List.getElem_of_mem hl
    have := h i (Nat.zero_le _) hi
    rw [List.getElem?_eq_getElem hi, he] at this
    exact this
theorem lits_not_at {g : List Sym} (ls : List LitR) : (∃ j, 0 ≤ j ∧ j < ls.length ∧ (match ls[j]? with | some l => atomB g l.r.l | none => true) = false) → litsB g ls = false := fun ⟨j, _, hj, h⟩ => by
    unfold litsB
    rw [List.all_eq_false]
    refine ⟨ls[j], List.getElem_mem hj, ?_⟩
    rw [List.getElem?_eq_getElem hj] at h
    dsimp only at h
    rw [h]; simp
theorem lenR_append : ∀ (a b : List Row), lenR (a ++ b) = lenR a + lenR b
  | [], b => by simp [lenR]
  | r :: a, b => by simp [lenR, lenR_append a b]; omega
theorem lenR_map : ∀ (ls : List LitR), lenR (ls.map (·.r)) = lenL ls
  | [] => rfl
  | l :: ls => by simp [lenR, lenL, lenR_map ls]
theorem lenR_rowsOf (c : Cl) : lenR (rowsOf c) = lenL c.ls + lenR c.ts + lenL c.cs := by
  unfold rowsOf; rw [lenR_append, lenR_append, lenR_map, lenR_map]
theorem rowsOf_le {g : List Sym} {c : Cl} (h1 : litsB g c.ls = true) (h2 : rowsB g c.ts = true) (h3 : litsB g c.cs = true) : ∀ r ∈ rowsOf c, r.l.length ≤ 49 := by
  intro r hr
  unfold rowsOf at hr
  unfold litsB at h1 h3
  rw [List.all_eq_true] at h1 h3
  rcases List.mem_append.1 hr with hr | hr
  · rcases List.mem_append.1 hr with hr | hr
    · obtain ⟨l, hl, rfl⟩ := List.mem_map.1 hr
      exact (atom_codes (h1 l hl)).1
    · cases hts : c.ts with
      | nil => rw [hts] at hr; simp at hr
      | cons r0 tl =>
        rw [hts] at h2 hr
        unfold rowsB rowsF at h2
        rw [List.all_eq_true] at h2
        have := h2 r hr
        simp only [Bool.and_eq_true] at this
        have := rowB_len this.1
        omega
  · obtain ⟨l, hl, rfl⟩ := List.mem_map.1 hr
    exact (atom_codes (h3 l hl)).1
theorem l_rclmay6 {R : List Row} (b : Bool) (hn : R.length ≤ 3000) (hR : ∀ r ∈ R, r.l.length ≤ 49) : evP F (Go.Ab.W F) (JW F d39 []) d39 [] [1,1,1,1,1,1,1,0,1] [(9, .own b 56 1 (rws R)), (10, iI 0), (11, iI 0)] = some (.norm [(9, .own b 56 1 (rws R)), (10, iI (lenR R)), (11, iI R.length)]) := by
  have h1 := fun x hx => blk_fun (F := F) (d := d39) (lk := []) (p := [1,1,1,1,1,1,1,0,1,0,0]) (p0 := [1,1,1,1,1,1,1,0,1]) (id := 6) (by kernel_rfl) (st := fun (x : Nat × Nat) => [(9, .own b 56 1 (rws R)), (10, iI x.2), (11, iI x.1)]) (I := fun x => x.1 ≤ R.length ∧ x.2 ≤ 49 * x.1) (μ := fun x => R.length - x.1)
    (res := fun x => .norm [(9, .own b 56 1 (rws R)), (10, iI (x.2 + lenR (R.drop x.1) : Nat)), (11, iI R.length)])
    (fun x hx => by
      obtain ⟨i, k⟩ := x
      obtain ⟨hx1, hx2⟩ := hx
      dsimp only at hx1 hx2
      by_cases hi : i < R.length
      · obtain ⟨r, hr⟩ := at_lt hi
        have hd : R.drop i = r :: R.drop (i + 1) := by
          rw [List.drop_eq_getElem_cons hi]
          rw [List.getElem?_eq_getElem hi] at hr
          cases hr; rfl
        have hl := hR r (List.mem_of_getElem? hr)
        have hi' : (i : Int) < R.length := by omega
        have hw : IntKind.wrap .i64 ((k : Int) + (r.l.length : Int)) = ((k + r.l.length : Nat) : Int) := by rw [wr _ (by omega) (by omega)]; omega
        refine .go (i + 1, k + r.l.length) (wpQ_way (q39_l6a _ _ b (rws R) k i _) ?_) ⟨by dsimp only; omega, by dsimp only; omega⟩ (by dsimp only; omega) ?_
        · simp [-Bool.exists_bool, -getElem?_pos, -Int.natCast_add, rws_len, hi', rws_at hr, ints_len, hw, wr1 hi (by omega)]
        · dsimp only; rw [hd, lenR, ← Nat.add_assoc]
      · have e1 : i = R.length := by omega
        subst e1
        refine .stop (.exit 6 [(9, .own b 56 1 (rws R)), (10, iI k), (11, iI R.length)]) (wpQ_way (q39_l6a _ _ b (rws R) k _ _) (by simp [rws_len])) rfl ?_
        simp [blkO, lenR]) x hx
  have h2 := h1 (0, 0) ⟨Nat.zero_le _, Nat.le_refl _⟩
  simp only [List.drop_zero, Nat.zero_add, Int.natCast_zero] at h2
  exact h2
theorem w_rclmay (z : Bool) (g : List Sym) (e : List D) (c : Cl) : C 39 [iG z g e, iC c] = some (iB (clB g c), [iG z g e, iC c]) := by
  refine wfn (lk := []) rfl rfl (fnW_way (q39 _ _ z (syms g) e c.lz (lits c.ls) c.le c.tz (rws c.ts) c.te c.cz (lits c.cs) c.ce _) ?_)
  have h1 := w_rmay z g e
  cases hg : sigB g
  · simp [-Bool.exists_bool, h1, hg, clB]
  by_cases l1 : c.ls.length ≤ 5
  rotate_left
  · have l1' : 5 < (c.ls.length : Int) := by omega
    simp [-Bool.exists_bool, h1, hg, clB, lits_len, l1, l1']
  have l1' : ¬ 5 < (c.ls.length : Int) := by omega
  by_cases l3 : c.cs.length ≤ 3
  rotate_left
  · have l3' : 3 < (c.cs.length : Int) := by omega
    simp [-Bool.exists_bool, h1, hg, clB, lits_len, rws_len, l1, l1', l3, l3']
  have l3' : ¬ 3 < (c.cs.length : Int) := by omega
  by_cases l2 : c.ts.length ≤ 3
  rotate_left
  · have l2' : 3 < (c.ts.length : Int) := by omega
    simp [-Bool.exists_bool, h1, hg, clB, lits_len, rws_len, l1, l1', l2, l2', l3, l3']
  have l2' : ¬ 3 < (c.ts.length : Int) := by omega
  have b1 := l_rclmay0 hg z e c (by omega) (by omega) (by omega)
  have b2 := l_rclmay2 hg z e c (by omega) (by omega) (by omega)
  have b3 := l_rclmay4 hg z e c (by omega) (by omega) (by omega)
  rw [hg] at h1
  refine ⟨true, _, h1, ?_⟩
  rw [condW_tt, condW_d, if_neg (by rw [lits_len]; omega), condW_d, if_neg (by rw [lits_len]; omega), condW_d, if_neg (by rw [rws_len]; omega)]
  rcases b1 with ⟨a1, a2⟩ | ⟨a1, a2⟩
  rotate_left
  · have hb := lits_not_at _ a1
    have hcl : clB g c = false := by simp [clB, hb]
    exact .inl ⟨_, a2, by rw [hcl]⟩
  have hb := lits_all_at _ a1
  refine .inr ⟨_, _, _, _, _, _, _, _, _, _, _, _, _, a2, ?_⟩
  rcases b2 with ⟨c1, c2⟩ | ⟨c1, c2⟩
  rotate_left
  · have hc := lits_not_at _ c1
    have hcl : clB g c = false := by simp [clB, hc]
    exact .inl ⟨_, c2, by rw [hcl]⟩
  have hc := lits_all_at _ c1
  refine .inr ⟨_, _, _, _, _, _, _, _, _, _, _, _, _, c2, ?_⟩
  rcases b3 with ⟨d1, d2⟩ | ⟨d1, d2⟩
  rotate_left
  · have hd : rowsB g c.ts = false := by
      obtain ⟨j, _, hj, hq⟩ := d1
      obtain ⟨r, hr⟩ := at_lt hj
      cases hts : c.ts with
      | nil => rw [hts] at hj; simp at hj
      | cons r0 tl =>
        rw [hts] at hr hq
        dsimp only at hq
        rw [hr] at hq
        simp only [List.getElem?_cons_zero] at hq
        unfold rowsB rowsF
        rw [List.all_eq_false]
        rcases terms_row hg r0.l with ⟨i1, i2⟩ | ⟨i1, i2⟩
        · rcases terms_row hg r.l with ⟨k1, k2⟩ | ⟨k1, k2⟩
          · refine ⟨r, List.mem_of_getElem? hr, fun hcc => ?_⟩
            simp only [Bool.and_eq_true, beq_iff_eq] at hcc
            rw [k2, i2, hcc.2] at hq; simp at hq
          · exact ⟨r, List.mem_of_getElem? hr, fun hcc => by rw [k1] at hcc; simp at hcc⟩
        · exact ⟨r0, by simp, fun hcc => by rw [i1] at hcc; simp at hcc⟩
    have hcl : clB g c = false := by simp [clB, hd]
    exact .inl ⟨_, d2, by rw [hcl]⟩
  have hd : rowsB g c.ts = true := by
    cases hts : c.ts with
    | nil => rfl
    | cons r0 tl =>
      unfold rowsB rowsF
      rw [List.all_eq_true]
      intro r hr
      obtain ⟨j, hj, he⟩ := List.getElem_of_mem hr
      have q0 := d1 0 (Nat.le_refl _) (by rw [hts]; simp)
      have qj := d1 j (Nat.zero_le _) (by rw [hts]; exact hj)
      rw [hts] at q0 qj
      dsimp only at q0 qj
      rw [List.getElem?_eq_getElem hj, he] at qj
      simp only [List.getElem?_cons_zero, Bool.and_eq_true, beq_iff_eq, decide_eq_true_eq] at q0 qj
      rcases terms_row hg r0.l with ⟨i1, i2⟩ | ⟨i1, i2⟩
      · rcases terms_row hg r.l with ⟨k1, k2⟩ | ⟨k1, k2⟩
        · rw [k1]
          rw [k2, i2] at qj
          have : termsN g r.l = termsN g r0.l := by omega
          simp [this]
        · rw [k2] at qj; omega
      · rw [i2] at q0; omega
  refine .inr ⟨_, _, _, _, _, _, _, _, _, _, _, _, _, d2, ?_⟩
  have e1 := w_rrows (c := c) (by omega) (by omega) (by omega)
  have hle := rowsOf_le hb hd hc
  have e2 := l_rclmay6 (rowsOf c).isEmpty (R := rowsOf c) (by unfold rowsOf; simp; omega) hle
  rw [lenR_rowsOf] at e2
  refine ⟨_, _, _, e1, _, _, _, _, e2, ?_⟩
  by_cases k : lenL c.ls + lenR c.ts + lenL c.cs ≤ 240
  · have hcl : clB g c = true := by simp [clB, hg, l1, l2, l3, hb, hc, hd, k]
    rw [condW_d, if_pos (by omega), hcl]
  · have hcl : clB g c = false := by simp [clB, k]
    rw [condW_d, if_neg (by omega), hcl]
end Go.Proofs.YthemimhlhjfdaaaDoor.Ab

/- Clauses: copies; the same. For every input; no condition. -/
set_option linter.unusedVariables false
set_option linter.unusedSimpArgs false
set_option maxRecDepth 100000
namespace Go.Proofs.YthemimhlhjfdaaaDoor.Ab
open Go Go.Ab Go.Qu Go.Proofs
attribute [local simp] and_assoc
def freshL (l : LitR) : LitR := ⟨l.neg, fresh l.r⟩
def LitsIn (ls : List LitR) : Prop := ls.length * 32 ≤ 140737488351232 ∧ ∀ l ∈ ls, Len l.r.l
theorem w_copylits {ls : List LitR} (h : LitsIn ls) (z : Bool) (e : List D) : C 34 [iL z ls e] = some (.own ls.isEmpty 58 2 (lits (ls.map freshL)), [iL z ls e]) := by
  obtain ⟨hn, hr⟩ := h
  refine wfn (lk := []) rfl rfl (fnW_way (q34 _ _ z (lits ls) e _) ?_)
  have h1 := blk_fun (F := F) (d := d34) (lk := []) (p := [1,1,0,1,0,0]) (p0 := [1,1,0,1]) (id := 0) (by kernel_rfl) (st := fun (i : Nat) => [(0, iL z ls e), (3, .own (ls.take i).isEmpty 58 2 (lits ((ls.take i).map freshL))), (4, iI i)]) (I := fun i => i ≤ ls.length) (μ := fun i => ls.length - i)
    (res := fun _ => .norm [(0, iL z ls e), (3, .own ls.isEmpty 58 2 (lits (ls.map freshL))), (4, iI ls.length)])
    (fun i hi => by
      by_cases h : i < ls.length
      · obtain ⟨l, hl⟩ := at_lt h
        have hL := hr l (List.mem_of_getElem? hl)
        have e1 : ls.take (i + 1) = ls.take i ++ [l] := by rw [List.take_add_one, hl]; rfl
        have e2 : (lits ((ls.take i).map freshL)).length = i := by rw [lits_len, List.length_map, List.length_take]; omega
        have hi' : (i : Int) < ls.length := by omega
        have e3 : lits ((ls.take (i + 1)).map freshL) = lits ((ls.take i).map freshL) ++ [.agg [.bool l.neg, .sl 1 false (ints l.r.l) []]] := by rw [e1, List.map_append, lits_append]; rfl
        have e4 : (ls.take (i + 1)).isEmpty = false := by rw [e1]; cases ls.take i <;> rfl
        refine .go (i + 1) (wpQ_way (q34_l0a _ _ z (lits ls) e _ _ i _) ?_) h (by omega) rfl
        have hat := lits_at hl
        cases hneg : l.neg <;> rw [hneg] at hat e3 <;> simp [-Bool.exists_bool, -getElem?_pos, -Int.natCast_add, -List.map_take, lits_len, hi', hat, w_copyints hL, wr1 h (by omega), e2, e3, e4] <;> exact ⟨by omega, by omega⟩
      · have e1 : i = ls.length := by omega
        subst e1
        refine .stop (.exit 0 [(0, iL z ls e), (3, .own ls.isEmpty 58 2 (lits (ls.map freshL))), (4, iI ls.length)]) (wpQ_way (q34_l0a _ _ z (lits ls) e _ _ ls.length _) ?_) rfl rfl
        simp [lits_len]) 0 (Nat.zero_le _)
  exact ⟨_, _, _, _, _, _, h1, rfl⟩
/-- What counts of literals. -/
def ks (l : LitR) : Bool × List Int := (l.neg, l.r.l)
theorem w_samelits {a : List LitR} (ha : LitsIn a) (b : List LitR) (z z' : Bool) (e e' : List D) : C 41 [iL z a e, iL z' b e'] = some (iB (decide (a.map ks = b.map ks)), [iL z a e, iL z' b e']) := by
  obtain ⟨hn, hr⟩ := ha
  refine wfn (lk := []) rfl rfl (fnW_way (q41 _ _ z (lits a) e z' (lits b) e' _) ?_)
  by_cases hl : a.length = b.length
  rotate_left
  · have e1 : ¬ (a.length : Int) = b.length := by omega
    have e2 : ¬ a.map ks = b.map ks := fun h => hl (by have := congrArg List.length h; simpa using this)
    simp [lits_len, e1, e2]
  rcases blk_all (F := F) (d := d41) (lk := []) (p := [1,1,0,1,0,0]) (p0 := [1,1,0,1]) (by kernel_rfl) (n := a.length) (id := 0) (st := fun i => [(0, iL z a e), (1, iL z' b e'), (5, iI i)]) (q := fun i => (a[i]?.map ks) == (b[i]?.map ks)) (rt := [(4, iB false)]) (e := [(0, iL z a e), (1, iL z' b e'), (5, iI a.length)])
    (fun i hi hq => by
      obtain ⟨x, hx⟩ := at_lt hi
      obtain ⟨y, hy⟩ := at_lt (show i < b.length by omega)
      have hxa := lits_at hx; have hya := lits_at hy
      simp [hx, hy, ks] at hq
      have hs := w_sameints (hr x (List.mem_of_getElem? hx)) y.r.l x.r.z y.r.z x.r.e y.r.e
      have hi' : (i : Int) < a.length := by omega
      rw [hq.2] at hs hxa
      refine wpQ_way (q41_l0a _ _ z (lits a) e z' (lits b) e' i _) ?_
      rw [hq.1] at hxa
      cases hneg : y.neg <;> rw [hneg] at hxa hya <;> simp [-Bool.exists_bool, -getElem?_pos, -Int.natCast_add, lits_len, wr1 hi (by omega), hi', hxa, hya, hs])
    (fun i hi hq => by
      obtain ⟨x, hx⟩ := at_lt hi
      obtain ⟨y, hy⟩ := at_lt (show i < b.length by omega)
      have hxa := lits_at hx; have hya := lits_at hy
      simp [hx, hy, ks] at hq
      have hs := w_sameints (hr x (List.mem_of_getElem? hx)) y.r.l x.r.z y.r.z x.r.e y.r.e
      have hi' : (i : Int) < a.length := by omega
      refine wpQ_way (q41_l0a _ _ z (lits a) e z' (lits b) e' i _) ?_
      cases hnx : x.neg <;> cases hny : y.neg <;> rw [hnx] at hxa <;> rw [hny] at hya <;> simp [hnx, hny] at hq <;> simp [-Bool.exists_bool, -getElem?_pos, -Int.natCast_add, lits_len, hi', hxa, hya, hs, hq])
    (wpQ_way (q41_l0a _ _ z (lits a) e z' (lits b) e' a.length _) (by simp [lits_len])) 0 (Nat.zero_le _) with ⟨h2, h3⟩ | ⟨⟨j, h2, h4, h5⟩, h3⟩
  · have hab : a.map ks = b.map ks := by
      refine List.ext_getElem? (fun i => ?_)
      by_cases hi : i < a.length
      · have := h2 i (Nat.zero_le _) hi
        simpa using this
      · rw [List.getElem?_eq_none (by simpa using hi), List.getElem?_eq_none (by simp; omega)]
    simp at h3
    simp [lits_len, hl, hab, h3]
  · have hab : ¬ a.map ks = b.map ks := fun h => by
      have := congrArg (·[j]?) h
      simp at this h5
      exact h5 this
    simp at h3
    simp [lits_len, hl, hab, h3]
/-- What a clause is made of. -/
structure ClIn (c : Cl) : Prop where
  ls : LitsIn c.ls
  most : c.ts.length * 24 ≤ 140737488351232
  rows : ∀ r ∈ c.ts, Len r.l
  cs : LitsIn c.cs
def clKey (c : Cl) : List (Bool × List Int) × List (List Int) × List (Bool × List Int) := (c.ls.map ks, c.ts.map (·.l), c.cs.map ks)
def freshC (c : Cl) : Cl := ⟨c.ls.isEmpty, c.ls.map freshL, [], c.ts.isEmpty, c.ts.map fresh, [], c.cs.isEmpty, c.cs.map freshL, []⟩
theorem freshC_key (c : Cl) : clKey (freshC c) = clKey c := by
  simp [clKey, freshC, freshL, fresh, ks]
theorem w_copyclause {c : Cl} (h : ClIn c) : C 23 [iC c] = some (.agg [.own c.ls.isEmpty 58 2 (lits (c.ls.map freshL)), .own c.ts.isEmpty 56 1 (rws (c.ts.map fresh)), .own c.cs.isEmpty 58 2 (lits (c.cs.map freshL))], [iC c]) := by
  refine wfn (lk := []) rfl rfl (fnW_way (q23 _ _ c.lz (lits c.ls) c.le c.tz (rws c.ts) c.te c.cz (lits c.cs) c.ce _) ?_)
  exact ⟨_, _, _, w_copylits h.ls _ _, _, _, _, w_copyrows h.most h.rows _ _, _, _, _, w_copylits h.cs _ _, rfl⟩
theorem w_sameclause {c : Cl} (h : ClIn c) (c' : Cl) : C 26 [iC c, iC c'] = some (iB (decide (clKey c = clKey c')), [iC c, iC c']) := by
  refine wfn (lk := []) rfl rfl (fnW_way (q26 _ _ c.lz (lits c.ls) c.le c.tz (rws c.ts) c.te c.cz (lits c.cs) c.ce c'.lz (lits c'.ls) c'.le c'.tz (rws c'.ts) c'.te c'.cz (lits c'.cs) c'.ce _) ?_)
  have h1 := w_samelits h.ls c'.ls c.lz c'.lz c.le c'.le
  have h2 := w_samerows h.most h.rows c'.ts c.tz c'.tz c.te c'.te
  have h3 := w_samelits h.cs c'.cs c.cz c'.cz c.ce c'.ce
  refine ⟨_, _, _, h1, ?_⟩
  by_cases k1 : c.ls.map ks = c'.ls.map ks
  rotate_left
  · simp [k1, clKey]
  rw [decide_eq_true k1, condW_tt]
  refine ⟨_, _, _, h2, ?_⟩
  by_cases k2 : c.ts.map (·.l) = c'.ts.map (·.l)
  rotate_left
  · simp [k2, clKey]
  rw [decide_eq_true k2, condW_tt]
  refine ⟨_, _, _, h3, ?_⟩
  by_cases k3 : c.cs.map ks = c'.cs.map ks
  · simp [k1, k2, k3, clKey]
  · simp [k3, clKey]
end Go.Proofs.YthemimhlhjfdaaaDoor.Ab

/- Literals, clauses as arguments. No condition. -/
set_option linter.unusedVariables false
set_option linter.unusedSimpArgs false
set_option maxRecDepth 100000
namespace Go.Proofs.YthemimhlhjfdaaaDoor.Ab
open Go Go.Ab Go.Qu Go.Proofs
theorem good_lit {n : Nat} {x : D} (h : Go.Ab.Good Tryd.prog (n + 3) 58 x) : ∃ l : LitR, x = l.d ∧ Len l.r.l := by
  unfold Go.Ab.Good at h
  rw [Tryd.underlying58] at h
  obtain ⟨ys, rfl, y0, r0, rfl, h0, y1, r1, rfl, h1, rfl⟩ := h
  obtain ⟨z, l, rfl, hl⟩ := good_ints h1
  unfold Go.Ab.Good at h0
  rw [Tryd.underlying4] at h0
  obtain ⟨b, rfl⟩ := h0
  exact ⟨⟨b, ⟨z, l, []⟩⟩, rfl, hl⟩
theorem good_lits {n : Nat} {x : D} (h : Go.Ab.Good Tryd.prog (n + 4) 44 x) : ∃ z ls, x = .sl 2 z (lits ls) [] ∧ LitsIn ls := by
  unfold Go.Ab.Good at h
  rw [Tryd.underlying44] at h
  obtain ⟨z, xs, rfl, h1, h2, _⟩ := h
  have hc : Tryd.prog.cellsOf 58 = 2 := by kernel_rfl
  have hb : Tryd.prog.bytesOf 58 = 32 := by kernel_rfl
  rw [hb] at h1
  rw [hc]
  obtain ⟨ls, rfl, h4⟩ := all_map (f := LitR.d) (Q := fun l => Len l.r.l) (fun y hy => by obtain ⟨l, hl, hk⟩ := good_lit (h2 y hy); exact ⟨l, hl, hk⟩)
  rw [List.length_map] at h1
  exact ⟨z, ls, rfl, by simpa [reachBytes] using h1, h4⟩
theorem good_clause {n : Nat} {x : D} (h : Go.Ab.Good Tryd.prog (n + 5) 47 x) : ∃ c : Cl, x = c.d ∧ ClIn c := by
  unfold Go.Ab.Good at h
  rw [Tryd.underlying47] at h
  obtain ⟨ys, rfl, y0, r0, rfl, h0, y1, r1, rfl, h1, y2, r2, rfl, h2, rfl⟩ := h
  obtain ⟨lz, ls, rfl, hls⟩ := good_lits h0
  obtain ⟨tz, ts, rfl, hts, hr⟩ := good_rows h1
  obtain ⟨cz, cs, rfl, hcs⟩ := good_lits h2
  exact ⟨⟨lz, ls, [], tz, ts, [], cz, cs, []⟩, rfl, ⟨hls, hts, hr, hcs⟩⟩
end Go.Proofs.YthemimhlhjfdaaaDoor.Ab
