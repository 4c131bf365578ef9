/- What the rows of this seat share: the variable that is laid, the world in which it is so. No condition. -/
import Derived.Below
import Derived.ChangeOld
import Derived.LaidMore
import Derived.Lib.SmallJoins
import Derived.OpenShut
import Derived.ProofKit
import Derived.SevenTiedAt
import Derived.ShutString
import Derived.SizedLaws
import Derived.Stop.Joined
import Derived.Test.YtgjgdklnodeinaaDoorCards
import Derived.Test.YtgjgdklnodeinaaDoorRows
import Derived.Test.YtgjgdklnodeinaaDoorTie
import Derived.WalkKit
import Derived.Test.YtgjgdklnodeinaaDoorTermTells0
import Derived.Test.YtgjgdklnodeinaaDoorTermTells1
import Derived.Test.YtgjgdklnodeinaaDoorTermTells2
import Derived.Test.YtgjgdklnodeinaaDoorTermTells3
import Derived.Test.YtgjgdklnodeinaaDoorTermTells4
import Derived.Test.YtgjgdklnodeinaaDoorTermTells5
import Derived.Test.YtgjgdklnodeinaaDoorTermTells6
import Derived.Test.YtgjgdklnodeinaaDoorTermTells7
import Derived.Test.YtgjgdklnodeinaaDoorTermTells8
import Derived.Test.YtgjgdklnodeinaaDoorTermTells9
import Derived.Test.YtgjgdklnodeinaaDoorTermTells10
import Derived.Test.YtgjgdklnodeinaaDoorTermTells11
import Derived.Test.YtgjgdklnodeinaaDoorTermTells12
import Derived.Test.YtgjgdklnodeinaaDoorTermTells13
import Derived.Test.YtgjgdklnodeinaaDoorTermTells14
import Derived.Test.YtgjgdklnodeinaaDoorTermTells15
namespace Go.Proofs.YtgjgdklnodeinaaDoor.Ab
open Go Go.Ab Go.Qu Go.Proofs Go.ChangeShapes Go.WideShapes Go.ChangeAt Go.RowKit Go.Joins
set_option linter.unusedVariables false
set_option maxRecDepth 100000
theorem own : ownKnob Tryd.prog.godebug = none := by kernel_rfl
theorem laidOut : laidOutB Tryd.prog = true := by kernel_rfl
abbrev laid1 : List (String × DataW Unit) := [("quaere/sign.equals", Rows.laid_quaere_sign_equals)]
theorem gEq : Tryd.prog.globalNamed "quaere/sign.equals" = some 0 := by kernel_rfl
theorem tEq : (Tryd.prog.globals[0]?).map (·.type) = some 55 := by kernel_rfl
theorem door_met (os : Os) (args : Array Value) : laidMetH Tryd.prog laid1 ((World.doorLaid Tryd.prog 400 os).forCall (fun _ _ => 0) ⟨#[], args, []⟩).memory :=
  laidMetH_of_parts3 (fuel := 8) (laidMet_of_run' 8 (by kernel_rfl) (by kernel_rfl)) (by kernel_rfl) (by kernel_rfl)
theorem globs {W : World} (h : laidMetH Tryd.prog laid1 W) : GlobOk (Hw W) F.G := by
  rw [MakeChecks.laidMetH_plain _ _ _ (by kernel_rfl)] at h
  obtain ⟨ps, ⟨g0, t0, cs0, f0, p0, q0, hg0, ht0, hv0, hd0, _, _⟩, _, _⟩ := h
  obtain rfl := Option.some.inj (gEq.symm.trans hg0)
  obtain rfl := Option.some.inj (tEq.symm.trans ht0)
  obtain ⟨xs, n, _, hx, hlen, hxl, hf⟩ := DataW.trod_struct Tryd.underlying55 hd0
  have c1 : Tryd.prog.cellsOf 55 = 4 := by kernel_rfl
  have cs : Tryd.prog.cellsOf 9 = 1 := by kernel_rfl
  have ci : Tryd.prog.cellsOf 3 = 1 := by kernel_rfl
  rw [c1] at hlen
  have hx1 : xs.map (·.1) = [.lit (.string [61]), .lit (.int .i64 0), .lit (.int .i64 2), .lit (.int .i64 1)] := by
    simp only [Prod.mk.injEq] at hx
    have h9 := hx.1
    unfold Rows.laid_quaere_sign_equals at h9
    simp only [DataW.agg.injEq] at h9
    exact h9.symm
  have hcs : ∃ a b c d, cs0.toList = [a, b, c, d] := by
    match h : cs0.toList, hlen with
    | [a, b, c, d], _ => exact ⟨a, b, c, d, rfl⟩
  obtain ⟨a, b, c, d, hcs⟩ := hcs
  have hxs : ∃ x0 x1 x2 x3, xs = [x0, x1, x2, x3] := by
    match xs, hxl with
    | [x0, x1, x2, x3], _ => exact ⟨x0, x1, x2, x3, rfl⟩
  obtain ⟨x0, x1, x2, x3, rfl⟩ := hxs
  simp only [List.map_cons, List.map_nil, List.cons.injEq, and_true] at hx1
  obtain ⟨e0, e1, e2, e3⟩ := hx1
  have h0 : DataW.trod (fun _ => ()) Tryd.prog W 0 (fun _ => true) false n 9 ((cs0.toList.drop 0).take (Tryd.prog.cellsOf 9)) = some x0 := hf 0 _ rfl
  have h1 : DataW.trod (fun _ => ()) Tryd.prog W 0 (fun _ => true) false n 3 ((cs0.toList.drop 1).take (Tryd.prog.cellsOf 3)) = some x1 := hf 1 _ rfl
  have h2 : DataW.trod (fun _ => ()) Tryd.prog W 0 (fun _ => true) false n 3 ((cs0.toList.drop 2).take (Tryd.prog.cellsOf 3)) = some x2 := hf 2 _ rfl
  have h3 : DataW.trod (fun _ => ()) Tryd.prog W 0 (fun _ => true) false n 3 ((cs0.toList.drop 3).take (Tryd.prog.cellsOf 3)) = some x3 := hf 3 _ rfl
  rw [hcs, cs] at h0
  rw [hcs, ci] at h1 h2 h3
  obtain ⟨s, ha, hs, _⟩ := DataW.trod_string Tryd.underlying9 h0
  obtain ⟨n1, hb, hn1, _⟩ := DataW.trod_int Tryd.underlying3 h1
  obtain ⟨n2, hc, hn2, _⟩ := DataW.trod_int Tryd.underlying3 h2
  obtain ⟨n3, hd, hn3, _⟩ := DataW.trod_int Tryd.underlying3 h3
  simp at ha hb hc hd
  rw [hs] at e0; rw [hn1] at e1; rw [hn2] at e2; rw [hn3] at e3
  simp at e0 e1 e2 e3
  subst ha hb hc hd e1 e2 e3
  have hse : s = "=".toUTF8 := by
    have h5 : "=".toUTF8.data.toList = [61] := by decide +kernel
    have h6 : s.data = "=".toUTF8.data := Array.toList_inj.1 (e0.trans h5.symm)
    exact (show ∀ (x y : ByteArray), x.data = y.data → x = y by intro ⟨_⟩ ⟨_⟩ h; exact congrArg _ h) _ _ h6
  subst hse
  have hcell : ∀ (j : Nat) u, [Value.string "=".toUTF8, .int .i64 0, .int .i64 2, .int .i64 1][j]? = some u → W.cell? ⟨0, j, none⟩ = some u := fun j u hj => by
    have h7 := World.var?_cell hg0 hv0 j
    have h8 : cs0[j]? = some u := by rw [← Array.getElem?_toList, hcs]; exact hj
    rw [h8] at h7
    simpa using h7
  intro g cs hg
  simp only [F, List.map_cons, List.map_nil, assoc] at hg
  split at hg
  · rename_i hg0
    subst hg0
    simp only [Option.some.injEq] at hg
    subst hg
    refine ⟨[.string "=".toUTF8, .int .i64 0, .int .i64 2, .int .i64 1], ?_, fun j u hj => ?_, by simp [D.isAgg]⟩
    · unfold D.RepL; refine ⟨[_], _, rfl, by unfold D.Rep; rfl, ?_⟩
      unfold D.RepL; refine ⟨[_], _, rfl, by unfold D.Rep; rfl, ?_⟩
      unfold D.RepL; refine ⟨[_], _, rfl, by unfold D.Rep; rfl, ?_⟩
      unfold D.RepL; refine ⟨[_], [], rfl, by unfold D.Rep; rfl, ?_⟩
      unfold D.RepL; rfl
    · refine Hw.cell ?_
      have h9 := hcell j u hj
      unfold Addr.add
      split
      · rename_i hj0; subst hj0; exact h9
      · simpa using h9
  · simp at hg
theorem fxOk : FxOk Tryd.prog F where
  orders := by kernel_rfl
  tab := tab_ok
  code := code_ok.get
  prim := fun f p args r outs h => by cases h
  ins := insAll
/-! ### Arguments -/
theorem good_sym {n : Nat} {x : D} (h : Go.Ab.Good Tryd.prog (n + 2) 55 x) : ∃ s : Sym, x = s.d := by
  unfold Go.Ab.Good at h
  rw [Tryd.underlying55] at h
  obtain ⟨ys, rfl, y0, r0, rfl, h0, y1, r1, rfl, h1, y2, r2, rfl, h2, y3, r3, rfl, h3, rfl⟩ := h
  unfold Go.Ab.Good at h0 h1 h2 h3
  simp only [Tryd.underlying9, Tryd.underlying3] at h0 h1 h2 h3
  obtain ⟨s, rfl, _⟩ := h0
  obtain ⟨a, rfl, _⟩ := h1
  obtain ⟨b, rfl, _⟩ := h2
  obtain ⟨c, rfl, _⟩ := h3
  exact ⟨⟨s, a, b, c⟩, rfl⟩
theorem good_sig {n : Nat} {x : D} (h : Go.Ab.Good Tryd.prog (n + 3) 22 x) : ∃ z g, x = .sl 4 z (syms g) [] := by
  unfold Go.Ab.Good at h
  rw [Tryd.underlying22] at h
  obtain ⟨z, xs, rfl, _, h2, _⟩ := h
  have hc : Tryd.prog.cellsOf 55 = 4 := by kernel_rfl
  rw [hc]
  obtain ⟨g, rfl, _⟩ := all_map (f := Sym.d) (Q := fun _ => True) (fun y hy => by obtain ⟨s, hs⟩ := good_sym (h2 y hy); exact ⟨s, hs, trivial⟩)
  exact ⟨z, g, rfl⟩
theorem good_int {n : Nat} {x : D} (h : Go.Ab.Good Tryd.prog (n + 1) 3 x) : ∃ a : Int, x = .int .i64 a ∧ -9223372036854775808 ≤ a ∧ a ≤ 9223372036854775807 := by
  unfold Go.Ab.Good at h
  rw [Tryd.underlying3] at h
  obtain ⟨a, rfl, hw⟩ := h
  refine ⟨a, rfl, ?_⟩
  simp [Lit.wf, IntKind.min, IntKind.max, IntKind.bits, IntKind.signed] at hw
  omega
theorem good_ints {n : Nat} {x : D} (h : Go.Ab.Good Tryd.prog (n + 2) 23 x) : ∃ z l, x = .sl 1 z (ints l) [] ∧ Len l := by
  unfold Go.Ab.Good at h
  rw [Tryd.underlying23] at h
  obtain ⟨z, xs, rfl, h1, h2, _⟩ := h
  have hc : Tryd.prog.cellsOf 3 = 1 := by kernel_rfl
  have hb : Tryd.prog.bytesOf 3 = 8 := by kernel_rfl
  rw [hb] at h1
  rw [hc]
  obtain ⟨l, rfl, _⟩ := all_map (f := D.int .i64) (Q := fun _ => True) (fun y hy => by obtain ⟨a, ha, _⟩ := good_int (h2 y hy); exact ⟨a, ha, trivial⟩)
  rw [List.length_map] at h1
  exact ⟨z, l, rfl, by unfold Len; simpa [reachBytes] using h1⟩
theorem good_rows {n : Nat} {x : D} (h : Go.Ab.Good Tryd.prog (n + 3) 62 x) : ∃ z rs, x = .sl 1 z (rws rs) [] ∧ rs.length * 24 ≤ 140737488351232 ∧ ∀ r ∈ rs, Len r.l := by
  unfold Go.Ab.Good at h
  rw [Tryd.underlying62] at h
  obtain ⟨z, xs, rfl, h1, h2, _⟩ := h
  have hc : Tryd.prog.cellsOf 23 = 1 := by kernel_rfl
  have hb : Tryd.prog.bytesOf 23 = 24 := by kernel_rfl
  rw [hb] at h1
  rw [hc]
  obtain ⟨rs, rfl, h4⟩ := all_map (f := Row.d) (Q := fun r => Len r.l) (fun y hy => by obtain ⟨z, l, h, hl⟩ := good_ints (h2 y hy); exact ⟨⟨z, l, []⟩, h, hl⟩)
  rw [List.length_map] at h1
  exact ⟨z, rs, rfl, by simpa [reachBytes] using h1, h4⟩
end Go.Proofs.YtgjgdklnodeinaaDoor.Ab

/- Chapter 2's laws TermRows and TermTells: for every input the laws return true. No condition. -/
set_option linter.unusedVariables false
set_option linter.unusedSimpArgs false
set_option maxRecDepth 100000
namespace Go.Proofs.YtgjgdklnodeinaaDoor.Ab
open Go Go.Ab Go.Qu Go.Proofs
attribute [local simp] and_assoc
theorem w_awake : C 19 [] = some (iB true, []) := W_ev (n := 60) (by kernel_rfl)
attribute [local simp] w_num
theorem w_lend {a : List Int} (ha : Len a) (z : Bool) (e : List D) : C 9 [iS z a e] = some (iS false a [.int .i64 (-7777), .int .i64 (-8888)], [iS z a e]) := by
  refine wfn (lk := []) rfl rfl (fnW_way (q9 _ _ z (ints a) e _) ?_)
  unfold Len at ha
  have h1 := w_copyints ha z e
  have g1 : a.length + (0 + 1 + 1) ≤ 9223372036854775807 := by omega
  have g2 : (a.length + (0 + 1 + 1)) * 8 ≤ 140737488355328 := by omega
  have g3 : (a.length : Int) ≤ ((a.length + 2 : Nat) : Int) := by omega
  refine ⟨_, _, _, h1, ?_⟩
  rw [ints_len, condW_d, if_pos g1, condW_d, if_pos g2, condW_d, if_pos (by simp [ints_len]; omega), Int.toNat_natCast]
  have e1 : (ints a ++ [D.int .i64 (-7777), .int .i64 (-8888)]).take a.length = ints a := by rw [← ints_len a]; exact List.take_left ..
  have e2 : (ints a ++ [D.int .i64 (-7777), .int .i64 (-8888)]).drop a.length = [.int .i64 (-7777), .int .i64 (-8888)] := by rw [← ints_len a]; exact List.drop_left ..
  rw [e1, e2]; rfl
theorem w_kept {a : List Int} (ha : Len a) (b : List Int) (z z' : Bool) (e : List D) (hab : a = b) : C 18 [iS z a [.int .i64 (-7777), .int .i64 (-8888)], iS z' b e] = some (iB true, [iS z a [.int .i64 (-7777), .int .i64 (-8888)], iS z' b e]) := by
  subst hab
  refine wfn (lk := []) rfl rfl (fnW_way (q18 _ _ z (ints a) _ z' (ints a) e _) ?_)
  have hs := w_sameints ha a z z' [.int .i64 (-7777), .int .i64 (-8888)] e
  unfold Len at ha
  have hw : IntKind.wrap .i64 ((a.length : Int) + 2) = ((a.length + 2 : Nat) : Int) := by rw [wr _ (by omega) (by omega)]; omega
  have hw1 : IntKind.wrap .i64 ((a.length : Int) + 1) = ((a.length + 1 : Nat) : Int) := by rw [wr _ (by omega) (by omega)]; omega
  have hx : tkX (a.length + 2) (ints a) [D.int .i64 (-7777), .int .i64 (-8888)] = ints a ++ [.int .i64 (-7777), .int .i64 (-8888)] := by
    unfold tkX
    exact List.take_of_length_le (by simp [ints_len])
  have h1 : (ints a ++ [D.int .i64 (-7777), .int .i64 (-8888)])[a.length]? = some (.int .i64 (-7777)) := by rw [← ints_len a]; simp
  have h2 : (ints a ++ [D.int .i64 (-7777), .int .i64 (-8888)])[a.length + 1]? = some (.int .i64 (-8888)) := by
    rw [← ints_len a, List.getElem?_append_right (by omega), Nat.add_sub_cancel_left]; rfl
  rw [ints_len, hw, hw1, condW_d, if_pos (by omega), condW_d, if_pos (by simp), Int.toNat_natCast, Int.toNat_natCast, Int.toNat_natCast, hx]
  refine ⟨_, _, _, hs, ?_⟩
  rw [decide_eq_true rfl, condW_tt]
  refine ⟨_, h1, ?_⟩
  rw [beq_self_eq_true, condW_tt, condW_d, if_pos (by omega)]
  refine ⟨_, h2, ?_⟩
  rw [beq_self_eq_true, condW_tt]
theorem begs_small {g : List Sym} {r : List Int} : Len (begsM g r) := by
  unfold Len
  cases h : rowB g r
  · rw [begsM_no h]; simp
  · obtain ⟨hg, hr, ts, hts, hp⟩ := rowB_parts h
    have := (parts_lens _ _ (Nat.le_refl _) hts).1
    simp [begsM, hg, hp, begs_len]; omega
theorem vars_small {r : List Int} {b : Bool} : Len (if b = true then varsM r else []) := by
  have h : ∀ (k v : Nat), (varsFrom r k v).length ≤ k := by
    intro k
    induction k with
    | zero => intro v; simp [varsFrom]
    | succ k ih => intro v; rw [varsFrom]; split <;> (have := ih (v + 1); simp; omega)
  have := h 24 0
  unfold Len varsM
  split
  · omega
  · simp
theorem law_rows (z : Bool) (g : List Sym) (z' : Bool) {r : List Int} (hr : Len r) (i : Int) : C 3 [iG z g [], iS z' r [], iI i] = some (iB true, [iG z g [], iS z' r [], iI i]) := by
  refine wfn (lk := []) rfl rfl (fnW_way (q3 _ _ z (syms g) [] z' (ints r) [] i _) ?_)
  refine ⟨_, _, _, _, w_lend hr z' [], _, _, _, _, w_row z false g [] _ r, _, _, _, _, w_rrow z z' g [] [] r, _, _, _, _, _, w_starts z false g [] _ r, _, _, _, _, _, w_rstarts z z' g [] [] r, _, _, _, _, _, w_end z false g [] _ r i, _, _, _, _, _, w_rendof z z' g [] [] r i, ?_⟩
  have hk := w_kept hr r false z' [] rfl
  have hs := w_sameints (begs_small (g := g) (r := r)) (begsM g r) (begsM g r).isEmpty (begsM g r).isEmpty [] []
  simp [-Bool.exists_bool, w_awake, hk, hs]
theorem law_tells (z : Bool) (g : List Sym) (z' : Bool) {r : List Int} (hr : Len r) : C 4 [iG z g [], iS z' r []] = some (iB true, [iG z g [], iS z' r []]) := by
  refine wfn (lk := []) rfl rfl (fnW_way (q4 _ _ z (syms g) [] z' (ints r) [] _) ?_)
  refine ⟨_, _, _, _, w_lend hr z' [], _, _, _, _, _, w_vars z false g [] _ r, _, _, _, _, _, w_rvars z z' g [] [] r, _, _, _, _, w_weight z false g [] _ r, _, _, _, _, w_rweight z z' g [] [] r, _, _, _, _, w_deep z false g [] _ r, _, _, _, _, w_rdeep z z' g [] [] r, ?_⟩
  have hk := w_kept hr r false z' [] rfl
  have hs := w_sameints (vars_small (r := r) (b := rowB g r)) (if rowB g r = true then varsM r else []) (if rowB g r = true then varsM r else []).isEmpty (if rowB g r = true then varsM r else []).isEmpty [] []
  generalize (if rowB g r = true then varsM r else []) = vs at hs
  simp [-Bool.exists_bool, w_awake, hk, hs]
theorem call_rows (y0 y1 y2 : D) (h0 : Go.Ab.Good Tryd.prog 12 22 y0) (h1 : Go.Ab.Good Tryd.prog 12 23 y1) (h2 : Go.Ab.Good Tryd.prog 12 3 y2) : ∃ outs, C 3 [.d y0, .d y1, .d y2] = some (iB true, outs) := by
  obtain ⟨z, g, rfl⟩ := good_sig h0
  obtain ⟨z', r, rfl, hr⟩ := good_ints h1
  obtain ⟨i, rfl, _⟩ := good_int h2
  exact ⟨_, law_rows z g z' hr i⟩
theorem call_tells (y0 y1 : D) (h0 : Go.Ab.Good Tryd.prog 12 22 y0) (h1 : Go.Ab.Good Tryd.prog 12 23 y1) : ∃ outs, C 4 [.d y0, .d y1] = some (iB true, outs) := by
  obtain ⟨z, g, rfl⟩ := good_sig h0
  obtain ⟨z', r, rfl, hr⟩ := good_ints h1
  exact ⟨_, law_tells z g z' hr⟩
end Go.Proofs.YtgjgdklnodeinaaDoor.Ab
