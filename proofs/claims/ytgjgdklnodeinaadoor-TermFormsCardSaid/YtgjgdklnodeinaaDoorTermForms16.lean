/- What the rows of this seat share: the variable that is laid, the world in which it is so. No condition. -/
import Derived.Below
import Derived.ChangeOld
import Derived.LaidMore
import Derived.Lib.SmallJoins
import Derived.OpenShut
import Derived.ProofKit
import Derived.SevenTiedAt
import Derived.ShutString
import Derived.SizedLaws
import Derived.Stop.Joined
import Derived.Test.YtgjgdklnodeinaaDoorCards
import Derived.Test.YtgjgdklnodeinaaDoorRows
import Derived.Test.YtgjgdklnodeinaaDoorTie
import Derived.WalkKit
import Derived.Test.YtgjgdklnodeinaaDoorTermForms0
import Derived.Test.YtgjgdklnodeinaaDoorTermForms1
import Derived.Test.YtgjgdklnodeinaaDoorTermForms2
import Derived.Test.YtgjgdklnodeinaaDoorTermForms3
import Derived.Test.YtgjgdklnodeinaaDoorTermForms4
import Derived.Test.YtgjgdklnodeinaaDoorTermForms5
import Derived.Test.YtgjgdklnodeinaaDoorTermForms6
import Derived.Test.YtgjgdklnodeinaaDoorTermForms7
import Derived.Test.YtgjgdklnodeinaaDoorTermForms8
import Derived.Test.YtgjgdklnodeinaaDoorTermForms9
import Derived.Test.YtgjgdklnodeinaaDoorTermForms10
import Derived.Test.YtgjgdklnodeinaaDoorTermForms11
import Derived.Test.YtgjgdklnodeinaaDoorTermForms12
import Derived.Test.YtgjgdklnodeinaaDoorTermForms13
import Derived.Test.YtgjgdklnodeinaaDoorTermForms14
import Derived.Test.YtgjgdklnodeinaaDoorTermForms15
namespace Go.Proofs.YtgjgdklnodeinaaDoor.Ab
open Go Go.Ab Go.Qu Go.Proofs Go.ChangeShapes Go.WideShapes Go.ChangeAt Go.RowKit Go.Joins
set_option linter.unusedVariables false
set_option maxRecDepth 100000
theorem own : ownKnob Tryd.prog.godebug = none := by kernel_rfl
theorem laidOut : laidOutB Tryd.prog = true := by kernel_rfl
abbrev laid1 : List (String × DataW Unit) := [("quaere/sign.equals", Rows.laid_quaere_sign_equals)]
theorem gEq : Tryd.prog.globalNamed "quaere/sign.equals" = some 0 := by kernel_rfl
theorem tEq : (Tryd.prog.globals[0]?).map (·.type) = some 55 := by kernel_rfl
theorem door_met (os : Os) (args : Array Value) : laidMetH Tryd.prog laid1 ((World.doorLaid Tryd.prog 400 os).forCall (fun _ _ => 0) ⟨#[], args, []⟩).memory :=
  laidMetH_of_parts3 (fuel := 8) (laidMet_of_run' 8 (by kernel_rfl) (by kernel_rfl)) (by kernel_rfl) (by kernel_rfl)
theorem globs {W : World} (h : laidMetH Tryd.prog laid1 W) : GlobOk (Hw W) F.G := by
  rw [MakeChecks.laidMetH_plain _ _ _ (by kernel_rfl)] at h
  obtain ⟨ps, ⟨g0, t0, cs0, f0, p0, q0, hg0, ht0, hv0, hd0, _, _⟩, _, _⟩ := h
  obtain rfl := Option.some.inj (gEq.symm.trans hg0)
  obtain rfl := Option.some.inj (tEq.symm.trans ht0)
  obtain ⟨xs, n, _, hx, hlen, hxl, hf⟩ := DataW.trod_struct Tryd.underlying55 hd0
  have c1 : Tryd.prog.cellsOf 55 = 4 := by kernel_rfl
  have cs : Tryd.prog.cellsOf 9 = 1 := by kernel_rfl
  have ci : Tryd.prog.cellsOf 3 = 1 := by kernel_rfl
  rw [c1] at hlen
  have hx1 : xs.map (·.1) = [.lit (.string [61]), .lit (.int .i64 0), .lit (.int .i64 2), .lit (.int .i64 1)] := by
    simp only [Prod.mk.injEq] at hx
    have h9 := hx.1
    unfold Rows.laid_quaere_sign_equals at h9
    simp only [DataW.agg.injEq] at h9
    exact h9.symm
  have hcs : ∃ a b c d, cs0.toList = [a, b, c, d] := by
    match h : cs0.toList, hlen with
    | [a, b, c, d], _ => exact ⟨a, b, c, d, rfl⟩
  obtain ⟨a, b, c, d, hcs⟩ := hcs
  have hxs : ∃ x0 x1 x2 x3, xs = [x0, x1, x2, x3] := by
    match xs, hxl with
    | [x0, x1, x2, x3], _ => exact ⟨x0, x1, x2, x3, rfl⟩
  obtain ⟨x0, x1, x2, x3, rfl⟩ := hxs
  simp only [List.map_cons, List.map_nil, List.cons.injEq, and_true] at hx1
  obtain ⟨e0, e1, e2, e3⟩ := hx1
  have h0 : DataW.trod (fun _ => ()) Tryd.prog W 0 (fun _ => true) false n 9 ((cs0.toList.drop 0).take (Tryd.prog.cellsOf 9)) = some x0 := hf 0 _ rfl
  have h1 : DataW.trod (fun _ => ()) Tryd.prog W 0 (fun _ => true) false n 3 ((cs0.toList.drop 1).take (Tryd.prog.cellsOf 3)) = some x1 := hf 1 _ rfl
  have h2 : DataW.trod (fun _ => ()) Tryd.prog W 0 (fun _ => true) false n 3 ((cs0.toList.drop 2).take (Tryd.prog.cellsOf 3)) = some x2 := hf 2 _ rfl
  have h3 : DataW.trod (fun _ => ()) Tryd.prog W 0 (fun _ => true) false n 3 ((cs0.toList.drop 3).take (Tryd.prog.cellsOf 3)) = some x3 := hf 3 _ rfl
  rw [hcs, cs] at h0
  rw [hcs, ci] at h1 h2 h3
  obtain ⟨s, ha, hs, _⟩ := DataW.trod_string Tryd.underlying9 h0
  obtain ⟨n1, hb, hn1, _⟩ := DataW.trod_int Tryd.underlying3 h1
  obtain ⟨n2, hc, hn2, _⟩ := DataW.trod_int Tryd.underlying3 h2
  obtain ⟨n3, hd, hn3, _⟩ := DataW.trod_int Tryd.underlying3 h3
  simp at ha hb hc hd
  rw [hs] at e0; rw [hn1] at e1; rw [hn2] at e2; rw [hn3] at e3
  simp at e0 e1 e2 e3
  subst ha hb hc hd e1 e2 e3
  have hse : s = "=".toUTF8 := by
    have h5 : "=".toUTF8.data.toList = [61] := by decide +kernel
    have h6 : s.data = "=".toUTF8.data := Array.toList_inj.1 (e0.trans h5.symm)
    exact (show ∀ (x y : ByteArray), x.data = y.data → x = y by intro ⟨_⟩ ⟨_⟩ h; exact congrArg _ h) _ _ h6
  subst hse
  have hcell : ∀ (j : Nat) u, [Value.string "=".toUTF8, .int .i64 0, .int .i64 2, .int .i64 1][j]? = some u → W.cell? ⟨0, j, none⟩ = some u := fun j u hj => by
    have h7 := World.var?_cell hg0 hv0 j
    have h8 : cs0[j]? = some u := by rw [← Array.getElem?_toList, hcs]; exact hj
    rw [h8] at h7
    simpa using h7
  intro g cs hg
  simp only [F, List.map_cons, List.map_nil, assoc] at hg
  split at hg
  · rename_i hg0
    subst hg0
    simp only [Option.some.injEq] at hg
    subst hg
    refine ⟨[.string "=".toUTF8, .int .i64 0, .int .i64 2, .int .i64 1], ?_, fun j u hj => ?_, by simp [D.isAgg]⟩
    · unfold D.RepL; refine ⟨[_], _, rfl, by unfold D.Rep; rfl, ?_⟩
      unfold D.RepL; refine ⟨[_], _, rfl, by unfold D.Rep; rfl, ?_⟩
      unfold D.RepL; refine ⟨[_], _, rfl, by unfold D.Rep; rfl, ?_⟩
      unfold D.RepL; refine ⟨[_], [], rfl, by unfold D.Rep; rfl, ?_⟩
      unfold D.RepL; rfl
    · refine Hw.cell ?_
      have h9 := hcell j u hj
      unfold Addr.add
      split
      · rename_i hj0; subst hj0; exact h9
      · simpa using h9
  · simp at hg
theorem fxOk : FxOk Tryd.prog F where
  orders := by kernel_rfl
  tab := tab_ok
  code := code_ok.get
  prim := fun f p args r outs h => by cases h
  ins := insAll
/-! ### Arguments -/
theorem good_sym {n : Nat} {x : D} (h : Go.Ab.Good Tryd.prog (n + 2) 55 x) : ∃ s : Sym, x = s.d := by
  unfold Go.Ab.Good at h
  rw [Tryd.underlying55] at h
  obtain ⟨ys, rfl, y0, r0, rfl, h0, y1, r1, rfl, h1, y2, r2, rfl, h2, y3, r3, rfl, h3, rfl⟩ := h
  unfold Go.Ab.Good at h0 h1 h2 h3
  simp only [Tryd.underlying9, Tryd.underlying3] at h0 h1 h2 h3
  obtain ⟨s, rfl, _⟩ := h0
  obtain ⟨a, rfl, _⟩ := h1
  obtain ⟨b, rfl, _⟩ := h2
  obtain ⟨c, rfl, _⟩ := h3
  exact ⟨⟨s, a, b, c⟩, rfl⟩
theorem good_sig {n : Nat} {x : D} (h : Go.Ab.Good Tryd.prog (n + 3) 22 x) : ∃ z g, x = .sl 4 z (syms g) [] := by
  unfold Go.Ab.Good at h
  rw [Tryd.underlying22] at h
  obtain ⟨z, xs, rfl, _, h2, _⟩ := h
  have hc : Tryd.prog.cellsOf 55 = 4 := by kernel_rfl
  rw [hc]
  obtain ⟨g, rfl, _⟩ := all_map (f := Sym.d) (Q := fun _ => True) (fun y hy => by obtain ⟨s, hs⟩ := good_sym (h2 y hy); exact ⟨s, hs, trivial⟩)
  exact ⟨z, g, rfl⟩
theorem good_int {n : Nat} {x : D} (h : Go.Ab.Good Tryd.prog (n + 1) 3 x) : ∃ a : Int, x = .int .i64 a ∧ -9223372036854775808 ≤ a ∧ a ≤ 9223372036854775807 := by
  unfold Go.Ab.Good at h
  rw [Tryd.underlying3] at h
  obtain ⟨a, rfl, hw⟩ := h
  refine ⟨a, rfl, ?_⟩
  simp [Lit.wf, IntKind.min, IntKind.max, IntKind.bits, IntKind.signed] at hw
  omega
theorem good_ints {n : Nat} {x : D} (h : Go.Ab.Good Tryd.prog (n + 2) 23 x) : ∃ z l, x = .sl 1 z (ints l) [] ∧ Len l := by
  unfold Go.Ab.Good at h
  rw [Tryd.underlying23] at h
  obtain ⟨z, xs, rfl, h1, h2, _⟩ := h
  have hc : Tryd.prog.cellsOf 3 = 1 := by kernel_rfl
  have hb : Tryd.prog.bytesOf 3 = 8 := by kernel_rfl
  rw [hb] at h1
  rw [hc]
  obtain ⟨l, rfl, _⟩ := all_map (f := D.int .i64) (Q := fun _ => True) (fun y hy => by obtain ⟨a, ha, _⟩ := good_int (h2 y hy); exact ⟨a, ha, trivial⟩)
  rw [List.length_map] at h1
  exact ⟨z, l, rfl, by unfold Len; simpa [reachBytes] using h1⟩
theorem good_rows {n : Nat} {x : D} (h : Go.Ab.Good Tryd.prog (n + 3) 62 x) : ∃ z rs, x = .sl 1 z (rws rs) [] ∧ rs.length * 24 ≤ 140737488351232 ∧ ∀ r ∈ rs, Len r.l := by
  unfold Go.Ab.Good at h
  rw [Tryd.underlying62] at h
  obtain ⟨z, xs, rfl, h1, h2, _⟩ := h
  have hc : Tryd.prog.cellsOf 23 = 1 := by kernel_rfl
  have hb : Tryd.prog.bytesOf 23 = 24 := by kernel_rfl
  rw [hb] at h1
  rw [hc]
  obtain ⟨rs, rfl, h4⟩ := all_map (f := Row.d) (Q := fun r => Len r.l) (fun y hy => by obtain ⟨z, l, h, hl⟩ := good_ints (h2 y hy); exact ⟨⟨z, l, []⟩, h, hl⟩)
  rw [List.length_map] at h1
  exact ⟨z, rs, rfl, by simpa [reachBytes] using h1, h4⟩
end Go.Proofs.YtgjgdklnodeinaaDoor.Ab

/- Chapter 2's laws TermRows and TermTells: for every input the laws return true. No condition. -/
set_option linter.unusedVariables false
set_option linter.unusedSimpArgs false
set_option maxRecDepth 100000
namespace Go.Proofs.YtgjgdklnodeinaaDoor.Ab
open Go Go.Ab Go.Qu Go.Proofs
attribute [local simp] and_assoc
theorem w_awake : C 19 [] = some (iB true, []) := W_ev (n := 60) (by kernel_rfl)
attribute [local simp] w_num
theorem w_lend {a : List Int} (ha : Len a) (z : Bool) (e : List D) : C 9 [iS z a e] = some (iS false a [.int .i64 (-7777), .int .i64 (-8888)], [iS z a e]) := by
  refine wfn (lk := []) rfl rfl (fnW_way (q9 _ _ z (ints a) e _) ?_)
  unfold Len at ha
  have h1 := w_copyints ha z e
  have g1 : a.length + (0 + 1 + 1) ≤ 9223372036854775807 := by omega
  have g2 : (a.length + (0 + 1 + 1)) * 8 ≤ 140737488355328 := by omega
  have g3 : (a.length : Int) ≤ ((a.length + 2 : Nat) : Int) := by omega
  refine ⟨_, _, _, h1, ?_⟩
  rw [ints_len, condW_d, if_pos g1, condW_d, if_pos g2, condW_d, if_pos (by simp [ints_len]; omega), Int.toNat_natCast]
  have e1 : (ints a ++ [D.int .i64 (-7777), .int .i64 (-8888)]).take a.length = ints a := by rw [← ints_len a]; exact List.take_left ..
  have e2 : (ints a ++ [D.int .i64 (-7777), .int .i64 (-8888)]).drop a.length = [.int .i64 (-7777), .int .i64 (-8888)] := by rw [← ints_len a]; exact List.drop_left ..
  rw [e1, e2]; rfl
theorem w_kept {a : List Int} (ha : Len a) (b : List Int) (z z' : Bool) (e : List D) (hab : a = b) : C 18 [iS z a [.int .i64 (-7777), .int .i64 (-8888)], iS z' b e] = some (iB true, [iS z a [.int .i64 (-7777), .int .i64 (-8888)], iS z' b e]) := by
  subst hab
  refine wfn (lk := []) rfl rfl (fnW_way (q18 _ _ z (ints a) _ z' (ints a) e _) ?_)
  have hs := w_sameints ha a z z' [.int .i64 (-7777), .int .i64 (-8888)] e
  unfold Len at ha
  have hw : IntKind.wrap .i64 ((a.length : Int) + 2) = ((a.length + 2 : Nat) : Int) := by rw [wr _ (by omega) (by omega)]; omega
  have hw1 : IntKind.wrap .i64 ((a.length : Int) + 1) = ((a.length + 1 : Nat) : Int) := by rw [wr _ (by omega) (by omega)]; omega
  have hx : tkX (a.length + 2) (ints a) [D.int .i64 (-7777), .int .i64 (-8888)] = ints a ++ [.int .i64 (-7777), .int .i64 (-8888)] := by
    unfold tkX
    exact List.take_of_length_le (by simp [ints_len])
  have h1 : (ints a ++ [D.int .i64 (-7777), .int .i64 (-8888)])[a.length]? = some (.int .i64 (-7777)) := by rw [← ints_len a]; simp
  have h2 : (ints a ++ [D.int .i64 (-7777), .int .i64 (-8888)])[a.length + 1]? = some (.int .i64 (-8888)) := by
    rw [← ints_len a, List.getElem?_append_right (by omega), Nat.add_sub_cancel_left]; rfl
  rw [ints_len, hw, hw1, condW_d, if_pos (by omega), condW_d, if_pos (by simp), Int.toNat_natCast, Int.toNat_natCast, Int.toNat_natCast, hx]
  refine ⟨_, _, _, hs, ?_⟩
  rw [decide_eq_true rfl, condW_tt]
  refine ⟨_, h1, ?_⟩
  rw [beq_self_eq_true, condW_tt, condW_d, if_pos (by omega)]
  refine ⟨_, h2, ?_⟩
  rw [beq_self_eq_true, condW_tt]
theorem begs_small {g : List Sym} {r : List Int} : Len (begsM g r) := by
  unfold Len
  cases h : rowB g r
  · rw [begsM_no h]; simp
  · obtain ⟨hg, hr, ts, hts, hp⟩ := rowB_parts h
    have := (parts_lens _ _ (Nat.le_refl _) hts).1
    simp [begsM, hg, hp, begs_len]; omega
theorem vars_small {r : List Int} {b : Bool} : Len (if b = true then varsM r else []) := by
  have h : ∀ (k v : Nat), (varsFrom r k v).length ≤ k := by
    intro k
    induction k with
    | zero => intro v; simp [varsFrom]
    | succ k ih => intro v; rw [varsFrom]; split <;> (have := ih (v + 1); simp; omega)
  have := h 24 0
  unfold Len varsM
  split
  · omega
  · simp
theorem law_rows (z : Bool) (g : List Sym) (z' : Bool) {r : List Int} (hr : Len r) (i : Int) : C 3 [iG z g [], iS z' r [], iI i] = some (iB true, [iG z g [], iS z' r [], iI i]) := by
  refine wfn (lk := []) rfl rfl (fnW_way (q3 _ _ z (syms g) [] z' (ints r) [] i _) ?_)
  refine ⟨_, _, _, _, w_lend hr z' [], _, _, _, _, w_row z false g [] _ r, _, _, _, _, w_rrow z z' g [] [] r, _, _, _, _, _, w_starts z false g [] _ r, _, _, _, _, _, w_rstarts z z' g [] [] r, _, _, _, _, _, w_end z false g [] _ r i, _, _, _, _, _, w_rendof z z' g [] [] r i, ?_⟩
  have hk := w_kept hr r false z' [] rfl
  have hs := w_sameints (begs_small (g := g) (r := r)) (begsM g r) (begsM g r).isEmpty (begsM g r).isEmpty [] []
  simp [-Bool.exists_bool, w_awake, hk, hs]
theorem law_tells (z : Bool) (g : List Sym) (z' : Bool) {r : List Int} (hr : Len r) : C 4 [iG z g [], iS z' r []] = some (iB true, [iG z g [], iS z' r []]) := by
  refine wfn (lk := []) rfl rfl (fnW_way (q4 _ _ z (syms g) [] z' (ints r) [] _) ?_)
  refine ⟨_, _, _, _, w_lend hr z' [], _, _, _, _, _, w_vars z false g [] _ r, _, _, _, _, _, w_rvars z z' g [] [] r, _, _, _, _, w_weight z false g [] _ r, _, _, _, _, w_rweight z z' g [] [] r, _, _, _, _, w_deep z false g [] _ r, _, _, _, _, w_rdeep z z' g [] [] r, ?_⟩
  have hk := w_kept hr r false z' [] rfl
  have hs := w_sameints (vars_small (r := r) (b := rowB g r)) (if rowB g r = true then varsM r else []) (if rowB g r = true then varsM r else []).isEmpty (if rowB g r = true then varsM r else []).isEmpty [] []
  generalize (if rowB g r = true then varsM r else []) = vs at hs
  simp [-Bool.exists_bool, w_awake, hk, hs]
theorem call_rows (y0 y1 y2 : D) (h0 : Go.Ab.Good Tryd.prog 12 22 y0) (h1 : Go.Ab.Good Tryd.prog 12 23 y1) (h2 : Go.Ab.Good Tryd.prog 12 3 y2) : ∃ outs, C 3 [.d y0, .d y1, .d y2] = some (iB true, outs) := by
  obtain ⟨z, g, rfl⟩ := good_sig h0
  obtain ⟨z', r, rfl, hr⟩ := good_ints h1
  obtain ⟨i, rfl, _⟩ := good_int h2
  exact ⟨_, law_rows z g z' hr i⟩
theorem call_tells (y0 y1 : D) (h0 : Go.Ab.Good Tryd.prog 12 22 y0) (h1 : Go.Ab.Good Tryd.prog 12 23 y1) : ∃ outs, C 4 [.d y0, .d y1] = some (iB true, outs) := by
  obtain ⟨z, g, rfl⟩ := good_sig h0
  obtain ⟨z', r, rfl, hr⟩ := good_ints h1
  exact ⟨_, law_tells z g z' hr⟩
end Go.Proofs.YtgjgdklnodeinaaDoor.Ab

/- A signature of words; rows one behind the other, a row without its last code. Plain lists, no program in sight; no condition. -/
set_option linter.unusedVariables false
set_option linter.unusedSimpArgs false
namespace Go.Qu
open Go Go.Ab
def wordsG : List Sym := [⟨⟨#[61]⟩, 0, 2, 1⟩, ⟨⟨#[97]⟩, 1, 0, 1⟩, ⟨⟨#[98]⟩, 1, 0, 2⟩, ⟨⟨#[102]⟩, 1, 1, 1⟩, ⟨⟨#[103]⟩, 1, 2, 3⟩, ⟨⟨#[112]⟩, 0, 1, 1⟩, ⟨⟨#[114]⟩, 0, 2, 2⟩]
theorem wordsB : sigB wordsG = true := by decide +kernel
theorem sumW_app {g : List Sym} : ∀ (a b : List Int), sumW g (a ++ b) = sumW g a + sumW g b
  | [], b => by simp [sumW]
  | c :: a, b => by rw [List.cons_append, sumW, sumW, sumW_app a b, Int.add_assoc]
theorem begs_app : ∀ (ts us : List (List Int)) (i : Nat), begs i (ts ++ us) = begs i ts ++ begs (i + ts.flatten.length) us
  | [], us, i => by simp [begs]
  | t :: ts, us, i => by
    rw [List.cons_append, begs, begs, begs_app ts us, List.cons_append]
    congr 3
    rw [List.flatten_cons, List.length_append]; omega
theorem begs_zero {ts : List (List Int)} (h : ts ≠ []) : (begs 0 ts)[0]? = some 0 := by
  cases ts with
  | nil => exact absurd rfl h
  | cons t ts => simp [begs]
/-- Of a row that isn't empty: its last term, where it begins. -/
theorem row_last {g : List Sym} {r : List Int} {ts : List (List Int)} (h : parts g r = some ts) (hr : r ≠ []) : ∃ us t, ts = us ++ [t] ∧ 1 ≤ t.length ∧ r.length = us.flatten.length + t.length ∧ (begs 0 ts)[us.length]? = some ((us.flatten.length : Nat) : Int) ∧ (begs 0 ts).length = us.length + 1 := by
  have hts : ts ≠ [] := by
    rintro rfl
    have := (parts_lens _ _ (Nat.le_refl _) h).2
    exact hr (by simpa using this.symm)
  have e := List.dropLast_concat_getLast hts
  refine ⟨ts.dropLast, ts.getLast hts, e.symm, ?_, ?_, ?_, ?_⟩
  · have := (parts_mem _ (Nat.le_refl _) h (ts.getLast hts) (List.getLast_mem hts)).1
    exact List.length_pos_iff.2 this
  · have h1 := (parts_lens _ _ (Nat.le_refl _) h).2
    rw [← e] at h1
    have := congrArg List.length h1
    simp at this ⊢; omega
  · rw [← e, begs_app, List.dropLast_concat, ← begs_len ts.dropLast 0, List.getElem?_append_right (Nat.le_refl _), Nat.sub_self]
    simp [begs]
  · rw [begs_len]; rw [← e]; simp
/-- A term in front of which its code stands. -/
theorem nest_lenN {a b : List Int} (ha : lenN wordsG a 1 = some a.length) (hb : lenN wordsG b 1 = some b.length) : lenN wordsG (4 :: (a ++ b)) 1 = some (a.length + b.length + 1) := by
  have h2 : arOf wordsG 4 = some 2 := rfl
  have h3 := lenN_split (g := wordsG) 1 (lenN_app b ha)
  rw [List.drop_left, hb] at h3
  rw [show (1 : Nat) = 0 + 1 from rfl, lenN_cons h2, show 0 + 2 = 1 + 1 from rfl, h3]; rfl
theorem rep_parts : ∀ (n : Nat), parts wordsG (List.replicate n 1) = some (List.replicate n [1])
  | 0 => parts_nil _
  | n + 1 => by
    have h1 : parts wordsG [1] = some [[1]] := parts_one (r := [1]) (k := 1) rfl
    have := parts_join h1 (rep_parts n)
    rw [List.replicate_succ, List.replicate_succ]; exact this
theorem rep_row (n : Nat) : rowB wordsG (List.replicate n 1) = decide (n ≤ 48) ∧ termsN wordsG (List.replicate n 1) = if n ≤ 48 then n else 0 := by
  by_cases h : n ≤ 48
  · rw [rowB_of wordsB (by simp; omega) (rep_parts n), termsN_of wordsB (by simp; omega) (rep_parts n)]
    simp [h]
  · have hb : rowB wordsG (List.replicate n 1) = false := by simp [rowB, rowP, h]
    rw [hb, termsN_no hb]; simp [h]
def isW (c : Int) : Bool := (decide (c ≤ -1) && decide (c ≥ -24)) || (c == 1 || c == 2)
theorem one_row (c : Int) : rowB wordsG [c] = isW c := by
  have hp : (parts wordsG [c]).isSome = (lenN wordsG [c] 1).isSome := by
    cases hl : lenN wordsG [c] 1 with
    | none => rw [parts_none (by simp) hl]; rfl
    | some k =>
      have hle := lenN_le hl
      simp at hle
      have hk : k = 1 := by omega
      subst hk
      rw [parts_some (by simp) hl, List.drop_succ_cons, List.drop_nil, parts_nil]; rfl
  have h1 : rowB wordsG [c] = (lenN wordsG [c] 1).isSome := by
    rw [rowB, wordsB, Bool.true_and, rowP, if_pos (by simp), hp]
  rw [h1]
  have h2 : ∀ a : Option Nat, arOf wordsG c = a → (lenN wordsG [c] 1).isSome = decide (a = some 0) := by
    intro a ha
    rw [show (1 : Nat) = 0 + 1 from rfl]
    unfold lenN
    rw [ha]
    cases a with
    | none => rfl
    | some k => cases k <;> simp [lenN]
  rw [h2 _ rfl]
  unfold arOf isW
  by_cases h0 : c < 0
  · rw [if_pos h0]
    have e1 : (c == 1) = false := by simp; omega
    have e2 : (c == 2) = false := by simp; omega
    have e3 : decide (c ≤ -1) = true := decide_eq_true (by omega)
    rw [e1, e2, e3]
    by_cases h24 : -24 ≤ c
    · simp [h24]
    · have : ¬ c ≥ -24 := h24
      simp [h24]
  · rw [if_neg h0]
    have e3 : decide (c ≤ -1) = false := decide_eq_false (by omega)
    rw [e3]
    by_cases h7 : c < 7
    · have : c = 0 ∨ c = 1 ∨ c = 2 ∨ c = 3 ∨ c = 4 ∨ c = 5 ∨ c = 6 := by omega
      rcases this with rfl | rfl | rfl | rfl | rfl | rfl | rfl <;> decide
    · have hn : wordsG[c.toNat]? = none := List.getElem?_eq_none (by show 7 ≤ _; omega)
      have e1 : (c == 1) = false := by simp; omega
      have e2 : (c == 2) = false := by simp; omega
      rw [hn, e1, e2]; simp
end Go.Qu

/- Chapter 2's laws TermJoins, TermNests, TermCut, TermForms: for every input the laws return true. No condition. -/
set_option linter.unusedVariables false
set_option linter.unusedSimpArgs false
set_option maxRecDepth 100000
namespace Go.Proofs.YtgjgdklnodeinaaDoor.Ab
open Go Go.Ab Go.Qu Go.Proofs
attribute [local simp] and_assoc
attribute [local simp] w_num
section
variable {g : List Sym} {r : List Int} (h : rowB g r = true) (z z' : Bool) (e e' : List D)
include h
theorem row_t : C 10 [iG z g e, iS z' r e'] = some (.tup [iI (termsN g r), iI 0], [iG z g e, iS z' r e']) := by have := w_row z z' g e e' r; rwa [h] at this
theorem weight_t : C 22 [iG z g e, iS z' r e'] = some (.tup [iI (sumW g r), iI 0], [iG z g e, iS z' r e']) := by have := w_weight z z' g e e' r; rwa [h] at this
theorem deep_t : C 24 [iG z g e, iS z' r e'] = some (.tup [iI (dep g r), iI 0], [iG z g e, iS z' r e']) := by have := w_deep z z' g e e' r; rwa [h] at this
theorem starts_t : C 12 [iG z g e, iS z' r e'] = some (.tup [.own (begsM g r).isEmpty 3 1 (ints (begsM g r)), iI 0], [iG z g e, iS z' r e']) := by have := w_starts z z' g e e' r; rwa [h] at this
end
theorem row_f {g : List Sym} {r : List Int} (h : rowB g r = false) (z z' : Bool) (e e' : List D) : C 10 [iG z g e, iS z' r e'] = some (.tup [iI 0, iI 200], [iG z g e, iS z' r e']) := by
  have := w_row z z' g e e' r
  rw [h, termsN_no h] at this
  exact this
theorem one_lenN' {g : List Sym} {t : List Int} (h : rowB g t = true) (h1 : termsN g t = 1) : lenN g t 1 = some t.length := by
  obtain ⟨hg, hr, ts, hts, _⟩ := rowB_parts h
  have h2 := termsN_of hg hr hts
  have h3 := parts_all _ (Nat.le_refl _) hts
  rwa [← h2, h1] at h3
theorem ne200 : ((200 : Int) != 0) = true := rfl
theorem ne0 : ((0 : Int) != 0) = false := rfl
theorem eq0 : ((0 : Int) == 0) = true := rfl
theorem eq200 : ((200 : Int) == 200) = true := rfl
theorem law_joins (z : Bool) (g : List Sym) (z' z'' : Bool) (a b : List Int) : C 5 [iG z g [], iS z' a [], iS z'' b []] = some (iB true, [iG z g [], iS z' a [], iS z'' b []]) := by
  refine wfn (lk := []) rfl rfl (fnW_way (q5 _ _ z (syms g) [] z' (ints a) [] z'' (ints b) [] _) ?_)
  refine ⟨_, w_awake, ?_⟩
  rw [condW_tt]
  refine ⟨_, _, _, _, w_row z z' g [] [] a, _, _, _, _, w_row z z'' g [] [] b, _, _, w_num _, ?_⟩
  cases ha : rowB g a
  · simp [-Bool.exists_bool]
  simp only [if_true]
  rw [ne0, condW_ff]
  refine ⟨_, _, w_num _, ?_⟩
  cases hb : rowB g b
  · simp [-Bool.exists_bool]
  simp only [if_true]
  rw [ne0, condW_ff, ints_len, ints_len]
  obtain ⟨hg, hla, ts, hts, _⟩ := rowB_parts ha
  obtain ⟨_, hlb, us, hus, _⟩ := rowB_parts hb
  have hw : IntKind.wrap .i64 ((a.length : Int) + (b.length : Int)) = ((a.length + b.length : Nat) : Int) := by rw [wr _ (by omega) (by omega)]; omega
  rw [hw, condW_d]
  by_cases h48 : a.length + b.length ≤ 48
  rotate_left
  · rw [if_pos (by omega)]; trivial
  rw [if_neg (by omega)]
  refine ⟨_, _, _, w_copyints (row_len ha) z' [], ?_⟩
  rw [ints_len, condW_d, if_pos (by omega), condW_d, if_pos (by omega), ← ints_append, Bool.false_and]
  have hj := parts_join hts hus
  have hc : rowB g (a ++ b) = true := rowB_of hg (by simp; omega) hj
  have e1 : (termsN g (a ++ b) : Int) = IntKind.wrap .i64 ((termsN g a : Int) + (termsN g b : Int)) := by
    have h1 := (parts_lens _ _ (Nat.le_refl _) hts).1
    have h2 := (parts_lens _ _ (Nat.le_refl _) hus).1
    rw [termsN_of hg (by simp; omega) hj, termsN_of hg hla hts, termsN_of hg hlb hus, wr _ (by omega) (by omega)]; simp
  have hgo := sigOk hg
  have w1 := sumW_le hgo a (row_known ha)
  have w2 := sumW_le hgo b (row_known hb)
  have e2 : sumW g (a ++ b) = IntKind.wrap .i64 (sumW g a + sumW g b) := by rw [sumW_app, wr _ (by omega) (by omega)]
  have e3 : (dep g (a ++ b) : Int) = if (dep g b : Int) > dep g a then (dep g b : Int) else dep g a := by
    rw [mxN_eq, dep_join hts]; rfl
  refine ⟨_, _, _, _, row_t hc z false [] [], _, _, _, _, weight_t ha z z' [] [], _, _, _, _, weight_t hb z z'' [] [], _, _, _, _, weight_t hc z false [] [], _, _, _, _, deep_t ha z z' [] [], _, _, _, _, deep_t hb z z'' [] [], _, _, _, _, deep_t hc z false [] [], ?_⟩
  rw [← e1, ← e2, ← e3]
  simp [-Bool.exists_bool]
theorem law_cut (z : Bool) (g : List Sym) (z' : Bool) {r : List Int} (hrl : Len r) : C 7 [iG z g [], iS z' r []] = some (iB true, [iG z g [], iS z' r []]) := by
  refine wfn (lk := []) rfl rfl (fnW_way (q7 _ _ z (syms g) [] z' (ints r) [] _) ?_)
  refine ⟨_, w_awake, ?_⟩
  rw [condW_tt]
  refine ⟨_, _, _, _, w_row z z' g [] [] r, _, _, w_num _, ?_⟩
  cases hr : rowB g r
  · simp [-Bool.exists_bool]
  simp only [if_true]
  rw [ne0, condW_ff, ints_len]
  obtain ⟨hg, hl, ts, hts, hp⟩ := rowB_parts hr
  by_cases h0 : r = []
  · subst h0; simp
  obtain ⟨us, t, rfl, ht, hlen, hlast, hbl⟩ := row_last hts h0
  have hb : begsM g r = begs 0 (us ++ [t]) := by simp [begsM, hg, hp]
  have hk : termsN g r = us.length + 1 := by rw [termsN_of hg hl hts]; simp
  have hul := (parts_lens _ _ (Nat.le_refl _) hts).1
  simp only [List.length_append, List.length_singleton] at hul
  have hz : (((r.length : Nat) : Int) == 0) = false := by simp; exact h0
  have hw : IntKind.wrap .i64 ((r.length : Int) - 1) = ((r.length - 1 : Nat) : Int) := by rw [wr _ (by omega) (by omega)]; omega
  have hwk : IntKind.wrap .i64 (((us.length + 1 : Nat) : Int) - 1) = (us.length : Int) := by rw [wr _ (by omega) (by omega)]; omega
  have htk : tkX (r.length - 1) (ints r) [] = ints r.dropLast := by rw [tkX_ints (by omega), List.dropLast_eq_take]
  have hcut := parts_cut _ (Nat.le_refl _) hts
  have hlast' : (ints (begs 0 (us ++ [t])))[us.length]? = some (.int .i64 ((us.flatten.length : Nat) : Int)) := by simp [ints, hlast]
  have hfirst : (ints (begs 0 (us ++ [t])))[0]? = some (.int .i64 0) := by simp [ints, begs_zero (ts := us ++ [t]) (by simp)]
  rw [hz, condW_ff]
  refine ⟨_, _, _, _, _, starts_t hr z z' [] [], ?_⟩
  rw [hw, condW_d, if_pos (by omega), condW_d, if_pos (by simp), Int.toNat_natCast, htk, hb, hk, ints_len, hbl, hwk, Int.toNat_natCast]
  have gk : (((us.length + 1 : Nat) : Int) != ((us.length + 1 : Nat) : Int)) = false := by simp
  obtain ⟨n, e0, hc, h1, h2⟩ : ∃ (n : Nat) (e0 : Int), C 10 [iG z g [], iS z' r.dropLast []] = some (.tup [iI n, iI e0], [iG z g [], iS z' r.dropLast []]) ∧ (t.length = 1 → n = us.length ∧ e0 = 0) ∧ (t.length ≠ 1 → n = 0 ∧ e0 = 200) := by
    by_cases hone : t.length = 1
    · rw [if_pos hone] at hcut
      have hrb : rowB g r.dropLast = true := rowB_of hg (by simp; omega) hcut
      have := row_t hrb z z' [] []
      rw [termsN_of hg (by simp; omega) hcut] at this
      exact ⟨us.length, 0, this, fun _ => ⟨rfl, rfl⟩, fun h => absurd hone h⟩
    · rw [if_neg hone] at hcut
      have hrb : rowB g r.dropLast = false := by simp [rowB, rowP, hcut]
      exact ⟨0, 200, row_f hrb z z' [] [], fun h => absurd h hone, fun _ => ⟨rfl, rfl⟩⟩
  refine ⟨_, _, _, _, hc, _, _, w_num _, ?_⟩
  rw [ne0, condW_ff, gk, condW_ff, condW_d, if_neg (by omega)]
  refine ⟨_, hfirst, _, hfirst, ?_⟩
  rw [ne0, condW_ff, condW_d, if_pos (by omega)]
  refine ⟨_, hlast', _, hlast', ?_⟩
  rw [condW_d, if_neg (by omega), condW_d, if_pos (by omega)]
  refine ⟨_, hlast', _, hlast', ?_⟩
  by_cases hone : t.length = 1
  · obtain ⟨rfl, rfl⟩ := h1 hone
    have e1 : (((us.flatten.length : Nat) : Int) == ((r.length - 1 : Nat) : Int)) = true := by simp only [beq_iff_eq]; omega
    rw [e1, condW_tt]
    refine ⟨_, _, w_num _, ?_⟩
    rw [eq0, condW_tt, beq_self_eq_true, condW_tt]; trivial
  · obtain ⟨rfl, rfl⟩ := h2 hone
    have e1 : (((us.flatten.length : Nat) : Int) == ((r.length - 1 : Nat) : Int)) = false := by simp only [beq_eq_false_iff_ne]; omega
    rw [e1, condW_ff]
    refine ⟨_, _, w_num _, ?_⟩
    rw [eq200, condW_tt, show (((0 : Nat) : Int) == 0) = true from rfl, condW_tt]; trivial
theorem w_words : C 27 [] = some (.own false 55 4 (syms wordsG), []) := wfn (lk := []) rfl rfl (fnW_way (q27 _ _ _) rfl)
theorem law_nests (z' z'' : Bool) (a b : List Int) : C 6 [iS z' a [], iS z'' b []] = some (iB true, [iS z' a [], iS z'' b []]) := by
  refine wfn (lk := []) rfl rfl (fnW_way (q6 _ _ z' (ints a) [] z'' (ints b) [] _) ?_)
  refine ⟨_, w_awake, ?_⟩
  rw [condW_tt]
  refine ⟨_, _, w_words, _, _, _, _, w_row false z' wordsG [] [] a, _, _, w_words, _, _, _, _, w_row false z'' wordsG [] [] b, _, _, w_num _, ?_⟩
  cases ha : rowB wordsG a
  · simp [-Bool.exists_bool]
  simp only [if_true]
  rw [ne0, condW_ff]
  refine ⟨_, _, w_num _, ?_⟩
  cases hb : rowB wordsG b
  · simp [-Bool.exists_bool]
  simp only [if_true]
  rw [ne0, condW_ff]
  obtain ⟨hg, hla, ts, hts, _⟩ := rowB_parts ha
  obtain ⟨_, hlb, us, hus, _⟩ := rowB_parts hb
  by_cases k1 : termsN wordsG a = 1
  rotate_left
  · have : ((termsN wordsG a : Int) != 1) = true := by simp; omega
    rw [this, condW_tt]; trivial
  by_cases k2 : termsN wordsG b = 1
  rotate_left
  · have : ((termsN wordsG b : Int) != 1) = true := by simp; omega
    rw [this, condW_tt]; cases ((termsN wordsG a : Int) != 1) <;> trivial
  rw [k1, k2, show (((1 : Nat) : Int) != 1) = false from rfl, condW_ff, condW_ff, ints_len, ints_len]
  have hw : IntKind.wrap .i64 ((a.length : Int) + (b.length : Int)) = ((a.length + b.length : Nat) : Int) := by rw [wr _ (by omega) (by omega)]; omega
  rw [hw, condW_d]
  by_cases h48 : a.length + b.length < 48
  rotate_left
  · rw [if_pos (by omega)]; trivial
  rw [if_neg (by omega)]
  have hc4 := w_copyints (a := [4]) (by unfold Len; simp) false []
  refine ⟨_, _, _, hc4, ?_⟩
  have hlen2 : (ints [4] ++ ints a).length = a.length + 1 := by simp [ints]
  rw [hlen2, condW_d, if_pos (by simp [ints]; omega), condW_d, if_pos (by simp [ints]; omega), condW_d, if_pos (by omega), condW_d, if_pos (by omega)]
  have hcons : ints [4] ++ ints a ++ ints b = ints (4 :: (a ++ b)) := by rw [← ints_append, ← ints_append]; rfl
  rw [hcons, Bool.false_and, Bool.false_and]
  have la : lenN wordsG a 1 = some a.length := (one_lenN' ha k1)
  have lb : lenN wordsG b 1 = some b.length := (one_lenN' hb k2)
  have lc := nest_lenN la lb
  have hcl : (4 :: (a ++ b)).length = a.length + b.length + 1 := by simp
  have hpc := parts_one lc
  rw [List.take_of_length_le (by omega)] at hpc
  have hc : rowB wordsG (4 :: (a ++ b)) = true := rowB_of hg (by omega) hpc
  have hpa := lenN_le la
  have hgo := sigOk hg
  have w1 := sumW_le hgo a (row_known ha)
  have w2 := sumW_le hgo b (row_known hb)
  have hse : sumW wordsG (4 :: (a ++ b)) = IntKind.wrap .i64 (IntKind.wrap .i64 (3 + sumW wordsG a) + sumW wordsG b) := by
    rw [sumW, sumW_app, wr (3 + _) (by omega) (by omega), wr _ (by omega) (by omega), show codeW wordsG 4 = 3 from rfl, Int.add_assoc]
  have hda := dep_le (g := wordsG) _ a (Nat.le_refl _)
  have hdb := dep_le (g := wordsG) _ b (Nat.le_refl _)
  have hde : (dep wordsG (4 :: (a ++ b)) : Int) = IntKind.wrap .i64 (1 + if (dep wordsG b : Int) > dep wordsG a then (dep wordsG b : Int) else dep wordsG a) := by
    rw [mxN_eq, wr _ (by simp [mxN]; omega) (by simp [mxN]; omega), dep_some lc, List.take_of_length_le (by omega), List.tail_cons, List.drop_of_length_le (by omega), dep_nil, dep_join hts]
    simp [mxN]
  have hend := w_end false false wordsG [] [] (4 :: (a ++ b)) 1
  have hend0 := w_end false false wordsG [] [] (4 :: (a ++ b)) 0
  have b1 : endB wordsG (4 :: (a ++ b)) 1 = true := by
    unfold endB
    rw [hc, Bool.true_and, Bool.and_eq_true]
    exact ⟨by decide, decide_eq_true (by rw [hcl]; omega)⟩
  have b0 : endB wordsG (4 :: (a ++ b)) 0 = true := by
    unfold endB
    rw [hc, Bool.true_and, Bool.and_eq_true]
    exact ⟨by decide, decide_eq_true (by rw [hcl]; omega)⟩
  have v1 : endV wordsG (4 :: (a ++ b)) 1 = IntKind.wrap .i64 (1 + (a.length : Int)) := by
    rw [wr _ (by omega) (by omega), endV, if_pos b1, skV, show (Int.toNat 1) = 1 from rfl, List.drop_succ_cons, List.drop_zero, lenN_app b la]
    dsimp only; omega
  have v0 : endV wordsG (4 :: (a ++ b)) 0 = ((4 :: (a ++ b)).length : Int) := by
    rw [endV, if_pos b0, skV, show (Int.toNat 0) = 0 from rfl, List.drop_zero, lc, hcl]
    dsimp only; omega
  rw [b1, v1, if_pos rfl] at hend
  rw [b0, v0, if_pos rfl] at hend0
  refine ⟨_, _, w_words, _, _, _, _, deep_t ha false z' [] [], _, _, w_words, _, _, _, _, deep_t hb false z'' [] [], _, _, w_words, _, _, _, _, deep_t hc false false [] [], _, _, w_words, _, _, _, _, _, hend, _, _, w_words, _, _, _, _, _, hend0, _, _, w_words, _, _, _, _, weight_t hc false false [] [], _, _, w_words, _, _, _, _, weight_t ha false z' [] [], _, _, w_words, _, _, _, _, weight_t hb false z'' [] [], ?_⟩
  rw [← hde, ← hse, ints_len]
  iterate 8
    refine ⟨_, _, w_num _, ?_⟩
    rw [eq0, condW_tt]
  rw [beq_self_eq_true, condW_tt, beq_self_eq_true, condW_tt, beq_self_eq_true, condW_tt, beq_self_eq_true, condW_tt]; trivial
theorem l_forms (e0 : Int) (b : Bool) (n : Nat) (hn : n ≤ 1000) : evP F (Go.Ab.W F) (JW F d8 []) d8 [] [1,1,1,1,1,0,1] [(6, iI e0), (7, iB b), (8, .own false 3 1 (List.replicate n (D.int .i64 0))), (9, iI 0)] = some (.norm [(6, iI e0), (7, iB b), (8, .own false 3 1 (ints (List.replicate n 1))), (9, iI n)]) := by
  have h1 := fun x hx => blk_fun (F := F) (d := d8) (lk := []) (p := [1,1,1,1,1,0,1,0,0]) (p0 := [1,1,1,1,1,0,1]) (id := 0) (by kernel_rfl) (st := fun (i : Nat) => [(6, iI e0), (7, iB b), (8, .own false 3 1 (List.replicate i (D.int .i64 1) ++ List.replicate (n - i) (D.int .i64 0))), (9, iI i)]) (I := fun i => i ≤ n) (μ := fun i => n - i)
    (res := fun _ => .norm [(6, iI e0), (7, iB b), (8, .own false 3 1 (ints (List.replicate n 1))), (9, iI n)])
    (fun i hi => by
      have hlen : (List.replicate i (D.int .i64 1) ++ List.replicate (n - i) (D.int .i64 0)).length = n := by simp; omega
      by_cases h : i < n
      · have hat : (List.replicate i (D.int .i64 1) ++ List.replicate (n - i) (D.int .i64 0))[i]? = some (.int .i64 0) := by
          rw [List.getElem?_append_right (by simp), List.length_replicate, Nat.sub_self, show n - i = (n - i - 1) + 1 by omega, List.replicate_succ]; rfl
        have hset : (List.replicate i (D.int .i64 1) ++ List.replicate (n - i) (D.int .i64 0)).set i (.int .i64 1) = List.replicate (i + 1) (D.int .i64 1) ++ List.replicate (n - (i + 1)) (D.int .i64 0) := by
          rw [List.set_append_right _ _ (by simp), List.length_replicate, Nat.sub_self, show n - i = (n - (i + 1)) + 1 by omega, List.replicate_succ, List.set_cons_zero, List.replicate_succ', List.append_assoc]; rfl
        refine .go (i + 1) (wpQ_way (q8_l0a _ _ e0 b false _ i _) ?_) (by omega) (by omega) rfl
        rw [hlen, condW_d, if_pos (by omega), condW_d, if_pos (by omega), Int.toNat_natCast]
        refine ⟨_, hat, _, hat, ?_⟩
        rw [hset, wr1 h (by omega)]
      · have e1 : i = n := by omega
        subst e1
        refine .stop (.exit 0 [(6, iI e0), (7, iB b), (8, .own false 3 1 (List.replicate i (D.int .i64 1) ++ List.replicate (i - i) (D.int .i64 0))), (9, iI i)]) (wpQ_way (q8_l0a _ _ e0 b false _ i _) ?_) rfl ?_
        · rw [hlen, condW_d, if_neg (by omega)]
        · simp [blkO, ints]) x hx
  have h2 := h1 0 (Nat.zero_le _)
  rw [Nat.sub_zero, List.replicate_zero, List.nil_append] at h2
  exact h2
theorem forms_n (k : Int) : ∃ n : Nat, IntKind.wrap .i64 (40 + IntKind.wrap .i64 (Int.tmod (IntKind.wrap .u64 k) 20)) = (n : Int) ∧ 40 ≤ n ∧ n < 60 := by
  have h0 : 0 ≤ IntKind.wrap .u64 k := by rw [IntKind.wrap_u64]; exact Int.emod_nonneg _ (by decide)
  generalize IntKind.wrap .u64 k = y at h0
  rw [Int.tmod_eq_emod_of_nonneg h0]
  have h1 := Int.emod_nonneg y (show (20 : Int) ≠ 0 by decide)
  have h2 := Int.emod_lt_of_pos y (show (0 : Int) < 20 by decide)
  rw [wr (y % 20) (by omega) (by omega), wr (40 + y % 20) (by omega) (by omega)]
  exact ⟨(40 + y % 20).toNat, by omega, by omega, by omega⟩
theorem law_forms (c k : Int) : C 8 [iI c, iI k] = some (iB true, [iI c, iI k]) := by
  refine wfn (lk := []) rfl rfl (fnW_way (q8 _ _ c k _) ?_)
  obtain ⟨n, hn, n1, n2⟩ := forms_n k
  have hrow : C 10 [iG false wordsG [], iS false [c] []] = _ := w_row false false wordsG [] [] [c]
  rw [one_row] at hrow
  have hrep := w_row false false wordsG [] [] (List.replicate n 1)
  rw [(rep_row n).1, (rep_row n).2] at hrep
  have hl := fun e0 b => l_forms e0 b n (by omega)
  have hlen : (ints (List.replicate n 1)).length = n := by simp [ints]
  refine ⟨_, w_awake, ?_⟩
  rw [condW_tt]
  refine ⟨_, _, w_words, _, _, _, _, hrow, ?_⟩
  simp only [hn]
  rw [Int.toNat_natCast]
  have g1 : (n : Int) = (n : Int) := rfl
  have g2 : (0 : Int) ≤ (n : Int) := by omega
  have g3 : (8 : Int) * (n : Int) ≤ 281474976710656 := by omega
  have g4 : (n : Int) ≤ 9223372036854775807 := by omega
  have g5 : ¬ (n : Int) > 48 ↔ n ≤ 48 := by omega
  by_cases c1 : c ≤ -1 <;> by_cases c2 : c ≥ -24 <;> by_cases c3 : c = 1 <;> by_cases c4 : c = 2 <;> by_cases c5 : n ≤ 48 <;> first
    | (exfalso; omega)
    | (have c6 : ¬ (n : Int) > 48 := by omega
       have hw : isW c = true := by simp [isW, c1, c2, c3, c4]
       simp [-Bool.exists_bool, c1, c2, c3, c4, g2, g3, g4, hl, w_words, hrep, hlen, c5, c6, hw, show isW 1 = true from rfl, show isW 2 = true from rfl])
    | (have c6 : (n : Int) > 48 := by omega
       have hw : isW c = true := by simp [isW, c1, c2, c3, c4]
       simp [-Bool.exists_bool, c1, c2, c3, c4, g2, g3, g4, hl, w_words, hrep, hlen, c5, c6, hw, show isW 1 = true from rfl, show isW 2 = true from rfl])
    | (have c6 : ¬ (n : Int) > 48 := by omega
       have hw : isW c = false := by simp [isW, c1, c2, c3, c4]
       simp [-Bool.exists_bool, c1, c2, c3, c4, g2, g3, g4, hl, w_words, hrep, hlen, c5, c6, hw, show isW 1 = true from rfl, show isW 2 = true from rfl])
    | (have c6 : (n : Int) > 48 := by omega
       have hw : isW c = false := by simp [isW, c1, c2, c3, c4]
       simp [-Bool.exists_bool, c1, c2, c3, c4, g2, g3, g4, hl, w_words, hrep, hlen, c5, c6, hw, show isW 1 = true from rfl, show isW 2 = true from rfl])
theorem call_joins (y0 y1 y2 : D) (h0 : Go.Ab.Good Tryd.prog 12 22 y0) (h1 : Go.Ab.Good Tryd.prog 12 23 y1) (h2 : Go.Ab.Good Tryd.prog 12 23 y2) : ∃ outs, C 5 [.d y0, .d y1, .d y2] = some (iB true, outs) := by
  obtain ⟨z, g, rfl⟩ := good_sig h0
  obtain ⟨z', a, rfl, ha⟩ := good_ints h1
  obtain ⟨z'', b, rfl, hb⟩ := good_ints h2
  exact ⟨_, law_joins z g z' z'' a b⟩
theorem call_nests (y0 y1 : D) (h0 : Go.Ab.Good Tryd.prog 12 23 y0) (h1 : Go.Ab.Good Tryd.prog 12 23 y1) : ∃ outs, C 6 [.d y0, .d y1] = some (iB true, outs) := by
  obtain ⟨z', a, rfl, ha⟩ := good_ints h0
  obtain ⟨z'', b, rfl, hb⟩ := good_ints h1
  exact ⟨_, law_nests z' z'' a b⟩
theorem call_cut (y0 y1 : D) (h0 : Go.Ab.Good Tryd.prog 12 22 y0) (h1 : Go.Ab.Good Tryd.prog 12 23 y1) : ∃ outs, C 7 [.d y0, .d y1] = some (iB true, outs) := by
  obtain ⟨z, g, rfl⟩ := good_sig h0
  obtain ⟨z', a, rfl, ha⟩ := good_ints h1
  exact ⟨_, law_cut z g z' ha⟩
theorem call_forms (y0 y1 : D) (h0 : Go.Ab.Good Tryd.prog 12 3 y0) (h1 : Go.Ab.Good Tryd.prog 12 3 y1) : ∃ outs, C 8 [.d y0, .d y1] = some (iB true, outs) := by
  obtain ⟨c, rfl, _⟩ := good_int h0
  obtain ⟨k, rfl, _⟩ := good_int h1
  exact ⟨_, law_forms c k⟩
end Go.Proofs.YtgjgdklnodeinaaDoor.Ab
