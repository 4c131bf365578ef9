/- What the rows of this seat share: the variable that is laid, the world in which it is so. No condition. -/
import Derived.Below
import Derived.ChangeOld
import Derived.LaidMore
import Derived.Lib.SmallJoins
import Derived.OpenShut
import Derived.ProofKit
import Derived.SevenTiedAt
import Derived.ShutString
import Derived.SizedLaws
import Derived.Stop.Joined
import Derived.Test.YtcmpbennibojeaaDoorCards
import Derived.Test.YtcmpbennibojeaaDoorRows
import Derived.Test.YtcmpbennibojeaaDoorTie
import Derived.WalkKit
import Derived.Test.YtcmpbennibojeaaDoorBindLongs0
import Derived.Test.YtcmpbennibojeaaDoorBindLongs1
import Derived.Test.YtcmpbennibojeaaDoorBindLongs2
import Derived.Test.YtcmpbennibojeaaDoorBindLongs3
import Derived.Test.YtcmpbennibojeaaDoorBindLongs4
import Derived.Test.YtcmpbennibojeaaDoorBindLongs5
import Derived.Test.YtcmpbennibojeaaDoorBindLongs6
import Derived.Test.YtcmpbennibojeaaDoorBindLongs7
import Derived.Test.YtcmpbennibojeaaDoorBindLongs8
import Derived.Test.YtcmpbennibojeaaDoorBindLongs9
import Derived.Test.YtcmpbennibojeaaDoorBindLongs10
import Derived.Test.YtcmpbennibojeaaDoorBindLongs11
import Derived.Test.YtcmpbennibojeaaDoorBindLongs12
import Derived.Test.YtcmpbennibojeaaDoorBindLongs13
import Derived.Test.YtcmpbennibojeaaDoorBindLongs14
namespace Go.Proofs.YtcmpbennibojeaaDoor.Ab
open Go Go.Ab Go.Qu Go.Proofs Go.ChangeShapes Go.WideShapes Go.ChangeAt Go.RowKit Go.Joins
set_option linter.unusedVariables false
set_option maxRecDepth 100000
theorem own : ownKnob Tryd.prog.godebug = none := by kernel_rfl
theorem laidOut : laidOutB Tryd.prog = true := by kernel_rfl
abbrev laid1 : List (String × DataW Unit) := [("quaere/sign.equals", Rows.laid_quaere_sign_equals)]
theorem gEq : Tryd.prog.globalNamed "quaere/sign.equals" = some 0 := by kernel_rfl
theorem tEq : (Tryd.prog.globals[0]?).map (·.type) = some 53 := by kernel_rfl
theorem door_met (os : Os) (args : Array Value) : laidMetH Tryd.prog laid1 ((World.doorLaid Tryd.prog 400 os).forCall (fun _ _ => 0) ⟨#[], args, []⟩).memory :=
  laidMetH_of_parts3 (fuel := 8) (laidMet_of_run' 8 (by kernel_rfl) (by kernel_rfl)) (by kernel_rfl) (by kernel_rfl)
theorem globs {W : World} (h : laidMetH Tryd.prog laid1 W) : GlobOk (Hw W) F.G := by
  rw [MakeChecks.laidMetH_plain _ _ _ (by kernel_rfl)] at h
  obtain ⟨ps, ⟨g0, t0, cs0, f0, p0, q0, hg0, ht0, hv0, hd0, _, _⟩, _, _⟩ := h
  obtain rfl := Option.some.inj (gEq.symm.trans hg0)
  obtain rfl := Option.some.inj (tEq.symm.trans ht0)
  obtain ⟨xs, n, _, hx, hlen, hxl, hf⟩ := DataW.trod_struct Tryd.underlying53 hd0
  have c1 : Tryd.prog.cellsOf 53 = 4 := by kernel_rfl
  have cs : Tryd.prog.cellsOf 9 = 1 := by kernel_rfl
  have ci : Tryd.prog.cellsOf 3 = 1 := by kernel_rfl
  rw [c1] at hlen
  have hx1 : xs.map (·.1) = [.lit (.string [61]), .lit (.int .i64 0), .lit (.int .i64 2), .lit (.int .i64 1)] := by
    simp only [Prod.mk.injEq] at hx
    have h9 := hx.1
    unfold Rows.laid_quaere_sign_equals at h9
    simp only [DataW.agg.injEq] at h9
    exact h9.symm
  have hcs : ∃ a b c d, cs0.toList = [a, b, c, d] := by
    match h : cs0.toList, hlen with
    | [a, b, c, d], _ => exact ⟨a, b, c, d, rfl⟩
  obtain ⟨a, b, c, d, hcs⟩ := hcs
  have hxs : ∃ x0 x1 x2 x3, xs = [x0, x1, x2, x3] := by
    match xs, hxl with
    | [x0, x1, x2, x3], _ => exact ⟨x0, x1, x2, x3, rfl⟩
  obtain ⟨x0, x1, x2, x3, rfl⟩ := hxs
  simp only [List.map_cons, List.map_nil, List.cons.injEq, and_true] at hx1
  obtain ⟨e0, e1, e2, e3⟩ := hx1
  have h0 : DataW.trod (fun _ => ()) Tryd.prog W 0 (fun _ => true) false n 9 ((cs0.toList.drop 0).take (Tryd.prog.cellsOf 9)) = some x0 := hf 0 _ rfl
  have h1 : DataW.trod (fun _ => ()) Tryd.prog W 0 (fun _ => true) false n 3 ((cs0.toList.drop 1).take (Tryd.prog.cellsOf 3)) = some x1 := hf 1 _ rfl
  have h2 : DataW.trod (fun _ => ()) Tryd.prog W 0 (fun _ => true) false n 3 ((cs0.toList.drop 2).take (Tryd.prog.cellsOf 3)) = some x2 := hf 2 _ rfl
  have h3 : DataW.trod (fun _ => ()) Tryd.prog W 0 (fun _ => true) false n 3 ((cs0.toList.drop 3).take (Tryd.prog.cellsOf 3)) = some x3 := hf 3 _ rfl
  rw [hcs, cs] at h0
  rw [hcs, ci] at h1 h2 h3
  obtain ⟨s, ha, hs, _⟩ := DataW.trod_string Tryd.underlying9 h0
  obtain ⟨n1, hb, hn1, _⟩ := DataW.trod_int Tryd.underlying3 h1
  obtain ⟨n2, hc, hn2, _⟩ := DataW.trod_int Tryd.underlying3 h2
  obtain ⟨n3, hd, hn3, _⟩ := DataW.trod_int Tryd.underlying3 h3
  simp at ha hb hc hd
  rw [hs] at e0; rw [hn1] at e1; rw [hn2] at e2; rw [hn3] at e3
  simp at e0 e1 e2 e3
  subst ha hb hc hd e1 e2 e3
  have hse : s = "=".toUTF8 := by
    have h5 : "=".toUTF8.data.toList = [61] := by decide +kernel
    have h6 : s.data = "=".toUTF8.data := Array.toList_inj.1 (e0.trans h5.symm)
    exact (show ∀ (x y : ByteArray), x.data = y.data → x = y by intro ⟨_⟩ ⟨_⟩ h; exact congrArg _ h) _ _ h6
  subst hse
  have hcell : ∀ (j : Nat) u, [Value.string "=".toUTF8, .int .i64 0, .int .i64 2, .int .i64 1][j]? = some u → W.cell? ⟨0, j, none⟩ = some u := fun j u hj => by
    have h7 := World.var?_cell hg0 hv0 j
    have h8 : cs0[j]? = some u := by rw [← Array.getElem?_toList, hcs]; exact hj
    rw [h8] at h7
    simpa using h7
  intro g cs hg
  simp only [F, List.map_cons, List.map_nil, assoc] at hg
  split at hg
  · rename_i hg0
    subst hg0
    simp only [Option.some.injEq] at hg
    subst hg
    refine ⟨[.string "=".toUTF8, .int .i64 0, .int .i64 2, .int .i64 1], ?_, fun j u hj => ?_, by simp [D.isAgg]⟩
    · unfold D.RepL; refine ⟨[_], _, rfl, by unfold D.Rep; rfl, ?_⟩
      unfold D.RepL; refine ⟨[_], _, rfl, by unfold D.Rep; rfl, ?_⟩
      unfold D.RepL; refine ⟨[_], _, rfl, by unfold D.Rep; rfl, ?_⟩
      unfold D.RepL; refine ⟨[_], [], rfl, by unfold D.Rep; rfl, ?_⟩
      unfold D.RepL; rfl
    · refine Hw.cell ?_
      have h9 := hcell j u hj
      unfold Addr.add
      split
      · rename_i hj0; subst hj0; exact h9
      · simpa using h9
  · simp at hg
theorem fxOk : FxOk Tryd.prog F where
  orders := by kernel_rfl
  tab := tab_ok
  code := code_ok.get
  prim := fun f p args r outs h => by cases h
  ins := insAll
/-! ### Arguments -/
theorem good_sym {n : Nat} {x : D} (h : Go.Ab.Good Tryd.prog (n + 2) 53 x) : ∃ s : Sym, x = s.d := by
  unfold Go.Ab.Good at h
  rw [Tryd.underlying53] at h
  obtain ⟨ys, rfl, y0, r0, rfl, h0, y1, r1, rfl, h1, y2, r2, rfl, h2, y3, r3, rfl, h3, rfl⟩ := h
  unfold Go.Ab.Good at h0 h1 h2 h3
  simp only [Tryd.underlying9, Tryd.underlying3] at h0 h1 h2 h3
  obtain ⟨s, rfl, _⟩ := h0
  obtain ⟨a, rfl, _⟩ := h1
  obtain ⟨b, rfl, _⟩ := h2
  obtain ⟨c, rfl, _⟩ := h3
  exact ⟨⟨s, a, b, c⟩, rfl⟩
theorem good_sig {n : Nat} {x : D} (h : Go.Ab.Good Tryd.prog (n + 3) 22 x) : ∃ z g, x = .sl 4 z (syms g) [] := by
  unfold Go.Ab.Good at h
  rw [Tryd.underlying22] at h
  obtain ⟨z, xs, rfl, _, h2, _⟩ := h
  have hc : Tryd.prog.cellsOf 53 = 4 := by kernel_rfl
  rw [hc]
  obtain ⟨g, rfl, _⟩ := all_map (f := Sym.d) (Q := fun _ => True) (fun y hy => by obtain ⟨s, hs⟩ := good_sym (h2 y hy); exact ⟨s, hs, trivial⟩)
  exact ⟨z, g, rfl⟩
theorem good_int {n : Nat} {x : D} (h : Go.Ab.Good Tryd.prog (n + 1) 3 x) : ∃ a : Int, x = .int .i64 a ∧ -9223372036854775808 ≤ a ∧ a ≤ 9223372036854775807 := by
  unfold Go.Ab.Good at h
  rw [Tryd.underlying3] at h
  obtain ⟨a, rfl, hw⟩ := h
  refine ⟨a, rfl, ?_⟩
  simp [Lit.wf, IntKind.min, IntKind.max, IntKind.bits, IntKind.signed] at hw
  omega
theorem good_ints {n : Nat} {x : D} (h : Go.Ab.Good Tryd.prog (n + 2) 24 x) : ∃ z l, x = .sl 1 z (ints l) [] ∧ Len l := by
  unfold Go.Ab.Good at h
  rw [Tryd.underlying24] at h
  obtain ⟨z, xs, rfl, h1, h2, _⟩ := h
  have hc : Tryd.prog.cellsOf 3 = 1 := by kernel_rfl
  have hb : Tryd.prog.bytesOf 3 = 8 := by kernel_rfl
  rw [hb] at h1
  rw [hc]
  obtain ⟨l, rfl, _⟩ := all_map (f := D.int .i64) (Q := fun _ => True) (fun y hy => by obtain ⟨a, ha, _⟩ := good_int (h2 y hy); exact ⟨a, ha, trivial⟩)
  rw [List.length_map] at h1
  exact ⟨z, l, rfl, by unfold Len; simpa [reachBytes] using h1⟩
end Go.Proofs.YtcmpbennibojeaaDoor.Ab

/- Chapter 3's laws BindBoth, BindJoins, BindBack, BindNone, BindLongs: for every input the laws return true. No condition. -/
set_option linter.unusedVariables false
set_option linter.unusedSimpArgs false
set_option maxRecDepth 100000
namespace Go.Proofs.YtcmpbennibojeaaDoor.Ab
open Go Go.Ab Go.Qu Go.Proofs
attribute [local simp] and_assoc
theorem w_awake : C 8 [] = some (iB true, []) := W_ev (n := 60) (by kernel_rfl)
theorem w_words : C 16 [] = some (.own false 53 4 (syms wordsG), []) := wfn (lk := []) rfl rfl (fnW_way (q16 _ _ _) rfl)
theorem eq0 : ((0 : Int) == 0) = true := rfl
theorem ne0 : ((0 : Int) != 0) = false := rfl
theorem nez {x : Int} (h : x ≠ 0) : (x != 0) = true := by simp [h]
/-! ### Arguments -/
theorem good_row {n : Nat} {x : D} (h : Go.Ab.Good Tryd.prog (n + 2) 24 x) : ∃ z l, x = .sl 1 z (ints l) [] ∧ Len l ∧ (z = true → l = []) := by
  unfold Go.Ab.Good at h
  rw [Tryd.underlying24] at h
  obtain ⟨z, xs, rfl, h1, h2, h3⟩ := h
  have hc : Tryd.prog.cellsOf 3 = 1 := by kernel_rfl
  have hb : Tryd.prog.bytesOf 3 = 8 := by kernel_rfl
  rw [hb] at h1
  rw [hc]
  obtain ⟨l, rfl, _⟩ := all_map (f := D.int .i64) (Q := fun _ => True) (fun y hy => by obtain ⟨a, ha, _⟩ := good_int (h2 y hy); exact ⟨a, ha, trivial⟩)
  rw [List.length_map] at h1
  exact ⟨z, l, rfl, by unfold Len; simpa [reachBytes] using h1, fun hz => by simpa using h3 hz⟩
theorem good_bind {n : Nat} {x : D} (h : Go.Ab.Good Tryd.prog (n + 3) 41 x) : ∃ b : Bd, x = b.d ∧ (b.r.z = true → b.r.l = []) := by
  unfold Go.Ab.Good at h
  rw [Tryd.underlying41] at h
  obtain ⟨ys, rfl, y0, r0, rfl, h0, y1, r1, rfl, h1, rfl⟩ := h
  obtain ⟨a, rfl, _⟩ := good_int h0
  obtain ⟨z, l, rfl, _, hz⟩ := good_row h1
  exact ⟨⟨a, ⟨z, l, []⟩⟩, rfl, hz⟩
theorem good_binds {n : Nat} {x : D} (h : Go.Ab.Good Tryd.prog (n + 4) 23 x) : ∃ z s, x = .sl 2 z (bds s) [] ∧ LenB s ∧ NilOk s := by
  unfold Go.Ab.Good at h
  rw [Tryd.underlying23] at h
  obtain ⟨z, xs, rfl, h1, h2, h3⟩ := h
  have hc : Tryd.prog.cellsOf 41 = 2 := by kernel_rfl
  have hb : Tryd.prog.bytesOf 41 = 32 := by kernel_rfl
  rw [hb] at h1
  rw [hc]
  obtain ⟨s, rfl, h4⟩ := all_map (f := Bd.d) (Q := fun b => b.r.z = true → b.r.l = []) (fun y hy => good_bind (h2 y hy))
  rw [List.length_map] at h1
  exact ⟨z, s, rfl, by unfold LenB; simp [reachBytes] at h1; omega, h4⟩
/-! ### The laws -/
theorem appE_cases (g : List Sym) (s : List Bd) (r : List Int) : appE g s r = 0 ∧ bindB g s = true ∧ rowB g r = true ∧ (onB s r).length ≤ 48 ∧ appV g s r = onB s r ∨ appE g s r ≠ 0 ∧ appV g s r = [] := by
  unfold appV appE
  cases hs : bindB g s <;> cases hr : rowB g r <;> simp
  by_cases h : 48 < (onB s r).length
  · simp [h]; omega
  · simp [h]; omega
theorem law_both (z : Bool) (g : List Sym) (z1 z2 z3 : Bool) {s u : List Bd} (hs : LenB s) (hn : NilOk s) (hu : LenB u) (hm : NilOk u) (r : List Int) : C 3 [iG z g [], iBd z1 s [], iBd z2 u [], iS z3 r []] = some (iB true, [iG z g [], iBd z1 s [], iBd z2 u [], iS z3 r []]) := by
  refine wfn (lk := []) rfl rfl (fnW_way (q3 _ _ z (syms g) [] z1 (bds s) [] z2 (bds u) [] z3 (ints r) [] _) ?_)
  refine ⟨_, w_awake, ?_⟩
  rw [condW_tt]
  have hth := w_then (g := g) hn hs hm hu z z1 z2 [] [] []
  obtain ⟨fl, t, E, hte, hE⟩ : ∃ (fl : Bool) (t : List Bd) (E : Int), C 9 [iG z g [], iBd z1 s [], iBd z2 u []] = some (.tup [.own fl 41 2 (bds t), iI E], [iG z g [], iBd z1 s [], iBd z2 u []]) ∧ (E = 0 → bindB g s = true ∧ bindB g u = true ∧ thenM s u = some t) := by
    cases h1 : bindB g s
    · rw [h1] at hth
      exact ⟨_, [], 300, hth, fun h => by cases h⟩
    · cases h2 : bindB g u
      · rw [h1, h2] at hth
        exact ⟨_, [], 300, hth, fun h => by cases h⟩
      · rw [h1, h2] at hth
        cases h3 : thenM s u with
        | none => rw [h3] at hth; exact ⟨_, [], 301, hth, fun h => by cases h⟩
        | some t => rw [h3] at hth; exact ⟨_, t, 0, hth, fun _ => ⟨rfl, rfl, rfl⟩⟩
  refine ⟨_, _, _, _, _, _, hte, _, _, _, _, _, _, w_apply hn hs z z1 z3 g [] [] [] r, _, _, _, _, _, _, w_apply hm hu z z2 (appV g s r).isEmpty g [] [] [] (appV g s r), _, _, w_num _, ?_⟩
  by_cases e0 : E = 0
  rotate_left
  · rw [nez e0, condW_tt]
  rw [e0, ne0, condW_ff]
  refine ⟨_, _, w_num _, ?_⟩
  rcases appE_cases g s r with ⟨a1, a2, a3, a4, a5⟩ | ⟨a1, _⟩
  rotate_left
  · rw [nez a1, condW_tt]
  rw [a1, ne0, condW_ff]
  refine ⟨_, _, w_num _, ?_⟩
  rcases appE_cases g u (appV g s r) with ⟨b1, b2, b3, b4, b5⟩ | ⟨b1, _⟩
  rotate_left
  · rw [nez b1, condW_tt]
  rw [b1, ne0, condW_ff]
  obtain ⟨_, _, ht⟩ := hE e0
  obtain ⟨hmay, htn⟩ := then_may a2 hn b2 hm ht
  have htl : LenB t := by
    have h : ∀ (k v : Nat) (l : List Bd), thenF s u k v = some l → l.length ≤ k := by
      intro k
      induction k with
      | zero => intro v l h; simp [thenF] at h; subst h; simp
      | succ k ih =>
        intro v l h
        rw [thenF] at h
        split at h
        · cases h
        · obtain ⟨l', h1, rfl⟩ := Option.map_eq_some_iff.1 h
          have := ih _ _ h1
          split
          · omega
          · simp; omega
    have := h 24 0 t ht
    unfold LenB; omega
  have hon : onB t r = onB u (onB s r) := then_on a2 hn b2 hm ht (fun c hc => (row_codes a3 c hc).1)
  have hae : appE g t r = 0 := by
    unfold appE
    rw [hmay, a3]
    rw [a5] at b4
    simp [hon]; omega
  have hav : appV g t r = appV g u (appV g s r) := by rw [appV, if_pos hae, b5, a5, hon]
  refine ⟨_, _, _, _, _, _, w_apply htn htl z fl z3 g [] [] [] r, _, _, w_num _, ?_⟩
  rw [hae, eq0, condW_tt, hav]
  refine ⟨_, _, _, w_sameints (by unfold Len; rw [b5]; omega) _ _ _ [] [], ?_⟩
  rw [decide_eq_true rfl, condW_tt]
  refine ⟨_, _, _, w_bmay htl z fl g [] [], ?_⟩
  rw [hmay, condW_tt]
theorem law_joins (z : Bool) (g : List Sym) (z1 z2 z3 : Bool) {s : List Bd} (hs : LenB s) (hn : NilOk s) (a b : List Int) : C 4 [iG z g [], iBd z1 s [], iS z2 a [], iS z3 b []] = some (iB true, [iG z g [], iBd z1 s [], iS z2 a [], iS z3 b []]) := by
  refine wfn (lk := []) rfl rfl (fnW_way (q4 _ _ z (syms g) [] z1 (bds s) [] z2 (ints a) [] z3 (ints b) [] _) ?_)
  refine ⟨_, w_awake, ?_⟩
  rw [condW_tt]
  refine ⟨_, _, _, _, _, _, w_apply hn hs z z1 z2 g [] [] [] a, _, _, _, _, _, _, w_apply hn hs z z1 z3 g [] [] [] b, _, _, w_num _, ?_⟩
  rcases appE_cases g s a with ⟨a1, a2, a3, a4, a5⟩ | ⟨a1, _⟩
  rotate_left
  · rw [nez a1, condW_tt]
  rw [a1, ne0, condW_ff]
  refine ⟨_, _, w_num _, ?_⟩
  rcases appE_cases g s b with ⟨b1, b2, b3, b4, b5⟩ | ⟨b1, _⟩
  rotate_left
  · rw [nez b1, condW_tt]
  rw [b1, ne0, condW_ff, ints_len, ints_len]
  obtain ⟨hg, hla, ts, hts, _⟩ := rowB_parts a3
  obtain ⟨_, hlb, us, hus, _⟩ := rowB_parts b3
  have hw : IntKind.wrap .i64 ((a.length : Int) + (b.length : Int)) = ((a.length + b.length : Nat) : Int) := by rw [wr _ (by omega) (by omega)]; omega
  rw [hw, condW_d]
  by_cases h48 : a.length + b.length ≤ 48
  rotate_left
  · rw [if_pos (by omega)]
  rw [if_neg (by omega)]
  refine ⟨_, _, _, w_copyints (row_len a3) z2 [], ?_⟩
  rw [ints_len, condW_d, if_pos (by omega), condW_d, if_pos (by omega), ← ints_append, Bool.false_and]
  have hc : rowB g (a ++ b) = true := rowB_of hg (by simp; omega) (parts_join hts hus)
  have hon := onB_app s a b
  refine ⟨_, _, _, _, _, _, w_apply hn hs z z1 false g [] [] [] (a ++ b), ?_⟩
  have hl1 : (ints (appV g s a)).length = (onB s a).length := by rw [ints_len, a5]
  have hl2 : (ints (appV g s b)).length = (onB s b).length := by rw [ints_len, b5]
  have hw2 : IntKind.wrap .i64 (((onB s a).length : Int) + ((onB s b).length : Int)) = (((onB s a).length + (onB s b).length : Nat) : Int) := by rw [wr _ (by omega) (by omega)]; omega
  rw [hl1, hl2, hw2, condW_d]
  by_cases hl : (onB s a).length + (onB s b).length ≤ 48
  · rw [if_neg (by omega)]
    have hae : appE g s (a ++ b) = 0 := by unfold appE; rw [a2, hc, hon]; simp; omega
    have hav : appV g s (a ++ b) = onB s a ++ onB s b := by rw [appV, if_pos hae, hon]
    refine ⟨_, _, w_num _, ?_⟩
    rw [hae, eq0, condW_tt, a5]
    refine ⟨_, _, _, w_copyints (by unfold Len; omega) _ [], ?_⟩
    rw [ints_len, condW_d, if_pos (by omega), condW_d, if_pos (by omega), Bool.false_and, b5, ← ints_append, hav]
    refine ⟨_, _, _, w_sameints (by unfold Len; simp; omega) _ _ _ [] [], ?_⟩
    rw [decide_eq_true rfl, condW_tt]
  · rw [if_pos (by omega)]
    have hae : appE g s (a ++ b) = 301 := by unfold appE; rw [a2, hc, hon]; simp; omega
    have hav : appV g s (a ++ b) = [] := by rw [appV, if_neg (by rw [hae]; decide)]
    refine ⟨_, _, w_num _, ?_⟩
    rw [hae, show ((301 : Int) == 301) = true from rfl, condW_tt, hav]
    rfl
theorem law_back (z : Bool) (g : List Sym) (z1 : Bool) {r : List Int} (hz : z1 = true → r = []) (b m : Int) : C 5 [iG z g [], iS z1 r [], iI b, iI m] = some (iB true, [iG z g [], iS z1 r [], iI b, iI m]) := by
  refine wfn (lk := []) rfl rfl (fnW_way (q5 _ _ z (syms g) [] z1 (ints r) [] b m _) ?_)
  refine ⟨_, w_awake, ?_⟩
  rw [condW_tt]
  refine ⟨_, _, _, _, _, _, w_shift z z1 g [] [] hz b, _, _, w_num _, ?_⟩
  by_cases e0 : shE g r b = 0
  rotate_left
  · rw [nez e0, condW_tt]
  have ev : shV g r b = shiftM r b := by rw [shV, if_pos e0]
  have ez : shZ g z1 r b = z1 := by rw [shZ, if_pos e0]
  rw [e0, ne0, condW_ff, ev, ez, condW_d]
  by_cases c1 : b < -23
  · rw [if_pos c1]
  rw [if_neg c1, condW_d]
  by_cases c2 : b > 23
  · rw [if_pos c2]
  rw [if_neg c2, condW_d]
  by_cases c3 : m < -23
  · rw [if_pos c3]
  rw [if_neg c3, condW_d]
  by_cases c4 : m > 23
  · rw [if_pos c4]
  rw [if_neg c4]
  have hrow : rowB g r = true := by
    cases h : rowB g r
    · rw [shE, h] at e0; cases e0
    · rfl
  have hok : okS r b = true := by
    cases h : okS r b
    · rw [shE, hrow, h] at e0; cases e0
    · rfl
  have hcod : ∀ c ∈ r, -24 ≤ c := fun c hc => (row_codes hrow c hc).1
  have hrow2 := shift_row hrow hok
  have hz2 : z1 = true → shiftM r b = [] := fun h => by rw [hz h]; rfl
  have w1 : IntKind.wrap .i64 (0 - b) = -b := by rw [wr _ (by omega) (by omega)]; omega
  have w2 : IntKind.wrap .i64 (b + m) = b + m := wr _ (by omega) (by omega)
  rw [w1, w2]
  refine ⟨_, _, _, _, _, _, w_shift z z1 g [] [] hz2 (-b), _, _, _, _, _, _, w_shift z z1 g [] [] hz2 m, _, _, _, _, _, _, w_shift z z1 g [] [] hz (b + m), _, _, w_num _, ?_⟩
  have f1 : shE g (shiftM r b) (-b) = 0 := by rw [shE, if_pos hrow2, if_pos (okS_back hok hcod)]
  have f2 : shV g (shiftM r b) (-b) = r := by rw [shV, if_pos f1, shift_shift hok hcod, Int.add_right_neg, shift_nought]
  have f3 : shE g (shiftM r b) m = shE g r (b + m) := by rw [shE, shE, if_pos hrow2, if_pos hrow, okS_shift hok hcod]
  have f4 : shV g (shiftM r b) m = shV g r (b + m) := by rw [shV, shV, f3, shift_shift hok hcod]
  rw [f1, eq0, condW_tt, f2]
  refine ⟨_, _, _, w_sameints (row_len hrow) _ _ _ [] [], ?_⟩
  rw [decide_eq_true rfl, condW_tt]
  refine ⟨_, _, w_num _, _, _, w_num _, ?_⟩
  rw [f3, beq_self_eq_true, condW_tt, f4]
  refine ⟨_, _, _, w_sameints ?_ _ _ _ [] [], ?_⟩
  · have := (rowB_parts hrow).2.1
    unfold Len shV
    split
    · simp [shiftM]; omega
    · simp
  rw [decide_eq_true rfl, condW_tt]
theorem l_none (z : Bool) (g : List Sym) (z1 : Bool) {r : List Int} (hr : r.length ≤ 48) (fl : Bool) (a : List Int) (x y : Int) (hx : 0 ≤ x ∧ x ≤ 23) :
    evP F (Go.Ab.W F) (JW F d6 []) d6 [] [1,1,1,1,1,1,1,0,1] [(0, iG z g []), (1, iS z1 r []), (7, .own fl 3 1 (ints a)), (9, iI x), (10, iI y), (11, iB false), (12, iI 0)] = some (.norm [(0, iG z g []), (1, iS z1 r []), (7, .own fl 3 1 (ints a)), (9, iI x), (10, iI y), (11, iB (r.contains (-1 - x))), (12, iI r.length)]) := by
  have h1 := fun q hq => blk_fun (F := F) (d := d6) (lk := []) (p := [1,1,1,1,1,1,1,0,1,0,0]) (p0 := [1,1,1,1,1,1,1,0,1]) (id := 0) (by kernel_rfl) (st := fun (q : Bool × Nat) => [(0, iG z g []), (1, iS z1 r []), (7, .own fl 3 1 (ints a)), (9, iI x), (10, iI y), (11, iB q.1), (12, iI q.2)]) (I := fun q => q.2 ≤ r.length) (μ := fun q => r.length - q.2)
    (res := fun q => .norm [(0, iG z g []), (1, iS z1 r []), (7, .own fl 3 1 (ints a)), (9, iI x), (10, iI y), (11, iB (q.1 || (r.drop q.2).contains (-1 - x))), (12, iI r.length)])
    (fun q hq => by
      obtain ⟨b, i⟩ := q
      dsimp only at hq
      by_cases h : i < r.length
      · have hw : IntKind.wrap .i64 (-1 - x) = -1 - x := wr _ (by omega) (by omega)
        refine .go (b || (gi r i == -1 - x), i + 1) (wpQ_way (q6_l0a _ _ z (syms g) [] z1 (ints r) [] fl (ints a) x y b i _) ?_) (by dsimp only; omega) (by dsimp only; omega) ?_
        · rw [ints_len, condW_d, if_pos (by omega), wr1 h (by omega)]
          cases b
          · rw [condW_ff, condW_d, if_pos (by omega), Int.toNat_natCast]
            refine ⟨_, Go.Ab.ints_at h, ?_⟩
            rw [hw]
            cases (gi r i == -1 - x) <;> rfl
          · rfl
        · dsimp only
          have hbe : (gi r i == -1 - x) = (-1 - x == gi r i) := BEq.comm
          rw [gi_drop h, List.contains_cons, Bool.or_assoc, hbe]
      · have e1 : i = r.length := by omega
        subst e1
        refine .stop (.exit 0 [(0, iG z g []), (1, iS z1 r []), (7, .own fl 3 1 (ints a)), (9, iI x), (10, iI y), (11, iB b), (12, iI r.length)]) (wpQ_way (q6_l0a _ _ z (syms g) [] z1 (ints r) [] fl (ints a) x y b r.length _) ?_) rfl ?_
        · rw [ints_len, condW_d, if_neg (by omega)]
        · simp [blkO]) q hq
  have h2 := h1 (false, 0) (Nat.zero_le _)
  dsimp only at h2
  rw [List.drop_zero, Bool.false_or] at h2
  exact h2
theorem law_none (z : Bool) (g : List Sym) (z1 : Bool) (r : List Int) (v : Int) : C 6 [iG z g [], iS z1 r [], iI v] = some (iB true, [iG z g [], iS z1 r [], iI v]) := by
  refine wfn (lk := []) rfl rfl (fnW_way (q6 _ _ z (syms g) [] z1 (ints r) [] v _) ?_)
  refine ⟨_, w_awake, ?_⟩
  rw [condW_tt]
  have hn0 : NilOk [] := fun b hb => by simp at hb
  have hl0 : LenB [] := by unfold LenB; simp
  have ha := w_apply hn0 hl0 z true z1 g [] [] [] r
  refine ⟨_, _, _, _, _, _, ha, _, _, w_num _, ?_⟩
  rcases appE_cases g [] r with ⟨a1, a2, a3, a4, a5⟩ | ⟨a1, a2⟩
  rotate_left
  · rw [nez a1, condW_tt, a2]; rfl
  rw [a1, ne0, condW_ff]
  obtain ⟨hg, h48, _⟩ := rowB_parts a3
  rw [nil_on] at a5
  obtain ⟨x, hx, hx2⟩ := rem_n v (m := 24) (by decide)
  obtain ⟨y, hy, hy2, hne⟩ : ∃ y : Nat, Int.tmod (IntKind.wrap .i64 ((x : Int) + 1)) 24 = (y : Int) ∧ (y : Int) < 24 ∧ (x : Int) ≠ (y : Int) := by
    rw [wr _ (by omega) (by omega), Int.tmod_eq_emod_of_nonneg (by omega)]
    exact ⟨(((x : Int) + 1) % 24).toNat, by omega, by omega, by omega⟩
  have hw : IntKind.wrap .i64 (-1 - (y : Int)) = -1 - (y : Int) := wr _ (by omega) (by omega)
  rw [hx, hy, a5]
  have hloop := l_none z g z1 (by omega) r.isEmpty r x y ⟨by omega, by omega⟩
  have hmay := oneBd_may hg (x := x) (y := y) ⟨by omega, by omega⟩ ⟨by omega, by omega⟩ hne
  have hon := oneBd_on (x : Int) (y : Int) r
  have hlen : (onB (oneBd x y) r).length = r.length := by rw [hon]; simp
  have hb := w_apply (oneBd_nil x y) (by unfold LenB oneBd; simp) z false z1 g [] [] [] r
  have hae : appE g (oneBd x y) r = 0 := by unfold appE; rw [hmay, a3, hlen]; simp; omega
  have hav : appV g (oneBd x y) r = onB (oneBd x y) r := by rw [appV, if_pos hae]
  rw [hae, hav] at hb
  refine ⟨_, _, _, _, _, _, _, _, _, _, _, _, hloop, ?_⟩
  rw [hw]
  refine ⟨_, _, _, _, _, _, hb, ?_⟩
  refine ⟨_, _, _, w_sameints (row_len a3) r _ _ [] [], ?_⟩
  rw [decide_eq_true rfl, condW_tt]
  refine ⟨_, _, w_num _, ?_⟩
  rw [eq0, condW_tt, ints_len, ints_len, hlen, beq_self_eq_true, condW_tt]
  refine ⟨_, _, _, w_sameints (by unfold Len; omega) r _ _ [] [], ?_⟩
  have hs := oneBd_same (x := (x : Int)) (y := (y : Int)) (by omega) hne r
  cases hc : r.contains (-1 - (x : Int))
  · have h1 : ¬ (-1 - (x : Int)) ∈ r := by
      intro h; rw [List.contains_eq_mem, decide_eq_false_iff_not] at hc; exact hc h
    rw [decide_eq_true (hs.2 h1), condW_tt, condW_ff]
  · have h1 : (-1 - (x : Int)) ∈ r := by
      rw [List.contains_eq_mem, decide_eq_true_iff] at hc; exact hc
    rw [decide_eq_false (fun h => hs.1 h h1), condW_ff, condW_tt]
theorem l_long0 (k : Int) (n : Nat) (hn : n ≤ 1000) : evP F (Go.Ab.W F) (JW F d7 []) d7 [] [1,1,1,0,1] [(1, iI k), (5, .own false 3 1 (List.replicate n (D.int .i64 0))), (6, iI 0)] = some (.norm [(1, iI k), (5, .own false 3 1 (ints (List.replicate n 3))), (6, iI n)]) := by
  have h1 := fun i hi => blk_fun (F := F) (d := d7) (lk := []) (p := [1,1,1,0,1,0,0]) (p0 := [1,1,1,0,1]) (id := 0) (by kernel_rfl) (st := fun (i : Nat) => [(1, iI k), (5, .own false 3 1 (fillD 3 i n)), (6, iI i)]) (I := fun i => i ≤ n) (μ := fun i => n - i)
    (res := fun _ => .norm [(1, iI k), (5, .own false 3 1 (ints (List.replicate n 3))), (6, iI n)])
    (fun i hi => by
      by_cases h : i < n
      · refine .go (i + 1) (wpQ_way (q7_l0a _ _ k false _ i _) ?_) (by omega) (by omega) rfl
        rw [fill_len (by omega), condW_d, if_pos (by omega), condW_d, if_pos (by omega), Int.toNat_natCast]
        refine ⟨_, fill_at h, _, fill_at h, ?_⟩
        rw [fill_set h, wr1 h (by omega)]
      · have e1 : i = n := by omega
        subst e1
        refine .stop (.exit 0 [(1, iI k), (5, .own false 3 1 (fillD 3 i i)), (6, iI i)]) (wpQ_way (q7_l0a _ _ k false _ i _) ?_) rfl ?_
        · rw [fill_len (by omega), condW_d, if_neg (by omega)]
        · rw [fill_all]; rfl) i hi
  have h2 := h1 0 (Nat.zero_le _)
  rw [fill_zero] at h2
  exact h2
theorem l_long2 (t : List D) (n : Nat) (hn : n ≤ 1000) : evP F (Go.Ab.W F) (JW F d7 []) d7 [] [1,1,1,1,1,1,0,1] [(5, .own false 3 1 t), (7, .own false 3 1 (List.replicate n (D.int .i64 0))), (8, iI 0)] = some (.norm [(5, .own false 3 1 t), (7, .own false 3 1 (ints (List.replicate n (-1)))), (8, iI n)]) := by
  have h1 := fun i hi => blk_fun (F := F) (d := d7) (lk := []) (p := [1,1,1,1,1,1,0,1,0,0]) (p0 := [1,1,1,1,1,1,0,1]) (id := 2) (by kernel_rfl) (st := fun (i : Nat) => [(5, .own false 3 1 t), (7, .own false 3 1 (fillD (-1) i n)), (8, iI i)]) (I := fun i => i ≤ n) (μ := fun i => n - i)
    (res := fun _ => .norm [(5, .own false 3 1 t), (7, .own false 3 1 (ints (List.replicate n (-1)))), (8, iI n)])
    (fun i hi => by
      by_cases h : i < n
      · refine .go (i + 1) (wpQ_way (q7_l2a _ _ false t false _ i _) ?_) (by omega) (by omega) rfl
        rw [fill_len (by omega), condW_d, if_pos (by omega), condW_d, if_pos (by omega), Int.toNat_natCast]
        refine ⟨_, fill_at h, _, fill_at h, ?_⟩
        rw [fill_set h, wr1 h (by omega)]
      · have e1 : i = n := by omega
        subst e1
        refine .stop (.exit 2 [(5, .own false 3 1 t), (7, .own false 3 1 (fillD (-1) i i)), (8, iI i)]) (wpQ_way (q7_l2a _ _ false t false _ i _) ?_) rfl ?_
        · rw [fill_len (by omega), condW_d, if_neg (by omega)]
        · rw [fill_all]; rfl) i hi
  have h2 := h1 0 (Nat.zero_le _)
  rw [fill_zero] at h2
  exact h2
theorem law_longs (k m : Int) : C 7 [iI k, iI m] = some (iB true, [iI k, iI m]) := by
  refine wfn (lk := []) rfl rfl (fnW_way (q7 _ _ k m _) ?_)
  obtain ⟨n, hn, hn2⟩ := rem_n k (m := 20) (by decide)
  obtain ⟨p, hp, hp2⟩ := rem_n m (m := 30) (by decide)
  have hn1 : IntKind.wrap .i64 (1 + (n : Int)) = ((n + 1 : Nat) : Int) := by rw [wr _ (by omega) (by omega)]; omega
  refine ⟨_, w_awake, ?_⟩
  rw [condW_tt]
  simp only [hn, hn1]
  rw [condW_d, if_pos trivial, condW_d, if_pos (by omega), condW_d, if_pos (by omega), condW_d, if_pos (by omega), Int.toNat_natCast]
  refine ⟨_, _, _, _, l_long0 m (n + 1) (by omega), ?_⟩
  have hlen : (ints (List.replicate (n + 1) 3)).length = n + 1 := by simp [ints]
  have hw : IntKind.wrap .i64 (((n + 1 : Nat) : Int) - 1) = (n : Int) := by rw [wr _ (by omega) (by omega)]; omega
  have hat : (ints (List.replicate (n + 1) 3))[n]? = some (.int .i64 3) := by simp [ints]
  rw [hlen, hw, condW_d, if_pos (by omega), Int.toNat_natCast]
  refine ⟨_, hat, _, hat, ?_⟩
  simp only [hp, tower_set]
  rw [condW_d, if_pos trivial, condW_d, if_pos (by omega), condW_d, if_pos (by omega), condW_d, if_pos (by omega), Int.toNat_natCast]
  refine ⟨_, _, _, _, _, l_long2 _ p (by omega), _, _, w_words, ?_⟩
  have hrow : rowB wordsG (List.replicate p (-1)) = true := rowB_of wordsB (by simp; omega) (vars_row p)
  have hmay := towBd_may (n := n) (by omega)
  have hol := towBd_on n p
  have hb := w_apply (towBd_nil n) (by unfold LenB towBd; simp) false false false wordsG [] [] [] (List.replicate p (-1))
  refine ⟨_, _, _, _, _, _, hb, ?_⟩
  have hl1 : (ints (towerT n)).length = n + 1 := by rw [ints_len, tower_len]
  have hl2 : (ints (List.replicate p (-1))).length = p := by simp [ints]
  have hmul : (n + 1) * p ≤ 20 * 29 := Nat.mul_le_mul (by omega) (by omega)
  have hw2 : IntKind.wrap .i64 (((n + 1 : Nat) : Int) * (p : Int)) = (((n + 1) * p : Nat) : Int) := by
    rw [← Int.natCast_mul, wr _ (by omega) (by omega)]
  rw [hl1, hl2, hw2, condW_d]
  generalize (n + 1) * p = q at hmul hol
  by_cases h48 : q ≤ 48
  · rw [if_neg (by omega)]
    have hae : appE wordsG (towBd n) (List.replicate p (-1)) = 0 := by unfold appE; rw [hmay, hrow, hol]; simp; omega
    have hav : appV wordsG (towBd n) (List.replicate p (-1)) = onB (towBd n) (List.replicate p (-1)) := by rw [appV, if_pos hae]
    refine ⟨_, _, w_num _, ?_⟩
    rw [hae, eq0, condW_tt, hav, ints_len, hol, beq_self_eq_true, condW_tt]; trivial
  · rw [if_pos (by omega)]
    have hae : appE wordsG (towBd n) (List.replicate p (-1)) = 301 := by unfold appE; rw [hmay, hrow, hol]; simp; omega
    have hav : appV wordsG (towBd n) (List.replicate p (-1)) = [] := by rw [appV, if_neg (by rw [hae]; decide)]
    refine ⟨_, _, w_num _, ?_⟩
    rw [hae, show ((301 : Int) == 301) = true from rfl, condW_tt, hav, show ((((ints []).length : Nat) : Int) == 0) = true from rfl, condW_tt]; trivial
theorem call_both (y0 y1 y2 y3 : D) (h0 : Go.Ab.Good Tryd.prog 12 22 y0) (h1 : Go.Ab.Good Tryd.prog 12 23 y1) (h2 : Go.Ab.Good Tryd.prog 12 23 y2) (h3 : Go.Ab.Good Tryd.prog 12 24 y3) : ∃ outs, C 3 [.d y0, .d y1, .d y2, .d y3] = some (iB true, outs) := by
  obtain ⟨z, g, rfl⟩ := good_sig h0
  obtain ⟨z1, s, rfl, a1, a2⟩ := good_binds h1
  obtain ⟨z2, u, rfl, b1, b2⟩ := good_binds h2
  obtain ⟨z3, r, rfl, _⟩ := good_row h3
  exact ⟨_, law_both z g z1 z2 z3 a1 a2 b1 b2 r⟩
theorem call_joins (y0 y1 y2 y3 : D) (h0 : Go.Ab.Good Tryd.prog 12 22 y0) (h1 : Go.Ab.Good Tryd.prog 12 23 y1) (h2 : Go.Ab.Good Tryd.prog 12 24 y2) (h3 : Go.Ab.Good Tryd.prog 12 24 y3) : ∃ outs, C 4 [.d y0, .d y1, .d y2, .d y3] = some (iB true, outs) := by
  obtain ⟨z, g, rfl⟩ := good_sig h0
  obtain ⟨z1, s, rfl, a1, a2⟩ := good_binds h1
  obtain ⟨z2, a, rfl, _⟩ := good_row h2
  obtain ⟨z3, b, rfl, _⟩ := good_row h3
  exact ⟨_, law_joins z g z1 z2 z3 a1 a2 a b⟩
theorem call_back (y0 y1 y2 y3 : D) (h0 : Go.Ab.Good Tryd.prog 12 22 y0) (h1 : Go.Ab.Good Tryd.prog 12 24 y1) (h2 : Go.Ab.Good Tryd.prog 12 3 y2) (h3 : Go.Ab.Good Tryd.prog 12 3 y3) : ∃ outs, C 5 [.d y0, .d y1, .d y2, .d y3] = some (iB true, outs) := by
  obtain ⟨z, g, rfl⟩ := good_sig h0
  obtain ⟨z1, r, rfl, _, hz⟩ := good_row h1
  obtain ⟨b, rfl, _⟩ := good_int h2
  obtain ⟨m, rfl, _⟩ := good_int h3
  exact ⟨_, law_back z g z1 hz b m⟩
theorem call_none (y0 y1 y2 : D) (h0 : Go.Ab.Good Tryd.prog 12 22 y0) (h1 : Go.Ab.Good Tryd.prog 12 24 y1) (h2 : Go.Ab.Good Tryd.prog 12 3 y2) : ∃ outs, C 6 [.d y0, .d y1, .d y2] = some (iB true, outs) := by
  obtain ⟨z, g, rfl⟩ := good_sig h0
  obtain ⟨z1, r, rfl, _, hz⟩ := good_row h1
  obtain ⟨b, rfl, _⟩ := good_int h2
  exact ⟨_, law_none z g z1 r b⟩
theorem call_longs (y0 y1 : D) (h0 : Go.Ab.Good Tryd.prog 12 3 y0) (h1 : Go.Ab.Good Tryd.prog 12 3 y1) : ∃ outs, C 7 [.d y0, .d y1] = some (iB true, outs) := by
  obtain ⟨k, rfl, _⟩ := good_int h0
  obtain ⟨m, rfl, _⟩ := good_int h1
  exact ⟨_, law_longs k m⟩
end Go.Proofs.YtcmpbennibojeaaDoor.Ab
