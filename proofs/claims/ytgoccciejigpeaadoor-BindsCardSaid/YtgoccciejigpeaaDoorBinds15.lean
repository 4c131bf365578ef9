/- What the rows of this seat share: the variable that is laid, the world in which it is so. No condition. -/
import Derived.Below
import Derived.ChangeOld
import Derived.LaidMore
import Derived.Lib.SmallJoins
import Derived.OpenShut
import Derived.ProofKit
import Derived.SevenTiedAt
import Derived.ShutString
import Derived.SizedLaws
import Derived.Stop.Joined
import Derived.Test.YtgoccciejigpeaaDoorCards
import Derived.Test.YtgoccciejigpeaaDoorRows
import Derived.Test.YtgoccciejigpeaaDoorTie
import Derived.WalkKit
import Derived.Test.YtgoccciejigpeaaDoorBinds0
import Derived.Test.YtgoccciejigpeaaDoorBinds1
import Derived.Test.YtgoccciejigpeaaDoorBinds2
import Derived.Test.YtgoccciejigpeaaDoorBinds3
import Derived.Test.YtgoccciejigpeaaDoorBinds4
import Derived.Test.YtgoccciejigpeaaDoorBinds5
import Derived.Test.YtgoccciejigpeaaDoorBinds6
import Derived.Test.YtgoccciejigpeaaDoorBinds7
import Derived.Test.YtgoccciejigpeaaDoorBinds8
import Derived.Test.YtgoccciejigpeaaDoorBinds9
import Derived.Test.YtgoccciejigpeaaDoorBinds10
import Derived.Test.YtgoccciejigpeaaDoorBinds11
import Derived.Test.YtgoccciejigpeaaDoorBinds12
import Derived.Test.YtgoccciejigpeaaDoorBinds13
import Derived.Test.YtgoccciejigpeaaDoorBinds14
namespace Go.Proofs.YtgoccciejigpeaaDoor.Ab
open Go Go.Ab Go.Qu Go.Proofs Go.ChangeShapes Go.WideShapes Go.ChangeAt Go.RowKit Go.Joins
set_option linter.unusedVariables false
set_option maxRecDepth 100000
theorem own : ownKnob Tryd.prog.godebug = none := by kernel_rfl
theorem laidOut : laidOutB Tryd.prog = true := by kernel_rfl
abbrev laid1 : List (String × DataW Unit) := [("quaere/sign.equals", Rows.laid_quaere_sign_equals)]
theorem gEq : Tryd.prog.globalNamed "quaere/sign.equals" = some 0 := by kernel_rfl
theorem tEq : (Tryd.prog.globals[0]?).map (·.type) = some 57 := by kernel_rfl
theorem door_met (os : Os) (args : Array Value) : laidMetH Tryd.prog laid1 ((World.doorLaid Tryd.prog 400 os).forCall (fun _ _ => 0) ⟨#[], args, []⟩).memory :=
  laidMetH_of_parts3 (fuel := 8) (laidMet_of_run' 8 (by kernel_rfl) (by kernel_rfl)) (by kernel_rfl) (by kernel_rfl)
theorem globs {W : World} (h : laidMetH Tryd.prog laid1 W) : GlobOk (Hw W) F.G := by
  rw [MakeChecks.laidMetH_plain _ _ _ (by kernel_rfl)] at h
  obtain ⟨ps, ⟨g0, t0, cs0, f0, p0, q0, hg0, ht0, hv0, hd0, _, _⟩, _, _⟩ := h
  obtain rfl := Option.some.inj (gEq.symm.trans hg0)
  obtain rfl := Option.some.inj (tEq.symm.trans ht0)
  obtain ⟨xs, n, _, hx, hlen, hxl, hf⟩ := DataW.trod_struct Tryd.underlying57 hd0
  have c1 : Tryd.prog.cellsOf 57 = 4 := by kernel_rfl
  have cs : Tryd.prog.cellsOf 9 = 1 := by kernel_rfl
  have ci : Tryd.prog.cellsOf 3 = 1 := by kernel_rfl
  rw [c1] at hlen
  have hx1 : xs.map (·.1) = [.lit (.string [61]), .lit (.int .i64 0), .lit (.int .i64 2), .lit (.int .i64 1)] := by
    simp only [Prod.mk.injEq] at hx
    have h9 := hx.1
    unfold Rows.laid_quaere_sign_equals at h9
    simp only [DataW.agg.injEq] at h9
    exact h9.symm
  have hcs : ∃ a b c d, cs0.toList = [a, b, c, d] := by
    match h : cs0.toList, hlen with
    | [a, b, c, d], _ => exact ⟨a, b, c, d, rfl⟩
  obtain ⟨a, b, c, d, hcs⟩ := hcs
  have hxs : ∃ x0 x1 x2 x3, xs = [x0, x1, x2, x3] := by
    match xs, hxl with
    | [x0, x1, x2, x3], _ => exact ⟨x0, x1, x2, x3, rfl⟩
  obtain ⟨x0, x1, x2, x3, rfl⟩ := hxs
  simp only [List.map_cons, List.map_nil, List.cons.injEq, and_true] at hx1
  obtain ⟨e0, e1, e2, e3⟩ := hx1
  have h0 : DataW.trod (fun _ => ()) Tryd.prog W 0 (fun _ => true) false n 9 ((cs0.toList.drop 0).take (Tryd.prog.cellsOf 9)) = some x0 := hf 0 _ rfl
  have h1 : DataW.trod (fun _ => ()) Tryd.prog W 0 (fun _ => true) false n 3 ((cs0.toList.drop 1).take (Tryd.prog.cellsOf 3)) = some x1 := hf 1 _ rfl
  have h2 : DataW.trod (fun _ => ()) Tryd.prog W 0 (fun _ => true) false n 3 ((cs0.toList.drop 2).take (Tryd.prog.cellsOf 3)) = some x2 := hf 2 _ rfl
  have h3 : DataW.trod (fun _ => ()) Tryd.prog W 0 (fun _ => true) false n 3 ((cs0.toList.drop 3).take (Tryd.prog.cellsOf 3)) = some x3 := hf 3 _ rfl
  rw [hcs, cs] at h0
  rw [hcs, ci] at h1 h2 h3
  obtain ⟨s, ha, hs, _⟩ := DataW.trod_string Tryd.underlying9 h0
  obtain ⟨n1, hb, hn1, _⟩ := DataW.trod_int Tryd.underlying3 h1
  obtain ⟨n2, hc, hn2, _⟩ := DataW.trod_int Tryd.underlying3 h2
  obtain ⟨n3, hd, hn3, _⟩ := DataW.trod_int Tryd.underlying3 h3
  simp at ha hb hc hd
  rw [hs] at e0; rw [hn1] at e1; rw [hn2] at e2; rw [hn3] at e3
  simp at e0 e1 e2 e3
  subst ha hb hc hd e1 e2 e3
  have hse : s = "=".toUTF8 := by
    have h5 : "=".toUTF8.data.toList = [61] := by decide +kernel
    have h6 : s.data = "=".toUTF8.data := Array.toList_inj.1 (e0.trans h5.symm)
    exact (show ∀ (x y : ByteArray), x.data = y.data → x = y by intro ⟨_⟩ ⟨_⟩ h; exact congrArg _ h) _ _ h6
  subst hse
  have hcell : ∀ (j : Nat) u, [Value.string "=".toUTF8, .int .i64 0, .int .i64 2, .int .i64 1][j]? = some u → W.cell? ⟨0, j, none⟩ = some u := fun j u hj => by
    have h7 := World.var?_cell hg0 hv0 j
    have h8 : cs0[j]? = some u := by rw [← Array.getElem?_toList, hcs]; exact hj
    rw [h8] at h7
    simpa using h7
  intro g cs hg
  simp only [F, List.map_cons, List.map_nil, assoc] at hg
  split at hg
  · rename_i hg0
    subst hg0
    simp only [Option.some.injEq] at hg
    subst hg
    refine ⟨[.string "=".toUTF8, .int .i64 0, .int .i64 2, .int .i64 1], ?_, fun j u hj => ?_, by simp [D.isAgg]⟩
    · unfold D.RepL; refine ⟨[_], _, rfl, by unfold D.Rep; rfl, ?_⟩
      unfold D.RepL; refine ⟨[_], _, rfl, by unfold D.Rep; rfl, ?_⟩
      unfold D.RepL; refine ⟨[_], _, rfl, by unfold D.Rep; rfl, ?_⟩
      unfold D.RepL; refine ⟨[_], [], rfl, by unfold D.Rep; rfl, ?_⟩
      unfold D.RepL; rfl
    · refine Hw.cell ?_
      have h9 := hcell j u hj
      unfold Addr.add
      split
      · rename_i hj0; subst hj0; exact h9
      · simpa using h9
  · simp at hg
theorem fxOk : FxOk Tryd.prog F where
  orders := by kernel_rfl
  tab := tab_ok
  code := code_ok.get
  prim := fun f p args r outs h => by cases h
  ins := insAll
/-! ### Arguments -/
theorem good_sym {n : Nat} {x : D} (h : Go.Ab.Good Tryd.prog (n + 2) 57 x) : ∃ s : Sym, x = s.d := by
  unfold Go.Ab.Good at h
  rw [Tryd.underlying57] at h
  obtain ⟨ys, rfl, y0, r0, rfl, h0, y1, r1, rfl, h1, y2, r2, rfl, h2, y3, r3, rfl, h3, rfl⟩ := h
  unfold Go.Ab.Good at h0 h1 h2 h3
  simp only [Tryd.underlying9, Tryd.underlying3] at h0 h1 h2 h3
  obtain ⟨s, rfl, _⟩ := h0
  obtain ⟨a, rfl, _⟩ := h1
  obtain ⟨b, rfl, _⟩ := h2
  obtain ⟨c, rfl, _⟩ := h3
  exact ⟨⟨s, a, b, c⟩, rfl⟩
theorem good_sig {n : Nat} {x : D} (h : Go.Ab.Good Tryd.prog (n + 3) 22 x) : ∃ z g, x = .sl 4 z (syms g) [] := by
  unfold Go.Ab.Good at h
  rw [Tryd.underlying22] at h
  obtain ⟨z, xs, rfl, _, h2, _⟩ := h
  have hc : Tryd.prog.cellsOf 57 = 4 := by kernel_rfl
  rw [hc]
  obtain ⟨g, rfl, _⟩ := all_map (f := Sym.d) (Q := fun _ => True) (fun y hy => by obtain ⟨s, hs⟩ := good_sym (h2 y hy); exact ⟨s, hs, trivial⟩)
  exact ⟨z, g, rfl⟩
theorem good_int {n : Nat} {x : D} (h : Go.Ab.Good Tryd.prog (n + 1) 3 x) : ∃ a : Int, x = .int .i64 a ∧ -9223372036854775808 ≤ a ∧ a ≤ 9223372036854775807 := by
  unfold Go.Ab.Good at h
  rw [Tryd.underlying3] at h
  obtain ⟨a, rfl, hw⟩ := h
  refine ⟨a, rfl, ?_⟩
  simp [Lit.wf, IntKind.min, IntKind.max, IntKind.bits, IntKind.signed] at hw
  omega
theorem good_ints {n : Nat} {x : D} (h : Go.Ab.Good Tryd.prog (n + 2) 24 x) : ∃ z l, x = .sl 1 z (ints l) [] ∧ Len l := by
  unfold Go.Ab.Good at h
  rw [Tryd.underlying24] at h
  obtain ⟨z, xs, rfl, h1, h2, _⟩ := h
  have hc : Tryd.prog.cellsOf 3 = 1 := by kernel_rfl
  have hb : Tryd.prog.bytesOf 3 = 8 := by kernel_rfl
  rw [hb] at h1
  rw [hc]
  obtain ⟨l, rfl, _⟩ := all_map (f := D.int .i64) (Q := fun _ => True) (fun y hy => by obtain ⟨a, ha, _⟩ := good_int (h2 y hy); exact ⟨a, ha, trivial⟩)
  rw [List.length_map] at h1
  exact ⟨z, l, rfl, by unfold Len; simpa [reachBytes] using h1⟩
end Go.Proofs.YtgoccciejigpeaaDoor.Ab

/- Chapter 3's law Binds: for every input the law returns true. No condition. -/
set_option linter.unusedVariables false
set_option linter.unusedSimpArgs false
set_option maxRecDepth 100000
namespace Go.Proofs.YtgoccciejigpeaaDoor.Ab
open Go Go.Ab Go.Qu Go.Proofs
attribute [local simp] and_assoc
theorem w_awake : C 15 [] = some (iB true, []) := W_ev (n := 60) (by kernel_rfl)
/-! ### Lent, kept, copied, written over -/
theorem w_lend {a : List Int} (ha : Len a) (z : Bool) (e : List D) : C 4 [iS z a e] = some (iS false a [.int .i64 (-7777), .int .i64 (-8888)], [iS z a e]) := by
  refine wfn (lk := []) rfl rfl (fnW_way (q4 _ _ z (ints a) e _) ?_)
  unfold Len at ha
  have h1 := w_copyints ha z e
  have g1 : a.length + (0 + 1 + 1) ≤ 9223372036854775807 := by omega
  have g2 : (a.length + (0 + 1 + 1)) * 8 ≤ 140737488355328 := by omega
  have g3 : (a.length : Int) ≤ ((a.length + 2 : Nat) : Int) := by omega
  refine ⟨_, _, _, h1, ?_⟩
  rw [ints_len, condW_d, if_pos g1, condW_d, if_pos g2, condW_d, if_pos (by simp [ints_len]; omega), Int.toNat_natCast]
  have e1 : (ints a ++ [D.int .i64 (-7777), .int .i64 (-8888)]).take a.length = ints a := by rw [← ints_len a]; exact List.take_left ..
  have e2 : (ints a ++ [D.int .i64 (-7777), .int .i64 (-8888)]).drop a.length = [.int .i64 (-7777), .int .i64 (-8888)] := by rw [← ints_len a]; exact List.drop_left ..
  rw [e1, e2]; rfl
theorem w_kept {a : List Int} (ha : Len a) (b : List Int) (z z' : Bool) (e : List D) (hab : a = b) : C 13 [iS z a [.int .i64 (-7777), .int .i64 (-8888)], iS z' b e] = some (iB true, [iS z a [.int .i64 (-7777), .int .i64 (-8888)], iS z' b e]) := by
  subst hab
  refine wfn (lk := []) rfl rfl (fnW_way (q13 _ _ z (ints a) _ z' (ints a) e _) ?_)
  have hs := w_sameints ha a z z' [.int .i64 (-7777), .int .i64 (-8888)] e
  unfold Len at ha
  have hw : IntKind.wrap .i64 ((a.length : Int) + 2) = ((a.length + 2 : Nat) : Int) := by rw [wr _ (by omega) (by omega)]; omega
  have hw1 : IntKind.wrap .i64 ((a.length : Int) + 1) = ((a.length + 1 : Nat) : Int) := by rw [wr _ (by omega) (by omega)]; omega
  have hx : tkX (a.length + 2) (ints a) [D.int .i64 (-7777), .int .i64 (-8888)] = ints a ++ [.int .i64 (-7777), .int .i64 (-8888)] := by
    unfold tkX
    exact List.take_of_length_le (by simp [ints_len])
  have h1 : (ints a ++ [D.int .i64 (-7777), .int .i64 (-8888)])[a.length]? = some (.int .i64 (-7777)) := by rw [← ints_len a]; simp
  have h2 : (ints a ++ [D.int .i64 (-7777), .int .i64 (-8888)])[a.length + 1]? = some (.int .i64 (-8888)) := by
    rw [← ints_len a, List.getElem?_append_right (by omega), Nat.add_sub_cancel_left]; rfl
  rw [ints_len, hw, hw1, condW_d, if_pos (by omega), condW_d, if_pos (by simp), Int.toNat_natCast, Int.toNat_natCast, Int.toNat_natCast, hx]
  refine ⟨_, _, _, hs, ?_⟩
  rw [decide_eq_true rfl, condW_tt]
  refine ⟨_, h1, ?_⟩
  rw [beq_self_eq_true, condW_tt, condW_d, if_pos (by omega)]
  refine ⟨_, h2, ?_⟩
  rw [beq_self_eq_true, condW_tt]
/-- What a written-over code is. -/
def spC (c : Int) : Int := IntKind.wrap .i64 (-9 - Int.tmod c 1000)
theorem w_spoil {r : List Int} (hr : Len r) (z : Bool) : C 12 [.own z 3 1 (ints r)] = some (.tup [], [.dead]) := by
  unfold Len at hr
  refine wfn (lk := []) rfl rfl (fnW_way (q12 _ _ z (ints r) _) ?_)
  have h1 := fun x hx => blk_fun (F := F) (d := d12) (lk := []) (p := [1,0,0]) (p0 := [1]) (id := 0) (by kernel_rfl) (st := fun (i : Nat) => [(0, .own z 3 1 (ints ((r.take i).map spC ++ r.drop i))), (2, iI i)]) (I := fun i => i ≤ r.length) (μ := fun i => r.length - i)
    (res := fun _ => .norm [(0, .own z 3 1 (ints (r.map spC))), (2, iI r.length)])
    (fun i hi => by
      have hlen : ((r.take i).map spC).length = i := by simp; omega
      have hall : (ints ((r.take i).map spC ++ r.drop i)).length = r.length := by rw [ints_len]; simp; omega
      by_cases h : i < r.length
      · have hat : (ints ((r.take i).map spC ++ r.drop i))[i]? = some (.int .i64 (gi r i)) := by
          rw [ints_append, List.getElem?_append_right (by rw [ints_len, hlen]; exact Nat.le_refl _), ints_len, hlen, Nat.sub_self, gi_drop h]; rfl
        have htake : r.take (i + 1) = r.take i ++ [gi r i] := by rw [List.take_add_one, gi_at h]; rfl
        have hset : (ints ((r.take i).map spC ++ r.drop i)).set i (.int .i64 (spC (gi r i))) = ints ((r.take (i + 1)).map spC ++ r.drop (i + 1)) := by
          rw [htake, List.map_append, List.append_assoc, ints_append, ints_append, List.set_append_right _ _ (by rw [ints_len, hlen]; exact Nat.le_refl _), ints_len, hlen, Nat.sub_self, gi_drop h]; rfl
        refine .go (i + 1) (wpQ_way (q12_l0a _ _ z _ i _) ?_) h (by omega) rfl
        rw [hall, condW_d, if_pos (by omega), condW_d, if_pos (by omega), Int.toNat_natCast]
        refine ⟨_, hat, _, hat, ?_⟩
        rw [condW_d, if_pos (by omega)]
        refine ⟨_, hat, _, hat, ?_⟩
        have hw : IntKind.wrap .i64 (-9 - Int.tmod (gi r i) 1000) = spC (gi r i) := rfl
        rw [hw, hset, wr1 h (by omega)]
      · have e1 : i = r.length := by omega
        subst e1
        refine .stop (.exit 0 [(0, .own z 3 1 (ints ((r.take r.length).map spC ++ r.drop r.length))), (2, iI r.length)]) (wpQ_way (q12_l0a _ _ z _ r.length _) ?_) rfl ?_
        · rw [hall, condW_d, if_neg (by omega)]
        · simp [blkO]) x hx
  have h2 := h1 0 (Nat.zero_le _)
  rw [List.take_zero, List.drop_zero] at h2
  exact ⟨_, _, _, h2, rfl⟩
/-- Binds, their terms in bounds. -/
def LenM (s : List Bd) : Prop := s.length * 32 ≤ 140737488355328 ∧ ∀ b ∈ s, Len b.r.l
def freshB (b : Bd) : Bd := ⟨b.v, ⟨false, b.r.l, []⟩⟩
theorem lenM_B {s : List Bd} (h : LenM s) : LenB s := by have := h.1; unfold LenB; omega
theorem w_copybinds {s : List Bd} (hs : LenM s) (z : Bool) (e : List D) : C 5 [iBd z s e] = some (.own s.isEmpty 40 2 (bds (s.map freshB)), [iBd z s e]) := by
  obtain ⟨hn, hr⟩ := hs
  refine wfn (lk := []) rfl rfl (fnW_way (q5 _ _ z (bds s) e _) ?_)
  have h1 := blk_fun (F := F) (d := d5) (lk := []) (p := [1,1,0,1,0,0]) (p0 := [1,1,0,1]) (id := 0) (by kernel_rfl) (st := fun (i : Nat) => [(0, iBd z s e), (3, .own (s.take i).isEmpty 40 2 (bds ((s.take i).map freshB))), (4, iI i)]) (I := fun i => i ≤ s.length) (μ := fun i => s.length - i)
    (res := fun _ => .norm [(0, iBd z s e), (3, .own s.isEmpty 40 2 (bds (s.map freshB))), (4, iI s.length)])
    (fun i hi => by
      by_cases h : i < s.length
      · obtain ⟨b, hb⟩ := at_lt h
        have hL := hr b (List.mem_of_getElem? hb)
        have e1 : s.take (i + 1) = s.take i ++ [b] := by rw [List.take_add_one, hb]; rfl
        refine .go (i + 1) (wpQ_way (q5_l0a _ _ z (bds s) e _ _ i _) ?_) h (by omega) rfl
        have e2 : (bds ((s.take i).map freshB)).length = i := by rw [bds_len]; simp; omega
        rw [bds_len, condW_d, if_pos (by omega), condW_d, if_pos (by omega), Int.toNat_natCast]
        refine ⟨_, _, _, _, bds_at hb, ?_⟩
        rw [condW_d, if_pos (by omega)]
        refine ⟨_, _, _, _, bds_at hb, _, _, _, w_copyints hL _ _, ?_⟩
        rw [e2, condW_d, if_pos (by omega), condW_d, if_pos (by omega), wr1 h (by omega), e1, List.map_append, bds_append]
        have e3 : (s.take i ++ [b]).isEmpty = ((s.take i).isEmpty && false) := by simp
        rw [e3]; rfl
      · have e1 : i = s.length := by omega
        subst e1
        refine .stop (.exit 0 [(0, iBd z s e), (3, .own s.isEmpty 40 2 (bds (s.map freshB))), (4, iI s.length)]) (wpQ_way (q5_l0a _ _ z (bds s) e _ _ s.length _) ?_) rfl rfl
        rw [bds_len, condW_d, if_neg (by omega), List.take_length]) 0 (Nat.zero_le _)
  rw [List.take_zero] at h1
  exact ⟨_, _, _, _, _, _, h1, rfl⟩
theorem w_samebinds {s : List Bd} (hs : LenM s) (z z' : Bool) (e e' : List D) : C 14 [iBd z s e, iBd z' (s.map freshB) e'] = some (iB true, [iBd z s e, iBd z' (s.map freshB) e']) := by
  obtain ⟨hn, hr⟩ := hs
  refine wfn (lk := []) rfl rfl (fnW_way (q14 _ _ z (bds s) e z' (bds (s.map freshB)) e' _) ?_)
  have e1 : (bds (s.map freshB)).length = s.length := by rw [bds_len]; simp
  have e2 : (((bds s).length : Int) != ((bds (s.map freshB)).length : Int)) = false := by rw [bds_len, e1]; simp
  rw [e2, condW_ff]
  have h1 := blk_fun (F := F) (d := d14) (lk := []) (p := [1,1,0,1,0,0]) (p0 := [1,1,0,1]) (id := 0) (by kernel_rfl) (st := fun (i : Nat) => [(0, iBd z s e), (1, iBd z' (s.map freshB) e'), (5, iI i)]) (I := fun i => i ≤ s.length) (μ := fun i => s.length - i)
    (res := fun _ => .norm [(0, iBd z s e), (1, iBd z' (s.map freshB) e'), (5, iI s.length)])
    (fun i hi => by
      by_cases h : i < s.length
      · obtain ⟨b, hb⟩ := at_lt h
        have hL := hr b (List.mem_of_getElem? hb)
        have hf : (s.map freshB)[i]? = some (freshB b) := by rw [List.getElem?_map, hb]; rfl
        refine .go (i + 1) (wpQ_way (q14_l0a _ _ z (bds s) e z' _ e' i _) ?_) h (by omega) rfl
        rw [bds_len, condW_d, if_pos (by omega), condW_d, if_pos (by omega), Int.toNat_natCast]
        refine ⟨_, _, _, _, bds_at hb, ?_⟩
        rw [condW_d, if_pos (by omega)]
        refine ⟨_, _, _, _, bds_at hf, ?_⟩
        have e3 : (b.v != (freshB b).v) = false := by simp [freshB]
        rw [e3, condW_ff, condW_d, if_pos (by omega)]
        refine ⟨_, _, _, _, bds_at hb, ?_⟩
        rw [condW_d, if_pos (by omega)]
        refine ⟨_, _, _, _, bds_at hf, _, _, _, w_sameints hL (freshB b).r.l _ _ _ _, ?_⟩
        rw [decide_eq_true (show b.r.l = (freshB b).r.l from rfl), condW_tt, wr1 h (by omega)]
      · have e1 : i = s.length := by omega
        subst e1
        refine .stop (.exit 0 [(0, iBd z s e), (1, iBd z' (s.map freshB) e'), (5, iI s.length)]) (wpQ_way (q14_l0a _ _ z (bds s) e z' _ e' s.length _) ?_) rfl rfl
        rw [bds_len, condW_d, if_neg (by omega)]) 0 (Nat.zero_le _)
  exact Or.inr ⟨_, _, _, _, _, _, _, h1, rfl⟩
/-! ### The document's binds -/
theorem terms_one {g : List Sym} (hg : sigB g = true) (r : List Int) : (termsM g r != 1) = !(oneB g r) := by
  unfold termsM
  cases h : rowP g r with
  | none =>
    have h2 : rowB g r = false := by simp [rowB, hg, h]
    simp [oneB, h2]
  | some ts =>
    have hr : rowB g r = true := by simp [rowB, hg, h]
    obtain ⟨_, h1, ts', h2, h3⟩ := rowB_parts hr
    rw [h] at h3; cases h3
    have h4 := termsN_of hg h1 h2
    by_cases h5 : ts.length = 1
    · simp [oneB, hr, h4, h5]
    · have h6 : ((ts.length : Int) != 1) = true := by simp; omega
      rw [h6]; simp [oneB, hr, h4, h5]
theorem terms_row {g : List Sym} (hg : sigB g = true) (r : List Int) : decide (termsM g r < 0) = !(rowB g r) := by
  unfold termsM
  cases h : rowP g r with
  | none => simp [rowB, hg, h]
  | some ts =>
    have hr : rowB g r = true := by simp [rowB, hg, h]
    rw [hr]; simp
theorem one_first {g : List Sym} {t : List Int} (h : oneB g t = true) {v : Int} (hv : 0 ≤ v ∧ v ≤ 23) : ∃ c m, t = c :: m ∧ (c == -1 - v) = aloneB t v := by
  obtain ⟨_, _, hl⟩ := one_lenN h
  cases t with
  | nil => simp [lenN] at hl
  | cons c m =>
    refine ⟨c, m, rfl, ?_⟩
    by_cases hc : c = -1 - v
    · obtain ⟨a, k, ha, hk, hlen⟩ := lenN_some hl
      have ha0 : a = 0 := by
        unfold arOf at ha; rw [if_pos (by omega)] at ha; split at ha <;> simp at ha; exact ha.symm
      subst ha0
      have hm : m = [] := by
        have : k = 0 := by cases m <;> simp [lenN] at hk <;> omega
        subst this
        simpa using hlen
      subst hm; subst hc
      simp [aloneB]
    · simp [aloneB, hc]
theorem w_rbmay {s : List Bd} (hl : LenB s) (z z' : Bool) (g : List Sym) (e e' : List D) : C 9 [iG z g e, iBd z' s e'] = some (iB (bindB g s), [iG z g e, iBd z' s e']) := by
  unfold LenB at hl
  refine wfn (lk := []) rfl rfl (fnW_way (q9 _ _ z (syms g) e z' (bds s) e' _) ?_)
  refine ⟨_, _, w_rmay z g e, ?_⟩
  cases hg : sigB g
  · simp [bindB, hg]
  rw [condW_tt]
  have turn : ∀ i, i < s.length → ∀ Q : Out → Prop, condW (bindAt g s i) (Q (.norm [(0, iG z g e), (1, iBd z' s e'), (5, iI (i + 1 : Nat))])) (Q (.ret [(4, iB false)])) → wpQ F (Go.Ab.W F) R L9 (JW F d9 []) d9 [] [1,1,0,1,0,0] [(0, iG z g e), (1, iBd z' s e'), (5, iI i)] Q := fun i hi Q hQ => by
    obtain ⟨b, hb⟩ := at_lt hi
    rw [q9_l0a]
    have hi0 : (0 : Int) ≤ (i : Int) := by omega
    rw [bds_len, condW_d, if_pos (by omega), condW_d, if_pos hi0, Int.toNat_natCast]
    refine ⟨_, _, _, _, bds_at hb, ?_⟩
    rw [condW_d]
    unfold bindAt at hQ
    rw [hb] at hQ
    dsimp only at hQ
    by_cases c1 : b.v < 0
    · rw [if_pos c1]
      have : ¬ 0 ≤ b.v := by omega
      simpa [this] using hQ
    rw [if_neg c1, condW_d, if_pos hi0]
    refine ⟨_, _, _, _, bds_at hb, ?_⟩
    rw [condW_d]
    have c1' : 0 ≤ b.v := by omega
    by_cases c2 : b.v > 23
    · rw [if_pos c2]
      have : ¬ b.v ≤ 23 := by omega
      simpa [this] using hQ
    rw [if_neg c2, condW_d]
    have c2' : b.v ≤ 23 := by omega
    have ht := w_rterms (sigOk hg) z b.r.z e b.r.e b.r.l
    have hw : IntKind.wrap .i64 (-1 - b.v) = -1 - b.v := wr _ (by omega) (by omega)
    have tail : ∀ {x : Bool}, x = true → condW (x && (oneB g b.r.l && !(aloneB b.r.l b.v))) (Q (.norm [(0, iG z g e), (1, iBd z' s e'), (5, iI (i + 1 : Nat))])) (Q (.ret [(4, iB false)])) → condW (decide ((0 : Int) ≤ (i : Int))) (∃ w16 w17 w18 w19, (bds s)[i]? = some (D.agg [D.int .i64 w16, D.sl 1 w17 w18 w19]) ∧ ∃ w20 w21 w22, C 19 [iG z g e, IV.d (D.sl 1 w17 w18 w19)] = some (iI w20, [w21, w22]) ∧ condW (w20 != 1) (Q (Out.ret [(4, iB false)])) (condW (decide ((0 : Int) ≤ (i : Int))) (∃ w23 w24 w25 w26, (bds s)[i]? = some (D.agg [D.int .i64 w23, D.sl 1 w24 w25 w26]) ∧ ∃ w27, w25[0]? = some (D.int .i64 w27) ∧ condW (decide ((0 : Int) ≤ (i : Int))) (∃ w28 w29 w30 w31, (bds s)[i]? = some (D.agg [D.int .i64 w28, D.sl 1 w29 w30 w31]) ∧ condW (w27 == IntKind.wrap .i64 (-1 - w28)) (Q (Out.ret [(4, iB false)])) (Q (Out.norm [(0, iG z g e), (1, iBd z' s e'), (5, iI (IntKind.wrap .i64 ((i : Int) + 1)))]))) False) False)) False := fun {x} hx hq => by
      subst hx
      rw [condW_d, if_pos hi0]
      refine ⟨_, _, _, _, bds_at hb, _, _, _, ht, ?_⟩
      rw [terms_one hg]
      cases ho : oneB g b.r.l
      · rw [ho] at hq; simpa using hq
      · rw [Bool.not_true, condW_ff, condW_d, if_pos hi0]
        obtain ⟨c, m, hcm, hal⟩ := one_first ho ⟨c1', c2'⟩
        refine ⟨_, _, _, _, bds_at hb, c, by rw [hcm]; rfl, ?_⟩
        rw [condW_d, if_pos hi0]
        refine ⟨_, _, _, _, bds_at hb, ?_⟩
        rw [hw, hal, wr1 hi (by omega)]
        rw [ho] at hq
        cases ha : aloneB b.r.l b.v
        · rw [ha] at hq; rw [condW_ff]; simpa using hq
        · rw [ha] at hq; rw [condW_tt]; simpa using hq
    rw [decide_eq_true c1', decide_eq_true c2', Bool.true_and, Bool.true_and] at hQ
    by_cases c3 : i = 0
    · subst c3
      rw [if_neg (by simp)]
      refine tail (x := match s[0 - 1]? with | some a => decide (0 = 0) || decide (a.v < b.v) | none => true) ?_ hQ
      split <;> rfl
    · have hw1 : IntKind.wrap .i64 ((i : Int) - 1) = ((i - 1 : Nat) : Int) := by rw [wr _ (by omega) (by omega)]; omega
      obtain ⟨a, ha⟩ := at_lt (l := s) (i := i - 1) (by omega)
      rw [if_pos (by omega), hw1, condW_d, if_pos (by omega), Int.toNat_natCast]
      refine ⟨_, _, _, _, bds_at ha, ?_⟩
      rw [condW_d, if_pos hi0]
      refine ⟨_, _, _, _, bds_at hb, ?_⟩
      rw [condW_d]
      rw [ha] at hQ
      dsimp only at hQ
      by_cases c4 : a.v ≥ b.v
      · rw [if_pos c4]
        have : ¬ a.v < b.v := by omega
        simpa [this, c3] using hQ
      · rw [if_neg c4]
        refine tail (x := decide (i = 0) || decide (a.v < b.v)) ?_ hQ
        simp; omega
  rcases blk_all (F := F) (d := d9) (lk := []) (p := [1,1,0,1,0,0]) (p0 := [1,1,0,1]) (by kernel_rfl) (n := s.length) (id := 0) (st := fun i => [(0, iG z g e), (1, iBd z' s e'), (5, iI i)]) (q := bindAt g s) (rt := [(4, iB false)]) (e := [(0, iG z g e), (1, iBd z' s e'), (5, iI s.length)])
    (fun i hi hq => wpQ_way rfl (turn i hi _ (by rw [hq, condW_tt])))
    (fun i hi hq => wpQ_way rfl (turn i hi _ (by rw [hq, condW_ff])))
    (wpQ_way (q9_l0a _ _ z (syms g) e z' (bds s) e' s.length _) (by rw [bds_len, condW_d, if_neg (by omega)])) 0 (Nat.zero_le _) with ⟨h2, h3⟩ | ⟨⟨j, h2, h4, h5⟩, h3⟩
  · have h6 : bindB g s = true := by
      simp only [bindB, hg, Bool.true_and, List.all_eq_true, List.mem_range]
      exact fun j hj => h2 j (Nat.zero_le _) hj
    rw [h6]
    simp at h3
    exact Or.inr ⟨_, _, _, _, _, _, _, h3, rfl⟩
  · have h6 : bindB g s = false := by
      simp only [bindB, hg, Bool.true_and]
      rw [List.all_eq_false]
      exact ⟨j, List.mem_range.2 h4, by simp [h5]⟩
    rw [h6]
    simp at h3
    exact Or.inl ⟨_, h3, rfl⟩
theorem w_of {s : List Bd} (hl : LenB s) (z : Bool) (e : List D) (v : Int) : ∃ k : Int, C 32 [iBd z s e, iI v] = some (iI k, [iBd z s e, iI v]) ∧ ((k < 0 ∧ findB s v = ⟨true, [], []⟩) ∨ ∃ (j : Nat) (b : Bd), k = (j : Int) ∧ s[j]? = some b ∧ findB s v = b.r) := by
  unfold LenB at hl
  rcases blk_find (F := F) (d := d32) (lk := []) (p := [1,0,1,0,0]) (p0 := [1,0,1]) (by kernel_rfl) (n := s.length) (id := 0) (st := fun i => [(0, iBd z s e), (1, iI v), (5, iI i)]) (q := fun i => match s[i]? with | some b => b.v == v | none => false) (rt := fun i => [(4, iI i)]) (e := [(0, iBd z s e), (1, iI v), (5, iI s.length)])
    (fun i hi hq => by
      refine wpQ_way (q32_l0a _ _ z (bds s) e v i _) ?_
      obtain ⟨b, hb⟩ := at_lt hi
      rw [hb] at hq
      dsimp only at hq
      rw [bds_len, condW_d, if_pos (by omega), condW_d, if_pos (by omega), Int.toNat_natCast]
      refine ⟨_, _, _, _, bds_at hb, ?_⟩
      rw [hq, condW_ff, wr1 hi (by omega)])
    (fun i hi hq => by
      refine wpQ_way (q32_l0a _ _ z (bds s) e v i _) ?_
      obtain ⟨b, hb⟩ := at_lt hi
      rw [hb] at hq
      dsimp only at hq
      rw [bds_len, condW_d, if_pos (by omega), condW_d, if_pos (by omega), Int.toNat_natCast]
      refine ⟨_, _, _, _, bds_at hb, ?_⟩
      rw [hq, condW_tt])
    (wpQ_way (q32_l0a _ _ z (bds s) e v s.length _) (by rw [bds_len, condW_d, if_neg (by omega)])) 0 (Nat.zero_le _) with ⟨h2, h3⟩ | ⟨j, h1, h2, h4, h5, h3⟩
  · have hf : findB s v = ⟨true, [], []⟩ := findB_none (fun k hk c hc => by
      have := h2 k (Nat.zero_le _) hk
      rw [hc] at this; simpa using this)
    simp at h3
    refine ⟨-1, wfn (lk := []) rfl rfl (fnW_way (q32 _ _ z (bds s) e v _) ?_), Or.inl ⟨by decide, hf⟩⟩
    exact Or.inr ⟨_, _, _, _, _, h3, rfl⟩
  · obtain ⟨b, hb⟩ := at_lt h2
    rw [hb] at h4
    have hf : findB s v = b.r := findB_some hb (by simpa using h4) (fun k hk c hc => by
      have := h5 k (Nat.zero_le _) hk
      rw [hc] at this; simpa using this)
    simp at h3
    refine ⟨j, wfn (lk := []) rfl rfl (fnW_way (q32 _ _ z (bds s) e v _) ?_), Or.inr ⟨j, b, rfl, hb, hf⟩⟩
    exact Or.inl ⟨_, h3, rfl⟩
theorem w_put {g : List Sym} {s : List Bd} (hs : bindB g s = true) (hn : NilOk s) (hl : LenB s) {r : List Int} (hr : r.length ≤ 1000) (hc : ∀ c ∈ r, -1000000 ≤ c ∧ c ≤ 1000000) (z z' : Bool) (e e' : List D) : C 20 [iBd z s e, iS z' r e'] = some (.own (onB s r).isEmpty 3 1 (ints (onB s r)), [iBd z s e, iS z' r e']) := by
  refine wfn (lk := []) rfl rfl (fnW_way (q20 _ _ z (bds s) e z' (ints r) e' _) ?_)
  have h1 := fun x hx => blk_fun (F := F) (d := d20) (lk := []) (p := [1,1,0,1,0,0]) (p0 := [1,1,0,1]) (id := 0) (by kernel_rfl) (st := fun (x : List Int × Nat) => [(0, iBd z s e), (1, iS z' r e'), (5, .own x.1.isEmpty 3 1 (ints x.1)), (6, iI x.2)]) (I := fun x => x.2 ≤ r.length ∧ x.1.length ≤ 48 * x.2) (μ := fun x => r.length - x.2)
    (res := fun x => .norm [(0, iBd z s e), (1, iS z' r e'), (5, .own (x.1 ++ onB s (r.drop x.2)).isEmpty 3 1 (ints (x.1 ++ onB s (r.drop x.2)))), (6, iI r.length)])
    (fun x hx => by
      obtain ⟨acc, i⟩ := x
      obtain ⟨hx1, hx2⟩ := hx
      dsimp only at hx1 hx2
      by_cases hi : i < r.length
      · have hci := hc _ (gi_mem hi)
        have hi0 : (0 : Int) ≤ (i : Int) := by omega
        have hw : IntKind.wrap .i64 (-1 - gi r i) = -1 - gi r i := wr _ (by omega) (by omega)
        have hcl := onC_len hs hn (gi r i)
        have n1 : acc.length + (0 + 1) ≤ 9223372036854775807 := by omega
        have n2 : (acc.length + (0 + 1)) * 8 ≤ 140737488355328 := by omega
        refine .go (acc ++ onC s (gi r i), i + 1) (wpQ_way (q20_l0a _ _ z (bds s) e z' (ints r) e' _ (ints acc) i _) ?_) ⟨by dsimp only; omega, by simp; omega⟩ (by dsimp only; omega) ?_
        · have h1c : ∀ c : Int, onC s (gi r i) = [c] → Out.norm [(0, iBd z s e), (1, iS z' r e'), (5, IV.own (acc.isEmpty && false) 3 1 (ints acc ++ [D.int .i64 c])), (6, iI (i + 1 : Nat))] = Out.norm [(0, iBd z s e), (1, iS z' r e'), (5, .own (acc ++ onC s (gi r i)).isEmpty 3 1 (ints (acc ++ onC s (gi r i)))), (6, iI (i + 1 : Nat))] := fun c h => by
            rw [h]; simp [ints_append, ints_cons, ints_nil]
          rw [ints_len, condW_d, if_pos (by omega), condW_d, if_pos hi0, Int.toNat_natCast]
          refine ⟨_, Go.Ab.ints_at hi, ?_⟩
          rw [condW_d]
          by_cases h0 : gi r i < 0
          · have h0' : ¬ 0 ≤ gi r i := by omega
            rw [if_pos h0, condW_d, if_pos hi0]
            obtain ⟨k, hk, hcase⟩ := w_of hl z e (-1 - gi r i)
            refine ⟨_, Go.Ab.ints_at hi, k, _, _, by rw [hw]; exact hk, ?_⟩
            rw [condW_d, wr1 hi (by omega)]
            rcases hcase with ⟨k0, hf⟩ | ⟨j, b, rfl, hb, hf⟩
            · rw [if_pos k0, condW_d, if_pos hi0]
              refine ⟨_, Go.Ab.ints_at hi, ?_⟩
              rw [ints_len, condW_d, if_pos n1, condW_d, if_pos n2]
              exact h1c _ (by rw [onC, if_neg h0', hf]; rfl)
            · rw [if_neg (by omega), condW_d, if_pos (by omega), Int.toNat_natCast]
              have hbz : b.r.z = false ∧ b.r.l.length ≤ 48 := by
                have h5 := bindB_at hs hb
                have h7 := one_lenN h5.2.2.1
                refine ⟨?_, h7.2.1⟩
                cases hz : b.r.z with
                | false => rfl
                | true =>
                  have := hn b (List.mem_of_getElem? hb) hz
                  rw [this] at h7; simp [lenN] at h7
              refine ⟨_, _, _, _, bds_at hb, ?_⟩
              rw [ints_len, ints_len, condW_d, if_pos (by omega), condW_d, if_pos (by omega)]
              have hon : onC s (gi r i) = b.r.l := by rw [onC, if_neg h0', hf, if_neg (by simp [hbz.1])]
              rw [hon]
              have e3 : (acc ++ b.r.l).isEmpty = (acc.isEmpty && (ints b.r.l).isEmpty) := by
                cases acc <;> cases b.r.l <;> rfl
              rw [e3, ints_append]
          · rw [if_neg h0, condW_d, if_pos hi0, wr1 hi (by omega)]
            refine ⟨_, Go.Ab.ints_at hi, ?_⟩
            rw [ints_len, condW_d, if_pos n1, condW_d, if_pos n2]
            exact h1c _ (by rw [onC, if_pos (by omega)])
        · dsimp only
          rw [gi_drop hi, onB, List.append_assoc]
      · have e1 : i = r.length := by omega
        subst e1
        refine .stop (.exit 0 [(0, iBd z s e), (1, iS z' r e'), (5, .own acc.isEmpty 3 1 (ints acc)), (6, iI r.length)]) (wpQ_way (q20_l0a _ _ z (bds s) e z' (ints r) e' _ (ints acc) r.length _) ?_) rfl ?_
        · rw [ints_len, condW_d, if_neg (by omega)]
        · simp [blkO, onB]) x hx
  have h2 : evP F (Go.Ab.W F) (JW F d20 []) d20 [] [1,1,0,1] [(0, iBd z s e), (1, iS z' r e'), (5, .own true 3 1 []), (6, iI 0)] = _ := h1 ([], 0) ⟨Nat.zero_le _, Nat.zero_le _⟩
  rw [List.drop_zero, List.nil_append] at h2
  exact ⟨_, _, _, _, _, _, _, _, _, h2, rfl⟩
theorem w_rapply {s : List Bd} (hn : NilOk s) (hl : LenB s) (z z' z'' : Bool) (g : List Sym) (e e' e'' : List D) (r : List Int) : C 7 [iG z g e, iBd z' s e', iS z'' r e''] = some (.tup [.own (appV g s r).isEmpty 3 1 (ints (appV g s r)), iI (appE g s r)], [iG z g e, iBd z' s e', iS z'' r e'']) := by
  refine wfn (lk := []) rfl rfl (fnW_way (q7 _ _ z (syms g) e z' (bds s) e' z'' (ints r) e'' _) ?_)
  refine ⟨_, _, _, w_rbmay hl z z' g e e', ?_⟩
  cases hs : bindB g s
  · have h1 : appE g s r = 300 := by simp [appE, hs]
    have h2 : appV g s r = [] := by simp [appV, h1]
    rw [condW_ff, h1, h2]; rfl
  rw [condW_tt]
  have hg : sigB g = true := by
    simp only [bindB, Bool.and_eq_true] at hs; exact hs.1
  refine ⟨_, _, _, w_rterms (sigOk hg) z z'' e e'' r, ?_⟩
  rw [terms_row hg]
  cases hr : rowB g r
  · have h1 : appE g s r = 300 := by simp [appE, hr]
    have h2 : appV g s r = [] := by simp [appV, h1]
    rw [Bool.not_false, condW_tt, h1, h2]; rfl
  rw [Bool.not_true, condW_ff]
  have hlen := (rowB_parts hr).2.1
  refine ⟨_, _, _, _, w_put hs hn hl (r := r) (by omega) (fun c hc => by have := row_codes hr c hc; have := (sigOk hg).hi; omega) z' z'' e' e'', ?_⟩
  rw [ints_len, condW_d]
  by_cases h48 : (onB s r).length > 48
  · have h1 : appE g s r = 301 := by simp [appE, hs, hr, h48]
    have h2 : appV g s r = [] := by simp [appV, h1]
    rw [if_pos (by omega), h1, h2]; rfl
  · have h1 : appE g s r = 0 := by simp [appE, hs, hr, h48]
    have h2 : appV g s r = onB s r := by simp [appV, h1]
    rw [if_neg (by omega), h1, h2]
/-! ### Arguments -/
theorem good_row {n : Nat} {x : D} (h : Go.Ab.Good Tryd.prog (n + 2) 24 x) : ∃ z l, x = .sl 1 z (ints l) [] ∧ Len l ∧ (z = true → l = []) := by
  unfold Go.Ab.Good at h
  rw [Tryd.underlying24] at h
  obtain ⟨z, xs, rfl, h1, h2, h3⟩ := h
  have hc : Tryd.prog.cellsOf 3 = 1 := by kernel_rfl
  have hb : Tryd.prog.bytesOf 3 = 8 := by kernel_rfl
  rw [hb] at h1
  rw [hc]
  obtain ⟨l, rfl, _⟩ := all_map (f := D.int .i64) (Q := fun _ => True) (fun y hy => by obtain ⟨a, ha, _⟩ := good_int (h2 y hy); exact ⟨a, ha, trivial⟩)
  rw [List.length_map] at h1
  exact ⟨z, l, rfl, by unfold Len; simpa [reachBytes] using h1, fun hz => by simpa using h3 hz⟩
theorem good_bind {n : Nat} {x : D} (h : Go.Ab.Good Tryd.prog (n + 3) 40 x) : ∃ b : Bd, x = b.d ∧ ((b.r.z = true → b.r.l = []) ∧ Len b.r.l) := by
  unfold Go.Ab.Good at h
  rw [Tryd.underlying40] at h
  obtain ⟨ys, rfl, y0, r0, rfl, h0, y1, r1, rfl, h1, rfl⟩ := h
  obtain ⟨a, rfl, _⟩ := good_int h0
  obtain ⟨z, l, rfl, hl, hz⟩ := good_row h1
  exact ⟨⟨a, ⟨z, l, []⟩⟩, rfl, hz, hl⟩
theorem good_binds {n : Nat} {x : D} (h : Go.Ab.Good Tryd.prog (n + 4) 23 x) : ∃ z s, x = .sl 2 z (bds s) [] ∧ LenM s ∧ NilOk s := by
  unfold Go.Ab.Good at h
  rw [Tryd.underlying23] at h
  obtain ⟨z, xs, rfl, h1, h2, h3⟩ := h
  have hc : Tryd.prog.cellsOf 40 = 2 := by kernel_rfl
  have hb : Tryd.prog.bytesOf 40 = 32 := by kernel_rfl
  rw [hb] at h1
  rw [hc]
  obtain ⟨s, rfl, h4⟩ := all_map (f := Bd.d) (Q := fun b => (b.r.z = true → b.r.l = []) ∧ Len b.r.l) (fun y hy => good_bind (h2 y hy))
  rw [List.length_map] at h1
  exact ⟨z, s, rfl, ⟨by simp [reachBytes] at h1; omega, fun b hb => (h4 b hb).2⟩, fun b hb => (h4 b hb).1⟩
/-! ### The law -/
theorem law_binds (z : Bool) (g : List Sym) (z1 z2 : Bool) {s : List Bd} (hs : LenM s) (hn : NilOk s) {r : List Int} (hr : Len r) : C 3 [iG z g [], iBd z1 s [], iS z2 r []] = some (iB true, [iG z g [], iBd z1 s [], iS z2 r []]) := by
  refine wfn (lk := []) rfl rfl (fnW_way (q3 _ _ z (syms g) [] z1 (bds s) [] z2 (ints r) [] _) ?_)
  have hB := lenM_B hs
  have hL : Len (appV g s r) := by
    unfold Len
    unfold appV
    split
    · rename_i h
      unfold appE at h
      split at h
      · split at h
        · cases h
        · omega
      · cases h
    · simp
  refine ⟨_, _, _, _, w_lend hr z2 [], _, _, _, w_copybinds hs z1 [], _, _, _, _, _, _, w_apply hn hB z z1 false g [] [] _ r, _, _, _, _, _, _, w_rapply hn hB z z1 z2 g [] [] [] r, _, _, _, w_bmay hB z z1 g [] [], ?_⟩
  cases hb : bindB g s
  · rw [condW_ff]
    refine ⟨_, _, _, w_rbmay hB z z1 g [] [], ?_⟩
    rw [hb, condW_ff]
    refine ⟨_, _, _, w_sameints hL _ _ _ [] [], ?_⟩
    rw [decide_eq_true rfl, condW_tt]
    refine ⟨_, _, w_num _, ?_⟩
    rw [bne_self_eq_false, condW_ff]
    refine ⟨w_spoil hL _, _, _, _, w_kept hr r false z2 [] rfl, ?_⟩
    rw [condW_tt]
    refine ⟨_, _, _, w_samebinds hs z1 _ [] [], ?_⟩
    rw [condW_tt]
    refine ⟨_, w_awake, ?_⟩
    rw [condW_tt]
  · rw [condW_tt]
    refine ⟨_, _, _, w_rbmay hB z z1 g [] [], ?_⟩
    rw [hb, condW_tt]
    refine ⟨_, _, _, w_sameints hL _ _ _ [] [], ?_⟩
    rw [decide_eq_true rfl, condW_tt]
    refine ⟨_, _, w_num _, ?_⟩
    rw [bne_self_eq_false, condW_ff]
    refine ⟨w_spoil hL _, _, _, _, w_kept hr r false z2 [] rfl, ?_⟩
    rw [condW_tt]
    refine ⟨_, _, _, w_samebinds hs z1 _ [] [], ?_⟩
    rw [condW_tt]
    refine ⟨_, w_awake, ?_⟩
    rw [condW_tt]
theorem call_binds (y0 y1 y2 : D) (h0 : Go.Ab.Good Tryd.prog 12 22 y0) (h1 : Go.Ab.Good Tryd.prog 12 23 y1) (h2 : Go.Ab.Good Tryd.prog 12 24 y2) : ∃ outs, C 3 [.d y0, .d y1, .d y2] = some (iB true, outs) := by
  obtain ⟨z, g, rfl⟩ := good_sig h0
  obtain ⟨z1, s, rfl, a1, a2⟩ := good_binds h1
  obtain ⟨z2, r, rfl, hl, _⟩ := good_row h2
  exact ⟨_, law_binds z g z1 z2 a1 a2 hl⟩
end Go.Proofs.YtgoccciejigpeaaDoor.Ab
