/- Written by a program of this session (wip/tools/AbSym.lean). Not trusted: Lean checks it. -/
import Derived.Test.YtmldmhbdeejcnaaDoorSimpHolds0
import Derived.Test.YtmldmhbdeejcnaaDoorSimpHolds1
import Derived.Test.YtmldmhbdeejcnaaDoorSimpHolds2
import Derived.Test.YtmldmhbdeejcnaaDoorSimpHolds3
import Derived.Test.YtmldmhbdeejcnaaDoorSimpHolds4
import Derived.Test.YtmldmhbdeejcnaaDoorSimpHolds5
import Derived.Test.YtmldmhbdeejcnaaDoorSimpHolds6
import Derived.Test.YtmldmhbdeejcnaaDoorSimpHolds7
import Derived.Test.YtmldmhbdeejcnaaDoorSimpHolds8
import Derived.Test.YtmldmhbdeejcnaaDoorSimpHolds9
import Derived.Test.YtmldmhbdeejcnaaDoorSimpHolds10
import Derived.Test.YtmldmhbdeejcnaaDoorSimpHolds11
import Derived.Test.YtmldmhbdeejcnaaDoorSimpHolds12
set_option maxRecDepth 100000
set_option linter.unusedVariables false
namespace Go.Proofs.YtmldmhbdeejcnaaDoor.Ab
open Go Go.Ab Go.Proofs
theorem q66_l0bn (C J) (z1 : Bool) (x2 : List D) (e3 : List D) (z4 : Bool) (x5 : List D) (e6 : List D) (z7 : Bool) (x8 : List D) (e9 : List D) (z10 : Bool) (x11 : List D) (z12 : Bool) (x13 : List D) (z14 : Bool) (x15 : List D) (z16 : Bool) (x17 : List D) (e18 : List D) (i19 : Int) (i20 : Int) (Q) : wpQ F C R (L66) J d66 [] [1,1,0,1,0,0] [(1, .d (.fn 39)), (2, .dbox 39 0 [.sl 2 z1 x2 e3, .sl 1 z4 x5 e6, .sl 2 z7 x8 e9]), (4, .dbox 39 0 [.sl 2 true [] [], .sl 1 true [] [], .sl 2 true [] []]), (5, .ptr 39 0 [.own z10 35 2 x11, .own z12 23 1 x13, .own z14 35 2 x15]), (13, .d (.sl 2 z16 x17 e18)), (14, .d (.int .i64 i19)), (15, .d (.int .i64 i20))] Q = (condW (decide (i20 < i19)) (condW (decide (0 ≤ i20)) (∃ w0 w1 w2 w3, x17[Int.toNat i20]? = some (D.agg [D.bool w0, D.sl 1 w1 w2 w3]) ∧ condW w0 (∃ w4 w5 w6, C 39 [IV.d (D.sl 1 w1 w2 w3)] = some (IV.own w4 3 1 w5, [IV.d w6]) ∧ condW (decide (List.length x11 + (0 + 1) ≤ 9223372036854775807)) (condW (decide ((List.length x11 + (0 + 1)) * 32 ≤ 140737488355328)) (Q (Out.norm [(1, IV.d (D.fn 39)), (2, IV.dbox 39 0 [D.sl 2 z1 x2 e3, D.sl 1 z4 x5 e6, D.sl 2 z7 x8 e9]), (4, IV.dbox 39 0 [D.sl 2 true [] [], D.sl 1 true [] [], D.sl 2 true [] []]), (5, IV.ptr 39 0 [IV.own (z10 && false) 35 2 (x11 ++ [D.agg [D.bool true, D.sl 1 w4 w5 []]]), IV.own z12 23 1 x13, IV.own z14 35 2 x15]), (13, IV.d (D.sl 2 z16 x17 e18)), (14, IV.d (D.int IntKind.i64 i19)), (15, IV.d (D.int IntKind.i64 (IntKind.wrap IntKind.i64 (i20 + 1))))])) False) False) (∃ w7 w8 w9, C 39 [IV.d (D.sl 1 w1 w2 w3)] = some (IV.own w7 3 1 w8, [IV.d w9]) ∧ condW (decide (List.length x11 + (0 + 1) ≤ 9223372036854775807)) (condW (decide ((List.length x11 + (0 + 1)) * 32 ≤ 140737488355328)) (Q (Out.norm [(1, IV.d (D.fn 39)), (2, IV.dbox 39 0 [D.sl 2 z1 x2 e3, D.sl 1 z4 x5 e6, D.sl 2 z7 x8 e9]), (4, IV.dbox 39 0 [D.sl 2 true [] [], D.sl 1 true [] [], D.sl 2 true [] []]), (5, IV.ptr 39 0 [IV.own (z10 && false) 35 2 (x11 ++ [D.agg [D.bool false, D.sl 1 w7 w8 []]]), IV.own z12 23 1 x13, IV.own z14 35 2 x15]), (13, IV.d (D.sl 2 z16 x17 e18)), (14, IV.d (D.int IntKind.i64 i19)), (15, IV.d (D.int IntKind.i64 (IntKind.wrap IntKind.i64 (i20 + 1))))])) False) False)) False) (Q (Out.exit 0 [(1, IV.d (D.fn 39)), (2, IV.dbox 39 0 [D.sl 2 z1 x2 e3, D.sl 1 z4 x5 e6, D.sl 2 z7 x8 e9]), (4, IV.dbox 39 0 [D.sl 2 true [] [], D.sl 1 true [] [], D.sl 2 true [] []]), (5, IV.ptr 39 0 [IV.own z10 35 2 x11, IV.own z12 23 1 x13, IV.own z14 35 2 x15]), (13, IV.d (D.sl 2 z16 x17 e18)), (14, IV.d (D.int IntKind.i64 i19)), (15, IV.d (D.int IntKind.i64 i20))]))) := by kernel_rfl
theorem q66_l2bn (C J) (z1 : Bool) (x2 : List D) (e3 : List D) (z4 : Bool) (x5 : List D) (e6 : List D) (z7 : Bool) (x8 : List D) (e9 : List D) (z10 : Bool) (x11 : List D) (z12 : Bool) (x13 : List D) (z14 : Bool) (x15 : List D) (z16 : Bool) (x17 : List D) (e18 : List D) (i19 : Int) (i20 : Int) (Q) : wpQ F C R (L66) J d66 [] [1,1,1,0,1,0,0] [(1, .d (.fn 39)), (2, .dbox 39 0 [.sl 2 z1 x2 e3, .sl 1 z4 x5 e6, .sl 2 z7 x8 e9]), (4, .dbox 39 0 [.sl 2 true [] [], .sl 1 true [] [], .sl 2 true [] []]), (5, .ptr 39 0 [.own z10 35 2 x11, .own z12 23 1 x13, .own z14 35 2 x15]), (33, .d (.sl 1 z16 x17 e18)), (34, .d (.int .i64 i19)), (35, .d (.int .i64 i20))] Q = (condW (decide (i20 < i19)) (condW (decide (0 ≤ i20)) (∃ w0 w1 w2, x17[Int.toNat i20]? = some (D.sl 1 w0 w1 w2) ∧ ∃ w3 w4 w5, C 39 [IV.d (D.sl 1 w0 w1 w2)] = some (IV.own w3 3 1 w4, [IV.d w5]) ∧ condW (decide (List.length x13 + (0 + 1) ≤ 9223372036854775807)) (condW (decide ((List.length x13 + (0 + 1)) * 24 ≤ 140737488355328)) (Q (Out.norm [(1, IV.d (D.fn 39)), (2, IV.dbox 39 0 [D.sl 2 z1 x2 e3, D.sl 1 z4 x5 e6, D.sl 2 z7 x8 e9]), (4, IV.dbox 39 0 [D.sl 2 true [] [], D.sl 1 true [] [], D.sl 2 true [] []]), (5, IV.ptr 39 0 [IV.own z10 35 2 x11, IV.own (z12 && false) 23 1 (x13 ++ [D.sl 1 w3 w4 []]), IV.own z14 35 2 x15]), (33, IV.d (D.sl 1 z16 x17 e18)), (34, IV.d (D.int IntKind.i64 i19)), (35, IV.d (D.int IntKind.i64 (IntKind.wrap IntKind.i64 (i20 + 1))))])) False) False) False) (Q (Out.exit 2 [(1, IV.d (D.fn 39)), (2, IV.dbox 39 0 [D.sl 2 z1 x2 e3, D.sl 1 z4 x5 e6, D.sl 2 z7 x8 e9]), (4, IV.dbox 39 0 [D.sl 2 true [] [], D.sl 1 true [] [], D.sl 2 true [] []]), (5, IV.ptr 39 0 [IV.own z10 35 2 x11, IV.own z12 23 1 x13, IV.own z14 35 2 x15]), (33, IV.d (D.sl 1 z16 x17 e18)), (34, IV.d (D.int IntKind.i64 i19)), (35, IV.d (D.int IntKind.i64 i20))]))) := by kernel_rfl
theorem q66_l4bn (C J) (z1 : Bool) (x2 : List D) (z3 : Bool) (x4 : List D) (z5 : Bool) (x6 : List D) (z7 : Bool) (x8 : List D) (e9 : List D) (i10 : Int) (i11 : Int) (Q) : wpQ F C R (L66) J d66 [] [1,1,1,1,0,1,0,0] [(1, .d (.fn 39)), (4, .dbox 39 0 [.sl 2 true [] [], .sl 1 true [] [], .sl 2 true [] []]), (5, .ptr 39 0 [.own z1 35 2 x2, .own z3 23 1 x4, .own z5 35 2 x6]), (49, .d (.sl 2 z7 x8 e9)), (50, .d (.int .i64 i10)), (51, .d (.int .i64 i11))] Q = (condW (decide (i11 < i10)) (condW (decide (0 ≤ i11)) (∃ w0 w1 w2 w3, x8[Int.toNat i11]? = some (D.agg [D.bool w0, D.sl 1 w1 w2 w3]) ∧ condW w0 (∃ w4 w5 w6, C 39 [IV.d (D.sl 1 w1 w2 w3)] = some (IV.own w4 3 1 w5, [IV.d w6]) ∧ condW (decide (List.length x6 + (0 + 1) ≤ 9223372036854775807)) (condW (decide ((List.length x6 + (0 + 1)) * 32 ≤ 140737488355328)) (Q (Out.norm [(1, IV.d (D.fn 39)), (4, IV.dbox 39 0 [D.sl 2 true [] [], D.sl 1 true [] [], D.sl 2 true [] []]), (5, IV.ptr 39 0 [IV.own z1 35 2 x2, IV.own z3 23 1 x4, IV.own (z5 && false) 35 2 (x6 ++ [D.agg [D.bool true, D.sl 1 w4 w5 []]])]), (49, IV.d (D.sl 2 z7 x8 e9)), (50, IV.d (D.int IntKind.i64 i10)), (51, IV.d (D.int IntKind.i64 (IntKind.wrap IntKind.i64 (i11 + 1))))])) False) False) (∃ w7 w8 w9, C 39 [IV.d (D.sl 1 w1 w2 w3)] = some (IV.own w7 3 1 w8, [IV.d w9]) ∧ condW (decide (List.length x6 + (0 + 1) ≤ 9223372036854775807)) (condW (decide ((List.length x6 + (0 + 1)) * 32 ≤ 140737488355328)) (Q (Out.norm [(1, IV.d (D.fn 39)), (4, IV.dbox 39 0 [D.sl 2 true [] [], D.sl 1 true [] [], D.sl 2 true [] []]), (5, IV.ptr 39 0 [IV.own z1 35 2 x2, IV.own z3 23 1 x4, IV.own (z5 && false) 35 2 (x6 ++ [D.agg [D.bool false, D.sl 1 w7 w8 []]])]), (49, IV.d (D.sl 2 z7 x8 e9)), (50, IV.d (D.int IntKind.i64 i10)), (51, IV.d (D.int IntKind.i64 (IntKind.wrap IntKind.i64 (i11 + 1))))])) False) False)) False) (Q (Out.exit 4 [(1, IV.d (D.fn 39)), (4, IV.dbox 39 0 [D.sl 2 true [] [], D.sl 1 true [] [], D.sl 2 true [] []]), (5, IV.ptr 39 0 [IV.own z1 35 2 x2, IV.own z3 23 1 x4, IV.own z5 35 2 x6]), (49, IV.d (D.sl 2 z7 x8 e9)), (50, IV.d (D.int IntKind.i64 i10)), (51, IV.d (D.int IntKind.i64 i11))]))) := by kernel_rfl
end Go.Proofs.YtmldmhbdeejcnaaDoor.Ab

/- A clause without the Lits that cannot be: what the program's functions hand back. For every input; no condition. -/
set_option linter.unusedVariables false
set_option linter.unusedSimpArgs false
set_option maxRecDepth 100000
namespace Go.Proofs.YtmldmhbdeejcnaaDoor.Ab
open Go Go.Ab Go.Qu Go.Proofs
attribute [local simp] and_assoc
/-! ### Copies -/
def cpL (l : LitR) : LitR := ⟨l.neg, ⟨l.r.z, l.r.l, []⟩⟩
def cpR (r : Row) : Row := ⟨r.z, r.l, []⟩
abbrev fC : IV := .d (.fn 39)
theorem l_copy0 {c : Cl} (hn : c.ls.length ≤ 1000) (hr : ∀ l ∈ c.ls, RowOk l.r) (vs : List Row) (ws : List LitR) (x : List LitR × Nat) (hx : x.2 ≤ c.ls.length ∧ x.1.length ≤ x.2 ∧ x.1 ++ (c.ls.drop x.2).map cpL = c.ls.map cpL) : evP F (Go.Ab.W F) (JW F d66 []) d66 [] [1,1,0,1] [(1, fC), (2, bC c), (4, b0), (5, bO x.1 vs ws), (13, iL c.lz c.ls c.le), (14, iI c.ls.length), (15, iI x.2)] = some (.norm [(1, fC), (2, bC c), (4, b0), (5, bO (c.ls.map cpL) vs ws), (13, iL c.lz c.ls c.le), (14, iI c.ls.length), (15, iI c.ls.length)]) :=
  blk_fun (F := F) (d := d66) (lk := []) (p := [1,1,0,1,0,0]) (p0 := [1,1,0,1]) (id := 0) (by kernel_rfl) (st := fun (x : List LitR × Nat) => [(1, fC), (2, bC c), (4, b0), (5, bO x.1 vs ws), (13, iL c.lz c.ls c.le), (14, iI c.ls.length), (15, iI x.2)]) (I := fun x => x.2 ≤ c.ls.length ∧ x.1.length ≤ x.2 ∧ x.1 ++ (c.ls.drop x.2).map cpL = c.ls.map cpL) (μ := fun x => c.ls.length - x.2)
    (res := fun x => .norm [(1, fC), (2, bC c), (4, b0), (5, bO (c.ls.map cpL) vs ws), (13, iL c.lz c.ls c.le), (14, iI c.ls.length), (15, iI c.ls.length)])
    (fun x hx => by
      obtain ⟨us, i⟩ := x
      obtain ⟨hx1, hx2, hx3⟩ := hx
      dsimp only at hx1 hx2 hx3
      by_cases hi : i < c.ls.length
      · obtain ⟨l, hl1⟩ := at_lt hi
        have hd : c.ls.drop i = l :: c.ls.drop (i + 1) := by
          rw [List.drop_eq_getElem_cons hi]
          rw [List.getElem?_eq_getElem hi] at hl1
          cases hl1; rfl
        have hok := hr l (List.mem_of_getElem? hl1)
        have hc := w_clone hok.len l.r.z hok.nil l.r.e
        have hi' : (i : Int) < c.ls.length := by omega
        rw [hd] at hx3
        refine .go (us ++ [cpL l], i + 1) (wpQ_way (q66_l0bn _ _ c.lz (lits c.ls) c.le c.tz (rws c.ts) c.te c.cz (lits c.cs) c.ce us.isEmpty (lits us) vs.isEmpty (rws vs) ws.isEmpty (lits ws) c.lz (lits c.ls) c.le c.ls.length i _) ?_) ⟨by dsimp only; omega, by simp; omega, by simpa using hx3⟩ (by dsimp only; omega) rfl
        have k1 : us.length + 1 ≤ 9223372036854775807 := by omega
        have k2 : (us.length + 1) * 32 ≤ 140737488355328 := by omega
        cases hneg : l.neg <;> simp [-Bool.exists_bool, -getElem?_pos, -Int.natCast_add, hi', lits_at hl1, hneg, hc, wr1 hi (by omega), lits_len, k1, k2, lits_append, lits_cons, lits_nil, cpL]
      · have e1 : i = c.ls.length := by omega
        subst e1
        refine .stop (.exit 0 [(1, fC), (2, bC c), (4, b0), (5, bO us vs ws), (13, iL c.lz c.ls c.le), (14, iI c.ls.length), (15, iI c.ls.length)]) (wpQ_way (q66_l0bn _ _ c.lz (lits c.ls) c.le c.tz (rws c.ts) c.te c.cz (lits c.cs) c.ce us.isEmpty (lits us) vs.isEmpty (rws vs) ws.isEmpty (lits ws) c.lz (lits c.ls) c.le c.ls.length _ _) (by simp)) rfl ?_
        rw [List.drop_length, List.map_nil, List.append_nil] at hx3
        rw [hx3]; rfl) x hx
theorem l_copy2 {c : Cl} (hn : c.ts.length ≤ 1000) (hr : ∀ r ∈ c.ts, RowOk r) (us : List LitR) (ws : List LitR) (x : List Row × Nat) (hx : x.2 ≤ c.ts.length ∧ x.1.length ≤ x.2 ∧ x.1 ++ (c.ts.drop x.2).map cpR = c.ts.map cpR) : evP F (Go.Ab.W F) (JW F d66 []) d66 [] [1,1,1,0,1] [(1, fC), (2, bC c), (4, b0), (5, bO us x.1 ws), (33, iR c.tz c.ts c.te), (34, iI c.ts.length), (35, iI x.2)] = some (.norm [(1, fC), (2, bC c), (4, b0), (5, bO us (c.ts.map cpR) ws), (33, iR c.tz c.ts c.te), (34, iI c.ts.length), (35, iI c.ts.length)]) :=
  blk_fun (F := F) (d := d66) (lk := []) (p := [1,1,1,0,1,0,0]) (p0 := [1,1,1,0,1]) (id := 2) (by kernel_rfl) (st := fun (x : List Row × Nat) => [(1, fC), (2, bC c), (4, b0), (5, bO us x.1 ws), (33, iR c.tz c.ts c.te), (34, iI c.ts.length), (35, iI x.2)]) (I := fun x => x.2 ≤ c.ts.length ∧ x.1.length ≤ x.2 ∧ x.1 ++ (c.ts.drop x.2).map cpR = c.ts.map cpR) (μ := fun x => c.ts.length - x.2)
    (res := fun x => .norm [(1, fC), (2, bC c), (4, b0), (5, bO us (c.ts.map cpR) ws), (33, iR c.tz c.ts c.te), (34, iI c.ts.length), (35, iI c.ts.length)])
    (fun x hx => by
      obtain ⟨vs, i⟩ := x
      obtain ⟨hx1, hx2, hx3⟩ := hx
      dsimp only at hx1 hx2 hx3
      by_cases hi : i < c.ts.length
      · obtain ⟨l, hl1⟩ := at_lt hi
        have hd : c.ts.drop i = l :: c.ts.drop (i + 1) := by
          rw [List.drop_eq_getElem_cons hi]
          rw [List.getElem?_eq_getElem hi] at hl1
          cases hl1; rfl
        have hok := hr l (List.mem_of_getElem? hl1)
        have hc := w_clone hok.len l.z hok.nil l.e
        have hi' : (i : Int) < c.ts.length := by omega
        rw [hd] at hx3
        refine .go (vs ++ [cpR l], i + 1) (wpQ_way (q66_l2bn _ _ c.lz (lits c.ls) c.le c.tz (rws c.ts) c.te c.cz (lits c.cs) c.ce us.isEmpty (lits us) vs.isEmpty (rws vs) ws.isEmpty (lits ws) c.tz (rws c.ts) c.te c.ts.length i _) ?_) ⟨by dsimp only; omega, by simp; omega, by simpa using hx3⟩ (by dsimp only; omega) rfl
        have k1 : vs.length + 1 ≤ 9223372036854775807 := by omega
        have k2 : (vs.length + 1) * 24 ≤ 140737488355328 := by omega
        simp [-Bool.exists_bool, -getElem?_pos, -Int.natCast_add, hi', rws_at hl1, hc, wr1 hi (by omega), rws_len, k1, k2, rws_append, rws_cons, rws_nil, cpR]
      · have e1 : i = c.ts.length := by omega
        subst e1
        refine .stop (.exit 2 [(1, fC), (2, bC c), (4, b0), (5, bO us vs ws), (33, iR c.tz c.ts c.te), (34, iI c.ts.length), (35, iI c.ts.length)]) (wpQ_way (q66_l2bn _ _ c.lz (lits c.ls) c.le c.tz (rws c.ts) c.te c.cz (lits c.cs) c.ce us.isEmpty (lits us) vs.isEmpty (rws vs) ws.isEmpty (lits ws) c.tz (rws c.ts) c.te c.ts.length _ _) (by simp)) rfl ?_
        rw [List.drop_length, List.map_nil, List.append_nil] at hx3
        rw [hx3]; rfl) x hx
theorem l_copy4 {c : Cl} (hn : c.cs.length ≤ 1000) (hr : ∀ l ∈ c.cs, RowOk l.r) (us : List LitR) (vs : List Row) (x : List LitR × Nat) (hx : x.2 ≤ c.cs.length ∧ x.1.length ≤ x.2 ∧ x.1 ++ (c.cs.drop x.2).map cpL = c.cs.map cpL) : evP F (Go.Ab.W F) (JW F d66 []) d66 [] [1,1,1,1,0,1] [(1, fC), (4, b0), (5, bO us vs x.1), (49, iL c.cz c.cs c.ce), (50, iI c.cs.length), (51, iI x.2)] = some (.norm [(1, fC), (4, b0), (5, bO us vs (c.cs.map cpL)), (49, iL c.cz c.cs c.ce), (50, iI c.cs.length), (51, iI c.cs.length)]) :=
  blk_fun (F := F) (d := d66) (lk := []) (p := [1,1,1,1,0,1,0,0]) (p0 := [1,1,1,1,0,1]) (id := 4) (by kernel_rfl) (st := fun (x : List LitR × Nat) => [(1, fC), (4, b0), (5, bO us vs x.1), (49, iL c.cz c.cs c.ce), (50, iI c.cs.length), (51, iI x.2)]) (I := fun x => x.2 ≤ c.cs.length ∧ x.1.length ≤ x.2 ∧ x.1 ++ (c.cs.drop x.2).map cpL = c.cs.map cpL) (μ := fun x => c.cs.length - x.2)
    (res := fun x => .norm [(1, fC), (4, b0), (5, bO us vs (c.cs.map cpL)), (49, iL c.cz c.cs c.ce), (50, iI c.cs.length), (51, iI c.cs.length)])
    (fun x hx => by
      obtain ⟨ws, i⟩ := x
      obtain ⟨hx1, hx2, hx3⟩ := hx
      dsimp only at hx1 hx2 hx3
      by_cases hi : i < c.cs.length
      · obtain ⟨l, hl1⟩ := at_lt hi
        have hd : c.cs.drop i = l :: c.cs.drop (i + 1) := by
          rw [List.drop_eq_getElem_cons hi]
          rw [List.getElem?_eq_getElem hi] at hl1
          cases hl1; rfl
        have hok := hr l (List.mem_of_getElem? hl1)
        have hc := w_clone hok.len l.r.z hok.nil l.r.e
        have hi' : (i : Int) < c.cs.length := by omega
        rw [hd] at hx3
        refine .go (ws ++ [cpL l], i + 1) (wpQ_way (q66_l4bn _ _ us.isEmpty (lits us) vs.isEmpty (rws vs) ws.isEmpty (lits ws) c.cz (lits c.cs) c.ce c.cs.length i _) ?_) ⟨by dsimp only; omega, by simp; omega, by simpa using hx3⟩ (by dsimp only; omega) rfl
        have k1 : ws.length + 1 ≤ 9223372036854775807 := by omega
        have k2 : (ws.length + 1) * 32 ≤ 140737488355328 := by omega
        cases hneg : l.neg <;> simp [-Bool.exists_bool, -getElem?_pos, -Int.natCast_add, hi', lits_at hl1, hneg, hc, wr1 hi (by omega), lits_len, k1, k2, lits_append, lits_cons, lits_nil, cpL]
      · have e1 : i = c.cs.length := by omega
        subst e1
        refine .stop (.exit 4 [(1, fC), (4, b0), (5, bO us vs ws), (49, iL c.cz c.cs c.ce), (50, iI c.cs.length), (51, iI c.cs.length)]) (wpQ_way (q66_l4bn _ _ us.isEmpty (lits us) vs.isEmpty (rws vs) ws.isEmpty (lits ws) c.cz (lits c.cs) c.ce c.cs.length _ _) (by simp)) rfl ?_
        rw [List.drop_length, List.map_nil, List.append_nil] at hx3
        rw [hx3]; rfl) x hx
/-- A clause, copied. -/
def cpC (c : Cl) : Cl := ⟨(c.ls.map cpL).isEmpty, c.ls.map cpL, [], (c.ts.map cpR).isEmpty, c.ts.map cpR, [], (c.cs.map cpL).isEmpty, c.cs.map cpL, []⟩
theorem w_each34 {c : Cl} (h : ClRow c) : C 66 [iC c, fC] = some (oC (cpC c), [iC c, fC]) := by
  refine wfn (lk := []) rfl rfl (fnW_way (q66v1 _ _ c.lz (lits c.ls) c.le c.tz (rws c.ts) c.te c.cz (lits c.cs) c.ce _) ?_)
  have h1 := l_copy0 h.l5 h.ls [] [] ([], 0) ⟨Nat.zero_le _, Nat.zero_le _, rfl⟩
  have h2 := l_copy2 h.t3 h.ts (c.ls.map cpL) [] ([], 0) ⟨Nat.zero_le _, Nat.zero_le _, rfl⟩
  have h3 := l_copy4 h.c3 h.cs (c.ls.map cpL) (c.ts.map cpR) ([], 0) ⟨Nat.zero_le _, Nat.zero_le _, rfl⟩
  rw [lits_len]
  refine .inr ⟨_, _, _, _, _, _, _, _, _, _, _, _, _, _, _, _, _, _, _, _, h1, ?_⟩
  rw [rws_len]
  refine .inr ⟨_, _, _, _, _, _, _, _, _, _, _, _, _, _, _, _, _, _, _, _, h2, ?_⟩
  rw [lits_len]
  exact .inr ⟨_, _, _, _, _, _, _, _, _, _, _, h3, rfl⟩
theorem w_clcopy {c : Cl} (h : ClRow c) : C 42 [iC c] = some (oC (cpC c), [iC c]) := by
  refine wfn (lk := []) rfl rfl (fnW_way (q42 _ _ c.lz (lits c.ls) c.le c.tz (rws c.ts) c.te c.cz (lits c.cs) c.ce _) ?_)
  exact .inr ⟨_, _, _, _, _, _, _, _, w_each34 h, rfl⟩
/-! ### What cannot be, beside a Lit that is so -/
/-- Is it an opposite of an instance? -/
def cutB (g : List Sym) (un : Bool) (ua : List Int) (l : LitR) : Bool := (l.neg != un) && okB g (fun _ => none) ua l.r.l
theorem lits_set (xs : List LitR) (i : Nat) (l : LitR) : (lits xs).set i (.agg [.bool l.neg, .sl 1 l.r.z (ints l.r.l) l.r.e]) = lits (xs.set i l) := by
  simp [lits, List.map_set, LitR.d]
section
variable {g : List Sym} (hg : SigOk g) (z : Bool) (e : List D) (un uz : Bool) {ua : List Int} (ue : List D) (hu : ua.length ≤ 1000) (hc : ∀ c ∈ ua, -24 ≤ c)
abbrev pUn (un uz : Bool) (ua : List Int) (ue : List D) : IV := .dptr [.bool un, .sl 1 uz (ints ua) ue]
abbrev pGn (z : Bool) (g : List Sym) (e : List D) : IV := .dptr [.sl 4 z (syms g) e]
abbrev fK (un uz : Bool) (ua : List Int) (ue : List D) (z : Bool) (g : List Sym) (e : List D) : IV := .fn 44 [pUn un uz ua ue, pGn z g e]
include hg hu hc
theorem w_cut1 {l : LitR} (hl : l.r.l.length ≤ 1000) (hz : l.r.z = true → l.r.l = []) : C 44 [iLit l.neg l.r.z l.r.l l.r.e, pUn un uz ua ue, pGn z g e] = some (iB (cutB g un ua l), [iLit l.neg l.r.z l.r.l l.r.e, pUn un uz ua ue, pGn z g e]) := by
  refine wfn (lk := []) rfl rfl (fnW_way (q44 _ _ l.neg l.r.z (ints l.r.l) l.r.e un uz (ints ua) ue z (syms g) e _) ?_)
  have h1 := w_mgrow hg z uz l.r.z e ue l.r.e hu hl hz hc (s := fun _ => none) (fun v t h => by cases h)
  unfold cutB okB
  rw [bN_eq]
  cases hn : l.neg <;> cases hun : un
  · exact rfl
  · refine ⟨_, _, _, _, _, h1, ?_⟩
    cases (growF g (fun _ => none) ua l.r.l).isSome <;> rfl
  · refine ⟨_, _, _, _, _, h1, ?_⟩
    cases (growF g (fun _ => none) ua l.r.l).isSome <;> rfl
  · exact rfl
theorem w_idxcut {ls : List LitR} (hn : ls.length ≤ 1000) (hls : ∀ l ∈ ls, l.r.l.length ≤ 1000 ∧ (l.r.z = true → l.r.l = [])) (zl : Bool) (el : List D) : C 67 [iL zl ls el, fK un uz ua ue z g e] = some (iI (idxQ (cutB g un ua) ls), [iL zl ls el, fK un uz ua ue z g e]) := by
  refine wfn (lk := [1]) rfl rfl (fnW_way (q67v1 _ _ zl (lits ls) el un uz (ints ua) ue z (syms g) e _) ?_)
  have hl := blk_find (F := F) (d := d67) (lk := [1]) (p := [1,0,1,0,0]) (p0 := [1,0,1]) (by kernel_rfl) (n := ls.length) (id := 0) (st := fun i => [(0, iL zl ls el), (1, fK un uz ua ue z g e), (7, iI ls.length), (8, iI i)]) (q := fun i => match ls[i]? with | some m => cutB g un ua m | none => false) (rt := fun i => [(1, fK un uz ua ue z g e), (4, iI i)]) (e := [(0, iL zl ls el), (1, fK un uz ua ue z g e), (7, iI ls.length), (8, iI ls.length)])
    (fun i hi hq => by
      refine wpQ_way (q67_l0b _ _ zl (lits ls) el un uz (ints ua) ue z (syms g) e _ i _) ?_
      obtain ⟨m, hm⟩ := at_lt hi
      have hmk := hls m (List.mem_of_getElem? hm)
      have h1 := w_cut1 hg z e un uz ue hu hc hmk.1 hmk.2
      rw [hm] at hq
      dsimp only at hq
      rw [hq] at h1
      simp [-Bool.exists_bool, -getElem?_pos, -Int.natCast_add, wr1 hi (by omega), hi, lits_at hm, h1])
    (fun i hi hq => by
      refine wpQ_way (q67_l0b _ _ zl (lits ls) el un uz (ints ua) ue z (syms g) e _ i _) ?_
      obtain ⟨m, hm⟩ := at_lt hi
      have hmk := hls m (List.mem_of_getElem? hm)
      have h1 := w_cut1 hg z e un uz ue hu hc hmk.1 hmk.2
      rw [hm] at hq
      dsimp only at hq
      rw [hq] at h1
      simp [-Bool.exists_bool, -getElem?_pos, -Int.natCast_add, wr1 hi (by omega), hi, lits_at hm, h1])
    (wpQ_way (q67_l0b _ _ zl (lits ls) el un uz (ints ua) ue z (syms g) e _ ls.length _) (by simp)) 0 (Nat.zero_le _)
  rcases hl with ⟨h2, h3⟩ | ⟨j, h1, h2, h4, h5, h3⟩
  · rw [idxQ_none (fun k hk t ht => by have := h2 k (Nat.zero_le _) hk; rw [ht] at this; exact this)]
    rw [lits_len]
    exact .inr (.inr (.inr ⟨_, _, _, _, _, _, _, _, _, _, _, _, h3, rfl⟩))
  · rw [idxQ_some h2 (by have := h4; rw [List.getElem?_eq_getElem h2] at this; exact this) (fun k hk t ht => by have := h5 k (Nat.zero_le _) hk; rw [ht] at this; exact this)]
    rw [lits_len]
    exact .inr (.inr (.inl ⟨_, _, _, _, _, _, _, _, h3, rfl⟩))
theorem l_delete {ls : List LitR} (hn : ls.length ≤ 1000) (hls : ∀ l ∈ ls, l.r.l.length ≤ 1000 ∧ (l.r.z = true → l.r.l = [])) (zl : Bool) (x : List LitR × Nat × Nat) (hx : x.2.1 ≤ x.2.2 ∧ x.2.2 ≤ ls.length ∧ x.2.1 < ls.length ∧ x.1.length = ls.length ∧ x.1.take x.2.1 = (ls.take x.2.2).filter (fun l => !cutB g un ua l) ∧ x.1.drop x.2.2 = ls.drop x.2.2 ∧ (x.2.1 = x.2.2 → False)) :
    ∃ o, evP F (Go.Ab.W F) (JW F d43 [1]) d43 [1] [1,1,1,0,1] [(0, .own zl 35 2 (lits x.1)), (1, fK un uz ua ue z g e), (5, iI x.2.1), (6, iI x.2.2)] = some o ∧ ∃ (ys : List LitR) (i : Nat), o = .norm [(0, .own zl 35 2 (lits ys)), (1, fK un uz ua ue z g e), (5, iI i), (6, iI ls.length)] ∧ i ≤ ls.length ∧ ys.length = ls.length ∧ ys.take i = ls.filter (fun l => !cutB g un ua l) :=
  blk_rule (F := F) (d := d43) (lk := [1]) (p := [1,1,1,0,1,0,0]) (p0 := [1,1,1,0,1]) 0 (by kernel_rfl) (fun (x : List LitR × Nat × Nat) => [(0, .own zl 35 2 (lits x.1)), (1, fK un uz ua ue z g e), (5, iI x.2.1), (6, iI x.2.2)]) (fun x => x.2.1 ≤ x.2.2 ∧ x.2.2 ≤ ls.length ∧ x.2.1 < ls.length ∧ x.1.length = ls.length ∧ x.1.take x.2.1 = (ls.take x.2.2).filter (fun l => !cutB g un ua l) ∧ x.1.drop x.2.2 = ls.drop x.2.2 ∧ (x.2.1 = x.2.2 → False)) (fun x => ls.length - x.2.2)
    (fun x o => ∃ (ys : List LitR) (i : Nat), o = .norm [(0, .own zl 35 2 (lits ys)), (1, fK un uz ua ue z g e), (5, iI i), (6, iI ls.length)] ∧ i ≤ ls.length ∧ ys.length = ls.length ∧ ys.take i = ls.filter (fun l => !cutB g un ua l))
    (fun x hx => by
      obtain ⟨xs, i, j⟩ := x
      obtain ⟨h1, h2, h3, h4, h5, h6, h7⟩ := hx
      dsimp only at h1 h2 h3 h4 h5 h6 h7 ⊢
      by_cases hj : j < ls.length
      rotate_left
      · have e0 : j = ls.length := by omega
        subst e0
        refine .inr ⟨.exit 0 [(0, .own zl 35 2 (lits xs)), (1, fK un uz ua ue z g e), (5, iI i), (6, iI ls.length)], wpQ_way (q43_l0a _ _ zl (lits xs) un uz (ints ua) ue z (syms g) e i ls.length _) (by simp [lits_len, h4]), rfl, xs, i, rfl, by omega, h4, ?_⟩
        rw [h5, List.take_length]
      obtain ⟨l, hl⟩ := at_lt hj
      have hlm := hls l (List.mem_of_getElem? hl)
      have hxl : xs[j]? = some l := by
        have e1 := congrArg (fun t : List LitR => t[0]?) h6
        simp only [List.getElem?_drop, Nat.add_zero] at e1
        rw [e1, hl]
      have hd : ls.drop (j + 1) = (ls.drop j).drop 1 := by rw [List.drop_drop]
      have hc1 := w_cut1 hg z e un uz ue hu hc (l := l) hlm.1 hlm.2
      have htk : ls.take (j + 1) = ls.take j ++ [l] := by
        rw [List.take_add_one, hl]; rfl
      have hw1 := wr1 hj (show ls.length ≤ 9223372036854775807 by omega)
      have hj' : (j : Int) < ls.length := by omega
      have hlx : (lits xs).length = ls.length := by rw [lits_len, h4]
      have hij : i < j := Nat.lt_of_le_of_ne h1 h7
      obtain ⟨m, hm⟩ := at_lt (l := xs) (i := i) (by omega)
      cases hq : cutB g un ua l with
      | true =>
        rw [hq] at hc1
        refine .inl ⟨(xs, i, j + 1), wpQ_way (q43_l0a _ _ zl (lits xs) un uz (ints ua) ue z (syms g) e i j _) ?_, ⟨by dsimp only; omega, by dsimp only; omega, h3, h4, ?_, ?_, fun e => by dsimp only at e; omega⟩, by dsimp only; omega, fun o ho => ho⟩
        · simp [-Bool.exists_bool, -getElem?_pos, -Int.natCast_add, hj', hlx, lits_at hxl, hc1, hw1]
        · dsimp only; rw [htk, List.filter_append, h5]; simp [hq]
        · dsimp only; rw [hd, ← h6, List.drop_drop]
      | false =>
        rw [hq] at hc1
        have hw2 := wr1 (show i < ls.length by omega) (show ls.length ≤ 9223372036854775807 by omega)
        refine .inl ⟨(xs.set i l, i + 1, j + 1), wpQ_way (q43_l0a _ _ zl (lits xs) un uz (ints ua) ue z (syms g) e i j _) ?_, ⟨by dsimp only; omega, by dsimp only; omega, by dsimp only; omega, by simp [h4], ?_, ?_, fun e => by dsimp only at e; omega⟩, by dsimp only; omega, fun o ho => ho⟩
        · have hset : (lits xs).set i (.agg [.bool l.neg, .sl 1 l.r.z (ints l.r.l) l.r.e]) = lits (xs.set i l) := lits_set xs i l
          simp [-Bool.exists_bool, -getElem?_pos, -Int.natCast_add, hj', hlx, lits_at hxl, lits_at hm, hc1, hw1, hw2, D.cells]
          exact hset
        · dsimp only
          rw [htk, List.filter_append, ← h5]
          simp only [List.filter_cons, hq, Bool.not_false, if_true, List.filter_nil]
          rw [List.take_add_one, List.getElem?_set_self (by omega), List.take_set_of_le (Nat.le_refl _)]
          rfl
        · dsimp only
          rw [List.drop_set_of_lt (by omega), hd, ← h6, List.drop_drop]) x hx
theorem w_delete {ls : List LitR} (hn : ls.length ≤ 1000) (hls : ∀ l ∈ ls, l.r.l.length ≤ 1000 ∧ (l.r.z = true → l.r.l = [])) (zl : Bool) : C 43 [.own zl 35 2 (lits ls), fK un uz ua ue z g e] = some (.own zl 35 2 (lits (ls.filter (fun l => !cutB g un ua l))), [.dead, fK un uz ua ue z g e]) := by
  refine wfn (lk := [1]) rfl rfl (fnW_way (q43 _ _ zl (lits ls) un uz (ints ua) ue z (syms g) e _) ?_)
  have h1 := w_idxcut hg z e un uz ue hu hc hn hls zl []
  refine .inl ⟨_, _, _, h1, ?_⟩
  cases hf : ls.findIdx? (cutB g un ua) with
  | none =>
    have hi : idxQ (cutB g un ua) ls = -1 := by unfold idxQ; rw [hf]
    rw [hi]
    have hall : ls.filter (fun l => !cutB g un ua l) = ls := by
      rw [List.findIdx?_eq_none_iff] at hf
      rw [List.filter_eq_self]
      intro l hl
      simp [hf l hl]
    rw [hall]
    exact condW_t rfl rfl
  | some j =>
    have hi : idxQ (cutB g un ua) ls = (j : Int) := by unfold idxQ; rw [hf]
    rw [hi]
    rw [List.findIdx?_eq_some_iff_getElem] at hf
    obtain ⟨hj, hq, hk⟩ := hf
    have hw := wr1 hj (show ls.length ≤ 9223372036854775807 by omega)
    have hne : ((j : Int) == -1) = false := by simp
    obtain ⟨o, h2, ys, i, rfl, h4, h5, h6⟩ := l_delete hg z e un uz ue hu hc hn hls zl (ls, j, j + 1) ⟨by dsimp only; omega, hj, hj, rfl, (by
      dsimp only
      have htk : ls.take (j + 1) = ls.take j ++ [ls[j]] := by rw [List.take_add_one, List.getElem?_eq_getElem hj]; rfl
      rw [htk, List.filter_append]
      have e1 : [ls[j]].filter (fun l => !cutB g un ua l) = [] := by simp [hq]
      rw [e1, List.append_nil, List.filter_eq_self.2]
      intro l hl
      obtain ⟨k, hk1, rfl⟩ := List.mem_take_iff_getElem.1 hl
      have := hk k (by omega)
      simpa using this), rfl, fun e => by dsimp only at e; omega⟩
    refine condW_f hne ?_
    dsimp only at h2
    rw [hw]
    refine ⟨_, _, _, _, _, _, _, _, _, _, _, h2, ?_⟩
    have hly : (lits ys).length = ls.length := by rw [lits_len, h5]
    have hfin : List.take (Int.toNat (i : Int)) (List.take (Int.toNat (i : Int)) (lits ys) ++ List.replicate ((lits ys).length - Int.toNat (i : Int)) (D.agg [D.bool false, D.sl 1 true [] []])) = lits (ls.filter (fun l => !cutB g un ua l)) := by
      rw [Int.toNat_natCast, List.take_append_of_le_length (by simp [hly]; omega), List.take_take, Nat.min_self, ← h6]
      simp [lits, List.map_take]
    rw [hfin]
    refine condW_t (by simp) (condW_t (by rw [hly]; simp; omega) (condW_t (by simp) (condW_t ?_ rfl)))
    rw [Int.toNat_natCast, hly]; simp [hly]; omega
end
end Go.Proofs.YtmldmhbdeejcnaaDoor.Ab
