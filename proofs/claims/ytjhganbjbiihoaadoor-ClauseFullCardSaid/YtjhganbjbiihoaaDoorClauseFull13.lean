/- Written by a program of this session (wip/tools/AbSym.lean). Not trusted: Lean checks it. -/
import Derived.Test.YtjhganbjbiihoaaDoorClauseFull0
import Derived.Test.YtjhganbjbiihoaaDoorClauseFull1
import Derived.Test.YtjhganbjbiihoaaDoorClauseFull2
import Derived.Test.YtjhganbjbiihoaaDoorClauseFull3
import Derived.Test.YtjhganbjbiihoaaDoorClauseFull4
import Derived.Test.YtjhganbjbiihoaaDoorClauseFull5
import Derived.Test.YtjhganbjbiihoaaDoorClauseFull6
import Derived.Test.YtjhganbjbiihoaaDoorClauseFull7
import Derived.Test.YtjhganbjbiihoaaDoorClauseFull8
import Derived.Test.YtjhganbjbiihoaaDoorClauseFull9
import Derived.Test.YtjhganbjbiihoaaDoorClauseFull10
import Derived.Test.YtjhganbjbiihoaaDoorClauseFull11
import Derived.Test.YtjhganbjbiihoaaDoorClauseFull12
set_option maxRecDepth 100000
set_option linter.unusedVariables false
namespace Go.Proofs.YtjhganbjbiihoaaDoor.Ab
open Go Go.Ab Go.Proofs
theorem q8 (C J) (i1 : Int) (i2 : Int) (i3 : Int) (Q) : fnW F C R (L8) J d8 [.d (.int .i64 i1), .d (.int .i64 i2), .d (.int .i64 i3)] Q = (∃ w0, C 23 [] = some (IV.d (D.bool w0), []) ∧ condW w0 (∃ w1 w2 w3 w4 w5 w6 w7 w8 w9 w10, evP F C J d8 [] [1, 1, 1, 1, 0, 1] [(7, IV.d (D.int IntKind.i64 (IntKind.wrap IntKind.i64 (Int.tmod (IntKind.wrap IntKind.u64 i1) 8)))), (8, IV.d (D.int IntKind.i64 (IntKind.wrap IntKind.i64 (Int.tmod (IntKind.wrap IntKind.u64 i2) 6)))), (9, IV.d (D.int IntKind.i64 (IntKind.wrap IntKind.i64 (Int.tmod (IntKind.wrap IntKind.u64 i3) 6)))), (10, IV.ptr 26 0 [IV.own true 57 2 [], IV.own true 33 1 [], IV.own true 57 2 []]), (11, IV.d (D.int IntKind.i64 0))] = some (Out.norm [(7, IV.d (D.int IntKind.i64 w1)), (8, IV.d (D.int IntKind.i64 w2)), (9, IV.d (D.int IntKind.i64 w3)), (10, IV.ptr 26 0 [IV.own w4 57 2 w5, IV.own w6 33 1 w7, IV.own w8 57 2 w9]), (11, IV.d (D.int IntKind.i64 w10))]) ∧ ∃ w11 w12 w13 w14 w15 w16 w17 w18 w19 w20, evP F C J d8 [] [1, 1, 1, 1, 1, 0, 1] [(7, IV.d (D.int IntKind.i64 w1)), (8, IV.d (D.int IntKind.i64 w2)), (9, IV.d (D.int IntKind.i64 w3)), (10, IV.ptr 26 0 [IV.own w4 57 2 w5, IV.own w6 33 1 w7, IV.own w8 57 2 w9]), (12, IV.d (D.int IntKind.i64 0))] = some (Out.norm [(7, IV.d (D.int IntKind.i64 w11)), (8, IV.d (D.int IntKind.i64 w12)), (9, IV.d (D.int IntKind.i64 w13)), (10, IV.ptr 26 0 [IV.own w14 57 2 w15, IV.own w16 33 1 w17, IV.own w18 57 2 w19]), (12, IV.d (D.int IntKind.i64 w20))]) ∧ ∃ w21 w22 w23 w24 w25 w26 w27 w28 w29 w30, evP F C J d8 [] [1, 1, 1, 1, 1, 1, 0, 1] [(7, IV.d (D.int IntKind.i64 w11)), (8, IV.d (D.int IntKind.i64 w12)), (9, IV.d (D.int IntKind.i64 w13)), (10, IV.ptr 26 0 [IV.own w14 57 2 w15, IV.own w16 33 1 w17, IV.own w18 57 2 w19]), (13, IV.d (D.int IntKind.i64 0))] = some (Out.norm [(7, IV.d (D.int IntKind.i64 w21)), (8, IV.d (D.int IntKind.i64 w22)), (9, IV.d (D.int IntKind.i64 w23)), (10, IV.ptr 26 0 [IV.own w24 57 2 w25, IV.own w26 33 1 w27, IV.own w28 57 2 w29]), (13, IV.d (D.int IntKind.i64 w30))]) ∧ ∃ w31 w32, C 30 [] = some (IV.own w31 88 4 w32, []) ∧ ((∃ w33 w34 w35 w36 w37 w38 w39 w40 w41, C 24 [IV.d (D.sl 4 w31 w32 []), IV.d (D.agg [D.sl 2 w24 w25 [], D.sl 1 w26 w27 [], D.sl 2 w28 w29 []])] = some (IV.tup [IV.agg [IV.own w33 57 2 w34, IV.own w35 33 1 w36, IV.own w37 57 2 w38], IV.d (D.int IntKind.i64 w39)], [IV.d w40, IV.d w41]) ∧ condW (decide (w21 ≤ 5)) (condW (decide (w22 ≤ 3)) (condW (decide (w23 ≤ 3)) (∃ w42 w43, C 30 [] = some (IV.own w42 88 4 w43, []) ∧ ∃ w44 w45 w46, C 18 [IV.d (D.sl 4 w42 w43 []), IV.d (D.agg [D.sl 2 w24 w25 [], D.sl 1 w26 w27 [], D.sl 2 w28 w29 []])] = some (IV.d (D.bool w44), [IV.d w45, IV.d w46]) ∧ condW w44 (∃ w47 w48, C 20 [IV.d (D.int IntKind.i64 w39)] = some (IV.d (D.int IntKind.i64 w47), [IV.d w48]) ∧ condW (w47 == 0) (condW ((↑(List.length w34) : Int) == if false = true then if 1 > w21 then 1 else w21 else if 1 < w21 then 1 else w21) (condW ((↑(List.length w36) : Int) == if false = true then if 1 > w22 then 1 else w22 else if 1 < w22 then 1 else w22) (condW ((↑(List.length w38) : Int) == if false = true then if 1 > w23 then 1 else w23 else if 1 < w23 then 1 else w23) (Q (some (IV.d (D.bool true), [IV.d (D.int IntKind.i64 i1), IV.d (D.int IntKind.i64 i2), IV.d (D.int IntKind.i64 i3)]))) (Q (some (IV.d (D.bool false), [IV.d (D.int IntKind.i64 i1), IV.d (D.int IntKind.i64 i2), IV.d (D.int IntKind.i64 i3)])))) (Q (some (IV.d (D.bool false), [IV.d (D.int IntKind.i64 i1), IV.d (D.int IntKind.i64 i2), IV.d (D.int IntKind.i64 i3)])))) (Q (some (IV.d (D.bool false), [IV.d (D.int IntKind.i64 i1), IV.d (D.int IntKind.i64 i2), IV.d (D.int IntKind.i64 i3)])))) (Q (some (IV.d (D.bool false), [IV.d (D.int IntKind.i64 i1), IV.d (D.int IntKind.i64 i2), IV.d (D.int IntKind.i64 i3)])))) (Q (some (IV.d (D.bool false), [IV.d (D.int IntKind.i64 i1), IV.d (D.int IntKind.i64 i2), IV.d (D.int IntKind.i64 i3)])))) (∃ w49 w50, C 30 [] = some (IV.own w49 88 4 w50, []) ∧ ∃ w51 w52 w53, C 18 [IV.d (D.sl 4 w49 w50 []), IV.d (D.agg [D.sl 2 w24 w25 [], D.sl 1 w26 w27 [], D.sl 2 w28 w29 []])] = some (IV.d (D.bool w51), [IV.d w52, IV.d w53]) ∧ condW w51 (Q (some (IV.d (D.bool false), [IV.d (D.int IntKind.i64 i1), IV.d (D.int IntKind.i64 i2), IV.d (D.int IntKind.i64 i3)]))) (∃ w54 w55, C 20 [IV.d (D.int IntKind.i64 w39)] = some (IV.d (D.int IntKind.i64 w54), [IV.d w55]) ∧ condW (w54 == 0) (Q (some (IV.d (D.bool false), [IV.d (D.int IntKind.i64 i1), IV.d (D.int IntKind.i64 i2), IV.d (D.int IntKind.i64 i3)]))) (Q (some (IV.d (D.bool true), [IV.d (D.int IntKind.i64 i1), IV.d (D.int IntKind.i64 i2), IV.d (D.int IntKind.i64 i3)])))))) (∃ w56 w57, C 30 [] = some (IV.own w56 88 4 w57, []) ∧ ∃ w58 w59 w60, C 18 [IV.d (D.sl 4 w56 w57 []), IV.d (D.agg [D.sl 2 w24 w25 [], D.sl 1 w26 w27 [], D.sl 2 w28 w29 []])] = some (IV.d (D.bool w58), [IV.d w59, IV.d w60]) ∧ condW w58 (Q (some (IV.d (D.bool false), [IV.d (D.int IntKind.i64 i1), IV.d (D.int IntKind.i64 i2), IV.d (D.int IntKind.i64 i3)]))) (∃ w61 w62, C 20 [IV.d (D.int IntKind.i64 w39)] = some (IV.d (D.int IntKind.i64 w61), [IV.d w62]) ∧ condW (w61 == 0) (Q (some (IV.d (D.bool false), [IV.d (D.int IntKind.i64 i1), IV.d (D.int IntKind.i64 i2), IV.d (D.int IntKind.i64 i3)]))) (Q (some (IV.d (D.bool true), [IV.d (D.int IntKind.i64 i1), IV.d (D.int IntKind.i64 i2), IV.d (D.int IntKind.i64 i3)])))))) (∃ w63 w64, C 30 [] = some (IV.own w63 88 4 w64, []) ∧ ∃ w65 w66 w67, C 18 [IV.d (D.sl 4 w63 w64 []), IV.d (D.agg [D.sl 2 w24 w25 [], D.sl 1 w26 w27 [], D.sl 2 w28 w29 []])] = some (IV.d (D.bool w65), [IV.d w66, IV.d w67]) ∧ condW w65 (Q (some (IV.d (D.bool false), [IV.d (D.int IntKind.i64 i1), IV.d (D.int IntKind.i64 i2), IV.d (D.int IntKind.i64 i3)]))) (∃ w68 w69, C 20 [IV.d (D.int IntKind.i64 w39)] = some (IV.d (D.int IntKind.i64 w68), [IV.d w69]) ∧ condW (w68 == 0) (Q (some (IV.d (D.bool false), [IV.d (D.int IntKind.i64 i1), IV.d (D.int IntKind.i64 i2), IV.d (D.int IntKind.i64 i3)]))) (Q (some (IV.d (D.bool true), [IV.d (D.int IntKind.i64 i1), IV.d (D.int IntKind.i64 i2), IV.d (D.int IntKind.i64 i3)])))))) ∨ ∃ w70 w71 w72, C 24 [IV.d (D.sl 4 w31 w32 []), IV.d (D.agg [D.sl 2 w24 w25 [], D.sl 1 w26 w27 [], D.sl 2 w28 w29 []])] = some (IV.tup [IV.d (D.agg [D.sl 2 true [] [], D.sl 1 true [] [], D.sl 2 true [] []]), IV.d (D.int IntKind.i64 w70)], [IV.d w71, IV.d w72]) ∧ condW (decide (w21 ≤ 5)) (condW (decide (w22 ≤ 3)) (condW (decide (w23 ≤ 3)) (∃ w73 w74, C 30 [] = some (IV.own w73 88 4 w74, []) ∧ ∃ w75 w76 w77, C 18 [IV.d (D.sl 4 w73 w74 []), IV.d (D.agg [D.sl 2 w24 w25 [], D.sl 1 w26 w27 [], D.sl 2 w28 w29 []])] = some (IV.d (D.bool w75), [IV.d w76, IV.d w77]) ∧ condW w75 (∃ w78 w79, C 20 [IV.d (D.int IntKind.i64 w70)] = some (IV.d (D.int IntKind.i64 w78), [IV.d w79]) ∧ condW (w78 == 0) (condW ((↑0 : Int) == if false = true then if 1 > w21 then 1 else w21 else if 1 < w21 then 1 else w21) (condW ((↑0 : Int) == if false = true then if 1 > w22 then 1 else w22 else if 1 < w22 then 1 else w22) (condW ((↑0 : Int) == if false = true then if 1 > w23 then 1 else w23 else if 1 < w23 then 1 else w23) (Q (some (IV.d (D.bool true), [IV.d (D.int IntKind.i64 i1), IV.d (D.int IntKind.i64 i2), IV.d (D.int IntKind.i64 i3)]))) (Q (some (IV.d (D.bool false), [IV.d (D.int IntKind.i64 i1), IV.d (D.int IntKind.i64 i2), IV.d (D.int IntKind.i64 i3)])))) (Q (some (IV.d (D.bool false), [IV.d (D.int IntKind.i64 i1), IV.d (D.int IntKind.i64 i2), IV.d (D.int IntKind.i64 i3)])))) (Q (some (IV.d (D.bool false), [IV.d (D.int IntKind.i64 i1), IV.d (D.int IntKind.i64 i2), IV.d (D.int IntKind.i64 i3)])))) (Q (some (IV.d (D.bool false), [IV.d (D.int IntKind.i64 i1), IV.d (D.int IntKind.i64 i2), IV.d (D.int IntKind.i64 i3)])))) (Q (some (IV.d (D.bool false), [IV.d (D.int IntKind.i64 i1), IV.d (D.int IntKind.i64 i2), IV.d (D.int IntKind.i64 i3)])))) (∃ w80 w81, C 30 [] = some (IV.own w80 88 4 w81, []) ∧ ∃ w82 w83 w84, C 18 [IV.d (D.sl 4 w80 w81 []), IV.d (D.agg [D.sl 2 w24 w25 [], D.sl 1 w26 w27 [], D.sl 2 w28 w29 []])] = some (IV.d (D.bool w82), [IV.d w83, IV.d w84]) ∧ condW w82 (Q (some (IV.d (D.bool false), [IV.d (D.int IntKind.i64 i1), IV.d (D.int IntKind.i64 i2), IV.d (D.int IntKind.i64 i3)]))) (∃ w85 w86, C 20 [IV.d (D.int IntKind.i64 w70)] = some (IV.d (D.int IntKind.i64 w85), [IV.d w86]) ∧ condW (w85 == 0) (Q (some (IV.d (D.bool false), [IV.d (D.int IntKind.i64 i1), IV.d (D.int IntKind.i64 i2), IV.d (D.int IntKind.i64 i3)]))) (Q (some (IV.d (D.bool true), [IV.d (D.int IntKind.i64 i1), IV.d (D.int IntKind.i64 i2), IV.d (D.int IntKind.i64 i3)])))))) (∃ w87 w88, C 30 [] = some (IV.own w87 88 4 w88, []) ∧ ∃ w89 w90 w91, C 18 [IV.d (D.sl 4 w87 w88 []), IV.d (D.agg [D.sl 2 w24 w25 [], D.sl 1 w26 w27 [], D.sl 2 w28 w29 []])] = some (IV.d (D.bool w89), [IV.d w90, IV.d w91]) ∧ condW w89 (Q (some (IV.d (D.bool false), [IV.d (D.int IntKind.i64 i1), IV.d (D.int IntKind.i64 i2), IV.d (D.int IntKind.i64 i3)]))) (∃ w92 w93, C 20 [IV.d (D.int IntKind.i64 w70)] = some (IV.d (D.int IntKind.i64 w92), [IV.d w93]) ∧ condW (w92 == 0) (Q (some (IV.d (D.bool false), [IV.d (D.int IntKind.i64 i1), IV.d (D.int IntKind.i64 i2), IV.d (D.int IntKind.i64 i3)]))) (Q (some (IV.d (D.bool true), [IV.d (D.int IntKind.i64 i1), IV.d (D.int IntKind.i64 i2), IV.d (D.int IntKind.i64 i3)])))))) (∃ w94 w95, C 30 [] = some (IV.own w94 88 4 w95, []) ∧ ∃ w96 w97 w98, C 18 [IV.d (D.sl 4 w94 w95 []), IV.d (D.agg [D.sl 2 w24 w25 [], D.sl 1 w26 w27 [], D.sl 2 w28 w29 []])] = some (IV.d (D.bool w96), [IV.d w97, IV.d w98]) ∧ condW w96 (Q (some (IV.d (D.bool false), [IV.d (D.int IntKind.i64 i1), IV.d (D.int IntKind.i64 i2), IV.d (D.int IntKind.i64 i3)]))) (∃ w99 w100, C 20 [IV.d (D.int IntKind.i64 w70)] = some (IV.d (D.int IntKind.i64 w99), [IV.d w100]) ∧ condW (w99 == 0) (Q (some (IV.d (D.bool false), [IV.d (D.int IntKind.i64 i1), IV.d (D.int IntKind.i64 i2), IV.d (D.int IntKind.i64 i3)]))) (Q (some (IV.d (D.bool true), [IV.d (D.int IntKind.i64 i1), IV.d (D.int IntKind.i64 i2), IV.d (D.int IntKind.i64 i3)]))))))) (Q (some (IV.d (D.bool false), [IV.d (D.int IntKind.i64 i1), IV.d (D.int IntKind.i64 i2), IV.d (D.int IntKind.i64 i3)])))) := by kernel_rfl
theorem q8_l2a (C J) (i1 : Int) (Q) : wpQ F C R (L8) J d8 [] [1,1,1,1,1,0,1,0,0] [(7, .dead), (8, .dead), (9, .dead), (10, .dead), (12, .d (.int .i64 i1))] Q = (False) := by kernel_rfl
theorem q8_l4a (C J) (i1 : Int) (Q) : wpQ F C R (L8) J d8 [] [1,1,1,1,1,1,0,1,0,0] [(7, .dead), (8, .dead), (9, .dead), (10, .dead), (13, .d (.int .i64 i1))] Q = (False) := by kernel_rfl
theorem q8_l0a (C J) (i1 : Int) (i2 : Int) (i3 : Int) (z4 : Bool) (x5 : List D) (z6 : Bool) (x7 : List D) (z8 : Bool) (x9 : List D) (i10 : Int) (Q) : wpQ F C R (L8) J d8 [] [1,1,1,1,0,1,0,0] [(7, .d (.int .i64 i1)), (8, .d (.int .i64 i2)), (9, .d (.int .i64 i3)), (10, .ptr 26 0 [.own z4 57 2 x5, .own z6 33 1 x7, .own z8 57 2 x9]), (11, .d (.int .i64 i10))] Q = (condW (decide (i10 < i1)) (condW (decide (List.length x5 + (0 + 1) ≤ 9223372036854775807)) (condW (decide ((List.length x5 + (0 + 1)) * 32 ≤ 140737488355328)) (Q (Out.norm [(7, IV.d (D.int IntKind.i64 i1)), (8, IV.d (D.int IntKind.i64 i2)), (9, IV.d (D.int IntKind.i64 i3)), (10, IV.ptr 26 0 [IV.own (z4 && false) 57 2 (x5 ++ [D.agg [D.bool false, D.sl 1 false [D.int IntKind.i64 5, D.int IntKind.i64 1] []]]), IV.own z6 33 1 x7, IV.own z8 57 2 x9]), (11, IV.d (D.int IntKind.i64 (IntKind.wrap IntKind.i64 (i10 + 1))))])) False) False) (Q (Out.exit 0 [(7, IV.d (D.int IntKind.i64 i1)), (8, IV.d (D.int IntKind.i64 i2)), (9, IV.d (D.int IntKind.i64 i3)), (10, IV.ptr 26 0 [IV.own z4 57 2 x5, IV.own z6 33 1 x7, IV.own z8 57 2 x9]), (11, IV.d (D.int IntKind.i64 i10))]))) := by kernel_rfl
theorem q8_l2b (C J) (i1 : Int) (i2 : Int) (i3 : Int) (z4 : Bool) (x5 : List D) (z6 : Bool) (x7 : List D) (z8 : Bool) (x9 : List D) (i10 : Int) (Q) : wpQ F C R (L8) J d8 [] [1,1,1,1,1,0,1,0,0] [(7, .d (.int .i64 i1)), (8, .d (.int .i64 i2)), (9, .d (.int .i64 i3)), (10, .ptr 26 0 [.own z4 57 2 x5, .own z6 33 1 x7, .own z8 57 2 x9]), (12, .d (.int .i64 i10))] Q = (condW (decide (i10 < i2)) (condW (decide (List.length x7 + (0 + 1) ≤ 9223372036854775807)) (condW (decide ((List.length x7 + (0 + 1)) * 24 ≤ 140737488355328)) (Q (Out.norm [(7, IV.d (D.int IntKind.i64 i1)), (8, IV.d (D.int IntKind.i64 i2)), (9, IV.d (D.int IntKind.i64 i3)), (10, IV.ptr 26 0 [IV.own z4 57 2 x5, IV.own (z6 && false) 33 1 (x7 ++ [D.sl 1 false [D.int IntKind.i64 1, D.int IntKind.i64 2] []]), IV.own z8 57 2 x9]), (12, IV.d (D.int IntKind.i64 (IntKind.wrap IntKind.i64 (i10 + 1))))])) False) False) (Q (Out.exit 2 [(7, IV.d (D.int IntKind.i64 i1)), (8, IV.d (D.int IntKind.i64 i2)), (9, IV.d (D.int IntKind.i64 i3)), (10, IV.ptr 26 0 [IV.own z4 57 2 x5, IV.own z6 33 1 x7, IV.own z8 57 2 x9]), (12, IV.d (D.int IntKind.i64 i10))]))) := by kernel_rfl
theorem q8_l4b (C J) (i1 : Int) (i2 : Int) (i3 : Int) (z4 : Bool) (x5 : List D) (z6 : Bool) (x7 : List D) (z8 : Bool) (x9 : List D) (i10 : Int) (Q) : wpQ F C R (L8) J d8 [] [1,1,1,1,1,1,0,1,0,0] [(7, .d (.int .i64 i1)), (8, .d (.int .i64 i2)), (9, .d (.int .i64 i3)), (10, .ptr 26 0 [.own z4 57 2 x5, .own z6 33 1 x7, .own z8 57 2 x9]), (13, .d (.int .i64 i10))] Q = (condW (decide (i10 < i3)) (condW (decide (List.length x9 + (0 + 1) ≤ 9223372036854775807)) (condW (decide ((List.length x9 + (0 + 1)) * 32 ≤ 140737488355328)) (Q (Out.norm [(7, IV.d (D.int IntKind.i64 i1)), (8, IV.d (D.int IntKind.i64 i2)), (9, IV.d (D.int IntKind.i64 i3)), (10, IV.ptr 26 0 [IV.own z4 57 2 x5, IV.own z6 33 1 x7, IV.own (z8 && false) 57 2 (x9 ++ [D.agg [D.bool false, D.sl 1 false [D.int IntKind.i64 5, D.int IntKind.i64 1] []]])]), (13, IV.d (D.int IntKind.i64 (IntKind.wrap IntKind.i64 (i10 + 1))))])) False) False) (Q (Out.exit 4 [(7, IV.d (D.int IntKind.i64 i1)), (8, IV.d (D.int IntKind.i64 i2)), (9, IV.d (D.int IntKind.i64 i3)), (10, IV.ptr 26 0 [IV.own z4 57 2 x5, IV.own z6 33 1 x7, IV.own z8 57 2 x9]), (13, IV.d (D.int IntKind.i64 i10))]))) := by kernel_rfl
theorem q62 (C J) (z1 : Bool) (x2 : List D) (e3 : List D) (z4 : Bool) (x5 : List D) (e6 : List D) (Q) : fnW F C R (L62) J d62 [.d (.sl 4 z1 x2 e3), .d (.sl 1 z4 x5 e6)] Q = (∃ w0 w1 w2 w3 w4 w5 w6 w7, evP F C J d62 [] [1, 1, 0, 1] [(0, IV.d (D.sl 4 z1 x2 e3)), (1, IV.d (D.sl 1 z4 x5 e6)), (5, IV.d (D.int IntKind.i64 0)), (6, IV.d (D.int IntKind.i64 0))] = some (Out.norm [(0, IV.d (D.sl 4 w0 w1 w2)), (1, IV.d (D.sl 1 w3 w4 w5)), (5, IV.d (D.int IntKind.i64 w6)), (6, IV.d (D.int IntKind.i64 w7))]) ∧ Q (some (IV.d (D.int IntKind.i64 w6), [IV.d (D.sl 4 z1 x2 e3), IV.d (D.sl 1 z4 x5 e6)]))) := by kernel_rfl
theorem q62_l0a (C J) (z1 : Bool) (x2 : List D) (e3 : List D) (z4 : Bool) (x5 : List D) (e6 : List D) (i7 : Int) (i8 : Int) (Q) : wpQ F C R (L62) J d62 [] [1,1,0,1,0,0] [(0, .d (.sl 4 z1 x2 e3)), (1, .d (.sl 1 z4 x5 e6)), (5, .d (.int .i64 i7)), (6, .d (.int .i64 i8))] Q = (condW (decide (i8 < (↑(List.length x5) : Int))) (condW (decide (0 ≤ i8)) (∃ w0, x5[Int.toNat i8]? = some (D.int IntKind.i64 w0) ∧ condW (decide (w0 < 0)) (Q (Out.norm [(0, IV.d (D.sl 4 z1 x2 e3)), (1, IV.d (D.sl 1 z4 x5 e6)), (5, IV.d (D.int IntKind.i64 (IntKind.wrap IntKind.i64 (i7 + 1)))), (6, IV.d (D.int IntKind.i64 (IntKind.wrap IntKind.i64 (i8 + 1))))])) (condW (decide (0 ≤ i8)) (∃ w1, x5[Int.toNat i8]? = some (D.int IntKind.i64 w1) ∧ condW (decide (0 ≤ w1)) (∃ w2 w3 w4 w5, x2[Int.toNat w1]? = some (D.agg [D.str w2, D.int IntKind.i64 w3, D.int IntKind.i64 w4, D.int IntKind.i64 w5]) ∧ Q (Out.norm [(0, IV.d (D.sl 4 z1 x2 e3)), (1, IV.d (D.sl 1 z4 x5 e6)), (5, IV.d (D.int IntKind.i64 (IntKind.wrap IntKind.i64 (i7 + w5)))), (6, IV.d (D.int IntKind.i64 (IntKind.wrap IntKind.i64 (i8 + 1))))])) False) False)) False) (Q (Out.exit 0 [(0, IV.d (D.sl 4 z1 x2 e3)), (1, IV.d (D.sl 1 z4 x5 e6)), (5, IV.d (D.int IntKind.i64 i7)), (6, IV.d (D.int IntKind.i64 i8))]))) := by kernel_rfl
theorem q34 (C J) (z1 : Bool) (x2 : List D) (e3 : List D) (z4 : Bool) (x5 : List D) (e6 : List D) (z7 : Bool) (x8 : List D) (e9 : List D) (z10 : Bool) (x11 : List D) (e12 : List D) (Q) : fnW F C R (L34) J d34 [.d (.sl 4 z1 x2 e3), .d (.agg [.sl 2 z4 x5 e6, .sl 1 z7 x8 e9, .sl 2 z10 x11 e12])] Q = (∃ w0 w1 w2 w3 w4 w5 w6 w7 w8 w9 w10 w11 w12 w13, evP F C J d34 [] [1, 1, 0, 1] [(0, IV.d (D.sl 4 z1 x2 e3)), (3, IV.dbox 26 0 [D.sl 2 z4 x5 e6, D.sl 1 z7 x8 e9, D.sl 2 z10 x11 e12]), (5, IV.d (D.int IntKind.i64 0)), (6, IV.d (D.int IntKind.i64 0))] = some (Out.norm [(0, IV.d (D.sl 4 w0 w1 w2)), (3, IV.dbox 26 0 [D.sl 2 w3 w4 w5, D.sl 1 w6 w7 w8, D.sl 2 w9 w10 w11]), (5, IV.d (D.int IntKind.i64 w12)), (6, IV.d (D.int IntKind.i64 w13))]) ∧ Q (some (IV.d (D.int IntKind.i64 w12), [IV.d (D.sl 4 z1 x2 e3), IV.d (D.agg [D.sl 2 z4 x5 e6, D.sl 1 z7 x8 e9, D.sl 2 z10 x11 e12])]))) := by kernel_rfl
theorem q34_l0a (C J) (z1 : Bool) (x2 : List D) (e3 : List D) (z4 : Bool) (x5 : List D) (e6 : List D) (z7 : Bool) (x8 : List D) (e9 : List D) (z10 : Bool) (x11 : List D) (e12 : List D) (i13 : Int) (i14 : Int) (Q) : wpQ F C R (L34) J d34 [] [1,1,0,1,0,0] [(0, .d (.sl 4 z1 x2 e3)), (3, .dbox 26 0 [.sl 2 z4 x5 e6, .sl 1 z7 x8 e9, .sl 2 z10 x11 e12]), (5, .d (.int .i64 i13)), (6, .d (.int .i64 i14))] Q = (condW (decide (i14 < (↑(List.length x5) : Int))) (condW (decide (0 ≤ i14)) (∃ w0 w1 w2 w3, x5[Int.toNat i14]? = some (D.agg [D.bool w0, D.sl 1 w1 w2 w3]) ∧ ∃ w4 w5 w6, C 62 [IV.d (D.sl 4 z1 x2 e3), IV.d (D.sl 1 w1 w2 w3)] = some (IV.d (D.int IntKind.i64 w4), [IV.d w5, IV.d w6]) ∧ Q (Out.norm [(0, IV.d (D.sl 4 z1 x2 e3)), (3, IV.dbox 26 0 [D.sl 2 z4 x5 e6, D.sl 1 z7 x8 e9, D.sl 2 z10 x11 e12]), (5, IV.d (D.int IntKind.i64 (IntKind.wrap IntKind.i64 (i13 + w4)))), (6, IV.d (D.int IntKind.i64 (IntKind.wrap IntKind.i64 (i14 + 1))))])) False) (Q (Out.exit 0 [(0, IV.d (D.sl 4 z1 x2 e3)), (3, IV.dbox 26 0 [D.sl 2 z4 x5 e6, D.sl 1 z7 x8 e9, D.sl 2 z10 x11 e12]), (5, IV.d (D.int IntKind.i64 i13)), (6, IV.d (D.int IntKind.i64 i14))]))) := by kernel_rfl
theorem q11 (C J) (z1 : Bool) (x2 : List D) (e3 : List D) (z4 : Bool) (x5 : List D) (e6 : List D) (z7 : Bool) (x8 : List D) (e9 : List D) (z10 : Bool) (x11 : List D) (e12 : List D) (Q) : fnW F C R (L11) J d11 [.d (.sl 4 z1 x2 e3), .d (.agg [.sl 2 z4 x5 e6, .sl 1 z7 x8 e9, .sl 2 z10 x11 e12])] Q = (∃ w0 w1 w2, C 19 [IV.d (D.sl 4 z1 x2 e3), IV.d (D.agg [D.sl 2 z4 x5 e6, D.sl 1 z7 x8 e9, D.sl 2 z10 x11 e12])] = some (IV.d (D.bool w0), [IV.d w1, IV.d w2]) ∧ condW w0 (∃ w3 w4 w5, C 34 [IV.d (D.sl 4 z1 x2 e3), IV.d (D.agg [D.sl 2 z4 x5 e6, D.sl 1 z7 x8 e9, D.sl 2 z10 x11 e12])] = some (IV.d (D.int IntKind.i64 w3), [IV.d w4, IV.d w5]) ∧ Q (some (IV.tup [IV.d (D.int IntKind.i64 w3), IV.d (D.int IntKind.i64 0)], [IV.d (D.sl 4 z1 x2 e3), IV.d (D.agg [D.sl 2 z4 x5 e6, D.sl 1 z7 x8 e9, D.sl 2 z10 x11 e12])]))) (Q (some (IV.tup [IV.d (D.int IntKind.i64 0), IV.d (D.int IntKind.i64 800)], [IV.d (D.sl 4 z1 x2 e3), IV.d (D.agg [D.sl 2 z4 x5 e6, D.sl 1 z7 x8 e9, D.sl 2 z10 x11 e12])])))) := by kernel_rfl
theorem q13 (C J) (z1 : Bool) (x2 : List D) (e3 : List D) (z4 : Bool) (x5 : List D) (e6 : List D) (z7 : Bool) (x8 : List D) (e9 : List D) (z10 : Bool) (x11 : List D) (e12 : List D) (Q) : fnW F C R (L13) J d13 [.d (.sl 4 z1 x2 e3), .d (.agg [.sl 2 z4 x5 e6, .sl 1 z7 x8 e9, .sl 2 z10 x11 e12])] Q = (∃ w0 w1 w2, C 19 [IV.d (D.sl 4 z1 x2 e3), IV.d (D.agg [D.sl 2 z4 x5 e6, D.sl 1 z7 x8 e9, D.sl 2 z10 x11 e12])] = some (IV.d (D.bool w0), [IV.d w1, IV.d w2]) ∧ condW w0 (∃ w3 w4 w5, C 37 [IV.d (D.agg [D.sl 2 z4 x5 e6, D.sl 1 z7 x8 e9, D.sl 2 z10 x11 e12])] = some (IV.own w3 3 1 w4, [IV.d w5]) ∧ Q (some (IV.tup [IV.own w3 3 1 w4, IV.d (D.int IntKind.i64 0)], [IV.d (D.sl 4 z1 x2 e3), IV.d (D.agg [D.sl 2 z4 x5 e6, D.sl 1 z7 x8 e9, D.sl 2 z10 x11 e12])]))) (Q (some (IV.tup [IV.own true 3 1 [], IV.d (D.int IntKind.i64 800)], [IV.d (D.sl 4 z1 x2 e3), IV.d (D.agg [D.sl 2 z4 x5 e6, D.sl 1 z7 x8 e9, D.sl 2 z10 x11 e12])])))) := by kernel_rfl
theorem q101 (C J) (z1 : Bool) (x2 : List D) (e3 : List D) (z4 : Bool) (x5 : List D) (e6 : List D) (i7 : Int) (Q) : fnW F C R (L101) J d101 [.d (.sl 4 z1 x2 e3), .d (.sl 1 z4 x5 e6), .d (.int .i64 i7)] Q = (∃ w0 w1 w2 w3 w4 w5 w6 w7, evP F C J d101 [] [1, 1, 0] [(0, IV.d (D.sl 4 z1 x2 e3)), (1, IV.d (D.sl 1 z4 x5 e6)), (7, IV.d (D.int IntKind.i64 1)), (8, IV.d (D.int IntKind.i64 i7))] = some (Out.norm [(0, IV.d (D.sl 4 w0 w1 w2)), (1, IV.d (D.sl 1 w3 w4 w5)), (7, IV.d (D.int IntKind.i64 w6)), (8, IV.d (D.int IntKind.i64 w7))]) ∧ Q (some (IV.d (D.int IntKind.i64 w7), [IV.d (D.sl 4 z1 x2 e3), IV.d (D.sl 1 z4 x5 e6), IV.d (D.int IntKind.i64 i7)]))) := by kernel_rfl
theorem q101_l0a (C J) (z1 : Bool) (x2 : List D) (e3 : List D) (z4 : Bool) (x5 : List D) (e6 : List D) (i7 : Int) (i8 : Int) (Q) : wpQ F C R (L101) J d101 [] [1,1,0,0,0] [(0, .d (.sl 4 z1 x2 e3)), (1, .d (.sl 1 z4 x5 e6)), (7, .d (.int .i64 i7)), (8, .d (.int .i64 i8))] Q = (condW (decide (i7 > 0)) (condW (decide (0 ≤ i8)) (∃ w0, x5[Int.toNat i8]? = some (D.int IntKind.i64 w0) ∧ condW (decide (w0 ≥ 0)) (condW (decide (0 ≤ i8)) (∃ w1, x5[Int.toNat i8]? = some (D.int IntKind.i64 w1) ∧ condW (decide (0 ≤ w1)) (∃ w2 w3 w4 w5, x2[Int.toNat w1]? = some (D.agg [D.str w2, D.int IntKind.i64 w3, D.int IntKind.i64 w4, D.int IntKind.i64 w5]) ∧ Q (Out.norm [(0, IV.d (D.sl 4 z1 x2 e3)), (1, IV.d (D.sl 1 z4 x5 e6)), (7, IV.d (D.int IntKind.i64 (IntKind.wrap IntKind.i64 (IntKind.wrap IntKind.i64 (i7 - 1) + w4)))), (8, IV.d (D.int IntKind.i64 (IntKind.wrap IntKind.i64 (i8 + 1))))])) False) False) (Q (Out.norm [(0, IV.d (D.sl 4 z1 x2 e3)), (1, IV.d (D.sl 1 z4 x5 e6)), (7, IV.d (D.int IntKind.i64 (IntKind.wrap IntKind.i64 (i7 - 1)))), (8, IV.d (D.int IntKind.i64 (IntKind.wrap IntKind.i64 (i8 + 1))))]))) False) (Q (Out.exit 0 [(0, IV.d (D.sl 4 z1 x2 e3)), (1, IV.d (D.sl 1 z4 x5 e6)), (7, IV.d (D.int IntKind.i64 i7)), (8, IV.d (D.int IntKind.i64 i8))]))) := by kernel_rfl
theorem q70 (C J) (z1 : Bool) (x2 : List D) (e3 : List D) (z4 : Bool) (x5 : List D) (e6 : List D) (Q) : fnW F C R (L70) J d70 [.d (.sl 4 z1 x2 e3), .d (.sl 1 z4 x5 e6)] Q = (∃ w0 w1 w2 w3 w4 w5 w6 w7 w8, evP F C J d70 [] [1, 1, 1, 0] [(0, IV.d (D.sl 4 z1 x2 e3)), (1, IV.d (D.sl 1 z4 x5 e6)), (5, IV.own true 33 1 []), (6, IV.d (D.int IntKind.i64 0))] = some (Out.norm [(0, IV.d (D.sl 4 w0 w1 w2)), (1, IV.d (D.sl 1 w3 w4 w5)), (5, IV.own w6 33 1 w7), (6, IV.d (D.int IntKind.i64 w8))]) ∧ Q (some (IV.own w6 33 1 w7, [IV.d (D.sl 4 z1 x2 e3), IV.d (D.sl 1 z4 x5 e6)]))) := by kernel_rfl
theorem q70_l0a (C J) (z1 : Bool) (x2 : List D) (e3 : List D) (z4 : Bool) (x5 : List D) (e6 : List D) (z7 : Bool) (x8 : List D) (i9 : Int) (Q) : wpQ F C R (L70) J d70 [] [1,1,1,0,0,0] [(0, .d (.sl 4 z1 x2 e3)), (1, .d (.sl 1 z4 x5 e6)), (5, .own z7 33 1 x8), (6, .d (.int .i64 i9))] Q = (condW (decide (i9 < (↑(List.length x5) : Int)))   (∃ w0 w1 w2 w3,     C 101 [IV.d (D.sl 4 z1 x2 e3), IV.d (D.sl 1 z4 x5 e6), IV.d (D.int IntKind.i64 i9)] = some (IV.d (D.int IntKind.i64 w0), [IV.d w1, IV.d w2, IV.d w3]) ∧       condW (decide (0 ≤ i9))         (condW (decide (i9 ≤ w0))           (condW (decide (w0 ≤ (↑(List.length x5 + List.length e6) : Int)))             (condW (decide (List.length x8 + (0 + 1) ≤ 9223372036854775807))               (condW (decide ((List.length x8 + (0 + 1)) * 24 ≤ 140737488355328))                 (Q                   (Out.norm                     [(0, IV.d (D.sl 4 z1 x2 e3)), (1, IV.d (D.sl 1 z4 x5 e6)),                       (5,                         IV.own (z7 && false) 33 1                           (x8 ++                             [D.sl 1 z4                                 (List.drop (Int.toNat i9)                                   (tkX (Int.toNat w0) x5 e6))                                 []])),                       (6, IV.d (D.int IntKind.i64 w0))]))                 False)               False)             False)           False)         False)   (Q (Out.exit 0 [(0, IV.d (D.sl 4 z1 x2 e3)), (1, IV.d (D.sl 1 z4 x5 e6)), (5, IV.own z7 33 1 x8), (6, IV.d (D.int IntKind.i64 i9))]))) := by kernel_rfl
theorem q42 (C J) (z1 : Bool) (x2 : List D) (e3 : List D) (z4 : Bool) (x5 : List D) (e6 : List D) (z7 : Bool) (x8 : List D) (e9 : List D) (z10 : Bool) (x11 : List D) (e12 : List D) (Q) : fnW F C R (L42) J d42 [.d (.sl 4 z1 x2 e3), .d (.agg [.sl 2 z4 x5 e6, .sl 1 z7 x8 e9, .sl 2 z10 x11 e12])] Q = ((∃ w0, evP F C J d42 [] [1, 0, 1] [(0, IV.d (D.sl 4 z1 x2 e3)), (3, IV.dbox 26 0 [D.sl 2 z4 x5 e6, D.sl 1 z7 x8 e9, D.sl 2 z10 x11 e12]), (5, IV.d (D.int IntKind.i64 0))] = some (Out.ret [(4, IV.d (D.bool w0))]) ∧ Q (some (IV.d (D.bool w0), [IV.d (D.sl 4 z1 x2 e3), IV.d (D.agg [D.sl 2 z4 x5 e6, D.sl 1 z7 x8 e9, D.sl 2 z10 x11 e12])]))) ∨ ∃ w1 w2 w3 w4 w5 w6 w7 w8 w9 w10 w11 w12 w13, evP F C J d42 [] [1, 0, 1] [(0, IV.d (D.sl 4 z1 x2 e3)), (3, IV.dbox 26 0 [D.sl 2 z4 x5 e6, D.sl 1 z7 x8 e9, D.sl 2 z10 x11 e12]), (5, IV.d (D.int IntKind.i64 0))] = some (Out.norm [(0, IV.d (D.sl 4 w1 w2 w3)), (3, IV.dbox 26 0 [D.sl 2 w4 w5 w6, D.sl 1 w7 w8 w9, D.sl 2 w10 w11 w12]), (5, IV.d (D.int IntKind.i64 w13))]) ∧ Q (some (IV.d (D.bool false), [IV.d (D.sl 4 z1 x2 e3), IV.d (D.agg [D.sl 2 z4 x5 e6, D.sl 1 z7 x8 e9, D.sl 2 z10 x11 e12])]))) := by kernel_rfl
theorem q42_l0a (C J) (z1 : Bool) (x2 : List D) (e3 : List D) (z4 : Bool) (x5 : List D) (e6 : List D) (z7 : Bool) (x8 : List D) (e9 : List D) (z10 : Bool) (x11 : List D) (e12 : List D) (i13 : Int) (Q) : wpQ F C R (L42) J d42 [] [1,0,1,0,0] [(0, .d (.sl 4 z1 x2 e3)), (3, .dbox 26 0 [.sl 2 z4 x5 e6, .sl 1 z7 x8 e9, .sl 2 z10 x11 e12]), (5, .d (.int .i64 i13))] Q = (condW (decide (i13 < (↑(List.length x5) : Int))) (condW (decide (0 ≤ i13)) (∃ w0 w1 w2 w3, x5[Int.toNat i13]? = some (D.agg [D.bool w0, D.sl 1 w1 w2 w3]) ∧ condW (decide (0 ≤ i13)) (∃ w4 w5 w6 w7, x5[Int.toNat i13]? = some (D.agg [D.bool w4, D.sl 1 w5 w6 w7]) ∧ condW w4 ((∃ w8, evP F C J d42 [] [1, 0, 1, 0, 0, 1, 0, 0, 1, 1, 1] [(0, IV.d (D.sl 4 z1 x2 e3)), (3, IV.dbox 26 0 [D.sl 2 z4 x5 e6, D.sl 1 z7 x8 e9, D.sl 2 z10 x11 e12]), (5, IV.d (D.int IntKind.i64 i13)), (6, IV.d (D.sl 1 w1 w2 w3)), (8, IV.d (D.int IntKind.i64 0))] = some (Out.ret [(4, IV.d (D.bool w8))]) ∧ Q (Out.ret [(4, IV.d (D.bool w8))])) ∨ ∃ w9 w10 w11 w12 w13 w14 w15 w16 w17 w18 w19 w20 w21 w22 w23 w24 w25, evP F C J d42 [] [1, 0, 1, 0, 0, 1, 0, 0, 1, 1, 1] [(0, IV.d (D.sl 4 z1 x2 e3)), (3, IV.dbox 26 0 [D.sl 2 z4 x5 e6, D.sl 1 z7 x8 e9, D.sl 2 z10 x11 e12]), (5, IV.d (D.int IntKind.i64 i13)), (6, IV.d (D.sl 1 w1 w2 w3)), (8, IV.d (D.int IntKind.i64 0))] = some (Out.norm [(0, IV.d (D.sl 4 w9 w10 w11)), (3, IV.dbox 26 0 [D.sl 2 w12 w13 w14, D.sl 1 w15 w16 w17, D.sl 2 w18 w19 w20]), (5, IV.d (D.int IntKind.i64 w21)), (6, IV.d (D.sl 1 w22 w23 w24)), (8, IV.d (D.int IntKind.i64 w25))]) ∧ Q (Out.norm [(0, IV.d (D.sl 4 w9 w10 w11)), (3, IV.dbox 26 0 [D.sl 2 w12 w13 w14, D.sl 1 w15 w16 w17, D.sl 2 w18 w19 w20]), (5, IV.d (D.int IntKind.i64 (IntKind.wrap IntKind.i64 (w21 + 1))))])) (∃ w26, w2[0]? = some (D.int IntKind.i64 w26) ∧ condW (w26 == 0) (condW (decide (1 ≤ (↑(List.length w2) : Int))) (∃ w27 w28 w29 w30, C 70 [IV.d (D.sl 4 z1 x2 e3), IV.d (D.sl 1 w1 (List.drop (Int.toNat 1) w2) [])] = some (IV.own w27 33 1 w28, [IV.d w29, IV.d w30]) ∧ ∃ w31, w28[0]? = some w31 ∧ ∃ w32 w33 w34, w28[0]? = some (D.sl 1 w32 w33 w34) ∧ ∃ w35, w28[1]? = some w35 ∧ ∃ w36 w37 w38, w28[1]? = some (D.sl 1 w36 w37 w38) ∧ ∃ w39 w40 w41, C 71 [IV.d (D.sl 1 w32 w33 w34), IV.d (D.sl 1 w36 w37 w38)] = some (IV.d (D.bool w39), [IV.d w40, IV.d w41]) ∧ condW w39 (Q (Out.ret [(4, IV.d (D.bool true))])) ((∃ w42, evP F C J d42 [] [1, 0, 1, 0, 0, 1, 0, 0, 1, 1, 1] [(0, IV.d (D.sl 4 z1 x2 e3)), (3, IV.dbox 26 0 [D.sl 2 z4 x5 e6, D.sl 1 z7 x8 e9, D.sl 2 z10 x11 e12]), (5, IV.d (D.int IntKind.i64 i13)), (6, IV.d (D.sl 1 w1 w2 w3)), (8, IV.d (D.int IntKind.i64 0))] = some (Out.ret [(4, IV.d (D.bool w42))]) ∧ Q (Out.ret [(4, IV.d (D.bool w42))])) ∨ ∃ w43 w44 w45 w46 w47 w48 w49 w50 w51 w52 w53 w54 w55 w56 w57 w58 w59, evP F C J d42 [] [1, 0, 1, 0, 0, 1, 0, 0, 1, 1, 1] [(0, IV.d (D.sl 4 z1 x2 e3)), (3, IV.dbox 26 0 [D.sl 2 z4 x5 e6, D.sl 1 z7 x8 e9, D.sl 2 z10 x11 e12]), (5, IV.d (D.int IntKind.i64 i13)), (6, IV.d (D.sl 1 w1 w2 w3)), (8, IV.d (D.int IntKind.i64 0))] = some (Out.norm [(0, IV.d (D.sl 4 w43 w44 w45)), (3, IV.dbox 26 0 [D.sl 2 w46 w47 w48, D.sl 1 w49 w50 w51, D.sl 2 w52 w53 w54]), (5, IV.d (D.int IntKind.i64 w55)), (6, IV.d (D.sl 1 w56 w57 w58)), (8, IV.d (D.int IntKind.i64 w59))]) ∧ Q (Out.norm [(0, IV.d (D.sl 4 w43 w44 w45)), (3, IV.dbox 26 0 [D.sl 2 w46 w47 w48, D.sl 1 w49 w50 w51, D.sl 2 w52 w53 w54]), (5, IV.d (D.int IntKind.i64 (IntKind.wrap IntKind.i64 (w55 + 1))))]))) False) ((∃ w60, evP F C J d42 [] [1, 0, 1, 0, 0, 1, 0, 0, 1, 1, 1] [(0, IV.d (D.sl 4 z1 x2 e3)), (3, IV.dbox 26 0 [D.sl 2 z4 x5 e6, D.sl 1 z7 x8 e9, D.sl 2 z10 x11 e12]), (5, IV.d (D.int IntKind.i64 i13)), (6, IV.d (D.sl 1 w1 w2 w3)), (8, IV.d (D.int IntKind.i64 0))] = some (Out.ret [(4, IV.d (D.bool w60))]) ∧ Q (Out.ret [(4, IV.d (D.bool w60))])) ∨ ∃ w61 w62 w63 w64 w65 w66 w67 w68 w69 w70 w71 w72 w73 w74 w75 w76 w77, evP F C J d42 [] [1, 0, 1, 0, 0, 1, 0, 0, 1, 1, 1] [(0, IV.d (D.sl 4 z1 x2 e3)), (3, IV.dbox 26 0 [D.sl 2 z4 x5 e6, D.sl 1 z7 x8 e9, D.sl 2 z10 x11 e12]), (5, IV.d (D.int IntKind.i64 i13)), (6, IV.d (D.sl 1 w1 w2 w3)), (8, IV.d (D.int IntKind.i64 0))] = some (Out.norm [(0, IV.d (D.sl 4 w61 w62 w63)), (3, IV.dbox 26 0 [D.sl 2 w64 w65 w66, D.sl 1 w67 w68 w69, D.sl 2 w70 w71 w72]), (5, IV.d (D.int IntKind.i64 w73)), (6, IV.d (D.sl 1 w74 w75 w76)), (8, IV.d (D.int IntKind.i64 w77))]) ∧ Q (Out.norm [(0, IV.d (D.sl 4 w61 w62 w63)), (3, IV.dbox 26 0 [D.sl 2 w64 w65 w66, D.sl 1 w67 w68 w69, D.sl 2 w70 w71 w72]), (5, IV.d (D.int IntKind.i64 (IntKind.wrap IntKind.i64 (w73 + 1))))])))) False) False) (Q (Out.exit 0 [(0, IV.d (D.sl 4 z1 x2 e3)), (3, IV.dbox 26 0 [D.sl 2 z4 x5 e6, D.sl 1 z7 x8 e9, D.sl 2 z10 x11 e12]), (5, IV.d (D.int IntKind.i64 i13))]))) := by kernel_rfl
theorem q42_l2a (C J) (z1 : Bool) (x2 : List D) (e3 : List D) (z4 : Bool) (x5 : List D) (e6 : List D) (z7 : Bool) (x8 : List D) (e9 : List D) (z10 : Bool) (x11 : List D) (e12 : List D) (i13 : Int) (z14 : Bool) (x15 : List D) (e16 : List D) (i17 : Int) (Q) : wpQ F C R (L42) J d42 [] [1,0,1,0,0,1,0,0,1,1,1,0,0] [(0, .d (.sl 4 z1 x2 e3)), (3, .dbox 26 0 [.sl 2 z4 x5 e6, .sl 1 z7 x8 e9, .sl 2 z10 x11 e12]), (5, .d (.int .i64 i13)), (6, .d (.sl 1 z14 x15 e16)), (8, .d (.int .i64 i17))] Q = (condW (decide (i17 < i13)) (condW (decide (0 ≤ i17)) (∃ w0 w1 w2 w3, x5[Int.toNat i17]? = some (D.agg [D.bool w0, D.sl 1 w1 w2 w3]) ∧ condW w0 (condW (decide (0 ≤ i13)) (∃ w4 w5 w6 w7, x5[Int.toNat i13]? = some (D.agg [D.bool w4, D.sl 1 w5 w6 w7]) ∧ condW w4 (Q (Out.norm [(0, IV.d (D.sl 4 z1 x2 e3)), (3, IV.dbox 26 0 [D.sl 2 z4 x5 e6, D.sl 1 z7 x8 e9, D.sl 2 z10 x11 e12]), (5, IV.d (D.int IntKind.i64 i13)), (6, IV.d (D.sl 1 z14 x15 e16)), (8, IV.d (D.int IntKind.i64 (IntKind.wrap IntKind.i64 (i17 + 1))))])) (condW (decide (0 ≤ i17)) (∃ w8 w9 w10 w11, x5[Int.toNat i17]? = some (D.agg [D.bool w8, D.sl 1 w9 w10 w11]) ∧ ∃ w12 w13 w14, C 71 [IV.d (D.sl 1 w9 w10 w11), IV.d (D.sl 1 z14 x15 e16)] = some (IV.d (D.bool w12), [IV.d w13, IV.d w14]) ∧ condW w12 (Q (Out.ret [(4, IV.d (D.bool true))])) (Q (Out.norm [(0, IV.d (D.sl 4 z1 x2 e3)), (3, IV.dbox 26 0 [D.sl 2 z4 x5 e6, D.sl 1 z7 x8 e9, D.sl 2 z10 x11 e12]), (5, IV.d (D.int IntKind.i64 i13)), (6, IV.d (D.sl 1 z14 x15 e16)), (8, IV.d (D.int IntKind.i64 (IntKind.wrap IntKind.i64 (i17 + 1))))]))) False)) False) (condW (decide (0 ≤ i13)) (∃ w15 w16 w17 w18, x5[Int.toNat i13]? = some (D.agg [D.bool w15, D.sl 1 w16 w17 w18]) ∧ condW w15 (condW (decide (0 ≤ i17)) (∃ w19 w20 w21 w22, x5[Int.toNat i17]? = some (D.agg [D.bool w19, D.sl 1 w20 w21 w22]) ∧ ∃ w23 w24 w25, C 71 [IV.d (D.sl 1 w20 w21 w22), IV.d (D.sl 1 z14 x15 e16)] = some (IV.d (D.bool w23), [IV.d w24, IV.d w25]) ∧ condW w23 (Q (Out.ret [(4, IV.d (D.bool true))])) (Q (Out.norm [(0, IV.d (D.sl 4 z1 x2 e3)), (3, IV.dbox 26 0 [D.sl 2 z4 x5 e6, D.sl 1 z7 x8 e9, D.sl 2 z10 x11 e12]), (5, IV.d (D.int IntKind.i64 i13)), (6, IV.d (D.sl 1 z14 x15 e16)), (8, IV.d (D.int IntKind.i64 (IntKind.wrap IntKind.i64 (i17 + 1))))]))) False) (Q (Out.norm [(0, IV.d (D.sl 4 z1 x2 e3)), (3, IV.dbox 26 0 [D.sl 2 z4 x5 e6, D.sl 1 z7 x8 e9, D.sl 2 z10 x11 e12]), (5, IV.d (D.int IntKind.i64 i13)), (6, IV.d (D.sl 1 z14 x15 e16)), (8, IV.d (D.int IntKind.i64 (IntKind.wrap IntKind.i64 (i17 + 1))))]))) False)) False) (Q (Out.exit 2 [(0, IV.d (D.sl 4 z1 x2 e3)), (3, IV.dbox 26 0 [D.sl 2 z4 x5 e6, D.sl 1 z7 x8 e9, D.sl 2 z10 x11 e12]), (5, IV.d (D.int IntKind.i64 i13)), (6, IV.d (D.sl 1 z14 x15 e16)), (8, IV.d (D.int IntKind.i64 i17))]))) := by kernel_rfl
theorem q15 (C J) (z1 : Bool) (x2 : List D) (e3 : List D) (z4 : Bool) (x5 : List D) (e6 : List D) (z7 : Bool) (x8 : List D) (e9 : List D) (z10 : Bool) (x11 : List D) (e12 : List D) (Q) : fnW F C R (L15) J d15 [.d (.sl 4 z1 x2 e3), .d (.agg [.sl 2 z4 x5 e6, .sl 1 z7 x8 e9, .sl 2 z10 x11 e12])] Q = (∃ w0 w1 w2, C 19 [IV.d (D.sl 4 z1 x2 e3), IV.d (D.agg [D.sl 2 z4 x5 e6, D.sl 1 z7 x8 e9, D.sl 2 z10 x11 e12])] = some (IV.d (D.bool w0), [IV.d w1, IV.d w2]) ∧ condW w0 (∃ w3 w4 w5, C 42 [IV.d (D.sl 4 z1 x2 e3), IV.d (D.agg [D.sl 2 z4 x5 e6, D.sl 1 z7 x8 e9, D.sl 2 z10 x11 e12])] = some (IV.d (D.bool w3), [IV.d w4, IV.d w5]) ∧ condW w3 (Q (some (IV.tup [IV.d (D.bool true), IV.d (D.int IntKind.i64 0)], [IV.d (D.sl 4 z1 x2 e3), IV.d (D.agg [D.sl 2 z4 x5 e6, D.sl 1 z7 x8 e9, D.sl 2 z10 x11 e12])]))) (Q (some (IV.tup [IV.d (D.bool false), IV.d (D.int IntKind.i64 0)], [IV.d (D.sl 4 z1 x2 e3), IV.d (D.agg [D.sl 2 z4 x5 e6, D.sl 1 z7 x8 e9, D.sl 2 z10 x11 e12])])))) (Q (some (IV.tup [IV.d (D.bool false), IV.d (D.int IntKind.i64 800)], [IV.d (D.sl 4 z1 x2 e3), IV.d (D.agg [D.sl 2 z4 x5 e6, D.sl 1 z7 x8 e9, D.sl 2 z10 x11 e12])])))) := by kernel_rfl
theorem q45 (C J) (z1 : Bool) (x2 : List D) (e3 : List D) (z4 : Bool) (x5 : List D) (e6 : List D) (z7 : Bool) (x8 : List D) (e9 : List D) (z10 : Bool) (x11 : List D) (e12 : List D) (z13 : Bool) (x14 : List D) (e15 : List D) (z16 : Bool) (x17 : List D) (e18 : List D) (Q) : fnW F C R (L45) J d45 [.d (.agg [.sl 2 z1 x2 e3, .sl 1 z4 x5 e6, .sl 2 z7 x8 e9]), .d (.agg [.sl 2 z10 x11 e12, .sl 1 z13 x14 e15, .sl 2 z16 x17 e18])] Q = (∃ w0 w1 w2, C 53 [IV.d (D.agg [D.sl 2 z1 x2 e3, D.sl 1 z4 x5 e6, D.sl 2 z7 x8 e9])] = some (IV.own w0 33 1 w1, [IV.d w2]) ∧ ∃ w3 w4 w5, C 53 [IV.d (D.agg [D.sl 2 z10 x11 e12, D.sl 1 z13 x14 e15, D.sl 2 z16 x17 e18])] = some (IV.own w3 33 1 w4, [IV.d w5]) ∧ condW ((↑(List.length x2) : Int) != (↑(List.length x11) : Int)) (Q (some (IV.d (D.bool false), [IV.d (D.agg [D.sl 2 z1 x2 e3, D.sl 1 z4 x5 e6, D.sl 2 z7 x8 e9]), IV.d (D.agg [D.sl 2 z10 x11 e12, D.sl 1 z13 x14 e15, D.sl 2 z16 x17 e18])]))) (condW ((↑(List.length x5) : Int) != (↑(List.length x14) : Int)) (Q (some (IV.d (D.bool false), [IV.d (D.agg [D.sl 2 z1 x2 e3, D.sl 1 z4 x5 e6, D.sl 2 z7 x8 e9]), IV.d (D.agg [D.sl 2 z10 x11 e12, D.sl 1 z13 x14 e15, D.sl 2 z16 x17 e18])]))) (condW ((↑(List.length x8) : Int) != (↑(List.length x17) : Int)) (Q (some (IV.d (D.bool false), [IV.d (D.agg [D.sl 2 z1 x2 e3, D.sl 1 z4 x5 e6, D.sl 2 z7 x8 e9]), IV.d (D.agg [D.sl 2 z10 x11 e12, D.sl 1 z13 x14 e15, D.sl 2 z16 x17 e18])]))) ((∃ w6, evP F C J d45 [] [1, 1, 1, 0, 1] [(2, IV.dbox 26 0 [D.sl 2 z1 x2 e3, D.sl 1 z4 x5 e6, D.sl 2 z7 x8 e9]), (3, IV.dbox 26 0 [D.sl 2 z10 x11 e12, D.sl 1 z13 x14 e15, D.sl 2 z16 x17 e18]), (5, IV.own w0 33 1 w1), (6, IV.own w3 33 1 w4), (7, IV.d (D.int IntKind.i64 0))] = some (Out.ret [(4, IV.d (D.bool w6))]) ∧ Q (some (IV.d (D.bool w6), [IV.d (D.agg [D.sl 2 z1 x2 e3, D.sl 1 z4 x5 e6, D.sl 2 z7 x8 e9]), IV.d (D.agg [D.sl 2 z10 x11 e12, D.sl 1 z13 x14 e15, D.sl 2 z16 x17 e18])]))) ∨ ∃ w7 w8 w9 w10 w11 w12 w13 w14 w15 w16 w17 w18 w19 w20 w21 w22 w23 w24 w25 w26 w27 w28 w29, evP F C J d45 [] [1, 1, 1, 0, 1] [(2, IV.dbox 26 0 [D.sl 2 z1 x2 e3, D.sl 1 z4 x5 e6, D.sl 2 z7 x8 e9]), (3, IV.dbox 26 0 [D.sl 2 z10 x11 e12, D.sl 1 z13 x14 e15, D.sl 2 z16 x17 e18]), (5, IV.own w0 33 1 w1), (6, IV.own w3 33 1 w4), (7, IV.d (D.int IntKind.i64 0))] = some (Out.norm [(2, IV.dbox 26 0 [D.sl 2 w7 w8 w9, D.sl 1 w10 w11 w12, D.sl 2 w13 w14 w15]), (3, IV.dbox 26 0 [D.sl 2 w16 w17 w18, D.sl 1 w19 w20 w21, D.sl 2 w22 w23 w24]), (5, IV.own w25 33 1 w26), (6, IV.own w27 33 1 w28), (7, IV.d (D.int IntKind.i64 w29))]) ∧ ((∃ w30, evP F C J d45 [] [1, 1, 1, 1, 0, 1] [(2, IV.dbox 26 0 [D.sl 2 w7 w8 w9, D.sl 1 w10 w11 w12, D.sl 2 w13 w14 w15]), (3, IV.dbox 26 0 [D.sl 2 w16 w17 w18, D.sl 1 w19 w20 w21, D.sl 2 w22 w23 w24]), (8, IV.d (D.int IntKind.i64 0))] = some (Out.ret [(4, IV.d (D.bool w30))]) ∧ Q (some (IV.d (D.bool w30), [IV.d (D.agg [D.sl 2 z1 x2 e3, D.sl 1 z4 x5 e6, D.sl 2 z7 x8 e9]), IV.d (D.agg [D.sl 2 z10 x11 e12, D.sl 1 z13 x14 e15, D.sl 2 z16 x17 e18])]))) ∨ ∃ w31 w32 w33 w34 w35 w36 w37 w38 w39 w40 w41 w42 w43 w44 w45 w46 w47 w48 w49, evP F C J d45 [] [1, 1, 1, 1, 0, 1] [(2, IV.dbox 26 0 [D.sl 2 w7 w8 w9, D.sl 1 w10 w11 w12, D.sl 2 w13 w14 w15]), (3, IV.dbox 26 0 [D.sl 2 w16 w17 w18, D.sl 1 w19 w20 w21, D.sl 2 w22 w23 w24]), (8, IV.d (D.int IntKind.i64 0))] = some (Out.norm [(2, IV.dbox 26 0 [D.sl 2 w31 w32 w33, D.sl 1 w34 w35 w36, D.sl 2 w37 w38 w39]), (3, IV.dbox 26 0 [D.sl 2 w40 w41 w42, D.sl 1 w43 w44 w45, D.sl 2 w46 w47 w48]), (8, IV.d (D.int IntKind.i64 w49))]) ∧ ((∃ w50, evP F C J d45 [] [1, 1, 1, 1, 1, 0, 1] [(2, IV.dbox 26 0 [D.sl 2 w31 w32 w33, D.sl 1 w34 w35 w36, D.sl 2 w37 w38 w39]), (3, IV.dbox 26 0 [D.sl 2 w40 w41 w42, D.sl 1 w43 w44 w45, D.sl 2 w46 w47 w48]), (9, IV.d (D.int IntKind.i64 0))] = some (Out.ret [(4, IV.d (D.bool w50))]) ∧ Q (some (IV.d (D.bool w50), [IV.d (D.agg [D.sl 2 z1 x2 e3, D.sl 1 z4 x5 e6, D.sl 2 z7 x8 e9]), IV.d (D.agg [D.sl 2 z10 x11 e12, D.sl 1 z13 x14 e15, D.sl 2 z16 x17 e18])]))) ∨ ∃ w51 w52 w53 w54 w55 w56 w57 w58 w59 w60 w61 w62 w63 w64 w65 w66 w67 w68 w69, evP F C J d45 [] [1, 1, 1, 1, 1, 0, 1] [(2, IV.dbox 26 0 [D.sl 2 w31 w32 w33, D.sl 1 w34 w35 w36, D.sl 2 w37 w38 w39]), (3, IV.dbox 26 0 [D.sl 2 w40 w41 w42, D.sl 1 w43 w44 w45, D.sl 2 w46 w47 w48]), (9, IV.d (D.int IntKind.i64 0))] = some (Out.norm [(2, IV.dbox 26 0 [D.sl 2 w51 w52 w53, D.sl 1 w54 w55 w56, D.sl 2 w57 w58 w59]), (3, IV.dbox 26 0 [D.sl 2 w60 w61 w62, D.sl 1 w63 w64 w65, D.sl 2 w66 w67 w68]), (9, IV.d (D.int IntKind.i64 w69))]) ∧ Q (some (IV.d (D.bool true), [IV.d (D.agg [D.sl 2 z1 x2 e3, D.sl 1 z4 x5 e6, D.sl 2 z7 x8 e9]), IV.d (D.agg [D.sl 2 z10 x11 e12, D.sl 1 z13 x14 e15, D.sl 2 z16 x17 e18])])))))))) := by kernel_rfl
theorem q45_l4a (C J) (i1 : Int) (Q) : wpQ F C R (L45) J d45 [] [1,1,1,1,1,0,1,0,0] [(2, .dead), (3, .dead), (9, .d (.int .i64 i1))] Q = (False) := by kernel_rfl
theorem q45_l2a (C J) (i1 : Int) (Q) : wpQ F C R (L45) J d45 [] [1,1,1,1,0,1,0,0] [(2, .dead), (3, .dead), (8, .d (.int .i64 i1))] Q = (False) := by kernel_rfl
theorem q45_l0a (C J) (z1 : Bool) (x2 : List D) (e3 : List D) (z4 : Bool) (x5 : List D) (e6 : List D) (z7 : Bool) (x8 : List D) (e9 : List D) (z10 : Bool) (x11 : List D) (e12 : List D) (z13 : Bool) (x14 : List D) (e15 : List D) (z16 : Bool) (x17 : List D) (e18 : List D) (z19 : Bool) (x20 : List D) (z21 : Bool) (x22 : List D) (i23 : Int) (Q) : wpQ F C R (L45) J d45 [] [1,1,1,0,1,0,0] [(2, .dbox 26 0 [.sl 2 z1 x2 e3, .sl 1 z4 x5 e6, .sl 2 z7 x8 e9]), (3, .dbox 26 0 [.sl 2 z10 x11 e12, .sl 1 z13 x14 e15, .sl 2 z16 x17 e18]), (5, .own z19 33 1 x20), (6, .own z21 33 1 x22), (7, .d (.int .i64 i23))] Q = (condW (decide (i23 < (↑(List.length x20) : Int))) (condW (decide (0 ≤ i23)) (∃ w0, x20[Int.toNat i23]? = some w0 ∧ ∃ w1 w2 w3, x20[Int.toNat i23]? = some (D.sl 1 w1 w2 w3) ∧ condW (decide (0 ≤ i23)) (∃ w4, x22[Int.toNat i23]? = some w4 ∧ ∃ w5 w6 w7, x22[Int.toNat i23]? = some (D.sl 1 w5 w6 w7) ∧ ∃ w8 w9 w10, C 71 [IV.d (D.sl 1 w1 w2 w3), IV.d (D.sl 1 w5 w6 w7)] = some (IV.d (D.bool w8), [IV.d w9, IV.d w10]) ∧ condW w8 (Q (Out.norm [(2, IV.dbox 26 0 [D.sl 2 z1 x2 e3, D.sl 1 z4 x5 e6, D.sl 2 z7 x8 e9]), (3, IV.dbox 26 0 [D.sl 2 z10 x11 e12, D.sl 1 z13 x14 e15, D.sl 2 z16 x17 e18]), (5, IV.own z19 33 1 x20), (6, IV.own z21 33 1 x22), (7, IV.d (D.int IntKind.i64 (IntKind.wrap IntKind.i64 (i23 + 1))))])) (Q (Out.ret [(4, IV.d (D.bool false))]))) False) False) (Q (Out.exit 0 [(2, IV.dbox 26 0 [D.sl 2 z1 x2 e3, D.sl 1 z4 x5 e6, D.sl 2 z7 x8 e9]), (3, IV.dbox 26 0 [D.sl 2 z10 x11 e12, D.sl 1 z13 x14 e15, D.sl 2 z16 x17 e18]), (5, IV.own z19 33 1 x20), (6, IV.own z21 33 1 x22), (7, IV.d (D.int IntKind.i64 i23))]))) := by kernel_rfl
theorem q45_l2b (C J) (z1 : Bool) (x2 : List D) (e3 : List D) (z4 : Bool) (x5 : List D) (e6 : List D) (z7 : Bool) (x8 : List D) (e9 : List D) (z10 : Bool) (x11 : List D) (e12 : List D) (z13 : Bool) (x14 : List D) (e15 : List D) (z16 : Bool) (x17 : List D) (e18 : List D) (i19 : Int) (Q) : wpQ F C R (L45) J d45 [] [1,1,1,1,0,1,0,0] [(2, .dbox 26 0 [.sl 2 z1 x2 e3, .sl 1 z4 x5 e6, .sl 2 z7 x8 e9]), (3, .dbox 26 0 [.sl 2 z10 x11 e12, .sl 1 z13 x14 e15, .sl 2 z16 x17 e18]), (8, .d (.int .i64 i19))] Q = (condW (decide (i19 < (↑(List.length x2) : Int))) (condW (decide (0 ≤ i19)) (∃ w0 w1 w2 w3, x2[Int.toNat i19]? = some (D.agg [D.bool w0, D.sl 1 w1 w2 w3]) ∧ condW w0 (condW (decide (0 ≤ i19)) (∃ w4 w5 w6 w7, x11[Int.toNat i19]? = some (D.agg [D.bool w4, D.sl 1 w5 w6 w7]) ∧ condW w4 (Q (Out.norm [(2, IV.dbox 26 0 [D.sl 2 z1 x2 e3, D.sl 1 z4 x5 e6, D.sl 2 z7 x8 e9]), (3, IV.dbox 26 0 [D.sl 2 z10 x11 e12, D.sl 1 z13 x14 e15, D.sl 2 z16 x17 e18]), (8, IV.d (D.int IntKind.i64 (IntKind.wrap IntKind.i64 (i19 + 1))))])) (Q (Out.ret [(4, IV.d (D.bool false))]))) False) (condW (decide (0 ≤ i19)) (∃ w8 w9 w10 w11, x11[Int.toNat i19]? = some (D.agg [D.bool w8, D.sl 1 w9 w10 w11]) ∧ condW w8 (Q (Out.ret [(4, IV.d (D.bool false))])) (Q (Out.norm [(2, IV.dbox 26 0 [D.sl 2 z1 x2 e3, D.sl 1 z4 x5 e6, D.sl 2 z7 x8 e9]), (3, IV.dbox 26 0 [D.sl 2 z10 x11 e12, D.sl 1 z13 x14 e15, D.sl 2 z16 x17 e18]), (8, IV.d (D.int IntKind.i64 (IntKind.wrap IntKind.i64 (i19 + 1))))]))) False)) False) (Q (Out.exit 2 [(2, IV.dbox 26 0 [D.sl 2 z1 x2 e3, D.sl 1 z4 x5 e6, D.sl 2 z7 x8 e9]), (3, IV.dbox 26 0 [D.sl 2 z10 x11 e12, D.sl 1 z13 x14 e15, D.sl 2 z16 x17 e18]), (8, IV.d (D.int IntKind.i64 i19))]))) := by kernel_rfl
theorem q45_l4b (C J) (z1 : Bool) (x2 : List D) (e3 : List D) (z4 : Bool) (x5 : List D) (e6 : List D) (z7 : Bool) (x8 : List D) (e9 : List D) (z10 : Bool) (x11 : List D) (e12 : List D) (z13 : Bool) (x14 : List D) (e15 : List D) (z16 : Bool) (x17 : List D) (e18 : List D) (i19 : Int) (Q) : wpQ F C R (L45) J d45 [] [1,1,1,1,1,0,1,0,0] [(2, .dbox 26 0 [.sl 2 z1 x2 e3, .sl 1 z4 x5 e6, .sl 2 z7 x8 e9]), (3, .dbox 26 0 [.sl 2 z10 x11 e12, .sl 1 z13 x14 e15, .sl 2 z16 x17 e18]), (9, .d (.int .i64 i19))] Q = (condW (decide (i19 < (↑(List.length x8) : Int))) (condW (decide (0 ≤ i19)) (∃ w0 w1 w2 w3, x8[Int.toNat i19]? = some (D.agg [D.bool w0, D.sl 1 w1 w2 w3]) ∧ condW w0 (condW (decide (0 ≤ i19)) (∃ w4 w5 w6 w7, x17[Int.toNat i19]? = some (D.agg [D.bool w4, D.sl 1 w5 w6 w7]) ∧ condW w4 (Q (Out.norm [(2, IV.dbox 26 0 [D.sl 2 z1 x2 e3, D.sl 1 z4 x5 e6, D.sl 2 z7 x8 e9]), (3, IV.dbox 26 0 [D.sl 2 z10 x11 e12, D.sl 1 z13 x14 e15, D.sl 2 z16 x17 e18]), (9, IV.d (D.int IntKind.i64 (IntKind.wrap IntKind.i64 (i19 + 1))))])) (Q (Out.ret [(4, IV.d (D.bool false))]))) False) (condW (decide (0 ≤ i19)) (∃ w8 w9 w10 w11, x17[Int.toNat i19]? = some (D.agg [D.bool w8, D.sl 1 w9 w10 w11]) ∧ condW w8 (Q (Out.ret [(4, IV.d (D.bool false))])) (Q (Out.norm [(2, IV.dbox 26 0 [D.sl 2 z1 x2 e3, D.sl 1 z4 x5 e6, D.sl 2 z7 x8 e9]), (3, IV.dbox 26 0 [D.sl 2 z10 x11 e12, D.sl 1 z13 x14 e15, D.sl 2 z16 x17 e18]), (9, IV.d (D.int IntKind.i64 (IntKind.wrap IntKind.i64 (i19 + 1))))]))) False)) False) (Q (Out.exit 4 [(2, IV.dbox 26 0 [D.sl 2 z1 x2 e3, D.sl 1 z4 x5 e6, D.sl 2 z7 x8 e9]), (3, IV.dbox 26 0 [D.sl 2 z10 x11 e12, D.sl 1 z13 x14 e15, D.sl 2 z16 x17 e18]), (9, IV.d (D.int IntKind.i64 i19))]))) := by kernel_rfl
theorem q17 (C J) (z1 : Bool) (x2 : List D) (e3 : List D) (z4 : Bool) (x5 : List D) (e6 : List D) (z7 : Bool) (x8 : List D) (e9 : List D) (z10 : Bool) (x11 : List D) (e12 : List D) (z13 : Bool) (x14 : List D) (e15 : List D) (z16 : Bool) (x17 : List D) (e18 : List D) (z19 : Bool) (x20 : List D) (e21 : List D) (Q) : fnW F C R (L17) J d17 [.d (.sl 4 z1 x2 e3), .d (.agg [.sl 2 z4 x5 e6, .sl 1 z7 x8 e9, .sl 2 z10 x11 e12]), .d (.agg [.sl 2 z13 x14 e15, .sl 1 z16 x17 e18, .sl 2 z19 x20 e21])] Q = (∃ w0 w1 w2, C 19 [IV.d (D.sl 4 z1 x2 e3), IV.d (D.agg [D.sl 2 z4 x5 e6, D.sl 1 z7 x8 e9, D.sl 2 z10 x11 e12])] = some (IV.d (D.bool w0), [IV.d w1, IV.d w2]) ∧ condW w0 (∃ w3 w4 w5, C 19 [IV.d (D.sl 4 z1 x2 e3), IV.d (D.agg [D.sl 2 z13 x14 e15, D.sl 1 z16 x17 e18, D.sl 2 z19 x20 e21])] = some (IV.d (D.bool w3), [IV.d w4, IV.d w5]) ∧ condW w3 (∃ w6 w7 w8 w9 w10 w11 w12, C 46 [IV.d (D.agg [D.sl 2 z4 x5 e6, D.sl 1 z7 x8 e9, D.sl 2 z10 x11 e12])] = some (IV.agg [IV.own w6 57 2 w7, IV.own w8 33 1 w9, IV.own w10 57 2 w11], [IV.d w12]) ∧ ∃ w13 w14 w15 w16 w17 w18 w19, C 46 [IV.d (D.agg [D.sl 2 z13 x14 e15, D.sl 1 z16 x17 e18, D.sl 2 z19 x20 e21])] = some (IV.agg [IV.own w13 57 2 w14, IV.own w15 33 1 w16, IV.own w17 57 2 w18], [IV.d w19]) ∧ ∃ w20 w21 w22, C 45 [IV.d (D.agg [D.sl 2 w6 w7 [], D.sl 1 w8 w9 [], D.sl 2 w10 w11 []]), IV.d (D.agg [D.sl 2 w13 w14 [], D.sl 1 w15 w16 [], D.sl 2 w17 w18 []])] = some (IV.d (D.bool w20), [IV.d w21, IV.d w22]) ∧ condW w20 (Q (some (IV.tup [IV.d (D.bool true), IV.d (D.int IntKind.i64 0)], [IV.d (D.sl 4 z1 x2 e3), IV.d (D.agg [D.sl 2 z4 x5 e6, D.sl 1 z7 x8 e9, D.sl 2 z10 x11 e12]), IV.d (D.agg [D.sl 2 z13 x14 e15, D.sl 1 z16 x17 e18, D.sl 2 z19 x20 e21])]))) (Q (some (IV.tup [IV.d (D.bool false), IV.d (D.int IntKind.i64 0)], [IV.d (D.sl 4 z1 x2 e3), IV.d (D.agg [D.sl 2 z4 x5 e6, D.sl 1 z7 x8 e9, D.sl 2 z10 x11 e12]), IV.d (D.agg [D.sl 2 z13 x14 e15, D.sl 1 z16 x17 e18, D.sl 2 z19 x20 e21])])))) (Q (some (IV.tup [IV.d (D.bool false), IV.d (D.int IntKind.i64 800)], [IV.d (D.sl 4 z1 x2 e3), IV.d (D.agg [D.sl 2 z4 x5 e6, D.sl 1 z7 x8 e9, D.sl 2 z10 x11 e12]), IV.d (D.agg [D.sl 2 z13 x14 e15, D.sl 1 z16 x17 e18, D.sl 2 z19 x20 e21])])))) (Q (some (IV.tup [IV.d (D.bool false), IV.d (D.int IntKind.i64 800)], [IV.d (D.sl 4 z1 x2 e3), IV.d (D.agg [D.sl 2 z4 x5 e6, D.sl 1 z7 x8 e9, D.sl 2 z10 x11 e12]), IV.d (D.agg [D.sl 2 z13 x14 e15, D.sl 1 z16 x17 e18, D.sl 2 z19 x20 e21])])))) := by kernel_rfl
end Go.Proofs.YtjhganbjbiihoaaDoor.Ab

/- Signatures, rows of terms, atoms: what may be, in plain lists. No program in sight; no condition. -/
set_option linter.unusedVariables false
set_option linter.unusedSimpArgs false
namespace Go.Qu
open Go Go.Ab

abbrev iI (n : Int) : IV := .d (.int .i64 n)
abbrev iB (b : Bool) : IV := .d (.bool b)
abbrev iS (z : Bool) (l : List Int) (e : List D) : IV := .d (.sl 1 z (ints l) e)

structure Sym where
  name : ByteArray
  kind : Int
  ar : Int
  wt : Int
def Sym.d (s : Sym) : D := .agg [.str s.name, .int .i64 s.kind, .int .i64 s.ar, .int .i64 s.wt]
def syms (l : List Sym) : List D := l.map Sym.d
abbrev iG (z : Bool) (l : List Sym) (e : List D) : IV := .d (.sl 4 z (syms l) e)
theorem syms_len (l : List Sym) : (syms l).length = l.length := by simp [syms]
theorem syms_at {l : List Sym} {i : Nat} {s : Sym} (h : l[i]? = some s) : (syms l)[i]? = some (.agg [.str s.name, .int .i64 s.kind, .int .i64 s.ar, .int .i64 s.wt]) := by
  simp [syms, h, Sym.d]
theorem syms_int {l : List Sym} {i : Nat} {s : Sym} (h : l[i]? = some s) : (syms l)[Int.toNat (i : Int)]? = some (.agg [.str s.name, .int .i64 s.kind, .int .i64 s.ar, .int .i64 s.wt]) := by
  rw [Int.toNat_natCast]; exact syms_at h
theorem bytes_len (b : ByteArray) : b.toList.length = b.size := by
  have h : ∀ (k i : Nat) (acc : List UInt8), b.size - i = k → (ByteArray.toList.loop b i acc).length = acc.length + k := by
    intro k
    induction k with
    | zero => intro i acc hk; unfold ByteArray.toList.loop; rw [if_neg (by omega)]; simp
    | succ k ih => intro i acc hk; unfold ByteArray.toList.loop; rw [if_pos (by omega), ih (i + 1) _ (by omega)]; simp; omega
  have := h b.size 0 [] rfl
  unfold ByteArray.toList
  rw [this]; simp
theorem wr1 {i n : Nat} (h : i < n) (hn : n ≤ 9223372036854775807) : IntKind.wrap .i64 ((i : Int) + 1) = ((i + 1 : Nat) : Int) := by
  rw [wr _ (by omega) (by omega)]; omega
theorem at_lt {α : Type} {l : List α} {i : Nat} (h : i < l.length) : ∃ s, l[i]? = some s := ⟨l[i], by simp [h]⟩
theorem lt_at {α : Type} {l : List α} {i : Nat} {s : α} (h : l[i]? = some s) : i < l.length := (List.getElem?_eq_some_iff.1 h).1

def smallB (c : Int) : Bool := decide (97 ≤ c) && decide (c ≤ 122)
def charB (c : Int) : Bool := smallB c || (decide (48 ≤ c) && decide (c ≤ 57))
def nameB (b : ByteArray) : Bool := decide (1 ≤ b.size) && decide (b.size ≤ 8) && smallB (byteAt b 0) && (List.range b.size).all fun i => charB (byteAt b i)
def numsB (s : Sym) : Bool := decide (0 ≤ s.kind) && decide (s.kind ≤ 2) && decide (0 ≤ s.ar) && decide (s.ar ≤ 3) && decide (1 ≤ s.wt) && decide (s.wt ≤ 20)
def symB (s : Sym) : Bool := nameB s.name && numsB s
def isN (n : ByteArray) (s : Sym) : Bool := s.name.toList == n.toList
def findN (l : List Sym) (n : ByteArray) : Int := match l.findIdx? (isN n) with | some i => i | none => -1
def eqSym (s : Sym) : Bool := (s.name.toList == [61]) && (s.kind == 0 && (s.ar == 2 && (s.wt == 1 && true)))
def sigAt (l : List Sym) (i : Nat) : Bool := match l[i]? with | some s => symB s && (findN l s.name == (i : Int)) | none => true
def sigB (l : List Sym) : Bool := decide (1 ≤ l.length) && decide (l.length ≤ 20) && (match l[0]? with | some s => eqSym s | none => false) && (List.range' 1 (l.length - 1)).all (sigAt l)
/-- What may be a signature. -/
structure SigOk (l : List Sym) : Prop where
  lo : 1 ≤ l.length
  hi : l.length ≤ 20
  nums : ∀ (i : Nat) s, l[i]? = some s → 0 ≤ s.kind ∧ s.kind ≤ 2 ∧ 0 ≤ s.ar ∧ s.ar ≤ 3 ∧ 1 ≤ s.wt ∧ s.wt ≤ 20
theorem sigOk {l : List Sym} (h : sigB l = true) : SigOk l := by
  unfold sigB at h
  simp only [Bool.and_eq_true, decide_eq_true_eq] at h
  obtain ⟨⟨⟨h1, h2⟩, h3⟩, h4⟩ := h
  refine ⟨h1, h2, fun i s hs => ?_⟩
  cases i with
  | zero =>
    rw [hs] at h3
    simp only [eqSym, Bool.and_eq_true, beq_iff_eq] at h3
    omega
  | succ i =>
    have hl := lt_at hs
    have h5 := List.all_eq_true.1 h4 (i + 1) (by rw [List.mem_range'_1]; omega)
    unfold sigAt at h5
    rw [hs] at h5
    simp only [symB, numsB, Bool.and_eq_true, decide_eq_true_eq] at h5
    omega
theorem findN_some {l : List Sym} {n : ByteArray} {j : Nat} {s : Sym} (hs : l[j]? = some s) (hq : isN n s = true) (hk : ∀ k, k < j → ∀ t, l[k]? = some t → isN n t = false) : findN l n = (j : Int) := by
  unfold findN
  have : l.findIdx? (isN n) = some j := by
    rw [List.findIdx?_eq_some_iff_getElem]
    have hl := lt_at hs
    refine ⟨hl, ?_, fun k hkj => ?_⟩
    · rw [List.getElem?_eq_getElem hl] at hs; simp at hs; rw [hs]; exact hq
    · have := hk k hkj l[k] (by simp)
      simpa using this
  rw [this]
theorem findN_none {l : List Sym} {n : ByteArray} (hk : ∀ k, k < l.length → ∀ t, l[k]? = some t → isN n t = false) : findN l n = -1 := by
  unfold findN
  have : l.findIdx? (isN n) = none := by
    rw [List.findIdx?_eq_none_iff]
    intro x hx
    obtain ⟨k, hk1, hk2⟩ := List.getElem_of_mem hx
    exact hk k hk1 x (by rw [List.getElem?_eq_getElem hk1, hk2])
  rw [this]

/-! ### Terms -/
/-- How many terms stand behind a code; none: it may not begin a term. -/
def arOf (g : List Sym) (c : Int) : Option Nat :=
  if c < 0 then (if -24 ≤ c then some 0 else none) else match g[c.toNat]? with
    | none => none
    | some s => if s.kind = 0 then none else some s.ar.toNat
/-- How many codes so many terms have. -/
def lenN (g : List Sym) : List Int → Nat → Option Nat
  | _, 0 => some 0
  | [], _ + 1 => none
  | c :: r, n + 1 => match arOf g c with
    | none => none
    | some k => (lenN g r (n + k)).map (· + 1)
theorem lenN_le {g : List Sym} : ∀ {r : List Int} {n k : Nat}, lenN g r n = some k → k ≤ r.length ∧ n ≤ k
  | r, 0, k, h => by cases r <;> (simp [lenN] at h; subst h; simp)
  | [], n + 1, k, h => by simp [lenN] at h
  | c :: r, n + 1, k, h => by
    unfold lenN at h
    split at h
    · cases h
    · rename_i a ha
      obtain ⟨m, hm, rfl⟩ := Option.map_eq_some_iff.1 h
      have := lenN_le hm
      simp; omega
theorem gi_drop {r : List Int} {i : Nat} (h : i < r.length) : r.drop i = gi r i :: r.drop (i + 1) := by
  rw [List.drop_eq_getElem_cons h]; simp [gi, h]
theorem drop_ge {r : List Int} {i : Nat} (h : ¬ i < r.length) : r.drop i = [] := List.drop_of_length_le (by omega)
theorem arOf_le {g : List Sym} (hg : SigOk g) {c : Int} {k : Nat} (h : arOf g c = some k) : k ≤ 3 := by
  unfold arOf at h
  split at h
  · split at h <;> simp at h; omega
  · split at h
    · cases h
    · rename_i s hs
      have := hg.nums _ _ hs
      split at h <;> simp at h; omega
def arV (g : List Sym) (c : Int) : Int := ((arOf g c).getD 0 : Nat)
theorem lenN_end {g : List Sym} {r : List Int} {i n : Nat} (h : ¬ i < r.length) (hn : 1 ≤ n) : lenN g (r.drop i) n = none := by
  rw [drop_ge h]
  obtain ⟨m, rfl⟩ : ∃ m, n = m + 1 := ⟨n - 1, by omega⟩
  rfl
theorem lenN_no {g : List Sym} {r : List Int} {i n : Nat} (h : i < r.length) (hn : 1 ≤ n) (ha : arOf g (gi r i) = none) : lenN g (r.drop i) n = none := by
  rw [gi_drop h]
  obtain ⟨m, rfl⟩ : ∃ m, n = m + 1 := ⟨n - 1, by omega⟩
  simp [lenN, ha]
theorem lenN_go {g : List Sym} {r : List Int} {i n k : Nat} (h : i < r.length) (hn : 1 ≤ n) (ha : arOf g (gi r i) = some k) : lenN g (r.drop i) n = (lenN g (r.drop (i + 1)) (n + k - 1)).map (· + 1) := by
  rw [gi_drop h]
  obtain ⟨m, rfl⟩ : ∃ m, n = m + 1 := ⟨n - 1, by omega⟩
  simp only [lenN, ha]
  rw [show m + 1 + k - 1 = m + k by omega]
/-- The place behind so many terms from a place on. -/
def skV (g : List Sym) (r : List Int) (i n : Nat) : Int := match lenN g (r.drop i) n with | some k => ((i + k : Nat) : Int) | none => 0
def skB (g : List Sym) (r : List Int) (i n : Nat) : Bool := (lenN g (r.drop i) n).isSome
def skR (g : List Sym) (r : List Int) (i n : Nat) : Int := match lenN g (r.drop i) n with | some k => ((i + k : Nat) : Int) | none => -1
/-- The terms of a row; none: it is no row of terms. -/
def parts (g : List Sym) (r : List Int) : Option (List (List Int)) :=
  if hr : r = [] then some [] else match h : lenN g r 1 with
    | none => none
    | some k => (parts g (r.drop k)).map (r.take k :: ·)
termination_by r.length
decreasing_by
  have := lenN_le h
  have : r.length ≠ 0 := fun e => hr (List.length_eq_zero_iff.1 e)
  simp; omega
theorem parts_nil (g : List Sym) : parts g [] = some [] := by rw [parts]; simp
theorem parts_none {g : List Sym} {r : List Int} (hr : r ≠ []) (h : lenN g r 1 = none) : parts g r = none := by
  rw [parts]; rw [dif_neg hr]; split
  · rfl
  · rename_i k hk; rw [h] at hk; cases hk
theorem parts_some {g : List Sym} {r : List Int} {k : Nat} (hr : r ≠ []) (h : lenN g r 1 = some k) : parts g r = (parts g (r.drop k)).map (r.take k :: ·) := by
  rw [parts]; rw [dif_neg hr]; split
  · rename_i hk; rw [h] at hk; cases hk
  · rename_i k' hk; rw [h] at hk; cases hk; rfl
/-- Where the terms begin, from a place on. -/
def begs (at_ : Nat) : List (List Int) → List Int
  | [] => []
  | t :: ts => (at_ : Int) :: begs (at_ + t.length) ts
/-- The terms of a row that may be (P2.1). -/
def rowP (g : List Sym) (r : List Int) : Option (List (List Int)) := if r.length ≤ 48 then parts g r else none
def atomB (g : List Sym) (a : List Int) : Bool :=
  match a with
  | [] => false
  | p :: r => if p < 0 then false else match g[p.toNat]? with
    | none => false
    | some s => s.kind == 0 && sigB g && (match rowP g r with | some ts => (ts.length : Int) == s.ar | none => false)
def rowB (g : List Sym) (r : List Int) : Bool := sigB g && (rowP g r).isSome
def begsM (g : List Sym) (r : List Int) : List Int := if sigB g = true then (match rowP g r with | some ts => begs 0 ts | none => []) else []
theorem begs_len : ∀ (ts : List (List Int)) (i : Nat), (begs i ts).length = ts.length
  | [], i => rfl
  | t :: ts, i => by simp [begs, begs_len ts]
theorem parts_lens {g : List Sym} : ∀ (n : Nat) (r : List Int) {ts : List (List Int)}, r.length ≤ n → parts g r = some ts → ts.length ≤ r.length ∧ ts.flatten = r
  | n, [], ts, hn, h => by rw [parts_nil] at h; cases h; simp
  | 0, c :: r, ts, hn, h => by simp at hn
  | n + 1, c :: r, ts, hn, h => by
    cases hl : lenN g (c :: r) 1 with
    | none => rw [parts_none (by simp) hl] at h; cases h
    | some k =>
      rw [parts_some (by simp) hl] at h
      obtain ⟨us, h1, rfl⟩ := Option.map_eq_some_iff.1 h
      have h2 := lenN_le hl
      have h3 := parts_lens n ((c :: r).drop k) (by simp at hn ⊢; omega) h1
      refine ⟨?_, ?_⟩
      · have := h3.1; simp at this h2 ⊢; omega
      · rw [List.flatten_cons, h3.2, List.take_append_drop]
theorem ints_nil : ints [] = [] := rfl
theorem ints_cons (x : Int) (l : List Int) : ints (x :: l) = .int .i64 x :: ints l := rfl
/-- Numbers that are not too many. -/
def Len (l : List Int) : Prop := l.length * 8 ≤ 140737488351232
theorem Len.lt {l : List Int} (h : Len l) : l.length < 20000000000000 := by unfold Len at h; omega

/-! ### Rows of rows -/
structure Row where
  z : Bool
  l : List Int
  e : List D
def Row.d (r : Row) : D := .sl 1 r.z (ints r.l) r.e
def rws (rs : List Row) : List D := rs.map Row.d
abbrev iR (z : Bool) (rs : List Row) (e : List D) : IV := .d (.sl 1 z (rws rs) e)
theorem rws_len (l : List Row) : (rws l).length = l.length := by simp [rws]
theorem rws_at {l : List Row} {i : Nat} {s : Row} (h : l[i]? = some s) : (rws l)[i]? = some (.sl 1 s.z (ints s.l) s.e) := by
  simp [rws, h, Row.d]
theorem rws_nil : rws [] = [] := rfl
theorem rws_cons (x : Row) (l : List Row) : rws (x :: l) = .sl 1 x.z (ints x.l) x.e :: rws l := rfl
theorem rws_append (l m : List Row) : rws (l ++ m) = rws l ++ rws m := by simp [rws]
theorem gi_at {l : List Int} {i : Nat} (h : i < l.length) : l[i]? = some (gi l i) := by simp [gi, h]
theorem ints_ext {l m : List Int} (h : l.length = m.length) (h2 : ∀ i, i < l.length → gi l i = gi m i) : l = m := by
  refine List.ext_getElem h (fun i h3 h4 => ?_)
  have := h2 i h3
  simpa [gi, h3, h4] using this
def minL : List Int → Int → Int
  | [], m => m
  | x :: l, m => minL l (if x < m then x else m)
theorem minL_ge : ∀ (l : List Int) (m k : Int), k ≤ minL l m ↔ k ≤ m ∧ ∀ x ∈ l, k ≤ x
  | [], m, k => by simp [minL]
  | x :: l, m, k => by
    rw [minL, minL_ge l]
    constructor
    · rintro ⟨h1, h2⟩
      split at h1 <;> exact ⟨by omega, fun y hy => by rcases List.mem_cons.1 hy with rfl | hy; omega; exact h2 y hy⟩
    · rintro ⟨h1, h2⟩
      refine ⟨?_, fun y hy => h2 y (List.mem_cons_of_mem _ hy)⟩
      have := h2 x (by simp)
      split <;> omega
/-- Which variables stand among codes. -/
def varsFrom (l : List Int) : Nat → Nat → List Int
  | 0, _ => []
  | k + 1, v => if l.contains (-1 - (v : Int)) then (v : Int) :: varsFrom l k (v + 1) else varsFrom l k (v + 1)
def varsM (l : List Int) : List Int := varsFrom l 24 0
end Go.Qu

/- Signatures, rows of terms, atoms: what the program's and the reference's functions hand back. For every input; no condition. -/
set_option linter.unusedVariables false
set_option linter.unusedSimpArgs false
set_option maxRecDepth 100000
namespace Go.Proofs.YtjhganbjbiihoaaDoor.Ab
open Go Go.Ab Go.Qu Go.Proofs
attribute [local simp] and_assoc
noncomputable abbrev C : Caller := Go.Ab.W F
theorem wfn {f : FuncId} {d : FnD} {args : List IV} {r : IV × List IV} {lk : List Nat} (h : codeOf code f = some d) (hl : lkFrom 0 args = lk) (h2 : evFnJ F (Go.Ab.W F) (JW F d lk) d args = some r) (hp : F.prim f = none := by rfl) : C f args = some r := W_fn hp h (by rw [hl]; exact h2)
/-! ### Signatures -/
@[simp] theorem w_small (c : Int) : C 116 [.d (.int .u8 c)] = some (iB (smallB c), [.d (.int .u8 c)]) := by
  refine wfn (lk := []) rfl rfl (fnW_way (q116 _ _ c _) ?_)
  by_cases h1 : 97 ≤ c <;> by_cases h2 : c ≤ 122 <;> simp [h1, h2, smallB]
@[simp] theorem w_called (s : ByteArray) : C 106 [.d (.str s)] = some (iB (nameB s), [.d (.str s)]) := by
  refine wfn (lk := []) rfl rfl (fnW_way (q106 _ _ s _) ?_)
  have hl := fun (h8 : s.size ≤ 8) => blk_all (F := F) (d := d106) (lk := []) (p := [1,1,0,1,0,0]) (p0 := [1,1,0,1]) (by kernel_rfl) (n := s.size) (id := 0) (st := fun i => [(0, .d (.str s)), (18, iI s.size), (19, iI i)]) (q := fun i => charB (byteAt s i)) (rt := [(2, iB false)]) (e := [(0, .d (.str s)), (18, iI s.size), (19, iI s.size)])
    (fun i hi hq => by
      refine wpQ_way (q106_l0a _ _ s _ i _) ?_
      simp only [charB, Bool.or_eq_true, Bool.and_eq_true, decide_eq_true_eq] at hq
      simp [wr1 hi (by omega), hi]
      intro h; simpa [h] using hq)
    (fun i hi hq => by
      refine wpQ_way (q106_l0a _ _ s _ i _) ?_
      simp [charB] at hq
      simp [-getElem?_pos, and_assoc, wr1 hi (by omega), hi, hq.1]
      omega)
    (wpQ_way (q106_l0a _ _ s _ s.size _) (by simp)) 0 (Nat.zero_le _)
  by_cases h0 : s.size = 0
  · have : s.toList = [] := List.length_eq_zero_iff.1 (by rw [bytes_len, h0])
    simp [this, nameB, h0]
  have h1 : ¬ s.toList = [] := fun e => h0 (by rw [← bytes_len, e]; rfl)
  by_cases h8 : s.size ≤ 8
  rotate_left
  · simp [h1, nameB, h8]; omega
  by_cases hs : smallB (byteAt s 0) = true
  rotate_left
  · have hs' : smallB (byteAt s 0) = false := by simpa using hs
    simp [h1, nameB, hs']; omega
  rcases hl h8 with ⟨h2, h3⟩ | ⟨⟨j, h2, h4, h5⟩, h3⟩
  · have h6 : nameB s = true := by
      simp only [nameB, Bool.and_eq_true, decide_eq_true_eq, hs, and_true, List.all_eq_true, List.mem_range]
      exact ⟨⟨by omega, h8⟩, fun j hj => h2 j (Nat.zero_le _) hj⟩
    simp at h3
    simp [h1, hs, h3, h6]
    omega
  · have h6 : nameB s = false := by
      simp only [nameB, Bool.and_eq_false_iff]
      right
      rw [List.all_eq_false]
      exact ⟨j, List.mem_range.2 h4, by simp [h5]⟩
    simp at h3
    simp [h1, hs, h3, h6]
    omega
@[simp] theorem w_symmay (s : Sym) : C 84 [.d (.agg [.str s.name, .int .i64 s.kind, .int .i64 s.ar, .int .i64 s.wt])] = some (iB (symB s), [.d (.agg [.str s.name, .int .i64 s.kind, .int .i64 s.ar, .int .i64 s.wt])]) := by
  refine wfn (lk := []) rfl rfl (fnW_way (q84 _ _ s.name s.kind s.ar s.wt _) ?_)
  cases hn : nameB s.name <;> simp [hn, symB, numsB]
  by_cases h1 : 0 ≤ s.kind <;> by_cases h2 : s.kind ≤ 2 <;> by_cases h3 : 0 ≤ s.ar <;> by_cases h4 : s.ar ≤ 3 <;> by_cases h5 : 1 ≤ s.wt <;> by_cases h6 : s.wt ≤ 20 <;> simp [h1, h2, h3, h4, h5, h6] <;> omega
theorem w_find {g : List Sym} (hg : g.length ≤ 20) (z : Bool) (e : List D) (n : ByteArray) : C 85 [iG z g e, .d (.str n)] = some (iI (findN g n), [iG z g e, .d (.str n)]) := by
  refine wfn (lk := []) rfl rfl (fnW_way (q85 _ _ z (syms g) e n _) ?_)
  have hl := blk_find (F := F) (d := d85) (lk := []) (p := [1,0,1,0,0]) (p0 := [1,0,1]) (by kernel_rfl) (n := g.length) (id := 0) (st := fun i => [(0, iG z g e), (1, .d (.str n)), (7, iI g.length), (8, iI i)]) (q := fun i => match g[i]? with | some s => isN n s | none => false) (rt := fun i => [(4, iI i)]) (e := [(0, iG z g e), (1, .d (.str n)), (7, iI g.length), (8, iI g.length)])
    (fun i hi hq => by
      refine wpQ_way (q85_l0a _ _ z (syms g) e n _ i _) ?_
      obtain ⟨s, hs⟩ := at_lt hi
      simp [hs, isN] at hq
      simp [-getElem?_pos, and_assoc, wr1 hi (by omega), hi, syms_at hs, hq])
    (fun i hi hq => by
      refine wpQ_way (q85_l0a _ _ z (syms g) e n _ i _) ?_
      obtain ⟨s, hs⟩ := at_lt hi
      simp [hs, isN] at hq
      simp [-getElem?_pos, and_assoc, wr1 hi (by omega), hi, syms_at hs, hq])
    (wpQ_way (q85_l0a _ _ z (syms g) e n _ g.length _) (by simp)) 0 (Nat.zero_le _)
  rcases hl with ⟨h2, h3⟩ | ⟨j, h1, h2, h4, h5, h3⟩
  · rw [findN_none (fun k hk t ht => by have := h2 k (Nat.zero_le _) hk; rw [ht] at this; exact this)]
    simp at h3
    simp [syms_len, h3]
  · obtain ⟨s, hs⟩ := at_lt h2
    rw [findN_some hs (by rw [hs] at h4; exact h4) (fun k hk t ht => by have := h5 k (Nat.zero_le _) hk; rw [ht] at this; exact this)]
    simp at h3
    simp [syms_len, h3]
theorem w_may (z : Bool) (g : List Sym) (e : List D) : C 47 [iG z g e] = some (iB (sigB g), [iG z g e]) := by
  refine wfn (lk := []) rfl rfl (fnW_way (q47 _ _ z (syms g) e _) ?_)
  by_cases h1 : 1 ≤ g.length
  rotate_left
  · simp [syms_len, sigB, h1]; omega
  by_cases h20 : g.length ≤ 20
  rotate_left
  · simp [syms_len, sigB, h20]; omega
  obtain ⟨s0, hs0⟩ := at_lt (show 0 < g.length by omega)
  have e1 : ¬ ((g.length : Int) < 1) := by omega
  have e2 : ¬ (20 < (g.length : Int)) := by omega
  have hl := blk_all (F := F) (d := d47) (lk := []) (p := [1,1,0,1,0,0]) (p0 := [1,1,0,1]) (by kernel_rfl) (n := g.length) (id := 0) (st := fun i => [(0, iG z g e), (3, iI i)]) (q := sigAt g) (rt := [(2, iB false)]) (e := [(0, iG z g e), (3, iI g.length)])
    (fun i hi hq => by
      refine wpQ_way (q47_l0a _ _ z (syms g) e i _) ?_
      obtain ⟨s, hs⟩ := at_lt hi
      simp [sigAt, hs] at hq
      simp [-getElem?_pos, and_assoc, wr1 hi (by omega), hi, syms_len, syms_at hs, hq, w_find h20])
    (fun i hi hq => by
      refine wpQ_way (q47_l0a _ _ z (syms g) e i _) ?_
      obtain ⟨s, hs⟩ := at_lt hi
      simp [sigAt, hs] at hq
      cases hm : symB s
      · simp [-getElem?_pos, and_assoc, wr1 hi (by omega), hi, syms_len, syms_at hs, hm]
      · simp [-getElem?_pos, and_assoc, wr1 hi (by omega), hi, syms_len, syms_at hs, hm, w_find h20, hq hm])
    (wpQ_way (q47_l0a _ _ z (syms g) e g.length _) (by simp [syms_len])) 1 h1
  have e0 : "=".toUTF8.toList = [61] := by decide +kernel
  have hq : (s0.name.toList == "=".toUTF8.toList && (s0.kind == 0 && (s0.ar == 2 && (s0.wt == 1 && true)))) = eqSym s0 := by rw [e0]; rfl
  simp only [syms_len, syms_at hs0, condW_d, e1, e2, if_false, gt_iff_lt]
  simp only [Option.some.injEq, D.agg.injEq, List.cons.injEq, D.str.injEq, D.int.injEq, true_and, and_true]
  refine ⟨s0.name, s0.kind, s0.ar, s0.wt, ⟨rfl, rfl, rfl, rfl⟩, ?_⟩
  rw [hq]
  cases h0 : eqSym s0
  · simp [sigB, h1, h20, hs0, h0]
  rcases hl with ⟨h2, h3⟩ | ⟨⟨j, h2, h4, h5⟩, h3⟩
  · have h6 : sigB g = true := by
      simp only [sigB, h1, h20, hs0, h0, Bool.and_eq_true, decide_eq_true_eq, List.all_eq_true, List.mem_range'_1, true_and]
      exact fun j hj => h2 j hj.1 (by omega)
    simp at h3
    simp [h3, h6]
  · have h6 : sigB g = false := by
      simp only [sigB, Bool.and_eq_false_iff]
      right
      rw [List.all_eq_false]
      exact ⟨j, by rw [List.mem_range'_1]; omega, by simp [h5]⟩
    simp at h3
    simp [h3, h6]
/-! ### The reference's -/
@[simp] theorem w_rsmall (c : Int) : C 109 [.d (.int .u8 c)] = some (iB (smallB c), [.d (.int .u8 c)]) := by
  refine wfn (lk := []) rfl rfl (fnW_way (q109 _ _ c _) ?_)
  by_cases h1 : 97 ≤ c <;> by_cases h2 : c ≤ 122 <;> simp [h1, h2, smallB]
@[simp] theorem w_rsymmay (s : Sym) : C 88 [.d (.agg [.str s.name, .int .i64 s.kind, .int .i64 s.ar, .int .i64 s.wt])] = some (iB (symB s), [.d (.agg [.str s.name, .int .i64 s.kind, .int .i64 s.ar, .int .i64 s.wt])]) := by
  refine wfn (lk := []) rfl rfl (fnW_way (q88 _ _ s.name s.kind s.ar s.wt _) ?_)
  have hl := fun (h8 : s.name.size ≤ 8) => blk_all (F := F) (d := d88) (lk := []) (p := [1,1,0,1,0,0]) (p0 := [1,1,0,1]) (by kernel_rfl) (n := s.name.size) (id := 0) (st := fun i => [(1, .dbox 88 0 [.str s.name, .int .i64 s.kind, .int .i64 s.ar, .int .i64 s.wt]), (3, iI i)]) (q := fun i => charB (byteAt s.name i)) (rt := [(2, iB false)]) (e := [(1, .dbox 88 0 [.str s.name, .int .i64 s.kind, .int .i64 s.ar, .int .i64 s.wt]), (3, iI s.name.size)])
    (fun i hi hq => by
      refine wpQ_way (q88_l0a _ _ s.name s.kind s.ar s.wt i _) ?_
      simp only [charB, Bool.or_eq_true, Bool.and_eq_true, decide_eq_true_eq] at hq
      simp [wr1 hi (by omega), hi]
      intro h; simpa [h] using hq)
    (fun i hi hq => by
      refine wpQ_way (q88_l0a _ _ s.name s.kind s.ar s.wt i _) ?_
      simp [charB] at hq
      simp [-getElem?_pos, and_assoc, wr1 hi (by omega), hi, hq.1]
      omega)
    (wpQ_way (q88_l0a _ _ s.name s.kind s.ar s.wt s.name.size _) (by simp)) 0 (Nat.zero_le _)
  by_cases h0 : s.name.size = 0
  · simp [symB, nameB, h0]
  by_cases h8 : s.name.size ≤ 8
  rotate_left
  · simp [symB, nameB, h8]; omega
  by_cases hs : smallB (byteAt s.name 0) = true
  rotate_left
  · have hs' : smallB (byteAt s.name 0) = false := by simpa using hs
    simp [symB, nameB, hs']; omega
  have e1 : ¬ ((s.name.size : Int) < 1) := by omega
  have e2 : ¬ (8 < (s.name.size : Int)) := by omega
  have e3 : 0 < s.name.size := by omega
  rcases hl h8 with ⟨h2, h3⟩ | ⟨⟨j, h2, h4, h5⟩, h3⟩
  · have h6 : nameB s.name = true := by
      simp only [nameB, Bool.and_eq_true, decide_eq_true_eq, hs, and_true, List.all_eq_true, List.mem_range]
      exact ⟨⟨by omega, h8⟩, fun j hj => h2 j (Nat.zero_le _) hj⟩
    simp at h3
    simp [e1, e2, e3, hs, h3, h6, symB, numsB]
    by_cases h1 : 0 ≤ s.kind <;> by_cases h2 : s.kind ≤ 2 <;> by_cases h3 : 0 ≤ s.ar <;> by_cases h4 : s.ar ≤ 3 <;> by_cases h5 : 1 ≤ s.wt <;> by_cases h6 : s.wt ≤ 20 <;> simp [h1, h2, h3, h4, h5, h6] <;> omega
  · have h6 : nameB s.name = false := by
      simp only [nameB, Bool.and_eq_false_iff]
      right
      rw [List.all_eq_false]
      exact ⟨j, List.mem_range.2 h4, by simp [h5]⟩
    simp at h3
    simp [e1, e2, e3, hs, h3, h6, symB]
theorem w_code {g : List Sym} (hg : g.length ≤ 20) (z : Bool) (e : List D) (n : ByteArray) : C 89 [iG z g e, .d (.str n)] = some (iI (findN g n), [iG z g e, .d (.str n)]) := by
  refine wfn (lk := []) rfl rfl (fnW_way (q89 _ _ z (syms g) e n _) ?_)
  have hl := blk_find (F := F) (d := d89) (lk := []) (p := [1,0,1,0,0]) (p0 := [1,0,1]) (by kernel_rfl) (n := g.length) (id := 0) (st := fun i => [(0, iG z g e), (1, .d (.str n)), (5, iI i)]) (q := fun i => match g[i]? with | some s => isN n s | none => false) (rt := fun i => [(4, iI i)]) (e := [(0, iG z g e), (1, .d (.str n)), (5, iI g.length)])
    (fun i hi hq => by
      refine wpQ_way (q89_l0a _ _ z (syms g) e n i _) ?_
      obtain ⟨s, hs⟩ := at_lt hi
      simp [hs, isN] at hq
      simp [-getElem?_pos, and_assoc, wr1 hi (by omega), hi, syms_len, syms_at hs, hq])
    (fun i hi hq => by
      refine wpQ_way (q89_l0a _ _ z (syms g) e n i _) ?_
      obtain ⟨s, hs⟩ := at_lt hi
      simp [hs, isN] at hq
      simp [-getElem?_pos, and_assoc, wr1 hi (by omega), hi, syms_len, syms_at hs, hq])
    (wpQ_way (q89_l0a _ _ z (syms g) e n g.length _) (by simp [syms_len])) 0 (Nat.zero_le _)
  rcases hl with ⟨h2, h3⟩ | ⟨j, h1, h2, h4, h5, h3⟩
  · rw [findN_none (fun k hk t ht => by have := h2 k (Nat.zero_le _) hk; rw [ht] at this; exact this)]
    simp at h3
    simp [syms_len, h3]
  · obtain ⟨s, hs⟩ := at_lt h2
    rw [findN_some hs (by rw [hs] at h4; exact h4) (fun k hk t ht => by have := h5 k (Nat.zero_le _) hk; rw [ht] at this; exact this)]
    simp at h3
    simp [syms_len, h3]
theorem w_rmay (z : Bool) (g : List Sym) (e : List D) : C 50 [iG z g e] = some (iB (sigB g), [iG z g e]) := by
  refine wfn (lk := []) rfl rfl (fnW_way (q50 _ _ z (syms g) e _) ?_)
  by_cases h1 : 1 ≤ g.length
  rotate_left
  · simp [syms_len, sigB, h1]; omega
  by_cases h20 : g.length ≤ 20
  rotate_left
  · simp [syms_len, sigB, h20]; omega
  obtain ⟨s0, hs0⟩ := at_lt (show 0 < g.length by omega)
  have e1 : ¬ ((g.length : Int) < 1) := by omega
  have e2 : ¬ (20 < (g.length : Int)) := by omega
  have hl := blk_all (F := F) (d := d50) (lk := []) (p := [1,1,0,1,0,0]) (p0 := [1,1,0,1]) (by kernel_rfl) (n := g.length) (id := 0) (st := fun i => [(0, iG z g e), (3, iI i)]) (q := sigAt g) (rt := [(2, iB false)]) (e := [(0, iG z g e), (3, iI g.length)])
    (fun i hi hq => by
      refine wpQ_way (q50_l0a _ _ z (syms g) e i _) ?_
      obtain ⟨s, hs⟩ := at_lt hi
      simp [sigAt, hs] at hq
      simp [-getElem?_pos, and_assoc, wr1 hi (by omega), hi, syms_len, syms_at hs, hq, w_code h20])
    (fun i hi hq => by
      refine wpQ_way (q50_l0a _ _ z (syms g) e i _) ?_
      obtain ⟨s, hs⟩ := at_lt hi
      simp [sigAt, hs] at hq
      cases hm : symB s
      · simp [-getElem?_pos, and_assoc, wr1 hi (by omega), hi, syms_len, syms_at hs, hm]
      · simp [-getElem?_pos, and_assoc, wr1 hi (by omega), hi, syms_len, syms_at hs, hm, w_code h20, hq hm])
    (wpQ_way (q50_l0a _ _ z (syms g) e g.length _) (by simp [syms_len])) 1 h1
  have e0 : ByteArray.toList { data := #[61] } = [61] := by decide +kernel
  have hq : (s0.name.toList == ByteArray.toList { data := #[61] } && (s0.kind == 0 && (s0.ar == 2 && (s0.wt == 1 && true)))) = eqSym s0 := by rw [e0]; rfl
  simp only [syms_len, syms_at hs0, condW_d, e1, e2, if_false, gt_iff_lt]
  simp only [Option.some.injEq, D.agg.injEq, List.cons.injEq, D.str.injEq, D.int.injEq, true_and, and_true]
  refine ⟨s0.name, s0.kind, s0.ar, s0.wt, ⟨rfl, rfl, rfl, rfl⟩, ?_⟩
  rw [hq]
  cases h0 : eqSym s0
  · simp [sigB, h1, h20, hs0, h0]
  rcases hl with ⟨h2, h3⟩ | ⟨⟨j, h2, h4, h5⟩, h3⟩
  · have h6 : sigB g = true := by
      simp only [sigB, h1, h20, hs0, h0, Bool.and_eq_true, decide_eq_true_eq, List.all_eq_true, List.mem_range'_1, true_and]
      exact fun j hj => h2 j hj.1 (by omega)
    simp at h3
    simp [h3, h6]
  · have h6 : sigB g = false := by
      simp only [sigB, Bool.and_eq_false_iff]
      right
      rw [List.all_eq_false]
      exact ⟨j, by rw [List.mem_range'_1]; omega, by simp [h5]⟩
    simp at h3
    simp [h3, h6]
end Go.Proofs.YtjhganbjbiihoaaDoor.Ab
