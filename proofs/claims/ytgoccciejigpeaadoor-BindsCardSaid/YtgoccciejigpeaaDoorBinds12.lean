/- Written by a program of this session (wip/tools/AbSym.lean). Not trusted: Lean checks it. -/
import Derived.Test.YtgoccciejigpeaaDoorBinds0
import Derived.Test.YtgoccciejigpeaaDoorBinds1
import Derived.Test.YtgoccciejigpeaaDoorBinds2
import Derived.Test.YtgoccciejigpeaaDoorBinds3
import Derived.Test.YtgoccciejigpeaaDoorBinds4
import Derived.Test.YtgoccciejigpeaaDoorBinds5
import Derived.Test.YtgoccciejigpeaaDoorBinds6
import Derived.Test.YtgoccciejigpeaaDoorBinds7
import Derived.Test.YtgoccciejigpeaaDoorBinds8
import Derived.Test.YtgoccciejigpeaaDoorBinds9
import Derived.Test.YtgoccciejigpeaaDoorBinds10
import Derived.Test.YtgoccciejigpeaaDoorBinds11
set_option maxRecDepth 100000
set_option linter.unusedVariables false
namespace Go.Proofs.YtgoccciejigpeaaDoor.Ab
open Go Go.Ab Go.Proofs
theorem q26_l0a_1 {C J} (z1 : Bool) (x2 : List D) (e3 : List D) (z4 : Bool) (x5 : List D) (e6 : List D) (z7 : Bool) (x8 : List D) (i9 : Int) (v0 : Bool) (v1 : List D) (v2 : List D) (v3 : IV) (v4 : IV) (v5 : Bool) (v6 : List D) (v7 : IV) (v8 : IV) (v9 : Bool) (v10 : List D) (v11 : List D) (v12 : IV) (v13 : IV) (v14 : Bool) (v15 : List D) (v16 : IV) (v17 : Bool) (v18 : IV) (v19 : IV) (h0 : i9 < 24) (h1 : C 29 [IV.d (D.sl 2 z1 x2 e3), IV.d (D.int IntKind.i64 i9)] = some (IV.d (D.sl 1 v0 v1 v2), [v3, v4])) (h2 : C 18 [IV.d (D.sl 2 z4 x5 e6), IV.d (D.sl 1 v0 v1 v2)] = some (IV.own v5 3 1 v6, [v7, v8])) (h3 : v5 = true) (h4 : C 29 [IV.d (D.sl 2 z4 x5 e6), IV.d (D.int IntKind.i64 i9)] = some (IV.d (D.sl 1 v9 v10 v11), [v12, v13])) (h5 : C 37 [IV.d (D.sl 1 v9 v10 v11)] = some (IV.own v14 3 1 v15, [v16])) (h6 : ¬(↑(List.length v15) : Int) > 48) (h7 : (!v14) = true) (h8 : C 23 [IV.d (D.sl 1 v14 v15 []), IV.d (D.int IntKind.i64 i9)] = some (IV.d (D.bool v17), [v18, v19])) (h9 : v17 = true) : evP F C J d26 [] [1,1,1,0,1,0,0] [(1, .d (.sl 2 z1 x2 e3)), (2, .d (.sl 2 z4 x5 e6)), (8, .own z7 40 2 x8), (21, .d (.int .i64 i9))] = some (Out.norm [(1, IV.d (D.sl 2 z1 x2 e3)), (2, IV.d (D.sl 2 z4 x5 e6)), (8, IV.own z7 40 2 x8), (21, IV.d (D.int IntKind.i64 (IntKind.wrap IntKind.i64 (i9 + 1))))]) := wpQ_way (q26_l0a C J z1 x2 e3 z4 x5 e6 z7 x8 i9 _) (condW_t (decide_eq_true h0) (Exists.intro v0 (Exists.intro v1 (Exists.intro v2 (Exists.intro v3 (Exists.intro v4 (And.intro h1 (Exists.intro v5 (Exists.intro v6 (Exists.intro v7 (Exists.intro v8 (And.intro h2 (condW_t h3 (Exists.intro v9 (Exists.intro v10 (Exists.intro v11 (Exists.intro v12 (Exists.intro v13 (And.intro h4 (Exists.intro v14 (Exists.intro v15 (Exists.intro v16 (And.intro h5 (condW_f (decide_eq_false h6) (condW_t h7 (Exists.intro v17 (Exists.intro v18 (Exists.intro v19 (And.intro h8 (condW_t h9 (rfl)))))))))))))))))))))))))))))))
theorem q26_l0a_2 {C J} (z1 : Bool) (x2 : List D) (e3 : List D) (z4 : Bool) (x5 : List D) (e6 : List D) (z7 : Bool) (x8 : List D) (i9 : Int) (v0 : Bool) (v1 : List D) (v2 : List D) (v3 : IV) (v4 : IV) (v5 : Bool) (v6 : List D) (v7 : IV) (v8 : IV) (v9 : Bool) (v10 : List D) (v11 : List D) (v12 : IV) (v13 : IV) (v14 : Bool) (v15 : List D) (v16 : IV) (v17 : Bool) (v18 : IV) (v19 : IV) (h0 : i9 < 24) (h1 : C 29 [IV.d (D.sl 2 z1 x2 e3), IV.d (D.int IntKind.i64 i9)] = some (IV.d (D.sl 1 v0 v1 v2), [v3, v4])) (h2 : C 18 [IV.d (D.sl 2 z4 x5 e6), IV.d (D.sl 1 v0 v1 v2)] = some (IV.own v5 3 1 v6, [v7, v8])) (h3 : v5 = true) (h4 : C 29 [IV.d (D.sl 2 z4 x5 e6), IV.d (D.int IntKind.i64 i9)] = some (IV.d (D.sl 1 v9 v10 v11), [v12, v13])) (h5 : C 37 [IV.d (D.sl 1 v9 v10 v11)] = some (IV.own v14 3 1 v15, [v16])) (h6 : ¬(↑(List.length v15) : Int) > 48) (h7 : (!v14) = true) (h8 : C 23 [IV.d (D.sl 1 v14 v15 []), IV.d (D.int IntKind.i64 i9)] = some (IV.d (D.bool v17), [v18, v19])) (h9 : v17 = false) (h10 : List.length x8 + (0 + 1) ≤ 9223372036854775807) (h11 : (List.length x8 + (0 + 1)) * 32 ≤ 140737488355328) : evP F C J d26 [] [1,1,1,0,1,0,0] [(1, .d (.sl 2 z1 x2 e3)), (2, .d (.sl 2 z4 x5 e6)), (8, .own z7 40 2 x8), (21, .d (.int .i64 i9))] = some (Out.norm [(1, IV.d (D.sl 2 z1 x2 e3)), (2, IV.d (D.sl 2 z4 x5 e6)), (8, IV.own (z7 && false) 40 2 (x8 ++ [D.agg [D.int IntKind.i64 i9, D.sl 1 v14 v15 []]])), (21, IV.d (D.int IntKind.i64 (IntKind.wrap IntKind.i64 (i9 + 1))))]) := wpQ_way (q26_l0a C J z1 x2 e3 z4 x5 e6 z7 x8 i9 _) (condW_t (decide_eq_true h0) (Exists.intro v0 (Exists.intro v1 (Exists.intro v2 (Exists.intro v3 (Exists.intro v4 (And.intro h1 (Exists.intro v5 (Exists.intro v6 (Exists.intro v7 (Exists.intro v8 (And.intro h2 (condW_t h3 (Exists.intro v9 (Exists.intro v10 (Exists.intro v11 (Exists.intro v12 (Exists.intro v13 (And.intro h4 (Exists.intro v14 (Exists.intro v15 (Exists.intro v16 (And.intro h5 (condW_f (decide_eq_false h6) (condW_t h7 (Exists.intro v17 (Exists.intro v18 (Exists.intro v19 (And.intro h8 (condW_f h9 (condW_t (decide_eq_true h10) (condW_t (decide_eq_true h11) (rfl)))))))))))))))))))))))))))))))))
theorem q26_l0a_3 {C J} (z1 : Bool) (x2 : List D) (e3 : List D) (z4 : Bool) (x5 : List D) (e6 : List D) (z7 : Bool) (x8 : List D) (i9 : Int) (v0 : Bool) (v1 : List D) (v2 : List D) (v3 : IV) (v4 : IV) (v5 : Bool) (v6 : List D) (v7 : IV) (v8 : IV) (v9 : Bool) (v10 : List D) (v11 : List D) (v12 : IV) (v13 : IV) (v14 : Bool) (v15 : List D) (v16 : IV) (h0 : i9 < 24) (h1 : C 29 [IV.d (D.sl 2 z1 x2 e3), IV.d (D.int IntKind.i64 i9)] = some (IV.d (D.sl 1 v0 v1 v2), [v3, v4])) (h2 : C 18 [IV.d (D.sl 2 z4 x5 e6), IV.d (D.sl 1 v0 v1 v2)] = some (IV.own v5 3 1 v6, [v7, v8])) (h3 : v5 = true) (h4 : C 29 [IV.d (D.sl 2 z4 x5 e6), IV.d (D.int IntKind.i64 i9)] = some (IV.d (D.sl 1 v9 v10 v11), [v12, v13])) (h5 : C 37 [IV.d (D.sl 1 v9 v10 v11)] = some (IV.own v14 3 1 v15, [v16])) (h6 : ¬(↑(List.length v15) : Int) > 48) (h7 : (!v14) = false) : evP F C J d26 [] [1,1,1,0,1,0,0] [(1, .d (.sl 2 z1 x2 e3)), (2, .d (.sl 2 z4 x5 e6)), (8, .own z7 40 2 x8), (21, .d (.int .i64 i9))] = some (Out.norm [(1, IV.d (D.sl 2 z1 x2 e3)), (2, IV.d (D.sl 2 z4 x5 e6)), (8, IV.own z7 40 2 x8), (21, IV.d (D.int IntKind.i64 (IntKind.wrap IntKind.i64 (i9 + 1))))]) := wpQ_way (q26_l0a C J z1 x2 e3 z4 x5 e6 z7 x8 i9 _) (condW_t (decide_eq_true h0) (Exists.intro v0 (Exists.intro v1 (Exists.intro v2 (Exists.intro v3 (Exists.intro v4 (And.intro h1 (Exists.intro v5 (Exists.intro v6 (Exists.intro v7 (Exists.intro v8 (And.intro h2 (condW_t h3 (Exists.intro v9 (Exists.intro v10 (Exists.intro v11 (Exists.intro v12 (Exists.intro v13 (And.intro h4 (Exists.intro v14 (Exists.intro v15 (Exists.intro v16 (And.intro h5 (condW_f (decide_eq_false h6) (condW_f h7 (rfl))))))))))))))))))))))))))
theorem q26_l0a_4 {C J} (z1 : Bool) (x2 : List D) (e3 : List D) (z4 : Bool) (x5 : List D) (e6 : List D) (z7 : Bool) (x8 : List D) (i9 : Int) (v0 : Bool) (v1 : List D) (v2 : List D) (v3 : IV) (v4 : IV) (v5 : Bool) (v6 : List D) (v7 : IV) (v8 : IV) (h0 : i9 < 24) (h1 : C 29 [IV.d (D.sl 2 z1 x2 e3), IV.d (D.int IntKind.i64 i9)] = some (IV.d (D.sl 1 v0 v1 v2), [v3, v4])) (h2 : C 18 [IV.d (D.sl 2 z4 x5 e6), IV.d (D.sl 1 v0 v1 v2)] = some (IV.own v5 3 1 v6, [v7, v8])) (h3 : v5 = false) (h4 : (↑(List.length v6) : Int) > 48) : evP F C J d26 [] [1,1,1,0,1,0,0] [(1, .d (.sl 2 z1 x2 e3)), (2, .d (.sl 2 z4 x5 e6)), (8, .own z7 40 2 x8), (21, .d (.int .i64 i9))] = some (Out.ret [(6, IV.own true 40 2 []), (7, IV.d (D.int IntKind.i64 301))]) := wpQ_way (q26_l0a C J z1 x2 e3 z4 x5 e6 z7 x8 i9 _) (condW_t (decide_eq_true h0) (Exists.intro v0 (Exists.intro v1 (Exists.intro v2 (Exists.intro v3 (Exists.intro v4 (And.intro h1 (Exists.intro v5 (Exists.intro v6 (Exists.intro v7 (Exists.intro v8 (And.intro h2 (condW_f h3 (condW_t (decide_eq_true h4) (rfl)))))))))))))))
theorem q26_l0a_5 {C J} (z1 : Bool) (x2 : List D) (e3 : List D) (z4 : Bool) (x5 : List D) (e6 : List D) (z7 : Bool) (x8 : List D) (i9 : Int) (v0 : Bool) (v1 : List D) (v2 : List D) (v3 : IV) (v4 : IV) (v5 : Bool) (v6 : List D) (v7 : IV) (v8 : IV) (v9 : Bool) (v10 : IV) (v11 : IV) (h0 : i9 < 24) (h1 : C 29 [IV.d (D.sl 2 z1 x2 e3), IV.d (D.int IntKind.i64 i9)] = some (IV.d (D.sl 1 v0 v1 v2), [v3, v4])) (h2 : C 18 [IV.d (D.sl 2 z4 x5 e6), IV.d (D.sl 1 v0 v1 v2)] = some (IV.own v5 3 1 v6, [v7, v8])) (h3 : v5 = false) (h4 : ¬(↑(List.length v6) : Int) > 48) (h5 : (!v5) = true) (h6 : C 23 [IV.d (D.sl 1 v5 v6 []), IV.d (D.int IntKind.i64 i9)] = some (IV.d (D.bool v9), [v10, v11])) (h7 : v9 = true) : evP F C J d26 [] [1,1,1,0,1,0,0] [(1, .d (.sl 2 z1 x2 e3)), (2, .d (.sl 2 z4 x5 e6)), (8, .own z7 40 2 x8), (21, .d (.int .i64 i9))] = some (Out.norm [(1, IV.d (D.sl 2 z1 x2 e3)), (2, IV.d (D.sl 2 z4 x5 e6)), (8, IV.own z7 40 2 x8), (21, IV.d (D.int IntKind.i64 (IntKind.wrap IntKind.i64 (i9 + 1))))]) := wpQ_way (q26_l0a C J z1 x2 e3 z4 x5 e6 z7 x8 i9 _) (condW_t (decide_eq_true h0) (Exists.intro v0 (Exists.intro v1 (Exists.intro v2 (Exists.intro v3 (Exists.intro v4 (And.intro h1 (Exists.intro v5 (Exists.intro v6 (Exists.intro v7 (Exists.intro v8 (And.intro h2 (condW_f h3 (condW_f (decide_eq_false h4) (condW_t h5 (Exists.intro v9 (Exists.intro v10 (Exists.intro v11 (And.intro h6 (condW_t h7 (rfl)))))))))))))))))))))
theorem q26_l0a_6 {C J} (z1 : Bool) (x2 : List D) (e3 : List D) (z4 : Bool) (x5 : List D) (e6 : List D) (z7 : Bool) (x8 : List D) (i9 : Int) (v0 : Bool) (v1 : List D) (v2 : List D) (v3 : IV) (v4 : IV) (v5 : Bool) (v6 : List D) (v7 : IV) (v8 : IV) (v9 : Bool) (v10 : IV) (v11 : IV) (h0 : i9 < 24) (h1 : C 29 [IV.d (D.sl 2 z1 x2 e3), IV.d (D.int IntKind.i64 i9)] = some (IV.d (D.sl 1 v0 v1 v2), [v3, v4])) (h2 : C 18 [IV.d (D.sl 2 z4 x5 e6), IV.d (D.sl 1 v0 v1 v2)] = some (IV.own v5 3 1 v6, [v7, v8])) (h3 : v5 = false) (h4 : ¬(↑(List.length v6) : Int) > 48) (h5 : (!v5) = true) (h6 : C 23 [IV.d (D.sl 1 v5 v6 []), IV.d (D.int IntKind.i64 i9)] = some (IV.d (D.bool v9), [v10, v11])) (h7 : v9 = false) (h8 : List.length x8 + (0 + 1) ≤ 9223372036854775807) (h9 : (List.length x8 + (0 + 1)) * 32 ≤ 140737488355328) : evP F C J d26 [] [1,1,1,0,1,0,0] [(1, .d (.sl 2 z1 x2 e3)), (2, .d (.sl 2 z4 x5 e6)), (8, .own z7 40 2 x8), (21, .d (.int .i64 i9))] = some (Out.norm [(1, IV.d (D.sl 2 z1 x2 e3)), (2, IV.d (D.sl 2 z4 x5 e6)), (8, IV.own (z7 && false) 40 2 (x8 ++ [D.agg [D.int IntKind.i64 i9, D.sl 1 v5 v6 []]])), (21, IV.d (D.int IntKind.i64 (IntKind.wrap IntKind.i64 (i9 + 1))))]) := wpQ_way (q26_l0a C J z1 x2 e3 z4 x5 e6 z7 x8 i9 _) (condW_t (decide_eq_true h0) (Exists.intro v0 (Exists.intro v1 (Exists.intro v2 (Exists.intro v3 (Exists.intro v4 (And.intro h1 (Exists.intro v5 (Exists.intro v6 (Exists.intro v7 (Exists.intro v8 (And.intro h2 (condW_f h3 (condW_f (decide_eq_false h4) (condW_t h5 (Exists.intro v9 (Exists.intro v10 (Exists.intro v11 (And.intro h6 (condW_f h7 (condW_t (decide_eq_true h8) (condW_t (decide_eq_true h9) (rfl)))))))))))))))))))))))
theorem q26_l0a_7 {C J} (z1 : Bool) (x2 : List D) (e3 : List D) (z4 : Bool) (x5 : List D) (e6 : List D) (z7 : Bool) (x8 : List D) (i9 : Int) (v0 : Bool) (v1 : List D) (v2 : List D) (v3 : IV) (v4 : IV) (v5 : Bool) (v6 : List D) (v7 : IV) (v8 : IV) (h0 : i9 < 24) (h1 : C 29 [IV.d (D.sl 2 z1 x2 e3), IV.d (D.int IntKind.i64 i9)] = some (IV.d (D.sl 1 v0 v1 v2), [v3, v4])) (h2 : C 18 [IV.d (D.sl 2 z4 x5 e6), IV.d (D.sl 1 v0 v1 v2)] = some (IV.own v5 3 1 v6, [v7, v8])) (h3 : v5 = false) (h4 : ¬(↑(List.length v6) : Int) > 48) (h5 : (!v5) = false) : evP F C J d26 [] [1,1,1,0,1,0,0] [(1, .d (.sl 2 z1 x2 e3)), (2, .d (.sl 2 z4 x5 e6)), (8, .own z7 40 2 x8), (21, .d (.int .i64 i9))] = some (Out.norm [(1, IV.d (D.sl 2 z1 x2 e3)), (2, IV.d (D.sl 2 z4 x5 e6)), (8, IV.own z7 40 2 x8), (21, IV.d (D.int IntKind.i64 (IntKind.wrap IntKind.i64 (i9 + 1))))]) := wpQ_way (q26_l0a C J z1 x2 e3 z4 x5 e6 z7 x8 i9 _) (condW_t (decide_eq_true h0) (Exists.intro v0 (Exists.intro v1 (Exists.intro v2 (Exists.intro v3 (Exists.intro v4 (And.intro h1 (Exists.intro v5 (Exists.intro v6 (Exists.intro v7 (Exists.intro v8 (And.intro h2 (condW_f h3 (condW_f (decide_eq_false h4) (condW_f h5 (rfl))))))))))))))))
theorem q26_l0a_8 {C J} (z1 : Bool) (x2 : List D) (e3 : List D) (z4 : Bool) (x5 : List D) (e6 : List D) (z7 : Bool) (x8 : List D) (i9 : Int) (h0 : ¬i9 < 24) : evP F C J d26 [] [1,1,1,0,1,0,0] [(1, .d (.sl 2 z1 x2 e3)), (2, .d (.sl 2 z4 x5 e6)), (8, .own z7 40 2 x8), (21, .d (.int .i64 i9))] = some (Out.exit 0 [(1, IV.d (D.sl 2 z1 x2 e3)), (2, IV.d (D.sl 2 z4 x5 e6)), (8, IV.own z7 40 2 x8), (21, IV.d (D.int IntKind.i64 i9))]) := wpQ_way (q26_l0a C J z1 x2 e3 z4 x5 e6 z7 x8 i9 _) (condW_f (decide_eq_false h0) (rfl))
theorem q51 (C J) (i1 : Int) (Q) : fnW F C R (L51) J d51 [.d (.int .i64 i1)] Q = (condW (i1 != i1) (Q (some (IV.d (D.bool true), [IV.d (D.int IntKind.i64 i1)]))) (Q (some (IV.d (D.bool false), [IV.d (D.int IntKind.i64 i1)])))) := by kernel_rfl
theorem q51_0 {C J} (i1 : Int) (h0 : (i1 != i1) = true) : evFnJ F C J d51 [.d (.int .i64 i1)] = some (IV.d (D.bool true), [IV.d (D.int IntKind.i64 i1)]) := fnW_way (q51 C J i1 _) (condW_t h0 (rfl))
theorem q51_1 {C J} (i1 : Int) (h0 : (i1 != i1) = false) : evFnJ F C J d51 [.d (.int .i64 i1)] = some (IV.d (D.bool false), [IV.d (D.int IntKind.i64 i1)]) := fnW_way (q51 C J i1 _) (condW_f h0 (rfl))
theorem q47 (C J) (i1 : Int) (i2 : Int) (Q) : fnW F C R (L47) J d47 [.d (.int .i64 i1), .d (.int .i64 i2)] Q = (∃ w0 w1, C 51 [IV.d (D.int IntKind.i64 i1)] = some (IV.d (D.bool w0), [w1]) ∧ condW w0 (∃ w2 w3, C 51 [IV.d (D.int IntKind.i64 i2)] = some (IV.d (D.bool w2), [w3]) ∧ condW w2 (condW (decide (i1 < i2)) (Q (some (IV.d (D.bool true), [IV.d (D.int IntKind.i64 i1), IV.d (D.int IntKind.i64 i2)]))) (Q (some (IV.d (D.bool false), [IV.d (D.int IntKind.i64 i1), IV.d (D.int IntKind.i64 i2)])))) (Q (some (IV.d (D.bool true), [IV.d (D.int IntKind.i64 i1), IV.d (D.int IntKind.i64 i2)])))) (condW (decide (i1 < i2)) (Q (some (IV.d (D.bool true), [IV.d (D.int IntKind.i64 i1), IV.d (D.int IntKind.i64 i2)]))) (Q (some (IV.d (D.bool false), [IV.d (D.int IntKind.i64 i1), IV.d (D.int IntKind.i64 i2)]))))) := by kernel_rfl
theorem q47_0 {C J} (i1 : Int) (i2 : Int) (v0 : Bool) (v1 : IV) (v2 : Bool) (v3 : IV) (h0 : C 51 [IV.d (D.int IntKind.i64 i1)] = some (IV.d (D.bool v0), [v1])) (h1 : v0 = true) (h2 : C 51 [IV.d (D.int IntKind.i64 i2)] = some (IV.d (D.bool v2), [v3])) (h3 : v2 = true) (h4 : i1 < i2) : evFnJ F C J d47 [.d (.int .i64 i1), .d (.int .i64 i2)] = some (IV.d (D.bool true), [IV.d (D.int IntKind.i64 i1), IV.d (D.int IntKind.i64 i2)]) := fnW_way (q47 C J i1 i2 _) (Exists.intro v0 (Exists.intro v1 (And.intro h0 (condW_t h1 (Exists.intro v2 (Exists.intro v3 (And.intro h2 (condW_t h3 (condW_t (decide_eq_true h4) (rfl))))))))))
theorem q47_1 {C J} (i1 : Int) (i2 : Int) (v0 : Bool) (v1 : IV) (v2 : Bool) (v3 : IV) (h0 : C 51 [IV.d (D.int IntKind.i64 i1)] = some (IV.d (D.bool v0), [v1])) (h1 : v0 = true) (h2 : C 51 [IV.d (D.int IntKind.i64 i2)] = some (IV.d (D.bool v2), [v3])) (h3 : v2 = true) (h4 : ¬i1 < i2) : evFnJ F C J d47 [.d (.int .i64 i1), .d (.int .i64 i2)] = some (IV.d (D.bool false), [IV.d (D.int IntKind.i64 i1), IV.d (D.int IntKind.i64 i2)]) := fnW_way (q47 C J i1 i2 _) (Exists.intro v0 (Exists.intro v1 (And.intro h0 (condW_t h1 (Exists.intro v2 (Exists.intro v3 (And.intro h2 (condW_t h3 (condW_f (decide_eq_false h4) (rfl))))))))))
theorem q47_2 {C J} (i1 : Int) (i2 : Int) (v0 : Bool) (v1 : IV) (v2 : Bool) (v3 : IV) (h0 : C 51 [IV.d (D.int IntKind.i64 i1)] = some (IV.d (D.bool v0), [v1])) (h1 : v0 = true) (h2 : C 51 [IV.d (D.int IntKind.i64 i2)] = some (IV.d (D.bool v2), [v3])) (h3 : v2 = false) : evFnJ F C J d47 [.d (.int .i64 i1), .d (.int .i64 i2)] = some (IV.d (D.bool true), [IV.d (D.int IntKind.i64 i1), IV.d (D.int IntKind.i64 i2)]) := fnW_way (q47 C J i1 i2 _) (Exists.intro v0 (Exists.intro v1 (And.intro h0 (condW_t h1 (Exists.intro v2 (Exists.intro v3 (And.intro h2 (condW_f h3 (rfl)))))))))
theorem q47_3 {C J} (i1 : Int) (i2 : Int) (v0 : Bool) (v1 : IV) (h0 : C 51 [IV.d (D.int IntKind.i64 i1)] = some (IV.d (D.bool v0), [v1])) (h1 : v0 = false) (h2 : i1 < i2) : evFnJ F C J d47 [.d (.int .i64 i1), .d (.int .i64 i2)] = some (IV.d (D.bool true), [IV.d (D.int IntKind.i64 i1), IV.d (D.int IntKind.i64 i2)]) := fnW_way (q47 C J i1 i2 _) (Exists.intro v0 (Exists.intro v1 (And.intro h0 (condW_f h1 (condW_t (decide_eq_true h2) (rfl))))))
theorem q47_4 {C J} (i1 : Int) (i2 : Int) (v0 : Bool) (v1 : IV) (h0 : C 51 [IV.d (D.int IntKind.i64 i1)] = some (IV.d (D.bool v0), [v1])) (h1 : v0 = false) (h2 : ¬i1 < i2) : evFnJ F C J d47 [.d (.int .i64 i1), .d (.int .i64 i2)] = some (IV.d (D.bool false), [IV.d (D.int IntKind.i64 i1), IV.d (D.int IntKind.i64 i2)]) := fnW_way (q47 C J i1 i2 _) (Exists.intro v0 (Exists.intro v1 (And.intro h0 (condW_f h1 (condW_f (decide_eq_false h2) (rfl))))))
theorem q48 (C J) (i1 : Int) (Q) : fnW F C R (L48) J d48 [.d (.int .i64 i1)] Q = (condW (i1 != i1) (Q (some (IV.d (D.bool true), [IV.d (D.int IntKind.i64 i1)]))) (Q (some (IV.d (D.bool false), [IV.d (D.int IntKind.i64 i1)])))) := by kernel_rfl
theorem q48_0 {C J} (i1 : Int) (h0 : (i1 != i1) = true) : evFnJ F C J d48 [.d (.int .i64 i1)] = some (IV.d (D.bool true), [IV.d (D.int IntKind.i64 i1)]) := fnW_way (q48 C J i1 _) (condW_t h0 (rfl))
theorem q48_1 {C J} (i1 : Int) (h0 : (i1 != i1) = false) : evFnJ F C J d48 [.d (.int .i64 i1)] = some (IV.d (D.bool false), [IV.d (D.int IntKind.i64 i1)]) := fnW_way (q48 C J i1 _) (condW_f h0 (rfl))
theorem q45 (C J) (z1 : Bool) (x2 : List D) (e3 : List D) (i4 : Int) (Q) : fnW F C R (L45) J d45 [.d (.sl 1 z1 x2 e3), .d (.int .i64 i4)] Q = (∃ w0 w1 w2 w3 w4 w5 w6, evP F C J d45 [] [1, 1, 1, 0] [(0, IV.d (D.sl 1 z1 x2 e3)), (1, IV.d (D.int IntKind.i64 i4)), (6, IV.d (D.int IntKind.i64 (↑(List.length x2) : Int))), (7, IV.d (D.int IntKind.i64 0)), (8, IV.d (D.int IntKind.i64 (↑(List.length x2) : Int)))] = some (Out.norm [(0, IV.d (D.sl 1 w0 w1 w2)), (1, IV.d (D.int IntKind.i64 w3)), (6, IV.d (D.int IntKind.i64 w4)), (7, IV.d (D.int IntKind.i64 w5)), (8, IV.d (D.int IntKind.i64 w6))]) ∧ condW (decide (w5 < w4)) (condW (decide (0 ≤ w5)) (∃ w7, w1[Int.toNat w5]? = some (D.int IntKind.i64 w7) ∧ condW (w7 == w3) (Q (some (IV.tup [IV.d (D.int IntKind.i64 w5), IV.d (D.bool true)], [IV.d (D.sl 1 z1 x2 e3), IV.d (D.int IntKind.i64 i4)]))) (condW (decide (0 ≤ w5)) (∃ w8, w1[Int.toNat w5]? = some (D.int IntKind.i64 w8) ∧ ∃ w9 w10, C 48 [IV.d (D.int IntKind.i64 w8)] = some (IV.d (D.bool w9), [w10]) ∧ condW w9 (∃ w11 w12, C 48 [IV.d (D.int IntKind.i64 w3)] = some (IV.d (D.bool w11), [w12]) ∧ condW w11 (Q (some (IV.tup [IV.d (D.int IntKind.i64 w5), IV.d (D.bool true)], [IV.d (D.sl 1 z1 x2 e3), IV.d (D.int IntKind.i64 i4)]))) (Q (some (IV.tup [IV.d (D.int IntKind.i64 w5), IV.d (D.bool false)], [IV.d (D.sl 1 z1 x2 e3), IV.d (D.int IntKind.i64 i4)])))) (Q (some (IV.tup [IV.d (D.int IntKind.i64 w5), IV.d (D.bool false)], [IV.d (D.sl 1 z1 x2 e3), IV.d (D.int IntKind.i64 i4)])))) False)) False) (Q (some (IV.tup [IV.d (D.int IntKind.i64 w5), IV.d (D.bool false)], [IV.d (D.sl 1 z1 x2 e3), IV.d (D.int IntKind.i64 i4)])))) := by kernel_rfl
theorem q45_0 {C J} (z1 : Bool) (x2 : List D) (e3 : List D) (i4 : Int) (v0 : Bool) (v1 : List D) (v2 : List D) (v3 : Int) (v4 : Int) (v5 : Int) (v6 : Int) (v7 : Int) (h0 : evP F C J d45 [] [1, 1, 1, 0] [(0, IV.d (D.sl 1 z1 x2 e3)), (1, IV.d (D.int IntKind.i64 i4)), (6, IV.d (D.int IntKind.i64 (↑(List.length x2) : Int))), (7, IV.d (D.int IntKind.i64 0)), (8, IV.d (D.int IntKind.i64 (↑(List.length x2) : Int)))] = some (Out.norm [(0, IV.d (D.sl 1 v0 v1 v2)), (1, IV.d (D.int IntKind.i64 v3)), (6, IV.d (D.int IntKind.i64 v4)), (7, IV.d (D.int IntKind.i64 v5)), (8, IV.d (D.int IntKind.i64 v6))])) (h1 : v5 < v4) (h2 : 0 ≤ v5) (h3 : v1[Int.toNat v5]? = some (D.int IntKind.i64 v7)) (h4 : (v7 == v3) = true) : evFnJ F C J d45 [.d (.sl 1 z1 x2 e3), .d (.int .i64 i4)] = some (IV.tup [IV.d (D.int IntKind.i64 v5), IV.d (D.bool true)], [IV.d (D.sl 1 z1 x2 e3), IV.d (D.int IntKind.i64 i4)]) := fnW_way (q45 C J z1 x2 e3 i4 _) (Exists.intro v0 (Exists.intro v1 (Exists.intro v2 (Exists.intro v3 (Exists.intro v4 (Exists.intro v5 (Exists.intro v6 (And.intro h0 (condW_t (decide_eq_true h1) (condW_t (decide_eq_true h2) (Exists.intro v7 (And.intro h3 (condW_t h4 (rfl))))))))))))))
theorem q45_1 {C J} (z1 : Bool) (x2 : List D) (e3 : List D) (i4 : Int) (v0 : Bool) (v1 : List D) (v2 : List D) (v3 : Int) (v4 : Int) (v5 : Int) (v6 : Int) (v7 : Int) (v8 : Int) (v9 : Bool) (v10 : IV) (v11 : Bool) (v12 : IV) (h0 : evP F C J d45 [] [1, 1, 1, 0] [(0, IV.d (D.sl 1 z1 x2 e3)), (1, IV.d (D.int IntKind.i64 i4)), (6, IV.d (D.int IntKind.i64 (↑(List.length x2) : Int))), (7, IV.d (D.int IntKind.i64 0)), (8, IV.d (D.int IntKind.i64 (↑(List.length x2) : Int)))] = some (Out.norm [(0, IV.d (D.sl 1 v0 v1 v2)), (1, IV.d (D.int IntKind.i64 v3)), (6, IV.d (D.int IntKind.i64 v4)), (7, IV.d (D.int IntKind.i64 v5)), (8, IV.d (D.int IntKind.i64 v6))])) (h1 : v5 < v4) (h2 : 0 ≤ v5) (h3 : v1[Int.toNat v5]? = some (D.int IntKind.i64 v7)) (h4 : (v7 == v3) = false) (h5 : v1[Int.toNat v5]? = some (D.int IntKind.i64 v8)) (h6 : C 48 [IV.d (D.int IntKind.i64 v8)] = some (IV.d (D.bool v9), [v10])) (h7 : v9 = true) (h8 : C 48 [IV.d (D.int IntKind.i64 v3)] = some (IV.d (D.bool v11), [v12])) (h9 : v11 = true) : evFnJ F C J d45 [.d (.sl 1 z1 x2 e3), .d (.int .i64 i4)] = some (IV.tup [IV.d (D.int IntKind.i64 v5), IV.d (D.bool true)], [IV.d (D.sl 1 z1 x2 e3), IV.d (D.int IntKind.i64 i4)]) := fnW_way (q45 C J z1 x2 e3 i4 _) (Exists.intro v0 (Exists.intro v1 (Exists.intro v2 (Exists.intro v3 (Exists.intro v4 (Exists.intro v5 (Exists.intro v6 (And.intro h0 (condW_t (decide_eq_true h1) (condW_t (decide_eq_true h2) (Exists.intro v7 (And.intro h3 (condW_f h4 (condW_t (decide_eq_true h2) (Exists.intro v8 (And.intro h5 (Exists.intro v9 (Exists.intro v10 (And.intro h6 (condW_t h7 (Exists.intro v11 (Exists.intro v12 (And.intro h8 (condW_t h9 (rfl)))))))))))))))))))))))))
theorem q45_2 {C J} (z1 : Bool) (x2 : List D) (e3 : List D) (i4 : Int) (v0 : Bool) (v1 : List D) (v2 : List D) (v3 : Int) (v4 : Int) (v5 : Int) (v6 : Int) (v7 : Int) (v8 : Int) (v9 : Bool) (v10 : IV) (v11 : Bool) (v12 : IV) (h0 : evP F C J d45 [] [1, 1, 1, 0] [(0, IV.d (D.sl 1 z1 x2 e3)), (1, IV.d (D.int IntKind.i64 i4)), (6, IV.d (D.int IntKind.i64 (↑(List.length x2) : Int))), (7, IV.d (D.int IntKind.i64 0)), (8, IV.d (D.int IntKind.i64 (↑(List.length x2) : Int)))] = some (Out.norm [(0, IV.d (D.sl 1 v0 v1 v2)), (1, IV.d (D.int IntKind.i64 v3)), (6, IV.d (D.int IntKind.i64 v4)), (7, IV.d (D.int IntKind.i64 v5)), (8, IV.d (D.int IntKind.i64 v6))])) (h1 : v5 < v4) (h2 : 0 ≤ v5) (h3 : v1[Int.toNat v5]? = some (D.int IntKind.i64 v7)) (h4 : (v7 == v3) = false) (h5 : v1[Int.toNat v5]? = some (D.int IntKind.i64 v8)) (h6 : C 48 [IV.d (D.int IntKind.i64 v8)] = some (IV.d (D.bool v9), [v10])) (h7 : v9 = true) (h8 : C 48 [IV.d (D.int IntKind.i64 v3)] = some (IV.d (D.bool v11), [v12])) (h9 : v11 = false) : evFnJ F C J d45 [.d (.sl 1 z1 x2 e3), .d (.int .i64 i4)] = some (IV.tup [IV.d (D.int IntKind.i64 v5), IV.d (D.bool false)], [IV.d (D.sl 1 z1 x2 e3), IV.d (D.int IntKind.i64 i4)]) := fnW_way (q45 C J z1 x2 e3 i4 _) (Exists.intro v0 (Exists.intro v1 (Exists.intro v2 (Exists.intro v3 (Exists.intro v4 (Exists.intro v5 (Exists.intro v6 (And.intro h0 (condW_t (decide_eq_true h1) (condW_t (decide_eq_true h2) (Exists.intro v7 (And.intro h3 (condW_f h4 (condW_t (decide_eq_true h2) (Exists.intro v8 (And.intro h5 (Exists.intro v9 (Exists.intro v10 (And.intro h6 (condW_t h7 (Exists.intro v11 (Exists.intro v12 (And.intro h8 (condW_f h9 (rfl)))))))))))))))))))))))))
theorem q45_3 {C J} (z1 : Bool) (x2 : List D) (e3 : List D) (i4 : Int) (v0 : Bool) (v1 : List D) (v2 : List D) (v3 : Int) (v4 : Int) (v5 : Int) (v6 : Int) (v7 : Int) (v8 : Int) (v9 : Bool) (v10 : IV) (h0 : evP F C J d45 [] [1, 1, 1, 0] [(0, IV.d (D.sl 1 z1 x2 e3)), (1, IV.d (D.int IntKind.i64 i4)), (6, IV.d (D.int IntKind.i64 (↑(List.length x2) : Int))), (7, IV.d (D.int IntKind.i64 0)), (8, IV.d (D.int IntKind.i64 (↑(List.length x2) : Int)))] = some (Out.norm [(0, IV.d (D.sl 1 v0 v1 v2)), (1, IV.d (D.int IntKind.i64 v3)), (6, IV.d (D.int IntKind.i64 v4)), (7, IV.d (D.int IntKind.i64 v5)), (8, IV.d (D.int IntKind.i64 v6))])) (h1 : v5 < v4) (h2 : 0 ≤ v5) (h3 : v1[Int.toNat v5]? = some (D.int IntKind.i64 v7)) (h4 : (v7 == v3) = false) (h5 : v1[Int.toNat v5]? = some (D.int IntKind.i64 v8)) (h6 : C 48 [IV.d (D.int IntKind.i64 v8)] = some (IV.d (D.bool v9), [v10])) (h7 : v9 = false) : evFnJ F C J d45 [.d (.sl 1 z1 x2 e3), .d (.int .i64 i4)] = some (IV.tup [IV.d (D.int IntKind.i64 v5), IV.d (D.bool false)], [IV.d (D.sl 1 z1 x2 e3), IV.d (D.int IntKind.i64 i4)]) := fnW_way (q45 C J z1 x2 e3 i4 _) (Exists.intro v0 (Exists.intro v1 (Exists.intro v2 (Exists.intro v3 (Exists.intro v4 (Exists.intro v5 (Exists.intro v6 (And.intro h0 (condW_t (decide_eq_true h1) (condW_t (decide_eq_true h2) (Exists.intro v7 (And.intro h3 (condW_f h4 (condW_t (decide_eq_true h2) (Exists.intro v8 (And.intro h5 (Exists.intro v9 (Exists.intro v10 (And.intro h6 (condW_f h7 (rfl)))))))))))))))))))))
theorem q45_4 {C J} (z1 : Bool) (x2 : List D) (e3 : List D) (i4 : Int) (v0 : Bool) (v1 : List D) (v2 : List D) (v3 : Int) (v4 : Int) (v5 : Int) (v6 : Int) (h0 : evP F C J d45 [] [1, 1, 1, 0] [(0, IV.d (D.sl 1 z1 x2 e3)), (1, IV.d (D.int IntKind.i64 i4)), (6, IV.d (D.int IntKind.i64 (↑(List.length x2) : Int))), (7, IV.d (D.int IntKind.i64 0)), (8, IV.d (D.int IntKind.i64 (↑(List.length x2) : Int)))] = some (Out.norm [(0, IV.d (D.sl 1 v0 v1 v2)), (1, IV.d (D.int IntKind.i64 v3)), (6, IV.d (D.int IntKind.i64 v4)), (7, IV.d (D.int IntKind.i64 v5)), (8, IV.d (D.int IntKind.i64 v6))])) (h1 : ¬v5 < v4) : evFnJ F C J d45 [.d (.sl 1 z1 x2 e3), .d (.int .i64 i4)] = some (IV.tup [IV.d (D.int IntKind.i64 v5), IV.d (D.bool false)], [IV.d (D.sl 1 z1 x2 e3), IV.d (D.int IntKind.i64 i4)]) := fnW_way (q45 C J z1 x2 e3 i4 _) (Exists.intro v0 (Exists.intro v1 (Exists.intro v2 (Exists.intro v3 (Exists.intro v4 (Exists.intro v5 (Exists.intro v6 (And.intro h0 (condW_f (decide_eq_false h1) (rfl))))))))))
theorem q45_l0a (C J) (z1 : Bool) (x2 : List D) (e3 : List D) (i4 : Int) (i5 : Int) (i6 : Int) (i7 : Int) (Q) : wpQ F C R (L45) J d45 [] [1,1,1,0,0,0] [(0, .d (.sl 1 z1 x2 e3)), (1, .d (.int .i64 i4)), (6, .d (.int .i64 i5)), (7, .d (.int .i64 i6)), (8, .d (.int .i64 i7))] Q = (condW (decide (i6 < i7)) (condW (decide (0 ≤ IntKind.wrap IntKind.i64 (IntKind.wrap IntKind.u64 (IntKind.wrap IntKind.i64 (i6 + i7)) / 2 ^ min (Int.toNat 1) (IntKind.bits IntKind.u64)))) (∃ w0, x2[Int.toNat (IntKind.wrap IntKind.i64 (IntKind.wrap IntKind.u64 (IntKind.wrap IntKind.i64 (i6 + i7)) / 2 ^ min (Int.toNat 1) (IntKind.bits IntKind.u64)))]? = some (D.int IntKind.i64 w0) ∧ ∃ w1 w2 w3, C 47 [IV.d (D.int IntKind.i64 w0), IV.d (D.int IntKind.i64 i4)] = some (IV.d (D.bool w1), [w2, w3]) ∧ condW w1 (Q (Out.norm [(0, IV.d (D.sl 1 z1 x2 e3)), (1, IV.d (D.int IntKind.i64 i4)), (6, IV.d (D.int IntKind.i64 i5)), (7, IV.d (D.int IntKind.i64 (IntKind.wrap IntKind.i64 (IntKind.wrap IntKind.i64 (IntKind.wrap IntKind.u64 (IntKind.wrap IntKind.i64 (i6 + i7)) / 2 ^ min (Int.toNat 1) (IntKind.bits IntKind.u64)) + 1)))), (8, IV.d (D.int IntKind.i64 i7))])) (Q (Out.norm [(0, IV.d (D.sl 1 z1 x2 e3)), (1, IV.d (D.int IntKind.i64 i4)), (6, IV.d (D.int IntKind.i64 i5)), (7, IV.d (D.int IntKind.i64 i6)), (8, IV.d (D.int IntKind.i64 (IntKind.wrap IntKind.i64 (IntKind.wrap IntKind.u64 (IntKind.wrap IntKind.i64 (i6 + i7)) / 2 ^ min (Int.toNat 1) (IntKind.bits IntKind.u64)))))]))) False) (Q (Out.exit 0 [(0, IV.d (D.sl 1 z1 x2 e3)), (1, IV.d (D.int IntKind.i64 i4)), (6, IV.d (D.int IntKind.i64 i5)), (7, IV.d (D.int IntKind.i64 i6)), (8, IV.d (D.int IntKind.i64 i7))]))) := by kernel_rfl
theorem q45_l0a_0 {C J} (z1 : Bool) (x2 : List D) (e3 : List D) (i4 : Int) (i5 : Int) (i6 : Int) (i7 : Int) (v0 : Int) (v1 : Bool) (v2 : IV) (v3 : IV) (h0 : i6 < i7) (h1 : 0 ≤ IntKind.wrap IntKind.i64 (IntKind.wrap IntKind.u64 (IntKind.wrap IntKind.i64 (i6 + i7)) / 2 ^ min (Int.toNat 1) (IntKind.bits IntKind.u64))) (h2 : x2[Int.toNat (IntKind.wrap IntKind.i64 (IntKind.wrap IntKind.u64 (IntKind.wrap IntKind.i64 (i6 + i7)) / 2 ^ min (Int.toNat 1) (IntKind.bits IntKind.u64)))]? = some (D.int IntKind.i64 v0)) (h3 : C 47 [IV.d (D.int IntKind.i64 v0), IV.d (D.int IntKind.i64 i4)] = some (IV.d (D.bool v1), [v2, v3])) (h4 : v1 = true) : evP F C J d45 [] [1,1,1,0,0,0] [(0, .d (.sl 1 z1 x2 e3)), (1, .d (.int .i64 i4)), (6, .d (.int .i64 i5)), (7, .d (.int .i64 i6)), (8, .d (.int .i64 i7))] = some (Out.norm [(0, IV.d (D.sl 1 z1 x2 e3)), (1, IV.d (D.int IntKind.i64 i4)), (6, IV.d (D.int IntKind.i64 i5)), (7, IV.d (D.int IntKind.i64 (IntKind.wrap IntKind.i64 (IntKind.wrap IntKind.i64 (IntKind.wrap IntKind.u64 (IntKind.wrap IntKind.i64 (i6 + i7)) / 2 ^ min (Int.toNat 1) (IntKind.bits IntKind.u64)) + 1)))), (8, IV.d (D.int IntKind.i64 i7))]) := wpQ_way (q45_l0a C J z1 x2 e3 i4 i5 i6 i7 _) (condW_t (decide_eq_true h0) (condW_t (decide_eq_true h1) (Exists.intro v0 (And.intro h2 (Exists.intro v1 (Exists.intro v2 (Exists.intro v3 (And.intro h3 (condW_t h4 (rfl))))))))))
theorem q45_l0a_1 {C J} (z1 : Bool) (x2 : List D) (e3 : List D) (i4 : Int) (i5 : Int) (i6 : Int) (i7 : Int) (v0 : Int) (v1 : Bool) (v2 : IV) (v3 : IV) (h0 : i6 < i7) (h1 : 0 ≤ IntKind.wrap IntKind.i64 (IntKind.wrap IntKind.u64 (IntKind.wrap IntKind.i64 (i6 + i7)) / 2 ^ min (Int.toNat 1) (IntKind.bits IntKind.u64))) (h2 : x2[Int.toNat (IntKind.wrap IntKind.i64 (IntKind.wrap IntKind.u64 (IntKind.wrap IntKind.i64 (i6 + i7)) / 2 ^ min (Int.toNat 1) (IntKind.bits IntKind.u64)))]? = some (D.int IntKind.i64 v0)) (h3 : C 47 [IV.d (D.int IntKind.i64 v0), IV.d (D.int IntKind.i64 i4)] = some (IV.d (D.bool v1), [v2, v3])) (h4 : v1 = false) : evP F C J d45 [] [1,1,1,0,0,0] [(0, .d (.sl 1 z1 x2 e3)), (1, .d (.int .i64 i4)), (6, .d (.int .i64 i5)), (7, .d (.int .i64 i6)), (8, .d (.int .i64 i7))] = some (Out.norm [(0, IV.d (D.sl 1 z1 x2 e3)), (1, IV.d (D.int IntKind.i64 i4)), (6, IV.d (D.int IntKind.i64 i5)), (7, IV.d (D.int IntKind.i64 i6)), (8, IV.d (D.int IntKind.i64 (IntKind.wrap IntKind.i64 (IntKind.wrap IntKind.u64 (IntKind.wrap IntKind.i64 (i6 + i7)) / 2 ^ min (Int.toNat 1) (IntKind.bits IntKind.u64)))))]) := wpQ_way (q45_l0a C J z1 x2 e3 i4 i5 i6 i7 _) (condW_t (decide_eq_true h0) (condW_t (decide_eq_true h1) (Exists.intro v0 (And.intro h2 (Exists.intro v1 (Exists.intro v2 (Exists.intro v3 (And.intro h3 (condW_f h4 (rfl))))))))))
theorem q45_l0a_2 {C J} (z1 : Bool) (x2 : List D) (e3 : List D) (i4 : Int) (i5 : Int) (i6 : Int) (i7 : Int) (h0 : ¬i6 < i7) : evP F C J d45 [] [1,1,1,0,0,0] [(0, .d (.sl 1 z1 x2 e3)), (1, .d (.int .i64 i4)), (6, .d (.int .i64 i5)), (7, .d (.int .i64 i6)), (8, .d (.int .i64 i7))] = some (Out.exit 0 [(0, IV.d (D.sl 1 z1 x2 e3)), (1, IV.d (D.int IntKind.i64 i4)), (6, IV.d (D.int IntKind.i64 i5)), (7, IV.d (D.int IntKind.i64 i6)), (8, IV.d (D.int IntKind.i64 i7))]) := wpQ_way (q45_l0a C J z1 x2 e3 i4 i5 i6 i7 _) (condW_f (decide_eq_false h0) (rfl))
theorem q42 (C J) (z1 : Bool) (x2 : List D) (e3 : List D) (Q) : fnW F C R (L42) J d42 [.d (.sl 1 true [] []), .d (.sl 1 z1 x2 e3)] Q = (∃ w0 w1 w2 w3 w4 w5 w6, evP F C J d42 [] [1, 0, 1] [(0, IV.own true 3 1 []), (9, IV.d (D.sl 1 z1 x2 e3)), (10, IV.d (D.int IntKind.i64 (↑(List.length x2) : Int))), (11, IV.d (D.int IntKind.i64 0))] = some (Out.norm [(0, IV.own w0 3 1 w1), (9, IV.d (D.sl 1 w2 w3 w4)), (10, IV.d (D.int IntKind.i64 w5)), (11, IV.d (D.int IntKind.i64 w6))]) ∧ Q (some (IV.own w0 3 1 w1, [IV.d (D.sl 1 true [] []), IV.d (D.sl 1 z1 x2 e3)]))) := by kernel_rfl
theorem q42_0 {C J} (z1 : Bool) (x2 : List D) (e3 : List D) (v0 : Bool) (v1 : List D) (v2 : Bool) (v3 : List D) (v4 : List D) (v5 : Int) (v6 : Int) (h0 : evP F C J d42 [] [1, 0, 1] [(0, IV.own true 3 1 []), (9, IV.d (D.sl 1 z1 x2 e3)), (10, IV.d (D.int IntKind.i64 (↑(List.length x2) : Int))), (11, IV.d (D.int IntKind.i64 0))] = some (Out.norm [(0, IV.own v0 3 1 v1), (9, IV.d (D.sl 1 v2 v3 v4)), (10, IV.d (D.int IntKind.i64 v5)), (11, IV.d (D.int IntKind.i64 v6))])) : evFnJ F C J d42 [.d (.sl 1 true [] []), .d (.sl 1 z1 x2 e3)] = some (IV.own v0 3 1 v1, [IV.d (D.sl 1 true [] []), IV.d (D.sl 1 z1 x2 e3)]) := fnW_way (q42 C J z1 x2 e3 _) (Exists.intro v0 (Exists.intro v1 (Exists.intro v2 (Exists.intro v3 (Exists.intro v4 (Exists.intro v5 (Exists.intro v6 (And.intro h0 (rfl)))))))))
theorem q42_l0a (C J) (z1 : Bool) (x2 : List D) (z3 : Bool) (x4 : List D) (e5 : List D) (i6 : Int) (i7 : Int) (Q) : wpQ F C R (L42) J d42 [] [1,0,1,0,0] [(0, .own z1 3 1 x2), (9, .d (.sl 1 z3 x4 e5)), (10, .d (.int .i64 i6)), (11, .d (.int .i64 i7))] Q = (condW (decide (i7 < i6)) (condW (decide (0 ≤ i7)) (∃ w0, x4[Int.toNat i7]? = some (D.int IntKind.i64 w0) ∧ condW (decide (w0 ≥ 0)) (Q (Out.norm [(0, IV.own z1 3 1 x2), (9, IV.d (D.sl 1 z3 x4 e5)), (10, IV.d (D.int IntKind.i64 i6)), (11, IV.d (D.int IntKind.i64 (IntKind.wrap IntKind.i64 (i7 + 1))))])) (∃ w1 w2, C 30 [IV.d (D.int IntKind.i64 w0)] = some (IV.d (D.int IntKind.i64 w1), [w2]) ∧ ∃ w3 w4 w5 w6, C 45 [IV.d (D.sl 1 z1 x2 []), IV.d (D.int IntKind.i64 w1)] = some (IV.tup [IV.d (D.int IntKind.i64 w3), IV.d (D.bool w4)], [w5, w6]) ∧ condW w4 (Q (Out.norm [(0, IV.own z1 3 1 x2), (9, IV.d (D.sl 1 z3 x4 e5)), (10, IV.d (D.int IntKind.i64 i6)), (11, IV.d (D.int IntKind.i64 (IntKind.wrap IntKind.i64 (i7 + 1))))])) (∃ w7 w8, C 30 [IV.d (D.int IntKind.i64 w0)] = some (IV.d (D.int IntKind.i64 w7), [w8]) ∧ condW (decide (0 ≤ w3)) (condW (decide (w3 ≤ (↑(List.length x2) : Int))) (condW (decide ((List.length x2 + 1) * 8 ≤ 140737488355328)) (Q (Out.norm [(0, IV.own false 3 1 (List.take (Int.toNat w3) x2 ++ D.int IntKind.i64 w7 :: List.drop (Int.toNat w3) x2)), (9, IV.d (D.sl 1 z3 x4 e5)), (10, IV.d (D.int IntKind.i64 i6)), (11, IV.d (D.int IntKind.i64 (IntKind.wrap IntKind.i64 (i7 + 1))))])) False) False) False))) False) (Q (Out.exit 0 [(0, IV.own z1 3 1 x2), (9, IV.d (D.sl 1 z3 x4 e5)), (10, IV.d (D.int IntKind.i64 i6)), (11, IV.d (D.int IntKind.i64 i7))]))) := by kernel_rfl
theorem q42_l0a_0 {C J} (z1 : Bool) (x2 : List D) (z3 : Bool) (x4 : List D) (e5 : List D) (i6 : Int) (i7 : Int) (v0 : Int) (h0 : i7 < i6) (h1 : 0 ≤ i7) (h2 : x4[Int.toNat i7]? = some (D.int IntKind.i64 v0)) (h3 : v0 ≥ 0) : evP F C J d42 [] [1,0,1,0,0] [(0, .own z1 3 1 x2), (9, .d (.sl 1 z3 x4 e5)), (10, .d (.int .i64 i6)), (11, .d (.int .i64 i7))] = some (Out.norm [(0, IV.own z1 3 1 x2), (9, IV.d (D.sl 1 z3 x4 e5)), (10, IV.d (D.int IntKind.i64 i6)), (11, IV.d (D.int IntKind.i64 (IntKind.wrap IntKind.i64 (i7 + 1))))]) := wpQ_way (q42_l0a C J z1 x2 z3 x4 e5 i6 i7 _) (condW_t (decide_eq_true h0) (condW_t (decide_eq_true h1) (Exists.intro v0 (And.intro h2 (condW_t (decide_eq_true h3) (rfl))))))
theorem q42_l0a_1 {C J} (z1 : Bool) (x2 : List D) (z3 : Bool) (x4 : List D) (e5 : List D) (i6 : Int) (i7 : Int) (v0 : Int) (v1 : Int) (v2 : IV) (v3 : Int) (v4 : Bool) (v5 : IV) (v6 : IV) (h0 : i7 < i6) (h1 : 0 ≤ i7) (h2 : x4[Int.toNat i7]? = some (D.int IntKind.i64 v0)) (h3 : ¬v0 ≥ 0) (h4 : C 30 [IV.d (D.int IntKind.i64 v0)] = some (IV.d (D.int IntKind.i64 v1), [v2])) (h5 : C 45 [IV.d (D.sl 1 z1 x2 []), IV.d (D.int IntKind.i64 v1)] = some (IV.tup [IV.d (D.int IntKind.i64 v3), IV.d (D.bool v4)], [v5, v6])) (h6 : v4 = true) : evP F C J d42 [] [1,0,1,0,0] [(0, .own z1 3 1 x2), (9, .d (.sl 1 z3 x4 e5)), (10, .d (.int .i64 i6)), (11, .d (.int .i64 i7))] = some (Out.norm [(0, IV.own z1 3 1 x2), (9, IV.d (D.sl 1 z3 x4 e5)), (10, IV.d (D.int IntKind.i64 i6)), (11, IV.d (D.int IntKind.i64 (IntKind.wrap IntKind.i64 (i7 + 1))))]) := wpQ_way (q42_l0a C J z1 x2 z3 x4 e5 i6 i7 _) (condW_t (decide_eq_true h0) (condW_t (decide_eq_true h1) (Exists.intro v0 (And.intro h2 (condW_f (decide_eq_false h3) (Exists.intro v1 (Exists.intro v2 (And.intro h4 (Exists.intro v3 (Exists.intro v4 (Exists.intro v5 (Exists.intro v6 (And.intro h5 (condW_t h6 (rfl)))))))))))))))
theorem q42_l0a_2 {C J} (z1 : Bool) (x2 : List D) (z3 : Bool) (x4 : List D) (e5 : List D) (i6 : Int) (i7 : Int) (v0 : Int) (v1 : Int) (v2 : IV) (v3 : Int) (v4 : Bool) (v5 : IV) (v6 : IV) (v7 : Int) (v8 : IV) (h0 : i7 < i6) (h1 : 0 ≤ i7) (h2 : x4[Int.toNat i7]? = some (D.int IntKind.i64 v0)) (h3 : ¬v0 ≥ 0) (h4 : C 30 [IV.d (D.int IntKind.i64 v0)] = some (IV.d (D.int IntKind.i64 v1), [v2])) (h5 : C 45 [IV.d (D.sl 1 z1 x2 []), IV.d (D.int IntKind.i64 v1)] = some (IV.tup [IV.d (D.int IntKind.i64 v3), IV.d (D.bool v4)], [v5, v6])) (h6 : v4 = false) (h7 : C 30 [IV.d (D.int IntKind.i64 v0)] = some (IV.d (D.int IntKind.i64 v7), [v8])) (h8 : 0 ≤ v3) (h9 : v3 ≤ (↑(List.length x2) : Int)) (h10 : (List.length x2 + 1) * 8 ≤ 140737488355328) : evP F C J d42 [] [1,0,1,0,0] [(0, .own z1 3 1 x2), (9, .d (.sl 1 z3 x4 e5)), (10, .d (.int .i64 i6)), (11, .d (.int .i64 i7))] = some (Out.norm [(0, IV.own false 3 1 (List.take (Int.toNat v3) x2 ++ D.int IntKind.i64 v7 :: List.drop (Int.toNat v3) x2)), (9, IV.d (D.sl 1 z3 x4 e5)), (10, IV.d (D.int IntKind.i64 i6)), (11, IV.d (D.int IntKind.i64 (IntKind.wrap IntKind.i64 (i7 + 1))))]) := wpQ_way (q42_l0a C J z1 x2 z3 x4 e5 i6 i7 _) (condW_t (decide_eq_true h0) (condW_t (decide_eq_true h1) (Exists.intro v0 (And.intro h2 (condW_f (decide_eq_false h3) (Exists.intro v1 (Exists.intro v2 (And.intro h4 (Exists.intro v3 (Exists.intro v4 (Exists.intro v5 (Exists.intro v6 (And.intro h5 (condW_f h6 (Exists.intro v7 (Exists.intro v8 (And.intro h7 (condW_t (decide_eq_true h8) (condW_t (decide_eq_true h9) (condW_t (decide_eq_true h10) (rfl)))))))))))))))))))))
theorem q42_l0a_3 {C J} (z1 : Bool) (x2 : List D) (z3 : Bool) (x4 : List D) (e5 : List D) (i6 : Int) (i7 : Int) (h0 : ¬i7 < i6) : evP F C J d42 [] [1,0,1,0,0] [(0, .own z1 3 1 x2), (9, .d (.sl 1 z3 x4 e5)), (10, .d (.int .i64 i6)), (11, .d (.int .i64 i7))] = some (Out.exit 0 [(0, IV.own z1 3 1 x2), (9, IV.d (D.sl 1 z3 x4 e5)), (10, IV.d (D.int IntKind.i64 i6)), (11, IV.d (D.int IntKind.i64 i7))]) := wpQ_way (q42_l0a C J z1 x2 z3 x4 e5 i6 i7 _) (condW_f (decide_eq_false h0) (rfl))
theorem q38 (C J) (z1 : Bool) (x2 : List D) (e3 : List D) (z4 : Bool) (x5 : List D) (e6 : List D) (Q) : fnW F C R (L38) J d38 [.d (.sl 4 z1 x2 e3), .d (.sl 1 z4 x5 e6)] Q = (∃ w0 w1 w2, C 17 [IV.d (D.sl 4 z1 x2 e3), IV.d (D.sl 1 z4 x5 e6)] = some (IV.d (D.bool w0), [w1, w2]) ∧ condW w0 (∃ w3 w4 w5 w6, C 42 [IV.d (D.sl 1 true [] []), IV.d (D.sl 1 z4 x5 e6)] = some (IV.own w3 3 1 w4, [w5, w6]) ∧ Q (some (IV.tup [IV.own w3 3 1 w4, IV.d (D.int IntKind.i64 0)], [IV.d (D.sl 4 z1 x2 e3), IV.d (D.sl 1 z4 x5 e6)]))) (Q (some (IV.tup [IV.own true 3 1 [], IV.d (D.int IntKind.i64 200)], [IV.d (D.sl 4 z1 x2 e3), IV.d (D.sl 1 z4 x5 e6)])))) := by kernel_rfl
theorem q38_0 {C J} (z1 : Bool) (x2 : List D) (e3 : List D) (z4 : Bool) (x5 : List D) (e6 : List D) (v0 : Bool) (v1 : IV) (v2 : IV) (v3 : Bool) (v4 : List D) (v5 : IV) (v6 : IV) (h0 : C 17 [IV.d (D.sl 4 z1 x2 e3), IV.d (D.sl 1 z4 x5 e6)] = some (IV.d (D.bool v0), [v1, v2])) (h1 : v0 = true) (h2 : C 42 [IV.d (D.sl 1 true [] []), IV.d (D.sl 1 z4 x5 e6)] = some (IV.own v3 3 1 v4, [v5, v6])) : evFnJ F C J d38 [.d (.sl 4 z1 x2 e3), .d (.sl 1 z4 x5 e6)] = some (IV.tup [IV.own v3 3 1 v4, IV.d (D.int IntKind.i64 0)], [IV.d (D.sl 4 z1 x2 e3), IV.d (D.sl 1 z4 x5 e6)]) := fnW_way (q38 C J z1 x2 e3 z4 x5 e6 _) (Exists.intro v0 (Exists.intro v1 (Exists.intro v2 (And.intro h0 (condW_t h1 (Exists.intro v3 (Exists.intro v4 (Exists.intro v5 (Exists.intro v6 (And.intro h2 (rfl)))))))))))
theorem q38_1 {C J} (z1 : Bool) (x2 : List D) (e3 : List D) (z4 : Bool) (x5 : List D) (e6 : List D) (v0 : Bool) (v1 : IV) (v2 : IV) (h0 : C 17 [IV.d (D.sl 4 z1 x2 e3), IV.d (D.sl 1 z4 x5 e6)] = some (IV.d (D.bool v0), [v1, v2])) (h1 : v0 = false) : evFnJ F C J d38 [.d (.sl 4 z1 x2 e3), .d (.sl 1 z4 x5 e6)] = some (IV.tup [IV.own true 3 1 [], IV.d (D.int IntKind.i64 200)], [IV.d (D.sl 4 z1 x2 e3), IV.d (D.sl 1 z4 x5 e6)]) := fnW_way (q38 C J z1 x2 e3 z4 x5 e6 _) (Exists.intro v0 (Exists.intro v1 (Exists.intro v2 (And.intro h0 (condW_f h1 (rfl))))))
theorem q27 (C J) (z1 : Bool) (x2 : List D) (e3 : List D) (z4 : Bool) (x5 : List D) (e6 : List D) (i7 : Int) (Q) : fnW F C R (L27) J d27 [.d (.sl 4 z1 x2 e3), .d (.sl 1 z4 x5 e6), .d (.int .i64 i7)] Q = (∃ w0 w1 w2 w3 w4, C 38 [IV.d (D.sl 4 z1 x2 e3), IV.d (D.sl 1 z4 x5 e6)] = some (IV.tup [IV.own w0 3 1 w1, IV.d (D.int IntKind.i64 w2)], [w3, w4]) ∧ condW (w2 != 0) (Q (some (IV.tup [IV.own true 3 1 [], IV.d (D.int IntKind.i64 300)], [IV.d (D.sl 4 z1 x2 e3), IV.d (D.sl 1 z4 x5 e6), IV.d (D.int IntKind.i64 i7)]))) ((∃ w5 w6 w7, evP F C J d27 [] [1, 1, 1, 0, 1] [(1, IV.d (D.sl 1 z4 x5 e6)), (2, IV.d (D.int IntKind.i64 i7)), (23, IV.own w0 3 1 w1), (24, IV.d (D.int IntKind.i64 (↑(List.length w1) : Int))), (25, IV.d (D.int IntKind.i64 0))] = some (Out.ret [(6, IV.own w5 3 1 w6), (7, IV.d (D.int IntKind.i64 w7))]) ∧ Q (some (IV.tup [IV.own w5 3 1 w6, IV.d (D.int IntKind.i64 w7)], [IV.d (D.sl 4 z1 x2 e3), IV.d (D.sl 1 z4 x5 e6), IV.d (D.int IntKind.i64 i7)]))) ∨ ∃ w8 w9 w10 w11 w12 w13 w14 w15, evP F C J d27 [] [1, 1, 1, 0, 1] [(1, IV.d (D.sl 1 z4 x5 e6)), (2, IV.d (D.int IntKind.i64 i7)), (23, IV.own w0 3 1 w1), (24, IV.d (D.int IntKind.i64 (↑(List.length w1) : Int))), (25, IV.d (D.int IntKind.i64 0))] = some (Out.norm [(1, IV.d (D.sl 1 w8 w9 w10)), (2, IV.d (D.int IntKind.i64 w11)), (23, IV.own w12 3 1 w13), (24, IV.d (D.int IntKind.i64 w14)), (25, IV.d (D.int IntKind.i64 w15))]) ∧ ∃ w16 w17 w18, C 37 [IV.d (D.sl 1 w8 w9 w10)] = some (IV.own w16 3 1 w17, [w18]) ∧ ((∃ w19 w20 w21 w22, evP F C J d27 [] [1, 1, 1, 1, 1, 0, 1] [(2, IV.d (D.int IntKind.i64 w11)), (12, IV.own w16 3 1 w17), (43, IV.d (D.int IntKind.i64 (↑(List.length w17) : Int))), (44, IV.d (D.int IntKind.i64 0)), (2000000 + d27.ntmps + (1000 * ((2042012 - 2000000) / 1000) + (2042012 - 2000000) % 1000), IV.dead)] = some (Out.norm [(2, IV.dead), (12, IV.own w19 3 1 w20), (43, IV.d (D.int IntKind.i64 w21)), (44, IV.d (D.int IntKind.i64 w22)), (2042071, IV.dead)]) ∧ Q (some (IV.tup [IV.own w19 3 1 w20, IV.d (D.int IntKind.i64 0)], [IV.d (D.sl 4 z1 x2 e3), IV.d (D.sl 1 z4 x5 e6), IV.d (D.int IntKind.i64 i7)]))) ∨ ∃ w23 w24 w25 w26 w27, evP F C J d27 [] [1, 1, 1, 1, 1, 0, 1] [(2, IV.d (D.int IntKind.i64 w11)), (12, IV.own w16 3 1 w17), (43, IV.d (D.int IntKind.i64 (↑(List.length w17) : Int))), (44, IV.d (D.int IntKind.i64 0)), (2000000 + d27.ntmps + (1000 * ((2042012 - 2000000) / 1000) + (2042012 - 2000000) % 1000), IV.dead)] = some (Out.norm [(2, IV.d (D.int IntKind.i64 w23)), (12, IV.own w24 3 1 w25), (43, IV.d (D.int IntKind.i64 w26)), (44, IV.d (D.int IntKind.i64 w27)), (2042071, IV.dead)]) ∧ Q (some (IV.tup [IV.own w24 3 1 w25, IV.d (D.int IntKind.i64 0)], [IV.d (D.sl 4 z1 x2 e3), IV.d (D.sl 1 z4 x5 e6), IV.d (D.int IntKind.i64 i7)]))))) := by kernel_rfl
theorem q27_0 {C J} (z1 : Bool) (x2 : List D) (e3 : List D) (z4 : Bool) (x5 : List D) (e6 : List D) (i7 : Int) (v0 : Bool) (v1 : List D) (v2 : Int) (v3 : IV) (v4 : IV) (h0 : C 38 [IV.d (D.sl 4 z1 x2 e3), IV.d (D.sl 1 z4 x5 e6)] = some (IV.tup [IV.own v0 3 1 v1, IV.d (D.int IntKind.i64 v2)], [v3, v4])) (h1 : (v2 != 0) = true) : evFnJ F C J d27 [.d (.sl 4 z1 x2 e3), .d (.sl 1 z4 x5 e6), .d (.int .i64 i7)] = some (IV.tup [IV.own true 3 1 [], IV.d (D.int IntKind.i64 300)], [IV.d (D.sl 4 z1 x2 e3), IV.d (D.sl 1 z4 x5 e6), IV.d (D.int IntKind.i64 i7)]) := fnW_way (q27 C J z1 x2 e3 z4 x5 e6 i7 _) (Exists.intro v0 (Exists.intro v1 (Exists.intro v2 (Exists.intro v3 (Exists.intro v4 (And.intro h0 (condW_t h1 (rfl))))))))
theorem q27_1 {C J} (z1 : Bool) (x2 : List D) (e3 : List D) (z4 : Bool) (x5 : List D) (e6 : List D) (i7 : Int) (v0 : Bool) (v1 : List D) (v2 : Int) (v3 : IV) (v4 : IV) (v5 : Bool) (v6 : List D) (v7 : Int) (h0 : C 38 [IV.d (D.sl 4 z1 x2 e3), IV.d (D.sl 1 z4 x5 e6)] = some (IV.tup [IV.own v0 3 1 v1, IV.d (D.int IntKind.i64 v2)], [v3, v4])) (h1 : (v2 != 0) = false) (h2 : evP F C J d27 [] [1, 1, 1, 0, 1] [(1, IV.d (D.sl 1 z4 x5 e6)), (2, IV.d (D.int IntKind.i64 i7)), (23, IV.own v0 3 1 v1), (24, IV.d (D.int IntKind.i64 (↑(List.length v1) : Int))), (25, IV.d (D.int IntKind.i64 0))] = some (Out.ret [(6, IV.own v5 3 1 v6), (7, IV.d (D.int IntKind.i64 v7))])) : evFnJ F C J d27 [.d (.sl 4 z1 x2 e3), .d (.sl 1 z4 x5 e6), .d (.int .i64 i7)] = some (IV.tup [IV.own v5 3 1 v6, IV.d (D.int IntKind.i64 v7)], [IV.d (D.sl 4 z1 x2 e3), IV.d (D.sl 1 z4 x5 e6), IV.d (D.int IntKind.i64 i7)]) := fnW_way (q27 C J z1 x2 e3 z4 x5 e6 i7 _) (Exists.intro v0 (Exists.intro v1 (Exists.intro v2 (Exists.intro v3 (Exists.intro v4 (And.intro h0 (condW_f h1 (Or.inl (Exists.intro v5 (Exists.intro v6 (Exists.intro v7 (And.intro h2 (rfl)))))))))))))
theorem q27_2 {C J} (z1 : Bool) (x2 : List D) (e3 : List D) (z4 : Bool) (x5 : List D) (e6 : List D) (i7 : Int) (v0 : Bool) (v1 : List D) (v2 : Int) (v3 : IV) (v4 : IV) (v5 : Bool) (v6 : List D) (v7 : List D) (v8 : Int) (v9 : Bool) (v10 : List D) (v11 : Int) (v12 : Int) (v13 : Bool) (v14 : List D) (v15 : IV) (v16 : Bool) (v17 : List D) (v18 : Int) (v19 : Int) (h0 : C 38 [IV.d (D.sl 4 z1 x2 e3), IV.d (D.sl 1 z4 x5 e6)] = some (IV.tup [IV.own v0 3 1 v1, IV.d (D.int IntKind.i64 v2)], [v3, v4])) (h1 : (v2 != 0) = false) (h2 : evP F C J d27 [] [1, 1, 1, 0, 1] [(1, IV.d (D.sl 1 z4 x5 e6)), (2, IV.d (D.int IntKind.i64 i7)), (23, IV.own v0 3 1 v1), (24, IV.d (D.int IntKind.i64 (↑(List.length v1) : Int))), (25, IV.d (D.int IntKind.i64 0))] = some (Out.norm [(1, IV.d (D.sl 1 v5 v6 v7)), (2, IV.d (D.int IntKind.i64 v8)), (23, IV.own v9 3 1 v10), (24, IV.d (D.int IntKind.i64 v11)), (25, IV.d (D.int IntKind.i64 v12))])) (h3 : C 37 [IV.d (D.sl 1 v5 v6 v7)] = some (IV.own v13 3 1 v14, [v15])) (h4 : evP F C J d27 [] [1, 1, 1, 1, 1, 0, 1] [(2, IV.d (D.int IntKind.i64 v8)), (12, IV.own v13 3 1 v14), (43, IV.d (D.int IntKind.i64 (↑(List.length v14) : Int))), (44, IV.d (D.int IntKind.i64 0)), (2000000 + d27.ntmps + (1000 * ((2042012 - 2000000) / 1000) + (2042012 - 2000000) % 1000), IV.dead)] = some (Out.norm [(2, IV.dead), (12, IV.own v16 3 1 v17), (43, IV.d (D.int IntKind.i64 v18)), (44, IV.d (D.int IntKind.i64 v19)), (2042071, IV.dead)])) : evFnJ F C J d27 [.d (.sl 4 z1 x2 e3), .d (.sl 1 z4 x5 e6), .d (.int .i64 i7)] = some (IV.tup [IV.own v16 3 1 v17, IV.d (D.int IntKind.i64 0)], [IV.d (D.sl 4 z1 x2 e3), IV.d (D.sl 1 z4 x5 e6), IV.d (D.int IntKind.i64 i7)]) := fnW_way (q27 C J z1 x2 e3 z4 x5 e6 i7 _) (Exists.intro v0 (Exists.intro v1 (Exists.intro v2 (Exists.intro v3 (Exists.intro v4 (And.intro h0 (condW_f h1 (Or.inr (Exists.intro v5 (Exists.intro v6 (Exists.intro v7 (Exists.intro v8 (Exists.intro v9 (Exists.intro v10 (Exists.intro v11 (Exists.intro v12 (And.intro h2 (Exists.intro v13 (Exists.intro v14 (Exists.intro v15 (And.intro h3 (Or.inl (Exists.intro v16 (Exists.intro v17 (Exists.intro v18 (Exists.intro v19 (And.intro h4 (rfl))))))))))))))))))))))))))))
theorem q27_3 {C J} (z1 : Bool) (x2 : List D) (e3 : List D) (z4 : Bool) (x5 : List D) (e6 : List D) (i7 : Int) (v0 : Bool) (v1 : List D) (v2 : Int) (v3 : IV) (v4 : IV) (v5 : Bool) (v6 : List D) (v7 : List D) (v8 : Int) (v9 : Bool) (v10 : List D) (v11 : Int) (v12 : Int) (v13 : Bool) (v14 : List D) (v15 : IV) (v16 : Int) (v17 : Bool) (v18 : List D) (v19 : Int) (v20 : Int) (h0 : C 38 [IV.d (D.sl 4 z1 x2 e3), IV.d (D.sl 1 z4 x5 e6)] = some (IV.tup [IV.own v0 3 1 v1, IV.d (D.int IntKind.i64 v2)], [v3, v4])) (h1 : (v2 != 0) = false) (h2 : evP F C J d27 [] [1, 1, 1, 0, 1] [(1, IV.d (D.sl 1 z4 x5 e6)), (2, IV.d (D.int IntKind.i64 i7)), (23, IV.own v0 3 1 v1), (24, IV.d (D.int IntKind.i64 (↑(List.length v1) : Int))), (25, IV.d (D.int IntKind.i64 0))] = some (Out.norm [(1, IV.d (D.sl 1 v5 v6 v7)), (2, IV.d (D.int IntKind.i64 v8)), (23, IV.own v9 3 1 v10), (24, IV.d (D.int IntKind.i64 v11)), (25, IV.d (D.int IntKind.i64 v12))])) (h3 : C 37 [IV.d (D.sl 1 v5 v6 v7)] = some (IV.own v13 3 1 v14, [v15])) (h4 : evP F C J d27 [] [1, 1, 1, 1, 1, 0, 1] [(2, IV.d (D.int IntKind.i64 v8)), (12, IV.own v13 3 1 v14), (43, IV.d (D.int IntKind.i64 (↑(List.length v14) : Int))), (44, IV.d (D.int IntKind.i64 0)), (2000000 + d27.ntmps + (1000 * ((2042012 - 2000000) / 1000) + (2042012 - 2000000) % 1000), IV.dead)] = some (Out.norm [(2, IV.d (D.int IntKind.i64 v16)), (12, IV.own v17 3 1 v18), (43, IV.d (D.int IntKind.i64 v19)), (44, IV.d (D.int IntKind.i64 v20)), (2042071, IV.dead)])) : evFnJ F C J d27 [.d (.sl 4 z1 x2 e3), .d (.sl 1 z4 x5 e6), .d (.int .i64 i7)] = some (IV.tup [IV.own v17 3 1 v18, IV.d (D.int IntKind.i64 0)], [IV.d (D.sl 4 z1 x2 e3), IV.d (D.sl 1 z4 x5 e6), IV.d (D.int IntKind.i64 i7)]) := fnW_way (q27 C J z1 x2 e3 z4 x5 e6 i7 _) (Exists.intro v0 (Exists.intro v1 (Exists.intro v2 (Exists.intro v3 (Exists.intro v4 (And.intro h0 (condW_f h1 (Or.inr (Exists.intro v5 (Exists.intro v6 (Exists.intro v7 (Exists.intro v8 (Exists.intro v9 (Exists.intro v10 (Exists.intro v11 (Exists.intro v12 (And.intro h2 (Exists.intro v13 (Exists.intro v14 (Exists.intro v15 (And.intro h3 (Or.inr (Exists.intro v16 (Exists.intro v17 (Exists.intro v18 (Exists.intro v19 (Exists.intro v20 (And.intro h4 (rfl)))))))))))))))))))))))))))))
theorem q27_l2a (C J) (z1 : Bool) (x2 : List D) (i3 : Int) (i4 : Int) (Q) : wpQ F C R (L27) J d27 [] [1,1,1,1,1,0,1,0,0] [(2, .dead), (12, .own z1 3 1 x2), (43, .d (.int .i64 i3)), (44, .d (.int .i64 i4)), (2042071, .dead)] Q = (condW (decide (i4 < i3)) (condW (decide (0 ≤ i4)) (∃ w0, x2[Int.toNat i4]? = some w0 ∧ ∃ w1, x2[Int.toNat i4]? = some (D.int IntKind.i64 w1) ∧ condW (decide (w1 < 0)) False (Q (Out.norm [(2, IV.dead), (12, IV.own z1 3 1 x2), (43, IV.d (D.int IntKind.i64 i3)), (44, IV.d (D.int IntKind.i64 (IntKind.wrap IntKind.i64 (i4 + 1)))), (2042071, IV.dead)]))) False) (Q (Out.exit 2 [(2, IV.dead), (12, IV.own z1 3 1 x2), (43, IV.d (D.int IntKind.i64 i3)), (44, IV.d (D.int IntKind.i64 i4)), (2042071, IV.dead)]))) := by kernel_rfl
theorem q27_l2a_0 {C J} (z1 : Bool) (x2 : List D) (i3 : Int) (i4 : Int) (v0 : D) (v1 : Int) (h0 : i4 < i3) (h1 : 0 ≤ i4) (h2 : x2[Int.toNat i4]? = some v0) (h3 : x2[Int.toNat i4]? = some (D.int IntKind.i64 v1)) (h4 : ¬v1 < 0) : evP F C J d27 [] [1,1,1,1,1,0,1,0,0] [(2, .dead), (12, .own z1 3 1 x2), (43, .d (.int .i64 i3)), (44, .d (.int .i64 i4)), (2042071, .dead)] = some (Out.norm [(2, IV.dead), (12, IV.own z1 3 1 x2), (43, IV.d (D.int IntKind.i64 i3)), (44, IV.d (D.int IntKind.i64 (IntKind.wrap IntKind.i64 (i4 + 1)))), (2042071, IV.dead)]) := wpQ_way (q27_l2a C J z1 x2 i3 i4 _) (condW_t (decide_eq_true h0) (condW_t (decide_eq_true h1) (Exists.intro v0 (And.intro h2 (Exists.intro v1 (And.intro h3 (condW_f (decide_eq_false h4) (rfl))))))))
theorem q27_l2a_1 {C J} (z1 : Bool) (x2 : List D) (i3 : Int) (i4 : Int) (h0 : ¬i4 < i3) : evP F C J d27 [] [1,1,1,1,1,0,1,0,0] [(2, .dead), (12, .own z1 3 1 x2), (43, .d (.int .i64 i3)), (44, .d (.int .i64 i4)), (2042071, .dead)] = some (Out.exit 2 [(2, IV.dead), (12, IV.own z1 3 1 x2), (43, IV.d (D.int IntKind.i64 i3)), (44, IV.d (D.int IntKind.i64 i4)), (2042071, IV.dead)]) := wpQ_way (q27_l2a C J z1 x2 i3 i4 _) (condW_f (decide_eq_false h0) (rfl))
theorem q27_l0a (C J) (z1 : Bool) (x2 : List D) (e3 : List D) (i4 : Int) (z5 : Bool) (x6 : List D) (i7 : Int) (i8 : Int) (Q) : wpQ F C R (L27) J d27 [] [1,1,1,0,1,0,0] [(1, .d (.sl 1 z1 x2 e3)), (2, .d (.int .i64 i4)), (23, .own z5 3 1 x6), (24, .d (.int .i64 i7)), (25, .d (.int .i64 i8))] Q = (condW (decide (i8 < i7)) (condW (decide (0 ≤ i8)) (∃ w0, x6[Int.toNat i8]? = some w0 ∧ ∃ w1, x6[Int.toNat i8]? = some (D.int IntKind.i64 w1) ∧ condW (decide (i4 < IntKind.wrap IntKind.i64 (0 - w1))) (Q (Out.ret [(6, IV.own true 3 1 []), (7, IV.d (D.int IntKind.i64 302))])) (condW (decide (i4 > IntKind.wrap IntKind.i64 (23 - w1))) (Q (Out.ret [(6, IV.own true 3 1 []), (7, IV.d (D.int IntKind.i64 302))])) (Q (Out.norm [(1, IV.d (D.sl 1 z1 x2 e3)), (2, IV.d (D.int IntKind.i64 i4)), (23, IV.own z5 3 1 x6), (24, IV.d (D.int IntKind.i64 i7)), (25, IV.d (D.int IntKind.i64 (IntKind.wrap IntKind.i64 (i8 + 1))))])))) False) (Q (Out.exit 0 [(1, IV.d (D.sl 1 z1 x2 e3)), (2, IV.d (D.int IntKind.i64 i4)), (23, IV.own z5 3 1 x6), (24, IV.d (D.int IntKind.i64 i7)), (25, IV.d (D.int IntKind.i64 i8))]))) := by kernel_rfl
theorem q27_l0a_0 {C J} (z1 : Bool) (x2 : List D) (e3 : List D) (i4 : Int) (z5 : Bool) (x6 : List D) (i7 : Int) (i8 : Int) (v0 : D) (v1 : Int) (h0 : i8 < i7) (h1 : 0 ≤ i8) (h2 : x6[Int.toNat i8]? = some v0) (h3 : x6[Int.toNat i8]? = some (D.int IntKind.i64 v1)) (h4 : i4 < IntKind.wrap IntKind.i64 (0 - v1)) : evP F C J d27 [] [1,1,1,0,1,0,0] [(1, .d (.sl 1 z1 x2 e3)), (2, .d (.int .i64 i4)), (23, .own z5 3 1 x6), (24, .d (.int .i64 i7)), (25, .d (.int .i64 i8))] = some (Out.ret [(6, IV.own true 3 1 []), (7, IV.d (D.int IntKind.i64 302))]) := wpQ_way (q27_l0a C J z1 x2 e3 i4 z5 x6 i7 i8 _) (condW_t (decide_eq_true h0) (condW_t (decide_eq_true h1) (Exists.intro v0 (And.intro h2 (Exists.intro v1 (And.intro h3 (condW_t (decide_eq_true h4) (rfl))))))))
theorem q27_l0a_1 {C J} (z1 : Bool) (x2 : List D) (e3 : List D) (i4 : Int) (z5 : Bool) (x6 : List D) (i7 : Int) (i8 : Int) (v0 : D) (v1 : Int) (h0 : i8 < i7) (h1 : 0 ≤ i8) (h2 : x6[Int.toNat i8]? = some v0) (h3 : x6[Int.toNat i8]? = some (D.int IntKind.i64 v1)) (h4 : ¬i4 < IntKind.wrap IntKind.i64 (0 - v1)) (h5 : i4 > IntKind.wrap IntKind.i64 (23 - v1)) : evP F C J d27 [] [1,1,1,0,1,0,0] [(1, .d (.sl 1 z1 x2 e3)), (2, .d (.int .i64 i4)), (23, .own z5 3 1 x6), (24, .d (.int .i64 i7)), (25, .d (.int .i64 i8))] = some (Out.ret [(6, IV.own true 3 1 []), (7, IV.d (D.int IntKind.i64 302))]) := wpQ_way (q27_l0a C J z1 x2 e3 i4 z5 x6 i7 i8 _) (condW_t (decide_eq_true h0) (condW_t (decide_eq_true h1) (Exists.intro v0 (And.intro h2 (Exists.intro v1 (And.intro h3 (condW_f (decide_eq_false h4) (condW_t (decide_eq_true h5) (rfl)))))))))
theorem q27_l0a_2 {C J} (z1 : Bool) (x2 : List D) (e3 : List D) (i4 : Int) (z5 : Bool) (x6 : List D) (i7 : Int) (i8 : Int) (v0 : D) (v1 : Int) (h0 : i8 < i7) (h1 : 0 ≤ i8) (h2 : x6[Int.toNat i8]? = some v0) (h3 : x6[Int.toNat i8]? = some (D.int IntKind.i64 v1)) (h4 : ¬i4 < IntKind.wrap IntKind.i64 (0 - v1)) (h5 : ¬i4 > IntKind.wrap IntKind.i64 (23 - v1)) : evP F C J d27 [] [1,1,1,0,1,0,0] [(1, .d (.sl 1 z1 x2 e3)), (2, .d (.int .i64 i4)), (23, .own z5 3 1 x6), (24, .d (.int .i64 i7)), (25, .d (.int .i64 i8))] = some (Out.norm [(1, IV.d (D.sl 1 z1 x2 e3)), (2, IV.d (D.int IntKind.i64 i4)), (23, IV.own z5 3 1 x6), (24, IV.d (D.int IntKind.i64 i7)), (25, IV.d (D.int IntKind.i64 (IntKind.wrap IntKind.i64 (i8 + 1))))]) := wpQ_way (q27_l0a C J z1 x2 e3 i4 z5 x6 i7 i8 _) (condW_t (decide_eq_true h0) (condW_t (decide_eq_true h1) (Exists.intro v0 (And.intro h2 (Exists.intro v1 (And.intro h3 (condW_f (decide_eq_false h4) (condW_f (decide_eq_false h5) (rfl)))))))))
theorem q27_l0a_3 {C J} (z1 : Bool) (x2 : List D) (e3 : List D) (i4 : Int) (z5 : Bool) (x6 : List D) (i7 : Int) (i8 : Int) (h0 : ¬i8 < i7) : evP F C J d27 [] [1,1,1,0,1,0,0] [(1, .d (.sl 1 z1 x2 e3)), (2, .d (.int .i64 i4)), (23, .own z5 3 1 x6), (24, .d (.int .i64 i7)), (25, .d (.int .i64 i8))] = some (Out.exit 0 [(1, IV.d (D.sl 1 z1 x2 e3)), (2, IV.d (D.int IntKind.i64 i4)), (23, IV.own z5 3 1 x6), (24, IV.d (D.int IntKind.i64 i7)), (25, IV.d (D.int IntKind.i64 i8))]) := wpQ_way (q27_l0a C J z1 x2 e3 i4 z5 x6 i7 i8 _) (condW_f (decide_eq_false h0) (rfl))
theorem q27_l2b (C J) (i1 : Int) (z2 : Bool) (x3 : List D) (i4 : Int) (i5 : Int) (Q) : wpQ F C R (L27) J d27 [] [1,1,1,1,1,0,1,0,0] [(2, .d (.int .i64 i1)), (12, .own z2 3 1 x3), (43, .d (.int .i64 i4)), (44, .d (.int .i64 i5)), (2042071, .dead)] Q = (condW (decide (i5 < i4)) (condW (decide (0 ≤ i5)) (∃ w0, x3[Int.toNat i5]? = some w0 ∧ ∃ w1, x3[Int.toNat i5]? = some (D.int IntKind.i64 w1) ∧ condW (decide (w1 < 0)) (condW (decide (0 ≤ i5)) (∃ w2, x3[Int.toNat i5]? = some w2 ∧ ∃ w3, x3[Int.toNat i5]? = some (D.int IntKind.i64 w3) ∧ Q (Out.norm [(2, IV.d (D.int IntKind.i64 i1)), (12, IV.own z2 3 1 (List.set x3 (Int.toNat i5) (D.int IntKind.i64 (IntKind.wrap IntKind.i64 (w1 - i1))))), (43, IV.d (D.int IntKind.i64 i4)), (44, IV.d (D.int IntKind.i64 (IntKind.wrap IntKind.i64 (i5 + 1)))), (2042071, IV.dead)])) False) (Q (Out.norm [(2, IV.d (D.int IntKind.i64 i1)), (12, IV.own z2 3 1 x3), (43, IV.d (D.int IntKind.i64 i4)), (44, IV.d (D.int IntKind.i64 (IntKind.wrap IntKind.i64 (i5 + 1)))), (2042071, IV.dead)]))) False) (Q (Out.exit 2 [(2, IV.d (D.int IntKind.i64 i1)), (12, IV.own z2 3 1 x3), (43, IV.d (D.int IntKind.i64 i4)), (44, IV.d (D.int IntKind.i64 i5)), (2042071, IV.dead)]))) := by kernel_rfl
theorem q27_l2b_0 {C J} (i1 : Int) (z2 : Bool) (x3 : List D) (i4 : Int) (i5 : Int) (v0 : D) (v1 : Int) (v2 : D) (v3 : Int) (h0 : i5 < i4) (h1 : 0 ≤ i5) (h2 : x3[Int.toNat i5]? = some v0) (h3 : x3[Int.toNat i5]? = some (D.int IntKind.i64 v1)) (h4 : v1 < 0) (h5 : x3[Int.toNat i5]? = some v2) (h6 : x3[Int.toNat i5]? = some (D.int IntKind.i64 v3)) : evP F C J d27 [] [1,1,1,1,1,0,1,0,0] [(2, .d (.int .i64 i1)), (12, .own z2 3 1 x3), (43, .d (.int .i64 i4)), (44, .d (.int .i64 i5)), (2042071, .dead)] = some (Out.norm [(2, IV.d (D.int IntKind.i64 i1)), (12, IV.own z2 3 1 (List.set x3 (Int.toNat i5) (D.int IntKind.i64 (IntKind.wrap IntKind.i64 (v1 - i1))))), (43, IV.d (D.int IntKind.i64 i4)), (44, IV.d (D.int IntKind.i64 (IntKind.wrap IntKind.i64 (i5 + 1)))), (2042071, IV.dead)]) := wpQ_way (q27_l2b C J i1 z2 x3 i4 i5 _) (condW_t (decide_eq_true h0) (condW_t (decide_eq_true h1) (Exists.intro v0 (And.intro h2 (Exists.intro v1 (And.intro h3 (condW_t (decide_eq_true h4) (condW_t (decide_eq_true h1) (Exists.intro v2 (And.intro h5 (Exists.intro v3 (And.intro h6 (rfl)))))))))))))
theorem q27_l2b_1 {C J} (i1 : Int) (z2 : Bool) (x3 : List D) (i4 : Int) (i5 : Int) (v0 : D) (v1 : Int) (h0 : i5 < i4) (h1 : 0 ≤ i5) (h2 : x3[Int.toNat i5]? = some v0) (h3 : x3[Int.toNat i5]? = some (D.int IntKind.i64 v1)) (h4 : ¬v1 < 0) : evP F C J d27 [] [1,1,1,1,1,0,1,0,0] [(2, .d (.int .i64 i1)), (12, .own z2 3 1 x3), (43, .d (.int .i64 i4)), (44, .d (.int .i64 i5)), (2042071, .dead)] = some (Out.norm [(2, IV.d (D.int IntKind.i64 i1)), (12, IV.own z2 3 1 x3), (43, IV.d (D.int IntKind.i64 i4)), (44, IV.d (D.int IntKind.i64 (IntKind.wrap IntKind.i64 (i5 + 1)))), (2042071, IV.dead)]) := wpQ_way (q27_l2b C J i1 z2 x3 i4 i5 _) (condW_t (decide_eq_true h0) (condW_t (decide_eq_true h1) (Exists.intro v0 (And.intro h2 (Exists.intro v1 (And.intro h3 (condW_f (decide_eq_false h4) (rfl))))))))
theorem q27_l2b_2 {C J} (i1 : Int) (z2 : Bool) (x3 : List D) (i4 : Int) (i5 : Int) (h0 : ¬i5 < i4) : evP F C J d27 [] [1,1,1,1,1,0,1,0,0] [(2, .d (.int .i64 i1)), (12, .own z2 3 1 x3), (43, .d (.int .i64 i4)), (44, .d (.int .i64 i5)), (2042071, .dead)] = some (Out.exit 2 [(2, IV.d (D.int IntKind.i64 i1)), (12, IV.own z2 3 1 x3), (43, IV.d (D.int IntKind.i64 i4)), (44, IV.d (D.int IntKind.i64 i5)), (2042071, IV.dead)]) := wpQ_way (q27_l2b C J i1 z2 x3 i4 i5 _) (condW_f (decide_eq_false h0) (rfl))
end Go.Proofs.YtgoccciejigpeaaDoor.Ab

/- Signatures, rows of terms, atoms: what may be, in plain lists. No program in sight; no condition. -/
set_option linter.unusedVariables false
set_option linter.unusedSimpArgs false
namespace Go.Qu
open Go Go.Ab

abbrev iI (n : Int) : IV := .d (.int .i64 n)
abbrev iB (b : Bool) : IV := .d (.bool b)
abbrev iS (z : Bool) (l : List Int) (e : List D) : IV := .d (.sl 1 z (ints l) e)

structure Sym where
  name : ByteArray
  kind : Int
  ar : Int
  wt : Int
def Sym.d (s : Sym) : D := .agg [.str s.name, .int .i64 s.kind, .int .i64 s.ar, .int .i64 s.wt]
def syms (l : List Sym) : List D := l.map Sym.d
abbrev iG (z : Bool) (l : List Sym) (e : List D) : IV := .d (.sl 4 z (syms l) e)
theorem syms_len (l : List Sym) : (syms l).length = l.length := by simp [syms]
theorem syms_at {l : List Sym} {i : Nat} {s : Sym} (h : l[i]? = some s) : (syms l)[i]? = some (.agg [.str s.name, .int .i64 s.kind, .int .i64 s.ar, .int .i64 s.wt]) := by
  simp [syms, h, Sym.d]
theorem syms_int {l : List Sym} {i : Nat} {s : Sym} (h : l[i]? = some s) : (syms l)[Int.toNat (i : Int)]? = some (.agg [.str s.name, .int .i64 s.kind, .int .i64 s.ar, .int .i64 s.wt]) := by
  rw [Int.toNat_natCast]; exact syms_at h
theorem bytes_len (b : ByteArray) : b.toList.length = b.size := by
  have h : ∀ (k i : Nat) (acc : List UInt8), b.size - i = k → (ByteArray.toList.loop b i acc).length = acc.length + k := by
    intro k
    induction k with
    | zero => intro i acc hk; unfold ByteArray.toList.loop; rw [if_neg (by omega)]; simp
    | succ k ih => intro i acc hk; unfold ByteArray.toList.loop; rw [if_pos (by omega), ih (i + 1) _ (by omega)]; simp; omega
  have := h b.size 0 [] rfl
  unfold ByteArray.toList
  rw [this]; simp
theorem wr1 {i n : Nat} (h : i < n) (hn : n ≤ 9223372036854775807) : IntKind.wrap .i64 ((i : Int) + 1) = ((i + 1 : Nat) : Int) := by
  rw [wr _ (by omega) (by omega)]; omega
theorem at_lt {α : Type} {l : List α} {i : Nat} (h : i < l.length) : ∃ s, l[i]? = some s := ⟨l[i], by simp [h]⟩
theorem lt_at {α : Type} {l : List α} {i : Nat} {s : α} (h : l[i]? = some s) : i < l.length := (List.getElem?_eq_some_iff.1 h).1

def smallB (c : Int) : Bool := decide (97 ≤ c) && decide (c ≤ 122)
def charB (c : Int) : Bool := smallB c || (decide (48 ≤ c) && decide (c ≤ 57))
def nameB (b : ByteArray) : Bool := decide (1 ≤ b.size) && decide (b.size ≤ 8) && smallB (byteAt b 0) && (List.range b.size).all fun i => charB (byteAt b i)
def numsB (s : Sym) : Bool := decide (0 ≤ s.kind) && decide (s.kind ≤ 2) && decide (0 ≤ s.ar) && decide (s.ar ≤ 3) && decide (1 ≤ s.wt) && decide (s.wt ≤ 20)
def symB (s : Sym) : Bool := nameB s.name && numsB s
def isN (n : ByteArray) (s : Sym) : Bool := s.name.toList == n.toList
def findN (l : List Sym) (n : ByteArray) : Int := match l.findIdx? (isN n) with | some i => i | none => -1
def eqSym (s : Sym) : Bool := (s.name.toList == [61]) && (s.kind == 0 && (s.ar == 2 && (s.wt == 1 && true)))
def sigAt (l : List Sym) (i : Nat) : Bool := match l[i]? with | some s => symB s && (findN l s.name == (i : Int)) | none => true
def sigB (l : List Sym) : Bool := decide (1 ≤ l.length) && decide (l.length ≤ 20) && (match l[0]? with | some s => eqSym s | none => false) && (List.range' 1 (l.length - 1)).all (sigAt l)
/-- What may be a signature. -/
structure SigOk (l : List Sym) : Prop where
  lo : 1 ≤ l.length
  hi : l.length ≤ 20
  nums : ∀ (i : Nat) s, l[i]? = some s → 0 ≤ s.kind ∧ s.kind ≤ 2 ∧ 0 ≤ s.ar ∧ s.ar ≤ 3 ∧ 1 ≤ s.wt ∧ s.wt ≤ 20
theorem sigOk {l : List Sym} (h : sigB l = true) : SigOk l := by
  unfold sigB at h
  simp only [Bool.and_eq_true, decide_eq_true_eq] at h
  obtain ⟨⟨⟨h1, h2⟩, h3⟩, h4⟩ := h
  refine ⟨h1, h2, fun i s hs => ?_⟩
  cases i with
  | zero =>
    rw [hs] at h3
    simp only [eqSym, Bool.and_eq_true, beq_iff_eq] at h3
    omega
  | succ i =>
    have hl := lt_at hs
    have h5 := List.all_eq_true.1 h4 (i + 1) (by rw [List.mem_range'_1]; omega)
    unfold sigAt at h5
    rw [hs] at h5
    simp only [symB, numsB, Bool.and_eq_true, decide_eq_true_eq] at h5
    omega
theorem findN_some {l : List Sym} {n : ByteArray} {j : Nat} {s : Sym} (hs : l[j]? = some s) (hq : isN n s = true) (hk : ∀ k, k < j → ∀ t, l[k]? = some t → isN n t = false) : findN l n = (j : Int) := by
  unfold findN
  have : l.findIdx? (isN n) = some j := by
    rw [List.findIdx?_eq_some_iff_getElem]
    have hl := lt_at hs
    refine ⟨hl, ?_, fun k hkj => ?_⟩
    · rw [List.getElem?_eq_getElem hl] at hs; simp at hs; rw [hs]; exact hq
    · have := hk k hkj l[k] (by simp)
      simpa using this
  rw [this]
theorem findN_none {l : List Sym} {n : ByteArray} (hk : ∀ k, k < l.length → ∀ t, l[k]? = some t → isN n t = false) : findN l n = -1 := by
  unfold findN
  have : l.findIdx? (isN n) = none := by
    rw [List.findIdx?_eq_none_iff]
    intro x hx
    obtain ⟨k, hk1, hk2⟩ := List.getElem_of_mem hx
    exact hk k hk1 x (by rw [List.getElem?_eq_getElem hk1, hk2])
  rw [this]

/-! ### Terms -/
/-- How many terms stand behind a code; none: it may not begin a term. -/
def arOf (g : List Sym) (c : Int) : Option Nat :=
  if c < 0 then (if -24 ≤ c then some 0 else none) else match g[c.toNat]? with
    | none => none
    | some s => if s.kind = 0 then none else some s.ar.toNat
/-- How many codes so many terms have. -/
def lenN (g : List Sym) : List Int → Nat → Option Nat
  | _, 0 => some 0
  | [], _ + 1 => none
  | c :: r, n + 1 => match arOf g c with
    | none => none
    | some k => (lenN g r (n + k)).map (· + 1)
theorem lenN_le {g : List Sym} : ∀ {r : List Int} {n k : Nat}, lenN g r n = some k → k ≤ r.length ∧ n ≤ k
  | r, 0, k, h => by cases r <;> (simp [lenN] at h; subst h; simp)
  | [], n + 1, k, h => by simp [lenN] at h
  | c :: r, n + 1, k, h => by
    unfold lenN at h
    split at h
    · cases h
    · rename_i a ha
      obtain ⟨m, hm, rfl⟩ := Option.map_eq_some_iff.1 h
      have := lenN_le hm
      simp; omega
theorem gi_drop {r : List Int} {i : Nat} (h : i < r.length) : r.drop i = gi r i :: r.drop (i + 1) := by
  rw [List.drop_eq_getElem_cons h]; simp [gi, h]
theorem drop_ge {r : List Int} {i : Nat} (h : ¬ i < r.length) : r.drop i = [] := List.drop_of_length_le (by omega)
theorem arOf_le {g : List Sym} (hg : SigOk g) {c : Int} {k : Nat} (h : arOf g c = some k) : k ≤ 3 := by
  unfold arOf at h
  split at h
  · split at h <;> simp at h; omega
  · split at h
    · cases h
    · rename_i s hs
      have := hg.nums _ _ hs
      split at h <;> simp at h; omega
def arV (g : List Sym) (c : Int) : Int := ((arOf g c).getD 0 : Nat)
theorem lenN_end {g : List Sym} {r : List Int} {i n : Nat} (h : ¬ i < r.length) (hn : 1 ≤ n) : lenN g (r.drop i) n = none := by
  rw [drop_ge h]
  obtain ⟨m, rfl⟩ : ∃ m, n = m + 1 := ⟨n - 1, by omega⟩
  rfl
theorem lenN_no {g : List Sym} {r : List Int} {i n : Nat} (h : i < r.length) (hn : 1 ≤ n) (ha : arOf g (gi r i) = none) : lenN g (r.drop i) n = none := by
  rw [gi_drop h]
  obtain ⟨m, rfl⟩ : ∃ m, n = m + 1 := ⟨n - 1, by omega⟩
  simp [lenN, ha]
theorem lenN_go {g : List Sym} {r : List Int} {i n k : Nat} (h : i < r.length) (hn : 1 ≤ n) (ha : arOf g (gi r i) = some k) : lenN g (r.drop i) n = (lenN g (r.drop (i + 1)) (n + k - 1)).map (· + 1) := by
  rw [gi_drop h]
  obtain ⟨m, rfl⟩ : ∃ m, n = m + 1 := ⟨n - 1, by omega⟩
  simp only [lenN, ha]
  rw [show m + 1 + k - 1 = m + k by omega]
/-- The place behind so many terms from a place on. -/
def skV (g : List Sym) (r : List Int) (i n : Nat) : Int := match lenN g (r.drop i) n with | some k => ((i + k : Nat) : Int) | none => 0
def skB (g : List Sym) (r : List Int) (i n : Nat) : Bool := (lenN g (r.drop i) n).isSome
def skR (g : List Sym) (r : List Int) (i n : Nat) : Int := match lenN g (r.drop i) n with | some k => ((i + k : Nat) : Int) | none => -1
/-- The terms of a row; none: it is no row of terms. -/
def parts (g : List Sym) (r : List Int) : Option (List (List Int)) :=
  if hr : r = [] then some [] else match h : lenN g r 1 with
    | none => none
    | some k => (parts g (r.drop k)).map (r.take k :: ·)
termination_by r.length
decreasing_by
  have := lenN_le h
  have : r.length ≠ 0 := fun e => hr (List.length_eq_zero_iff.1 e)
  simp; omega
theorem parts_nil (g : List Sym) : parts g [] = some [] := by rw [parts]; simp
theorem parts_none {g : List Sym} {r : List Int} (hr : r ≠ []) (h : lenN g r 1 = none) : parts g r = none := by
  rw [parts]; rw [dif_neg hr]; split
  · rfl
  · rename_i k hk; rw [h] at hk; cases hk
theorem parts_some {g : List Sym} {r : List Int} {k : Nat} (hr : r ≠ []) (h : lenN g r 1 = some k) : parts g r = (parts g (r.drop k)).map (r.take k :: ·) := by
  rw [parts]; rw [dif_neg hr]; split
  · rename_i hk; rw [h] at hk; cases hk
  · rename_i k' hk; rw [h] at hk; cases hk; rfl
/-- Where the terms begin, from a place on. -/
def begs (at_ : Nat) : List (List Int) → List Int
  | [] => []
  | t :: ts => (at_ : Int) :: begs (at_ + t.length) ts
/-- The terms of a row that may be (P2.1). -/
def rowP (g : List Sym) (r : List Int) : Option (List (List Int)) := if r.length ≤ 48 then parts g r else none
def atomB (g : List Sym) (a : List Int) : Bool :=
  match a with
  | [] => false
  | p :: r => if p < 0 then false else match g[p.toNat]? with
    | none => false
    | some s => s.kind == 0 && sigB g && (match rowP g r with | some ts => (ts.length : Int) == s.ar | none => false)
def rowB (g : List Sym) (r : List Int) : Bool := sigB g && (rowP g r).isSome
def begsM (g : List Sym) (r : List Int) : List Int := if sigB g = true then (match rowP g r with | some ts => begs 0 ts | none => []) else []
theorem begs_len : ∀ (ts : List (List Int)) (i : Nat), (begs i ts).length = ts.length
  | [], i => rfl
  | t :: ts, i => by simp [begs, begs_len ts]
theorem parts_lens {g : List Sym} : ∀ (n : Nat) (r : List Int) {ts : List (List Int)}, r.length ≤ n → parts g r = some ts → ts.length ≤ r.length ∧ ts.flatten = r
  | n, [], ts, hn, h => by rw [parts_nil] at h; cases h; simp
  | 0, c :: r, ts, hn, h => by simp at hn
  | n + 1, c :: r, ts, hn, h => by
    cases hl : lenN g (c :: r) 1 with
    | none => rw [parts_none (by simp) hl] at h; cases h
    | some k =>
      rw [parts_some (by simp) hl] at h
      obtain ⟨us, h1, rfl⟩ := Option.map_eq_some_iff.1 h
      have h2 := lenN_le hl
      have h3 := parts_lens n ((c :: r).drop k) (by simp at hn ⊢; omega) h1
      refine ⟨?_, ?_⟩
      · have := h3.1; simp at this h2 ⊢; omega
      · rw [List.flatten_cons, h3.2, List.take_append_drop]
theorem ints_nil : ints [] = [] := rfl
theorem ints_cons (x : Int) (l : List Int) : ints (x :: l) = .int .i64 x :: ints l := rfl
/-- Numbers that are not too many. -/
def Len (l : List Int) : Prop := l.length * 8 ≤ 140737488351232
theorem Len.lt {l : List Int} (h : Len l) : l.length < 20000000000000 := by unfold Len at h; omega

/-! ### Rows of rows -/
structure Row where
  z : Bool
  l : List Int
  e : List D
def Row.d (r : Row) : D := .sl 1 r.z (ints r.l) r.e
def rws (rs : List Row) : List D := rs.map Row.d
abbrev iR (z : Bool) (rs : List Row) (e : List D) : IV := .d (.sl 1 z (rws rs) e)
theorem rws_len (l : List Row) : (rws l).length = l.length := by simp [rws]
theorem rws_at {l : List Row} {i : Nat} {s : Row} (h : l[i]? = some s) : (rws l)[i]? = some (.sl 1 s.z (ints s.l) s.e) := by
  simp [rws, h, Row.d]
theorem rws_nil : rws [] = [] := rfl
theorem rws_cons (x : Row) (l : List Row) : rws (x :: l) = .sl 1 x.z (ints x.l) x.e :: rws l := rfl
theorem rws_append (l m : List Row) : rws (l ++ m) = rws l ++ rws m := by simp [rws]
theorem gi_at {l : List Int} {i : Nat} (h : i < l.length) : l[i]? = some (gi l i) := by simp [gi, h]
theorem ints_ext {l m : List Int} (h : l.length = m.length) (h2 : ∀ i, i < l.length → gi l i = gi m i) : l = m := by
  refine List.ext_getElem h (fun i h3 h4 => ?_)
  have := h2 i h3
  simpa [gi, h3, h4] using this
def minL : List Int → Int → Int
  | [], m => m
  | x :: l, m => minL l (if x < m then x else m)
theorem minL_ge : ∀ (l : List Int) (m k : Int), k ≤ minL l m ↔ k ≤ m ∧ ∀ x ∈ l, k ≤ x
  | [], m, k => by simp [minL]
  | x :: l, m, k => by
    rw [minL, minL_ge l]
    constructor
    · rintro ⟨h1, h2⟩
      split at h1 <;> exact ⟨by omega, fun y hy => by rcases List.mem_cons.1 hy with rfl | hy; omega; exact h2 y hy⟩
    · rintro ⟨h1, h2⟩
      refine ⟨?_, fun y hy => h2 y (List.mem_cons_of_mem _ hy)⟩
      have := h2 x (by simp)
      split <;> omega
/-- Which variables stand among codes. -/
def varsFrom (l : List Int) : Nat → Nat → List Int
  | 0, _ => []
  | k + 1, v => if l.contains (-1 - (v : Int)) then (v : Int) :: varsFrom l k (v + 1) else varsFrom l k (v + 1)
def varsM (l : List Int) : List Int := varsFrom l 24 0
end Go.Qu

/- Signatures, rows of terms, atoms: what the program's and the reference's functions hand back. For every input; no condition. -/
set_option linter.unusedVariables false
set_option linter.unusedSimpArgs false
set_option maxRecDepth 100000
namespace Go.Proofs.YtgoccciejigpeaaDoor.Ab
open Go Go.Ab Go.Qu Go.Proofs
attribute [local simp] and_assoc
noncomputable abbrev C : Caller := Go.Ab.W F
theorem wfn {f : FuncId} {d : FnD} {args : List IV} {r : IV × List IV} {lk : List Nat} (h : codeOf code f = some d) (hl : lkFrom 0 args = lk) (h2 : evFnJ F (Go.Ab.W F) (JW F d lk) d args = some r) : C f args = some r := W_fn rfl h (by rw [hl]; exact h2)
/-! ### Signatures -/
@[simp] theorem w_small (c : Int) : C 44 [.d (.int .u8 c)] = some (iB (smallB c), [.d (.int .u8 c)]) := by
  refine wfn (lk := []) rfl rfl (fnW_way (q44 _ _ c _) ?_)
  by_cases h1 : 97 ≤ c <;> by_cases h2 : c ≤ 122 <;> simp [h1, h2, smallB]
@[simp] theorem w_called (s : ByteArray) : C 40 [.d (.str s)] = some (iB (nameB s), [.d (.str s)]) := by
  refine wfn (lk := []) rfl rfl (fnW_way (q40 _ _ s _) ?_)
  have hl := fun (h8 : s.size ≤ 8) => blk_all (F := F) (d := d40) (lk := []) (p := [1,1,0,1,0,0]) (p0 := [1,1,0,1]) (by kernel_rfl) (n := s.size) (id := 0) (st := fun i => [(0, .d (.str s)), (18, iI s.size), (19, iI i)]) (q := fun i => charB (byteAt s i)) (rt := [(2, iB false)]) (e := [(0, .d (.str s)), (18, iI s.size), (19, iI s.size)])
    (fun i hi hq => by
      refine wpQ_way (q40_l0a _ _ s _ i _) ?_
      simp only [charB, Bool.or_eq_true, Bool.and_eq_true, decide_eq_true_eq] at hq
      simp [wr1 hi (by omega), hi]
      intro h; simpa [h] using hq)
    (fun i hi hq => by
      refine wpQ_way (q40_l0a _ _ s _ i _) ?_
      simp [charB] at hq
      simp [-getElem?_pos, and_assoc, wr1 hi (by omega), hi, hq.1]
      omega)
    (wpQ_way (q40_l0a _ _ s _ s.size _) (by simp)) 0 (Nat.zero_le _)
  by_cases h0 : s.size = 0
  · have : s.toList = [] := List.length_eq_zero_iff.1 (by rw [bytes_len, h0])
    simp [this, nameB, h0]
  have h1 : ¬ s.toList = [] := fun e => h0 (by rw [← bytes_len, e]; rfl)
  by_cases h8 : s.size ≤ 8
  rotate_left
  · simp [h1, nameB, h8]; omega
  by_cases hs : smallB (byteAt s 0) = true
  rotate_left
  · have hs' : smallB (byteAt s 0) = false := by simpa using hs
    simp [h1, nameB, hs']; omega
  rcases hl h8 with ⟨h2, h3⟩ | ⟨⟨j, h2, h4, h5⟩, h3⟩
  · have h6 : nameB s = true := by
      simp only [nameB, Bool.and_eq_true, decide_eq_true_eq, hs, and_true, List.all_eq_true, List.mem_range]
      exact ⟨⟨by omega, h8⟩, fun j hj => h2 j (Nat.zero_le _) hj⟩
    simp at h3
    simp [h1, hs, h3, h6]
    omega
  · have h6 : nameB s = false := by
      simp only [nameB, Bool.and_eq_false_iff]
      right
      rw [List.all_eq_false]
      exact ⟨j, List.mem_range.2 h4, by simp [h5]⟩
    simp at h3
    simp [h1, hs, h3, h6]
    omega
@[simp] theorem w_symmay (s : Sym) : C 33 [.d (.agg [.str s.name, .int .i64 s.kind, .int .i64 s.ar, .int .i64 s.wt])] = some (iB (symB s), [.d (.agg [.str s.name, .int .i64 s.kind, .int .i64 s.ar, .int .i64 s.wt])]) := by
  refine wfn (lk := []) rfl rfl (fnW_way (q33 _ _ s.name s.kind s.ar s.wt _) ?_)
  cases hn : nameB s.name <;> simp [hn, symB, numsB]
  by_cases h1 : 0 ≤ s.kind <;> by_cases h2 : s.kind ≤ 2 <;> by_cases h3 : 0 ≤ s.ar <;> by_cases h4 : s.ar ≤ 3 <;> by_cases h5 : 1 ≤ s.wt <;> by_cases h6 : s.wt ≤ 20 <;> simp [h1, h2, h3, h4, h5, h6] <;> omega
theorem w_find {g : List Sym} (hg : g.length ≤ 20) (z : Bool) (e : List D) (n : ByteArray) : C 34 [iG z g e, .d (.str n)] = some (iI (findN g n), [iG z g e, .d (.str n)]) := by
  refine wfn (lk := []) rfl rfl (fnW_way (q34 _ _ z (syms g) e n _) ?_)
  have hl := blk_find (F := F) (d := d34) (lk := []) (p := [1,0,1,0,0]) (p0 := [1,0,1]) (by kernel_rfl) (n := g.length) (id := 0) (st := fun i => [(0, iG z g e), (1, .d (.str n)), (7, iI g.length), (8, iI i)]) (q := fun i => match g[i]? with | some s => isN n s | none => false) (rt := fun i => [(4, iI i)]) (e := [(0, iG z g e), (1, .d (.str n)), (7, iI g.length), (8, iI g.length)])
    (fun i hi hq => by
      refine wpQ_way (q34_l0a _ _ z (syms g) e n _ i _) ?_
      obtain ⟨s, hs⟩ := at_lt hi
      simp [hs, isN] at hq
      simp [-getElem?_pos, and_assoc, wr1 hi (by omega), hi, syms_at hs, hq])
    (fun i hi hq => by
      refine wpQ_way (q34_l0a _ _ z (syms g) e n _ i _) ?_
      obtain ⟨s, hs⟩ := at_lt hi
      simp [hs, isN] at hq
      simp [-getElem?_pos, and_assoc, wr1 hi (by omega), hi, syms_at hs, hq])
    (wpQ_way (q34_l0a _ _ z (syms g) e n _ g.length _) (by simp)) 0 (Nat.zero_le _)
  rcases hl with ⟨h2, h3⟩ | ⟨j, h1, h2, h4, h5, h3⟩
  · rw [findN_none (fun k hk t ht => by have := h2 k (Nat.zero_le _) hk; rw [ht] at this; exact this)]
    simp at h3
    simp [syms_len, h3]
  · obtain ⟨s, hs⟩ := at_lt h2
    rw [findN_some hs (by rw [hs] at h4; exact h4) (fun k hk t ht => by have := h5 k (Nat.zero_le _) hk; rw [ht] at this; exact this)]
    simp at h3
    simp [syms_len, h3]
theorem w_may (z : Bool) (g : List Sym) (e : List D) : C 21 [iG z g e] = some (iB (sigB g), [iG z g e]) := by
  refine wfn (lk := []) rfl rfl (fnW_way (q21 _ _ z (syms g) e _) ?_)
  by_cases h1 : 1 ≤ g.length
  rotate_left
  · simp [syms_len, sigB, h1]; omega
  by_cases h20 : g.length ≤ 20
  rotate_left
  · simp [syms_len, sigB, h20]; omega
  obtain ⟨s0, hs0⟩ := at_lt (show 0 < g.length by omega)
  have e1 : ¬ ((g.length : Int) < 1) := by omega
  have e2 : ¬ (20 < (g.length : Int)) := by omega
  have hl := blk_all (F := F) (d := d21) (lk := []) (p := [1,1,0,1,0,0]) (p0 := [1,1,0,1]) (by kernel_rfl) (n := g.length) (id := 0) (st := fun i => [(0, iG z g e), (3, iI i)]) (q := sigAt g) (rt := [(2, iB false)]) (e := [(0, iG z g e), (3, iI g.length)])
    (fun i hi hq => by
      refine wpQ_way (q21_l0a _ _ z (syms g) e i _) ?_
      obtain ⟨s, hs⟩ := at_lt hi
      simp [sigAt, hs] at hq
      simp [-getElem?_pos, and_assoc, wr1 hi (by omega), hi, syms_len, syms_at hs, hq, w_find h20])
    (fun i hi hq => by
      refine wpQ_way (q21_l0a _ _ z (syms g) e i _) ?_
      obtain ⟨s, hs⟩ := at_lt hi
      simp [sigAt, hs] at hq
      cases hm : symB s
      · simp [-getElem?_pos, and_assoc, wr1 hi (by omega), hi, syms_len, syms_at hs, hm]
      · simp [-getElem?_pos, and_assoc, wr1 hi (by omega), hi, syms_len, syms_at hs, hm, w_find h20, hq hm])
    (wpQ_way (q21_l0a _ _ z (syms g) e g.length _) (by simp [syms_len])) 1 h1
  have e0 : "=".toUTF8.toList = [61] := by decide +kernel
  have hq : (s0.name.toList == "=".toUTF8.toList && (s0.kind == 0 && (s0.ar == 2 && (s0.wt == 1 && true)))) = eqSym s0 := by rw [e0]; rfl
  simp only [syms_len, syms_at hs0, condW_d, e1, e2, if_false, gt_iff_lt]
  simp only [Option.some.injEq, D.agg.injEq, List.cons.injEq, D.str.injEq, D.int.injEq, true_and, and_true]
  refine ⟨s0.name, s0.kind, s0.ar, s0.wt, ⟨rfl, rfl, rfl, rfl⟩, ?_⟩
  rw [hq]
  cases h0 : eqSym s0
  · simp [sigB, h1, h20, hs0, h0]
  rcases hl with ⟨h2, h3⟩ | ⟨⟨j, h2, h4, h5⟩, h3⟩
  · have h6 : sigB g = true := by
      simp only [sigB, h1, h20, hs0, h0, Bool.and_eq_true, decide_eq_true_eq, List.all_eq_true, List.mem_range'_1, true_and]
      exact fun j hj => h2 j hj.1 (by omega)
    simp at h3
    simp [h3, h6]
  · have h6 : sigB g = false := by
      simp only [sigB, Bool.and_eq_false_iff]
      right
      rw [List.all_eq_false]
      exact ⟨j, by rw [List.mem_range'_1]; omega, by simp [h5]⟩
    simp at h3
    simp [h3, h6]
/-! ### The reference's -/
@[simp] theorem w_rsmall (c : Int) : C 41 [.d (.int .u8 c)] = some (iB (smallB c), [.d (.int .u8 c)]) := by
  refine wfn (lk := []) rfl rfl (fnW_way (q41 _ _ c _) ?_)
  by_cases h1 : 97 ≤ c <;> by_cases h2 : c ≤ 122 <;> simp [h1, h2, smallB]
@[simp] theorem w_rsymmay (s : Sym) : C 35 [.d (.agg [.str s.name, .int .i64 s.kind, .int .i64 s.ar, .int .i64 s.wt])] = some (iB (symB s), [.d (.agg [.str s.name, .int .i64 s.kind, .int .i64 s.ar, .int .i64 s.wt])]) := by
  refine wfn (lk := []) rfl rfl (fnW_way (q35 _ _ s.name s.kind s.ar s.wt _) ?_)
  have hl := fun (h8 : s.name.size ≤ 8) => blk_all (F := F) (d := d35) (lk := []) (p := [1,1,0,1,0,0]) (p0 := [1,1,0,1]) (by kernel_rfl) (n := s.name.size) (id := 0) (st := fun i => [(1, .dbox 57 0 [.str s.name, .int .i64 s.kind, .int .i64 s.ar, .int .i64 s.wt]), (3, iI i)]) (q := fun i => charB (byteAt s.name i)) (rt := [(2, iB false)]) (e := [(1, .dbox 57 0 [.str s.name, .int .i64 s.kind, .int .i64 s.ar, .int .i64 s.wt]), (3, iI s.name.size)])
    (fun i hi hq => by
      refine wpQ_way (q35_l0a _ _ s.name s.kind s.ar s.wt i _) ?_
      simp only [charB, Bool.or_eq_true, Bool.and_eq_true, decide_eq_true_eq] at hq
      simp [wr1 hi (by omega), hi]
      intro h; simpa [h] using hq)
    (fun i hi hq => by
      refine wpQ_way (q35_l0a _ _ s.name s.kind s.ar s.wt i _) ?_
      simp [charB] at hq
      simp [-getElem?_pos, and_assoc, wr1 hi (by omega), hi, hq.1]
      omega)
    (wpQ_way (q35_l0a _ _ s.name s.kind s.ar s.wt s.name.size _) (by simp)) 0 (Nat.zero_le _)
  by_cases h0 : s.name.size = 0
  · simp [symB, nameB, h0]
  by_cases h8 : s.name.size ≤ 8
  rotate_left
  · simp [symB, nameB, h8]; omega
  by_cases hs : smallB (byteAt s.name 0) = true
  rotate_left
  · have hs' : smallB (byteAt s.name 0) = false := by simpa using hs
    simp [symB, nameB, hs']; omega
  have e1 : ¬ ((s.name.size : Int) < 1) := by omega
  have e2 : ¬ (8 < (s.name.size : Int)) := by omega
  have e3 : 0 < s.name.size := by omega
  rcases hl h8 with ⟨h2, h3⟩ | ⟨⟨j, h2, h4, h5⟩, h3⟩
  · have h6 : nameB s.name = true := by
      simp only [nameB, Bool.and_eq_true, decide_eq_true_eq, hs, and_true, List.all_eq_true, List.mem_range]
      exact ⟨⟨by omega, h8⟩, fun j hj => h2 j (Nat.zero_le _) hj⟩
    simp at h3
    simp [e1, e2, e3, hs, h3, h6, symB, numsB]
    by_cases h1 : 0 ≤ s.kind <;> by_cases h2 : s.kind ≤ 2 <;> by_cases h3 : 0 ≤ s.ar <;> by_cases h4 : s.ar ≤ 3 <;> by_cases h5 : 1 ≤ s.wt <;> by_cases h6 : s.wt ≤ 20 <;> simp [h1, h2, h3, h4, h5, h6] <;> omega
  · have h6 : nameB s.name = false := by
      simp only [nameB, Bool.and_eq_false_iff]
      right
      rw [List.all_eq_false]
      exact ⟨j, List.mem_range.2 h4, by simp [h5]⟩
    simp at h3
    simp [e1, e2, e3, hs, h3, h6, symB]
theorem w_code {g : List Sym} (hg : g.length ≤ 20) (z : Bool) (e : List D) (n : ByteArray) : C 36 [iG z g e, .d (.str n)] = some (iI (findN g n), [iG z g e, .d (.str n)]) := by
  refine wfn (lk := []) rfl rfl (fnW_way (q36 _ _ z (syms g) e n _) ?_)
  have hl := blk_find (F := F) (d := d36) (lk := []) (p := [1,0,1,0,0]) (p0 := [1,0,1]) (by kernel_rfl) (n := g.length) (id := 0) (st := fun i => [(0, iG z g e), (1, .d (.str n)), (5, iI i)]) (q := fun i => match g[i]? with | some s => isN n s | none => false) (rt := fun i => [(4, iI i)]) (e := [(0, iG z g e), (1, .d (.str n)), (5, iI g.length)])
    (fun i hi hq => by
      refine wpQ_way (q36_l0a _ _ z (syms g) e n i _) ?_
      obtain ⟨s, hs⟩ := at_lt hi
      simp [hs, isN] at hq
      simp [-getElem?_pos, and_assoc, wr1 hi (by omega), hi, syms_len, syms_at hs, hq])
    (fun i hi hq => by
      refine wpQ_way (q36_l0a _ _ z (syms g) e n i _) ?_
      obtain ⟨s, hs⟩ := at_lt hi
      simp [hs, isN] at hq
      simp [-getElem?_pos, and_assoc, wr1 hi (by omega), hi, syms_len, syms_at hs, hq])
    (wpQ_way (q36_l0a _ _ z (syms g) e n g.length _) (by simp [syms_len])) 0 (Nat.zero_le _)
  rcases hl with ⟨h2, h3⟩ | ⟨j, h1, h2, h4, h5, h3⟩
  · rw [findN_none (fun k hk t ht => by have := h2 k (Nat.zero_le _) hk; rw [ht] at this; exact this)]
    simp at h3
    simp [syms_len, h3]
  · obtain ⟨s, hs⟩ := at_lt h2
    rw [findN_some hs (by rw [hs] at h4; exact h4) (fun k hk t ht => by have := h5 k (Nat.zero_le _) hk; rw [ht] at this; exact this)]
    simp at h3
    simp [syms_len, h3]
theorem w_rmay (z : Bool) (g : List Sym) (e : List D) : C 24 [iG z g e] = some (iB (sigB g), [iG z g e]) := by
  refine wfn (lk := []) rfl rfl (fnW_way (q24 _ _ z (syms g) e _) ?_)
  by_cases h1 : 1 ≤ g.length
  rotate_left
  · simp [syms_len, sigB, h1]; omega
  by_cases h20 : g.length ≤ 20
  rotate_left
  · simp [syms_len, sigB, h20]; omega
  obtain ⟨s0, hs0⟩ := at_lt (show 0 < g.length by omega)
  have e1 : ¬ ((g.length : Int) < 1) := by omega
  have e2 : ¬ (20 < (g.length : Int)) := by omega
  have hl := blk_all (F := F) (d := d24) (lk := []) (p := [1,1,0,1,0,0]) (p0 := [1,1,0,1]) (by kernel_rfl) (n := g.length) (id := 0) (st := fun i => [(0, iG z g e), (3, iI i)]) (q := sigAt g) (rt := [(2, iB false)]) (e := [(0, iG z g e), (3, iI g.length)])
    (fun i hi hq => by
      refine wpQ_way (q24_l0a _ _ z (syms g) e i _) ?_
      obtain ⟨s, hs⟩ := at_lt hi
      simp [sigAt, hs] at hq
      simp [-getElem?_pos, and_assoc, wr1 hi (by omega), hi, syms_len, syms_at hs, hq, w_code h20])
    (fun i hi hq => by
      refine wpQ_way (q24_l0a _ _ z (syms g) e i _) ?_
      obtain ⟨s, hs⟩ := at_lt hi
      simp [sigAt, hs] at hq
      cases hm : symB s
      · simp [-getElem?_pos, and_assoc, wr1 hi (by omega), hi, syms_len, syms_at hs, hm]
      · simp [-getElem?_pos, and_assoc, wr1 hi (by omega), hi, syms_len, syms_at hs, hm, w_code h20, hq hm])
    (wpQ_way (q24_l0a _ _ z (syms g) e g.length _) (by simp [syms_len])) 1 h1
  have e0 : ByteArray.toList { data := #[61] } = [61] := by decide +kernel
  have hq : (s0.name.toList == ByteArray.toList { data := #[61] } && (s0.kind == 0 && (s0.ar == 2 && (s0.wt == 1 && true)))) = eqSym s0 := by rw [e0]; rfl
  simp only [syms_len, syms_at hs0, condW_d, e1, e2, if_false, gt_iff_lt]
  simp only [Option.some.injEq, D.agg.injEq, List.cons.injEq, D.str.injEq, D.int.injEq, true_and, and_true]
  refine ⟨s0.name, s0.kind, s0.ar, s0.wt, ⟨rfl, rfl, rfl, rfl⟩, ?_⟩
  rw [hq]
  cases h0 : eqSym s0
  · simp [sigB, h1, h20, hs0, h0]
  rcases hl with ⟨h2, h3⟩ | ⟨⟨j, h2, h4, h5⟩, h3⟩
  · have h6 : sigB g = true := by
      simp only [sigB, h1, h20, hs0, h0, Bool.and_eq_true, decide_eq_true_eq, List.all_eq_true, List.mem_range'_1, true_and]
      exact fun j hj => h2 j hj.1 (by omega)
    simp at h3
    simp [h3, h6]
  · have h6 : sigB g = false := by
      simp only [sigB, Bool.and_eq_false_iff]
      right
      rw [List.all_eq_false]
      exact ⟨j, by rw [List.mem_range'_1]; omega, by simp [h5]⟩
    simp at h3
    simp [h3, h6]
end Go.Proofs.YtgoccciejigpeaaDoor.Ab

/- Rows of terms, atoms: what the program's and the reference's functions hand back. For every input; no condition. -/
set_option linter.unusedVariables false
set_option linter.unusedSimpArgs false
set_option maxRecDepth 100000
namespace Go.Proofs.YtgoccciejigpeaaDoor.Ab
open Go Go.Ab Go.Qu Go.Proofs
attribute [local simp] and_assoc
theorem w_number (c : Int) : C 30 [iI c] = some (iI (IntKind.wrap .i64 (-1 - c)), [iI c]) :=
  wfn (lk := []) rfl rfl (fnW_way (q30 _ _ c _) (by simp))
theorem w_number23 : C 30 [iI 23] = some (iI (-24), [iI 23]) := by rw [w_number, wr _ (by omega) (by omega)]; rfl
theorem w_args {g : List Sym} (hg : SigOk g) (z : Bool) (e : List D) (c : Int) : C 43 [iG z g e, iI c] = some (.tup [iI (arV g c), iB (arOf g c).isSome], [iG z g e, iI c]) := by
  refine wfn (lk := []) rfl rfl (fnW_way (q43 _ _ z (syms g) e c _) ?_)
  by_cases h0 : c < 0
  · by_cases h1 : -24 ≤ c
    · simp [h0, h1, arV, arOf, w_number23]
    · simp [h0, h1, arV, arOf, w_number23]; omega
  by_cases h2 : c < g.length
  · obtain ⟨s, hs⟩ := at_lt (l := g) (i := c.toNat) (by omega)
    have hn := hg.nums _ _ hs
    have h3 : 0 ≤ c := by omega
    have h4 : ¬ (g.length : Int) ≤ c := by omega
    by_cases hk : s.kind = 0
    · simp [-getElem?_pos, h0, h2, h3, h4, syms_len, syms_at hs, arV, arOf, hs, hk]
    · simp [-getElem?_pos, h0, h2, h3, h4, syms_len, syms_at hs, arV, arOf, hs, hk]; omega
  · have hs : g[c.toNat]? = none := List.getElem?_eq_none (by omega)
    have h4 : (g.length : Int) ≤ c := by omega
    simp [h0, h4, syms_len, arV, arOf, hs]
theorem l_skip {g : List Sym} (hg : SigOk g) (z z' : Bool) (e e' : List D) {r : List Int} (hr : r.length < 20000000000000) : ∀ x : Nat × Nat, (1 ≤ x.2 ∧ x.2 ≤ 3 * x.1 + 1 ∧ x.1 ≤ r.length) →
    ∃ o, evG (JW F d39 []) d39 [1, 0] 0 [(0, iG z g e), (1, iS z' r e'), (2, iI x.1), (8, iI x.2)] = some o ∧ o = .ret [(6, iI (skV g r x.1 x.2)), (7, iB (skB g r x.1 x.2))] :=
  label_rule (F := F) (d := d39) (lk := []) (p := [1, 0]) (fun _ => 0) (fun (x : Nat × Nat) => [(0, iG z g e), (1, iS z' r e'), (2, iI x.1), (8, iI x.2)]) _ (fun x => r.length - x.1) (fun x o => o = .ret [(6, iI (skV g r x.1 x.2)), (7, iB (skB g r x.1 x.2))]) (fun _ _ => by decide +kernel) (fun x hx => by
    obtain ⟨i, n⟩ := x
    obtain ⟨h1, h2, h3⟩ := hx
    dsimp only at h1 h2 h3 ⊢
    by_cases hi : i < r.length
    · have hi' : ¬ (r.length : Int) ≤ i := by omega
      cases ha : arOf g (gi r i) with
      | none =>
        refine .inr ⟨_, wpR_way (q39_l1000000a _ _ z (syms g) e z' (ints r) e' i n _) ?_, rfl, rfl⟩
        simp [-getElem?_pos, ints_len, hi', Go.Ab.ints_at hi, w_args hg, ha, skV, skB, lenN_no hi h1 ha]
      | some k =>
        have hk := arOf_le hg ha
        have hw1 : IntKind.wrap .i64 ((k : Int) - 1) = (k : Int) - 1 := wr _ (by omega) (by omega)
        have hw2 : IntKind.wrap .i64 ((n : Int) + ((k : Int) - 1)) = ((n + k - 1 : Nat) : Int) := by rw [wr _ (by omega) (by omega)]; omega
        have hw3 := wr1 hi (by omega)
        by_cases hn : 0 < n + k - 1
        · refine .inl ⟨(i + 1, n + k - 1), wpR_way (q39_l1000000a _ _ z (syms g) e z' (ints r) e' i n _) ?_, ⟨by dsimp only; omega, by dsimp only; omega, by dsimp only; omega⟩, by dsimp only; omega, fun o ho => ?_⟩
          · simp [-getElem?_pos, -Int.natCast_add, ints_len, hi', Go.Ab.ints_at hi, w_args hg, ha, arV, hw1, hw2, hw3, hn]
          · rw [ho]
            simp only [skV, skB, lenN_go hi h1 ha]
            cases lenN g (r.drop (i + 1)) (n + k - 1) <;> simp; omega
        · refine .inr ⟨_, wpR_way (q39_l1000000a _ _ z (syms g) e z' (ints r) e' i n _) ?_, rfl, rfl⟩
          have hz : n + k - 1 = 0 := by omega
          have hl : lenN g (r.drop i) n = some 1 := by rw [lenN_go hi h1 ha, hz]; simp [lenN]
          simp [-getElem?_pos, -Int.natCast_add, ints_len, hi', Go.Ab.ints_at hi, w_args hg, ha, arV, hw1, hw2, hw3, hz, skV, skB, hl]
    · have hi' : (r.length : Int) ≤ i := by omega
      refine .inr ⟨_, wpR_way (q39_l1000000a _ _ z (syms g) e z' (ints r) e' i n _) ?_, rfl, rfl⟩
      simp [ints_len, hi', skV, skB, lenN_end hi h1])
theorem w_skip {g : List Sym} (hg : SigOk g) (z z' : Bool) (e e' : List D) {r : List Int} (hr : r.length < 20000000000000) (i : Nat) : C 39 [iG z g e, iS z' r e', iI i] = some (.tup [iI (skV g r i 1), iB (skB g r i 1)], [iG z g e, iS z' r e', iI i]) := by
  refine wfn (lk := []) rfl rfl (fnW_way (q39 _ _ z (syms g) e z' (ints r) e' i _) ?_)
  by_cases hi : i < r.length
  · have hi' : ¬ (r.length : Int) ≤ i := by omega
    cases ha : arOf g (gi r i) with
    | none => simp [-getElem?_pos, ints_len, hi', Go.Ab.ints_at hi, w_args hg, ha, skV, skB, lenN_no hi (Nat.le_refl 1) ha]
    | some k =>
      have hk := arOf_le hg ha
      have hw1 : IntKind.wrap .i64 ((k : Int) - 1) = (k : Int) - 1 := wr _ (by omega) (by omega)
      have hw2 : IntKind.wrap .i64 (1 + ((k : Int) - 1)) = (k : Int) := by rw [wr _ (by omega) (by omega)]; omega
      have hw3 := wr1 hi (by omega)
      by_cases hn : 0 < k
      · obtain ⟨o, h1, rfl⟩ := l_skip hg z z' e e' hr (i + 1, k) ⟨hn, by dsimp only; omega, hi⟩
        have hl := lenN_go hi (Nat.le_refl 1) ha
        rw [show 1 + k - 1 = k by omega] at hl
        have e1 : skV g r i 1 = skV g r (i + 1) k := by
          simp only [skV, hl]
          cases lenN g (r.drop (i + 1)) k <;> simp; omega
        have e2 : skB g r i 1 = skB g r (i + 1) k := by simp [skB, hl]
        simp [-getElem?_pos, -Int.natCast_add, ints_len, hi', Go.Ab.ints_at hi, w_args hg, ha, arV, hw1, hw2, hw3, hn, h1, e1, e2]
      · have hz : k = 0 := by omega
        subst hz
        have hl : lenN g (r.drop i) 1 = some 1 := by rw [lenN_go hi (Nat.le_refl 1) ha]; simp [lenN]
        have hw0 : IntKind.wrap .i64 (-1) = -1 := wr _ (by omega) (by omega)
        have hw4 : IntKind.wrap .i64 0 = 0 := wr _ (by omega) (by omega)
        simp [-getElem?_pos, -Int.natCast_add, ints_len, hi', Go.Ab.ints_at hi, w_args hg, ha, arV, hw0, hw4, hw3, skV, skB, hl]
  · have hi' : (r.length : Int) ≤ i := by omega
    simp [ints_len, hi', skV, skB, lenN_end hi (Nat.le_refl 1)]
theorem l_begins {g : List Sym} (hg : sigB g = true) (z z' : Bool) (e e' : List D) {r : List Int} (hr : r.length ≤ 48) : ∀ x : List Int × Nat, (x.1.length ≤ x.2 ∧ x.2 ≤ r.length ∧ x.1 ≠ []) →
    ∃ o, evG (JW F d28 []) d28 [1, 0] 0 [(0, iG z g e), (1, iS z' r e'), (6, .own false 3 1 (ints x.1)), (7, iI x.2)] = some o ∧
      match parts g (r.drop x.2) with | some ts => o = .ret [(4, .own false 3 1 (ints (x.1 ++ begs x.2 ts))), (5, iB true)] | none => o = .ret [(4, .own true 3 1 []), (5, iB false)] :=
  label_rule (F := F) (d := d28) (lk := []) (p := [1, 0]) (fun _ => 0) (fun (x : List Int × Nat) => [(0, iG z g e), (1, iS z' r e'), (6, .own false 3 1 (ints x.1)), (7, iI x.2)]) _ (fun x => r.length - x.2) (fun x o => match parts g (r.drop x.2) with | some ts => o = .ret [(4, .own false 3 1 (ints (x.1 ++ begs x.2 ts))), (5, iB true)] | none => o = .ret [(4, .own true 3 1 []), (5, iB false)]) (fun _ _ => by decide +kernel) (fun x hx => by
    obtain ⟨acc, i⟩ := x
    obtain ⟨h1, h2, h3⟩ := hx
    dsimp only at h1 h2 h3 ⊢
    by_cases hi : i = r.length
    · refine .inr ⟨.ret [(4, .own false 3 1 (ints acc)), (5, iB true)], wpR_way (q28_l1000000a _ _ z (syms g) e z' (ints r) e' false (ints acc) i _) ?_, rfl, ?_⟩
      · simp [ints_len, hi]
      · rw [List.drop_of_length_le (by omega), parts_nil]; simp [begs]
    · have hne : r.drop i ≠ [] := by simp; omega
      have hsk := w_skip (sigOk hg) z z' e e' (r := r) (by omega) i
      have hi' : ¬ ((i : Int) = r.length) := by omega
      cases hl : lenN g (r.drop i) 1 with
      | none =>
        refine .inr ⟨.ret [(4, .own true 3 1 []), (5, iB false)], wpR_way (q28_l1000000a _ _ z (syms g) e z' (ints r) e' false (ints acc) i _) ?_, rfl, ?_⟩
        · simp [ints_len, hi', hsk, skV, skB, hl]
        · rw [parts_none hne hl]
      | some k =>
        have hle := lenN_le hl
        simp at hle
        refine .inl ⟨(acc ++ [(i : Int)], i + k), wpR_way (q28_l1000000a _ _ z (syms g) e z' (ints r) e' false (ints acc) i _) ?_, ⟨by simp; omega, by dsimp only; omega, by simp⟩, by dsimp only; omega, fun o ho => ?_⟩
        · simp [ints_len, hi', hsk, skV, skB, hl, ints_append, ints_cons, ints_nil]
          omega
        · rw [parts_some hne hl]
          rw [List.drop_drop]
          dsimp only at ho
          cases hp : parts g (r.drop (i + k)) with
          | none => rw [hp] at ho; exact ho
          | some ts =>
            rw [hp] at ho
            simp only [Option.map_some] at ho ⊢
            rw [ho]
            simp [begs, List.length_take]
            rw [show min k (r.length - i) = k by omega])
theorem w_begins (z z' : Bool) (g : List Sym) (e e' : List D) (r : List Int) : C 28 [iG z g e, iS z' r e'] = some (.tup [.own (begsM g r).isEmpty 3 1 (ints (begsM g r)), iB (rowB g r)], [iG z g e, iS z' r e']) := by
  refine wfn (lk := []) rfl rfl (fnW_way (q28 _ _ z (syms g) e z' (ints r) e' _) ?_)
  have hm := w_may z g e
  cases hg : sigB g
  · simp [hm, hg, begsM, rowB, ints_nil]
  by_cases hr : r.length ≤ 48
  rotate_left
  · have e1 : 48 < (r.length : Int) := by omega
    simp [hm, hg, begsM, rowB, ints_nil, rowP, hr, e1, ints_len]
  have e1 : ¬ 48 < (r.length : Int) := by omega
  by_cases h0 : r = []
  · subst h0
    simp [hm, hg, begsM, rowB, ints_nil, rowP, parts_nil, begs]
  have h0' : ¬ r.length = 0 := fun e => h0 (List.length_eq_zero_iff.1 e)
  have h0'' : ¬ ((0 : Int) = r.length) := by omega
  have hsk : C 39 [iG z g e, iS z' r e', iI 0] = some (.tup [iI (skV g r 0 1), iB (skB g r 0 1)], [iG z g e, iS z' r e', iI 0]) := w_skip (sigOk hg) z z' e e' (r := r) (by omega) 0
  cases hl : lenN g r 1 with
  | none =>
    simp [hm, hg, begsM, rowB, ints_nil, rowP, hr, e1, ints_len, h0'', hsk, skV, skB, hl, parts_none h0 hl]
  | some k =>
    have hle := lenN_le hl
    obtain ⟨o, h1, h2⟩ := l_begins hg z z' e e' hr ([0], k) ⟨by simp; omega, hle.1, by simp⟩
    dsimp only at h2
    simp only [ints_cons, ints_nil] at h1
    have hp := parts_some h0 hl
    cases hq : parts g (r.drop k) with
    | none =>
      rw [hq] at h2 hp
      subst h2
      simp [hm, hg, begsM, rowB, ints_nil, rowP, hr, e1, ints_len, h0'', hsk, skV, skB, hl, hp, h1]
    | some ts =>
      rw [hq] at h2 hp
      subst h2
      simp [hm, hg, begsM, rowB, ints_nil, rowP, hr, e1, ints_len, h0'', hsk, skV, skB, hl, hp, h1, begs, Nat.min_eq_left hle.1]
end Go.Proofs.YtgoccciejigpeaaDoor.Ab

/- Rows of terms, atoms: what the reference's functions hand back. For every input; no condition. -/
set_option linter.unusedVariables false
set_option linter.unusedSimpArgs false
set_option maxRecDepth 100000
namespace Go.Proofs.YtgoccciejigpeaaDoor.Ab
open Go Go.Ab Go.Qu Go.Proofs
attribute [local simp] and_assoc
theorem l_rend {g : List Sym} (hg : SigOk g) (z z' : Bool) (e e' : List D) {r : List Int} (hr : r.length < 20000000000000) (x : Nat × Nat) (hx : x.1 ≤ r.length ∧ x.2 ≤ 3 * x.1 + 1) :
    evP F (Go.Ab.W F) (JW F d31 []) d31 [] [1,1,0] [(0, iG z g e), (1, iS z' r e'), (7, iI x.2), (8, iI x.1)] = some (match lenN g (r.drop x.1) x.2 with | some k => .norm [(0, iG z g e), (1, iS z' r e'), (7, iI 0), (8, iI (x.1 + k : Nat))] | none => .ret [(6, iI (-1))]) :=
  blk_fun (F := F) (d := d31) (lk := []) (p := [1,1,0,0,0]) (p0 := [1,1,0]) (id := 0) (by kernel_rfl) (st := fun (x : Nat × Nat) => [(0, iG z g e), (1, iS z' r e'), (7, iI x.2), (8, iI x.1)]) (I := fun x => x.1 ≤ r.length ∧ x.2 ≤ 3 * x.1 + 1) (μ := fun x => r.length - x.1)
    (res := fun x => match lenN g (r.drop x.1) x.2 with | some k => .norm [(0, iG z g e), (1, iS z' r e'), (7, iI 0), (8, iI (x.1 + k : Nat))] | none => .ret [(6, iI (-1))])
    (fun x hx => by
      obtain ⟨i, n⟩ := x
      obtain ⟨h1, h2⟩ := hx
      dsimp only at h1 h2
      by_cases hn : n = 0
      · subst hn
        refine .stop (.exit 0 [(0, iG z g e), (1, iS z' r e'), (7, iI 0), (8, iI i)]) (wpQ_way (q31_l0a _ _ z (syms g) e z' (ints r) e' 0 i _) (by simp)) rfl ?_
        dsimp only
        cases r.drop i <;> simp [lenN, blkO]
      have hn1 : 1 ≤ n := by omega
      have hn2 : 0 < n := by omega
      by_cases hi : i < r.length
      rotate_left
      · have hi' : (r.length : Int) ≤ i := by omega
        refine .stop (.ret [(6, iI (-1))]) (wpQ_way (q31_l0a _ _ z (syms g) e z' (ints r) e' n i _) (by simp [hn2, ints_len, hi', hn])) rfl ?_
        dsimp only
        rw [lenN_end hi hn1]; rfl
      have hi' : ¬ (r.length : Int) ≤ i := by omega
      have hw0 : IntKind.wrap .i64 ((n : Int) - 1) = ((n : Int) - 1) := wr _ (by omega) (by omega)
      have hw3 := wr1 hi (by omega)
      have fin : ∀ {k : Nat}, arOf g (gi r i) = some k → (match lenN g (r.drop (i + 1)) (n + k - 1) with | some k => Out.norm [(0, iG z g e), (1, iS z' r e'), (7, iI 0), (8, iI (i + 1 + k : Nat))] | none => .ret [(6, iI (-1))]) = (match lenN g (r.drop i) n with | some k => Out.norm [(0, iG z g e), (1, iS z' r e'), (7, iI 0), (8, iI (i + k : Nat))] | none => .ret [(6, iI (-1))]) := fun {k} ha => by
        rw [lenN_go hi hn1 ha]
        cases lenN g (r.drop (i + 1)) (n + k - 1) <;> simp; omega
      by_cases h0 : gi r i < 0
      · have c1 : ¬ 0 ≤ gi r i := by omega
        have c3 : ¬ (g.length : Int) ≤ gi r i := by omega
        by_cases h3 : -24 ≤ gi r i
        · have c2 : ¬ gi r i < -24 := by omega
          have ha : arOf g (gi r i) = some 0 := by simp [arOf, h0, h3]
          have hcast : (n : Int) - 1 = ((n + 0 - 1 : Nat) : Int) := by omega
          refine .go (i + 1, n + 0 - 1) (wpQ_way (q31_l0a _ _ z (syms g) e z' (ints r) e' n i _) ?_) ⟨by dsimp only; omega, by dsimp only; omega⟩ (by dsimp only; omega) (fin ha)
          simp [-getElem?_pos, -Int.natCast_add, hn2, ints_len, hi', Go.Ab.ints_at hi, c1, c2, c3, hw0, hw3, syms_len]; omega
        · have c2 : gi r i < -24 := by omega
          refine .stop (.ret [(6, iI (-1))]) (wpQ_way (q31_l0a _ _ z (syms g) e z' (ints r) e' n i _) ?_) rfl (by dsimp only; rw [lenN_no hi hn1 (by simp [arOf, h0, h3])]; rfl)
          simp [-getElem?_pos, hn2, ints_len, hi', Go.Ab.ints_at hi, c2, h3]
      have c1 : 0 ≤ gi r i := by omega
      have c2 : ¬ gi r i < -24 := by omega
      by_cases h4 : gi r i < g.length
      · obtain ⟨s, hs⟩ := at_lt (l := g) (i := (gi r i).toNat) (by omega)
        have hnn := hg.nums _ _ hs
        have c3 : ¬ (g.length : Int) ≤ gi r i := by omega
        by_cases hk : s.kind = 0
        · refine .stop (.ret [(6, iI (-1))]) (wpQ_way (q31_l0a _ _ z (syms g) e z' (ints r) e' n i _) ?_) rfl (by dsimp only; rw [lenN_no hi hn1 (by simp [arOf, h0, hs, hk])]; rfl)
          simp [-getElem?_pos, hn2, ints_len, hi', Go.Ab.ints_at hi, c1, c2, c3, syms_len, syms_at hs, hk]
        · have hw1 : IntKind.wrap .i64 ((n : Int) - 1 + s.ar) = ((n + s.ar.toNat - 1 : Nat) : Int) := by rw [wr _ (by omega) (by omega)]; omega
          have ha : arOf g (gi r i) = some s.ar.toNat := by simp [arOf, h0, hs, hk]
          refine .go (i + 1, n + s.ar.toNat - 1) (wpQ_way (q31_l0a _ _ z (syms g) e z' (ints r) e' n i _) ?_) ⟨by dsimp only; omega, by dsimp only; omega⟩ (by dsimp only; omega) (fin ha)
          simp [-getElem?_pos, -Int.natCast_add, hn2, ints_len, hi', Go.Ab.ints_at hi, c1, c2, c3, syms_len, syms_at hs, hk, hw0, hw1, hw3]
          omega
      · have hs : g[(gi r i).toNat]? = none := List.getElem?_eq_none (by omega)
        have c3 : (g.length : Int) ≤ gi r i := by omega
        refine .stop (.ret [(6, iI (-1))]) (wpQ_way (q31_l0a _ _ z (syms g) e z' (ints r) e' n i _) ?_) rfl (by dsimp only; rw [lenN_no hi hn1 (by simp [arOf, h0, hs])]; rfl)
        simp [-getElem?_pos, hn2, ints_len, hi', Go.Ab.ints_at hi, c1, c2, c3, syms_len]) x hx
theorem w_rend {g : List Sym} (hg : SigOk g) (z z' : Bool) (e e' : List D) {r : List Int} (hr : r.length < 20000000000000) (i : Nat) (hi0 : i ≤ r.length) : C 31 [iG z g e, iS z' r e', iI i] = some (iI (skR g r i 1), [iG z g e, iS z' r e', iI i]) := by
  refine wfn (lk := []) rfl rfl (fnW_way (q31 _ _ z (syms g) e z' (ints r) e' i _) ?_)
  have h1 : evP F (Go.Ab.W F) (JW F d31 []) d31 [] [1,1,0] [(0, iG z g e), (1, iS z' r e'), (7, iI 1), (8, iI i)] = _ := l_rend hg z z' e e' hr (i, 1) ⟨hi0, by dsimp only; omega⟩
  cases hl : lenN g (r.drop i) 1 with
  | none => simp only [hl] at h1; simp [h1, skR, hl]
  | some k => simp only [hl] at h1; simp [h1, skR, hl]
/-- How many terms; -1: it is no row of terms. -/
theorem l_rterms {g : List Sym} (hg : SigOk g) (z z' : Bool) (e e' : List D) {r : List Int} (hr : r.length < 20000000000000) (x : Nat × Nat) (hx : x.2 ≤ r.length ∧ x.1 ≤ x.2) :
    evP F (Go.Ab.W F) (JW F d19 []) d19 [] [1,1,1,0] [(0, iG z g e), (1, iS z' r e'), (5, iI x.1), (6, iI x.2)] = some (match parts g (r.drop x.2) with | some ts => .norm [(0, iG z g e), (1, iS z' r e'), (5, iI (x.1 + ts.length : Nat)), (6, iI r.length)] | none => .ret [(4, iI (-1))]) :=
  blk_fun (F := F) (d := d19) (lk := []) (p := [1,1,1,0,0,0]) (p0 := [1,1,1,0]) (id := 0) (by kernel_rfl) (st := fun (x : Nat × Nat) => [(0, iG z g e), (1, iS z' r e'), (5, iI x.1), (6, iI x.2)]) (I := fun x => x.2 ≤ r.length ∧ x.1 ≤ x.2) (μ := fun x => r.length - x.2)
    (res := fun x => match parts g (r.drop x.2) with | some ts => .norm [(0, iG z g e), (1, iS z' r e'), (5, iI (x.1 + ts.length : Nat)), (6, iI r.length)] | none => .ret [(4, iI (-1))])
    (fun x hx => by
      obtain ⟨n, i⟩ := x
      obtain ⟨h1, h2⟩ := hx
      dsimp only at h1 h2
      by_cases hi : i < r.length
      · have hi' : (i : Int) < r.length := by omega
        have hne : r.drop i ≠ [] := by simp; omega
        have he := w_rend hg z z' e e' hr i h1
        have hw : IntKind.wrap .i64 ((n : Int) + 1) = ((n + 1 : Nat) : Int) := by rw [wr _ (by omega) (by omega)]; omega
        cases hl : lenN g (r.drop i) 1 with
        | none =>
          refine .stop (.ret [(4, iI (-1))]) (wpQ_way (q19_l0a _ _ z (syms g) e z' (ints r) e' n i _) ?_) rfl (by dsimp only; rw [parts_none hne hl]; rfl)
          simp [ints_len, hi, he, skR, hl]
        | some k =>
          have hle := lenN_le hl
          simp at hle
          refine .go (n + 1, i + k) (wpQ_way (q19_l0a _ _ z (syms g) e z' (ints r) e' n i _) ?_) ⟨by dsimp only; omega, by dsimp only; omega⟩ (by dsimp only; omega) ?_
          · simp [-Int.natCast_add, ints_len, hi, he, skR, hl, hw]
          · dsimp only
            rw [parts_some hne hl, List.drop_drop]
            cases parts g (r.drop (i + k)) <;> simp; omega
      · have hir : i = r.length := by omega
        refine .stop (.exit 0 [(0, iG z g e), (1, iS z' r e'), (5, iI n), (6, iI i)]) (wpQ_way (q19_l0a _ _ z (syms g) e z' (ints r) e' n i _) ?_) rfl ?_
        · simp [ints_len, hir]
        · dsimp only
          rw [List.drop_of_length_le (by omega), parts_nil]; simp [blkO, hir]) x hx
def termsM (g : List Sym) (r : List Int) : Int := match rowP g r with | some ts => (ts.length : Int) | none => -1
theorem w_rterms {g : List Sym} (hg : SigOk g) (z z' : Bool) (e e' : List D) (r : List Int) : C 19 [iG z g e, iS z' r e'] = some (iI (termsM g r), [iG z g e, iS z' r e']) := by
  refine wfn (lk := []) rfl rfl (fnW_way (q19 _ _ z (syms g) e z' (ints r) e' _) ?_)
  by_cases hr : r.length ≤ 48
  · have e1 : ¬ 48 < (r.length : Int) := by omega
    have h1 : evP F (Go.Ab.W F) (JW F d19 []) d19 [] [1,1,1,0] [(0, iG z g e), (1, iS z' r e'), (5, iI 0), (6, iI 0)] = some (match parts g r with | some ts => .norm [(0, iG z g e), (1, iS z' r e'), (5, iI (0 + ts.length : Nat)), (6, iI r.length)] | none => .ret [(4, iI (-1))]) := l_rterms hg z z' e e' (r := r) (by omega) (0, 0) ⟨Nat.zero_le _, Nat.le_refl _⟩
    cases hp : parts g r with
    | none => simp only [hp] at h1; simp [ints_len, e1, h1, termsM, rowP, hr, hp]
    | some ts => simp only [hp] at h1; simp [ints_len, e1, h1, termsM, rowP, hr, hp]
  · have e1 : 48 < (r.length : Int) := by omega
    simp [ints_len, e1, termsM, rowP, hr]
end Go.Proofs.YtgoccciejigpeaaDoor.Ab

/- Rows of numbers: the same, copied, their least, their variables. For every input; no condition. -/
set_option linter.unusedVariables false
set_option linter.unusedSimpArgs false
set_option maxRecDepth 100000
namespace Go.Proofs.YtgoccciejigpeaaDoor.Ab
open Go Go.Ab Go.Qu Go.Proofs
attribute [local simp] and_assoc
@[simp] theorem w_num (c : Int) : C 11 [iI c] = some (iI c, [iI c]) :=
  wfn (lk := []) rfl rfl (fnW_way (q11 _ _ c _) (by simp))
theorem w_sameints {a : List Int} (ha : Len a) (b : List Int) (z z' : Bool) (e e' : List D) : C 10 [iS z a e, iS z' b e'] = some (iB (decide (a = b)), [iS z a e, iS z' b e']) := by
  refine wfn (lk := []) rfl rfl (fnW_way (q10 _ _ z (ints a) e z' (ints b) e' _) ?_)
  have hal := ha.lt
  by_cases hl : a.length = b.length
  rotate_left
  · have e1 : ¬ (a.length : Int) = b.length := by omega
    have e2 : ¬ a = b := fun h => hl (by rw [h])
    simp [ints_len, e1, e2]
  rcases blk_all (F := F) (d := d10) (lk := []) (p := [1,1,0,1,0,0]) (p0 := [1,1,0,1]) (by kernel_rfl) (n := a.length) (id := 0) (st := fun i => [(0, iS z a e), (1, iS z' b e'), (5, iI i)]) (q := fun i => gi a i == gi b i) (rt := [(4, iB false)]) (e := [(0, iS z a e), (1, iS z' b e'), (5, iI a.length)])
    (fun i hi hq => wpQ_way (q10_l0a _ _ z (ints a) e z' (ints b) e' i _) (by simp at hq; simp [-getElem?_pos, ints_len, wr1 hi (by omega), hi, Go.Ab.ints_at hi, Go.Ab.ints_at (hl ▸ hi), hq]))
    (fun i hi hq => wpQ_way (q10_l0a _ _ z (ints a) e z' (ints b) e' i _) (by simp at hq; simp [-getElem?_pos, ints_len, hi, Go.Ab.ints_at hi, Go.Ab.ints_at (hl ▸ hi), hq]))
    (wpQ_way (q10_l0a _ _ z (ints a) e z' (ints b) e' a.length _) (by simp [ints_len])) 0 (Nat.zero_le _) with ⟨h2, h3⟩ | ⟨⟨j, h2, h4, h5⟩, h3⟩
  · have hab : a = b := ints_ext hl (fun i hi => by simpa using h2 i (Nat.zero_le _) hi)
    simp at h3
    simp [-Bool.exists_bool, ints_len, hab]
    rw [hab] at h3
    simp [-Bool.exists_bool, h3]
  · have hab : ¬ a = b := fun h => by rw [h] at h5; simp at h5
    simp at h3
    simp [ints_len, hl, hab]
    simp [h3]
theorem w_copyints {a : List Int} (ha : Len a) (z : Bool) (e : List D) : C 16 [iS z a e] = some (.own false 3 1 (ints a), [iS z a e]) := by
  unfold Len at ha
  refine wfn (lk := []) rfl rfl (fnW_way (q16 _ _ z (ints a) e _) ?_)
  simp [ints_len]
  omega
/-- Rows that are new. -/
def fresh (r : Row) : Row := ⟨false, r.l, []⟩
end Go.Proofs.YtgoccciejigpeaaDoor.Ab

/- Tables of facts: what may be one, where a fact stands. Plain lists; no condition. -/
set_option linter.unusedVariables false
set_option linter.unusedSimpArgs false
namespace Go.Qu
open Go Go.Ab

def hashF (h : Int) : List Int → Int
  | [] => h
  | c :: a => hashF ((h * 31 + c + 1) % 1009) a
def hashM (a : List Int) : Int := hashF 7 a
theorem hashF_lt : ∀ (a : List Int) (h : Int), 0 ≤ h → h < 1009 → 0 ≤ hashF h a ∧ hashF h a < 1009
  | [], h, h1, h2 => ⟨h1, h2⟩
  | c :: a, h, h1, h2 => hashF_lt a _ (Int.emod_nonneg _ (by omega)) (Int.emod_lt_of_pos _ (by omega))
theorem hashM_lt (a : List Int) : 0 ≤ hashM a ∧ hashM a < 1009 := hashF_lt a 7 (by omega) (by omega)
/-- Codes that are none of variables, and not great. -/
def Small (a : List Int) : Prop := ∀ c ∈ a, 0 ≤ c ∧ c ≤ 1000000
def factB (g : List Sym) (a : List Int) : Bool := sigB g && (atomB g a && a.all fun c => decide (0 ≤ c))
theorem gi_mem {a : List Int} {i : Nat} (h : i < a.length) : gi a i ∈ a := by
  simp only [gi, List.getD_eq_getElem?_getD, List.getElem?_eq_getElem h, Option.getD_some]; exact List.getElem_mem h
theorem lenN_codes {g : List Sym} : ∀ {r : List Int} {n k : Nat}, lenN g r n = some k → ∀ c ∈ r.take k, (arOf g c).isSome = true
  | r, 0, k, h, c, hc => by cases r <;> (simp [lenN] at h; subst h; simp at hc)
  | [], n + 1, k, h, c, hc => by simp [lenN] at h
  | x :: r, n + 1, k, h, c, hc => by
    unfold lenN at h
    split at h
    · cases h
    · rename_i a ha
      obtain ⟨m, hm, rfl⟩ := Option.map_eq_some_iff.1 h
      rw [List.take_succ_cons] at hc
      rcases List.mem_cons.1 hc with rfl | hc
      · rw [ha]; rfl
      · exact lenN_codes hm c hc
theorem parts_codes {g : List Sym} : ∀ (n : Nat) (r : List Int) {ts : List (List Int)}, r.length ≤ n → parts g r = some ts → ∀ c ∈ r, (arOf g c).isSome = true
  | n, [], ts, hn, h, c, hc => by simp at hc
  | 0, x :: r, ts, hn, h, c, hc => by simp at hn
  | n + 1, x :: r, ts, hn, h, c, hc => by
    cases hl : lenN g (x :: r) 1 with
    | none => rw [parts_none (by simp) hl] at h; cases h
    | some k =>
      rw [parts_some (by simp) hl] at h
      obtain ⟨us, h1, rfl⟩ := Option.map_eq_some_iff.1 h
      have h2 := lenN_le hl
      have hsplit : c ∈ (x :: r).take k ∨ c ∈ (x :: r).drop k := by
        rw [← List.mem_append, List.take_append_drop]; exact hc
      rcases hsplit with hc | hc
      · exact lenN_codes hl c hc
      · exact parts_codes n _ (by simp at hn ⊢; omega) h1 c hc
theorem arOf_lt {g : List Sym} {c : Int} (h : (arOf g c).isSome = true) : -24 ≤ c ∧ c < g.length := by
  unfold arOf at h
  split at h
  · split at h
    · omega
    · cases h
  · split at h
    · cases h
    · rename_i s hs
      have := lt_at hs
      omega
/-- The codes of an atom. -/
theorem atom_codes {g : List Sym} {a : List Int} (h : atomB g a = true) : a.length ≤ 49 ∧ (∀ c ∈ a, -24 ≤ c ∧ c < g.length) ∧ g.length ≤ 20 := by
  cases a with
  | nil => simp [atomB] at h
  | cons p r =>
    simp only [atomB] at h
    split at h
    · cases h
    · rename_i hp
      split at h
      · cases h
      · rename_i s hs
        simp only [Bool.and_eq_true] at h
        obtain ⟨⟨h1, h2⟩, h3⟩ := h
        have hl := lt_at hs
        have hg := sigOk h2
        unfold rowP at h3
        by_cases hr : r.length ≤ 48
        · rw [if_pos hr] at h3
          cases hps : parts g r with
          | none => rw [hps] at h3; cases h3
          | some ts =>
            refine ⟨by simp; omega, fun c hc => ?_, hg.hi⟩
            rcases List.mem_cons.1 hc with rfl | hc
            · omega
            · exact arOf_lt (parts_codes _ r (Nat.le_refl _) hps c hc)
        · rw [if_neg hr] at h3; cases h3
theorem fact_small {g : List Sym} {a : List Int} (h : factB g a = true) : Small a ∧ Len a := by
  simp only [factB, Bool.and_eq_true, List.all_eq_true, decide_eq_true_eq] at h
  obtain ⟨h1, h2, h3⟩ := h
  have h4 := atom_codes h2
  exact ⟨fun c hc => ⟨h3 c hc, by have := (h4.2.1 c hc).2; omega⟩, by unfold Len; omega⟩
theorem varsFrom_nil (a : List Int) : ∀ (k v : Nat), varsFrom a k v = [] ↔ ∀ j, v ≤ j → j < v + k → ¬ (-1 - (j : Int)) ∈ a
  | 0, v => by simp [varsFrom]; intro j; omega
  | k + 1, v => by
    unfold varsFrom
    cases hc : a.contains (-1 - (v : Int)) with
    | true =>
      rw [List.contains_eq_mem, decide_eq_true_iff] at hc
      simp only [if_true]
      constructor
      · intro h; cases h
      · intro h; exact absurd hc (h v (Nat.le_refl _) (by omega))
    | false =>
      rw [List.contains_eq_mem, decide_eq_false_iff_not] at hc
      simp only [Bool.false_eq_true, if_false]
      rw [varsFrom_nil a k (v + 1)]
      constructor
      · intro h j h1 h2
        by_cases hj : j = v
        · subst hj; exact hc
        · exact h j (by omega) (by omega)
      · intro h j h1 h2
        exact h j (by omega) (by omega)
theorem vars_none {g : List Sym} {a : List Int} (h : atomB g a = true) : ((varsM a).length = 0) ↔ a.all (fun c => decide (0 ≤ c)) = true := by
  have h4 := atom_codes h
  rw [List.length_eq_zero_iff, varsM, varsFrom_nil]
  simp only [List.all_eq_true, decide_eq_true_eq]
  constructor
  · intro h5 c hc
    have h6 := h4.2.1 c hc
    by_cases h7 : 0 ≤ c
    · exact h7
    · have := h5 (-1 - c).toNat (Nat.zero_le _) (by omega)
      rw [show (-1 - (((-1 - c).toNat : Nat) : Int)) = c by omega] at this
      exact absurd hc this
  · intro h5 j _ hj hm
    have := h5 _ hm
    omega
/-! ### Where a fact stands -/
def probe (h k : Nat) : Nat := (h + k) % 32
def slotF (sl : List Int) (fs : List (List Int)) (a : List Int) (h : Nat) : Nat → Nat → Int
  | 0, _ => -1
  | n + 1, k => if gi sl (probe h k) = -1 then -1 else if 0 ≤ gi sl (probe h k) ∧ fs[(gi sl (probe h k)).toNat]? = some a then (probe h k : Int) else slotF sl fs a h n (k + 1)
def slotM (sl : List Int) (fs : List (List Int)) (a : List Int) : Int := slotF sl fs a (hashM a).toNat 32 0
/-- Slots that fit so many facts. -/
def slotsF (n : Nat) : List Int → List Bool → Nat → Bool
  | [], _, k => k == n
  | x :: r, seen, k => if x = -1 ∨ x = -2 then slotsF n r seen k else if x < 0 ∨ (n : Int) ≤ x ∨ seen[x.toNat]? = some true then false else slotsF n r (seen.set x.toNat true) (k + 1)
def slotsB (sl : List Int) (n : Nat) : Bool := slotsF n sl (List.replicate n false) 0
def tblB (g : List Sym) (sl : List Int) (fs : List (List Int)) : Bool :=
  sigB g && (decide (sl.length = 32) && (decide (fs.length ≤ 24) && (slotsB sl fs.length && (fs.all (factB g) && (List.range fs.length).all fun i => match fs[i]? with | some a => decide (0 ≤ slotM sl fs a) && (gi sl (slotM sl fs a).toNat == (i : Int)) | none => true))))
/-! ### The reference's words -/
def whereF (a : List Int) : List (List Int) → Nat → Int
  | [], _ => -1
  | b :: fs, i => if b = a then (i : Int) else whereF a fs (i + 1)
def whereM (fs : List (List Int)) (a : List Int) : Int := whereF a fs 0
def lastF (x : Int) : List Int → Nat → Int → Int
  | [], _, at_ => at_
  | y :: sl, i, at_ => lastF x sl (i + 1) (if y = x then (i : Int) else at_)
def lastM (sl : List Int) (x : Int) : Int := lastF x sl 0 (-1)
/-- From a slot on: is none free ahead of another one? -/
def roadF (sl : List Int) (at_ : Nat) : Nat → Nat → Bool
  | 0, _ => true
  | n + 1, i => if i = at_ then true else if gi sl i = -1 then false else roadF sl at_ n ((i + 1) % 32)
def takenF : List Int → Nat → Nat
  | [], k => k
  | x :: sl, k => takenF sl (if 0 ≤ x then k + 1 else k)
def eachB (g : List Sym) (sl : List Int) (fs : List (List Int)) (k : Nat) : Bool := match fs[k]? with
  | some a => factB g a && ((whereM fs a == (k : Int)) && (decide (0 ≤ lastM sl k) && roadF sl (lastM sl k).toNat 32 ((hashM a).toNat % 32)))
  | none => true
def rtblB (g : List Sym) (sl : List Int) (fs : List (List Int)) : Bool :=
  sigB g && (decide (sl.length = 32) && (decide (fs.length ≤ 24) && (sl.all (fun x => decide (-2 ≤ x) && decide (x < fs.length)) && ((takenF sl 0 == fs.length) && (List.range fs.length).all (eachB g sl fs)))))

/-! ### For the walks -/
abbrev iT (zs : Bool) (sl : List Int) (es : List D) (zf : Bool) (fs : List Row) (ef : List D) : IV := .d (.agg [.sl 1 zs (ints sl) es, .sl 1 zf (rws fs) ef])
def fl (fs : List Row) : List (List Int) := fs.map (·.l)
theorem fl_len (fs : List Row) : (fl fs).length = fs.length := by simp [fl]
theorem fl_at {fs : List Row} {i : Nat} {r : Row} (h : fs[i]? = some r) : (fl fs)[i]? = some r.l := by simp [fl, h]
def bls (l : List Bool) : List D := l.map D.bool
theorem bls_len (l : List Bool) : (bls l).length = l.length := by simp [bls]
theorem bls_at {l : List Bool} {i : Nat} {b : Bool} (h : l[i]? = some b) : (bls l)[i]? = some (.bool b) := by simp [bls, h]
theorem bls_set (l : List Bool) (i : Nat) (b : Bool) : (bls l).set i (.bool b) = bls (l.set i b) := by simp [bls, List.map_set]
theorem bls_rep (n : Nat) : List.replicate n (D.bool false) = bls (List.replicate n false) := by simp [bls]
theorem slotF_lt (sl : List Int) (fs : List (List Int)) (a : List Int) (h : Nat) : ∀ n k, slotF sl fs a h n k = -1 ∨ (0 ≤ slotF sl fs a h n k ∧ slotF sl fs a h n k < 32)
  | 0, k => .inl rfl
  | n + 1, k => by
    unfold slotF
    split
    · exact .inl rfl
    · split
      · right; unfold probe; omega
      · exact slotF_lt sl fs a h n (k + 1)
theorem slotM_lt (sl : List Int) (fs : List (List Int)) (a : List Int) : slotM sl fs a = -1 ∨ (0 ≤ slotM sl fs a ∧ slotM sl fs a < 32) := slotF_lt sl fs a _ 32 0
theorem slotsF_lt {n : Nat} : ∀ {sl : List Int} {seen : List Bool} {k : Nat}, slotsF n sl seen k = true → ∀ x ∈ sl, -2 ≤ x ∧ x < n
  | [], seen, k, h, x, hx => by simp at hx
  | y :: sl, seen, k, h, x, hx => by
    unfold slotsF at h
    split at h
    · rcases List.mem_cons.1 hx with rfl | hx
      · omega
      · exact slotsF_lt h x hx
    · split at h
      · cases h
      · rcases List.mem_cons.1 hx with rfl | hx
        · omega
        · exact slotsF_lt h x hx
theorem lastF_lt (x : Int) : ∀ (sl : List Int) (i : Nat) (at_ : Int), lastF x sl i at_ = at_ ∨ ((i : Int) ≤ lastF x sl i at_ ∧ lastF x sl i at_ < i + sl.length)
  | [], i, at_ => .inl rfl
  | y :: sl, i, at_ => by
    unfold lastF
    rcases lastF_lt x sl (i + 1) (if y = x then (i : Int) else at_) with h | h
    · rw [h]
      split
      · right; simp; omega
      · exact .inl rfl
    · right; simp; omega
theorem lastM_lt (sl : List Int) (x : Int) : lastM sl x = -1 ∨ (0 ≤ lastM sl x ∧ lastM sl x < sl.length) := by
  have := lastF_lt x sl 0 (-1)
  unfold lastM
  rcases this with h | h
  · exact .inl h
  · right; simpa using h
theorem roadF_more (sl : List Int) {at_ : Nat} (ha : at_ < 32) : ∀ (n i : Nat), i < 32 → (at_ + 32 - i) % 32 < n → roadF sl at_ n i = roadF sl at_ (n + 1) i
  | 0, i, hi, h => by omega
  | n + 1, i, hi, h => by
    by_cases he : i = at_
    · simp [roadF, he]
    · by_cases hf : gi sl i = -1
      · simp [roadF, he, hf]
      · have := roadF_more sl ha n ((i + 1) % 32) (Nat.mod_lt _ (by omega)) (by omega)
        rw [roadF, if_neg he, if_neg hf, this]
        conv => rhs; rw [roadF, if_neg he, if_neg hf]
theorem roadF_go (sl : List Int) {at_ i : Nat} (ha : at_ < 32) (hi : i < 32) (he : i ≠ at_) (hf : gi sl i ≠ -1) : roadF sl at_ 32 ((i + 1) % 32) = roadF sl at_ 32 i := by
  rw [← roadF_more sl ha 31 ((i + 1) % 32) (Nat.mod_lt _ (by omega)) (by omega)]
  conv => rhs; rw [roadF, if_neg he, if_neg hf]
end Go.Qu

/- Literals, clauses: what may be, what they weigh. Plain lists; no condition. -/
set_option linter.unusedVariables false
set_option linter.unusedSimpArgs false
namespace Go.Qu
open Go Go.Ab

structure LitR where
  neg : Bool
  r : Row
def LitR.d (l : LitR) : D := .agg [.bool l.neg, .sl 1 l.r.z (ints l.r.l) l.r.e]
def lits (ls : List LitR) : List D := ls.map LitR.d
abbrev iL (z : Bool) (ls : List LitR) (e : List D) : IV := .d (.sl 2 z (lits ls) e)
abbrev iLit (b : Bool) (z : Bool) (l : List Int) (e : List D) : IV := .d (.agg [.bool b, .sl 1 z (ints l) e])
theorem lits_len (l : List LitR) : (lits l).length = l.length := by simp [lits]
theorem lits_at {l : List LitR} {i : Nat} {s : LitR} (h : l[i]? = some s) : (lits l)[i]? = some (.agg [.bool s.neg, .sl 1 s.r.z (ints s.r.l) s.r.e]) := by simp [lits, h, LitR.d]
theorem lits_nil : lits [] = [] := rfl
theorem lits_cons (x : LitR) (l : List LitR) : lits (x :: l) = .agg [.bool x.neg, .sl 1 x.r.z (ints x.r.l) x.r.e] :: lits l := rfl
theorem lits_append (l m : List LitR) : lits (l ++ m) = lits l ++ lits m := by simp [lits]
/-- A clause as it lies in memory. -/
structure Cl where
  lz : Bool
  ls : List LitR
  le : List D
  tz : Bool
  ts : List Row
  te : List D
  cz : Bool
  cs : List LitR
  ce : List D
abbrev Cl.d (c : Cl) : D := .agg [.sl 2 c.lz (lits c.ls) c.le, .sl 1 c.tz (rws c.ts) c.te, .sl 2 c.cz (lits c.cs) c.ce]
abbrev iC (c : Cl) : IV := .d (.agg [.sl 2 c.lz (lits c.ls) c.le, .sl 1 c.tz (rws c.ts) c.te, .sl 2 c.cz (lits c.cs) c.ce])
/-! ### What may be -/
def litsB (g : List Sym) (ls : List LitR) : Bool := ls.all fun l => atomB g l.r.l
def lenL : List LitR → Nat
  | [] => 0
  | l :: ls => l.r.l.length + lenL ls
def lenR : List Row → Nat
  | [] => 0
  | r :: rs => r.l.length + lenR rs
def termsN (g : List Sym) (r : List Int) : Nat := (begsM g r).length
def rowsF (g : List Sym) (k : Nat) (ts : List Row) : Bool := ts.all fun r => rowB g r.l && (termsN g r.l == k)
def rowsB (g : List Sym) (ts : List Row) : Bool := match ts with
  | [] => true
  | r :: _ => rowsF g (termsN g r.l) ts
def clB (g : List Sym) (c : Cl) : Bool := sigB g && (decide (c.ls.length ≤ 5) && (decide (c.ts.length ≤ 3) && (decide (c.cs.length ≤ 3) && (litsB g c.ls && (rowsB g c.ts && (litsB g c.cs && decide (lenL c.ls + lenR c.ts + lenL c.cs ≤ 240)))))))
theorem lenL_le {g : List Sym} : ∀ {ls : List LitR}, litsB g ls = true → lenL ls ≤ 49 * ls.length
  | [], h => by simp [lenL]
  | l :: ls, h => by
    simp only [litsB, List.all_cons, Bool.and_eq_true] at h
    have h1 := (atom_codes h.1).1
    have h2 := lenL_le (ls := ls) h.2
    simp [lenL]; omega
theorem rowB_len {g : List Sym} {r : List Int} (h : rowB g r = true) : r.length ≤ 48 := by
  simp only [rowB, Bool.and_eq_true, rowP] at h
  by_cases h1 : r.length ≤ 48
  · exact h1
  · rw [if_neg h1] at h; simp at h
theorem lenR_le {g : List Sym} {k : Nat} : ∀ {ts : List Row}, rowsF g k ts = true → lenR ts ≤ 48 * ts.length
  | [], h => by simp [lenR]
  | r :: ts, h => by
    simp only [rowsF, List.all_cons, Bool.and_eq_true] at h
    have h1 := rowB_len h.1.1
    have h2 := lenR_le (ts := ts) (k := k) h.2
    simp [lenR]; omega
/-! ### What they weigh -/
def codeW (g : List Sym) (c : Int) : Int := if c < 0 then 1 else match g[c.toNat]? with | some s => s.wt | none => 0
def sumW (g : List Sym) : List Int → Int
  | [] => 0
  | c :: r => codeW g c + sumW g r
/-- Codes that a signature knows. -/
def Known (g : List Sym) (r : List Int) : Prop := ∀ c ∈ r, c < g.length
theorem atom_known {g : List Sym} {a : List Int} (h : atomB g a = true) : Known g a := fun c hc => ((atom_codes h).2.1 c hc).2
theorem codeW_le {g : List Sym} (hg : SigOk g) (c : Int) (h : c < g.length) : 1 ≤ codeW g c ∧ codeW g c ≤ 20 := by
  unfold codeW
  split
  · omega
  · obtain ⟨s, hs⟩ := at_lt (l := g) (i := c.toNat) (by omega)
    rw [hs]
    have := hg.nums _ _ hs
    dsimp only; omega
theorem sumW_le {g : List Sym} (hg : SigOk g) : ∀ (r : List Int), Known g r → (r.length : Int) ≤ sumW g r ∧ sumW g r ≤ 20 * r.length
  | [], h => by simp [sumW]
  | c :: r, h => by
    have h1 := codeW_le hg c (h c (by simp))
    have h2 := sumW_le hg r (fun x hx => h x (by simp [hx]))
    simp only [sumW, List.length_cons]; omega
/-- The parts of a clause's point. -/
def ptF (g : List Sym) : List LitR → Int → Int → Int × Int
  | [], a, b => (a, b)
  | l :: ls, a, b => if l.neg then ptF g ls a (if sumW g l.r.l > b then sumW g l.r.l else b) else ptF g ls (if sumW g l.r.l > a then sumW g l.r.l else a) b
def ptM (g : List Sym) (c : Cl) : Int × Int := ptF g c.ls 0 0
end Go.Qu

/- Rows of terms: how deep they are, which variables they have, what joining and cutting does. Plain lists, no program in sight; no condition. -/
set_option linter.unusedVariables false
set_option linter.unusedSimpArgs false
namespace Go.Qu
open Go Go.Ab
theorem lenN_cons {g : List Sym} {c : Int} {r : List Int} {n a : Nat} (ha : arOf g c = some a) : lenN g (c :: r) (n + 1) = (lenN g r (n + a)).map (· + 1) := by
  simp [lenN, ha]
theorem lenN_some {g : List Sym} {c : Int} {r : List Int} {n k : Nat} (h : lenN g (c :: r) (n + 1) = some k) : ∃ a m, arOf g c = some a ∧ lenN g r (n + a) = some m ∧ k = m + 1 := by
  unfold lenN at h
  split at h
  · cases h
  · rename_i a ha
    obtain ⟨m, hm, rfl⟩ := Option.map_eq_some_iff.1 h
    exact ⟨a, m, ha, hm, rfl⟩
theorem lenN_cut {g : List Sym} : ∀ {r : List Int} {n k : Nat}, lenN g r n = some k → ∀ j, j < k → lenN g (r.take j) n = none
  | r, 0, k, h, j, hj => by cases r <;> (simp [lenN] at h; omega)
  | [], n + 1, k, h, j, hj => by simp [lenN] at h
  | c :: r, n + 1, k, h, 0, hj => by simp [lenN]
  | c :: r, n + 1, k, h, j + 1, hj => by
    obtain ⟨a, m, ha, hm, rfl⟩ := lenN_some h
    rw [List.take_succ_cons, lenN_cons ha, lenN_cut hm j (by omega)]; rfl
theorem lenN_app {g : List Sym} : ∀ {r : List Int} {n k : Nat} (s : List Int), lenN g r n = some k → lenN g (r ++ s) n = some k
  | r, 0, k, s, h => by
    have e : k = 0 := by cases r <;> simp [lenN] at h <;> omega
    subst e
    cases r ++ s <;> simp [lenN]
  | [], n + 1, k, s, h => by simp [lenN] at h
  | c :: r, n + 1, k, s, h => by
    obtain ⟨a, m, ha, hm, rfl⟩ := lenN_some h
    rw [List.cons_append, lenN_cons ha, lenN_app s hm]; rfl
theorem lenN_take {g : List Sym} : ∀ {r : List Int} {n k : Nat}, lenN g r n = some k → lenN g (r.take k) n = some k
  | r, 0, k, h => by
    have e : k = 0 := by cases r <;> simp [lenN] at h <;> omega
    subst e
    cases r <;> simp [lenN]
  | [], n + 1, k, h => by simp [lenN] at h
  | c :: r, n + 1, k, h => by
    obtain ⟨a, m, ha, hm, rfl⟩ := lenN_some h
    rw [List.take_succ_cons, lenN_cons ha, lenN_take hm]; rfl
theorem lenN_split {g : List Sym} : ∀ {r : List Int} {n k : Nat} (m : Nat), lenN g r n = some k → lenN g r (n + m) = (lenN g (r.drop k) m).map (k + ·)
  | r, 0, k, m, h => by
    have e : k = 0 := by cases r <;> simp [lenN] at h <;> omega
    subst e
    simp
  | [], n + 1, k, m, h => by simp [lenN] at h
  | c :: r, n + 1, k, m, h => by
    obtain ⟨a, j, ha, hm, rfl⟩ := lenN_some h
    rw [show n + 1 + m = (n + m) + 1 by omega, lenN_cons ha, show n + m + a = (n + a) + m by omega, lenN_split m hm, List.drop_succ_cons]
    cases lenN g (r.drop j) m <;> simp; omega
theorem lenN_first {g : List Sym} {r : List Int} {n k : Nat} (h : lenN g r (n + 1) = some k) : ∃ k1 k2, lenN g r 1 = some k1 ∧ lenN g (r.drop k1) n = some k2 ∧ k = k1 + k2 := by
  have : ∃ k1, lenN g r 1 = some k1 := by
    have hgen : ∀ (r : List Int) (i j : Nat) {k : Nat}, lenN g r (i + j) = some k → ∃ k1, lenN g r i = some k1 := by
      intro r
      induction r with
      | nil =>
        intro i j k h
        cases i with
        | zero => exact ⟨0, rfl⟩
        | succ i => rw [show i + 1 + j = (i + j) + 1 by omega] at h; simp [lenN] at h
      | cons c r ih =>
        intro i j k h
        cases i with
        | zero => exact ⟨0, rfl⟩
        | succ i =>
          rw [show i + 1 + j = (i + j) + 1 by omega] at h
          obtain ⟨a, m, ha, hm, rfl⟩ := lenN_some h
          rw [show i + j + a = (i + a) + j by omega] at hm
          obtain ⟨k1, hk⟩ := ih (i + a) j hm
          exact ⟨k1 + 1, by rw [lenN_cons ha, hk]; rfl⟩
    exact hgen r 1 n (by rw [Nat.add_comm]; exact h)
  obtain ⟨k1, h1⟩ := this
  have h2 := lenN_split n h1
  rw [Nat.add_comm 1 n, h] at h2
  cases h3 : lenN g (r.drop k1) n with
  | none => rw [h3] at h2; cases h2
  | some k2 => rw [h3] at h2; simp at h2; exact ⟨k1, k2, h1, h3, h2⟩
/-! ### Rows -/
theorem parts_one {g : List Sym} {r : List Int} {k : Nat} (h : lenN g r 1 = some k) : parts g (r.take k) = some [r.take k] := by
  have hle := lenN_le h
  have hne : r.take k ≠ [] := by
    intro e
    have := congrArg List.length e
    rw [List.length_take] at this; simp only [List.length_nil] at this; omega
  rw [parts_some hne (lenN_take h)]
  have e1 : (r.take k).drop k = [] := List.drop_of_length_le (by simp; omega)
  have e2 : (r.take k).take k = r.take k := List.take_of_length_le (by simp; omega)
  rw [e1, e2, parts_nil]; rfl
/-- A row begins with a term, and the others follow. -/
theorem parts_cases {g : List Sym} {r : List Int} {ts : List (List Int)} (h : parts g r = some ts) : (r = [] ∧ ts = []) ∨ ∃ k us, lenN g r 1 = some k ∧ parts g (r.drop k) = some us ∧ ts = r.take k :: us ∧ r ≠ [] := by
  by_cases hr : r = []
  · subst hr; rw [parts_nil] at h; cases h; exact Or.inl ⟨rfl, rfl⟩
  · cases hl : lenN g r 1 with
    | none => rw [parts_none hr hl] at h; cases h
    | some k =>
      rw [parts_some hr hl] at h
      obtain ⟨us, h1, rfl⟩ := Option.map_eq_some_iff.1 h
      exact Or.inr ⟨k, us, rfl, h1, rfl, hr⟩
theorem parts_app {g : List Sym} : ∀ (n : Nat) {a b : List Int} {ts us : List (List Int)}, a.length ≤ n → parts g a = some ts → parts g b = some us → parts g (a ++ b) = some (ts ++ us)
  | n, a, b, ts, us, hn, ha, hb => by
    rcases parts_cases ha with ⟨rfl, rfl⟩ | ⟨k, vs, hl, hv, rfl, hne⟩
    · simpa using hb
    · have hle := lenN_le hl
      match n, hn with
      | 0, hn => exact absurd (List.length_eq_zero_iff.1 (Nat.le_zero.1 hn)) hne
      | n + 1, hn =>
        have h1 := parts_app n (a := a.drop k) (b := b) (by simp; omega) hv hb
        rw [parts_some (by simp [hne]) (lenN_app b hl), List.drop_append_of_le_length hle.1, h1, List.take_append_of_le_length hle.1]
        rfl
theorem parts_join {g : List Sym} {a b : List Int} {ts us : List (List Int)} (ha : parts g a = some ts) (hb : parts g b = some us) : parts g (a ++ b) = some (ts ++ us) := parts_app _ (Nat.le_refl _) ha hb
theorem parts_lenN {g : List Sym} : ∀ {n : Nat} {r : List Int} {k : Nat}, lenN g r n = some k → ∃ ts, parts g (r.take k) = some ts ∧ ts.length = n
  | 0, r, k, h => by
    have e : k = 0 := by cases r <;> simp [lenN] at h <;> omega
    subst e
    exact ⟨[], by simp [parts_nil], rfl⟩
  | n + 1, r, k, h => by
    obtain ⟨k1, k2, h1, h2, rfl⟩ := lenN_first h
    obtain ⟨us, h3, h4⟩ := parts_lenN h2
    refine ⟨r.take k1 :: us, ?_, by simp [h4]⟩
    rw [List.take_add]
    exact parts_join (parts_one h1) h3
/-- What stands behind a term's first code is a row. -/
theorem parts_tail {g : List Sym} {r : List Int} {k : Nat} (h : lenN g r 1 = some k) : ∃ ts, parts g (r.take k).tail = some ts := by
  cases r with
  | nil => simp [lenN] at h
  | cons c r =>
    obtain ⟨a, m, ha, hm, rfl⟩ := lenN_some h
    obtain ⟨ts, h1, _⟩ := parts_lenN hm
    exact ⟨ts, by simpa using h1⟩
/-- The last code is taken off. -/
theorem parts_cut {g : List Sym} : ∀ (n : Nat) {r : List Int} {us : List (List Int)} {t : List Int}, r.length ≤ n → parts g r = some (us ++ [t]) → parts g r.dropLast = if t.length = 1 then some us else none
  | n, r, us, t, hn, h => by
    rcases parts_cases h with ⟨rfl, h1⟩ | ⟨k, vs, hl, hv, he, hne⟩
    · simp at h1
    · have hle := lenN_le hl
      cases us with
      | nil =>
        simp at he
        obtain ⟨rfl, rfl⟩ := he
        have hk : r.length = k := by
          have := (parts_lens _ _ (Nat.le_refl _) hv).2
          simp at this; omega
        by_cases h1 : k = 1
        · have e1 : r.dropLast = [] := by rw [List.dropLast_eq_take]; simp; omega
          rw [if_pos (by simp; omega), e1, parts_nil]
        · have e1 : r.dropLast ≠ [] := by intro e; have := congrArg List.length e; simp at this; omega
          rw [if_neg (by simp; omega), parts_none e1]
          rw [List.dropLast_eq_take]
          exact lenN_cut hl _ (by omega)
      | cons u us =>
        simp at he
        obtain ⟨rfl, rfl⟩ := he
        match n, hn with
        | 0, hn => exact absurd (List.length_eq_zero_iff.1 (Nat.le_zero.1 hn)) hne
        | n + 1, hn =>
          have h1 := parts_cut n (r := r.drop k) (by simp; omega) hv
          have h2 : r.drop k ≠ [] := by intro e; rw [e, parts_nil] at hv; simp at hv
          have h3 : k < r.length := by
            have := List.length_pos_iff.2 h2; simp at this; omega
          have e1 : r.dropLast = r.take k ++ (r.drop k).dropLast := by
            rw [List.dropLast_eq_take, List.dropLast_eq_take, List.length_drop, ← List.take_add]
            congr 1; omega
          have e0 : r.take k ≠ [] := by intro e; have := congrArg List.length e; rw [List.length_take] at this; simp only [List.length_nil] at this; omega
          have hl2 : lenN g (r.take k ++ (r.drop k).dropLast) 1 = some k := lenN_app _ (lenN_take hl)
          rw [e1, parts_some (by simp [e0]) hl2, List.drop_append_of_le_length (by simp; omega), List.take_append_of_le_length (by simp; omega)]
          have e2 : (r.take k).drop k = [] := List.drop_of_length_le (by simp; omega)
          have e3 : (r.take k).take k = r.take k := List.take_of_length_le (by simp; omega)
          rw [e2, e3, List.nil_append, h1]
          split <;> rfl
theorem lenN_inner {g : List Sym} : ∀ {r : List Int} {n k : Nat}, lenN g r n = some k → ∀ i, i < k → ∃ j, lenN g (r.drop i) 1 = some j
  | r, 0, k, h, i, hi => by cases r <;> (simp [lenN] at h; omega)
  | [], n + 1, k, h, i, hi => by simp [lenN] at h
  | c :: r, n + 1, k, h, 0, hi => by
    obtain ⟨k1, k2, h1, _, _⟩ := lenN_first h
    exact ⟨k1, h1⟩
  | c :: r, n + 1, k, h, i + 1, hi => by
    obtain ⟨a, m, ha, hm, rfl⟩ := lenN_some h
    rw [List.drop_succ_cons]
    exact lenN_inner hm i (by omega)
theorem parts_all {g : List Sym} : ∀ (n : Nat) {r : List Int} {ts : List (List Int)}, r.length ≤ n → parts g r = some ts → lenN g r ts.length = some r.length
  | n, r, ts, hn, h => by
    rcases parts_cases h with ⟨rfl, rfl⟩ | ⟨k, vs, hl, hv, rfl, hne⟩
    · rfl
    · have hle := lenN_le hl
      match n, hn with
      | 0, hn => exact absurd (List.length_eq_zero_iff.1 (Nat.le_zero.1 hn)) hne
      | n + 1, hn =>
        have h1 := parts_all n (r := r.drop k) (by simp; omega) hv
        have h2 := lenN_split vs.length hl
        rw [h1] at h2
        rw [List.length_cons, Nat.add_comm, h2]
        simp; omega
/-- From each place of a row a term begins. -/
theorem parts_inner {g : List Sym} {r : List Int} {ts : List (List Int)} (h : parts g r = some ts) {i : Nat} (hi : i < r.length) : ∃ j, lenN g (r.drop i) 1 = some j :=
  lenN_inner (parts_all _ (Nat.le_refl _) h) i hi
theorem rowB_parts {g : List Sym} {r : List Int} (h : rowB g r = true) : sigB g = true ∧ r.length ≤ 48 ∧ ∃ ts, parts g r = some ts ∧ rowP g r = some ts := by
  simp only [rowB, Bool.and_eq_true, rowP] at h
  by_cases h1 : r.length ≤ 48
  · rw [if_pos h1] at h
    obtain ⟨ts, hts⟩ := Option.isSome_iff_exists.1 h.2
    exact ⟨h.1, h1, ts, hts, by simp [rowP, h1, hts]⟩
  · rw [if_neg h1] at h; simp at h
theorem rowB_of {g : List Sym} {r : List Int} {ts : List (List Int)} (hg : sigB g = true) (hr : r.length ≤ 48) (h : parts g r = some ts) : rowB g r = true := by
  simp [rowB, hg, rowP, hr, h]
theorem termsN_of {g : List Sym} {r : List Int} {ts : List (List Int)} (hg : sigB g = true) (hr : r.length ≤ 48) (h : parts g r = some ts) : termsN g r = ts.length := by
  simp [termsN, begsM, hg, rowP, hr, h, begs_len]
theorem termsN_no {g : List Sym} {r : List Int} (h : rowB g r = false) : termsN g r = 0 := by
  simp only [rowB, Bool.and_eq_false_iff] at h
  unfold termsN begsM
  rcases h with h | h
  · simp [h]
  · cases hp : rowP g r with
    | none => simp
    | some ts => rw [hp] at h; simp at h
theorem begsM_no {g : List Sym} {r : List Int} (h : rowB g r = false) : begsM g r = [] := List.length_eq_zero_iff.1 (termsN_no h)
theorem row_codes {g : List Sym} {r : List Int} (h : rowB g r = true) : ∀ c ∈ r, -24 ≤ c ∧ c < g.length := by
  obtain ⟨hg, hr, ts, hts, _⟩ := rowB_parts h
  intro c hc
  exact arOf_lt (parts_codes _ r (Nat.le_refl _) hts c hc)
theorem row_known {g : List Sym} {r : List Int} (h : rowB g r = true) : Known g r := fun c hc => (row_codes h c hc).2
theorem row_len {g : List Sym} {r : List Int} (h : rowB g r = true) : Len r := by
  have := (rowB_parts h).2.1
  unfold Len; omega
/-! ### How deep -/
def dep (g : List Sym) (r : List Int) : Nat :=
  if hr : r = [] then 0 else match h : lenN g r 1 with
    | none => 0
    | some k => max (1 + dep g (r.take k).tail) (dep g (r.drop k))
termination_by r.length
decreasing_by
  · have := lenN_le h
    have : r.length ≠ 0 := fun e => hr (List.length_eq_zero_iff.1 e)
    simp; omega
  · have := lenN_le h
    have : r.length ≠ 0 := fun e => hr (List.length_eq_zero_iff.1 e)
    simp; omega
theorem dep_nil (g : List Sym) : dep g [] = 0 := by rw [dep]; simp
theorem dep_some {g : List Sym} {r : List Int} {k : Nat} (h : lenN g r 1 = some k) : dep g r = max (1 + dep g (r.take k).tail) (dep g (r.drop k)) := by
  have hr : r ≠ [] := by rintro rfl; simp [lenN] at h
  rw [dep]; rw [dif_neg hr]; split
  · rename_i hk; rw [h] at hk; cases hk
  · rename_i k' hk; rw [h] at hk; cases hk; rfl
theorem dep_one {g : List Sym} {r : List Int} {k : Nat} (h : lenN g r 1 = some k) : dep g (r.take k) = 1 + dep g (r.take k).tail := by
  have hle := lenN_le h
  rw [dep_some (lenN_take h)]
  have e2 : (r.take k).drop k = [] := List.drop_of_length_le (by simp; omega)
  have e3 : (r.take k).take k = r.take k := List.take_of_length_le (by simp; omega)
  rw [e2, e3, dep_nil]; omega
theorem dep_first {g : List Sym} {r : List Int} {k : Nat} (h : lenN g r 1 = some k) : dep g r = max (dep g (r.take k)) (dep g (r.drop k)) := by
  rw [dep_some h, dep_one h]
theorem dep_app {g : List Sym} : ∀ (n : Nat) {a b : List Int} {ts : List (List Int)}, a.length ≤ n → parts g a = some ts → dep g (a ++ b) = max (dep g a) (dep g b)
  | n, a, b, ts, hn, ha => by
    rcases parts_cases ha with ⟨rfl, rfl⟩ | ⟨k, vs, hl, hv, rfl, hne⟩
    · simp [dep_nil]
    · have hle := lenN_le hl
      match n, hn with
      | 0, hn => exact absurd (List.length_eq_zero_iff.1 (Nat.le_zero.1 hn)) hne
      | n + 1, hn =>
        have h1 := dep_app n (a := a.drop k) (b := b) (by simp; omega) hv
        rw [dep_some (lenN_app b hl), dep_some hl, List.drop_append_of_le_length hle.1, h1, List.take_append_of_le_length hle.1]
        omega
theorem dep_join {g : List Sym} {a b : List Int} {ts : List (List Int)} (ha : parts g a = some ts) : dep g (a ++ b) = max (dep g a) (dep g b) := dep_app _ (Nat.le_refl _) ha
theorem dep_le {g : List Sym} : ∀ (n : Nat) (r : List Int), r.length ≤ n → dep g r ≤ r.length
  | n, r, hn => by
    by_cases hr : r = []
    · subst hr; simp [dep_nil]
    · cases hl : lenN g r 1 with
      | none => rw [dep, dif_neg hr]; split <;> simp_all
      | some k =>
        have hle := lenN_le hl
        match n, hn with
        | 0, hn => exact absurd (List.length_eq_zero_iff.1 (Nat.le_zero.1 hn)) hr
        | n + 1, hn =>
          have h1 := dep_le (g := g) n (r.take k).tail (by simp; omega)
          have h2 := dep_le (g := g) n (r.drop k) (by simp; omega)
          rw [dep_some hl]
          simp at h1 h2; omega
/-- The depth, with what is open counted in a stack. -/
def popS : List Nat → List Nat
  | [] => []
  | n :: s => if 1 < n then (n - 1) :: s else popS s
def runD (g : List Sym) : List Int → List Nat → Nat → Nat
  | [], _, m => m
  | c :: r, s, m => if 0 < (arOf g c).getD 0 then runD g r ((arOf g c).getD 0 :: s) (max m (s.length + 1)) else runD g r (popS s) (max m (s.length + 1))
theorem run_many {g : List Sym} (N : Nat) (hA : ∀ r : List Int, r.length ≤ N → ∀ k s m, lenN g r 1 = some k → runD g r s m = runD g (r.drop k) (popS s) (max m (s.length + dep g (r.take k)))) :
    ∀ (n : Nat) (r : List Int), r.length ≤ N → ∀ k s m, lenN g r (n + 1) = some k → runD g r ((n + 1) :: s) m = runD g (r.drop k) (popS s) (max m (s.length + 1 + dep g (r.take k)))
  | 0, r, hr, k, s, m, h => by rw [hA r hr k _ m h]; simp [popS]
  | n + 1, r, hr, k, s, m, h => by
    obtain ⟨k1, k2, h1, h2, rfl⟩ := lenN_first h
    have hle := lenN_le h1
    have hle2 := lenN_le h2
    rw [hA r hr k1 _ m h1]
    have e1 : popS ((n + 1 + 1) :: s) = (n + 1) :: s := by simp [popS]
    have e2 : dep g (r.take (k1 + k2)) = max (dep g (r.take k1)) (dep g ((r.drop k1).take k2)) := by
      rw [List.take_add]; exact dep_join (parts_one h1)
    rw [e1, run_many N hA n (r.drop k1) (by simp; omega) k2 s _ h2, List.drop_drop, e2]
    simp only [List.length_cons]
    congr 1
    omega
theorem run_term {g : List Sym} : ∀ (N : Nat) (r : List Int), r.length ≤ N → ∀ k s m, lenN g r 1 = some k → runD g r s m = runD g (r.drop k) (popS s) (max m (s.length + dep g (r.take k)))
  | N, [], hr, k, s, m, h => by simp [lenN] at h
  | 0, c :: r, hr, k, s, m, h => by simp at hr
  | N + 1, c :: r, hr, k, s, m, h => by
    obtain ⟨a, j, ha, hm, rfl⟩ := lenN_some h
    rw [Nat.zero_add] at hm
    have hd := dep_one h
    rw [List.take_succ_cons, List.tail_cons] at hd
    rw [List.drop_succ_cons, List.take_succ_cons, hd]
    cases a with
    | zero =>
      have e : j = 0 := by cases r <;> simp [lenN] at hm <;> omega
      subst e
      simp [runD, ha, dep_nil]
    | succ a =>
      have h1 := run_many N (run_term N) a r (by simp at hr; omega) j s (max m (s.length + 1)) hm
      simp [runD, ha, h1]
      congr 1
      omega
theorem run_row {g : List Sym} : ∀ (n : Nat) {r : List Int} {ts : List (List Int)} (m : Nat), r.length ≤ n → parts g r = some ts → runD g r [] m = max m (dep g r)
  | n, r, ts, m, hn, h => by
    rcases parts_cases h with ⟨rfl, rfl⟩ | ⟨k, vs, hl, hv, rfl, hne⟩
    · simp [runD, dep_nil]
    · have hle := lenN_le hl
      match n, hn with
      | 0, hn => exact absurd (List.length_eq_zero_iff.1 (Nat.le_zero.1 hn)) hne
      | n + 1, hn =>
        rw [run_term _ r (Nat.le_refl _) k [] m hl, dep_first hl]
        have := run_row n (r := r.drop k) (max m (dep g (r.take k))) (by simp; omega) hv
        simp [popS, this]
/-- The stack as a row of numbers, its top behind. -/
def stk (s : List Nat) : List D := ints (@List.map Nat Int (fun n => (n : Int)) s.reverse)
theorem stk_nil : stk [] = [] := rfl
theorem stk_cons (n : Nat) (s : List Nat) : stk (n :: s) = stk s ++ [.int .i64 (n : Int)] := by simp [stk, ints]
theorem stk_len (s : List Nat) : (stk s).length = s.length := by simp [stk, ints]
theorem stk_top (n : Nat) (s : List Nat) : (stk (n :: s))[s.length]? = some (.int .i64 (n : Int)) := by
  rw [stk_cons, ← stk_len s]; simp
theorem stk_set (n m : Nat) (s : List Nat) : (stk (n :: s)).set s.length (.int .i64 (m : Int)) = stk (m :: s) := by
  rw [stk_cons, stk_cons, ← stk_len s, List.set_append_right _ _ (Nat.le_refl _)]; simp
theorem stk_take (n : Nat) (s : List Nat) : (stk (n :: s)).take s.length = stk s := by
  rw [stk_cons, ← stk_len s]; simp
def mxN (m k : Nat) : Nat := max m k
theorem mxN_eq (m k : Nat) : (if (k : Int) > m then (k : Int) else (m : Int)) = (mxN m k : Int) := by
  unfold mxN; split <;> omega
theorem popS_len : ∀ (s : List Nat), (popS s).length ≤ s.length
  | [] => Nat.le_refl _
  | n :: s => by
    rw [popS]; split
    · simp
    · have := popS_len s; simp; omega
theorem popS_mem : ∀ {s : List Nat}, (∀ n ∈ s, 1 ≤ n ∧ n ≤ 3) → ∀ n ∈ popS s, 1 ≤ n ∧ n ≤ 3
  | [], h, n, hn => by simp [popS] at hn
  | k :: s, h, n, hn => by
    rw [popS] at hn; split at hn
    · rcases List.mem_cons.1 hn with rfl | hn
      · have := h k (by simp); omega
      · exact h n (by simp [hn])
    · exact popS_mem (fun n hn => h n (by simp [hn])) n hn
theorem runD_go {g : List Sym} {r : List Int} {i : Nat} (h : i < r.length) (s : List Nat) (m : Nat) : runD g (r.drop i) s m = if 0 < (arOf g (gi r i)).getD 0 then runD g (r.drop (i + 1)) ((arOf g (gi r i)).getD 0 :: s) (mxN m (s.length + 1)) else runD g (r.drop (i + 1)) (popS s) (mxN m (s.length + 1)) := by
  rw [gi_drop h]; rfl
/-- The depth by the terms. -/
def depT (g : List Sym) : List (List Int) → Nat
  | [] => 0
  | t :: ts => mxN (1 + dep g t.tail) (depT g ts)
theorem dep_parts {g : List Sym} : ∀ (n : Nat) {r : List Int} {ts : List (List Int)}, r.length ≤ n → parts g r = some ts → dep g r = depT g ts
  | n, r, ts, hn, h => by
    rcases parts_cases h with ⟨rfl, rfl⟩ | ⟨k, vs, hl, hv, rfl, hne⟩
    · simp [dep_nil, depT]
    · have hle := lenN_le hl
      match n, hn with
      | 0, hn => exact absurd (List.length_eq_zero_iff.1 (Nat.le_zero.1 hn)) hne
      | n + 1, hn =>
        rw [dep_some hl, dep_parts n (r := r.drop k) (by simp; omega) hv, depT]; rfl
theorem parts_mem {g : List Sym} : ∀ (n : Nat) {r : List Int} {ts : List (List Int)}, r.length ≤ n → parts g r = some ts → ∀ t ∈ ts, t ≠ [] ∧ t.length ≤ r.length ∧ ∃ us, parts g t.tail = some us
  | n, r, ts, hn, h, t, ht => by
    rcases parts_cases h with ⟨rfl, rfl⟩ | ⟨k, vs, hl, hv, rfl, hne⟩
    · simp at ht
    · have hle := lenN_le hl
      match n, hn with
      | 0, hn => exact absurd (List.length_eq_zero_iff.1 (Nat.le_zero.1 hn)) hne
      | n + 1, hn =>
        rcases List.mem_cons.1 ht with rfl | ht
        · refine ⟨?_, by simp; omega, parts_tail hl⟩
          intro e; have := congrArg List.length e; rw [List.length_take] at this; simp only [List.length_nil] at this; omega
        · obtain ⟨h1, h2, h3⟩ := parts_mem n (r := r.drop k) (by simp; omega) hv t ht
          exact ⟨h1, by simp at h2; omega, h3⟩
theorem tkX_ints {n : Nat} {r : List Int} (h : n ≤ r.length) (e : List D) : tkX n (ints r) e = ints (r.take n) := by
  rw [tkX_eq _ _ _ (.inr (by rw [ints_len]; exact h)), List.take_append_of_le_length (by rw [ints_len]; exact h)]
  simp [ints]
theorem ints_drop (n : Nat) (r : List Int) : (ints r).drop n = ints (r.drop n) := by simp [ints]
theorem ints_take (n : Nat) (r : List Int) : (ints r).take n = ints (r.take n) := by simp [ints]
/-! ### Which variables -/
abbrev Up (l : List Int) : Prop := l.Pairwise (· < ·)
def lowS (vs : List Int) (v : Int) : Nat := (vs.takeWhile (fun x => decide (x < v))).length
def insS (vs : List Int) (v : Int) : List Int := if v ∈ vs then vs else vs.take (lowS vs v) ++ v :: vs.drop (lowS vs v)
def seenF : List Int → List Int → List Int
  | vs, [] => vs
  | vs, c :: r => seenF (if c < 0 then insS vs (-1 - c) else vs) r
theorem low_spec : ∀ {vs : List Int} (v : Int), Up vs → (∀ x ∈ vs.take (lowS vs v), x < v) ∧ (∀ x ∈ vs.drop (lowS vs v), v ≤ x) ∧ lowS vs v ≤ vs.length
  | [], v, h => by simp [lowS]
  | x :: vs, v, h => by
    obtain ⟨h1, h2⟩ := List.pairwise_cons.1 h
    obtain ⟨i1, i2, i3⟩ := low_spec (vs := vs) v h2
    by_cases hx : x < v
    · have e : lowS (x :: vs) v = lowS vs v + 1 := by simp [lowS, hx]
      rw [e, List.take_succ_cons, List.drop_succ_cons]
      refine ⟨fun y hy => ?_, i2, by simp; omega⟩
      rcases List.mem_cons.1 hy with rfl | hy
      · exact hx
      · exact i1 y hy
    · have e : lowS (x :: vs) v = 0 := by simp [lowS, hx]
      rw [e]
      refine ⟨by simp, fun y hy => ?_, by simp⟩
      rcases List.mem_cons.1 (by simpa using hy) with rfl | hy
      · omega
      · have := h1 y hy; omega
theorem mem_ins {vs : List Int} {v x : Int} : x ∈ insS vs v ↔ x ∈ vs ∨ x = v := by
  unfold insS
  split
  · rename_i h
    constructor
    · exact Or.inl
    · rintro (h1 | rfl)
      · exact h1
      · exact h
  · constructor
    · intro h
      rcases List.mem_append.1 h with h | h
      · exact Or.inl (List.mem_of_mem_take h)
      · rcases List.mem_cons.1 h with rfl | h
        · exact Or.inr rfl
        · exact Or.inl (List.mem_of_mem_drop h)
    · rintro (h | rfl)
      · rw [← List.take_append_drop (lowS vs v) vs] at h
        rcases List.mem_append.1 h with h | h
        · exact List.mem_append_left _ h
        · exact List.mem_append_right _ (List.mem_cons_of_mem _ h)
      · exact List.mem_append_right _ (List.mem_cons_self ..)
theorem up_ins {vs : List Int} {v : Int} (h : Up vs) : Up (insS vs v) := by
  unfold insS
  split
  · exact h
  · rename_i hv
    obtain ⟨h1, h2, h3⟩ := low_spec v h
    have h0 := h
    rw [← List.take_append_drop (lowS vs v) vs, Up, List.pairwise_append] at h0
    obtain ⟨a1, a2, a3⟩ := h0
    rw [Up, List.pairwise_append]
    refine ⟨a1, List.pairwise_cons.2 ⟨fun x hx => ?_, a2⟩, fun x hx y hy => ?_⟩
    · have hx2 := h2 x hx
      have : x ≠ v := fun e => hv (e ▸ List.mem_of_mem_drop hx)
      omega
    · rcases List.mem_cons.1 hy with rfl | hy
      · exact h1 x hx
      · exact a3 x hx y hy
theorem mem_seen : ∀ {r vs : List Int} {x : Int}, x ∈ seenF vs r ↔ x ∈ vs ∨ (0 ≤ x ∧ (-1 - x) ∈ r)
  | [], vs, x => by simp [seenF]
  | c :: r, vs, x => by
    rw [seenF, mem_seen (r := r)]
    by_cases hc : c < 0
    · rw [if_pos hc, mem_ins, List.mem_cons]
      constructor
      · rintro ((h | rfl) | ⟨h1, h2⟩)
        · exact Or.inl h
        · exact Or.inr ⟨by omega, Or.inl (by omega)⟩
        · exact Or.inr ⟨h1, Or.inr h2⟩
      · rintro (h | ⟨h1, h2 | h2⟩)
        · exact Or.inl (Or.inl h)
        · exact Or.inl (Or.inr (by omega))
        · exact Or.inr ⟨h1, h2⟩
    · rw [if_neg hc, List.mem_cons]
      constructor
      · rintro (h | ⟨h1, h2⟩)
        · exact Or.inl h
        · exact Or.inr ⟨h1, Or.inr h2⟩
      · rintro (h | ⟨h1, h2 | h2⟩)
        · exact Or.inl h
        · omega
        · exact Or.inr ⟨h1, h2⟩
theorem up_seen : ∀ {r vs : List Int}, Up vs → Up (seenF vs r)
  | [], vs, h => h
  | c :: r, vs, h => by
    rw [seenF]
    refine up_seen (r := r) ?_
    split
    · exact up_ins h
    · exact h
theorem mem_varsFrom {r : List Int} : ∀ {k v : Nat} {x : Int}, x ∈ varsFrom r k v ↔ (v : Int) ≤ x ∧ x < ((v + k : Nat) : Int) ∧ (-1 - x) ∈ r
  | 0, v, x => by
    simp only [varsFrom, List.not_mem_nil, false_iff]
    rintro ⟨h1, h2, h3⟩; omega
  | k + 1, v, x => by
    rw [varsFrom]
    have ih := mem_varsFrom (r := r) (k := k) (v := v + 1) (x := x)
    split
    · rename_i h
      simp at h
      rw [List.mem_cons, ih]
      constructor
      · rintro (rfl | ⟨h1, h2, h3⟩)
        · exact ⟨by omega, by omega, h⟩
        · exact ⟨by omega, by omega, h3⟩
      · rintro ⟨h1, h2, h3⟩
        by_cases e : x = v
        · exact Or.inl e
        · exact Or.inr ⟨by omega, by omega, h3⟩
    · rename_i h
      simp at h
      rw [ih]
      constructor
      · rintro ⟨h1, h2, h3⟩; exact ⟨by omega, by omega, h3⟩
      · rintro ⟨h1, h2, h3⟩
        have e : x ≠ v := by rintro rfl; exact h h3
        exact ⟨by omega, by omega, h3⟩
theorem up_varsFrom {r : List Int} : ∀ {k v : Nat}, Up (varsFrom r k v)
  | 0, v => List.Pairwise.nil
  | k + 1, v => by
    rw [varsFrom]
    split
    · refine List.pairwise_cons.2 ⟨fun x hx => ?_, up_varsFrom⟩
      have := (mem_varsFrom.1 hx).1
      omega
    · exact up_varsFrom
theorem up_ext : ∀ {a b : List Int}, Up a → Up b → (∀ x, x ∈ a ↔ x ∈ b) → a = b
  | [], [], _, _, _ => rfl
  | [], y :: b, _, _, h => by have := (h y).2 (by simp); simp at this
  | x :: a, [], _, _, h => by have := (h x).1 (by simp); simp at this
  | x :: a, y :: b, ha, hb, h => by
    obtain ⟨a1, a2⟩ := List.pairwise_cons.1 ha
    obtain ⟨b1, b2⟩ := List.pairwise_cons.1 hb
    have e : x = y := by
      have h1 := (h x).1 (by simp)
      have h2 := (h y).2 (by simp)
      rcases List.mem_cons.1 h1 with h1 | h1
      · exact h1
      · rcases List.mem_cons.1 h2 with h2 | h2
        · exact h2.symm
        · have := a1 y h2; have := b1 x h1; omega
    subst e
    rw [up_ext a2 b2 (fun z => ?_)]
    constructor
    · intro hz
      rcases List.mem_cons.1 ((h z).1 (by simp [hz])) with rfl | h1
      · have := a1 z hz; omega
      · exact h1
    · intro hz
      rcases List.mem_cons.1 ((h z).2 (by simp [hz])) with rfl | h1
      · have := b1 z hz; omega
      · exact h1
theorem seen_vars {r : List Int} (h : ∀ c ∈ r, -24 ≤ c) : seenF [] r = varsM r := by
  refine up_ext (up_seen List.Pairwise.nil) up_varsFrom (fun x => ?_)
  rw [mem_seen, varsM, mem_varsFrom]
  constructor
  · rintro (h1 | ⟨h1, h2⟩)
    · simp at h1
    · exact ⟨by omega, by have := h _ h2; omega, h2⟩
  · rintro ⟨h1, h2, h3⟩
    exact Or.inr ⟨by omega, h3⟩
theorem up_gi : ∀ {vs : List Int}, Up vs → ∀ {i j : Nat}, i < j → j < vs.length → gi vs i < gi vs j
  | vs, h, i, j, hij, hj => by
    have h1 := List.pairwise_iff_getElem.1 h i j (by omega) hj hij
    simpa [gi, hj, show i < vs.length by omega] using h1
theorem low_of : ∀ {vs : List Int} {v : Int} (i : Nat), i ≤ vs.length → (∀ k, k < i → gi vs k < v) → (∀ k, i ≤ k → k < vs.length → v ≤ gi vs k) → lowS vs v = i
  | [], v, i, h, h1, h2 => by simp at h; simp [lowS, h]
  | x :: vs, v, 0, h, h1, h2 => by
    have h3 := h2 0 (Nat.le_refl _) (by simp)
    simp [gi] at h3
    have h4 : ¬ x < v := by omega
    simp [lowS, h4]
  | x :: vs, v, i + 1, h, h1, h2 => by
    have h3 := h1 0 (by omega)
    simp [gi] at h3
    have e : lowS (x :: vs) v = lowS vs v + 1 := by simp [lowS, h3]
    rw [e, low_of (vs := vs) (v := v) i (by simpa using h) (fun k hk => by simpa [gi] using h1 (k + 1) (by omega)) (fun k hk hk2 => by simpa [gi] using h2 (k + 1) (by omega) (by simp; omega))]
theorem low_le : ∀ {vs : List Int} {v : Int}, lowS vs v ≤ vs.length
  | vs, v => (List.takeWhile_sublist _).length_le
theorem low_mem {vs : List Int} {v : Int} (h : Up vs) : v ∈ vs ↔ lowS vs v < vs.length ∧ gi vs (lowS vs v) = v := by
  obtain ⟨h1, h2, h3⟩ := low_spec v h
  constructor
  · intro hv
    rw [← List.take_append_drop (lowS vs v) vs] at hv
    rcases List.mem_append.1 hv with hv | hv
    · have := h1 v hv; omega
    · have hlt : lowS vs v < vs.length := by
        rcases Nat.lt_or_ge (lowS vs v) vs.length with hl | hl
        · exact hl
        · rw [List.drop_of_length_le hl] at hv; simp at hv
      refine ⟨hlt, ?_⟩
      rw [gi_drop hlt] at hv h2
      rcases List.mem_cons.1 hv with hv | hv
      · exact hv.symm
      · have h4 := h2 _ (List.mem_cons_self ..)
        obtain ⟨j, hj, he⟩ := List.getElem_of_mem hv
        simp at hj
        have h5 := up_gi h (i := lowS vs v) (j := lowS vs v + 1 + j) (by omega) (by omega)
        have h6 : gi vs (lowS vs v + 1 + j) = v := by
          rw [List.getElem_drop] at he
          simp [gi, show lowS vs v + 1 + j < vs.length by omega, he]
        omega
  · rintro ⟨h4, h5⟩
    rw [← h5]
    exact gi_mem h4
theorem ins_len {vs : List Int} {v : Int} : (insS vs v).length ≤ vs.length + 1 := by
  unfold insS
  split
  · omega
  · simp; omega
end Go.Qu

/- Rows of terms: what the program's and the reference's exported functions hand back. For every input; no condition. -/
set_option linter.unusedVariables false
set_option linter.unusedSimpArgs false
set_option maxRecDepth 100000
namespace Go.Proofs.YtgoccciejigpeaaDoor.Ab
open Go Go.Ab Go.Qu Go.Proofs
attribute [local simp] and_assoc
theorem w_isrow (z z' : Bool) (g : List Sym) (e e' : List D) (r : List Int) : C 17 [iG z g e, iS z' r e'] = some (iB (rowB g r), [iG z g e, iS z' r e']) := by
  refine wfn (lk := []) rfl rfl (fnW_way (q17 _ _ z (syms g) e z' (ints r) e' _) ?_)
  have h1 := w_begins z z' g e e' r
  cases h : rowB g r <;> simp [-Bool.exists_bool, h1, h]
def endB (g : List Sym) (r : List Int) (i : Int) : Bool := rowB g r && (decide (0 ≤ i) && decide (i < r.length))
def endV (g : List Sym) (r : List Int) (i : Int) : Int := if endB g r i = true then skV g r i.toNat 1 else 0
/-! ### Numbers that rise -/
theorem w_isnan (c : Int) : C 48 [iI c] = some (iB false, [iI c]) :=
  wfn (lk := []) rfl rfl (fnW_way (q48 _ _ c _) (by simp))
theorem w_cisnan (c : Int) : C 51 [iI c] = some (iB false, [iI c]) :=
  wfn (lk := []) rfl rfl (fnW_way (q51 _ _ c _) (by simp))
theorem w_less (a b : Int) : C 47 [iI a, iI b] = some (iB (decide (a < b)), [iI a, iI b]) := by
  refine wfn (lk := []) rfl rfl (fnW_way (q47 _ _ a b _) ?_)
  by_cases h : a < b <;> simp [-Bool.exists_bool, w_cisnan, h]
theorem w_binsearch {vs : List Int} (hu : Up vs) (hl : vs.length ≤ 1000000) (z : Bool) (e : List D) (v : Int) : C 45 [iS z vs e, iI v] = some (.tup [iI (lowS vs v), iB (decide (v ∈ vs))], [iS z vs e, iI v]) := by
  refine wfn (lk := []) rfl rfl (fnW_way (q45 _ _ z (ints vs) e v _) ?_)
  have h1 := fun x hx => blk_fun (F := F) (d := d45) (lk := []) (p := [1,1,1,0,0,0]) (p0 := [1,1,1,0]) (id := 0) (by kernel_rfl) (st := fun (x : Nat × Nat) => [(0, iS z vs e), (1, iI v), (6, iI vs.length), (7, iI x.1), (8, iI x.2)]) (I := fun x => x.1 ≤ x.2 ∧ x.2 ≤ vs.length ∧ (∀ k, k < x.1 → gi vs k < v) ∧ (∀ k, x.2 ≤ k → k < vs.length → v ≤ gi vs k)) (μ := fun x => x.2 - x.1)
    (res := fun _ => .norm [(0, iS z vs e), (1, iI v), (6, iI vs.length), (7, iI (lowS vs v)), (8, iI (lowS vs v))])
    (fun x hx => by
      obtain ⟨i, j⟩ := x
      obtain ⟨hx1, hx2, hx3, hx4⟩ := hx
      dsimp only at hx1 hx2 hx3 hx4
      by_cases h : i < j
      · have hw : IntKind.wrap .i64 (IntKind.wrap .u64 (IntKind.wrap .i64 ((i : Int) + j)) / 2 ^ min (Int.toNat 1) (IntKind.bits .u64)) = (((i + j) / 2 : Nat) : Int) := by
          have e1 : IntKind.wrap .i64 ((i : Int) + j) = ((i + j : Nat) : Int) := by rw [wr _ (by omega) (by omega)]; omega
          have e2 : IntKind.wrap .u64 (((i + j : Nat) : Int)) = ((i + j : Nat) : Int) := by
            simp [IntKind.wrap, IntKind.bits, IntKind.signed]; omega
          have e3 : (2 : Int) ^ min (Int.toNat 1) (IntKind.bits .u64) = 2 := by decide
          rw [e1, e2, e3, wr _ (by omega) (by omega)]; omega
        have hm : (i + j) / 2 < vs.length := by omega
        have hc := w_less (gi vs ((i + j) / 2)) v
        have hw2 : IntKind.wrap .i64 ((((i + j) / 2 : Nat) : Int) + 1) = (((i + j) / 2 + 1 : Nat) : Int) := by rw [wr _ (by omega) (by omega)]; omega
        have h' : (i : Int) < j := by omega
        by_cases hv : gi vs ((i + j) / 2) < v
        · refine .go ((i + j) / 2 + 1, j) (wpQ_way (q45_l0a _ _ z (ints vs) e v _ i j _) ?_) ⟨by dsimp only; omega, hx2, fun k hk => ?_, hx4⟩ (by dsimp only; omega) rfl
          · rw [hw, hw2, Int.toNat_natCast, Go.Ab.ints_at hm]
            simp [-Bool.exists_bool, -getElem?_pos, h, hc, hv]
            omega
          · rcases Nat.lt_or_ge k ((i + j) / 2) with h5 | h5
            · have := up_gi hu h5 hm; omega
            · have : k = (i + j) / 2 := by dsimp only at hk; omega
              rw [this]; exact hv
        · refine .go (i, (i + j) / 2) (wpQ_way (q45_l0a _ _ z (ints vs) e v _ i j _) ?_) ⟨by dsimp only; omega, by dsimp only; omega, hx3, fun k hk hk2 => ?_⟩ (by dsimp only; omega) rfl
          · rw [hw, hw2, Int.toNat_natCast, Go.Ab.ints_at hm]
            simp [-Bool.exists_bool, -getElem?_pos, h, hc, hv]
            omega
          · rcases Nat.lt_or_ge ((i + j) / 2) k with h5 | h5
            · have := up_gi hu h5 hk2; omega
            · have : k = (i + j) / 2 := by dsimp only at hk; omega
              rw [this]; omega
      · have e1 : j = i := by omega
        subst e1
        have e2 : lowS vs v = j := low_of j hx2 hx3 hx4
        refine .stop (.exit 0 [(0, iS z vs e), (1, iI v), (6, iI vs.length), (7, iI j), (8, iI j)]) (wpQ_way (q45_l0a _ _ z (ints vs) e v _ j j _) ?_) rfl ?_
        · simp
        · rw [e2]; rfl) x hx
  have h2 : evP F (Go.Ab.W F) (JW F d45 []) d45 [] [1,1,1,0] [(0, iS z vs e), (1, iI v), (6, iI vs.length), (7, iI 0), (8, iI vs.length)] = _ := h1 (0, vs.length) ⟨Nat.zero_le _, Nat.le_refl _, fun k hk => absurd hk (Nat.not_lt_zero _), fun k hk hk2 => absurd hk2 (by dsimp only at hk; omega)⟩
  have hmem := low_mem (v := v) hu
  by_cases h3 : lowS vs v < vs.length
  · by_cases h4 : gi vs (lowS vs v) = v
    · have h5 : v ∈ vs := hmem.2 ⟨h3, h4⟩
      simp [-Bool.exists_bool, -getElem?_pos, ints_len, h2, h3, h4, h5, Go.Ab.ints_at h3]
    · have h5 : ¬ v ∈ vs := fun h => h4 (hmem.1 h).2
      simp [-Bool.exists_bool, -getElem?_pos, ints_len, h2, h3, h4, h5, Go.Ab.ints_at h3, w_isnan]
  · have h5 : ¬ v ∈ vs := fun h => h3 (hmem.1 h).1
    simp [-Bool.exists_bool, ints_len, h2, h3, h5]
theorem w_seen {r : List Int} (hr : r.length ≤ 100000) (hc : ∀ c ∈ r, -1000000 ≤ c) (z : Bool) (e : List D) : C 42 [.d (.sl 1 true [] []), iS z r e] = some (.own (seenF [] r).isEmpty 3 1 (ints (seenF [] r)), [.d (.sl 1 true [] []), iS z r e]) := by
  refine wfn (lk := []) rfl rfl (fnW_way (q42 _ _ z (ints r) e _) ?_)
  have h1 := fun x hx => blk_fun (F := F) (d := d42) (lk := []) (p := [1,0,1,0,0]) (p0 := [1,0,1]) (id := 0) (by kernel_rfl) (st := fun (x : List Int × Nat) => [(0, .own x.1.isEmpty 3 1 (ints x.1)), (9, iS z r e), (10, iI r.length), (11, iI x.2)]) (I := fun x => x.2 ≤ r.length ∧ Up x.1 ∧ x.1.length ≤ x.2) (μ := fun x => r.length - x.2)
    (res := fun x => .norm [(0, .own (seenF x.1 (r.drop x.2)).isEmpty 3 1 (ints (seenF x.1 (r.drop x.2)))), (9, iS z r e), (10, iI r.length), (11, iI r.length)])
    (fun x hx => by
      obtain ⟨vs, i⟩ := x
      obtain ⟨hx1, hx2, hx3⟩ := hx
      dsimp only at hx1 hx2 hx3
      by_cases hi : i < r.length
      · have hci := hc _ (gi_mem hi)
        have hi' : (i : Int) < r.length := by omega
        by_cases h0 : 0 ≤ gi r i
        · have h0n : ¬ gi r i < 0 := by omega
          refine .go (vs, i + 1) (wpQ_way (q42_l0a _ _ _ (ints vs) z (ints r) e _ i _) ?_) ⟨by dsimp only; omega, hx2, by dsimp only; omega⟩ (by dsimp only; omega) ?_
          · simp [-Bool.exists_bool, -getElem?_pos, -Int.natCast_add, hi', Go.Ab.ints_at hi, h0, h0n, wr1 hi (by omega)]
          · dsimp only
            rw [gi_drop hi, seenF, if_neg (by omega)]
        · have hw : IntKind.wrap .i64 (-1 - gi r i) = -1 - gi r i := wr _ (by omega) (by omega)
          have hn := w_number (gi r i)
          rw [hw] at hn
          have hb := w_binsearch hx2 (by omega) vs.isEmpty [] (-1 - gi r i)
          by_cases hm : (-1 - gi r i) ∈ vs
          · refine .go (vs, i + 1) (wpQ_way (q42_l0a _ _ _ (ints vs) z (ints r) e _ i _) ?_) ⟨by dsimp only; omega, hx2, by dsimp only; omega⟩ (by dsimp only; omega) ?_
            · simp [-Bool.exists_bool, -getElem?_pos, -Int.natCast_add, hi', Go.Ab.ints_at hi, h0, hn, hb, hm, wr1 hi (by omega)]
            · dsimp only
              rw [gi_drop hi, seenF, if_pos (by omega), insS, if_pos hm]
          · have hlow := low_le (vs := vs) (v := -1 - gi r i)
            have hl' : (lowS vs (-1 - gi r i) : Int) ≤ vs.length := by omega
            have hil : insS vs (-1 - gi r i) = vs.take (lowS vs (-1 - gi r i)) ++ (-1 - gi r i) :: vs.drop (lowS vs (-1 - gi r i)) := by rw [insS, if_neg hm]
            refine .go (insS vs (-1 - gi r i), i + 1) (wpQ_way (q42_l0a _ _ _ (ints vs) z (ints r) e _ i _) ?_) ⟨by dsimp only; omega, up_ins hx2, by have := ins_len (vs := vs) (v := -1 - gi r i); dsimp only; omega⟩ (by dsimp only; omega) ?_
            · have hbig : (vs.length + 1) * 8 ≤ 140737488355328 := by omega
              have hin : ints (insS vs (-1 - gi r i)) = (ints vs).take (lowS vs (-1 - gi r i)) ++ .int .i64 (-1 - gi r i) :: (ints vs).drop (lowS vs (-1 - gi r i)) := by
                rw [hil]; simp [ints]
              have hne : (insS vs (-1 - gi r i)).isEmpty = false := by rw [hil]; simp
              dsimp only
              rw [hne, hin]
              simp [-Bool.exists_bool, -getElem?_pos, -Int.natCast_add, hi', Go.Ab.ints_at hi, h0, hn, hb, hm, wr1 hi (by omega), ints_len, hl', hbig, hlow]
            · dsimp only
              rw [gi_drop hi, seenF, if_pos (by omega)]
      · have e1 : i = r.length := by omega
        subst e1
        refine .stop (.exit 0 [(0, .own vs.isEmpty 3 1 (ints vs)), (9, iS z r e), (10, iI r.length), (11, iI r.length)]) (wpQ_way (q42_l0a _ _ _ (ints vs) z (ints r) e _ _ _) (by simp)) rfl ?_
        simp [blkO, seenF]) x hx
  have h2 : evP F (Go.Ab.W F) (JW F d42 []) d42 [] [1,0,1] [(0, .own true 3 1 []), (9, iS z r e), (10, iI r.length), (11, iI 0)] = _ := h1 ([], 0) ⟨Nat.zero_le _, List.Pairwise.nil, Nat.zero_le _⟩
  rw [List.drop_zero] at h2
  simp [-Bool.exists_bool, ints_len, h2]
theorem w_vars (z z' : Bool) (g : List Sym) (e e' : List D) (r : List Int) : C 38 [iG z g e, iS z' r e'] = some (.tup [.own (if rowB g r = true then varsM r else []).isEmpty 3 1 (ints (if rowB g r = true then varsM r else [])), iI (if rowB g r = true then 0 else 200)], [iG z g e, iS z' r e']) := by
  refine wfn (lk := []) rfl rfl (fnW_way (q38 _ _ z (syms g) e z' (ints r) e' _) ?_)
  have h1 := w_isrow z z' g e e' r
  cases h : rowB g r
  · simp [-Bool.exists_bool, h1, h, ints_nil]
  · have hr := (rowB_parts h).2.1
    have h2 := w_seen (r := r) (by omega) (fun c hc => by have := row_codes h c hc; omega) z' e'
    rw [seen_vars (fun c hc => (row_codes h c hc).1)] at h2
    simp [-Bool.exists_bool, h1, h, h2]
/-! ### The reference's -/
theorem termsM_of {g : List Sym} {r : List Int} (hg : sigB g = true) : termsM g r = if rowB g r = true then (termsN g r : Int) else -1 := by
  unfold termsM
  cases hp : rowP g r with
  | none => simp [rowB, hg, hp]
  | some ts => simp [rowB, hg, hp, termsN, begsM, begs_len]
theorem rowB_sig {g : List Sym} {r : List Int} (hg : sigB g = false) : rowB g r = false := by simp [rowB, hg]
end Go.Proofs.YtgoccciejigpeaaDoor.Ab

/- Binds: what they make of rows; two lists of binds as one. Plain lists, no program in sight; no condition. -/
set_option linter.unusedVariables false
set_option linter.unusedSimpArgs false
namespace Go.Qu
open Go Go.Ab
structure Bd where
  v : Int
  r : Row
def Bd.d (b : Bd) : D := .agg [.int .i64 b.v, .sl 1 b.r.z (ints b.r.l) b.r.e]
def bds (l : List Bd) : List D := l.map Bd.d
abbrev iBd (z : Bool) (l : List Bd) (e : List D) : IV := .d (.sl 2 z (bds l) e)
theorem bds_len (l : List Bd) : (bds l).length = l.length := by simp [bds]
theorem bds_nil : bds [] = [] := rfl
theorem bds_cons (x : Bd) (l : List Bd) : bds (x :: l) = .agg [.int .i64 x.v, .sl 1 x.r.z (ints x.r.l) x.r.e] :: bds l := rfl
theorem bds_append (l m : List Bd) : bds (l ++ m) = bds l ++ bds m := by simp [bds]
theorem bds_at {l : List Bd} {i : Nat} {s : Bd} (h : l[i]? = some s) : (bds l)[i]? = some (.agg [.int .i64 s.v, .sl 1 s.r.z (ints s.r.l) s.r.e]) := by simp [bds, h, Bd.d]
/-- Rows of which only those without codes are nil. -/
def NilOk (s : List Bd) : Prop := ∀ b ∈ s, b.r.z = true → b.r.l = []
/-! ### What may be -/
def oneB (g : List Sym) (t : List Int) : Bool := rowB g t && decide (termsN g t = 1)
def aloneB (t : List Int) (v : Int) : Bool := decide (t = [-1 - v])
def bindAt (g : List Sym) (s : List Bd) (i : Nat) : Bool := match s[i]? with
  | none => true
  | some b => decide (0 ≤ b.v) && (decide (b.v ≤ 23) && ((match s[i - 1]? with | some a => decide (i = 0) || decide (a.v < b.v) | none => true) && (oneB g b.r.l && !(aloneB b.r.l b.v))))
def bindB (g : List Sym) (s : List Bd) : Bool := sigB g && (List.range s.length).all (bindAt g s)
theorem bindB_at {g : List Sym} {s : List Bd} (h : bindB g s = true) {i : Nat} {b : Bd} (hb : s[i]? = some b) : (0 ≤ b.v ∧ b.v ≤ 23) ∧ (∀ a, 0 < i → s[i - 1]? = some a → a.v < b.v) ∧ oneB g b.r.l = true ∧ ¬ b.r.l = [-1 - b.v] := by
  simp only [bindB, Bool.and_eq_true, List.all_eq_true, List.mem_range] at h
  have h1 := h.2 i (lt_at hb)
  unfold bindAt at h1
  rw [hb] at h1
  simp only [Bool.and_eq_true, decide_eq_true_eq] at h1
  refine ⟨⟨h1.1, h1.2.1⟩, fun a hi ha => ?_, h1.2.2.2.1, ?_⟩
  · have h2 := h1.2.2.1
    rw [ha] at h2
    simp at h2
    omega
  · have h2 := h1.2.2.2.2
    simp [aloneB] at h2
    exact h2
theorem one_lenN {g : List Sym} {t : List Int} (h : oneB g t = true) : sigB g = true ∧ t.length ≤ 48 ∧ lenN g t 1 = some t.length := by
  simp only [oneB, Bool.and_eq_true, decide_eq_true_eq] at h
  obtain ⟨hg, hr, ts, hts, _⟩ := rowB_parts h.1
  have h2 := termsN_of hg hr hts
  have h3 := parts_all _ (Nat.le_refl _) hts
  rw [← h2, h.2] at h3
  exact ⟨hg, hr, h3⟩
theorem one_of {g : List Sym} {t : List Int} (hg : sigB g = true) (hr : t.length ≤ 48) (h : lenN g t 1 = some t.length) : oneB g t = true := by
  have h1 := parts_one h
  rw [List.take_length] at h1
  simp [oneB, rowB_of hg hr h1, termsN_of hg hr h1]
/-! ### What stands for a variable -/
def findB : List Bd → Int → Row
  | [], _ => ⟨true, [], []⟩
  | b :: s, v => if b.v = v then b.r else findB s v
theorem findB_some {s : List Bd} {v : Int} {j : Nat} {b : Bd} (hb : s[j]? = some b) (hv : b.v = v) (hk : ∀ k, k < j → ∀ c, s[k]? = some c → c.v ≠ v) : findB s v = b.r := by
  induction s generalizing j with
  | nil => simp at hb
  | cons a s ih =>
    cases j with
    | zero => simp at hb; subst hb; simp [findB, hv]
    | succ j =>
      have h0 := hk 0 (by omega) a (by simp)
      rw [findB, if_neg h0]
      exact ih (j := j) (by simpa using hb) (fun k hk2 c hc => hk (k + 1) (by omega) c (by simpa using hc))
theorem findB_none {s : List Bd} {v : Int} (hk : ∀ k, k < s.length → ∀ c, s[k]? = some c → c.v ≠ v) : findB s v = ⟨true, [], []⟩ := by
  induction s with
  | nil => rfl
  | cons a s ih =>
    have h0 := hk 0 (by simp) a (by simp)
    rw [findB, if_neg h0]
    exact ih (fun k hk2 c hc => hk (k + 1) (by simp; omega) c (by simpa using hc))
/-- A variable has a bind, a term of its own, or none. -/
theorem find_cases (s : List Bd) (v : Int) : findB s v = ⟨true, [], []⟩ ∨ ∃ b ∈ s, b.v = v ∧ findB s v = b.r := by
  induction s with
  | nil => exact Or.inl rfl
  | cons a s ih =>
    rw [findB]
    split
    · rename_i h; exact Or.inr ⟨a, by simp, h, rfl⟩
    · rcases ih with h | ⟨b, h1, h2, h3⟩
      · exact Or.inl h
      · exact Or.inr ⟨b, by simp [h1], h2, h3⟩
def onC (s : List Bd) (c : Int) : List Int := if 0 ≤ c then [c] else if (findB s (-1 - c)).z = true then [c] else (findB s (-1 - c)).l
def onB (s : List Bd) : List Int → List Int
  | [] => []
  | c :: r => onC s c ++ onB s r
theorem onB_app (s : List Bd) : ∀ (a b : List Int), onB s (a ++ b) = onB s a ++ onB s b
  | [], b => rfl
  | c :: a, b => by rw [List.cons_append, onB, onB, onB_app s a b, List.append_assoc]
theorem onB_one (s : List Bd) (c : Int) : onB s [c] = onC s c := by simp [onB]
/-- Of binds that may be: a term, or nothing. -/
theorem find_ok {g : List Sym} {s : List Bd} (hs : bindB g s = true) (hn : NilOk s) (v : Int) : ((findB s v).z = true ∧ (findB s v).l = []) ∨ ((findB s v).z = false ∧ oneB g (findB s v).l = true ∧ ¬ (findB s v).l = [-1 - v] ∧ 0 ≤ v ∧ v ≤ 23) := by
  rcases find_cases s v with h | ⟨b, h1, h2, h3⟩
  · rw [h]; exact Or.inl ⟨rfl, rfl⟩
  · obtain ⟨i, hi⟩ := List.getElem?_of_mem h1
    obtain ⟨h4, _, h5, h6⟩ := bindB_at hs hi
    have h7 := one_lenN h5
    have h8 : b.r.z = false := by
      cases hz : b.r.z with
      | false => rfl
      | true =>
        have := hn b h1 hz
        rw [this] at h7; simp [lenN] at h7
    rw [h3, ← h2]
    exact Or.inr ⟨h8, h5, h6, h4⟩
theorem onC_len {g : List Sym} {s : List Bd} (hs : bindB g s = true) (hn : NilOk s) (c : Int) : 1 ≤ (onC s c).length ∧ (onC s c).length ≤ 48 := by
  unfold onC
  split
  · simp
  · rcases find_ok hs hn (-1 - c) with ⟨h1, _⟩ | ⟨h1, h2, _⟩
    · rw [if_pos h1]; simp
    · rw [if_neg (by simp [h1])]
      have h3 := one_lenN h2
      have := lenN_le h3.2.2
      omega
theorem onB_len {g : List Sym} {s : List Bd} (hs : bindB g s = true) (hn : NilOk s) : ∀ (r : List Int), r.length ≤ (onB s r).length ∧ (onB s r).length ≤ 48 * r.length
  | [] => by simp [onB]
  | c :: r => by
    have h1 := onC_len hs hn c
    have h2 := onB_len hs hn r
    simp only [onB, List.length_append, List.length_cons]; omega
/-- Terms whose variables are replaced are terms. -/
theorem on_lenN {g : List Sym} {s : List Bd} (hs : bindB g s = true) (hn : NilOk s) : ∀ {r : List Int} {n k : Nat}, lenN g r n = some k → lenN g (onB s (r.take k)) n = some (onB s (r.take k)).length
  | r, 0, k, h => by
    have e : k = 0 := by cases r <;> simp [lenN] at h <;> omega
    subst e
    simp [onB, lenN]
  | [], n + 1, k, h => by simp [lenN] at h
  | c :: r, n + 1, k, h => by
    obtain ⟨a, m, ha, hm, rfl⟩ := lenN_some h
    have ih := on_lenN hs hn hm
    rw [List.take_succ_cons, onB]
    by_cases h0 : 0 ≤ c
    · rw [onC, if_pos h0, List.singleton_append, lenN_cons ha, ih]; rfl
    · have ha0 : a = 0 := by
        unfold arOf at ha; rw [if_pos (by omega)] at ha; split at ha <;> simp at ha; exact ha.symm
      subst ha0
      rw [Nat.add_zero] at ih
      rw [onC, if_neg h0]
      rcases find_ok hs hn (-1 - c) with ⟨h1, _⟩ | ⟨h1, h2, _⟩
      · rw [if_pos h1, List.singleton_append, lenN_cons ha, Nat.add_zero, ih]; rfl
      · rw [if_neg (by simp [h1])]
        have h3 := (one_lenN h2).2.2
        have h4 := lenN_split (g := g) n (lenN_app (onB s (r.take m)) h3)
        rw [List.drop_left, ih] at h4
        rw [Nat.add_comm n 1, h4]
        simp
theorem on_row {g : List Sym} {s : List Bd} (hs : bindB g s = true) (hn : NilOk s) {r : List Int} (hr : rowB g r = true) (hl : (onB s r).length ≤ 48) : rowB g (onB s r) = true ∧ termsN g (onB s r) = termsN g r := by
  obtain ⟨hg, h1, ts, hts, _⟩ := rowB_parts hr
  have h2 := parts_all _ (Nat.le_refl _) hts
  have h3 := on_lenN hs hn h2
  rw [List.take_length] at h3
  obtain ⟨us, h4, h5⟩ := parts_lenN h3
  rw [List.take_length] at h4
  exact ⟨rowB_of hg hl h4, by rw [termsN_of hg hl h4, termsN_of hg h1 hts, h5]⟩
/-! ### One after the other -/
/-- What stands for a variable after both. -/
def thenT (s u : List Bd) (v : Int) : List Int := if (findB s v).z = true then (findB u v).l else onB u (findB s v).l
def thenF (s u : List Bd) : Nat → Nat → Option (List Bd)
  | 0, _ => some []
  | k + 1, v => if (thenT s u v).length > 48 then none else (thenF s u k (v + 1)).map fun l => if thenT s u v = [] ∨ thenT s u v = [-1 - (v : Int)] then l else ⟨v, ⟨false, thenT s u v, []⟩⟩ :: l
def thenM (s u : List Bd) : Option (List Bd) := thenF s u 24 0
theorem then_spec {s u : List Bd} : ∀ {k v : Nat} {t : List Bd}, thenF s u k v = some t → (∀ b ∈ t, ∃ n : Nat, b.v = (n : Int) ∧ v ≤ n ∧ n < v + k ∧ b.r = ⟨false, thenT s u n, []⟩ ∧ thenT s u n ≠ [] ∧ thenT s u n ≠ [-1 - (n : Int)] ∧ (thenT s u n).length ≤ 48) ∧ (∀ n : Nat, v ≤ n → n < v + k → findB t n = if thenT s u n = [] ∨ thenT s u n = [-1 - (n : Int)] then ⟨true, [], []⟩ else ⟨false, thenT s u n, []⟩) ∧ (∀ i a b, s.length = s.length → t[i]? = some a → t[i + 1]? = some b → a.v < b.v)
  | 0, v, t, h => by
    simp [thenF] at h
    subst h
    exact ⟨by simp, fun n h1 h2 => by omega, by simp⟩
  | k + 1, v, t, h => by
    rw [thenF] at h
    split at h
    · cases h
    · rename_i hl
      obtain ⟨l, h1, rfl⟩ := Option.map_eq_some_iff.1 h
      obtain ⟨i1, i2, i3⟩ := then_spec h1
      split
      · rename_i hc
        refine ⟨fun b hb => ?_, fun n h1 h2 => ?_, i3⟩
        · obtain ⟨n, a1, a2, a3, a4⟩ := i1 b hb
          exact ⟨n, a1, by omega, by omega, a4⟩
        · by_cases hn : n = v
          · subst hn
            rw [if_pos hc]
            have : ∀ k, k < l.length → ∀ c, l[k]? = some c → c.v ≠ (n : Int) := fun k hk c hc' => by
              obtain ⟨m, a1, a2, _⟩ := i1 c (List.mem_of_getElem? hc')
              omega
            exact findB_none this
          · exact i2 n (by omega) (by omega)
      · rename_i hc
        refine ⟨fun b hb => ?_, fun n h1 h2 => ?_, fun i a b h0 ha hb => ?_⟩
        · rcases List.mem_cons.1 hb with rfl | hb
          · exact ⟨v, rfl, Nat.le_refl _, by omega, rfl, fun e => hc (Or.inl e), fun e => hc (Or.inr e), by omega⟩
          · obtain ⟨n, a1, a2, a3, a4⟩ := i1 b hb
            exact ⟨n, a1, by omega, by omega, a4⟩
        · by_cases hn : n = v
          · subst hn
            rw [if_neg hc, findB, if_pos rfl]
          · rw [findB, if_neg (by dsimp only; omega)]
            exact i2 n (by omega) (by omega)
        · cases i with
          | zero =>
            simp at ha hb
            subst ha
            obtain ⟨n, a1, a2, _⟩ := i1 b (List.mem_of_getElem? hb)
            dsimp only; omega
          | succ i => exact i3 i a b h0 (by simpa using ha) (by simpa using hb)
theorem thenT_one {g : List Sym} {s u : List Bd} (hs : bindB g s = true) (hn : NilOk s) (hu : bindB g u = true) (hm : NilOk u) (v : Int) (hl : (thenT s u v).length ≤ 48) (h0 : thenT s u v ≠ []) : oneB g (thenT s u v) = true := by
  unfold thenT at hl h0 ⊢
  rcases find_ok hs hn v with ⟨h1, _⟩ | ⟨h1, h2, _⟩
  · rw [if_pos h1] at hl h0 ⊢
    rcases find_ok hu hm v with ⟨_, h3⟩ | ⟨_, h3, _⟩
    · exact absurd h3 h0
    · exact h3
  · rw [if_neg (by simp [h1])] at hl h0 ⊢
    obtain ⟨hg, _, h3⟩ := one_lenN h2
    have h4 := on_lenN hu hm h3
    rw [List.take_length] at h4
    exact one_of hg hl h4
theorem then_may {g : List Sym} {s u t : List Bd} (hs : bindB g s = true) (hn : NilOk s) (hu : bindB g u = true) (hm : NilOk u) (ht : thenM s u = some t) : bindB g t = true ∧ NilOk t := by
  obtain ⟨h1, h2, h3⟩ := then_spec ht
  have hg : sigB g = true := by simp only [bindB, Bool.and_eq_true] at hs; exact hs.1
  refine ⟨?_, fun b hb hz => ?_⟩
  · simp only [bindB, hg, Bool.true_and, List.all_eq_true, List.mem_range]
    intro i hi
    obtain ⟨b, hb⟩ := at_lt hi
    obtain ⟨n, a1, a2, a3, a4, a5, a6, a7⟩ := h1 b (List.mem_of_getElem? hb)
    have h6 := thenT_one hs hn hu hm (n : Int) a7 a5
    unfold bindAt
    rw [hb]
    simp only [Bool.and_eq_true, decide_eq_true_eq]
    refine ⟨by omega, by omega, ?_, by rw [a4]; exact h6, ?_⟩
    · split
      · rename_i a ha
        cases i with
        | zero => simp
        | succ i =>
          have := h3 i a b rfl (by simpa using ha) hb
          simp [this]
      · rfl
    · rw [a4, a1]; simp [aloneB, a6]
  · obtain ⟨n, _, _, _, a4, _⟩ := h1 b hb
    rw [a4] at hz; cases hz
/-- Both at once do as one after the other. -/
theorem then_on {g : List Sym} {s u t : List Bd} (hs : bindB g s = true) (hn : NilOk s) (hu : bindB g u = true) (hm : NilOk u) (ht : thenM s u = some t) : ∀ {r : List Int}, (∀ c ∈ r, -24 ≤ c) → onB t r = onB u (onB s r)
  | [], h => rfl
  | c :: r, h => by
    have ih := then_on hs hn hu hm ht (r := r) (fun x hx => h x (by simp [hx]))
    rw [onB, onB, onB_app, ih]
    congr 1
    have hc := h c (by simp)
    by_cases h0 : 0 ≤ c
    · rw [onC, if_pos h0, onC, if_pos h0, onB_one, onC, if_pos h0]
    · obtain ⟨n, hn2⟩ : ∃ n : Nat, (-1 - c) = (n : Int) := ⟨(-1 - c).toNat, by omega⟩
      have h2 := (then_spec ht).2.1 n (Nat.zero_le _) (by omega)
      have hcn : c = -1 - (n : Int) := by omega
      rw [onC, if_neg h0, hn2, h2, onC, if_neg h0, hn2]
      have hT : thenT s u n = if (findB s n).z = true then (findB u n).l else onB u (findB s n).l := rfl
      rcases find_ok hs hn n with ⟨a1, a2⟩ | ⟨a1, a2, a3⟩
      · rw [if_pos a1] at hT
        rw [if_pos a1, onB_one, onC, if_neg h0, hn2]
        rcases find_ok hu hm n with ⟨b1, b2⟩ | ⟨b1, b2, b3, _⟩
        · rw [if_pos (Or.inl (by rw [hT, b2])), if_pos rfl, if_pos b1]
        · have b4 : (findB u n).l ≠ [] := by
            intro e; have := (one_lenN b2).2.2; rw [e] at this; simp [lenN] at this
          have hne : ¬ (thenT s u n = [] ∨ thenT s u n = [-1 - (n : Int)]) := by rw [hT]; rintro (e | e); exact b4 e; exact b3 e
          rw [if_neg hne, if_neg (by simp), if_neg (by simp [b1]), hT]
      · have a0 : ¬ (findB s n).z = true := by simp [a1]
        rw [if_neg a0] at hT
        rw [if_neg a0, ← hT]
        have a4 : onB u (findB s n).l ≠ [] := by
          intro e
          have h5 := (onB_len hu hm (findB s n).l).1
          have h6 := (one_lenN a2).2.2
          have := lenN_le h6
          rw [e] at h5; simp at h5; rw [h5] at this; simp at this
        by_cases h7 : thenT s u n = [-1 - (n : Int)]
        · rw [if_pos (Or.inr h7), if_pos rfl, h7, hcn]
        · have hne : ¬ (thenT s u n = [] ∨ thenT s u n = [-1 - (n : Int)]) := by rintro (e | e); exact a4 (hT ▸ e); exact h7 e
          rw [if_neg hne, if_neg (by simp)]
end Go.Qu

/- Binds: what the program's functions hand back. For every input; no condition. -/
set_option linter.unusedVariables false
set_option linter.unusedSimpArgs false
set_option maxRecDepth 100000
namespace Go.Proofs.YtgoccciejigpeaaDoor.Ab
open Go Go.Ab Go.Qu Go.Proofs
attribute [local simp] and_assoc
/-- Not too many binds. -/
def LenB (s : List Bd) : Prop := s.length ≤ 10000000000000
def rowAt (s : List Bd) (i : Nat) : Row := match s[i]? with | some b => b.r | none => ⟨true, [], []⟩
theorem w_bfind {s : List Bd} (hl : LenB s) (z : Bool) (e : List D) (v : Int) : C 29 [iBd z s e, iI v] = some (iS (findB s v).z (findB s v).l (findB s v).e, [iBd z s e, iI v]) := by
  unfold LenB at hl
  refine wfn (lk := []) rfl rfl (fnW_way (q29 _ _ z (bds s) e v _) ?_)
  rcases blk_find (F := F) (d := d29) (lk := []) (p := [1,0,1,0,0]) (p0 := [1,0,1]) (by kernel_rfl) (n := s.length) (id := 0) (st := fun i => [(1, iI v), (7, iBd z s e), (8, iI s.length), (9, iI i)]) (q := fun i => match s[i]? with | some b => b.v == v | none => false) (rt := fun i => [(4, iS (rowAt s i).z (rowAt s i).l (rowAt s i).e)]) (e := [(1, iI v), (7, iBd z s e), (8, iI s.length), (9, iI s.length)])
    (fun i hi hq => by
      refine wpQ_way (q29_l0a _ _ v z (bds s) e _ i _) ?_
      obtain ⟨b, hb⟩ := at_lt hi
      simp [hb] at hq
      have hr : rowAt s i = b.r := by simp [rowAt, hb]
      simp [-Bool.exists_bool, -getElem?_pos, wr1 hi (by omega), hi, bds_at hb, hq, hr])
    (fun i hi hq => by
      refine wpQ_way (q29_l0a _ _ v z (bds s) e _ i _) ?_
      obtain ⟨b, hb⟩ := at_lt hi
      simp [hb] at hq
      have hr : rowAt s i = b.r := by simp [rowAt, hb]
      simp [-Bool.exists_bool, -getElem?_pos, wr1 hi (by omega), hi, bds_at hb, hq, hr])
    (wpQ_way (q29_l0a _ _ v z (bds s) e _ s.length _) (by simp)) 0 (Nat.zero_le _) with ⟨h2, h3⟩ | ⟨j, h1, h2, h4, h5, h3⟩
  · have hf : findB s v = ⟨true, [], []⟩ := findB_none (fun k hk c hc => by
      have := h2 k (Nat.zero_le _) hk
      rw [hc] at this; simpa using this)
    rw [hf]
    simp at h3
    refine Or.inr ⟨_, _, _, _, _, _, by rw [bds_len]; exact h3, rfl⟩
  · obtain ⟨b, hb⟩ := at_lt h2
    rw [hb] at h4
    have hf : findB s v = b.r := findB_some hb (by simpa using h4) (fun k hk c hc => by
      have := h5 k (Nat.zero_le _) hk
      rw [hc] at this; simpa using this)
    have hr : rowAt s j = b.r := by simp [rowAt, hb]
    rw [hf]
    simp at h3
    rw [hr] at h3
    refine Or.inl ⟨_, _, _, by rw [bds_len]; exact h3, rfl⟩
theorem w_isterm (z z' : Bool) (g : List Sym) (e e' : List D) (r : List Int) : C 22 [iG z g e, iS z' r e'] = some (iB (oneB g r), [iG z g e, iS z' r e']) := by
  refine wfn (lk := []) rfl rfl (fnW_way (q22 _ _ z (syms g) e z' (ints r) e' _) ?_)
  have h1 := w_begins z z' g e e' r
  refine ⟨_, _, _, _, _, h1, ?_⟩
  cases h : rowB g r
  · simp [oneB, h]
  · rw [condW_tt, ints_len]
    have e1 : (begsM g r).length = termsN g r := rfl
    rw [e1]
    by_cases h1 : termsN g r = 1
    · simp [oneB, h, h1]
    · have h2 : ((termsN g r : Int) == 1) = false := by simp; omega
      rw [h2, condW_ff]
      simp [oneB, h, h1]
theorem w_balone {t : List Int} (ht : Len t) (z : Bool) (e : List D) (v : Int) (hv : -1000000 ≤ v ∧ v ≤ 1000000) : C 23 [iS z t e, iI v] = some (iB (aloneB t v), [iS z t e, iI v]) := by
  refine wfn (lk := []) rfl rfl (fnW_way (q23 _ _ z (ints t) e v _) ?_)
  have hw : IntKind.wrap .i64 (-1 - v) = -1 - v := wr _ (by omega) (by omega)
  have hn := w_number v
  rw [hw] at hn
  match t with
  | [] => simp [aloneB, ints_nil]
  | [c] =>
    by_cases h : c = -1 - v
    · simp [-Bool.exists_bool, aloneB, ints_cons, ints_nil, hn, h]
    · simp [-Bool.exists_bool, aloneB, ints_cons, ints_nil, hn, h]
  | c :: d :: t =>
    have h2 : ((((ints (c :: d :: t)).length : Nat) : Int) == 1) = false := by rw [ints_len]; simp; omega
    rw [h2, condW_ff]
    simp [aloneB]
theorem w_bmay {s : List Bd} (hl : LenB s) (z z' : Bool) (g : List Sym) (e e' : List D) : C 8 [iG z g e, iBd z' s e'] = some (iB (bindB g s), [iG z g e, iBd z' s e']) := by
  unfold LenB at hl
  refine wfn (lk := []) rfl rfl (fnW_way (q8 _ _ z (syms g) e z' (bds s) e' _) ?_)
  have h1 := w_may z g e
  refine ⟨_, _, h1, ?_⟩
  cases hg : sigB g
  · simp [bindB, hg]
  rw [condW_tt]
  have turn : ∀ i, i < s.length → ∀ Q : Out → Prop, condW (bindAt g s i) (Q (.norm [(0, iG z g e), (1, iBd z' s e'), (10, iBd z' s e'), (11, iI s.length), (12, iI (i + 1 : Nat))])) (Q (.ret [(4, iB false)])) → wpQ F (Go.Ab.W F) R L8 (JW F d8 []) d8 [] [1,1,0,1,0,0] [(0, iG z g e), (1, iBd z' s e'), (10, iBd z' s e'), (11, iI s.length), (12, iI i)] Q := fun i hi Q hQ => by
    obtain ⟨b, hb⟩ := at_lt hi
    rw [q8_l0a]
    have hi' : (i : Int) < (s.length : Int) := by omega
    have hi0 : (0 : Int) ≤ (i : Int) := by omega
    rw [condW_d, if_pos hi', condW_d, if_pos hi0, Int.toNat_natCast]
    refine ⟨_, _, _, _, bds_at hb, ?_⟩
    rw [condW_d, condW_d]
    unfold bindAt at hQ
    rw [hb] at hQ
    dsimp only at hQ
    by_cases c1 : b.v < 0
    · rw [if_pos c1]
      have : ¬ 0 ≤ b.v := by omega
      simpa [this] using hQ
    rw [if_neg c1]
    have c1' : 0 ≤ b.v := by omega
    by_cases c2 : b.v > 23
    · rw [if_pos c2]
      have : ¬ b.v ≤ 23 := by omega
      simpa [this] using hQ
    rw [if_neg c2, condW_d]
    have c2' : b.v ≤ 23 := by omega
    have ht := w_isterm z b.r.z g e b.r.e b.r.l
    have tail : ∀ {x : Bool}, x = true → condW (x && (oneB g b.r.l && !(aloneB b.r.l b.v))) (Q (.norm [(0, iG z g e), (1, iBd z' s e'), (10, iBd z' s e'), (11, iI s.length), (12, iI (i + 1 : Nat))])) (Q (.ret [(4, iB false)])) → ∃ w8 w9 w10, C 22 [iG z g e, iS b.r.z b.r.l b.r.e] = some (IV.d (D.bool w8), [w9, w10]) ∧ condW w8 (∃ w11 w12 w13, C 23 [iS b.r.z b.r.l b.r.e, iI b.v] = some (IV.d (D.bool w11), [w12, w13]) ∧ condW w11 (Q (Out.ret [(4, iB false)])) (Q (Out.norm [(0, iG z g e), (1, iBd z' s e'), (10, iBd z' s e'), (11, iI s.length), (12, iI (IntKind.wrap .i64 ((i : Int) + 1)))]))) (Q (Out.ret [(4, iB false)])) := fun {x} hx hq => by
      refine ⟨_, _, _, ht, ?_⟩
      subst hx
      cases ho : oneB g b.r.l
      · rw [ho] at hq; simpa using hq
      · rw [condW_tt]
        have hlen := (one_lenN ho).2.1
        refine ⟨_, _, _, w_balone (by unfold Len; omega) b.r.z b.r.e b.v ⟨by omega, by omega⟩, ?_⟩
        rw [ho] at hq
        cases ha : aloneB b.r.l b.v
        · rw [ha] at hq; rw [condW_ff, wr1 hi (by omega)]; simpa using hq
        · rw [ha] at hq; rw [condW_tt]; simpa using hq
    rw [decide_eq_true c1', decide_eq_true c2', Bool.true_and, Bool.true_and] at hQ
    by_cases c3 : i = 0
    · subst c3
      rw [if_neg (by simp)]
      refine tail (x := match s[0 - 1]? with | some a => decide (0 = 0) || decide (a.v < b.v) | none => true) ?_ hQ
      split <;> rfl
    · have hw : IntKind.wrap .i64 ((i : Int) - 1) = ((i - 1 : Nat) : Int) := by rw [wr _ (by omega) (by omega)]; omega
      obtain ⟨a, ha⟩ := at_lt (l := s) (i := i - 1) (by omega)
      rw [if_pos (by omega), hw, condW_d, if_pos (by omega), Int.toNat_natCast]
      refine ⟨_, _, _, _, bds_at ha, ?_⟩
      rw [condW_d]
      rw [ha] at hQ
      dsimp only at hQ
      by_cases c4 : a.v ≥ b.v
      · rw [if_pos c4]
        have : ¬ a.v < b.v := by omega
        simpa [this, c3] using hQ
      · rw [if_neg c4]
        refine tail (x := decide (i = 0) || decide (a.v < b.v)) ?_ hQ
        simp; omega
  rcases blk_all (F := F) (d := d8) (lk := []) (p := [1,1,0,1,0,0]) (p0 := [1,1,0,1]) (by kernel_rfl) (n := s.length) (id := 0) (st := fun i => [(0, iG z g e), (1, iBd z' s e'), (10, iBd z' s e'), (11, iI s.length), (12, iI i)]) (q := bindAt g s) (rt := [(4, iB false)]) (e := [(0, iG z g e), (1, iBd z' s e'), (10, iBd z' s e'), (11, iI s.length), (12, iI s.length)])
    (fun i hi hq => wpQ_way rfl (turn i hi _ (by rw [hq, condW_tt])))
    (fun i hi hq => wpQ_way rfl (turn i hi _ (by rw [hq, condW_ff])))
    (wpQ_way (q8_l0a _ _ z (syms g) e z' (bds s) e' z' (bds s) e' _ s.length _) (by simp)) 0 (Nat.zero_le _) with ⟨h2, h3⟩ | ⟨⟨j, h2, h4, h5⟩, h3⟩
  · have h6 : bindB g s = true := by
      simp only [bindB, hg, Bool.true_and, List.all_eq_true, List.mem_range]
      exact fun j hj => h2 j (Nat.zero_le _) hj
    rw [h6]
    simp at h3
    exact Or.inr ⟨_, _, _, _, _, _, _, _, _, _, _, by rw [bds_len]; exact h3, rfl⟩
  · have h6 : bindB g s = false := by
      simp only [bindB, hg, Bool.true_and]
      rw [List.all_eq_false]
      exact ⟨j, List.mem_range.2 h4, by simp [h5]⟩
    rw [h6]
    simp at h3
    exact Or.inl ⟨_, by rw [bds_len]; exact h3, rfl⟩
theorem w_on {g : List Sym} {s : List Bd} (hs : bindB g s = true) (hn : NilOk s) (hl : LenB s) {r : List Int} (hr : r.length ≤ 1000) (hc : ∀ c ∈ r, -1000000 ≤ c ∧ c ≤ 1000000) (z z' : Bool) (e e' : List D) : C 18 [iBd z s e, iS z' r e'] = some (.own (onB s r).isEmpty 3 1 (ints (onB s r)), [iBd z s e, iS z' r e']) := by
  refine wfn (lk := []) rfl rfl (fnW_way (q18 _ _ z (bds s) e z' (ints r) e' _) ?_)
  have h1 := fun x hx => blk_fun (F := F) (d := d18) (lk := []) (p := [1,1,0,1,0,0]) (p0 := [1,1,0,1]) (id := 0) (by kernel_rfl) (st := fun (x : List Int × Nat) => [(0, iBd z s e), (5, .own x.1.isEmpty 3 1 (ints x.1)), (9, iS z' r e'), (10, iI r.length), (11, iI x.2)]) (I := fun x => x.2 ≤ r.length ∧ x.1.length ≤ 48 * x.2) (μ := fun x => r.length - x.2)
    (res := fun x => .norm [(0, iBd z s e), (5, .own (x.1 ++ onB s (r.drop x.2)).isEmpty 3 1 (ints (x.1 ++ onB s (r.drop x.2)))), (9, iS z' r e'), (10, iI r.length), (11, iI r.length)])
    (fun x hx => by
      obtain ⟨acc, i⟩ := x
      obtain ⟨hx1, hx2⟩ := hx
      dsimp only at hx1 hx2
      by_cases hi : i < r.length
      · have hci := hc _ (gi_mem hi)
        have hi' : (i : Int) < (r.length : Int) := by omega
        have hi0 : (0 : Int) ≤ (i : Int) := by omega
        have hw : IntKind.wrap .i64 (-1 - gi r i) = -1 - gi r i := wr _ (by omega) (by omega)
        have hnu := w_number (gi r i)
        rw [hw] at hnu
        have hf := w_bfind hl z e (-1 - gi r i)
        have hcl := onC_len hs hn (gi r i)
        refine .go (acc ++ onC s (gi r i), i + 1) (wpQ_way (q18_l0a _ _ z (bds s) e _ (ints acc) z' (ints r) e' _ i _) ?_) ⟨by dsimp only; omega, by simp; omega⟩ (by dsimp only; omega) ?_
        · rw [condW_d, if_pos hi', condW_d, if_pos hi0, Int.toNat_natCast]
          refine ⟨_, Go.Ab.ints_at hi, _, _, hnu, _, _, _, _, _, hf, ?_⟩
          rw [wr1 hi (by omega), ints_len, condW_d]
          have n1 : acc.length + (0 + 1) ≤ 9223372036854775807 := by omega
          have n2 : (acc.length + (0 + 1)) * 8 ≤ 140737488355328 := by omega
          have h1c : ∀ c : Int, onC s (gi r i) = [c] → Out.norm [(0, iBd z s e), (5, IV.own (acc.isEmpty && false) 3 1 (ints acc ++ [D.int .i64 c])), (9, iS z' r e'), (10, iI r.length), (11, iI (i + 1 : Nat))] = Out.norm [(0, iBd z s e), (5, .own (acc ++ onC s (gi r i)).isEmpty 3 1 (ints (acc ++ onC s (gi r i)))), (9, iS z' r e'), (10, iI r.length), (11, iI (i + 1 : Nat))] := fun c h => by
            rw [h]; simp [ints_append, ints_cons, ints_nil]
          by_cases h0 : 0 ≤ gi r i
          · rw [if_pos h0, condW_d, if_pos n1, condW_d, if_pos n2]
            exact h1c _ (by rw [onC, if_pos h0])
          · rw [if_neg h0]
            cases hz : (findB s (-1 - gi r i)).z
            · have hl1 : (findB s (-1 - gi r i)).l.length ≤ 48 := by
                rcases find_ok hs hn (-1 - gi r i) with ⟨a, _⟩ | ⟨_, a, _⟩
                · rw [hz] at a; cases a
                · exact (one_lenN a).2.1
              rw [condW_ff, ints_len, condW_d, if_pos (by omega), condW_d, if_pos (by omega)]
              have hon : onC s (gi r i) = (findB s (-1 - gi r i)).l := by rw [onC, if_neg h0, if_neg (by simp [hz])]
              rw [hon]
              cases hfl : (findB s (-1 - gi r i)).l <;> simp [ints_append, ints_nil, ints_cons]
            · rw [condW_tt, condW_d, if_pos n1, condW_d, if_pos n2]
              exact h1c _ (by rw [onC, if_neg h0, if_pos hz])
        · dsimp only
          rw [gi_drop hi, onB, List.append_assoc]
      · have e1 : i = r.length := by omega
        subst e1
        refine .stop (.exit 0 [(0, iBd z s e), (5, .own acc.isEmpty 3 1 (ints acc)), (9, iS z' r e'), (10, iI r.length), (11, iI r.length)]) (wpQ_way (q18_l0a _ _ z (bds s) e _ (ints acc) z' (ints r) e' _ r.length _) (by simp)) rfl ?_
        simp [blkO, onB]) x hx
  have h2 : evP F (Go.Ab.W F) (JW F d18 []) d18 [] [1,1,0,1] [(0, iBd z s e), (5, .own true 3 1 []), (9, iS z' r e'), (10, iI r.length), (11, iI 0)] = _ := h1 ([], 0) ⟨Nat.zero_le _, Nat.zero_le _⟩
  rw [List.drop_zero, List.nil_append] at h2
  rw [ints_len]
  exact ⟨_, _, _, _, _, _, _, _, _, _, h2, rfl⟩
/-- What Apply hands back. -/
def appE (g : List Sym) (s : List Bd) (r : List Int) : Int := if (bindB g s && rowB g r) = true then (if (onB s r).length > 48 then 301 else 0) else 300
def appV (g : List Sym) (s : List Bd) (r : List Int) : List Int := if appE g s r = 0 then onB s r else []
theorem w_apply {s : List Bd} (hn : NilOk s) (hl : LenB s) (z z' z'' : Bool) (g : List Sym) (e e' e'' : List D) (r : List Int) : C 6 [iG z g e, iBd z' s e', iS z'' r e''] = some (.tup [.own (appV g s r).isEmpty 3 1 (ints (appV g s r)), iI (appE g s r)], [iG z g e, iBd z' s e', iS z'' r e'']) := by
  refine wfn (lk := []) rfl rfl (fnW_way (q6 _ _ z (syms g) e z' (bds s) e' z'' (ints r) e'' _) ?_)
  refine ⟨_, _, _, w_bmay hl z z' g e e', ?_⟩
  cases hs : bindB g s
  · have h1 : appE g s r = 300 := by simp [appE, hs]
    have h2 : appV g s r = [] := by simp [appV, h1]
    rw [condW_ff, h1, h2]; rfl
  rw [condW_tt]
  refine ⟨_, _, _, w_isrow z z'' g e e'' r, ?_⟩
  cases hr : rowB g r
  · have h1 : appE g s r = 300 := by simp [appE, hr]
    have h2 : appV g s r = [] := by simp [appV, h1]
    rw [condW_ff, h1, h2]; rfl
  rw [condW_tt]
  have hlen := (rowB_parts hr).2.1
  refine ⟨_, _, _, _, w_on hs hn hl (r := r) (by omega) (fun c hc => by have := row_codes hr c hc; have := (sigOk (rowB_parts hr).1).hi; omega) z' z'' e' e'', ?_⟩
  rw [ints_len, condW_d]
  by_cases h48 : (onB s r).length > 48
  · have h1 : appE g s r = 301 := by simp [appE, hs, hr, h48]
    have h2 : appV g s r = [] := by simp [appV, h1]
    rw [if_pos (by omega), h1, h2]; rfl
  · have h1 : appE g s r = 0 := by simp [appE, hs, hr, h48]
    have h2 : appV g s r = onB s r := by simp [appV, h1]
    rw [if_neg (by omega), h1, h2]
theorem w_bclone {t : List Int} (ht : Len t) (z : Bool) (hz : z = true → t = []) (e : List D) : C 37 [iS z t e] = some (.own z 3 1 (ints t), [iS z t e]) := by
  refine wfn (lk := []) rfl rfl (fnW_way (q37 _ _ z (ints t) e _) ?_)
  unfold Len at ht
  cases z
  · rw [condW_ff, ints_len, condW_d, if_pos (by omega), condW_d, if_pos (by omega)]
  · rw [condW_tt, hz rfl]; rfl
theorem w_then {g : List Sym} {s u : List Bd} (hn : NilOk s) (hl : LenB s) (hm : NilOk u) (hk : LenB u) (z z' z'' : Bool) (e e' e'' : List D) : C 26 [iG z g e, iBd z' s e', iBd z'' u e''] = some (if (bindB g s && bindB g u) = true then (match thenM s u with | some t => .tup [.own t.isEmpty 40 2 (bds t), iI 0] | none => .tup [.own true 40 2 [], iI 301]) else .tup [.own true 40 2 [], iI 300], [iG z g e, iBd z' s e', iBd z'' u e'']) := by
  refine wfn (lk := []) rfl rfl (fnW_way (q26 _ _ z (syms g) e z' (bds s) e' z'' (bds u) e'' _) ?_)
  refine ⟨_, _, _, w_bmay hl z z' g e e', ?_⟩
  cases hs : bindB g s
  · rfl
  rw [condW_tt]
  refine ⟨_, _, _, w_bmay hk z z'' g e e'', ?_⟩
  cases hu : bindB g u
  · rfl
  rw [condW_tt]
  have h1 := fun x hx => blk_fun (F := F) (d := d26) (lk := []) (p := [1,1,1,0,1,0,0]) (p0 := [1,1,1,0,1]) (id := 0) (by kernel_rfl) (st := fun (x : List Bd × Nat) => [(1, iBd z' s e'), (2, iBd z'' u e''), (8, .own x.1.isEmpty 40 2 (bds x.1)), (21, iI x.2)]) (I := fun x => x.2 ≤ 24 ∧ x.1.length ≤ x.2) (μ := fun x => 24 - x.2)
    (res := fun x => match thenF s u (24 - x.2) x.2 with | some t => .norm [(1, iBd z' s e'), (2, iBd z'' u e''), (8, .own (x.1 ++ t).isEmpty 40 2 (bds (x.1 ++ t))), (21, iI 24)] | none => .ret [(6, .own true 40 2 []), (7, iI 301)])
    (fun x hx => by
      obtain ⟨acc, v⟩ := x
      obtain ⟨hx1, hx2⟩ := hx
      dsimp only at hx1 hx2
      by_cases hv : v < 24
      · have hv' : (v : Int) < 24 := by omega
        have e24 : 24 - v = (24 - (v + 1)) + 1 := by omega
        have hf := w_bfind hl z' e' (v : Int)
        have hwv : IntKind.wrap .i64 ((v : Int) + 1) = ((v + 1 : Nat) : Int) := wr1 hv (by omega)
        have n1 : acc.length + (0 + 1) ≤ 9223372036854775807 := by omega
        have n2 : (acc.length + (0 + 1)) * 32 ≤ 140737488355328 := by omega
        -- what the rest of a turn does with the term `t`
        have rest : ∀ (t : List Int) (zz : Bool), thenT s u v = t → (zz = true ↔ t = []) → t.length ≤ 48 → ∀ {Q : Out → Prop}, (if thenT s u v = [] ∨ thenT s u v = [-1 - (v : Int)] then Q (.norm [(1, iBd z' s e'), (2, iBd z'' u e''), (8, .own acc.isEmpty 40 2 (bds acc)), (21, iI (v + 1 : Nat))]) else Q (.norm [(1, iBd z' s e'), (2, iBd z'' u e''), (8, .own (acc ++ [(⟨(v : Int), ⟨false, thenT s u v, []⟩⟩ : Bd)]).isEmpty 40 2 (bds (acc ++ [(⟨(v : Int), ⟨false, thenT s u v, []⟩⟩ : Bd)]))), (21, iI (v + 1 : Nat))])) →
            condW (!zz) (∃ w17 w18 w19, C 23 [iS zz t [], iI v] = some (IV.d (D.bool w17), [w18, w19]) ∧ condW w17 (Q (.norm [(1, iBd z' s e'), (2, iBd z'' u e''), (8, .own acc.isEmpty 40 2 (bds acc)), (21, iI (v + 1 : Nat))])) (condW (decide (acc.length + (0 + 1) ≤ 9223372036854775807)) (condW (decide ((acc.length + (0 + 1)) * 32 ≤ 140737488355328)) (Q (.norm [(1, iBd z' s e'), (2, iBd z'' u e''), (8, .own (acc.isEmpty && false) 40 2 (bds acc ++ [D.agg [D.int .i64 v, D.sl 1 zz (ints t) []]])), (21, iI (v + 1 : Nat))])) False) False)) (Q (.norm [(1, iBd z' s e'), (2, iBd z'' u e''), (8, .own acc.isEmpty 40 2 (bds acc)), (21, iI (v + 1 : Nat))])) := fun t zz ht hz ht48 {Q} hQ => by
          cases zz
          · have hne : t ≠ [] := fun e => by have := hz.2 e; cases this
            rw [Bool.not_false, condW_tt]
            refine ⟨_, _, _, w_balone (by unfold Len; omega) false [] v ⟨by omega, by omega⟩, ?_⟩
            rw [ht] at hQ
            by_cases ha : t = [-1 - (v : Int)]
            · rw [if_pos (Or.inr ha)] at hQ
              rw [aloneB, decide_eq_true ha, condW_tt]; exact hQ
            · rw [if_neg (by rintro (h | h); exact hne h; exact ha h)] at hQ
              rw [aloneB, decide_eq_false ha, condW_ff, condW_d, if_pos n1, condW_d, if_pos n2]
              have e1 : bds (acc ++ [(⟨(v : Int), ⟨false, t, []⟩⟩ : Bd)]) = bds acc ++ [D.agg [D.int .i64 v, D.sl 1 false (ints t) []]] := by rw [bds_append]; rfl
              have e2 : (acc ++ [(⟨v, ⟨false, t, []⟩⟩ : Bd)]).isEmpty = (acc.isEmpty && false) := by simp
              rw [e1, e2] at hQ
              exact hQ
          · have he : t = [] := hz.1 rfl
            rw [ht, if_pos (Or.inl he)] at hQ
            rw [Bool.not_true, condW_ff]; exact hQ
        have turn : ∀ {Q : Out → Prop}, (if (thenT s u v).length > 48 then Q (.ret [(6, .own true 40 2 []), (7, iI 301)]) else if thenT s u v = [] ∨ thenT s u v = [-1 - (v : Int)] then Q (.norm [(1, iBd z' s e'), (2, iBd z'' u e''), (8, .own acc.isEmpty 40 2 (bds acc)), (21, iI (v + 1 : Nat))]) else Q (.norm [(1, iBd z' s e'), (2, iBd z'' u e''), (8, .own (acc ++ [(⟨(v : Int), ⟨false, thenT s u v, []⟩⟩ : Bd)]).isEmpty 40 2 (bds (acc ++ [(⟨(v : Int), ⟨false, thenT s u v, []⟩⟩ : Bd)]))), (21, iI (v + 1 : Nat))])) → wpQ F (Go.Ab.W F) R L26 (JW F d26 []) d26 [] [1,1,1,0,1,0,0] [(1, iBd z' s e'), (2, iBd z'' u e''), (8, .own acc.isEmpty 40 2 (bds acc)), (21, iI v)] Q := fun {Q} hQ => by
          rw [q26_l0a, condW_d, if_pos hv', hwv]
          refine ⟨_, _, _, _, _, hf, ?_⟩
          have hT : thenT s u v = if (findB s v).z = true then (findB u v).l else onB u (findB s v).l := rfl
          rcases find_ok hs hn v with ⟨a1, a2⟩ | ⟨a1, a2, a3⟩
          · rw [if_pos a1] at hT
            have hon := w_on hu hm hk (r := (findB s v).l) (by rw [a2]; simp) (by rw [a2]; simp) z'' (findB s v).z e'' (findB s v).e
            rw [a2] at hon ⊢
            refine ⟨_, _, _, _, hon, ?_⟩
            have e0 : (onB u []).isEmpty = true := rfl
            rw [e0, condW_tt]
            refine ⟨_, _, _, _, _, w_bfind hk z'' e'' (v : Int), ?_⟩
            have hcl : (findB u v).l.length ≤ 48 ∧ ((findB u v).z = true ↔ (findB u v).l = []) := by
              rcases find_ok hu hm v with ⟨b1, b2⟩ | ⟨b1, b2, b3⟩
              · exact ⟨by rw [b2]; simp, by simp [b1, b2]⟩
              · have h7 := (one_lenN b2)
                refine ⟨h7.2.1, by rw [b1]; simp; intro e; rw [e] at h7; simp [lenN] at h7⟩
            refine ⟨_, _, _, w_bclone (by unfold Len; omega) _ (fun h => hcl.2.1 h) _, ?_⟩
            rw [ints_len, condW_d, if_neg (by omega), bds_len]
            rw [if_neg (by rw [hT]; omega)] at hQ
            exact rest _ _ hT hcl.2 hcl.1 hQ
          · have a0 : ¬ (findB s v).z = true := by simp [a1]
            rw [if_neg a0] at hT
            obtain ⟨hg, h48, h7⟩ := one_lenN a2
            have hrow : rowB g (findB s v).l = true := by simp only [oneB, Bool.and_eq_true] at a2; exact a2.1
            have hon := w_on hu hm hk (r := (findB s v).l) (by omega) (fun c hc => by have := row_codes hrow c hc; have := (sigOk hg).hi; omega) z'' (findB s v).z e'' (findB s v).e
            refine ⟨_, _, _, _, hon, ?_⟩
            have h8 := (onB_len hu hm (findB s v).l).1
            have h9 := lenN_le h7
            have hne : onB u (findB s v).l ≠ [] := by intro e; have h10 := congrArg List.length e; simp only [List.length_nil] at h10; omega
            have e0 : (onB u (findB s v).l).isEmpty = false := by simpa using hne
            rw [e0, condW_ff, ints_len, condW_d, bds_len]
            by_cases h49 : (onB u (findB s v).l).length > 48
            · rw [if_pos (by omega)]
              rw [if_pos (by rw [hT]; exact h49)] at hQ
              exact hQ
            · rw [if_neg (by omega)]
              rw [if_neg (by rw [hT]; exact h49)] at hQ
              exact rest _ false hT (by simp [hne]) (by omega) hQ
        by_cases h49 : (thenT s u v).length > 48
        · refine .stop (.ret [(6, .own true 40 2 []), (7, iI 301)]) (wpQ_way rfl (turn (by rw [if_pos h49]))) rfl ?_
          dsimp only
          rw [e24, thenF, if_pos h49]; rfl
        · by_cases hc : thenT s u v = [] ∨ thenT s u v = [-1 - (v : Int)]
          · refine .go (acc, v + 1) (wpQ_way rfl (turn (by rw [if_neg h49, if_pos hc]))) ⟨by dsimp only; omega, by dsimp only; omega⟩ (by dsimp only; omega) ?_
            dsimp only
            rw [e24, thenF, if_neg h49]
            cases thenF s u (24 - (v + 1)) (v + 1) with
            | none => rfl
            | some t => rw [Option.map_some, if_pos hc]
          · refine .go (acc ++ [(⟨(v : Int), ⟨false, thenT s u v, []⟩⟩ : Bd)], v + 1) (wpQ_way rfl (turn (by rw [if_neg h49, if_neg hc]))) ⟨by dsimp only; omega, by simp; omega⟩ (by dsimp only; omega) ?_
            dsimp only
            rw [e24, thenF, if_neg h49]
            cases thenF s u (24 - (v + 1)) (v + 1) with
            | none => rfl
            | some t => rw [Option.map_some, if_neg hc]; dsimp only; rw [List.append_assoc]; rfl
      · have e1 : v = 24 := by omega
        subst e1
        refine .stop (.exit 0 [(1, iBd z' s e'), (2, iBd z'' u e''), (8, .own acc.isEmpty 40 2 (bds acc)), (21, iI 24)]) (wpQ_way (q26_l0a _ _ z' (bds s) e' z'' (bds u) e'' _ (bds acc) _ _) (by simp)) rfl ?_
        simp [blkO, thenF]) x hx
  have h2 : evP F (Go.Ab.W F) (JW F d26 []) d26 [] [1,1,1,0,1] [(1, iBd z' s e'), (2, iBd z'' u e''), (8, .own true 40 2 []), (21, iI 0)] = _ := h1 ([], 0) ⟨Nat.zero_le _, Nat.zero_le _⟩
  dsimp only at h2
  simp only [Nat.sub_zero, List.nil_append] at h2
  unfold thenM
  cases ht : thenF s u 24 0 with
  | none =>
    rw [ht] at h2
    exact Or.inl ⟨_, _, _, h2, rfl⟩
  | some t =>
    rw [ht] at h2
    exact Or.inr ⟨_, _, _, _, _, _, _, _, _, h2, rfl⟩
end Go.Proofs.YtgoccciejigpeaaDoor.Ab

/- A signature of words; rows one behind the other, a row without its last code. Plain lists, no program in sight; no condition. -/
set_option linter.unusedVariables false
set_option linter.unusedSimpArgs false
namespace Go.Qu
open Go Go.Ab
def wordsG : List Sym := [⟨⟨#[61]⟩, 0, 2, 1⟩, ⟨⟨#[97]⟩, 1, 0, 1⟩, ⟨⟨#[98]⟩, 1, 0, 2⟩, ⟨⟨#[102]⟩, 1, 1, 1⟩, ⟨⟨#[103]⟩, 1, 2, 3⟩, ⟨⟨#[112]⟩, 0, 1, 1⟩, ⟨⟨#[114]⟩, 0, 2, 2⟩]
theorem wordsB : sigB wordsG = true := by decide +kernel
theorem sumW_app {g : List Sym} : ∀ (a b : List Int), sumW g (a ++ b) = sumW g a + sumW g b
  | [], b => by simp [sumW]
  | c :: a, b => by rw [List.cons_append, sumW, sumW, sumW_app a b, Int.add_assoc]
theorem begs_app : ∀ (ts us : List (List Int)) (i : Nat), begs i (ts ++ us) = begs i ts ++ begs (i + ts.flatten.length) us
  | [], us, i => by simp [begs]
  | t :: ts, us, i => by
    rw [List.cons_append, begs, begs, begs_app ts us, List.cons_append]
    congr 3
    rw [List.flatten_cons, List.length_append]; omega
theorem begs_zero {ts : List (List Int)} (h : ts ≠ []) : (begs 0 ts)[0]? = some 0 := by
  cases ts with
  | nil => exact absurd rfl h
  | cons t ts => simp [begs]
/-- Of a row that isn't empty: its last term, where it begins. -/
theorem row_last {g : List Sym} {r : List Int} {ts : List (List Int)} (h : parts g r = some ts) (hr : r ≠ []) : ∃ us t, ts = us ++ [t] ∧ 1 ≤ t.length ∧ r.length = us.flatten.length + t.length ∧ (begs 0 ts)[us.length]? = some ((us.flatten.length : Nat) : Int) ∧ (begs 0 ts).length = us.length + 1 := by
  have hts : ts ≠ [] := by
    rintro rfl
    have := (parts_lens _ _ (Nat.le_refl _) h).2
    exact hr (by simpa using this.symm)
  have e := List.dropLast_concat_getLast hts
  refine ⟨ts.dropLast, ts.getLast hts, e.symm, ?_, ?_, ?_, ?_⟩
  · have := (parts_mem _ (Nat.le_refl _) h (ts.getLast hts) (List.getLast_mem hts)).1
    exact List.length_pos_iff.2 this
  · have h1 := (parts_lens _ _ (Nat.le_refl _) h).2
    rw [← e] at h1
    have := congrArg List.length h1
    simp at this ⊢; omega
  · rw [← e, begs_app, List.dropLast_concat, ← begs_len ts.dropLast 0, List.getElem?_append_right (Nat.le_refl _), Nat.sub_self]
    simp [begs]
  · rw [begs_len]; rw [← e]; simp
/-- A term in front of which its code stands. -/
theorem nest_lenN {a b : List Int} (ha : lenN wordsG a 1 = some a.length) (hb : lenN wordsG b 1 = some b.length) : lenN wordsG (4 :: (a ++ b)) 1 = some (a.length + b.length + 1) := by
  have h2 : arOf wordsG 4 = some 2 := rfl
  have h3 := lenN_split (g := wordsG) 1 (lenN_app b ha)
  rw [List.drop_left, hb] at h3
  rw [show (1 : Nat) = 0 + 1 from rfl, lenN_cons h2, show 0 + 2 = 1 + 1 from rfl, h3]; rfl
theorem rep_parts : ∀ (n : Nat), parts wordsG (List.replicate n 1) = some (List.replicate n [1])
  | 0 => parts_nil _
  | n + 1 => by
    have h1 : parts wordsG [1] = some [[1]] := parts_one (r := [1]) (k := 1) rfl
    have := parts_join h1 (rep_parts n)
    rw [List.replicate_succ, List.replicate_succ]; exact this
theorem rep_row (n : Nat) : rowB wordsG (List.replicate n 1) = decide (n ≤ 48) ∧ termsN wordsG (List.replicate n 1) = if n ≤ 48 then n else 0 := by
  by_cases h : n ≤ 48
  · rw [rowB_of wordsB (by simp; omega) (rep_parts n), termsN_of wordsB (by simp; omega) (rep_parts n)]
    simp [h]
  · have hb : rowB wordsG (List.replicate n 1) = false := by simp [rowB, rowP, h]
    rw [hb, termsN_no hb]; simp [h]
def isW (c : Int) : Bool := (decide (c ≤ -1) && decide (c ≥ -24)) || (c == 1 || c == 2)
theorem one_row (c : Int) : rowB wordsG [c] = isW c := by
  have hp : (parts wordsG [c]).isSome = (lenN wordsG [c] 1).isSome := by
    cases hl : lenN wordsG [c] 1 with
    | none => rw [parts_none (by simp) hl]; rfl
    | some k =>
      have hle := lenN_le hl
      simp at hle
      have hk : k = 1 := by omega
      subst hk
      rw [parts_some (by simp) hl, List.drop_succ_cons, List.drop_nil, parts_nil]; rfl
  have h1 : rowB wordsG [c] = (lenN wordsG [c] 1).isSome := by
    rw [rowB, wordsB, Bool.true_and, rowP, if_pos (by simp), hp]
  rw [h1]
  have h2 : ∀ a : Option Nat, arOf wordsG c = a → (lenN wordsG [c] 1).isSome = decide (a = some 0) := by
    intro a ha
    rw [show (1 : Nat) = 0 + 1 from rfl]
    unfold lenN
    rw [ha]
    cases a with
    | none => rfl
    | some k => cases k <;> simp [lenN]
  rw [h2 _ rfl]
  unfold arOf isW
  by_cases h0 : c < 0
  · rw [if_pos h0]
    have e1 : (c == 1) = false := by simp; omega
    have e2 : (c == 2) = false := by simp; omega
    have e3 : decide (c ≤ -1) = true := decide_eq_true (by omega)
    rw [e1, e2, e3]
    by_cases h24 : -24 ≤ c
    · simp [h24]
    · have : ¬ c ≥ -24 := h24
      simp [h24]
  · rw [if_neg h0]
    have e3 : decide (c ≤ -1) = false := decide_eq_false (by omega)
    rw [e3]
    by_cases h7 : c < 7
    · have : c = 0 ∨ c = 1 ∨ c = 2 ∨ c = 3 ∨ c = 4 ∨ c = 5 ∨ c = 6 := by omega
      rcases this with rfl | rfl | rfl | rfl | rfl | rfl | rfl <;> decide
    · have hn : wordsG[c.toNat]? = none := List.getElem?_eq_none (by show 7 ≤ _; omega)
      have e1 : (c == 1) = false := by simp; omega
      have e2 : (c == 2) = false := by simp; omega
      rw [hn, e1, e2]; simp
end Go.Qu

/- Variables that are made greater; a bind of one variable; a term that is put in often. Plain lists, no program in sight; no condition. -/
set_option linter.unusedVariables false
set_option linter.unusedSimpArgs false
namespace Go.Qu
open Go Go.Ab
def okS (r : List Int) (b : Int) : Bool := r.all fun c => decide (0 ≤ c) || (decide (1 + c ≤ b) && decide (b ≤ 24 + c))
def shC (b c : Int) : Int := if c < 0 then c - b else c
def shiftM (r : List Int) (b : Int) : List Int := r.map (shC b)
theorem okS_iff {r : List Int} {b : Int} : okS r b = true ↔ ∀ c ∈ r, c < 0 → 1 + c ≤ b ∧ b ≤ 24 + c := by
  unfold okS
  rw [List.all_eq_true]
  constructor
  · intro h c hc h0
    have := h c hc
    simp only [Bool.or_eq_true, Bool.and_eq_true, decide_eq_true_eq] at this
    omega
  · intro h c hc
    have := h c hc
    simp only [Bool.or_eq_true, Bool.and_eq_true, decide_eq_true_eq]
    omega
theorem okS_vars {r : List Int} (hr : ∀ c ∈ r, -24 ≤ c) (b : Int) : ((varsM r).all fun v => decide (-v ≤ b) && decide (b ≤ 23 - v)) = okS r b := by
  have h : (((varsM r).all fun v => decide (-v ≤ b) && decide (b ≤ 23 - v)) = true) ↔ okS r b = true := by
    rw [okS_iff, List.all_eq_true]
    constructor
    · intro h c hc h0
      have hv : (-1 - c) ∈ varsM r := by
        rw [varsM, mem_varsFrom]
        have := hr c hc
        exact ⟨by omega, by omega, by rw [show -1 - (-1 - c) = c by omega]; exact hc⟩
      have := h _ hv
      simp only [Bool.and_eq_true, decide_eq_true_eq] at this
      omega
    · intro h v hv
      rw [varsM, mem_varsFrom] at hv
      have := h _ hv.2.2 (by omega)
      simp only [Bool.and_eq_true, decide_eq_true_eq]
      omega
  cases h1 : ((varsM r).all fun v => decide (-v ≤ b) && decide (b ≤ 23 - v)) <;> cases h2 : okS r b <;> simp_all
theorem shift_ar {g : List Sym} {b c : Int} (h : c < 0 → 1 + c ≤ b ∧ b ≤ 24 + c) (hc : -24 ≤ c) : arOf g (shC b c) = arOf g c := by
  unfold shC
  split
  · rename_i h0
    have := h h0
    unfold arOf
    rw [if_pos (by omega), if_pos (by omega), if_pos h0, if_pos hc]
  · rfl
theorem shift_lenN {g : List Sym} {b : Int} : ∀ {r : List Int} {n : Nat}, (∀ c ∈ r, c < 0 → 1 + c ≤ b ∧ b ≤ 24 + c) → (∀ c ∈ r, -24 ≤ c) → lenN g (shiftM r b) n = lenN g r n
  | r, 0, h, hr => by cases r <;> rfl
  | [], n + 1, h, hr => rfl
  | c :: r, n + 1, h, hr => by
    have h1 := shift_ar (g := g) (h c (by simp)) (hr c (by simp))
    rw [shiftM, List.map_cons]
    unfold lenN
    rw [h1]
    cases arOf g c with
    | none => rfl
    | some k =>
      dsimp only
      rw [← shift_lenN (r := r) (n := n + k) (fun x hx => h x (by simp [hx])) (fun x hx => hr x (by simp [hx]))]; rfl
theorem shift_row {g : List Sym} {r : List Int} {b : Int} (hr : rowB g r = true) (hb : okS r b = true) : rowB g (shiftM r b) = true := by
  obtain ⟨hg, hl, ts, hts, _⟩ := rowB_parts hr
  have h1 := parts_all _ (Nat.le_refl _) hts
  rw [← shift_lenN (okS_iff.1 hb) (fun c hc => (row_codes hr c hc).1)] at h1
  obtain ⟨us, h2, _⟩ := parts_lenN h1
  have e : (shiftM r b).length = r.length := by simp [shiftM]
  rw [← e, List.take_length] at h2
  exact rowB_of hg (by omega) h2
theorem shC_back {b c m : Int} (h : c < 0 → 1 + c ≤ b ∧ b ≤ 24 + c) (h24 : -24 ≤ c) : shC m (shC b c) = shC (b + m) c := by
  unfold shC
  by_cases h0 : c < 0
  · have := h h0
    rw [if_pos h0, if_pos (by omega), if_pos h0]; omega
  · rw [if_neg h0, if_neg h0, if_neg h0]
theorem shift_shift {r : List Int} {b m : Int} (hb : okS r b = true) (hr : ∀ c ∈ r, -24 ≤ c) : shiftM (shiftM r b) m = shiftM r (b + m) := by
  unfold shiftM
  rw [List.map_map]
  exact List.map_congr_left fun c hc => shC_back (okS_iff.1 hb c hc) (hr c hc)
theorem shift_nought (r : List Int) : shiftM r 0 = r := by
  unfold shiftM
  rw [List.map_congr_left (g := id) (fun c _ => by simp [shC]), List.map_id]
theorem okS_shift {r : List Int} {b m : Int} (hb : okS r b = true) (hr : ∀ c ∈ r, -24 ≤ c) : okS (shiftM r b) m = okS r (b + m) := by
  have h : okS (shiftM r b) m = true ↔ okS r (b + m) = true := by
    rw [okS_iff, okS_iff]
    have h1 := okS_iff.1 hb
    constructor
    · intro h c hc h0
      have h2 := h1 c hc h0
      have := h (shC b c) (List.mem_map_of_mem hc) (by unfold shC; rw [if_pos h0]; omega)
      unfold shC at this; rw [if_pos h0] at this; omega
    · intro h c hc h0
      obtain ⟨x, hx, rfl⟩ := List.mem_map.1 hc
      unfold shC at h0 ⊢
      split at h0
      · rename_i h2
        rw [if_pos h2]
        have := h x hx h2; omega
      · omega
  cases h1 : okS (shiftM r b) m <;> cases h2 : okS r (b + m) <;> simp_all
theorem okS_back {r : List Int} {b : Int} (hb : okS r b = true) (hr : ∀ c ∈ r, -24 ≤ c) : okS (shiftM r b) (-b) = true := by
  rw [okS_shift hb hr, Int.add_right_neg, okS_iff]
  intro c hc h0
  have := hr c hc; omega
/-! ### One bind -/
def oneBd (x y : Int) : List Bd := [⟨x, ⟨false, [-1 - y], []⟩⟩]
theorem oneBd_may {g : List Sym} (hg : sigB g = true) {x y : Int} (hx : 0 ≤ x ∧ x ≤ 23) (hy : 0 ≤ y ∧ y ≤ 23) (hne : x ≠ y) : bindB g (oneBd x y) = true := by
  have h1 : lenN g [-1 - y] 1 = some 1 := by
    have : arOf g (-1 - y) = some 0 := by unfold arOf; rw [if_pos (by omega), if_pos (by omega)]
    rw [show (1 : Nat) = 0 + 1 from rfl, lenN_cons this]; rfl
  have h2 : oneB g [-1 - y] = true := one_of hg (by simp) h1
  have h3 : ¬ [-1 - y] = [-1 - x] := by simp; omega
  simp [bindB, hg, oneBd, bindAt, hx, h2, aloneB, h3]
theorem oneBd_nil (x y : Int) : NilOk (oneBd x y) := fun b hb h => by
  simp [oneBd] at hb; subst hb; cases h
theorem oneBd_on (x y : Int) : ∀ (r : List Int), onB (oneBd x y) r = r.map fun c => if c = -1 - x ∧ c < 0 then -1 - y else c
  | [] => rfl
  | c :: r => by
    rw [onB, oneBd_on x y r, List.map_cons]
    unfold onC
    by_cases h0 : 0 ≤ c
    · rw [if_pos h0, if_neg (by omega)]; rfl
    · rw [if_neg h0]
      by_cases hx : c = -1 - x
      · have : findB (oneBd x y) (-1 - c) = ⟨false, [-1 - y], []⟩ := by simp [oneBd, findB]; omega
        rw [this, if_neg (by simp), if_pos ⟨hx, by omega⟩]; rfl
      · have : findB (oneBd x y) (-1 - c) = ⟨true, [], []⟩ := by
          simp only [oneBd, findB]
          rw [if_neg (by omega)]
        rw [this, if_pos rfl, if_neg (fun h => hx h.1)]; rfl
theorem oneBd_same {x y : Int} (hx : 0 ≤ x) (hne : x ≠ y) (r : List Int) : onB (oneBd x y) r = r ↔ ¬ (-1 - x) ∈ r := by
  rw [oneBd_on]
  constructor
  · intro h hm
    have h1 : ∀ c ∈ r, (if c = -1 - x ∧ c < 0 then -1 - y else c) = c := by
      have h2 : r.map (fun c => if c = -1 - x ∧ c < 0 then -1 - y else c) = r.map id := by rw [h, List.map_id]
      exact List.map_inj_left.1 h2
    have := h1 _ hm
    rw [if_pos ⟨rfl, by omega⟩] at this; omega
  · intro h
    have : ∀ c ∈ r, (if c = -1 - x ∧ c < 0 then -1 - y else c) = c := fun c hc => by
      rw [if_neg]; rintro ⟨rfl, _⟩; exact h hc
    rw [List.map_congr_left (g := id) this, List.map_id]
theorem nil_on : ∀ (r : List Int), onB [] r = r
  | [] => rfl
  | c :: r => by
    rw [onB, nil_on r]
    unfold onC
    split
    · rfl
    · rw [if_pos (by rfl)]; rfl
/-! ### A term that is put in often -/
/-- So many symbols of one argument, and a constant. -/
def towerT : Nat → List Int
  | 0 => [1]
  | n + 1 => 3 :: towerT n
theorem tower_len : ∀ n, (towerT n).length = n + 1
  | 0 => rfl
  | n + 1 => by rw [towerT, List.length_cons, tower_len n]
theorem tower_lenN : ∀ n, lenN wordsG (towerT n) 1 = some (n + 1)
  | 0 => rfl
  | n + 1 => by
    have h3 : arOf wordsG 3 = some 1 := rfl
    rw [towerT, show (1 : Nat) = 0 + 1 from rfl, lenN_cons h3, show 0 + 1 = 1 from rfl, tower_lenN n]; rfl
theorem tower_eq : ∀ n, towerT n = List.replicate n 3 ++ [1]
  | 0 => rfl
  | n + 1 => by rw [towerT, tower_eq n, List.replicate_succ]; rfl
def towBd (n : Nat) : List Bd := [⟨0, ⟨false, towerT n, []⟩⟩]
theorem towBd_may {n : Nat} (h : n ≤ 40) : bindB wordsG (towBd n) = true := by
  have h2 : oneB wordsG (towerT n) = true := one_of wordsB (by rw [tower_len]; omega) (by rw [tower_lenN, tower_len])
  have h3 : ¬ towerT n = [-1] := by
    cases n with
    | zero => decide
    | succ n => rw [towerT]; simp
  simp [bindB, wordsB, towBd, bindAt, h2, aloneB, h3]
theorem towBd_nil (n : Nat) : NilOk (towBd n) := fun b hb h => by
  simp [towBd] at hb; subst hb; cases h
theorem towBd_on (n : Nat) : ∀ (m : Nat), (onB (towBd n) (List.replicate m (-1))).length = (n + 1) * m
  | 0 => rfl
  | m + 1 => by
    rw [List.replicate_succ, onB, List.length_append, towBd_on n m]
    have : onC (towBd n) (-1) = towerT n := rfl
    rw [this, tower_len, Nat.mul_succ]; omega
theorem vars_row : ∀ (m : Nat), parts wordsG (List.replicate m (-1)) = some (List.replicate m [-1])
  | 0 => parts_nil _
  | n + 1 => by
    have h1 : parts wordsG [-1] = some [[-1]] := parts_one (r := [-1]) (k := 1) rfl
    have := parts_join h1 (vars_row n)
    rw [List.replicate_succ, List.replicate_succ]; exact this
/-! ### A row that is filled -/
def fillD (c : Int) (i n : Nat) : List D := List.replicate i (D.int .i64 c) ++ List.replicate (n - i) (D.int .i64 0)
theorem fill_len {c : Int} {i n : Nat} (h : i ≤ n) : (fillD c i n).length = n := by simp [fillD]; omega
theorem fill_at {c : Int} {i n : Nat} (h : i < n) : (fillD c i n)[i]? = some (.int .i64 0) := by
  unfold fillD
  rw [List.getElem?_append_right (by simp), List.length_replicate, Nat.sub_self, show n - i = (n - i - 1) + 1 by omega, List.replicate_succ]; rfl
theorem fill_set {c : Int} {i n : Nat} (h : i < n) : (fillD c i n).set i (.int .i64 c) = fillD c (i + 1) n := by
  unfold fillD
  rw [List.set_append_right _ _ (by simp), List.length_replicate, Nat.sub_self, show n - i = (n - (i + 1)) + 1 by omega, List.replicate_succ, List.set_cons_zero, List.replicate_succ', List.append_assoc]; rfl
theorem fill_zero (c : Int) (n : Nat) : fillD c 0 n = List.replicate n (D.int .i64 0) := by simp [fillD]
theorem fill_all (c : Int) (n : Nat) : fillD c n n = ints (List.replicate n c) := by simp [fillD, ints]
theorem tower_set (n : Nat) : (ints (List.replicate (n + 1) 3)).set n (.int .i64 1) = ints (towerT n) := by
  rw [tower_eq, List.replicate_succ', ints_append, ints_append, List.set_append_right _ _ (by simp [ints]), show (ints (List.replicate n 3)).length = n by simp [ints], Nat.sub_self]; rfl
theorem rem_n (k : Int) {m : Int} (hm : 1 ≤ m ∧ m ≤ 1000) : ∃ n : Nat, IntKind.wrap .i64 (Int.tmod (IntKind.wrap .u64 k) m) = (n : Int) ∧ (n : Int) < m := by
  have h0 : 0 ≤ IntKind.wrap .u64 k := by simp [IntKind.wrap, IntKind.bits, IntKind.signed]; omega
  generalize IntKind.wrap .u64 k = y at h0
  rw [Int.tmod_eq_emod_of_nonneg h0]
  have h1 := Int.emod_nonneg y (show m ≠ 0 by omega)
  have h2 := Int.emod_lt_of_pos y (show 0 < m by omega)
  rw [wr (y % m) (by omega) (by omega)]
  exact ⟨(y % m).toNat, by omega, by omega⟩
end Go.Qu

/- Variables that are made greater: what the program's function hands back. For every input; no condition. -/
set_option linter.unusedVariables false
set_option linter.unusedSimpArgs false
set_option maxRecDepth 100000
namespace Go.Proofs.YtgoccciejigpeaaDoor.Ab
open Go Go.Ab Go.Qu Go.Proofs
attribute [local simp] and_assoc
def shE (g : List Sym) (r : List Int) (b : Int) : Int := if rowB g r = true then (if okS r b = true then 0 else 302) else 300
def shV (g : List Sym) (r : List Int) (b : Int) : List Int := if shE g r b = 0 then shiftM r b else []
def shZ (g : List Sym) (z : Bool) (r : List Int) (b : Int) : Bool := if shE g r b = 0 then z else true
theorem l_shift {r : List Int} (hr : r.length ≤ 1000) (hc : ∀ c ∈ r, -24 ≤ c ∧ c ≤ 1000) {b : Int} (hb : okS r b = true) (z : Bool) :
    evP F (Go.Ab.W F) (JW F d27 []) d27 [] [1,1,1,1,1,0,1] [(2, iI b), (12, .own z 3 1 (ints r)), (43, iI r.length), (44, iI 0), (2042071, .dead)] = some (.norm [(2, iI b), (12, .own z 3 1 (ints (shiftM r b))), (43, iI r.length), (44, iI r.length), (2042071, .dead)]) := by
  have h1 := fun x hx => blk_fun (F := F) (d := d27) (lk := []) (p := [1,1,1,1,1,0,1,0,0]) (p0 := [1,1,1,1,1,0,1]) (id := 2) (by kernel_rfl) (st := fun (i : Nat) => [(2, iI b), (12, .own z 3 1 (ints (shiftM (r.take i) b ++ r.drop i))), (43, iI r.length), (44, iI i), (2042071, .dead)]) (I := fun i => i ≤ r.length) (μ := fun i => r.length - i)
    (res := fun _ => .norm [(2, iI b), (12, .own z 3 1 (ints (shiftM r b))), (43, iI r.length), (44, iI r.length), (2042071, .dead)])
    (fun i hi => by
      by_cases h : i < r.length
      · have hlen : (shiftM (r.take i) b).length = i := by simp [shiftM]; omega
        have hat : (ints (shiftM (r.take i) b ++ r.drop i))[i]? = some (.int .i64 (gi r i)) := by
          rw [ints_append, List.getElem?_append_right (by rw [ints_len, hlen]; exact Nat.le_refl _), ints_len, hlen, Nat.sub_self, gi_drop h]; rfl
        have htake : r.take (i + 1) = r.take i ++ [gi r i] := by rw [List.take_add_one, gi_at h]; rfl
        have hstep : shiftM (r.take (i + 1)) b ++ r.drop (i + 1) = shiftM (r.take i) b ++ shC b (gi r i) :: r.drop (i + 1) := by
          rw [htake]; simp [shiftM]
        have hci := hc _ (gi_mem h)
        refine .go (i + 1) (wpQ_way (q27_l2b _ _ b z _ _ i _) ?_) h (by omega) rfl
        rw [condW_d, if_pos (by omega), condW_d, if_pos (by omega), Int.toNat_natCast]
        refine ⟨_, hat, _, hat, ?_⟩
        rw [condW_d]
        by_cases h0 : gi r i < 0
        · have hok := okS_iff.1 hb _ (gi_mem h) h0
          rw [if_pos h0, condW_d, if_pos (by omega)]
          refine ⟨_, hat, _, hat, ?_⟩
          have hw : IntKind.wrap .i64 (gi r i - b) = shC b (gi r i) := by rw [wr _ (by omega) (by omega), shC, if_pos h0]
          have hset : (ints (shiftM (r.take i) b ++ r.drop i)).set i (.int .i64 (shC b (gi r i))) = ints (shiftM (r.take (i + 1)) b ++ r.drop (i + 1)) := by
            rw [hstep, ints_append, ints_append, List.set_append_right _ _ (by rw [ints_len, hlen]; exact Nat.le_refl _), ints_len, hlen, Nat.sub_self, gi_drop h]; rfl
          rw [hw, hset, wr1 h (by omega)]
        · rw [if_neg h0, wr1 h (by omega)]
          have he : shiftM (r.take (i + 1)) b ++ r.drop (i + 1) = shiftM (r.take i) b ++ r.drop i := by
            rw [hstep, shC, if_neg h0, gi_drop h]
          rw [he]
      · have e1 : i = r.length := by omega
        subst e1
        refine .stop (.exit 2 [(2, iI b), (12, .own z 3 1 (ints (shiftM (r.take r.length) b ++ r.drop r.length))), (43, iI r.length), (44, iI r.length), (2042071, .dead)]) (wpQ_way (q27_l2b _ _ b z _ _ r.length _) ?_) rfl ?_
        · rw [condW_d, if_neg (by omega)]
        · simp [blkO]) x hx
  have h2 := h1 0 (Nat.zero_le _)
  rw [List.take_zero, List.drop_zero] at h2
  exact h2
theorem w_shift (z z' : Bool) (g : List Sym) (e e' : List D) {r : List Int} (hz : z' = true → r = []) (b : Int) : C 27 [iG z g e, iS z' r e', iI b] = some (.tup [.own (shZ g z' r b) 3 1 (ints (shV g r b)), iI (shE g r b)], [iG z g e, iS z' r e', iI b]) := by
  refine wfn (lk := []) rfl rfl (fnW_way (q27 _ _ z (syms g) e z' (ints r) e' b _) ?_)
  refine ⟨_, _, _, _, _, w_vars z z' g e e' r, ?_⟩
  cases hr : rowB g r
  · have h1 : shE g r b = 300 := by simp [shE, hr]
    have h2 : shV g r b = [] := by simp [shV, h1]
    have h3 : shZ g z' r b = true := by simp [shZ, h1]
    rw [h1, h2, h3]
    rfl
  simp only [if_true]
  rw [show ((0 : Int) != 0) = false from rfl, condW_ff]
  obtain ⟨hg, h48, _⟩ := rowB_parts hr
  have hcod := row_codes hr
  have hg20 := (sigOk hg).hi
  have hvl : (varsM r).length ≤ 100000 := by
    have h : ∀ (k v : Nat), (varsFrom r k v).length ≤ k := by
      intro k
      induction k with
      | zero => intro v; simp [varsFrom]
      | succ k ih => intro v; rw [varsFrom]; split <;> (have := ih (v + 1); simp; omega)
    have := h 24 0
    unfold varsM; omega
  have turn : ∀ i (hi : i < (varsM r).length), ∀ Q : Out → Prop, condW (decide (-(gi (varsM r) i) ≤ b) && decide (b ≤ 23 - gi (varsM r) i)) (Q (.norm [(1, iS z' r e'), (2, iI b), (23, .own (varsM r).isEmpty 3 1 (ints (varsM r))), (24, iI (varsM r).length), (25, iI (i + 1 : Nat))])) (Q (.ret [(6, .own true 3 1 []), (7, iI 302)])) → wpQ F (Go.Ab.W F) R L27 (JW F d27 []) d27 [] [1,1,1,0,1,0,0] [(1, iS z' r e'), (2, iI b), (23, .own (varsM r).isEmpty 3 1 (ints (varsM r))), (24, iI (varsM r).length), (25, iI i)] Q := fun i hi Q hQ => by
    rw [q27_l0a, condW_d, if_pos (by omega), condW_d, if_pos (by omega), Int.toNat_natCast]
    have hv := mem_varsFrom.1 (show gi (varsM r) i ∈ varsFrom r 24 0 from gi_mem hi)
    have hv' : (0 : Int) ≤ gi (varsM r) i ∧ gi (varsM r) i < 24 := ⟨hv.1, by have := hv.2.1; omega⟩
    have w1 : IntKind.wrap .i64 (0 - gi (varsM r) i) = -(gi (varsM r) i) := by rw [wr _ (by omega) (by omega)]; omega
    have w2 : IntKind.wrap .i64 (23 - gi (varsM r) i) = 23 - gi (varsM r) i := wr _ (by omega) (by omega)
    refine ⟨_, Go.Ab.ints_at hi, _, Go.Ab.ints_at hi, ?_⟩
    rw [w1, w2, condW_d, condW_d, wr1 hi (by omega)]
    by_cases c1 : b < -(gi (varsM r) i)
    · rw [if_pos c1]
      have : decide (-(gi (varsM r) i) ≤ b) = false := decide_eq_false (by omega)
      rw [this, Bool.false_and, condW_ff] at hQ; exact hQ
    · rw [if_neg c1]
      have h1 : decide (-(gi (varsM r) i) ≤ b) = true := decide_eq_true (by omega)
      rw [h1, Bool.true_and] at hQ
      by_cases c2 : b > 23 - gi (varsM r) i
      · rw [if_pos c2]
        rw [decide_eq_false (by omega), condW_ff] at hQ; exact hQ
      · rw [if_neg c2]
        rw [decide_eq_true (by omega), condW_tt] at hQ; exact hQ
  have hall := okS_vars (fun c hc => (hcod c hc).1) b
  rcases blk_all (F := F) (d := d27) (lk := []) (p := [1,1,1,0,1,0,0]) (p0 := [1,1,1,0,1]) (by kernel_rfl) (n := (varsM r).length) (id := 0) (st := fun i => [(1, iS z' r e'), (2, iI b), (23, .own (varsM r).isEmpty 3 1 (ints (varsM r))), (24, iI (varsM r).length), (25, iI i)]) (q := fun i => decide (-(gi (varsM r) i) ≤ b) && decide (b ≤ 23 - gi (varsM r) i)) (rt := [(6, .own true 3 1 []), (7, iI 302)]) (e := [(1, iS z' r e'), (2, iI b), (23, .own (varsM r).isEmpty 3 1 (ints (varsM r))), (24, iI (varsM r).length), (25, iI (varsM r).length)])
    (fun i hi hq => wpQ_way rfl (turn i hi _ (by rw [hq, condW_tt])))
    (fun i hi hq => wpQ_way rfl (turn i hi _ (by rw [hq, condW_ff])))
    (wpQ_way (q27_l0a _ _ z' (ints r) e' b _ _ _ _ _) (by rw [condW_d, if_neg (by omega)])) 0 (Nat.zero_le _) with ⟨h2, h3⟩ | ⟨⟨j, h2, h4, h5⟩, h3⟩
  · have hok : okS r b = true := by
      rw [← hall, List.all_eq_true]
      intro v hv
      obtain ⟨i, hi, he⟩ := List.getElem_of_mem hv
      have := h2 i (Nat.zero_le _) hi
      simpa [gi, hi, he] using this
    have e1 : shE g r b = 0 := by simp [shE, hr, hok]
    have e2 : shV g r b = shiftM r b := by simp [shV, e1]
    have e3 : shZ g z' r b = z' := by simp [shZ, e1]
    rw [e1, e2, e3, ints_len]
    simp at h3
    refine Or.inr ⟨_, _, _, _, _, _, _, _, h3, _, _, _, w_bclone (row_len hr) z' hz e', Or.inr ⟨b, z', ints (shiftM r b), r.length, r.length, ?_, rfl⟩⟩
    rw [ints_len]
    exact l_shift (by omega) (fun c hc => ⟨(hcod c hc).1, by have := (hcod c hc).2; omega⟩) hok z'
  · have hok : okS r b = false := by
      rw [← hall, List.all_eq_false]
      exact ⟨gi (varsM r) j, gi_mem h4, by simpa using h5⟩
    have e1 : shE g r b = 302 := by simp [shE, hr, hok]
    have e2 : shV g r b = [] := by simp [shV, e1]
    have e3 : shZ g z' r b = true := by simp [shZ, e1]
    rw [e1, e2, e3, ints_len]
    simp at h3
    exact Or.inl ⟨_, _, _, h3, rfl⟩
end Go.Proofs.YtgoccciejigpeaaDoor.Ab
