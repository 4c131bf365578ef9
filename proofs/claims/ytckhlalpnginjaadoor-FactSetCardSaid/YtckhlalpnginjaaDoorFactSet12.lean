/- Written by a program of this session (wip/tools/AbSym.lean). Not trusted: Lean checks it. -/
import Derived.Test.YtckhlalpnginjaaDoorFactSet0
import Derived.Test.YtckhlalpnginjaaDoorFactSet1
import Derived.Test.YtckhlalpnginjaaDoorFactSet2
import Derived.Test.YtckhlalpnginjaaDoorFactSet3
import Derived.Test.YtckhlalpnginjaaDoorFactSet4
import Derived.Test.YtckhlalpnginjaaDoorFactSet5
import Derived.Test.YtckhlalpnginjaaDoorFactSet6
import Derived.Test.YtckhlalpnginjaaDoorFactSet7
import Derived.Test.YtckhlalpnginjaaDoorFactSet8
import Derived.Test.YtckhlalpnginjaaDoorFactSet9
import Derived.Test.YtckhlalpnginjaaDoorFactSet10
import Derived.Test.YtckhlalpnginjaaDoorFactSet11
set_option maxRecDepth 100000
set_option linter.unusedVariables false
namespace Go.Proofs.YtckhlalpnginjaaDoor.Ab
open Go Go.Ab Go.Proofs
theorem q64_l0a_3 {C J} (z1 : Bool) (x2 : List D) (e3 : List D) (z4 : Bool) (x5 : List D) (e6 : List D) (i7 : Int) (i8 : Int) (v0 : Int) (v1 : Int) (v2 : Int) (v3 : Int) (v4 : ByteArray) (v5 : Int) (v6 : Int) (v7 : Int) (h0 : i7 > 0) (h1 : ¬i8 ≥ (↑(List.length x5) : Int)) (h2 : 0 ≤ i8) (h3 : x5[Int.toNat i8]? = some (D.int IntKind.i64 v0)) (h4 : ¬v0 < -24) (h5 : x5[Int.toNat i8]? = some (D.int IntKind.i64 v1)) (h6 : ¬v1 ≥ (↑(List.length x2) : Int)) (h7 : x5[Int.toNat i8]? = some (D.int IntKind.i64 v2)) (h8 : v2 ≥ 0) (h9 : x5[Int.toNat i8]? = some (D.int IntKind.i64 v3)) (h10 : 0 ≤ v3) (h11 : x2[Int.toNat v3]? = some (D.agg [D.str v4, D.int IntKind.i64 v5, D.int IntKind.i64 v6, D.int IntKind.i64 v7])) (h12 : (v5 == 0) = true) : evP F C J d64 [] [1,1,0,0,0] [(0, .d (.sl 4 z1 x2 e3)), (1, .d (.sl 1 z4 x5 e6)), (7, .d (.int .i64 i7)), (8, .d (.int .i64 i8))] = some (Out.ret [(6, IV.d (D.int IntKind.i64 (-1)))]) := wpQ_way (q64_l0a C J z1 x2 e3 z4 x5 e6 i7 i8 _) (condW_t (decide_eq_true h0) (condW_f (decide_eq_false h1) (condW_t (decide_eq_true h2) (Exists.intro v0 (And.intro h3 (condW_f (decide_eq_false h4) (condW_t (decide_eq_true h2) (Exists.intro v1 (And.intro h5 (condW_f (decide_eq_false h6) (condW_t (decide_eq_true h2) (Exists.intro v2 (And.intro h7 (condW_t (decide_eq_true h8) (condW_t (decide_eq_true h2) (Exists.intro v3 (And.intro h9 (condW_t (decide_eq_true h10) (Exists.intro v4 (Exists.intro v5 (Exists.intro v6 (Exists.intro v7 (And.intro h11 (condW_t h12 (rfl)))))))))))))))))))))))))
theorem q64_l0a_4 {C J} (z1 : Bool) (x2 : List D) (e3 : List D) (z4 : Bool) (x5 : List D) (e6 : List D) (i7 : Int) (i8 : Int) (v0 : Int) (v1 : Int) (v2 : Int) (v3 : Int) (v4 : ByteArray) (v5 : Int) (v6 : Int) (v7 : Int) (v8 : Int) (v9 : ByteArray) (v10 : Int) (v11 : Int) (v12 : Int) (h0 : i7 > 0) (h1 : ¬i8 ≥ (↑(List.length x5) : Int)) (h2 : 0 ≤ i8) (h3 : x5[Int.toNat i8]? = some (D.int IntKind.i64 v0)) (h4 : ¬v0 < -24) (h5 : x5[Int.toNat i8]? = some (D.int IntKind.i64 v1)) (h6 : ¬v1 ≥ (↑(List.length x2) : Int)) (h7 : x5[Int.toNat i8]? = some (D.int IntKind.i64 v2)) (h8 : v2 ≥ 0) (h9 : x5[Int.toNat i8]? = some (D.int IntKind.i64 v3)) (h10 : 0 ≤ v3) (h11 : x2[Int.toNat v3]? = some (D.agg [D.str v4, D.int IntKind.i64 v5, D.int IntKind.i64 v6, D.int IntKind.i64 v7])) (h12 : (v5 == 0) = false) (h13 : x5[Int.toNat i8]? = some (D.int IntKind.i64 v8)) (h14 : 0 ≤ v8) (h15 : x2[Int.toNat v8]? = some (D.agg [D.str v9, D.int IntKind.i64 v10, D.int IntKind.i64 v11, D.int IntKind.i64 v12])) : evP F C J d64 [] [1,1,0,0,0] [(0, .d (.sl 4 z1 x2 e3)), (1, .d (.sl 1 z4 x5 e6)), (7, .d (.int .i64 i7)), (8, .d (.int .i64 i8))] = some (Out.norm [(0, IV.d (D.sl 4 z1 x2 e3)), (1, IV.d (D.sl 1 z4 x5 e6)), (7, IV.d (D.int IntKind.i64 (IntKind.wrap IntKind.i64 (IntKind.wrap IntKind.i64 (i7 - 1) + v11)))), (8, IV.d (D.int IntKind.i64 (IntKind.wrap IntKind.i64 (i8 + 1))))]) := wpQ_way (q64_l0a C J z1 x2 e3 z4 x5 e6 i7 i8 _) (condW_t (decide_eq_true h0) (condW_f (decide_eq_false h1) (condW_t (decide_eq_true h2) (Exists.intro v0 (And.intro h3 (condW_f (decide_eq_false h4) (condW_t (decide_eq_true h2) (Exists.intro v1 (And.intro h5 (condW_f (decide_eq_false h6) (condW_t (decide_eq_true h2) (Exists.intro v2 (And.intro h7 (condW_t (decide_eq_true h8) (condW_t (decide_eq_true h2) (Exists.intro v3 (And.intro h9 (condW_t (decide_eq_true h10) (Exists.intro v4 (Exists.intro v5 (Exists.intro v6 (Exists.intro v7 (And.intro h11 (condW_f h12 (condW_t (decide_eq_true h2) (Exists.intro v8 (And.intro h13 (condW_t (decide_eq_true h14) (Exists.intro v9 (Exists.intro v10 (Exists.intro v11 (Exists.intro v12 (And.intro h15 (rfl))))))))))))))))))))))))))))))))))
theorem q64_l0a_5 {C J} (z1 : Bool) (x2 : List D) (e3 : List D) (z4 : Bool) (x5 : List D) (e6 : List D) (i7 : Int) (i8 : Int) (v0 : Int) (v1 : Int) (v2 : Int) (h0 : i7 > 0) (h1 : ¬i8 ≥ (↑(List.length x5) : Int)) (h2 : 0 ≤ i8) (h3 : x5[Int.toNat i8]? = some (D.int IntKind.i64 v0)) (h4 : ¬v0 < -24) (h5 : x5[Int.toNat i8]? = some (D.int IntKind.i64 v1)) (h6 : ¬v1 ≥ (↑(List.length x2) : Int)) (h7 : x5[Int.toNat i8]? = some (D.int IntKind.i64 v2)) (h8 : ¬v2 ≥ 0) : evP F C J d64 [] [1,1,0,0,0] [(0, .d (.sl 4 z1 x2 e3)), (1, .d (.sl 1 z4 x5 e6)), (7, .d (.int .i64 i7)), (8, .d (.int .i64 i8))] = some (Out.norm [(0, IV.d (D.sl 4 z1 x2 e3)), (1, IV.d (D.sl 1 z4 x5 e6)), (7, IV.d (D.int IntKind.i64 (IntKind.wrap IntKind.i64 (i7 - 1)))), (8, IV.d (D.int IntKind.i64 (IntKind.wrap IntKind.i64 (i8 + 1))))]) := wpQ_way (q64_l0a C J z1 x2 e3 z4 x5 e6 i7 i8 _) (condW_t (decide_eq_true h0) (condW_f (decide_eq_false h1) (condW_t (decide_eq_true h2) (Exists.intro v0 (And.intro h3 (condW_f (decide_eq_false h4) (condW_t (decide_eq_true h2) (Exists.intro v1 (And.intro h5 (condW_f (decide_eq_false h6) (condW_t (decide_eq_true h2) (Exists.intro v2 (And.intro h7 (condW_f (decide_eq_false h8) (rfl)))))))))))))))
theorem q64_l0a_6 {C J} (z1 : Bool) (x2 : List D) (e3 : List D) (z4 : Bool) (x5 : List D) (e6 : List D) (i7 : Int) (i8 : Int) (h0 : ¬i7 > 0) : evP F C J d64 [] [1,1,0,0,0] [(0, .d (.sl 4 z1 x2 e3)), (1, .d (.sl 1 z4 x5 e6)), (7, .d (.int .i64 i7)), (8, .d (.int .i64 i8))] = some (Out.exit 0 [(0, IV.d (D.sl 4 z1 x2 e3)), (1, IV.d (D.sl 1 z4 x5 e6)), (7, IV.d (D.int IntKind.i64 i7)), (8, IV.d (D.int IntKind.i64 i8))]) := wpQ_way (q64_l0a C J z1 x2 e3 z4 x5 e6 i7 i8 _) (condW_f (decide_eq_false h0) (rfl))
theorem q59 (C J) (z1 : Bool) (x2 : List D) (e3 : List D) (z4 : Bool) (x5 : List D) (e6 : List D) (Q) : fnW F C R (L59) J d59 [.d (.sl 4 z1 x2 e3), .d (.sl 1 z4 x5 e6)] Q = (condW (decide ((↑(List.length x5) : Int) > 48)) (Q (some (IV.d (D.int IntKind.i64 (-1)), [IV.d (D.sl 4 z1 x2 e3), IV.d (D.sl 1 z4 x5 e6)]))) ((∃ w0, evP F C J d59 [] [1, 1, 1, 0] [(0, IV.d (D.sl 4 z1 x2 e3)), (1, IV.d (D.sl 1 z4 x5 e6)), (5, IV.d (D.int IntKind.i64 0)), (6, IV.d (D.int IntKind.i64 0))] = some (Out.ret [(4, IV.d (D.int IntKind.i64 w0))]) ∧ Q (some (IV.d (D.int IntKind.i64 w0), [IV.d (D.sl 4 z1 x2 e3), IV.d (D.sl 1 z4 x5 e6)]))) ∨ ∃ w1 w2 w3 w4 w5 w6 w7 w8, evP F C J d59 [] [1, 1, 1, 0] [(0, IV.d (D.sl 4 z1 x2 e3)), (1, IV.d (D.sl 1 z4 x5 e6)), (5, IV.d (D.int IntKind.i64 0)), (6, IV.d (D.int IntKind.i64 0))] = some (Out.norm [(0, IV.d (D.sl 4 w1 w2 w3)), (1, IV.d (D.sl 1 w4 w5 w6)), (5, IV.d (D.int IntKind.i64 w7)), (6, IV.d (D.int IntKind.i64 w8))]) ∧ Q (some (IV.d (D.int IntKind.i64 w7), [IV.d (D.sl 4 z1 x2 e3), IV.d (D.sl 1 z4 x5 e6)])))) := by kernel_rfl
theorem q59_0 {C J} (z1 : Bool) (x2 : List D) (e3 : List D) (z4 : Bool) (x5 : List D) (e6 : List D) (h0 : (↑(List.length x5) : Int) > 48) : evFnJ F C J d59 [.d (.sl 4 z1 x2 e3), .d (.sl 1 z4 x5 e6)] = some (IV.d (D.int IntKind.i64 (-1)), [IV.d (D.sl 4 z1 x2 e3), IV.d (D.sl 1 z4 x5 e6)]) := fnW_way (q59 C J z1 x2 e3 z4 x5 e6 _) (condW_t (decide_eq_true h0) (rfl))
theorem q59_1 {C J} (z1 : Bool) (x2 : List D) (e3 : List D) (z4 : Bool) (x5 : List D) (e6 : List D) (v0 : Int) (h0 : ¬(↑(List.length x5) : Int) > 48) (h1 : evP F C J d59 [] [1, 1, 1, 0] [(0, IV.d (D.sl 4 z1 x2 e3)), (1, IV.d (D.sl 1 z4 x5 e6)), (5, IV.d (D.int IntKind.i64 0)), (6, IV.d (D.int IntKind.i64 0))] = some (Out.ret [(4, IV.d (D.int IntKind.i64 v0))])) : evFnJ F C J d59 [.d (.sl 4 z1 x2 e3), .d (.sl 1 z4 x5 e6)] = some (IV.d (D.int IntKind.i64 v0), [IV.d (D.sl 4 z1 x2 e3), IV.d (D.sl 1 z4 x5 e6)]) := fnW_way (q59 C J z1 x2 e3 z4 x5 e6 _) (condW_f (decide_eq_false h0) (Or.inl (Exists.intro v0 (And.intro h1 (rfl)))))
theorem q59_2 {C J} (z1 : Bool) (x2 : List D) (e3 : List D) (z4 : Bool) (x5 : List D) (e6 : List D) (v0 : Bool) (v1 : List D) (v2 : List D) (v3 : Bool) (v4 : List D) (v5 : List D) (v6 : Int) (v7 : Int) (h0 : ¬(↑(List.length x5) : Int) > 48) (h1 : evP F C J d59 [] [1, 1, 1, 0] [(0, IV.d (D.sl 4 z1 x2 e3)), (1, IV.d (D.sl 1 z4 x5 e6)), (5, IV.d (D.int IntKind.i64 0)), (6, IV.d (D.int IntKind.i64 0))] = some (Out.norm [(0, IV.d (D.sl 4 v0 v1 v2)), (1, IV.d (D.sl 1 v3 v4 v5)), (5, IV.d (D.int IntKind.i64 v6)), (6, IV.d (D.int IntKind.i64 v7))])) : evFnJ F C J d59 [.d (.sl 4 z1 x2 e3), .d (.sl 1 z4 x5 e6)] = some (IV.d (D.int IntKind.i64 v6), [IV.d (D.sl 4 z1 x2 e3), IV.d (D.sl 1 z4 x5 e6)]) := fnW_way (q59 C J z1 x2 e3 z4 x5 e6 _) (condW_f (decide_eq_false h0) (Or.inr (Exists.intro v0 (Exists.intro v1 (Exists.intro v2 (Exists.intro v3 (Exists.intro v4 (Exists.intro v5 (Exists.intro v6 (Exists.intro v7 (And.intro h1 (rfl))))))))))))
theorem q59_l0a (C J) (z1 : Bool) (x2 : List D) (e3 : List D) (z4 : Bool) (x5 : List D) (e6 : List D) (i7 : Int) (i8 : Int) (Q) : wpQ F C R (L59) J d59 [] [1,1,1,0,0,0] [(0, .d (.sl 4 z1 x2 e3)), (1, .d (.sl 1 z4 x5 e6)), (5, .d (.int .i64 i7)), (6, .d (.int .i64 i8))] Q = (condW (decide (i8 < (↑(List.length x5) : Int))) (∃ w0 w1 w2 w3, C 64 [IV.d (D.sl 4 z1 x2 e3), IV.d (D.sl 1 z4 x5 e6), IV.d (D.int IntKind.i64 i8)] = some (IV.d (D.int IntKind.i64 w0), [w1, w2, w3]) ∧ condW (decide (w0 < 0)) (Q (Out.ret [(4, IV.d (D.int IntKind.i64 (-1)))])) (Q (Out.norm [(0, IV.d (D.sl 4 z1 x2 e3)), (1, IV.d (D.sl 1 z4 x5 e6)), (5, IV.d (D.int IntKind.i64 (IntKind.wrap IntKind.i64 (i7 + 1)))), (6, IV.d (D.int IntKind.i64 w0))]))) (Q (Out.exit 0 [(0, IV.d (D.sl 4 z1 x2 e3)), (1, IV.d (D.sl 1 z4 x5 e6)), (5, IV.d (D.int IntKind.i64 i7)), (6, IV.d (D.int IntKind.i64 i8))]))) := by kernel_rfl
theorem q59_l0a_0 {C J} (z1 : Bool) (x2 : List D) (e3 : List D) (z4 : Bool) (x5 : List D) (e6 : List D) (i7 : Int) (i8 : Int) (v0 : Int) (v1 : IV) (v2 : IV) (v3 : IV) (h0 : i8 < (↑(List.length x5) : Int)) (h1 : C 64 [IV.d (D.sl 4 z1 x2 e3), IV.d (D.sl 1 z4 x5 e6), IV.d (D.int IntKind.i64 i8)] = some (IV.d (D.int IntKind.i64 v0), [v1, v2, v3])) (h2 : v0 < 0) : evP F C J d59 [] [1,1,1,0,0,0] [(0, .d (.sl 4 z1 x2 e3)), (1, .d (.sl 1 z4 x5 e6)), (5, .d (.int .i64 i7)), (6, .d (.int .i64 i8))] = some (Out.ret [(4, IV.d (D.int IntKind.i64 (-1)))]) := wpQ_way (q59_l0a C J z1 x2 e3 z4 x5 e6 i7 i8 _) (condW_t (decide_eq_true h0) (Exists.intro v0 (Exists.intro v1 (Exists.intro v2 (Exists.intro v3 (And.intro h1 (condW_t (decide_eq_true h2) (rfl))))))))
theorem q59_l0a_1 {C J} (z1 : Bool) (x2 : List D) (e3 : List D) (z4 : Bool) (x5 : List D) (e6 : List D) (i7 : Int) (i8 : Int) (v0 : Int) (v1 : IV) (v2 : IV) (v3 : IV) (h0 : i8 < (↑(List.length x5) : Int)) (h1 : C 64 [IV.d (D.sl 4 z1 x2 e3), IV.d (D.sl 1 z4 x5 e6), IV.d (D.int IntKind.i64 i8)] = some (IV.d (D.int IntKind.i64 v0), [v1, v2, v3])) (h2 : ¬v0 < 0) : evP F C J d59 [] [1,1,1,0,0,0] [(0, .d (.sl 4 z1 x2 e3)), (1, .d (.sl 1 z4 x5 e6)), (5, .d (.int .i64 i7)), (6, .d (.int .i64 i8))] = some (Out.norm [(0, IV.d (D.sl 4 z1 x2 e3)), (1, IV.d (D.sl 1 z4 x5 e6)), (5, IV.d (D.int IntKind.i64 (IntKind.wrap IntKind.i64 (i7 + 1)))), (6, IV.d (D.int IntKind.i64 v0))]) := wpQ_way (q59_l0a C J z1 x2 e3 z4 x5 e6 i7 i8 _) (condW_t (decide_eq_true h0) (Exists.intro v0 (Exists.intro v1 (Exists.intro v2 (Exists.intro v3 (And.intro h1 (condW_f (decide_eq_false h2) (rfl))))))))
theorem q59_l0a_2 {C J} (z1 : Bool) (x2 : List D) (e3 : List D) (z4 : Bool) (x5 : List D) (e6 : List D) (i7 : Int) (i8 : Int) (h0 : ¬i8 < (↑(List.length x5) : Int)) : evP F C J d59 [] [1,1,1,0,0,0] [(0, .d (.sl 4 z1 x2 e3)), (1, .d (.sl 1 z4 x5 e6)), (5, .d (.int .i64 i7)), (6, .d (.int .i64 i8))] = some (Out.exit 0 [(0, IV.d (D.sl 4 z1 x2 e3)), (1, IV.d (D.sl 1 z4 x5 e6)), (5, IV.d (D.int IntKind.i64 i7)), (6, IV.d (D.int IntKind.i64 i8))]) := wpQ_way (q59_l0a C J z1 x2 e3 z4 x5 e6 i7 i8 _) (condW_f (decide_eq_false h0) (rfl))
theorem q50 (C J) (z1 : Bool) (x2 : List D) (e3 : List D) (z4 : Bool) (x5 : List D) (e6 : List D) (Q) : fnW F C R (L50) J d50 [.d (.sl 4 z1 x2 e3), .d (.sl 1 z4 x5 e6)] Q = (condW (decide ((↑(List.length x5) : Int) > 0)) (∃ w0, x5[0]? = some (D.int IntKind.i64 w0) ∧ condW (decide (w0 ≥ 0)) (∃ w1, x5[0]? = some (D.int IntKind.i64 w1) ∧ condW (decide (w1 < (↑(List.length x2) : Int))) (∃ w2, x5[0]? = some (D.int IntKind.i64 w2) ∧ condW (decide (0 ≤ w2)) (∃ w3 w4 w5 w6, x2[Int.toNat w2]? = some (D.agg [D.str w3, D.int IntKind.i64 w4, D.int IntKind.i64 w5, D.int IntKind.i64 w6]) ∧ condW (w4 == 0) (condW (decide (1 ≤ (↑(List.length x5) : Int))) (∃ w7 w8 w9, C 59 [IV.d (D.sl 4 z1 x2 e3), IV.d (D.sl 1 z4 (List.drop (Int.toNat 1) x5) [])] = some (IV.d (D.int IntKind.i64 w7), [w8, w9]) ∧ ∃ w10, x5[0]? = some (D.int IntKind.i64 w10) ∧ condW (decide (0 ≤ w10)) (∃ w11 w12 w13 w14, x2[Int.toNat w10]? = some (D.agg [D.str w11, D.int IntKind.i64 w12, D.int IntKind.i64 w13, D.int IntKind.i64 w14]) ∧ condW (w7 == w13) (Q (some (IV.d (D.bool true), [IV.d (D.sl 4 z1 x2 e3), IV.d (D.sl 1 z4 x5 e6)]))) (Q (some (IV.d (D.bool false), [IV.d (D.sl 4 z1 x2 e3), IV.d (D.sl 1 z4 x5 e6)])))) False) False) (Q (some (IV.d (D.bool false), [IV.d (D.sl 4 z1 x2 e3), IV.d (D.sl 1 z4 x5 e6)])))) False) (Q (some (IV.d (D.bool false), [IV.d (D.sl 4 z1 x2 e3), IV.d (D.sl 1 z4 x5 e6)])))) (Q (some (IV.d (D.bool false), [IV.d (D.sl 4 z1 x2 e3), IV.d (D.sl 1 z4 x5 e6)])))) (Q (some (IV.d (D.bool false), [IV.d (D.sl 4 z1 x2 e3), IV.d (D.sl 1 z4 x5 e6)])))) := by kernel_rfl
theorem q50_0 {C J} (z1 : Bool) (x2 : List D) (e3 : List D) (z4 : Bool) (x5 : List D) (e6 : List D) (v0 : Int) (v1 : Int) (v2 : Int) (v3 : ByteArray) (v4 : Int) (v5 : Int) (v6 : Int) (v7 : Int) (v8 : IV) (v9 : IV) (v10 : Int) (v11 : ByteArray) (v12 : Int) (v13 : Int) (v14 : Int) (h0 : (↑(List.length x5) : Int) > 0) (h1 : x5[0]? = some (D.int IntKind.i64 v0)) (h2 : v0 ≥ 0) (h3 : x5[0]? = some (D.int IntKind.i64 v1)) (h4 : v1 < (↑(List.length x2) : Int)) (h5 : x5[0]? = some (D.int IntKind.i64 v2)) (h6 : 0 ≤ v2) (h7 : x2[Int.toNat v2]? = some (D.agg [D.str v3, D.int IntKind.i64 v4, D.int IntKind.i64 v5, D.int IntKind.i64 v6])) (h8 : (v4 == 0) = true) (h9 : 1 ≤ (↑(List.length x5) : Int)) (h10 : C 59 [IV.d (D.sl 4 z1 x2 e3), IV.d (D.sl 1 z4 (List.drop (Int.toNat 1) x5) [])] = some (IV.d (D.int IntKind.i64 v7), [v8, v9])) (h11 : x5[0]? = some (D.int IntKind.i64 v10)) (h12 : 0 ≤ v10) (h13 : x2[Int.toNat v10]? = some (D.agg [D.str v11, D.int IntKind.i64 v12, D.int IntKind.i64 v13, D.int IntKind.i64 v14])) (h14 : (v7 == v13) = true) : evFnJ F C J d50 [.d (.sl 4 z1 x2 e3), .d (.sl 1 z4 x5 e6)] = some (IV.d (D.bool true), [IV.d (D.sl 4 z1 x2 e3), IV.d (D.sl 1 z4 x5 e6)]) := fnW_way (q50 C J z1 x2 e3 z4 x5 e6 _) (condW_t (decide_eq_true h0) (Exists.intro v0 (And.intro h1 (condW_t (decide_eq_true h2) (Exists.intro v1 (And.intro h3 (condW_t (decide_eq_true h4) (Exists.intro v2 (And.intro h5 (condW_t (decide_eq_true h6) (Exists.intro v3 (Exists.intro v4 (Exists.intro v5 (Exists.intro v6 (And.intro h7 (condW_t h8 (condW_t (decide_eq_true h9) (Exists.intro v7 (Exists.intro v8 (Exists.intro v9 (And.intro h10 (Exists.intro v10 (And.intro h11 (condW_t (decide_eq_true h12) (Exists.intro v11 (Exists.intro v12 (Exists.intro v13 (Exists.intro v14 (And.intro h13 (condW_t h14 (rfl)))))))))))))))))))))))))))))))
theorem q50_1 {C J} (z1 : Bool) (x2 : List D) (e3 : List D) (z4 : Bool) (x5 : List D) (e6 : List D) (v0 : Int) (v1 : Int) (v2 : Int) (v3 : ByteArray) (v4 : Int) (v5 : Int) (v6 : Int) (v7 : Int) (v8 : IV) (v9 : IV) (v10 : Int) (v11 : ByteArray) (v12 : Int) (v13 : Int) (v14 : Int) (h0 : (↑(List.length x5) : Int) > 0) (h1 : x5[0]? = some (D.int IntKind.i64 v0)) (h2 : v0 ≥ 0) (h3 : x5[0]? = some (D.int IntKind.i64 v1)) (h4 : v1 < (↑(List.length x2) : Int)) (h5 : x5[0]? = some (D.int IntKind.i64 v2)) (h6 : 0 ≤ v2) (h7 : x2[Int.toNat v2]? = some (D.agg [D.str v3, D.int IntKind.i64 v4, D.int IntKind.i64 v5, D.int IntKind.i64 v6])) (h8 : (v4 == 0) = true) (h9 : 1 ≤ (↑(List.length x5) : Int)) (h10 : C 59 [IV.d (D.sl 4 z1 x2 e3), IV.d (D.sl 1 z4 (List.drop (Int.toNat 1) x5) [])] = some (IV.d (D.int IntKind.i64 v7), [v8, v9])) (h11 : x5[0]? = some (D.int IntKind.i64 v10)) (h12 : 0 ≤ v10) (h13 : x2[Int.toNat v10]? = some (D.agg [D.str v11, D.int IntKind.i64 v12, D.int IntKind.i64 v13, D.int IntKind.i64 v14])) (h14 : (v7 == v13) = false) : evFnJ F C J d50 [.d (.sl 4 z1 x2 e3), .d (.sl 1 z4 x5 e6)] = some (IV.d (D.bool false), [IV.d (D.sl 4 z1 x2 e3), IV.d (D.sl 1 z4 x5 e6)]) := fnW_way (q50 C J z1 x2 e3 z4 x5 e6 _) (condW_t (decide_eq_true h0) (Exists.intro v0 (And.intro h1 (condW_t (decide_eq_true h2) (Exists.intro v1 (And.intro h3 (condW_t (decide_eq_true h4) (Exists.intro v2 (And.intro h5 (condW_t (decide_eq_true h6) (Exists.intro v3 (Exists.intro v4 (Exists.intro v5 (Exists.intro v6 (And.intro h7 (condW_t h8 (condW_t (decide_eq_true h9) (Exists.intro v7 (Exists.intro v8 (Exists.intro v9 (And.intro h10 (Exists.intro v10 (And.intro h11 (condW_t (decide_eq_true h12) (Exists.intro v11 (Exists.intro v12 (Exists.intro v13 (Exists.intro v14 (And.intro h13 (condW_f h14 (rfl)))))))))))))))))))))))))))))))
theorem q50_2 {C J} (z1 : Bool) (x2 : List D) (e3 : List D) (z4 : Bool) (x5 : List D) (e6 : List D) (v0 : Int) (v1 : Int) (v2 : Int) (v3 : ByteArray) (v4 : Int) (v5 : Int) (v6 : Int) (h0 : (↑(List.length x5) : Int) > 0) (h1 : x5[0]? = some (D.int IntKind.i64 v0)) (h2 : v0 ≥ 0) (h3 : x5[0]? = some (D.int IntKind.i64 v1)) (h4 : v1 < (↑(List.length x2) : Int)) (h5 : x5[0]? = some (D.int IntKind.i64 v2)) (h6 : 0 ≤ v2) (h7 : x2[Int.toNat v2]? = some (D.agg [D.str v3, D.int IntKind.i64 v4, D.int IntKind.i64 v5, D.int IntKind.i64 v6])) (h8 : (v4 == 0) = false) : evFnJ F C J d50 [.d (.sl 4 z1 x2 e3), .d (.sl 1 z4 x5 e6)] = some (IV.d (D.bool false), [IV.d (D.sl 4 z1 x2 e3), IV.d (D.sl 1 z4 x5 e6)]) := fnW_way (q50 C J z1 x2 e3 z4 x5 e6 _) (condW_t (decide_eq_true h0) (Exists.intro v0 (And.intro h1 (condW_t (decide_eq_true h2) (Exists.intro v1 (And.intro h3 (condW_t (decide_eq_true h4) (Exists.intro v2 (And.intro h5 (condW_t (decide_eq_true h6) (Exists.intro v3 (Exists.intro v4 (Exists.intro v5 (Exists.intro v6 (And.intro h7 (condW_f h8 (rfl)))))))))))))))))
theorem q50_3 {C J} (z1 : Bool) (x2 : List D) (e3 : List D) (z4 : Bool) (x5 : List D) (e6 : List D) (v0 : Int) (v1 : Int) (h0 : (↑(List.length x5) : Int) > 0) (h1 : x5[0]? = some (D.int IntKind.i64 v0)) (h2 : v0 ≥ 0) (h3 : x5[0]? = some (D.int IntKind.i64 v1)) (h4 : ¬v1 < (↑(List.length x2) : Int)) : evFnJ F C J d50 [.d (.sl 4 z1 x2 e3), .d (.sl 1 z4 x5 e6)] = some (IV.d (D.bool false), [IV.d (D.sl 4 z1 x2 e3), IV.d (D.sl 1 z4 x5 e6)]) := fnW_way (q50 C J z1 x2 e3 z4 x5 e6 _) (condW_t (decide_eq_true h0) (Exists.intro v0 (And.intro h1 (condW_t (decide_eq_true h2) (Exists.intro v1 (And.intro h3 (condW_f (decide_eq_false h4) (rfl))))))))
theorem q50_4 {C J} (z1 : Bool) (x2 : List D) (e3 : List D) (z4 : Bool) (x5 : List D) (e6 : List D) (v0 : Int) (h0 : (↑(List.length x5) : Int) > 0) (h1 : x5[0]? = some (D.int IntKind.i64 v0)) (h2 : ¬v0 ≥ 0) : evFnJ F C J d50 [.d (.sl 4 z1 x2 e3), .d (.sl 1 z4 x5 e6)] = some (IV.d (D.bool false), [IV.d (D.sl 4 z1 x2 e3), IV.d (D.sl 1 z4 x5 e6)]) := fnW_way (q50 C J z1 x2 e3 z4 x5 e6 _) (condW_t (decide_eq_true h0) (Exists.intro v0 (And.intro h1 (condW_f (decide_eq_false h2) (rfl)))))
theorem q50_5 {C J} (z1 : Bool) (x2 : List D) (e3 : List D) (z4 : Bool) (x5 : List D) (e6 : List D) (h0 : ¬(↑(List.length x5) : Int) > 0) : evFnJ F C J d50 [.d (.sl 4 z1 x2 e3), .d (.sl 1 z4 x5 e6)] = some (IV.d (D.bool false), [IV.d (D.sl 4 z1 x2 e3), IV.d (D.sl 1 z4 x5 e6)]) := fnW_way (q50 C J z1 x2 e3 z4 x5 e6 _) (condW_f (decide_eq_false h0) (rfl))
theorem q60 (C J) (z1 : Bool) (x2 : List D) (e3 : List D) (i4 : Int) (Q) : fnW F C R (L60) J d60 [.d (.sl 1 z1 x2 e3), .d (.int .i64 i4)] Q = ((∃ w0, evP F C J d60 [] [1, 0, 1] [(0, IV.d (D.sl 1 z1 x2 e3)), (1, IV.d (D.int IntKind.i64 i4)), (5, IV.d (D.int IntKind.i64 0))] = some (Out.ret [(4, IV.d (D.bool w0))]) ∧ Q (some (IV.d (D.bool w0), [IV.d (D.sl 1 z1 x2 e3), IV.d (D.int IntKind.i64 i4)]))) ∨ ∃ w1 w2 w3 w4 w5, evP F C J d60 [] [1, 0, 1] [(0, IV.d (D.sl 1 z1 x2 e3)), (1, IV.d (D.int IntKind.i64 i4)), (5, IV.d (D.int IntKind.i64 0))] = some (Out.norm [(0, IV.d (D.sl 1 w1 w2 w3)), (1, IV.d (D.int IntKind.i64 w4)), (5, IV.d (D.int IntKind.i64 w5))]) ∧ Q (some (IV.d (D.bool false), [IV.d (D.sl 1 z1 x2 e3), IV.d (D.int IntKind.i64 i4)]))) := by kernel_rfl
theorem q60_0 {C J} (z1 : Bool) (x2 : List D) (e3 : List D) (i4 : Int) (v0 : Bool) (h0 : evP F C J d60 [] [1, 0, 1] [(0, IV.d (D.sl 1 z1 x2 e3)), (1, IV.d (D.int IntKind.i64 i4)), (5, IV.d (D.int IntKind.i64 0))] = some (Out.ret [(4, IV.d (D.bool v0))])) : evFnJ F C J d60 [.d (.sl 1 z1 x2 e3), .d (.int .i64 i4)] = some (IV.d (D.bool v0), [IV.d (D.sl 1 z1 x2 e3), IV.d (D.int IntKind.i64 i4)]) := fnW_way (q60 C J z1 x2 e3 i4 _) (Or.inl (Exists.intro v0 (And.intro h0 (rfl))))
theorem q60_1 {C J} (z1 : Bool) (x2 : List D) (e3 : List D) (i4 : Int) (v0 : Bool) (v1 : List D) (v2 : List D) (v3 : Int) (v4 : Int) (h0 : evP F C J d60 [] [1, 0, 1] [(0, IV.d (D.sl 1 z1 x2 e3)), (1, IV.d (D.int IntKind.i64 i4)), (5, IV.d (D.int IntKind.i64 0))] = some (Out.norm [(0, IV.d (D.sl 1 v0 v1 v2)), (1, IV.d (D.int IntKind.i64 v3)), (5, IV.d (D.int IntKind.i64 v4))])) : evFnJ F C J d60 [.d (.sl 1 z1 x2 e3), .d (.int .i64 i4)] = some (IV.d (D.bool false), [IV.d (D.sl 1 z1 x2 e3), IV.d (D.int IntKind.i64 i4)]) := fnW_way (q60 C J z1 x2 e3 i4 _) (Or.inr (Exists.intro v0 (Exists.intro v1 (Exists.intro v2 (Exists.intro v3 (Exists.intro v4 (And.intro h0 (rfl))))))))
theorem q60_l0a (C J) (z1 : Bool) (x2 : List D) (e3 : List D) (i4 : Int) (i5 : Int) (Q) : wpQ F C R (L60) J d60 [] [1,0,1,0,0] [(0, .d (.sl 1 z1 x2 e3)), (1, .d (.int .i64 i4)), (5, .d (.int .i64 i5))] Q = (condW (decide (i5 < (↑(List.length x2) : Int))) (condW (decide (0 ≤ i5)) (∃ w0, x2[Int.toNat i5]? = some (D.int IntKind.i64 w0) ∧ condW (w0 == IntKind.wrap IntKind.i64 (-1 - i4)) (Q (Out.ret [(4, IV.d (D.bool true))])) (Q (Out.norm [(0, IV.d (D.sl 1 z1 x2 e3)), (1, IV.d (D.int IntKind.i64 i4)), (5, IV.d (D.int IntKind.i64 (IntKind.wrap IntKind.i64 (i5 + 1))))]))) False) (Q (Out.exit 0 [(0, IV.d (D.sl 1 z1 x2 e3)), (1, IV.d (D.int IntKind.i64 i4)), (5, IV.d (D.int IntKind.i64 i5))]))) := by kernel_rfl
theorem q60_l0a_0 {C J} (z1 : Bool) (x2 : List D) (e3 : List D) (i4 : Int) (i5 : Int) (v0 : Int) (h0 : i5 < (↑(List.length x2) : Int)) (h1 : 0 ≤ i5) (h2 : x2[Int.toNat i5]? = some (D.int IntKind.i64 v0)) (h3 : (v0 == IntKind.wrap IntKind.i64 (-1 - i4)) = true) : evP F C J d60 [] [1,0,1,0,0] [(0, .d (.sl 1 z1 x2 e3)), (1, .d (.int .i64 i4)), (5, .d (.int .i64 i5))] = some (Out.ret [(4, IV.d (D.bool true))]) := wpQ_way (q60_l0a C J z1 x2 e3 i4 i5 _) (condW_t (decide_eq_true h0) (condW_t (decide_eq_true h1) (Exists.intro v0 (And.intro h2 (condW_t h3 (rfl))))))
theorem q60_l0a_1 {C J} (z1 : Bool) (x2 : List D) (e3 : List D) (i4 : Int) (i5 : Int) (v0 : Int) (h0 : i5 < (↑(List.length x2) : Int)) (h1 : 0 ≤ i5) (h2 : x2[Int.toNat i5]? = some (D.int IntKind.i64 v0)) (h3 : (v0 == IntKind.wrap IntKind.i64 (-1 - i4)) = false) : evP F C J d60 [] [1,0,1,0,0] [(0, .d (.sl 1 z1 x2 e3)), (1, .d (.int .i64 i4)), (5, .d (.int .i64 i5))] = some (Out.norm [(0, IV.d (D.sl 1 z1 x2 e3)), (1, IV.d (D.int IntKind.i64 i4)), (5, IV.d (D.int IntKind.i64 (IntKind.wrap IntKind.i64 (i5 + 1))))]) := wpQ_way (q60_l0a C J z1 x2 e3 i4 i5 _) (condW_t (decide_eq_true h0) (condW_t (decide_eq_true h1) (Exists.intro v0 (And.intro h2 (condW_f h3 (rfl))))))
theorem q60_l0a_2 {C J} (z1 : Bool) (x2 : List D) (e3 : List D) (i4 : Int) (i5 : Int) (h0 : ¬i5 < (↑(List.length x2) : Int)) : evP F C J d60 [] [1,0,1,0,0] [(0, .d (.sl 1 z1 x2 e3)), (1, .d (.int .i64 i4)), (5, .d (.int .i64 i5))] = some (Out.exit 0 [(0, IV.d (D.sl 1 z1 x2 e3)), (1, IV.d (D.int IntKind.i64 i4)), (5, IV.d (D.int IntKind.i64 i5))]) := wpQ_way (q60_l0a C J z1 x2 e3 i4 i5 _) (condW_f (decide_eq_false h0) (rfl))
theorem q51 (C J) (z1 : Bool) (x2 : List D) (e3 : List D) (Q) : fnW F C R (L51) J d51 [.d (.sl 1 z1 x2 e3)] Q = (∃ w0 w1 w2 w3 w4 w5, evP F C J d51 [] [1, 1, 0, 1] [(0, IV.d (D.sl 1 z1 x2 e3)), (3, IV.own true 3 1 []), (4, IV.d (D.int IntKind.i64 0))] = some (Out.norm [(0, IV.d (D.sl 1 w0 w1 w2)), (3, IV.own w3 3 1 w4), (4, IV.d (D.int IntKind.i64 w5))]) ∧ Q (some (IV.own w3 3 1 w4, [IV.d (D.sl 1 z1 x2 e3)]))) := by kernel_rfl
theorem q51_0 {C J} (z1 : Bool) (x2 : List D) (e3 : List D) (v0 : Bool) (v1 : List D) (v2 : List D) (v3 : Bool) (v4 : List D) (v5 : Int) (h0 : evP F C J d51 [] [1, 1, 0, 1] [(0, IV.d (D.sl 1 z1 x2 e3)), (3, IV.own true 3 1 []), (4, IV.d (D.int IntKind.i64 0))] = some (Out.norm [(0, IV.d (D.sl 1 v0 v1 v2)), (3, IV.own v3 3 1 v4), (4, IV.d (D.int IntKind.i64 v5))])) : evFnJ F C J d51 [.d (.sl 1 z1 x2 e3)] = some (IV.own v3 3 1 v4, [IV.d (D.sl 1 z1 x2 e3)]) := fnW_way (q51 C J z1 x2 e3 _) (Exists.intro v0 (Exists.intro v1 (Exists.intro v2 (Exists.intro v3 (Exists.intro v4 (Exists.intro v5 (And.intro h0 (rfl))))))))
theorem q51_l0a (C J) (z1 : Bool) (x2 : List D) (e3 : List D) (z4 : Bool) (x5 : List D) (i6 : Int) (Q) : wpQ F C R (L51) J d51 [] [1,1,0,1,0,0] [(0, .d (.sl 1 z1 x2 e3)), (3, .own z4 3 1 x5), (4, .d (.int .i64 i6))] Q = (condW (decide (i6 ≤ 23)) (∃ w0 w1 w2, C 60 [IV.d (D.sl 1 z1 x2 e3), IV.d (D.int IntKind.i64 i6)] = some (IV.d (D.bool w0), [w1, w2]) ∧ condW w0 (condW (decide (List.length x5 + (0 + 1) ≤ 9223372036854775807)) (condW (decide ((List.length x5 + (0 + 1)) * 8 ≤ 140737488355328)) (Q (Out.norm [(0, IV.d (D.sl 1 z1 x2 e3)), (3, IV.own (z4 && false) 3 1 (x5 ++ [D.int IntKind.i64 i6])), (4, IV.d (D.int IntKind.i64 (IntKind.wrap IntKind.i64 (i6 + 1))))])) False) False) (Q (Out.norm [(0, IV.d (D.sl 1 z1 x2 e3)), (3, IV.own z4 3 1 x5), (4, IV.d (D.int IntKind.i64 (IntKind.wrap IntKind.i64 (i6 + 1))))]))) (Q (Out.exit 0 [(0, IV.d (D.sl 1 z1 x2 e3)), (3, IV.own z4 3 1 x5), (4, IV.d (D.int IntKind.i64 i6))]))) := by kernel_rfl
theorem q51_l0a_0 {C J} (z1 : Bool) (x2 : List D) (e3 : List D) (z4 : Bool) (x5 : List D) (i6 : Int) (v0 : Bool) (v1 : IV) (v2 : IV) (h0 : i6 ≤ 23) (h1 : C 60 [IV.d (D.sl 1 z1 x2 e3), IV.d (D.int IntKind.i64 i6)] = some (IV.d (D.bool v0), [v1, v2])) (h2 : v0 = true) (h3 : List.length x5 + (0 + 1) ≤ 9223372036854775807) (h4 : (List.length x5 + (0 + 1)) * 8 ≤ 140737488355328) : evP F C J d51 [] [1,1,0,1,0,0] [(0, .d (.sl 1 z1 x2 e3)), (3, .own z4 3 1 x5), (4, .d (.int .i64 i6))] = some (Out.norm [(0, IV.d (D.sl 1 z1 x2 e3)), (3, IV.own (z4 && false) 3 1 (x5 ++ [D.int IntKind.i64 i6])), (4, IV.d (D.int IntKind.i64 (IntKind.wrap IntKind.i64 (i6 + 1))))]) := wpQ_way (q51_l0a C J z1 x2 e3 z4 x5 i6 _) (condW_t (decide_eq_true h0) (Exists.intro v0 (Exists.intro v1 (Exists.intro v2 (And.intro h1 (condW_t h2 (condW_t (decide_eq_true h3) (condW_t (decide_eq_true h4) (rfl)))))))))
theorem q51_l0a_1 {C J} (z1 : Bool) (x2 : List D) (e3 : List D) (z4 : Bool) (x5 : List D) (i6 : Int) (v0 : Bool) (v1 : IV) (v2 : IV) (h0 : i6 ≤ 23) (h1 : C 60 [IV.d (D.sl 1 z1 x2 e3), IV.d (D.int IntKind.i64 i6)] = some (IV.d (D.bool v0), [v1, v2])) (h2 : v0 = false) : evP F C J d51 [] [1,1,0,1,0,0] [(0, .d (.sl 1 z1 x2 e3)), (3, .own z4 3 1 x5), (4, .d (.int .i64 i6))] = some (Out.norm [(0, IV.d (D.sl 1 z1 x2 e3)), (3, IV.own z4 3 1 x5), (4, IV.d (D.int IntKind.i64 (IntKind.wrap IntKind.i64 (i6 + 1))))]) := wpQ_way (q51_l0a C J z1 x2 e3 z4 x5 i6 _) (condW_t (decide_eq_true h0) (Exists.intro v0 (Exists.intro v1 (Exists.intro v2 (And.intro h1 (condW_f h2 (rfl)))))))
theorem q51_l0a_2 {C J} (z1 : Bool) (x2 : List D) (e3 : List D) (z4 : Bool) (x5 : List D) (i6 : Int) (h0 : ¬i6 ≤ 23) : evP F C J d51 [] [1,1,0,1,0,0] [(0, .d (.sl 1 z1 x2 e3)), (3, .own z4 3 1 x5), (4, .d (.int .i64 i6))] = some (Out.exit 0 [(0, IV.d (D.sl 1 z1 x2 e3)), (3, IV.own z4 3 1 x5), (4, IV.d (D.int IntKind.i64 i6))]) := wpQ_way (q51_l0a C J z1 x2 e3 z4 x5 i6 _) (condW_f (decide_eq_false h0) (rfl))
theorem q32 (C J) (z1 : Bool) (x2 : List D) (e3 : List D) (z4 : Bool) (x5 : List D) (e6 : List D) (Q) : fnW F C R (L32) J d32 [.d (.sl 4 z1 x2 e3), .d (.sl 1 z4 x5 e6)] Q = (∃ w0 w1, C 38 [IV.d (D.sl 4 z1 x2 e3)] = some (IV.d (D.bool w0), [w1]) ∧ condW w0 (∃ w2 w3 w4, C 50 [IV.d (D.sl 4 z1 x2 e3), IV.d (D.sl 1 z4 x5 e6)] = some (IV.d (D.bool w2), [w3, w4]) ∧ condW w2 (∃ w5 w6 w7, C 51 [IV.d (D.sl 1 z4 x5 e6)] = some (IV.own w5 3 1 w6, [w7]) ∧ condW ((↑(List.length w6) : Int) == 0) (Q (some (IV.d (D.bool true), [IV.d (D.sl 4 z1 x2 e3), IV.d (D.sl 1 z4 x5 e6)]))) (Q (some (IV.d (D.bool false), [IV.d (D.sl 4 z1 x2 e3), IV.d (D.sl 1 z4 x5 e6)])))) (Q (some (IV.d (D.bool false), [IV.d (D.sl 4 z1 x2 e3), IV.d (D.sl 1 z4 x5 e6)])))) (Q (some (IV.d (D.bool false), [IV.d (D.sl 4 z1 x2 e3), IV.d (D.sl 1 z4 x5 e6)])))) := by kernel_rfl
theorem q32_0 {C J} (z1 : Bool) (x2 : List D) (e3 : List D) (z4 : Bool) (x5 : List D) (e6 : List D) (v0 : Bool) (v1 : IV) (v2 : Bool) (v3 : IV) (v4 : IV) (v5 : Bool) (v6 : List D) (v7 : IV) (h0 : C 38 [IV.d (D.sl 4 z1 x2 e3)] = some (IV.d (D.bool v0), [v1])) (h1 : v0 = true) (h2 : C 50 [IV.d (D.sl 4 z1 x2 e3), IV.d (D.sl 1 z4 x5 e6)] = some (IV.d (D.bool v2), [v3, v4])) (h3 : v2 = true) (h4 : C 51 [IV.d (D.sl 1 z4 x5 e6)] = some (IV.own v5 3 1 v6, [v7])) (h5 : ((↑(List.length v6) : Int) == 0) = true) : evFnJ F C J d32 [.d (.sl 4 z1 x2 e3), .d (.sl 1 z4 x5 e6)] = some (IV.d (D.bool true), [IV.d (D.sl 4 z1 x2 e3), IV.d (D.sl 1 z4 x5 e6)]) := fnW_way (q32 C J z1 x2 e3 z4 x5 e6 _) (Exists.intro v0 (Exists.intro v1 (And.intro h0 (condW_t h1 (Exists.intro v2 (Exists.intro v3 (Exists.intro v4 (And.intro h2 (condW_t h3 (Exists.intro v5 (Exists.intro v6 (Exists.intro v7 (And.intro h4 (condW_t h5 (rfl)))))))))))))))
theorem q32_1 {C J} (z1 : Bool) (x2 : List D) (e3 : List D) (z4 : Bool) (x5 : List D) (e6 : List D) (v0 : Bool) (v1 : IV) (v2 : Bool) (v3 : IV) (v4 : IV) (v5 : Bool) (v6 : List D) (v7 : IV) (h0 : C 38 [IV.d (D.sl 4 z1 x2 e3)] = some (IV.d (D.bool v0), [v1])) (h1 : v0 = true) (h2 : C 50 [IV.d (D.sl 4 z1 x2 e3), IV.d (D.sl 1 z4 x5 e6)] = some (IV.d (D.bool v2), [v3, v4])) (h3 : v2 = true) (h4 : C 51 [IV.d (D.sl 1 z4 x5 e6)] = some (IV.own v5 3 1 v6, [v7])) (h5 : ((↑(List.length v6) : Int) == 0) = false) : evFnJ F C J d32 [.d (.sl 4 z1 x2 e3), .d (.sl 1 z4 x5 e6)] = some (IV.d (D.bool false), [IV.d (D.sl 4 z1 x2 e3), IV.d (D.sl 1 z4 x5 e6)]) := fnW_way (q32 C J z1 x2 e3 z4 x5 e6 _) (Exists.intro v0 (Exists.intro v1 (And.intro h0 (condW_t h1 (Exists.intro v2 (Exists.intro v3 (Exists.intro v4 (And.intro h2 (condW_t h3 (Exists.intro v5 (Exists.intro v6 (Exists.intro v7 (And.intro h4 (condW_f h5 (rfl)))))))))))))))
theorem q32_2 {C J} (z1 : Bool) (x2 : List D) (e3 : List D) (z4 : Bool) (x5 : List D) (e6 : List D) (v0 : Bool) (v1 : IV) (v2 : Bool) (v3 : IV) (v4 : IV) (h0 : C 38 [IV.d (D.sl 4 z1 x2 e3)] = some (IV.d (D.bool v0), [v1])) (h1 : v0 = true) (h2 : C 50 [IV.d (D.sl 4 z1 x2 e3), IV.d (D.sl 1 z4 x5 e6)] = some (IV.d (D.bool v2), [v3, v4])) (h3 : v2 = false) : evFnJ F C J d32 [.d (.sl 4 z1 x2 e3), .d (.sl 1 z4 x5 e6)] = some (IV.d (D.bool false), [IV.d (D.sl 4 z1 x2 e3), IV.d (D.sl 1 z4 x5 e6)]) := fnW_way (q32 C J z1 x2 e3 z4 x5 e6 _) (Exists.intro v0 (Exists.intro v1 (And.intro h0 (condW_t h1 (Exists.intro v2 (Exists.intro v3 (Exists.intro v4 (And.intro h2 (condW_f h3 (rfl))))))))))
theorem q32_3 {C J} (z1 : Bool) (x2 : List D) (e3 : List D) (z4 : Bool) (x5 : List D) (e6 : List D) (v0 : Bool) (v1 : IV) (h0 : C 38 [IV.d (D.sl 4 z1 x2 e3)] = some (IV.d (D.bool v0), [v1])) (h1 : v0 = false) : evFnJ F C J d32 [.d (.sl 4 z1 x2 e3), .d (.sl 1 z4 x5 e6)] = some (IV.d (D.bool false), [IV.d (D.sl 4 z1 x2 e3), IV.d (D.sl 1 z4 x5 e6)]) := fnW_way (q32 C J z1 x2 e3 z4 x5 e6 _) (Exists.intro v0 (Exists.intro v1 (And.intro h0 (condW_f h1 (rfl)))))
theorem q33 (C J) (z1 : Bool) (x2 : List D) (e3 : List D) (Q) : fnW F C R (L33) J d33 [.d (.sl 1 z1 x2 e3)] Q = (∃ w0 w1 w2 w3 w4, evP F C J d33 [] [1, 1, 0, 1] [(0, IV.d (D.sl 1 z1 x2 e3)), (3, IV.d (D.int IntKind.i64 7)), (4, IV.d (D.int IntKind.i64 0))] = some (Out.norm [(0, IV.d (D.sl 1 w0 w1 w2)), (3, IV.d (D.int IntKind.i64 w3)), (4, IV.d (D.int IntKind.i64 w4))]) ∧ Q (some (IV.d (D.int IntKind.i64 w3), [IV.d (D.sl 1 z1 x2 e3)]))) := by kernel_rfl
theorem q33_0 {C J} (z1 : Bool) (x2 : List D) (e3 : List D) (v0 : Bool) (v1 : List D) (v2 : List D) (v3 : Int) (v4 : Int) (h0 : evP F C J d33 [] [1, 1, 0, 1] [(0, IV.d (D.sl 1 z1 x2 e3)), (3, IV.d (D.int IntKind.i64 7)), (4, IV.d (D.int IntKind.i64 0))] = some (Out.norm [(0, IV.d (D.sl 1 v0 v1 v2)), (3, IV.d (D.int IntKind.i64 v3)), (4, IV.d (D.int IntKind.i64 v4))])) : evFnJ F C J d33 [.d (.sl 1 z1 x2 e3)] = some (IV.d (D.int IntKind.i64 v3), [IV.d (D.sl 1 z1 x2 e3)]) := fnW_way (q33 C J z1 x2 e3 _) (Exists.intro v0 (Exists.intro v1 (Exists.intro v2 (Exists.intro v3 (Exists.intro v4 (And.intro h0 (rfl)))))))
theorem q33_l0a (C J) (z1 : Bool) (x2 : List D) (e3 : List D) (i4 : Int) (i5 : Int) (Q) : wpQ F C R (L33) J d33 [] [1,1,0,1,0,0] [(0, .d (.sl 1 z1 x2 e3)), (3, .d (.int .i64 i4)), (4, .d (.int .i64 i5))] Q = (condW (decide (i5 < (↑(List.length x2) : Int))) (condW (decide (0 ≤ i5)) (∃ w0, x2[Int.toNat i5]? = some (D.int IntKind.i64 w0) ∧ Q (Out.norm [(0, IV.d (D.sl 1 z1 x2 e3)), (3, IV.d (D.int IntKind.i64 (Int.tmod (IntKind.wrap IntKind.i64 (IntKind.wrap IntKind.i64 (IntKind.wrap IntKind.i64 (i4 * 31) + w0) + 1)) 1009))), (4, IV.d (D.int IntKind.i64 (IntKind.wrap IntKind.i64 (i5 + 1))))])) False) (Q (Out.exit 0 [(0, IV.d (D.sl 1 z1 x2 e3)), (3, IV.d (D.int IntKind.i64 i4)), (4, IV.d (D.int IntKind.i64 i5))]))) := by kernel_rfl
theorem q33_l0a_0 {C J} (z1 : Bool) (x2 : List D) (e3 : List D) (i4 : Int) (i5 : Int) (v0 : Int) (h0 : i5 < (↑(List.length x2) : Int)) (h1 : 0 ≤ i5) (h2 : x2[Int.toNat i5]? = some (D.int IntKind.i64 v0)) : evP F C J d33 [] [1,1,0,1,0,0] [(0, .d (.sl 1 z1 x2 e3)), (3, .d (.int .i64 i4)), (4, .d (.int .i64 i5))] = some (Out.norm [(0, IV.d (D.sl 1 z1 x2 e3)), (3, IV.d (D.int IntKind.i64 (Int.tmod (IntKind.wrap IntKind.i64 (IntKind.wrap IntKind.i64 (IntKind.wrap IntKind.i64 (i4 * 31) + v0) + 1)) 1009))), (4, IV.d (D.int IntKind.i64 (IntKind.wrap IntKind.i64 (i5 + 1))))]) := wpQ_way (q33_l0a C J z1 x2 e3 i4 i5 _) (condW_t (decide_eq_true h0) (condW_t (decide_eq_true h1) (Exists.intro v0 (And.intro h2 (rfl)))))
theorem q33_l0a_1 {C J} (z1 : Bool) (x2 : List D) (e3 : List D) (i4 : Int) (i5 : Int) (h0 : ¬i5 < (↑(List.length x2) : Int)) : evP F C J d33 [] [1,1,0,1,0,0] [(0, .d (.sl 1 z1 x2 e3)), (3, .d (.int .i64 i4)), (4, .d (.int .i64 i5))] = some (Out.exit 0 [(0, IV.d (D.sl 1 z1 x2 e3)), (3, IV.d (D.int IntKind.i64 i4)), (4, IV.d (D.int IntKind.i64 i5))]) := wpQ_way (q33_l0a C J z1 x2 e3 i4 i5 _) (condW_f (decide_eq_false h0) (rfl))
theorem q11 (C J) (z1 : Bool) (x2 : List D) (e3 : List D) (z4 : Bool) (x5 : List D) (e6 : List D) (Q) : fnW F C R (L11) J d11 [.d (.sl 4 z1 x2 e3), .d (.sl 1 z4 x5 e6)] Q = (∃ w0 w1 w2, C 32 [IV.d (D.sl 4 z1 x2 e3), IV.d (D.sl 1 z4 x5 e6)] = some (IV.d (D.bool w0), [w1, w2]) ∧ condW w0 (∃ w3 w4, C 33 [IV.d (D.sl 1 z4 x5 e6)] = some (IV.d (D.int IntKind.i64 w3), [w4]) ∧ Q (some (IV.tup [IV.d (D.int IntKind.i64 w3), IV.d (D.int IntKind.i64 0)], [IV.d (D.sl 4 z1 x2 e3), IV.d (D.sl 1 z4 x5 e6)]))) (Q (some (IV.tup [IV.d (D.int IntKind.i64 0), IV.d (D.int IntKind.i64 1100)], [IV.d (D.sl 4 z1 x2 e3), IV.d (D.sl 1 z4 x5 e6)])))) := by kernel_rfl
theorem q11_0 {C J} (z1 : Bool) (x2 : List D) (e3 : List D) (z4 : Bool) (x5 : List D) (e6 : List D) (v0 : Bool) (v1 : IV) (v2 : IV) (v3 : Int) (v4 : IV) (h0 : C 32 [IV.d (D.sl 4 z1 x2 e3), IV.d (D.sl 1 z4 x5 e6)] = some (IV.d (D.bool v0), [v1, v2])) (h1 : v0 = true) (h2 : C 33 [IV.d (D.sl 1 z4 x5 e6)] = some (IV.d (D.int IntKind.i64 v3), [v4])) : evFnJ F C J d11 [.d (.sl 4 z1 x2 e3), .d (.sl 1 z4 x5 e6)] = some (IV.tup [IV.d (D.int IntKind.i64 v3), IV.d (D.int IntKind.i64 0)], [IV.d (D.sl 4 z1 x2 e3), IV.d (D.sl 1 z4 x5 e6)]) := fnW_way (q11 C J z1 x2 e3 z4 x5 e6 _) (Exists.intro v0 (Exists.intro v1 (Exists.intro v2 (And.intro h0 (condW_t h1 (Exists.intro v3 (Exists.intro v4 (And.intro h2 (rfl)))))))))
theorem q11_1 {C J} (z1 : Bool) (x2 : List D) (e3 : List D) (z4 : Bool) (x5 : List D) (e6 : List D) (v0 : Bool) (v1 : IV) (v2 : IV) (h0 : C 32 [IV.d (D.sl 4 z1 x2 e3), IV.d (D.sl 1 z4 x5 e6)] = some (IV.d (D.bool v0), [v1, v2])) (h1 : v0 = false) : evFnJ F C J d11 [.d (.sl 4 z1 x2 e3), .d (.sl 1 z4 x5 e6)] = some (IV.tup [IV.d (D.int IntKind.i64 0), IV.d (D.int IntKind.i64 1100)], [IV.d (D.sl 4 z1 x2 e3), IV.d (D.sl 1 z4 x5 e6)]) := fnW_way (q11 C J z1 x2 e3 z4 x5 e6 _) (Exists.intro v0 (Exists.intro v1 (Exists.intro v2 (And.intro h0 (condW_f h1 (rfl))))))
theorem q53 (C J) (z1 : Bool) (x2 : List D) (e3 : List D) (z4 : Bool) (x5 : List D) (e6 : List D) (Q) : fnW F C R (L53) J d53 [.d (.sl 1 z1 x2 e3), .d (.sl 1 z4 x5 e6)] Q = (condW ((↑(List.length x2) : Int) != (↑(List.length x5) : Int)) (Q (some (IV.d (D.bool false), [IV.d (D.sl 1 z1 x2 e3), IV.d (D.sl 1 z4 x5 e6)]))) ((∃ w0, evP F C J d53 [] [1, 1, 0, 1] [(0, IV.d (D.sl 1 z1 x2 e3)), (1, IV.d (D.sl 1 z4 x5 e6)), (5, IV.d (D.int IntKind.i64 0))] = some (Out.ret [(4, IV.d (D.bool w0))]) ∧ Q (some (IV.d (D.bool w0), [IV.d (D.sl 1 z1 x2 e3), IV.d (D.sl 1 z4 x5 e6)]))) ∨ ∃ w1 w2 w3 w4 w5 w6 w7, evP F C J d53 [] [1, 1, 0, 1] [(0, IV.d (D.sl 1 z1 x2 e3)), (1, IV.d (D.sl 1 z4 x5 e6)), (5, IV.d (D.int IntKind.i64 0))] = some (Out.norm [(0, IV.d (D.sl 1 w1 w2 w3)), (1, IV.d (D.sl 1 w4 w5 w6)), (5, IV.d (D.int IntKind.i64 w7))]) ∧ Q (some (IV.d (D.bool true), [IV.d (D.sl 1 z1 x2 e3), IV.d (D.sl 1 z4 x5 e6)])))) := by kernel_rfl
theorem q53_0 {C J} (z1 : Bool) (x2 : List D) (e3 : List D) (z4 : Bool) (x5 : List D) (e6 : List D) (h0 : ((↑(List.length x2) : Int) != (↑(List.length x5) : Int)) = true) : evFnJ F C J d53 [.d (.sl 1 z1 x2 e3), .d (.sl 1 z4 x5 e6)] = some (IV.d (D.bool false), [IV.d (D.sl 1 z1 x2 e3), IV.d (D.sl 1 z4 x5 e6)]) := fnW_way (q53 C J z1 x2 e3 z4 x5 e6 _) (condW_t h0 (rfl))
theorem q53_1 {C J} (z1 : Bool) (x2 : List D) (e3 : List D) (z4 : Bool) (x5 : List D) (e6 : List D) (v0 : Bool) (h0 : ((↑(List.length x2) : Int) != (↑(List.length x5) : Int)) = false) (h1 : evP F C J d53 [] [1, 1, 0, 1] [(0, IV.d (D.sl 1 z1 x2 e3)), (1, IV.d (D.sl 1 z4 x5 e6)), (5, IV.d (D.int IntKind.i64 0))] = some (Out.ret [(4, IV.d (D.bool v0))])) : evFnJ F C J d53 [.d (.sl 1 z1 x2 e3), .d (.sl 1 z4 x5 e6)] = some (IV.d (D.bool v0), [IV.d (D.sl 1 z1 x2 e3), IV.d (D.sl 1 z4 x5 e6)]) := fnW_way (q53 C J z1 x2 e3 z4 x5 e6 _) (condW_f h0 (Or.inl (Exists.intro v0 (And.intro h1 (rfl)))))
theorem q53_2 {C J} (z1 : Bool) (x2 : List D) (e3 : List D) (z4 : Bool) (x5 : List D) (e6 : List D) (v0 : Bool) (v1 : List D) (v2 : List D) (v3 : Bool) (v4 : List D) (v5 : List D) (v6 : Int) (h0 : ((↑(List.length x2) : Int) != (↑(List.length x5) : Int)) = false) (h1 : evP F C J d53 [] [1, 1, 0, 1] [(0, IV.d (D.sl 1 z1 x2 e3)), (1, IV.d (D.sl 1 z4 x5 e6)), (5, IV.d (D.int IntKind.i64 0))] = some (Out.norm [(0, IV.d (D.sl 1 v0 v1 v2)), (1, IV.d (D.sl 1 v3 v4 v5)), (5, IV.d (D.int IntKind.i64 v6))])) : evFnJ F C J d53 [.d (.sl 1 z1 x2 e3), .d (.sl 1 z4 x5 e6)] = some (IV.d (D.bool true), [IV.d (D.sl 1 z1 x2 e3), IV.d (D.sl 1 z4 x5 e6)]) := fnW_way (q53 C J z1 x2 e3 z4 x5 e6 _) (condW_f h0 (Or.inr (Exists.intro v0 (Exists.intro v1 (Exists.intro v2 (Exists.intro v3 (Exists.intro v4 (Exists.intro v5 (Exists.intro v6 (And.intro h1 (rfl)))))))))))
theorem q53_l0a (C J) (z1 : Bool) (x2 : List D) (e3 : List D) (z4 : Bool) (x5 : List D) (e6 : List D) (i7 : Int) (Q) : wpQ F C R (L53) J d53 [] [1,1,0,1,0,0] [(0, .d (.sl 1 z1 x2 e3)), (1, .d (.sl 1 z4 x5 e6)), (5, .d (.int .i64 i7))] Q = (condW (decide (i7 < (↑(List.length x2) : Int))) (condW (decide (0 ≤ i7)) (∃ w0, x2[Int.toNat i7]? = some (D.int IntKind.i64 w0) ∧ condW (decide (0 ≤ i7)) (∃ w1, x5[Int.toNat i7]? = some (D.int IntKind.i64 w1) ∧ condW (w0 != w1) (Q (Out.ret [(4, IV.d (D.bool false))])) (Q (Out.norm [(0, IV.d (D.sl 1 z1 x2 e3)), (1, IV.d (D.sl 1 z4 x5 e6)), (5, IV.d (D.int IntKind.i64 (IntKind.wrap IntKind.i64 (i7 + 1))))]))) False) False) (Q (Out.exit 0 [(0, IV.d (D.sl 1 z1 x2 e3)), (1, IV.d (D.sl 1 z4 x5 e6)), (5, IV.d (D.int IntKind.i64 i7))]))) := by kernel_rfl
theorem q53_l0a_0 {C J} (z1 : Bool) (x2 : List D) (e3 : List D) (z4 : Bool) (x5 : List D) (e6 : List D) (i7 : Int) (v0 : Int) (v1 : Int) (h0 : i7 < (↑(List.length x2) : Int)) (h1 : 0 ≤ i7) (h2 : x2[Int.toNat i7]? = some (D.int IntKind.i64 v0)) (h3 : x5[Int.toNat i7]? = some (D.int IntKind.i64 v1)) (h4 : (v0 != v1) = true) : evP F C J d53 [] [1,1,0,1,0,0] [(0, .d (.sl 1 z1 x2 e3)), (1, .d (.sl 1 z4 x5 e6)), (5, .d (.int .i64 i7))] = some (Out.ret [(4, IV.d (D.bool false))]) := wpQ_way (q53_l0a C J z1 x2 e3 z4 x5 e6 i7 _) (condW_t (decide_eq_true h0) (condW_t (decide_eq_true h1) (Exists.intro v0 (And.intro h2 (condW_t (decide_eq_true h1) (Exists.intro v1 (And.intro h3 (condW_t h4 (rfl)))))))))
theorem q53_l0a_1 {C J} (z1 : Bool) (x2 : List D) (e3 : List D) (z4 : Bool) (x5 : List D) (e6 : List D) (i7 : Int) (v0 : Int) (v1 : Int) (h0 : i7 < (↑(List.length x2) : Int)) (h1 : 0 ≤ i7) (h2 : x2[Int.toNat i7]? = some (D.int IntKind.i64 v0)) (h3 : x5[Int.toNat i7]? = some (D.int IntKind.i64 v1)) (h4 : (v0 != v1) = false) : evP F C J d53 [] [1,1,0,1,0,0] [(0, .d (.sl 1 z1 x2 e3)), (1, .d (.sl 1 z4 x5 e6)), (5, .d (.int .i64 i7))] = some (Out.norm [(0, IV.d (D.sl 1 z1 x2 e3)), (1, IV.d (D.sl 1 z4 x5 e6)), (5, IV.d (D.int IntKind.i64 (IntKind.wrap IntKind.i64 (i7 + 1))))]) := wpQ_way (q53_l0a C J z1 x2 e3 z4 x5 e6 i7 _) (condW_t (decide_eq_true h0) (condW_t (decide_eq_true h1) (Exists.intro v0 (And.intro h2 (condW_t (decide_eq_true h1) (Exists.intro v1 (And.intro h3 (condW_f h4 (rfl)))))))))
theorem q53_l0a_2 {C J} (z1 : Bool) (x2 : List D) (e3 : List D) (z4 : Bool) (x5 : List D) (e6 : List D) (i7 : Int) (h0 : ¬i7 < (↑(List.length x2) : Int)) : evP F C J d53 [] [1,1,0,1,0,0] [(0, .d (.sl 1 z1 x2 e3)), (1, .d (.sl 1 z4 x5 e6)), (5, .d (.int .i64 i7))] = some (Out.exit 0 [(0, IV.d (D.sl 1 z1 x2 e3)), (1, IV.d (D.sl 1 z4 x5 e6)), (5, IV.d (D.int IntKind.i64 i7))]) := wpQ_way (q53_l0a C J z1 x2 e3 z4 x5 e6 i7 _) (condW_f (decide_eq_false h0) (rfl))
theorem q35 (C J) (z1 : Bool) (x2 : List D) (e3 : List D) (z4 : Bool) (x5 : List D) (e6 : List D) (z7 : Bool) (x8 : List D) (e9 : List D) (Q) : fnW F C R (L35) J d35 [.d (.agg [.sl 1 z1 x2 e3, .sl 1 z4 x5 e6]), .d (.sl 1 z7 x8 e9)] Q = ((∃ w0, evP F C J d35 [] [1, 0, 1] [(1, IV.d (D.sl 1 z7 x8 e9)), (2, IV.dbox 26 0 [D.sl 1 z1 x2 e3, D.sl 1 z4 x5 e6]), (5, IV.d (D.int IntKind.i64 0))] = some (Out.ret [(4, IV.d (D.int IntKind.i64 w0))]) ∧ Q (some (IV.d (D.int IntKind.i64 w0), [IV.d (D.agg [D.sl 1 z1 x2 e3, D.sl 1 z4 x5 e6]), IV.d (D.sl 1 z7 x8 e9)]))) ∨ ∃ w1 w2 w3 w4 w5 w6 w7 w8 w9 w10, evP F C J d35 [] [1, 0, 1] [(1, IV.d (D.sl 1 z7 x8 e9)), (2, IV.dbox 26 0 [D.sl 1 z1 x2 e3, D.sl 1 z4 x5 e6]), (5, IV.d (D.int IntKind.i64 0))] = some (Out.norm [(1, IV.d (D.sl 1 w1 w2 w3)), (2, IV.dbox 26 0 [D.sl 1 w4 w5 w6, D.sl 1 w7 w8 w9]), (5, IV.d (D.int IntKind.i64 w10))]) ∧ Q (some (IV.d (D.int IntKind.i64 (-1)), [IV.d (D.agg [D.sl 1 z1 x2 e3, D.sl 1 z4 x5 e6]), IV.d (D.sl 1 z7 x8 e9)]))) := by kernel_rfl
theorem q35_0 {C J} (z1 : Bool) (x2 : List D) (e3 : List D) (z4 : Bool) (x5 : List D) (e6 : List D) (z7 : Bool) (x8 : List D) (e9 : List D) (v0 : Int) (h0 : evP F C J d35 [] [1, 0, 1] [(1, IV.d (D.sl 1 z7 x8 e9)), (2, IV.dbox 26 0 [D.sl 1 z1 x2 e3, D.sl 1 z4 x5 e6]), (5, IV.d (D.int IntKind.i64 0))] = some (Out.ret [(4, IV.d (D.int IntKind.i64 v0))])) : evFnJ F C J d35 [.d (.agg [.sl 1 z1 x2 e3, .sl 1 z4 x5 e6]), .d (.sl 1 z7 x8 e9)] = some (IV.d (D.int IntKind.i64 v0), [IV.d (D.agg [D.sl 1 z1 x2 e3, D.sl 1 z4 x5 e6]), IV.d (D.sl 1 z7 x8 e9)]) := fnW_way (q35 C J z1 x2 e3 z4 x5 e6 z7 x8 e9 _) (Or.inl (Exists.intro v0 (And.intro h0 (rfl))))
theorem q35_1 {C J} (z1 : Bool) (x2 : List D) (e3 : List D) (z4 : Bool) (x5 : List D) (e6 : List D) (z7 : Bool) (x8 : List D) (e9 : List D) (v0 : Bool) (v1 : List D) (v2 : List D) (v3 : Bool) (v4 : List D) (v5 : List D) (v6 : Bool) (v7 : List D) (v8 : List D) (v9 : Int) (h0 : evP F C J d35 [] [1, 0, 1] [(1, IV.d (D.sl 1 z7 x8 e9)), (2, IV.dbox 26 0 [D.sl 1 z1 x2 e3, D.sl 1 z4 x5 e6]), (5, IV.d (D.int IntKind.i64 0))] = some (Out.norm [(1, IV.d (D.sl 1 v0 v1 v2)), (2, IV.dbox 26 0 [D.sl 1 v3 v4 v5, D.sl 1 v6 v7 v8]), (5, IV.d (D.int IntKind.i64 v9))])) : evFnJ F C J d35 [.d (.agg [.sl 1 z1 x2 e3, .sl 1 z4 x5 e6]), .d (.sl 1 z7 x8 e9)] = some (IV.d (D.int IntKind.i64 (-1)), [IV.d (D.agg [D.sl 1 z1 x2 e3, D.sl 1 z4 x5 e6]), IV.d (D.sl 1 z7 x8 e9)]) := fnW_way (q35 C J z1 x2 e3 z4 x5 e6 z7 x8 e9 _) (Or.inr (Exists.intro v0 (Exists.intro v1 (Exists.intro v2 (Exists.intro v3 (Exists.intro v4 (Exists.intro v5 (Exists.intro v6 (Exists.intro v7 (Exists.intro v8 (Exists.intro v9 (And.intro h0 (rfl)))))))))))))
theorem q35_l0a (C J) (z1 : Bool) (x2 : List D) (e3 : List D) (z4 : Bool) (x5 : List D) (e6 : List D) (z7 : Bool) (x8 : List D) (e9 : List D) (i10 : Int) (Q) : wpQ F C R (L35) J d35 [] [1,0,1,0,0] [(1, .d (.sl 1 z1 x2 e3)), (2, .dbox 26 0 [.sl 1 z4 x5 e6, .sl 1 z7 x8 e9]), (5, .d (.int .i64 i10))] Q = (condW (decide (i10 < (↑(List.length x8) : Int))) (condW (decide (0 ≤ i10)) (∃ w0 w1 w2, x8[Int.toNat i10]? = some (D.sl 1 w0 w1 w2) ∧ ∃ w3 w4 w5, C 53 [IV.d (D.sl 1 w0 w1 w2), IV.d (D.sl 1 z1 x2 e3)] = some (IV.d (D.bool w3), [w4, w5]) ∧ condW w3 (Q (Out.ret [(4, IV.d (D.int IntKind.i64 i10))])) (Q (Out.norm [(1, IV.d (D.sl 1 z1 x2 e3)), (2, IV.dbox 26 0 [D.sl 1 z4 x5 e6, D.sl 1 z7 x8 e9]), (5, IV.d (D.int IntKind.i64 (IntKind.wrap IntKind.i64 (i10 + 1))))]))) False) (Q (Out.exit 0 [(1, IV.d (D.sl 1 z1 x2 e3)), (2, IV.dbox 26 0 [D.sl 1 z4 x5 e6, D.sl 1 z7 x8 e9]), (5, IV.d (D.int IntKind.i64 i10))]))) := by kernel_rfl
theorem q35_l0a_0 {C J} (z1 : Bool) (x2 : List D) (e3 : List D) (z4 : Bool) (x5 : List D) (e6 : List D) (z7 : Bool) (x8 : List D) (e9 : List D) (i10 : Int) (v0 : Bool) (v1 : List D) (v2 : List D) (v3 : Bool) (v4 : IV) (v5 : IV) (h0 : i10 < (↑(List.length x8) : Int)) (h1 : 0 ≤ i10) (h2 : x8[Int.toNat i10]? = some (D.sl 1 v0 v1 v2)) (h3 : C 53 [IV.d (D.sl 1 v0 v1 v2), IV.d (D.sl 1 z1 x2 e3)] = some (IV.d (D.bool v3), [v4, v5])) (h4 : v3 = true) : evP F C J d35 [] [1,0,1,0,0] [(1, .d (.sl 1 z1 x2 e3)), (2, .dbox 26 0 [.sl 1 z4 x5 e6, .sl 1 z7 x8 e9]), (5, .d (.int .i64 i10))] = some (Out.ret [(4, IV.d (D.int IntKind.i64 i10))]) := wpQ_way (q35_l0a C J z1 x2 e3 z4 x5 e6 z7 x8 e9 i10 _) (condW_t (decide_eq_true h0) (condW_t (decide_eq_true h1) (Exists.intro v0 (Exists.intro v1 (Exists.intro v2 (And.intro h2 (Exists.intro v3 (Exists.intro v4 (Exists.intro v5 (And.intro h3 (condW_t h4 (rfl))))))))))))
theorem q35_l0a_1 {C J} (z1 : Bool) (x2 : List D) (e3 : List D) (z4 : Bool) (x5 : List D) (e6 : List D) (z7 : Bool) (x8 : List D) (e9 : List D) (i10 : Int) (v0 : Bool) (v1 : List D) (v2 : List D) (v3 : Bool) (v4 : IV) (v5 : IV) (h0 : i10 < (↑(List.length x8) : Int)) (h1 : 0 ≤ i10) (h2 : x8[Int.toNat i10]? = some (D.sl 1 v0 v1 v2)) (h3 : C 53 [IV.d (D.sl 1 v0 v1 v2), IV.d (D.sl 1 z1 x2 e3)] = some (IV.d (D.bool v3), [v4, v5])) (h4 : v3 = false) : evP F C J d35 [] [1,0,1,0,0] [(1, .d (.sl 1 z1 x2 e3)), (2, .dbox 26 0 [.sl 1 z4 x5 e6, .sl 1 z7 x8 e9]), (5, .d (.int .i64 i10))] = some (Out.norm [(1, IV.d (D.sl 1 z1 x2 e3)), (2, IV.dbox 26 0 [D.sl 1 z4 x5 e6, D.sl 1 z7 x8 e9]), (5, IV.d (D.int IntKind.i64 (IntKind.wrap IntKind.i64 (i10 + 1))))]) := wpQ_way (q35_l0a C J z1 x2 e3 z4 x5 e6 z7 x8 e9 i10 _) (condW_t (decide_eq_true h0) (condW_t (decide_eq_true h1) (Exists.intro v0 (Exists.intro v1 (Exists.intro v2 (And.intro h2 (Exists.intro v3 (Exists.intro v4 (Exists.intro v5 (And.intro h3 (condW_f h4 (rfl))))))))))))
theorem q35_l0a_2 {C J} (z1 : Bool) (x2 : List D) (e3 : List D) (z4 : Bool) (x5 : List D) (e6 : List D) (z7 : Bool) (x8 : List D) (e9 : List D) (i10 : Int) (h0 : ¬i10 < (↑(List.length x8) : Int)) : evP F C J d35 [] [1,0,1,0,0] [(1, .d (.sl 1 z1 x2 e3)), (2, .dbox 26 0 [.sl 1 z4 x5 e6, .sl 1 z7 x8 e9]), (5, .d (.int .i64 i10))] = some (Out.exit 0 [(1, IV.d (D.sl 1 z1 x2 e3)), (2, IV.dbox 26 0 [D.sl 1 z4 x5 e6, D.sl 1 z7 x8 e9]), (5, IV.d (D.int IntKind.i64 i10))]) := wpQ_way (q35_l0a C J z1 x2 e3 z4 x5 e6 z7 x8 e9 i10 _) (condW_f (decide_eq_false h0) (rfl))
theorem q39 (C J) (z1 : Bool) (x2 : List D) (e3 : List D) (z4 : Bool) (x5 : List D) (e6 : List D) (i7 : Int) (Q) : fnW F C R (L39) J d39 [.d (.agg [.sl 1 z1 x2 e3, .sl 1 z4 x5 e6]), .d (.int .i64 i7)] Q = (∃ w0 w1 w2 w3 w4 w5 w6 w7 w8, evP F C J d39 [] [1, 1, 0, 1] [(1, IV.d (D.int IntKind.i64 i7)), (2, IV.dbox 26 0 [D.sl 1 z1 x2 e3, D.sl 1 z4 x5 e6]), (5, IV.d (D.int IntKind.i64 (-1))), (6, IV.d (D.int IntKind.i64 0))] = some (Out.norm [(1, IV.d (D.int IntKind.i64 w0)), (2, IV.dbox 26 0 [D.sl 1 w1 w2 w3, D.sl 1 w4 w5 w6]), (5, IV.d (D.int IntKind.i64 w7)), (6, IV.d (D.int IntKind.i64 w8))]) ∧ Q (some (IV.d (D.int IntKind.i64 w7), [IV.d (D.agg [D.sl 1 z1 x2 e3, D.sl 1 z4 x5 e6]), IV.d (D.int IntKind.i64 i7)]))) := by kernel_rfl
theorem q39_0 {C J} (z1 : Bool) (x2 : List D) (e3 : List D) (z4 : Bool) (x5 : List D) (e6 : List D) (i7 : Int) (v0 : Int) (v1 : Bool) (v2 : List D) (v3 : List D) (v4 : Bool) (v5 : List D) (v6 : List D) (v7 : Int) (v8 : Int) (h0 : evP F C J d39 [] [1, 1, 0, 1] [(1, IV.d (D.int IntKind.i64 i7)), (2, IV.dbox 26 0 [D.sl 1 z1 x2 e3, D.sl 1 z4 x5 e6]), (5, IV.d (D.int IntKind.i64 (-1))), (6, IV.d (D.int IntKind.i64 0))] = some (Out.norm [(1, IV.d (D.int IntKind.i64 v0)), (2, IV.dbox 26 0 [D.sl 1 v1 v2 v3, D.sl 1 v4 v5 v6]), (5, IV.d (D.int IntKind.i64 v7)), (6, IV.d (D.int IntKind.i64 v8))])) : evFnJ F C J d39 [.d (.agg [.sl 1 z1 x2 e3, .sl 1 z4 x5 e6]), .d (.int .i64 i7)] = some (IV.d (D.int IntKind.i64 v7), [IV.d (D.agg [D.sl 1 z1 x2 e3, D.sl 1 z4 x5 e6]), IV.d (D.int IntKind.i64 i7)]) := fnW_way (q39 C J z1 x2 e3 z4 x5 e6 i7 _) (Exists.intro v0 (Exists.intro v1 (Exists.intro v2 (Exists.intro v3 (Exists.intro v4 (Exists.intro v5 (Exists.intro v6 (Exists.intro v7 (Exists.intro v8 (And.intro h0 (rfl)))))))))))
theorem q39_l0a (C J) (i1 : Int) (z2 : Bool) (x3 : List D) (e4 : List D) (z5 : Bool) (x6 : List D) (e7 : List D) (i8 : Int) (i9 : Int) (Q) : wpQ F C R (L39) J d39 [] [1,1,0,1,0,0] [(1, .d (.int .i64 i1)), (2, .dbox 26 0 [.sl 1 z2 x3 e4, .sl 1 z5 x6 e7]), (5, .d (.int .i64 i8)), (6, .d (.int .i64 i9))] Q = (condW (decide (i9 < (↑(List.length x3) : Int))) (condW (decide (0 ≤ i9)) (∃ w0, x3[Int.toNat i9]? = some (D.int IntKind.i64 w0) ∧ condW (w0 == i1) (Q (Out.norm [(1, IV.d (D.int IntKind.i64 i1)), (2, IV.dbox 26 0 [D.sl 1 z2 x3 e4, D.sl 1 z5 x6 e7]), (5, IV.d (D.int IntKind.i64 i9)), (6, IV.d (D.int IntKind.i64 (IntKind.wrap IntKind.i64 (i9 + 1))))])) (Q (Out.norm [(1, IV.d (D.int IntKind.i64 i1)), (2, IV.dbox 26 0 [D.sl 1 z2 x3 e4, D.sl 1 z5 x6 e7]), (5, IV.d (D.int IntKind.i64 i8)), (6, IV.d (D.int IntKind.i64 (IntKind.wrap IntKind.i64 (i9 + 1))))]))) False) (Q (Out.exit 0 [(1, IV.d (D.int IntKind.i64 i1)), (2, IV.dbox 26 0 [D.sl 1 z2 x3 e4, D.sl 1 z5 x6 e7]), (5, IV.d (D.int IntKind.i64 i8)), (6, IV.d (D.int IntKind.i64 i9))]))) := by kernel_rfl
theorem q39_l0a_0 {C J} (i1 : Int) (z2 : Bool) (x3 : List D) (e4 : List D) (z5 : Bool) (x6 : List D) (e7 : List D) (i8 : Int) (i9 : Int) (v0 : Int) (h0 : i9 < (↑(List.length x3) : Int)) (h1 : 0 ≤ i9) (h2 : x3[Int.toNat i9]? = some (D.int IntKind.i64 v0)) (h3 : (v0 == i1) = true) : evP F C J d39 [] [1,1,0,1,0,0] [(1, .d (.int .i64 i1)), (2, .dbox 26 0 [.sl 1 z2 x3 e4, .sl 1 z5 x6 e7]), (5, .d (.int .i64 i8)), (6, .d (.int .i64 i9))] = some (Out.norm [(1, IV.d (D.int IntKind.i64 i1)), (2, IV.dbox 26 0 [D.sl 1 z2 x3 e4, D.sl 1 z5 x6 e7]), (5, IV.d (D.int IntKind.i64 i9)), (6, IV.d (D.int IntKind.i64 (IntKind.wrap IntKind.i64 (i9 + 1))))]) := wpQ_way (q39_l0a C J i1 z2 x3 e4 z5 x6 e7 i8 i9 _) (condW_t (decide_eq_true h0) (condW_t (decide_eq_true h1) (Exists.intro v0 (And.intro h2 (condW_t h3 (rfl))))))
theorem q39_l0a_1 {C J} (i1 : Int) (z2 : Bool) (x3 : List D) (e4 : List D) (z5 : Bool) (x6 : List D) (e7 : List D) (i8 : Int) (i9 : Int) (v0 : Int) (h0 : i9 < (↑(List.length x3) : Int)) (h1 : 0 ≤ i9) (h2 : x3[Int.toNat i9]? = some (D.int IntKind.i64 v0)) (h3 : (v0 == i1) = false) : evP F C J d39 [] [1,1,0,1,0,0] [(1, .d (.int .i64 i1)), (2, .dbox 26 0 [.sl 1 z2 x3 e4, .sl 1 z5 x6 e7]), (5, .d (.int .i64 i8)), (6, .d (.int .i64 i9))] = some (Out.norm [(1, IV.d (D.int IntKind.i64 i1)), (2, IV.dbox 26 0 [D.sl 1 z2 x3 e4, D.sl 1 z5 x6 e7]), (5, IV.d (D.int IntKind.i64 i8)), (6, IV.d (D.int IntKind.i64 (IntKind.wrap IntKind.i64 (i9 + 1))))]) := wpQ_way (q39_l0a C J i1 z2 x3 e4 z5 x6 e7 i8 i9 _) (condW_t (decide_eq_true h0) (condW_t (decide_eq_true h1) (Exists.intro v0 (And.intro h2 (condW_f h3 (rfl))))))
theorem q39_l0a_2 {C J} (i1 : Int) (z2 : Bool) (x3 : List D) (e4 : List D) (z5 : Bool) (x6 : List D) (e7 : List D) (i8 : Int) (i9 : Int) (h0 : ¬i9 < (↑(List.length x3) : Int)) : evP F C J d39 [] [1,1,0,1,0,0] [(1, .d (.int .i64 i1)), (2, .dbox 26 0 [.sl 1 z2 x3 e4, .sl 1 z5 x6 e7]), (5, .d (.int .i64 i8)), (6, .d (.int .i64 i9))] = some (Out.exit 0 [(1, IV.d (D.int IntKind.i64 i1)), (2, IV.dbox 26 0 [D.sl 1 z2 x3 e4, D.sl 1 z5 x6 e7]), (5, IV.d (D.int IntKind.i64 i8)), (6, IV.d (D.int IntKind.i64 i9))]) := wpQ_way (q39_l0a C J i1 z2 x3 e4 z5 x6 e7 i8 i9 _) (condW_f (decide_eq_false h0) (rfl))
theorem q15 (C J) (z1 : Bool) (x2 : List D) (e3 : List D) (z4 : Bool) (x5 : List D) (e6 : List D) (z7 : Bool) (x8 : List D) (e9 : List D) (Q) : fnW F C R (L15) J d15 [.d (.sl 4 z1 x2 e3), .d (.agg [.sl 1 z4 x5 e6, .sl 1 z7 x8 e9])] Q = (∃ w0 w1, C 38 [IV.d (D.sl 4 z1 x2 e3)] = some (IV.d (D.bool w0), [w1]) ∧ condW w0 (condW ((↑(List.length x5) : Int) != 32) (Q (some (IV.d (D.bool false), [IV.d (D.sl 4 z1 x2 e3), IV.d (D.agg [D.sl 1 z4 x5 e6, D.sl 1 z7 x8 e9])]))) (condW (decide ((↑(List.length x8) : Int) > 24)) (Q (some (IV.d (D.bool false), [IV.d (D.sl 4 z1 x2 e3), IV.d (D.agg [D.sl 1 z4 x5 e6, D.sl 1 z7 x8 e9])]))) ((∃ w2, evP F C J d15 [] [1, 1, 1, 0, 1] [(0, IV.d (D.sl 4 z1 x2 e3)), (3, IV.dbox 26 0 [D.sl 1 z4 x5 e6, D.sl 1 z7 x8 e9]), (5, IV.d (D.int IntKind.i64 0)), (6, IV.d (D.int IntKind.i64 0))] = some (Out.ret [(4, IV.d (D.bool w2))]) ∧ Q (some (IV.d (D.bool w2), [IV.d (D.sl 4 z1 x2 e3), IV.d (D.agg [D.sl 1 z4 x5 e6, D.sl 1 z7 x8 e9])]))) ∨ ∃ w3 w4 w5 w6 w7 w8 w9 w10 w11 w12 w13, evP F C J d15 [] [1, 1, 1, 0, 1] [(0, IV.d (D.sl 4 z1 x2 e3)), (3, IV.dbox 26 0 [D.sl 1 z4 x5 e6, D.sl 1 z7 x8 e9]), (5, IV.d (D.int IntKind.i64 0)), (6, IV.d (D.int IntKind.i64 0))] = some (Out.norm [(0, IV.d (D.sl 4 w3 w4 w5)), (3, IV.dbox 26 0 [D.sl 1 w6 w7 w8, D.sl 1 w9 w10 w11]), (5, IV.d (D.int IntKind.i64 w12)), (6, IV.d (D.int IntKind.i64 w13))]) ∧ condW (w12 != (↑(List.length w10) : Int)) (Q (some (IV.d (D.bool false), [IV.d (D.sl 4 z1 x2 e3), IV.d (D.agg [D.sl 1 z4 x5 e6, D.sl 1 z7 x8 e9])]))) ((∃ w14, evP F C J d15 [] [1, 1, 1, 1, 1, 0, 1] [(0, IV.d (D.sl 4 w3 w4 w5)), (3, IV.dbox 26 0 [D.sl 1 w6 w7 w8, D.sl 1 w9 w10 w11]), (7, IV.d (D.int IntKind.i64 0))] = some (Out.ret [(4, IV.d (D.bool w14))]) ∧ Q (some (IV.d (D.bool w14), [IV.d (D.sl 4 z1 x2 e3), IV.d (D.agg [D.sl 1 z4 x5 e6, D.sl 1 z7 x8 e9])]))) ∨ ∃ w15 w16 w17 w18 w19 w20 w21 w22 w23 w24, evP F C J d15 [] [1, 1, 1, 1, 1, 0, 1] [(0, IV.d (D.sl 4 w3 w4 w5)), (3, IV.dbox 26 0 [D.sl 1 w6 w7 w8, D.sl 1 w9 w10 w11]), (7, IV.d (D.int IntKind.i64 0))] = some (Out.norm [(0, IV.d (D.sl 4 w15 w16 w17)), (3, IV.dbox 26 0 [D.sl 1 w18 w19 w20, D.sl 1 w21 w22 w23]), (7, IV.d (D.int IntKind.i64 w24))]) ∧ Q (some (IV.d (D.bool true), [IV.d (D.sl 4 z1 x2 e3), IV.d (D.agg [D.sl 1 z4 x5 e6, D.sl 1 z7 x8 e9])])))))) (Q (some (IV.d (D.bool false), [IV.d (D.sl 4 z1 x2 e3), IV.d (D.agg [D.sl 1 z4 x5 e6, D.sl 1 z7 x8 e9])])))) := by kernel_rfl
theorem q15_0 {C J} (z1 : Bool) (x2 : List D) (e3 : List D) (z4 : Bool) (x5 : List D) (e6 : List D) (z7 : Bool) (x8 : List D) (e9 : List D) (v0 : Bool) (v1 : IV) (h0 : C 38 [IV.d (D.sl 4 z1 x2 e3)] = some (IV.d (D.bool v0), [v1])) (h1 : v0 = true) (h2 : ((↑(List.length x5) : Int) != 32) = true) : evFnJ F C J d15 [.d (.sl 4 z1 x2 e3), .d (.agg [.sl 1 z4 x5 e6, .sl 1 z7 x8 e9])] = some (IV.d (D.bool false), [IV.d (D.sl 4 z1 x2 e3), IV.d (D.agg [D.sl 1 z4 x5 e6, D.sl 1 z7 x8 e9])]) := fnW_way (q15 C J z1 x2 e3 z4 x5 e6 z7 x8 e9 _) (Exists.intro v0 (Exists.intro v1 (And.intro h0 (condW_t h1 (condW_t h2 (rfl))))))
theorem q15_1 {C J} (z1 : Bool) (x2 : List D) (e3 : List D) (z4 : Bool) (x5 : List D) (e6 : List D) (z7 : Bool) (x8 : List D) (e9 : List D) (v0 : Bool) (v1 : IV) (h0 : C 38 [IV.d (D.sl 4 z1 x2 e3)] = some (IV.d (D.bool v0), [v1])) (h1 : v0 = true) (h2 : ((↑(List.length x5) : Int) != 32) = false) (h3 : (↑(List.length x8) : Int) > 24) : evFnJ F C J d15 [.d (.sl 4 z1 x2 e3), .d (.agg [.sl 1 z4 x5 e6, .sl 1 z7 x8 e9])] = some (IV.d (D.bool false), [IV.d (D.sl 4 z1 x2 e3), IV.d (D.agg [D.sl 1 z4 x5 e6, D.sl 1 z7 x8 e9])]) := fnW_way (q15 C J z1 x2 e3 z4 x5 e6 z7 x8 e9 _) (Exists.intro v0 (Exists.intro v1 (And.intro h0 (condW_t h1 (condW_f h2 (condW_t (decide_eq_true h3) (rfl)))))))
theorem q15_2 {C J} (z1 : Bool) (x2 : List D) (e3 : List D) (z4 : Bool) (x5 : List D) (e6 : List D) (z7 : Bool) (x8 : List D) (e9 : List D) (v0 : Bool) (v1 : IV) (v2 : Bool) (h0 : C 38 [IV.d (D.sl 4 z1 x2 e3)] = some (IV.d (D.bool v0), [v1])) (h1 : v0 = true) (h2 : ((↑(List.length x5) : Int) != 32) = false) (h3 : ¬(↑(List.length x8) : Int) > 24) (h4 : evP F C J d15 [] [1, 1, 1, 0, 1] [(0, IV.d (D.sl 4 z1 x2 e3)), (3, IV.dbox 26 0 [D.sl 1 z4 x5 e6, D.sl 1 z7 x8 e9]), (5, IV.d (D.int IntKind.i64 0)), (6, IV.d (D.int IntKind.i64 0))] = some (Out.ret [(4, IV.d (D.bool v2))])) : evFnJ F C J d15 [.d (.sl 4 z1 x2 e3), .d (.agg [.sl 1 z4 x5 e6, .sl 1 z7 x8 e9])] = some (IV.d (D.bool v2), [IV.d (D.sl 4 z1 x2 e3), IV.d (D.agg [D.sl 1 z4 x5 e6, D.sl 1 z7 x8 e9])]) := fnW_way (q15 C J z1 x2 e3 z4 x5 e6 z7 x8 e9 _) (Exists.intro v0 (Exists.intro v1 (And.intro h0 (condW_t h1 (condW_f h2 (condW_f (decide_eq_false h3) (Or.inl (Exists.intro v2 (And.intro h4 (rfl))))))))))
theorem q15_3 {C J} (z1 : Bool) (x2 : List D) (e3 : List D) (z4 : Bool) (x5 : List D) (e6 : List D) (z7 : Bool) (x8 : List D) (e9 : List D) (v0 : Bool) (v1 : IV) (v2 : Bool) (v3 : List D) (v4 : List D) (v5 : Bool) (v6 : List D) (v7 : List D) (v8 : Bool) (v9 : List D) (v10 : List D) (v11 : Int) (v12 : Int) (h0 : C 38 [IV.d (D.sl 4 z1 x2 e3)] = some (IV.d (D.bool v0), [v1])) (h1 : v0 = true) (h2 : ((↑(List.length x5) : Int) != 32) = false) (h3 : ¬(↑(List.length x8) : Int) > 24) (h4 : evP F C J d15 [] [1, 1, 1, 0, 1] [(0, IV.d (D.sl 4 z1 x2 e3)), (3, IV.dbox 26 0 [D.sl 1 z4 x5 e6, D.sl 1 z7 x8 e9]), (5, IV.d (D.int IntKind.i64 0)), (6, IV.d (D.int IntKind.i64 0))] = some (Out.norm [(0, IV.d (D.sl 4 v2 v3 v4)), (3, IV.dbox 26 0 [D.sl 1 v5 v6 v7, D.sl 1 v8 v9 v10]), (5, IV.d (D.int IntKind.i64 v11)), (6, IV.d (D.int IntKind.i64 v12))])) (h5 : (v11 != (↑(List.length v9) : Int)) = true) : evFnJ F C J d15 [.d (.sl 4 z1 x2 e3), .d (.agg [.sl 1 z4 x5 e6, .sl 1 z7 x8 e9])] = some (IV.d (D.bool false), [IV.d (D.sl 4 z1 x2 e3), IV.d (D.agg [D.sl 1 z4 x5 e6, D.sl 1 z7 x8 e9])]) := fnW_way (q15 C J z1 x2 e3 z4 x5 e6 z7 x8 e9 _) (Exists.intro v0 (Exists.intro v1 (And.intro h0 (condW_t h1 (condW_f h2 (condW_f (decide_eq_false h3) (Or.inr (Exists.intro v2 (Exists.intro v3 (Exists.intro v4 (Exists.intro v5 (Exists.intro v6 (Exists.intro v7 (Exists.intro v8 (Exists.intro v9 (Exists.intro v10 (Exists.intro v11 (Exists.intro v12 (And.intro h4 (condW_t h5 (rfl)))))))))))))))))))))
theorem q15_4 {C J} (z1 : Bool) (x2 : List D) (e3 : List D) (z4 : Bool) (x5 : List D) (e6 : List D) (z7 : Bool) (x8 : List D) (e9 : List D) (v0 : Bool) (v1 : IV) (v2 : Bool) (v3 : List D) (v4 : List D) (v5 : Bool) (v6 : List D) (v7 : List D) (v8 : Bool) (v9 : List D) (v10 : List D) (v11 : Int) (v12 : Int) (v13 : Bool) (h0 : C 38 [IV.d (D.sl 4 z1 x2 e3)] = some (IV.d (D.bool v0), [v1])) (h1 : v0 = true) (h2 : ((↑(List.length x5) : Int) != 32) = false) (h3 : ¬(↑(List.length x8) : Int) > 24) (h4 : evP F C J d15 [] [1, 1, 1, 0, 1] [(0, IV.d (D.sl 4 z1 x2 e3)), (3, IV.dbox 26 0 [D.sl 1 z4 x5 e6, D.sl 1 z7 x8 e9]), (5, IV.d (D.int IntKind.i64 0)), (6, IV.d (D.int IntKind.i64 0))] = some (Out.norm [(0, IV.d (D.sl 4 v2 v3 v4)), (3, IV.dbox 26 0 [D.sl 1 v5 v6 v7, D.sl 1 v8 v9 v10]), (5, IV.d (D.int IntKind.i64 v11)), (6, IV.d (D.int IntKind.i64 v12))])) (h5 : (v11 != (↑(List.length v9) : Int)) = false) (h6 : evP F C J d15 [] [1, 1, 1, 1, 1, 0, 1] [(0, IV.d (D.sl 4 v2 v3 v4)), (3, IV.dbox 26 0 [D.sl 1 v5 v6 v7, D.sl 1 v8 v9 v10]), (7, IV.d (D.int IntKind.i64 0))] = some (Out.ret [(4, IV.d (D.bool v13))])) : evFnJ F C J d15 [.d (.sl 4 z1 x2 e3), .d (.agg [.sl 1 z4 x5 e6, .sl 1 z7 x8 e9])] = some (IV.d (D.bool v13), [IV.d (D.sl 4 z1 x2 e3), IV.d (D.agg [D.sl 1 z4 x5 e6, D.sl 1 z7 x8 e9])]) := fnW_way (q15 C J z1 x2 e3 z4 x5 e6 z7 x8 e9 _) (Exists.intro v0 (Exists.intro v1 (And.intro h0 (condW_t h1 (condW_f h2 (condW_f (decide_eq_false h3) (Or.inr (Exists.intro v2 (Exists.intro v3 (Exists.intro v4 (Exists.intro v5 (Exists.intro v6 (Exists.intro v7 (Exists.intro v8 (Exists.intro v9 (Exists.intro v10 (Exists.intro v11 (Exists.intro v12 (And.intro h4 (condW_f h5 (Or.inl (Exists.intro v13 (And.intro h6 (rfl))))))))))))))))))))))))
theorem q15_5 {C J} (z1 : Bool) (x2 : List D) (e3 : List D) (z4 : Bool) (x5 : List D) (e6 : List D) (z7 : Bool) (x8 : List D) (e9 : List D) (v0 : Bool) (v1 : IV) (v2 : Bool) (v3 : List D) (v4 : List D) (v5 : Bool) (v6 : List D) (v7 : List D) (v8 : Bool) (v9 : List D) (v10 : List D) (v11 : Int) (v12 : Int) (v13 : Bool) (v14 : List D) (v15 : List D) (v16 : Bool) (v17 : List D) (v18 : List D) (v19 : Bool) (v20 : List D) (v21 : List D) (v22 : Int) (h0 : C 38 [IV.d (D.sl 4 z1 x2 e3)] = some (IV.d (D.bool v0), [v1])) (h1 : v0 = true) (h2 : ((↑(List.length x5) : Int) != 32) = false) (h3 : ¬(↑(List.length x8) : Int) > 24) (h4 : evP F C J d15 [] [1, 1, 1, 0, 1] [(0, IV.d (D.sl 4 z1 x2 e3)), (3, IV.dbox 26 0 [D.sl 1 z4 x5 e6, D.sl 1 z7 x8 e9]), (5, IV.d (D.int IntKind.i64 0)), (6, IV.d (D.int IntKind.i64 0))] = some (Out.norm [(0, IV.d (D.sl 4 v2 v3 v4)), (3, IV.dbox 26 0 [D.sl 1 v5 v6 v7, D.sl 1 v8 v9 v10]), (5, IV.d (D.int IntKind.i64 v11)), (6, IV.d (D.int IntKind.i64 v12))])) (h5 : (v11 != (↑(List.length v9) : Int)) = false) (h6 : evP F C J d15 [] [1, 1, 1, 1, 1, 0, 1] [(0, IV.d (D.sl 4 v2 v3 v4)), (3, IV.dbox 26 0 [D.sl 1 v5 v6 v7, D.sl 1 v8 v9 v10]), (7, IV.d (D.int IntKind.i64 0))] = some (Out.norm [(0, IV.d (D.sl 4 v13 v14 v15)), (3, IV.dbox 26 0 [D.sl 1 v16 v17 v18, D.sl 1 v19 v20 v21]), (7, IV.d (D.int IntKind.i64 v22))])) : evFnJ F C J d15 [.d (.sl 4 z1 x2 e3), .d (.agg [.sl 1 z4 x5 e6, .sl 1 z7 x8 e9])] = some (IV.d (D.bool true), [IV.d (D.sl 4 z1 x2 e3), IV.d (D.agg [D.sl 1 z4 x5 e6, D.sl 1 z7 x8 e9])]) := fnW_way (q15 C J z1 x2 e3 z4 x5 e6 z7 x8 e9 _) (Exists.intro v0 (Exists.intro v1 (And.intro h0 (condW_t h1 (condW_f h2 (condW_f (decide_eq_false h3) (Or.inr (Exists.intro v2 (Exists.intro v3 (Exists.intro v4 (Exists.intro v5 (Exists.intro v6 (Exists.intro v7 (Exists.intro v8 (Exists.intro v9 (Exists.intro v10 (Exists.intro v11 (Exists.intro v12 (And.intro h4 (condW_f h5 (Or.inr (Exists.intro v13 (Exists.intro v14 (Exists.intro v15 (Exists.intro v16 (Exists.intro v17 (Exists.intro v18 (Exists.intro v19 (Exists.intro v20 (Exists.intro v21 (Exists.intro v22 (And.intro h6 (rfl)))))))))))))))))))))))))))))))))
theorem q15_6 {C J} (z1 : Bool) (x2 : List D) (e3 : List D) (z4 : Bool) (x5 : List D) (e6 : List D) (z7 : Bool) (x8 : List D) (e9 : List D) (v0 : Bool) (v1 : IV) (h0 : C 38 [IV.d (D.sl 4 z1 x2 e3)] = some (IV.d (D.bool v0), [v1])) (h1 : v0 = false) : evFnJ F C J d15 [.d (.sl 4 z1 x2 e3), .d (.agg [.sl 1 z4 x5 e6, .sl 1 z7 x8 e9])] = some (IV.d (D.bool false), [IV.d (D.sl 4 z1 x2 e3), IV.d (D.agg [D.sl 1 z4 x5 e6, D.sl 1 z7 x8 e9])]) := fnW_way (q15 C J z1 x2 e3 z4 x5 e6 z7 x8 e9 _) (Exists.intro v0 (Exists.intro v1 (And.intro h0 (condW_f h1 (rfl)))))
theorem q15_l0a (C J) (z1 : Bool) (x2 : List D) (e3 : List D) (z4 : Bool) (x5 : List D) (e6 : List D) (z7 : Bool) (x8 : List D) (e9 : List D) (i10 : Int) (i11 : Int) (Q) : wpQ F C R (L15) J d15 [] [1,1,1,0,1,0,0] [(0, .d (.sl 4 z1 x2 e3)), (3, .dbox 26 0 [.sl 1 z4 x5 e6, .sl 1 z7 x8 e9]), (5, .d (.int .i64 i10)), (6, .d (.int .i64 i11))] Q = (condW (decide (i11 < (↑(List.length x5) : Int))) (condW (decide (0 ≤ i11)) (∃ w0, x5[Int.toNat i11]? = some (D.int IntKind.i64 w0) ∧ condW (decide (w0 < -2)) (Q (Out.ret [(4, IV.d (D.bool false))])) (condW (decide (0 ≤ i11)) (∃ w1, x5[Int.toNat i11]? = some (D.int IntKind.i64 w1) ∧ condW (decide (w1 ≥ (↑(List.length x8) : Int))) (Q (Out.ret [(4, IV.d (D.bool false))])) (condW (decide (0 ≤ i11)) (∃ w2, x5[Int.toNat i11]? = some (D.int IntKind.i64 w2) ∧ condW (decide (w2 ≥ 0)) (Q (Out.norm [(0, IV.d (D.sl 4 z1 x2 e3)), (3, IV.dbox 26 0 [D.sl 1 z4 x5 e6, D.sl 1 z7 x8 e9]), (5, IV.d (D.int IntKind.i64 (IntKind.wrap IntKind.i64 (i10 + 1)))), (6, IV.d (D.int IntKind.i64 (IntKind.wrap IntKind.i64 (i11 + 1))))])) (Q (Out.norm [(0, IV.d (D.sl 4 z1 x2 e3)), (3, IV.dbox 26 0 [D.sl 1 z4 x5 e6, D.sl 1 z7 x8 e9]), (5, IV.d (D.int IntKind.i64 i10)), (6, IV.d (D.int IntKind.i64 (IntKind.wrap IntKind.i64 (i11 + 1))))]))) False)) False)) False) (Q (Out.exit 0 [(0, IV.d (D.sl 4 z1 x2 e3)), (3, IV.dbox 26 0 [D.sl 1 z4 x5 e6, D.sl 1 z7 x8 e9]), (5, IV.d (D.int IntKind.i64 i10)), (6, IV.d (D.int IntKind.i64 i11))]))) := by kernel_rfl
theorem q15_l0a_0 {C J} (z1 : Bool) (x2 : List D) (e3 : List D) (z4 : Bool) (x5 : List D) (e6 : List D) (z7 : Bool) (x8 : List D) (e9 : List D) (i10 : Int) (i11 : Int) (v0 : Int) (h0 : i11 < (↑(List.length x5) : Int)) (h1 : 0 ≤ i11) (h2 : x5[Int.toNat i11]? = some (D.int IntKind.i64 v0)) (h3 : v0 < -2) : evP F C J d15 [] [1,1,1,0,1,0,0] [(0, .d (.sl 4 z1 x2 e3)), (3, .dbox 26 0 [.sl 1 z4 x5 e6, .sl 1 z7 x8 e9]), (5, .d (.int .i64 i10)), (6, .d (.int .i64 i11))] = some (Out.ret [(4, IV.d (D.bool false))]) := wpQ_way (q15_l0a C J z1 x2 e3 z4 x5 e6 z7 x8 e9 i10 i11 _) (condW_t (decide_eq_true h0) (condW_t (decide_eq_true h1) (Exists.intro v0 (And.intro h2 (condW_t (decide_eq_true h3) (rfl))))))
theorem q15_l0a_1 {C J} (z1 : Bool) (x2 : List D) (e3 : List D) (z4 : Bool) (x5 : List D) (e6 : List D) (z7 : Bool) (x8 : List D) (e9 : List D) (i10 : Int) (i11 : Int) (v0 : Int) (v1 : Int) (h0 : i11 < (↑(List.length x5) : Int)) (h1 : 0 ≤ i11) (h2 : x5[Int.toNat i11]? = some (D.int IntKind.i64 v0)) (h3 : ¬v0 < -2) (h4 : x5[Int.toNat i11]? = some (D.int IntKind.i64 v1)) (h5 : v1 ≥ (↑(List.length x8) : Int)) : evP F C J d15 [] [1,1,1,0,1,0,0] [(0, .d (.sl 4 z1 x2 e3)), (3, .dbox 26 0 [.sl 1 z4 x5 e6, .sl 1 z7 x8 e9]), (5, .d (.int .i64 i10)), (6, .d (.int .i64 i11))] = some (Out.ret [(4, IV.d (D.bool false))]) := wpQ_way (q15_l0a C J z1 x2 e3 z4 x5 e6 z7 x8 e9 i10 i11 _) (condW_t (decide_eq_true h0) (condW_t (decide_eq_true h1) (Exists.intro v0 (And.intro h2 (condW_f (decide_eq_false h3) (condW_t (decide_eq_true h1) (Exists.intro v1 (And.intro h4 (condW_t (decide_eq_true h5) (rfl))))))))))
theorem q15_l0a_2 {C J} (z1 : Bool) (x2 : List D) (e3 : List D) (z4 : Bool) (x5 : List D) (e6 : List D) (z7 : Bool) (x8 : List D) (e9 : List D) (i10 : Int) (i11 : Int) (v0 : Int) (v1 : Int) (v2 : Int) (h0 : i11 < (↑(List.length x5) : Int)) (h1 : 0 ≤ i11) (h2 : x5[Int.toNat i11]? = some (D.int IntKind.i64 v0)) (h3 : ¬v0 < -2) (h4 : x5[Int.toNat i11]? = some (D.int IntKind.i64 v1)) (h5 : ¬v1 ≥ (↑(List.length x8) : Int)) (h6 : x5[Int.toNat i11]? = some (D.int IntKind.i64 v2)) (h7 : v2 ≥ 0) : evP F C J d15 [] [1,1,1,0,1,0,0] [(0, .d (.sl 4 z1 x2 e3)), (3, .dbox 26 0 [.sl 1 z4 x5 e6, .sl 1 z7 x8 e9]), (5, .d (.int .i64 i10)), (6, .d (.int .i64 i11))] = some (Out.norm [(0, IV.d (D.sl 4 z1 x2 e3)), (3, IV.dbox 26 0 [D.sl 1 z4 x5 e6, D.sl 1 z7 x8 e9]), (5, IV.d (D.int IntKind.i64 (IntKind.wrap IntKind.i64 (i10 + 1)))), (6, IV.d (D.int IntKind.i64 (IntKind.wrap IntKind.i64 (i11 + 1))))]) := wpQ_way (q15_l0a C J z1 x2 e3 z4 x5 e6 z7 x8 e9 i10 i11 _) (condW_t (decide_eq_true h0) (condW_t (decide_eq_true h1) (Exists.intro v0 (And.intro h2 (condW_f (decide_eq_false h3) (condW_t (decide_eq_true h1) (Exists.intro v1 (And.intro h4 (condW_f (decide_eq_false h5) (condW_t (decide_eq_true h1) (Exists.intro v2 (And.intro h6 (condW_t (decide_eq_true h7) (rfl))))))))))))))
theorem q15_l0a_3 {C J} (z1 : Bool) (x2 : List D) (e3 : List D) (z4 : Bool) (x5 : List D) (e6 : List D) (z7 : Bool) (x8 : List D) (e9 : List D) (i10 : Int) (i11 : Int) (v0 : Int) (v1 : Int) (v2 : Int) (h0 : i11 < (↑(List.length x5) : Int)) (h1 : 0 ≤ i11) (h2 : x5[Int.toNat i11]? = some (D.int IntKind.i64 v0)) (h3 : ¬v0 < -2) (h4 : x5[Int.toNat i11]? = some (D.int IntKind.i64 v1)) (h5 : ¬v1 ≥ (↑(List.length x8) : Int)) (h6 : x5[Int.toNat i11]? = some (D.int IntKind.i64 v2)) (h7 : ¬v2 ≥ 0) : evP F C J d15 [] [1,1,1,0,1,0,0] [(0, .d (.sl 4 z1 x2 e3)), (3, .dbox 26 0 [.sl 1 z4 x5 e6, .sl 1 z7 x8 e9]), (5, .d (.int .i64 i10)), (6, .d (.int .i64 i11))] = some (Out.norm [(0, IV.d (D.sl 4 z1 x2 e3)), (3, IV.dbox 26 0 [D.sl 1 z4 x5 e6, D.sl 1 z7 x8 e9]), (5, IV.d (D.int IntKind.i64 i10)), (6, IV.d (D.int IntKind.i64 (IntKind.wrap IntKind.i64 (i11 + 1))))]) := wpQ_way (q15_l0a C J z1 x2 e3 z4 x5 e6 z7 x8 e9 i10 i11 _) (condW_t (decide_eq_true h0) (condW_t (decide_eq_true h1) (Exists.intro v0 (And.intro h2 (condW_f (decide_eq_false h3) (condW_t (decide_eq_true h1) (Exists.intro v1 (And.intro h4 (condW_f (decide_eq_false h5) (condW_t (decide_eq_true h1) (Exists.intro v2 (And.intro h6 (condW_f (decide_eq_false h7) (rfl))))))))))))))
theorem q15_l0a_4 {C J} (z1 : Bool) (x2 : List D) (e3 : List D) (z4 : Bool) (x5 : List D) (e6 : List D) (z7 : Bool) (x8 : List D) (e9 : List D) (i10 : Int) (i11 : Int) (h0 : ¬i11 < (↑(List.length x5) : Int)) : evP F C J d15 [] [1,1,1,0,1,0,0] [(0, .d (.sl 4 z1 x2 e3)), (3, .dbox 26 0 [.sl 1 z4 x5 e6, .sl 1 z7 x8 e9]), (5, .d (.int .i64 i10)), (6, .d (.int .i64 i11))] = some (Out.exit 0 [(0, IV.d (D.sl 4 z1 x2 e3)), (3, IV.dbox 26 0 [D.sl 1 z4 x5 e6, D.sl 1 z7 x8 e9]), (5, IV.d (D.int IntKind.i64 i10)), (6, IV.d (D.int IntKind.i64 i11))]) := wpQ_way (q15_l0a C J z1 x2 e3 z4 x5 e6 z7 x8 e9 i10 i11 _) (condW_f (decide_eq_false h0) (rfl))
theorem q15_l2a (C J) (z1 : Bool) (x2 : List D) (e3 : List D) (z4 : Bool) (x5 : List D) (e6 : List D) (z7 : Bool) (x8 : List D) (e9 : List D) (i10 : Int) (Q) : wpQ F C R (L15) J d15 [] [1,1,1,1,1,0,1,0,0] [(0, .d (.sl 4 z1 x2 e3)), (3, .dbox 26 0 [.sl 1 z4 x5 e6, .sl 1 z7 x8 e9]), (7, .d (.int .i64 i10))] Q = (condW (decide (i10 < (↑(List.length x8) : Int))) (∃ w0 w1 w2, C 39 [IV.d (D.agg [D.sl 1 z4 x5 e6, D.sl 1 z7 x8 e9]), IV.d (D.int IntKind.i64 i10)] = some (IV.d (D.int IntKind.i64 w0), [w1, w2]) ∧ condW (decide (0 ≤ i10)) (∃ w3 w4 w5, x8[Int.toNat i10]? = some (D.sl 1 w3 w4 w5) ∧ ∃ w6 w7 w8, C 32 [IV.d (D.sl 4 z1 x2 e3), IV.d (D.sl 1 w3 w4 w5)] = some (IV.d (D.bool w6), [w7, w8]) ∧ condW w6 (condW (decide (0 ≤ i10)) (∃ w9 w10 w11, x8[Int.toNat i10]? = some (D.sl 1 w9 w10 w11) ∧ ∃ w12 w13 w14, C 35 [IV.d (D.agg [D.sl 1 z4 x5 e6, D.sl 1 z7 x8 e9]), IV.d (D.sl 1 w9 w10 w11)] = some (IV.d (D.int IntKind.i64 w12), [w13, w14]) ∧ condW (w12 != i10) (Q (Out.ret [(4, IV.d (D.bool false))])) (condW (decide (w0 < 0)) (Q (Out.ret [(4, IV.d (D.bool false))])) (condW (decide (0 ≤ i10)) (∃ w15 w16 w17, x8[Int.toNat i10]? = some (D.sl 1 w15 w16 w17) ∧ ∃ w18 w19, C 33 [IV.d (D.sl 1 w15 w16 w17)] = some (IV.d (D.int IntKind.i64 w18), [w19]) ∧ ((∃ w20, evP F C J d15 [] [1, 1, 1, 1, 1, 0, 1, 0, 0, 1, 0, 0, 1, 1, 1] [(0, IV.d (D.sl 4 z1 x2 e3)), (3, IV.dbox 26 0 [D.sl 1 z4 x5 e6, D.sl 1 z7 x8 e9]), (7, IV.d (D.int IntKind.i64 i10)), (8, IV.d (D.int IntKind.i64 w0)), (9, IV.d (D.int IntKind.i64 (Int.tmod w18 32)))] = some (Out.ret [(4, IV.d (D.bool w20))]) ∧ Q (Out.ret [(4, IV.d (D.bool w20))])) ∨ ∃ w21 w22 w23 w24 w25 w26 w27 w28 w29 w30 w31 w32, evP F C J d15 [] [1, 1, 1, 1, 1, 0, 1, 0, 0, 1, 0, 0, 1, 1, 1] [(0, IV.d (D.sl 4 z1 x2 e3)), (3, IV.dbox 26 0 [D.sl 1 z4 x5 e6, D.sl 1 z7 x8 e9]), (7, IV.d (D.int IntKind.i64 i10)), (8, IV.d (D.int IntKind.i64 w0)), (9, IV.d (D.int IntKind.i64 (Int.tmod w18 32)))] = some (Out.norm [(0, IV.d (D.sl 4 w21 w22 w23)), (3, IV.dbox 26 0 [D.sl 1 w24 w25 w26, D.sl 1 w27 w28 w29]), (7, IV.d (D.int IntKind.i64 w30)), (8, IV.d (D.int IntKind.i64 w31)), (9, IV.d (D.int IntKind.i64 w32))]) ∧ Q (Out.norm [(0, IV.d (D.sl 4 w21 w22 w23)), (3, IV.dbox 26 0 [D.sl 1 w24 w25 w26, D.sl 1 w27 w28 w29]), (7, IV.d (D.int IntKind.i64 (IntKind.wrap IntKind.i64 (w30 + 1))))]))) False))) False) (Q (Out.ret [(4, IV.d (D.bool false))]))) False) (Q (Out.exit 2 [(0, IV.d (D.sl 4 z1 x2 e3)), (3, IV.dbox 26 0 [D.sl 1 z4 x5 e6, D.sl 1 z7 x8 e9]), (7, IV.d (D.int IntKind.i64 i10))]))) := by kernel_rfl
theorem q15_l2a_0 {C J} (z1 : Bool) (x2 : List D) (e3 : List D) (z4 : Bool) (x5 : List D) (e6 : List D) (z7 : Bool) (x8 : List D) (e9 : List D) (i10 : Int) (v0 : Int) (v1 : IV) (v2 : IV) (v3 : Bool) (v4 : List D) (v5 : List D) (v6 : Bool) (v7 : IV) (v8 : IV) (v9 : Bool) (v10 : List D) (v11 : List D) (v12 : Int) (v13 : IV) (v14 : IV) (h0 : i10 < (↑(List.length x8) : Int)) (h1 : C 39 [IV.d (D.agg [D.sl 1 z4 x5 e6, D.sl 1 z7 x8 e9]), IV.d (D.int IntKind.i64 i10)] = some (IV.d (D.int IntKind.i64 v0), [v1, v2])) (h2 : 0 ≤ i10) (h3 : x8[Int.toNat i10]? = some (D.sl 1 v3 v4 v5)) (h4 : C 32 [IV.d (D.sl 4 z1 x2 e3), IV.d (D.sl 1 v3 v4 v5)] = some (IV.d (D.bool v6), [v7, v8])) (h5 : v6 = true) (h6 : x8[Int.toNat i10]? = some (D.sl 1 v9 v10 v11)) (h7 : C 35 [IV.d (D.agg [D.sl 1 z4 x5 e6, D.sl 1 z7 x8 e9]), IV.d (D.sl 1 v9 v10 v11)] = some (IV.d (D.int IntKind.i64 v12), [v13, v14])) (h8 : (v12 != i10) = true) : evP F C J d15 [] [1,1,1,1,1,0,1,0,0] [(0, .d (.sl 4 z1 x2 e3)), (3, .dbox 26 0 [.sl 1 z4 x5 e6, .sl 1 z7 x8 e9]), (7, .d (.int .i64 i10))] = some (Out.ret [(4, IV.d (D.bool false))]) := wpQ_way (q15_l2a C J z1 x2 e3 z4 x5 e6 z7 x8 e9 i10 _) (condW_t (decide_eq_true h0) (Exists.intro v0 (Exists.intro v1 (Exists.intro v2 (And.intro h1 (condW_t (decide_eq_true h2) (Exists.intro v3 (Exists.intro v4 (Exists.intro v5 (And.intro h3 (Exists.intro v6 (Exists.intro v7 (Exists.intro v8 (And.intro h4 (condW_t h5 (condW_t (decide_eq_true h2) (Exists.intro v9 (Exists.intro v10 (Exists.intro v11 (And.intro h6 (Exists.intro v12 (Exists.intro v13 (Exists.intro v14 (And.intro h7 (condW_t h8 (rfl))))))))))))))))))))))))))
theorem q15_l2a_1 {C J} (z1 : Bool) (x2 : List D) (e3 : List D) (z4 : Bool) (x5 : List D) (e6 : List D) (z7 : Bool) (x8 : List D) (e9 : List D) (i10 : Int) (v0 : Int) (v1 : IV) (v2 : IV) (v3 : Bool) (v4 : List D) (v5 : List D) (v6 : Bool) (v7 : IV) (v8 : IV) (v9 : Bool) (v10 : List D) (v11 : List D) (v12 : Int) (v13 : IV) (v14 : IV) (h0 : i10 < (↑(List.length x8) : Int)) (h1 : C 39 [IV.d (D.agg [D.sl 1 z4 x5 e6, D.sl 1 z7 x8 e9]), IV.d (D.int IntKind.i64 i10)] = some (IV.d (D.int IntKind.i64 v0), [v1, v2])) (h2 : 0 ≤ i10) (h3 : x8[Int.toNat i10]? = some (D.sl 1 v3 v4 v5)) (h4 : C 32 [IV.d (D.sl 4 z1 x2 e3), IV.d (D.sl 1 v3 v4 v5)] = some (IV.d (D.bool v6), [v7, v8])) (h5 : v6 = true) (h6 : x8[Int.toNat i10]? = some (D.sl 1 v9 v10 v11)) (h7 : C 35 [IV.d (D.agg [D.sl 1 z4 x5 e6, D.sl 1 z7 x8 e9]), IV.d (D.sl 1 v9 v10 v11)] = some (IV.d (D.int IntKind.i64 v12), [v13, v14])) (h8 : (v12 != i10) = false) (h9 : v0 < 0) : evP F C J d15 [] [1,1,1,1,1,0,1,0,0] [(0, .d (.sl 4 z1 x2 e3)), (3, .dbox 26 0 [.sl 1 z4 x5 e6, .sl 1 z7 x8 e9]), (7, .d (.int .i64 i10))] = some (Out.ret [(4, IV.d (D.bool false))]) := wpQ_way (q15_l2a C J z1 x2 e3 z4 x5 e6 z7 x8 e9 i10 _) (condW_t (decide_eq_true h0) (Exists.intro v0 (Exists.intro v1 (Exists.intro v2 (And.intro h1 (condW_t (decide_eq_true h2) (Exists.intro v3 (Exists.intro v4 (Exists.intro v5 (And.intro h3 (Exists.intro v6 (Exists.intro v7 (Exists.intro v8 (And.intro h4 (condW_t h5 (condW_t (decide_eq_true h2) (Exists.intro v9 (Exists.intro v10 (Exists.intro v11 (And.intro h6 (Exists.intro v12 (Exists.intro v13 (Exists.intro v14 (And.intro h7 (condW_f h8 (condW_t (decide_eq_true h9) (rfl)))))))))))))))))))))))))))
theorem q15_l2a_2 {C J} (z1 : Bool) (x2 : List D) (e3 : List D) (z4 : Bool) (x5 : List D) (e6 : List D) (z7 : Bool) (x8 : List D) (e9 : List D) (i10 : Int) (v0 : Int) (v1 : IV) (v2 : IV) (v3 : Bool) (v4 : List D) (v5 : List D) (v6 : Bool) (v7 : IV) (v8 : IV) (v9 : Bool) (v10 : List D) (v11 : List D) (v12 : Int) (v13 : IV) (v14 : IV) (v15 : Bool) (v16 : List D) (v17 : List D) (v18 : Int) (v19 : IV) (v20 : Bool) (h0 : i10 < (↑(List.length x8) : Int)) (h1 : C 39 [IV.d (D.agg [D.sl 1 z4 x5 e6, D.sl 1 z7 x8 e9]), IV.d (D.int IntKind.i64 i10)] = some (IV.d (D.int IntKind.i64 v0), [v1, v2])) (h2 : 0 ≤ i10) (h3 : x8[Int.toNat i10]? = some (D.sl 1 v3 v4 v5)) (h4 : C 32 [IV.d (D.sl 4 z1 x2 e3), IV.d (D.sl 1 v3 v4 v5)] = some (IV.d (D.bool v6), [v7, v8])) (h5 : v6 = true) (h6 : x8[Int.toNat i10]? = some (D.sl 1 v9 v10 v11)) (h7 : C 35 [IV.d (D.agg [D.sl 1 z4 x5 e6, D.sl 1 z7 x8 e9]), IV.d (D.sl 1 v9 v10 v11)] = some (IV.d (D.int IntKind.i64 v12), [v13, v14])) (h8 : (v12 != i10) = false) (h9 : ¬v0 < 0) (h10 : x8[Int.toNat i10]? = some (D.sl 1 v15 v16 v17)) (h11 : C 33 [IV.d (D.sl 1 v15 v16 v17)] = some (IV.d (D.int IntKind.i64 v18), [v19])) (h12 : evP F C J d15 [] [1, 1, 1, 1, 1, 0, 1, 0, 0, 1, 0, 0, 1, 1, 1] [(0, IV.d (D.sl 4 z1 x2 e3)), (3, IV.dbox 26 0 [D.sl 1 z4 x5 e6, D.sl 1 z7 x8 e9]), (7, IV.d (D.int IntKind.i64 i10)), (8, IV.d (D.int IntKind.i64 v0)), (9, IV.d (D.int IntKind.i64 (Int.tmod v18 32)))] = some (Out.ret [(4, IV.d (D.bool v20))])) : evP F C J d15 [] [1,1,1,1,1,0,1,0,0] [(0, .d (.sl 4 z1 x2 e3)), (3, .dbox 26 0 [.sl 1 z4 x5 e6, .sl 1 z7 x8 e9]), (7, .d (.int .i64 i10))] = some (Out.ret [(4, IV.d (D.bool v20))]) := wpQ_way (q15_l2a C J z1 x2 e3 z4 x5 e6 z7 x8 e9 i10 _) (condW_t (decide_eq_true h0) (Exists.intro v0 (Exists.intro v1 (Exists.intro v2 (And.intro h1 (condW_t (decide_eq_true h2) (Exists.intro v3 (Exists.intro v4 (Exists.intro v5 (And.intro h3 (Exists.intro v6 (Exists.intro v7 (Exists.intro v8 (And.intro h4 (condW_t h5 (condW_t (decide_eq_true h2) (Exists.intro v9 (Exists.intro v10 (Exists.intro v11 (And.intro h6 (Exists.intro v12 (Exists.intro v13 (Exists.intro v14 (And.intro h7 (condW_f h8 (condW_f (decide_eq_false h9) (condW_t (decide_eq_true h2) (Exists.intro v15 (Exists.intro v16 (Exists.intro v17 (And.intro h10 (Exists.intro v18 (Exists.intro v19 (And.intro h11 (Or.inl (Exists.intro v20 (And.intro h12 (rfl))))))))))))))))))))))))))))))))))))))
theorem q15_l2a_3 {C J} (z1 : Bool) (x2 : List D) (e3 : List D) (z4 : Bool) (x5 : List D) (e6 : List D) (z7 : Bool) (x8 : List D) (e9 : List D) (i10 : Int) (v0 : Int) (v1 : IV) (v2 : IV) (v3 : Bool) (v4 : List D) (v5 : List D) (v6 : Bool) (v7 : IV) (v8 : IV) (v9 : Bool) (v10 : List D) (v11 : List D) (v12 : Int) (v13 : IV) (v14 : IV) (v15 : Bool) (v16 : List D) (v17 : List D) (v18 : Int) (v19 : IV) (v20 : Bool) (v21 : List D) (v22 : List D) (v23 : Bool) (v24 : List D) (v25 : List D) (v26 : Bool) (v27 : List D) (v28 : List D) (v29 : Int) (v30 : Int) (v31 : Int) (h0 : i10 < (↑(List.length x8) : Int)) (h1 : C 39 [IV.d (D.agg [D.sl 1 z4 x5 e6, D.sl 1 z7 x8 e9]), IV.d (D.int IntKind.i64 i10)] = some (IV.d (D.int IntKind.i64 v0), [v1, v2])) (h2 : 0 ≤ i10) (h3 : x8[Int.toNat i10]? = some (D.sl 1 v3 v4 v5)) (h4 : C 32 [IV.d (D.sl 4 z1 x2 e3), IV.d (D.sl 1 v3 v4 v5)] = some (IV.d (D.bool v6), [v7, v8])) (h5 : v6 = true) (h6 : x8[Int.toNat i10]? = some (D.sl 1 v9 v10 v11)) (h7 : C 35 [IV.d (D.agg [D.sl 1 z4 x5 e6, D.sl 1 z7 x8 e9]), IV.d (D.sl 1 v9 v10 v11)] = some (IV.d (D.int IntKind.i64 v12), [v13, v14])) (h8 : (v12 != i10) = false) (h9 : ¬v0 < 0) (h10 : x8[Int.toNat i10]? = some (D.sl 1 v15 v16 v17)) (h11 : C 33 [IV.d (D.sl 1 v15 v16 v17)] = some (IV.d (D.int IntKind.i64 v18), [v19])) (h12 : evP F C J d15 [] [1, 1, 1, 1, 1, 0, 1, 0, 0, 1, 0, 0, 1, 1, 1] [(0, IV.d (D.sl 4 z1 x2 e3)), (3, IV.dbox 26 0 [D.sl 1 z4 x5 e6, D.sl 1 z7 x8 e9]), (7, IV.d (D.int IntKind.i64 i10)), (8, IV.d (D.int IntKind.i64 v0)), (9, IV.d (D.int IntKind.i64 (Int.tmod v18 32)))] = some (Out.norm [(0, IV.d (D.sl 4 v20 v21 v22)), (3, IV.dbox 26 0 [D.sl 1 v23 v24 v25, D.sl 1 v26 v27 v28]), (7, IV.d (D.int IntKind.i64 v29)), (8, IV.d (D.int IntKind.i64 v30)), (9, IV.d (D.int IntKind.i64 v31))])) : evP F C J d15 [] [1,1,1,1,1,0,1,0,0] [(0, .d (.sl 4 z1 x2 e3)), (3, .dbox 26 0 [.sl 1 z4 x5 e6, .sl 1 z7 x8 e9]), (7, .d (.int .i64 i10))] = some (Out.norm [(0, IV.d (D.sl 4 v20 v21 v22)), (3, IV.dbox 26 0 [D.sl 1 v23 v24 v25, D.sl 1 v26 v27 v28]), (7, IV.d (D.int IntKind.i64 (IntKind.wrap IntKind.i64 (v29 + 1))))]) := wpQ_way (q15_l2a C J z1 x2 e3 z4 x5 e6 z7 x8 e9 i10 _) (condW_t (decide_eq_true h0) (Exists.intro v0 (Exists.intro v1 (Exists.intro v2 (And.intro h1 (condW_t (decide_eq_true h2) (Exists.intro v3 (Exists.intro v4 (Exists.intro v5 (And.intro h3 (Exists.intro v6 (Exists.intro v7 (Exists.intro v8 (And.intro h4 (condW_t h5 (condW_t (decide_eq_true h2) (Exists.intro v9 (Exists.intro v10 (Exists.intro v11 (And.intro h6 (Exists.intro v12 (Exists.intro v13 (Exists.intro v14 (And.intro h7 (condW_f h8 (condW_f (decide_eq_false h9) (condW_t (decide_eq_true h2) (Exists.intro v15 (Exists.intro v16 (Exists.intro v17 (And.intro h10 (Exists.intro v18 (Exists.intro v19 (And.intro h11 (Or.inr (Exists.intro v20 (Exists.intro v21 (Exists.intro v22 (Exists.intro v23 (Exists.intro v24 (Exists.intro v25 (Exists.intro v26 (Exists.intro v27 (Exists.intro v28 (Exists.intro v29 (Exists.intro v30 (Exists.intro v31 (And.intro h12 (rfl)))))))))))))))))))))))))))))))))))))))))))))))))
theorem q15_l2a_4 {C J} (z1 : Bool) (x2 : List D) (e3 : List D) (z4 : Bool) (x5 : List D) (e6 : List D) (z7 : Bool) (x8 : List D) (e9 : List D) (i10 : Int) (v0 : Int) (v1 : IV) (v2 : IV) (v3 : Bool) (v4 : List D) (v5 : List D) (v6 : Bool) (v7 : IV) (v8 : IV) (h0 : i10 < (↑(List.length x8) : Int)) (h1 : C 39 [IV.d (D.agg [D.sl 1 z4 x5 e6, D.sl 1 z7 x8 e9]), IV.d (D.int IntKind.i64 i10)] = some (IV.d (D.int IntKind.i64 v0), [v1, v2])) (h2 : 0 ≤ i10) (h3 : x8[Int.toNat i10]? = some (D.sl 1 v3 v4 v5)) (h4 : C 32 [IV.d (D.sl 4 z1 x2 e3), IV.d (D.sl 1 v3 v4 v5)] = some (IV.d (D.bool v6), [v7, v8])) (h5 : v6 = false) : evP F C J d15 [] [1,1,1,1,1,0,1,0,0] [(0, .d (.sl 4 z1 x2 e3)), (3, .dbox 26 0 [.sl 1 z4 x5 e6, .sl 1 z7 x8 e9]), (7, .d (.int .i64 i10))] = some (Out.ret [(4, IV.d (D.bool false))]) := wpQ_way (q15_l2a C J z1 x2 e3 z4 x5 e6 z7 x8 e9 i10 _) (condW_t (decide_eq_true h0) (Exists.intro v0 (Exists.intro v1 (Exists.intro v2 (And.intro h1 (condW_t (decide_eq_true h2) (Exists.intro v3 (Exists.intro v4 (Exists.intro v5 (And.intro h3 (Exists.intro v6 (Exists.intro v7 (Exists.intro v8 (And.intro h4 (condW_f h5 (rfl))))))))))))))))
theorem q15_l2a_5 {C J} (z1 : Bool) (x2 : List D) (e3 : List D) (z4 : Bool) (x5 : List D) (e6 : List D) (z7 : Bool) (x8 : List D) (e9 : List D) (i10 : Int) (h0 : ¬i10 < (↑(List.length x8) : Int)) : evP F C J d15 [] [1,1,1,1,1,0,1,0,0] [(0, .d (.sl 4 z1 x2 e3)), (3, .dbox 26 0 [.sl 1 z4 x5 e6, .sl 1 z7 x8 e9]), (7, .d (.int .i64 i10))] = some (Out.exit 2 [(0, IV.d (D.sl 4 z1 x2 e3)), (3, IV.dbox 26 0 [D.sl 1 z4 x5 e6, D.sl 1 z7 x8 e9]), (7, IV.d (D.int IntKind.i64 i10))]) := wpQ_way (q15_l2a C J z1 x2 e3 z4 x5 e6 z7 x8 e9 i10 _) (condW_f (decide_eq_false h0) (rfl))
theorem q15_l4a (C J) (z1 : Bool) (x2 : List D) (e3 : List D) (z4 : Bool) (x5 : List D) (e6 : List D) (z7 : Bool) (x8 : List D) (e9 : List D) (i10 : Int) (i11 : Int) (i12 : Int) (Q) : wpQ F C R (L15) J d15 [] [1,1,1,1,1,0,1,0,0,1,0,0,1,1,1,0,0] [(0, .d (.sl 4 z1 x2 e3)), (3, .dbox 26 0 [.sl 1 z4 x5 e6, .sl 1 z7 x8 e9]), (7, .d (.int .i64 i10)), (8, .d (.int .i64 i11)), (9, .d (.int .i64 i12))] Q = (condW (i12 != i11) (condW (decide (0 ≤ i12)) (∃ w0, x5[Int.toNat i12]? = some (D.int IntKind.i64 w0) ∧ condW (w0 == -1) (Q (Out.ret [(4, IV.d (D.bool false))])) (Q (Out.norm [(0, IV.d (D.sl 4 z1 x2 e3)), (3, IV.dbox 26 0 [D.sl 1 z4 x5 e6, D.sl 1 z7 x8 e9]), (7, IV.d (D.int IntKind.i64 i10)), (8, IV.d (D.int IntKind.i64 i11)), (9, IV.d (D.int IntKind.i64 (Int.tmod (IntKind.wrap IntKind.i64 (i12 + 1)) 32)))]))) False) (Q (Out.exit 4 [(0, IV.d (D.sl 4 z1 x2 e3)), (3, IV.dbox 26 0 [D.sl 1 z4 x5 e6, D.sl 1 z7 x8 e9]), (7, IV.d (D.int IntKind.i64 i10)), (8, IV.d (D.int IntKind.i64 i11)), (9, IV.d (D.int IntKind.i64 i12))]))) := by kernel_rfl
theorem q15_l4a_0 {C J} (z1 : Bool) (x2 : List D) (e3 : List D) (z4 : Bool) (x5 : List D) (e6 : List D) (z7 : Bool) (x8 : List D) (e9 : List D) (i10 : Int) (i11 : Int) (i12 : Int) (v0 : Int) (h0 : (i12 != i11) = true) (h1 : 0 ≤ i12) (h2 : x5[Int.toNat i12]? = some (D.int IntKind.i64 v0)) (h3 : (v0 == -1) = true) : evP F C J d15 [] [1,1,1,1,1,0,1,0,0,1,0,0,1,1,1,0,0] [(0, .d (.sl 4 z1 x2 e3)), (3, .dbox 26 0 [.sl 1 z4 x5 e6, .sl 1 z7 x8 e9]), (7, .d (.int .i64 i10)), (8, .d (.int .i64 i11)), (9, .d (.int .i64 i12))] = some (Out.ret [(4, IV.d (D.bool false))]) := wpQ_way (q15_l4a C J z1 x2 e3 z4 x5 e6 z7 x8 e9 i10 i11 i12 _) (condW_t h0 (condW_t (decide_eq_true h1) (Exists.intro v0 (And.intro h2 (condW_t h3 (rfl))))))
theorem q15_l4a_1 {C J} (z1 : Bool) (x2 : List D) (e3 : List D) (z4 : Bool) (x5 : List D) (e6 : List D) (z7 : Bool) (x8 : List D) (e9 : List D) (i10 : Int) (i11 : Int) (i12 : Int) (v0 : Int) (h0 : (i12 != i11) = true) (h1 : 0 ≤ i12) (h2 : x5[Int.toNat i12]? = some (D.int IntKind.i64 v0)) (h3 : (v0 == -1) = false) : evP F C J d15 [] [1,1,1,1,1,0,1,0,0,1,0,0,1,1,1,0,0] [(0, .d (.sl 4 z1 x2 e3)), (3, .dbox 26 0 [.sl 1 z4 x5 e6, .sl 1 z7 x8 e9]), (7, .d (.int .i64 i10)), (8, .d (.int .i64 i11)), (9, .d (.int .i64 i12))] = some (Out.norm [(0, IV.d (D.sl 4 z1 x2 e3)), (3, IV.dbox 26 0 [D.sl 1 z4 x5 e6, D.sl 1 z7 x8 e9]), (7, IV.d (D.int IntKind.i64 i10)), (8, IV.d (D.int IntKind.i64 i11)), (9, IV.d (D.int IntKind.i64 (Int.tmod (IntKind.wrap IntKind.i64 (i12 + 1)) 32)))]) := wpQ_way (q15_l4a C J z1 x2 e3 z4 x5 e6 z7 x8 e9 i10 i11 i12 _) (condW_t h0 (condW_t (decide_eq_true h1) (Exists.intro v0 (And.intro h2 (condW_f h3 (rfl))))))
theorem q15_l4a_2 {C J} (z1 : Bool) (x2 : List D) (e3 : List D) (z4 : Bool) (x5 : List D) (e6 : List D) (z7 : Bool) (x8 : List D) (e9 : List D) (i10 : Int) (i11 : Int) (i12 : Int) (h0 : (i12 != i11) = false) : evP F C J d15 [] [1,1,1,1,1,0,1,0,0,1,0,0,1,1,1,0,0] [(0, .d (.sl 4 z1 x2 e3)), (3, .dbox 26 0 [.sl 1 z4 x5 e6, .sl 1 z7 x8 e9]), (7, .d (.int .i64 i10)), (8, .d (.int .i64 i11)), (9, .d (.int .i64 i12))] = some (Out.exit 4 [(0, IV.d (D.sl 4 z1 x2 e3)), (3, IV.dbox 26 0 [D.sl 1 z4 x5 e6, D.sl 1 z7 x8 e9]), (7, IV.d (D.int IntKind.i64 i10)), (8, IV.d (D.int IntKind.i64 i11)), (9, IV.d (D.int IntKind.i64 i12))]) := wpQ_way (q15_l4a C J z1 x2 e3 z4 x5 e6 z7 x8 e9 i10 i11 i12 _) (condW_f h0 (rfl))
theorem q13 (C J) (z1 : Bool) (x2 : List D) (e3 : List D) (z4 : Bool) (x5 : List D) (e6 : List D) (z7 : Bool) (x8 : List D) (e9 : List D) (z10 : Bool) (x11 : List D) (e12 : List D) (Q) : fnW F C R (L13) J d13 [.d (.sl 4 z1 x2 e3), .d (.agg [.sl 1 z4 x5 e6, .sl 1 z7 x8 e9]), .d (.sl 1 z10 x11 e12)] Q = (∃ w0 w1 w2, C 15 [IV.d (D.sl 4 z1 x2 e3), IV.d (D.agg [D.sl 1 z4 x5 e6, D.sl 1 z7 x8 e9])] = some (IV.d (D.bool w0), [w1, w2]) ∧ condW w0 (∃ w3 w4 w5, C 32 [IV.d (D.sl 4 z1 x2 e3), IV.d (D.sl 1 z10 x11 e12)] = some (IV.d (D.bool w3), [w4, w5]) ∧ condW w3 (∃ w6 w7 w8, C 35 [IV.d (D.agg [D.sl 1 z4 x5 e6, D.sl 1 z7 x8 e9]), IV.d (D.sl 1 z10 x11 e12)] = some (IV.d (D.int IntKind.i64 w6), [w7, w8]) ∧ condW (decide (w6 ≥ 0)) (Q (some (IV.tup [IV.d (D.bool true), IV.d (D.int IntKind.i64 0)], [IV.d (D.sl 4 z1 x2 e3), IV.d (D.agg [D.sl 1 z4 x5 e6, D.sl 1 z7 x8 e9]), IV.d (D.sl 1 z10 x11 e12)]))) (Q (some (IV.tup [IV.d (D.bool false), IV.d (D.int IntKind.i64 0)], [IV.d (D.sl 4 z1 x2 e3), IV.d (D.agg [D.sl 1 z4 x5 e6, D.sl 1 z7 x8 e9]), IV.d (D.sl 1 z10 x11 e12)])))) (Q (some (IV.tup [IV.d (D.bool false), IV.d (D.int IntKind.i64 1100)], [IV.d (D.sl 4 z1 x2 e3), IV.d (D.agg [D.sl 1 z4 x5 e6, D.sl 1 z7 x8 e9]), IV.d (D.sl 1 z10 x11 e12)])))) (Q (some (IV.tup [IV.d (D.bool false), IV.d (D.int IntKind.i64 1100)], [IV.d (D.sl 4 z1 x2 e3), IV.d (D.agg [D.sl 1 z4 x5 e6, D.sl 1 z7 x8 e9]), IV.d (D.sl 1 z10 x11 e12)])))) := by kernel_rfl
theorem q13_0 {C J} (z1 : Bool) (x2 : List D) (e3 : List D) (z4 : Bool) (x5 : List D) (e6 : List D) (z7 : Bool) (x8 : List D) (e9 : List D) (z10 : Bool) (x11 : List D) (e12 : List D) (v0 : Bool) (v1 : IV) (v2 : IV) (v3 : Bool) (v4 : IV) (v5 : IV) (v6 : Int) (v7 : IV) (v8 : IV) (h0 : C 15 [IV.d (D.sl 4 z1 x2 e3), IV.d (D.agg [D.sl 1 z4 x5 e6, D.sl 1 z7 x8 e9])] = some (IV.d (D.bool v0), [v1, v2])) (h1 : v0 = true) (h2 : C 32 [IV.d (D.sl 4 z1 x2 e3), IV.d (D.sl 1 z10 x11 e12)] = some (IV.d (D.bool v3), [v4, v5])) (h3 : v3 = true) (h4 : C 35 [IV.d (D.agg [D.sl 1 z4 x5 e6, D.sl 1 z7 x8 e9]), IV.d (D.sl 1 z10 x11 e12)] = some (IV.d (D.int IntKind.i64 v6), [v7, v8])) (h5 : v6 ≥ 0) : evFnJ F C J d13 [.d (.sl 4 z1 x2 e3), .d (.agg [.sl 1 z4 x5 e6, .sl 1 z7 x8 e9]), .d (.sl 1 z10 x11 e12)] = some (IV.tup [IV.d (D.bool true), IV.d (D.int IntKind.i64 0)], [IV.d (D.sl 4 z1 x2 e3), IV.d (D.agg [D.sl 1 z4 x5 e6, D.sl 1 z7 x8 e9]), IV.d (D.sl 1 z10 x11 e12)]) := fnW_way (q13 C J z1 x2 e3 z4 x5 e6 z7 x8 e9 z10 x11 e12 _) (Exists.intro v0 (Exists.intro v1 (Exists.intro v2 (And.intro h0 (condW_t h1 (Exists.intro v3 (Exists.intro v4 (Exists.intro v5 (And.intro h2 (condW_t h3 (Exists.intro v6 (Exists.intro v7 (Exists.intro v8 (And.intro h4 (condW_t (decide_eq_true h5) (rfl))))))))))))))))
theorem q13_1 {C J} (z1 : Bool) (x2 : List D) (e3 : List D) (z4 : Bool) (x5 : List D) (e6 : List D) (z7 : Bool) (x8 : List D) (e9 : List D) (z10 : Bool) (x11 : List D) (e12 : List D) (v0 : Bool) (v1 : IV) (v2 : IV) (v3 : Bool) (v4 : IV) (v5 : IV) (v6 : Int) (v7 : IV) (v8 : IV) (h0 : C 15 [IV.d (D.sl 4 z1 x2 e3), IV.d (D.agg [D.sl 1 z4 x5 e6, D.sl 1 z7 x8 e9])] = some (IV.d (D.bool v0), [v1, v2])) (h1 : v0 = true) (h2 : C 32 [IV.d (D.sl 4 z1 x2 e3), IV.d (D.sl 1 z10 x11 e12)] = some (IV.d (D.bool v3), [v4, v5])) (h3 : v3 = true) (h4 : C 35 [IV.d (D.agg [D.sl 1 z4 x5 e6, D.sl 1 z7 x8 e9]), IV.d (D.sl 1 z10 x11 e12)] = some (IV.d (D.int IntKind.i64 v6), [v7, v8])) (h5 : ¬v6 ≥ 0) : evFnJ F C J d13 [.d (.sl 4 z1 x2 e3), .d (.agg [.sl 1 z4 x5 e6, .sl 1 z7 x8 e9]), .d (.sl 1 z10 x11 e12)] = some (IV.tup [IV.d (D.bool false), IV.d (D.int IntKind.i64 0)], [IV.d (D.sl 4 z1 x2 e3), IV.d (D.agg [D.sl 1 z4 x5 e6, D.sl 1 z7 x8 e9]), IV.d (D.sl 1 z10 x11 e12)]) := fnW_way (q13 C J z1 x2 e3 z4 x5 e6 z7 x8 e9 z10 x11 e12 _) (Exists.intro v0 (Exists.intro v1 (Exists.intro v2 (And.intro h0 (condW_t h1 (Exists.intro v3 (Exists.intro v4 (Exists.intro v5 (And.intro h2 (condW_t h3 (Exists.intro v6 (Exists.intro v7 (Exists.intro v8 (And.intro h4 (condW_f (decide_eq_false h5) (rfl))))))))))))))))
theorem q13_2 {C J} (z1 : Bool) (x2 : List D) (e3 : List D) (z4 : Bool) (x5 : List D) (e6 : List D) (z7 : Bool) (x8 : List D) (e9 : List D) (z10 : Bool) (x11 : List D) (e12 : List D) (v0 : Bool) (v1 : IV) (v2 : IV) (v3 : Bool) (v4 : IV) (v5 : IV) (h0 : C 15 [IV.d (D.sl 4 z1 x2 e3), IV.d (D.agg [D.sl 1 z4 x5 e6, D.sl 1 z7 x8 e9])] = some (IV.d (D.bool v0), [v1, v2])) (h1 : v0 = true) (h2 : C 32 [IV.d (D.sl 4 z1 x2 e3), IV.d (D.sl 1 z10 x11 e12)] = some (IV.d (D.bool v3), [v4, v5])) (h3 : v3 = false) : evFnJ F C J d13 [.d (.sl 4 z1 x2 e3), .d (.agg [.sl 1 z4 x5 e6, .sl 1 z7 x8 e9]), .d (.sl 1 z10 x11 e12)] = some (IV.tup [IV.d (D.bool false), IV.d (D.int IntKind.i64 1100)], [IV.d (D.sl 4 z1 x2 e3), IV.d (D.agg [D.sl 1 z4 x5 e6, D.sl 1 z7 x8 e9]), IV.d (D.sl 1 z10 x11 e12)]) := fnW_way (q13 C J z1 x2 e3 z4 x5 e6 z7 x8 e9 z10 x11 e12 _) (Exists.intro v0 (Exists.intro v1 (Exists.intro v2 (And.intro h0 (condW_t h1 (Exists.intro v3 (Exists.intro v4 (Exists.intro v5 (And.intro h2 (condW_f h3 (rfl)))))))))))
theorem q13_3 {C J} (z1 : Bool) (x2 : List D) (e3 : List D) (z4 : Bool) (x5 : List D) (e6 : List D) (z7 : Bool) (x8 : List D) (e9 : List D) (z10 : Bool) (x11 : List D) (e12 : List D) (v0 : Bool) (v1 : IV) (v2 : IV) (h0 : C 15 [IV.d (D.sl 4 z1 x2 e3), IV.d (D.agg [D.sl 1 z4 x5 e6, D.sl 1 z7 x8 e9])] = some (IV.d (D.bool v0), [v1, v2])) (h1 : v0 = false) : evFnJ F C J d13 [.d (.sl 4 z1 x2 e3), .d (.agg [.sl 1 z4 x5 e6, .sl 1 z7 x8 e9]), .d (.sl 1 z10 x11 e12)] = some (IV.tup [IV.d (D.bool false), IV.d (D.int IntKind.i64 1100)], [IV.d (D.sl 4 z1 x2 e3), IV.d (D.agg [D.sl 1 z4 x5 e6, D.sl 1 z7 x8 e9]), IV.d (D.sl 1 z10 x11 e12)]) := fnW_way (q13 C J z1 x2 e3 z4 x5 e6 z7 x8 e9 z10 x11 e12 _) (Exists.intro v0 (Exists.intro v1 (Exists.intro v2 (And.intro h0 (condW_f h1 (rfl))))))
theorem q28 (C J) (z1 : Bool) (x2 : List D) (e3 : List D) (z4 : Bool) (x5 : List D) (e6 : List D) (Q) : fnW F C R (L28) J d28 [.d (.sl 1 z1 x2 e3), .d (.sl 1 z4 x5 e6)] Q = (condW ((↑(List.length x2) : Int) != (↑(List.length x5) : Int)) (Q (some (IV.d (D.bool false), [IV.d (D.sl 1 z1 x2 e3), IV.d (D.sl 1 z4 x5 e6)]))) ((∃ w0, evP F C J d28 [] [1, 1, 0, 1] [(0, IV.d (D.sl 1 z1 x2 e3)), (1, IV.d (D.sl 1 z4 x5 e6)), (5, IV.d (D.int IntKind.i64 0))] = some (Out.ret [(4, IV.d (D.bool w0))]) ∧ Q (some (IV.d (D.bool w0), [IV.d (D.sl 1 z1 x2 e3), IV.d (D.sl 1 z4 x5 e6)]))) ∨ ∃ w1 w2 w3 w4 w5 w6 w7, evP F C J d28 [] [1, 1, 0, 1] [(0, IV.d (D.sl 1 z1 x2 e3)), (1, IV.d (D.sl 1 z4 x5 e6)), (5, IV.d (D.int IntKind.i64 0))] = some (Out.norm [(0, IV.d (D.sl 1 w1 w2 w3)), (1, IV.d (D.sl 1 w4 w5 w6)), (5, IV.d (D.int IntKind.i64 w7))]) ∧ Q (some (IV.d (D.bool true), [IV.d (D.sl 1 z1 x2 e3), IV.d (D.sl 1 z4 x5 e6)])))) := by kernel_rfl
theorem q28_0 {C J} (z1 : Bool) (x2 : List D) (e3 : List D) (z4 : Bool) (x5 : List D) (e6 : List D) (h0 : ((↑(List.length x2) : Int) != (↑(List.length x5) : Int)) = true) : evFnJ F C J d28 [.d (.sl 1 z1 x2 e3), .d (.sl 1 z4 x5 e6)] = some (IV.d (D.bool false), [IV.d (D.sl 1 z1 x2 e3), IV.d (D.sl 1 z4 x5 e6)]) := fnW_way (q28 C J z1 x2 e3 z4 x5 e6 _) (condW_t h0 (rfl))
theorem q28_1 {C J} (z1 : Bool) (x2 : List D) (e3 : List D) (z4 : Bool) (x5 : List D) (e6 : List D) (v0 : Bool) (h0 : ((↑(List.length x2) : Int) != (↑(List.length x5) : Int)) = false) (h1 : evP F C J d28 [] [1, 1, 0, 1] [(0, IV.d (D.sl 1 z1 x2 e3)), (1, IV.d (D.sl 1 z4 x5 e6)), (5, IV.d (D.int IntKind.i64 0))] = some (Out.ret [(4, IV.d (D.bool v0))])) : evFnJ F C J d28 [.d (.sl 1 z1 x2 e3), .d (.sl 1 z4 x5 e6)] = some (IV.d (D.bool v0), [IV.d (D.sl 1 z1 x2 e3), IV.d (D.sl 1 z4 x5 e6)]) := fnW_way (q28 C J z1 x2 e3 z4 x5 e6 _) (condW_f h0 (Or.inl (Exists.intro v0 (And.intro h1 (rfl)))))
theorem q28_2 {C J} (z1 : Bool) (x2 : List D) (e3 : List D) (z4 : Bool) (x5 : List D) (e6 : List D) (v0 : Bool) (v1 : List D) (v2 : List D) (v3 : Bool) (v4 : List D) (v5 : List D) (v6 : Int) (h0 : ((↑(List.length x2) : Int) != (↑(List.length x5) : Int)) = false) (h1 : evP F C J d28 [] [1, 1, 0, 1] [(0, IV.d (D.sl 1 z1 x2 e3)), (1, IV.d (D.sl 1 z4 x5 e6)), (5, IV.d (D.int IntKind.i64 0))] = some (Out.norm [(0, IV.d (D.sl 1 v0 v1 v2)), (1, IV.d (D.sl 1 v3 v4 v5)), (5, IV.d (D.int IntKind.i64 v6))])) : evFnJ F C J d28 [.d (.sl 1 z1 x2 e3), .d (.sl 1 z4 x5 e6)] = some (IV.d (D.bool true), [IV.d (D.sl 1 z1 x2 e3), IV.d (D.sl 1 z4 x5 e6)]) := fnW_way (q28 C J z1 x2 e3 z4 x5 e6 _) (condW_f h0 (Or.inr (Exists.intro v0 (Exists.intro v1 (Exists.intro v2 (Exists.intro v3 (Exists.intro v4 (Exists.intro v5 (Exists.intro v6 (And.intro h1 (rfl)))))))))))
theorem q28_l0a (C J) (z1 : Bool) (x2 : List D) (e3 : List D) (z4 : Bool) (x5 : List D) (e6 : List D) (i7 : Int) (Q) : wpQ F C R (L28) J d28 [] [1,1,0,1,0,0] [(0, .d (.sl 1 z1 x2 e3)), (1, .d (.sl 1 z4 x5 e6)), (5, .d (.int .i64 i7))] Q = (condW (decide (i7 < (↑(List.length x2) : Int))) (condW (decide (0 ≤ i7)) (∃ w0 w1 w2, x2[Int.toNat i7]? = some (D.sl 1 w0 w1 w2) ∧ condW (decide (0 ≤ i7)) (∃ w3 w4 w5, x5[Int.toNat i7]? = some (D.sl 1 w3 w4 w5) ∧ ∃ w6 w7 w8, C 40 [IV.d (D.sl 1 w0 w1 w2), IV.d (D.sl 1 w3 w4 w5)] = some (IV.d (D.bool w6), [w7, w8]) ∧ condW w6 (Q (Out.norm [(0, IV.d (D.sl 1 z1 x2 e3)), (1, IV.d (D.sl 1 z4 x5 e6)), (5, IV.d (D.int IntKind.i64 (IntKind.wrap IntKind.i64 (i7 + 1))))])) (Q (Out.ret [(4, IV.d (D.bool false))]))) False) False) (Q (Out.exit 0 [(0, IV.d (D.sl 1 z1 x2 e3)), (1, IV.d (D.sl 1 z4 x5 e6)), (5, IV.d (D.int IntKind.i64 i7))]))) := by kernel_rfl
theorem q28_l0a_0 {C J} (z1 : Bool) (x2 : List D) (e3 : List D) (z4 : Bool) (x5 : List D) (e6 : List D) (i7 : Int) (v0 : Bool) (v1 : List D) (v2 : List D) (v3 : Bool) (v4 : List D) (v5 : List D) (v6 : Bool) (v7 : IV) (v8 : IV) (h0 : i7 < (↑(List.length x2) : Int)) (h1 : 0 ≤ i7) (h2 : x2[Int.toNat i7]? = some (D.sl 1 v0 v1 v2)) (h3 : x5[Int.toNat i7]? = some (D.sl 1 v3 v4 v5)) (h4 : C 40 [IV.d (D.sl 1 v0 v1 v2), IV.d (D.sl 1 v3 v4 v5)] = some (IV.d (D.bool v6), [v7, v8])) (h5 : v6 = true) : evP F C J d28 [] [1,1,0,1,0,0] [(0, .d (.sl 1 z1 x2 e3)), (1, .d (.sl 1 z4 x5 e6)), (5, .d (.int .i64 i7))] = some (Out.norm [(0, IV.d (D.sl 1 z1 x2 e3)), (1, IV.d (D.sl 1 z4 x5 e6)), (5, IV.d (D.int IntKind.i64 (IntKind.wrap IntKind.i64 (i7 + 1))))]) := wpQ_way (q28_l0a C J z1 x2 e3 z4 x5 e6 i7 _) (condW_t (decide_eq_true h0) (condW_t (decide_eq_true h1) (Exists.intro v0 (Exists.intro v1 (Exists.intro v2 (And.intro h2 (condW_t (decide_eq_true h1) (Exists.intro v3 (Exists.intro v4 (Exists.intro v5 (And.intro h3 (Exists.intro v6 (Exists.intro v7 (Exists.intro v8 (And.intro h4 (condW_t h5 (rfl)))))))))))))))))
theorem q28_l0a_1 {C J} (z1 : Bool) (x2 : List D) (e3 : List D) (z4 : Bool) (x5 : List D) (e6 : List D) (i7 : Int) (v0 : Bool) (v1 : List D) (v2 : List D) (v3 : Bool) (v4 : List D) (v5 : List D) (v6 : Bool) (v7 : IV) (v8 : IV) (h0 : i7 < (↑(List.length x2) : Int)) (h1 : 0 ≤ i7) (h2 : x2[Int.toNat i7]? = some (D.sl 1 v0 v1 v2)) (h3 : x5[Int.toNat i7]? = some (D.sl 1 v3 v4 v5)) (h4 : C 40 [IV.d (D.sl 1 v0 v1 v2), IV.d (D.sl 1 v3 v4 v5)] = some (IV.d (D.bool v6), [v7, v8])) (h5 : v6 = false) : evP F C J d28 [] [1,1,0,1,0,0] [(0, .d (.sl 1 z1 x2 e3)), (1, .d (.sl 1 z4 x5 e6)), (5, .d (.int .i64 i7))] = some (Out.ret [(4, IV.d (D.bool false))]) := wpQ_way (q28_l0a C J z1 x2 e3 z4 x5 e6 i7 _) (condW_t (decide_eq_true h0) (condW_t (decide_eq_true h1) (Exists.intro v0 (Exists.intro v1 (Exists.intro v2 (And.intro h2 (condW_t (decide_eq_true h1) (Exists.intro v3 (Exists.intro v4 (Exists.intro v5 (And.intro h3 (Exists.intro v6 (Exists.intro v7 (Exists.intro v8 (And.intro h4 (condW_f h5 (rfl)))))))))))))))))
theorem q28_l0a_2 {C J} (z1 : Bool) (x2 : List D) (e3 : List D) (z4 : Bool) (x5 : List D) (e6 : List D) (i7 : Int) (h0 : ¬i7 < (↑(List.length x2) : Int)) : evP F C J d28 [] [1,1,0,1,0,0] [(0, .d (.sl 1 z1 x2 e3)), (1, .d (.sl 1 z4 x5 e6)), (5, .d (.int .i64 i7))] = some (Out.exit 0 [(0, IV.d (D.sl 1 z1 x2 e3)), (1, IV.d (D.sl 1 z4 x5 e6)), (5, IV.d (D.int IntKind.i64 i7))]) := wpQ_way (q28_l0a C J z1 x2 e3 z4 x5 e6 i7 _) (condW_f (decide_eq_false h0) (rfl))
theorem q17 (C J) (z1 : Bool) (x2 : List D) (e3 : List D) (z4 : Bool) (x5 : List D) (e6 : List D) (z7 : Bool) (x8 : List D) (e9 : List D) (z10 : Bool) (x11 : List D) (e12 : List D) (Q) : fnW F C R (L17) J d17 [.d (.agg [.sl 1 z1 x2 e3, .sl 1 z4 x5 e6]), .d (.agg [.sl 1 z7 x8 e9, .sl 1 z10 x11 e12])] Q = (∃ w0 w1 w2, C 40 [IV.d (D.sl 1 z1 x2 e3), IV.d (D.sl 1 z7 x8 e9)] = some (IV.d (D.bool w0), [w1, w2]) ∧ condW w0 (∃ w3 w4 w5, C 28 [IV.d (D.sl 1 z4 x5 e6), IV.d (D.sl 1 z10 x11 e12)] = some (IV.d (D.bool w3), [w4, w5]) ∧ condW w3 (Q (some (IV.d (D.bool true), [IV.d (D.agg [D.sl 1 z1 x2 e3, D.sl 1 z4 x5 e6]), IV.d (D.agg [D.sl 1 z7 x8 e9, D.sl 1 z10 x11 e12])]))) (Q (some (IV.d (D.bool false), [IV.d (D.agg [D.sl 1 z1 x2 e3, D.sl 1 z4 x5 e6]), IV.d (D.agg [D.sl 1 z7 x8 e9, D.sl 1 z10 x11 e12])])))) (Q (some (IV.d (D.bool false), [IV.d (D.agg [D.sl 1 z1 x2 e3, D.sl 1 z4 x5 e6]), IV.d (D.agg [D.sl 1 z7 x8 e9, D.sl 1 z10 x11 e12])])))) := by kernel_rfl
theorem q17_0 {C J} (z1 : Bool) (x2 : List D) (e3 : List D) (z4 : Bool) (x5 : List D) (e6 : List D) (z7 : Bool) (x8 : List D) (e9 : List D) (z10 : Bool) (x11 : List D) (e12 : List D) (v0 : Bool) (v1 : IV) (v2 : IV) (v3 : Bool) (v4 : IV) (v5 : IV) (h0 : C 40 [IV.d (D.sl 1 z1 x2 e3), IV.d (D.sl 1 z7 x8 e9)] = some (IV.d (D.bool v0), [v1, v2])) (h1 : v0 = true) (h2 : C 28 [IV.d (D.sl 1 z4 x5 e6), IV.d (D.sl 1 z10 x11 e12)] = some (IV.d (D.bool v3), [v4, v5])) (h3 : v3 = true) : evFnJ F C J d17 [.d (.agg [.sl 1 z1 x2 e3, .sl 1 z4 x5 e6]), .d (.agg [.sl 1 z7 x8 e9, .sl 1 z10 x11 e12])] = some (IV.d (D.bool true), [IV.d (D.agg [D.sl 1 z1 x2 e3, D.sl 1 z4 x5 e6]), IV.d (D.agg [D.sl 1 z7 x8 e9, D.sl 1 z10 x11 e12])]) := fnW_way (q17 C J z1 x2 e3 z4 x5 e6 z7 x8 e9 z10 x11 e12 _) (Exists.intro v0 (Exists.intro v1 (Exists.intro v2 (And.intro h0 (condW_t h1 (Exists.intro v3 (Exists.intro v4 (Exists.intro v5 (And.intro h2 (condW_t h3 (rfl)))))))))))
theorem q17_1 {C J} (z1 : Bool) (x2 : List D) (e3 : List D) (z4 : Bool) (x5 : List D) (e6 : List D) (z7 : Bool) (x8 : List D) (e9 : List D) (z10 : Bool) (x11 : List D) (e12 : List D) (v0 : Bool) (v1 : IV) (v2 : IV) (v3 : Bool) (v4 : IV) (v5 : IV) (h0 : C 40 [IV.d (D.sl 1 z1 x2 e3), IV.d (D.sl 1 z7 x8 e9)] = some (IV.d (D.bool v0), [v1, v2])) (h1 : v0 = true) (h2 : C 28 [IV.d (D.sl 1 z4 x5 e6), IV.d (D.sl 1 z10 x11 e12)] = some (IV.d (D.bool v3), [v4, v5])) (h3 : v3 = false) : evFnJ F C J d17 [.d (.agg [.sl 1 z1 x2 e3, .sl 1 z4 x5 e6]), .d (.agg [.sl 1 z7 x8 e9, .sl 1 z10 x11 e12])] = some (IV.d (D.bool false), [IV.d (D.agg [D.sl 1 z1 x2 e3, D.sl 1 z4 x5 e6]), IV.d (D.agg [D.sl 1 z7 x8 e9, D.sl 1 z10 x11 e12])]) := fnW_way (q17 C J z1 x2 e3 z4 x5 e6 z7 x8 e9 z10 x11 e12 _) (Exists.intro v0 (Exists.intro v1 (Exists.intro v2 (And.intro h0 (condW_t h1 (Exists.intro v3 (Exists.intro v4 (Exists.intro v5 (And.intro h2 (condW_f h3 (rfl)))))))))))
theorem q17_2 {C J} (z1 : Bool) (x2 : List D) (e3 : List D) (z4 : Bool) (x5 : List D) (e6 : List D) (z7 : Bool) (x8 : List D) (e9 : List D) (z10 : Bool) (x11 : List D) (e12 : List D) (v0 : Bool) (v1 : IV) (v2 : IV) (h0 : C 40 [IV.d (D.sl 1 z1 x2 e3), IV.d (D.sl 1 z7 x8 e9)] = some (IV.d (D.bool v0), [v1, v2])) (h1 : v0 = false) : evFnJ F C J d17 [.d (.agg [.sl 1 z1 x2 e3, .sl 1 z4 x5 e6]), .d (.agg [.sl 1 z7 x8 e9, .sl 1 z10 x11 e12])] = some (IV.d (D.bool false), [IV.d (D.agg [D.sl 1 z1 x2 e3, D.sl 1 z4 x5 e6]), IV.d (D.agg [D.sl 1 z7 x8 e9, D.sl 1 z10 x11 e12])]) := fnW_way (q17 C J z1 x2 e3 z4 x5 e6 z7 x8 e9 z10 x11 e12 _) (Exists.intro v0 (Exists.intro v1 (Exists.intro v2 (And.intro h0 (condW_f h1 (rfl))))))
theorem q19 (C J)  (Q) : fnW F C R (L19) J d19 [] Q = (∃ w0 w1 w2 w3 w4, evP F C J d19 [] [1, 1, 0, 1] [(0, IV.ptr 26 0 [IV.own true 3 1 [], IV.d (D.sl 1 true [] [])]), (1, IV.ptr 26 0 [IV.own true 3 1 [], IV.d (D.sl 1 true [] [])]), (2, IV.d (D.int IntKind.i64 0))] = some (Out.norm [(0, IV.ptr 26 0 [IV.own w0 3 1 w1, IV.d (D.sl 1 true [] [])]), (1, IV.ptr 26 0 [IV.own w2 3 1 w3, IV.d (D.sl 1 true [] [])]), (2, IV.d (D.int IntKind.i64 w4))]) ∧ Q (some (IV.agg [IV.own w2 3 1 w3, IV.d (D.sl 1 true [] [])], []))) := by kernel_rfl
theorem q19_0 {C J}  (v0 : Bool) (v1 : List D) (v2 : Bool) (v3 : List D) (v4 : Int) (h0 : evP F C J d19 [] [1, 1, 0, 1] [(0, IV.ptr 26 0 [IV.own true 3 1 [], IV.d (D.sl 1 true [] [])]), (1, IV.ptr 26 0 [IV.own true 3 1 [], IV.d (D.sl 1 true [] [])]), (2, IV.d (D.int IntKind.i64 0))] = some (Out.norm [(0, IV.ptr 26 0 [IV.own v0 3 1 v1, IV.d (D.sl 1 true [] [])]), (1, IV.ptr 26 0 [IV.own v2 3 1 v3, IV.d (D.sl 1 true [] [])]), (2, IV.d (D.int IntKind.i64 v4))])) : evFnJ F C J d19 [] = some (IV.agg [IV.own v2 3 1 v3, IV.d (D.sl 1 true [] [])], []) := fnW_way (q19 C J _) (Exists.intro v0 (Exists.intro v1 (Exists.intro v2 (Exists.intro v3 (Exists.intro v4 (And.intro h0 (rfl)))))))
theorem q19_l0a (C J) (z1 : Bool) (x2 : List D) (z3 : Bool) (x4 : List D) (i5 : Int) (Q) : wpQ F C R (L19) J d19 [] [1,1,0,1,0,0] [(0, .ptr 26 0 [.own z1 3 1 x2, .d (.sl 1 true [] [])]), (1, .ptr 26 0 [.own z3 3 1 x4, .d (.sl 1 true [] [])]), (2, .d (.int .i64 i5))] Q = (condW (decide (i5 < 32)) (condW (decide (List.length x4 + (0 + 1) ≤ 9223372036854775807)) (condW (decide ((List.length x4 + (0 + 1)) * 8 ≤ 140737488355328)) (Q (Out.norm [(0, IV.ptr 26 0 [IV.own z1 3 1 x2, IV.d (D.sl 1 true [] [])]), (1, IV.ptr 26 0 [IV.own (z3 && false) 3 1 (x4 ++ [D.int IntKind.i64 (-1)]), IV.d (D.sl 1 true [] [])]), (2, IV.d (D.int IntKind.i64 (IntKind.wrap IntKind.i64 (i5 + 1))))])) False) False) (Q (Out.exit 0 [(0, IV.ptr 26 0 [IV.own z1 3 1 x2, IV.d (D.sl 1 true [] [])]), (1, IV.ptr 26 0 [IV.own z3 3 1 x4, IV.d (D.sl 1 true [] [])]), (2, IV.d (D.int IntKind.i64 i5))]))) := by kernel_rfl
theorem q19_l0a_0 {C J} (z1 : Bool) (x2 : List D) (z3 : Bool) (x4 : List D) (i5 : Int) (h0 : i5 < 32) (h1 : List.length x4 + (0 + 1) ≤ 9223372036854775807) (h2 : (List.length x4 + (0 + 1)) * 8 ≤ 140737488355328) : evP F C J d19 [] [1,1,0,1,0,0] [(0, .ptr 26 0 [.own z1 3 1 x2, .d (.sl 1 true [] [])]), (1, .ptr 26 0 [.own z3 3 1 x4, .d (.sl 1 true [] [])]), (2, .d (.int .i64 i5))] = some (Out.norm [(0, IV.ptr 26 0 [IV.own z1 3 1 x2, IV.d (D.sl 1 true [] [])]), (1, IV.ptr 26 0 [IV.own (z3 && false) 3 1 (x4 ++ [D.int IntKind.i64 (-1)]), IV.d (D.sl 1 true [] [])]), (2, IV.d (D.int IntKind.i64 (IntKind.wrap IntKind.i64 (i5 + 1))))]) := wpQ_way (q19_l0a C J z1 x2 z3 x4 i5 _) (condW_t (decide_eq_true h0) (condW_t (decide_eq_true h1) (condW_t (decide_eq_true h2) (rfl))))
theorem q19_l0a_1 {C J} (z1 : Bool) (x2 : List D) (z3 : Bool) (x4 : List D) (i5 : Int) (h0 : ¬i5 < 32) : evP F C J d19 [] [1,1,0,1,0,0] [(0, .ptr 26 0 [.own z1 3 1 x2, .d (.sl 1 true [] [])]), (1, .ptr 26 0 [.own z3 3 1 x4, .d (.sl 1 true [] [])]), (2, .d (.int .i64 i5))] = some (Out.exit 0 [(0, IV.ptr 26 0 [IV.own z1 3 1 x2, IV.d (D.sl 1 true [] [])]), (1, IV.ptr 26 0 [IV.own z3 3 1 x4, IV.d (D.sl 1 true [] [])]), (2, IV.d (D.int IntKind.i64 i5))]) := wpQ_way (q19_l0a C J z1 x2 z3 x4 i5 _) (condW_f (decide_eq_false h0) (rfl))
theorem q44 (C J) (z1 : Bool) (x2 : List D) (e3 : List D) (z4 : Bool) (x5 : List D) (e6 : List D) (Q) : fnW F C R (L44) J d44 [.d (.agg [.sl 1 z1 x2 e3, .sl 1 z4 x5 e6])] Q = (condW (decide (0 + List.length x2 ≤ 9223372036854775807)) (condW (decide ((0 + List.length x2) * 8 ≤ 140737488355328)) (∃ w0 w1 w2 w3 w4 w5 w6 w7 w8 w9 w10 w11 w12, evP F C J d44 [] [1, 1, 0, 1] [(1, IV.dbox 26 0 [D.sl 1 z1 x2 e3, D.sl 1 z4 x5 e6]), (2, IV.ptr 26 0 [IV.d (D.sl 1 true [] []), IV.own true 23 1 []]), (3, IV.ptr 26 0 [IV.own false 3 1 x2, IV.own true 23 1 []]), (4, IV.d (D.int IntKind.i64 0))] = some (Out.norm [(1, IV.dbox 26 0 [D.sl 1 w0 w1 w2, D.sl 1 w3 w4 w5]), (2, IV.ptr 26 0 [IV.d (D.sl 1 true [] []), IV.own w6 23 1 w7]), (3, IV.ptr 26 0 [IV.own w8 3 1 w9, IV.own w10 23 1 w11]), (4, IV.d (D.int IntKind.i64 w12))]) ∧ Q (some (IV.agg [IV.own w8 3 1 w9, IV.own w10 23 1 w11], [IV.d (D.agg [D.sl 1 z1 x2 e3, D.sl 1 z4 x5 e6])]))) False) False) := by kernel_rfl
theorem q44_0 {C J} (z1 : Bool) (x2 : List D) (e3 : List D) (z4 : Bool) (x5 : List D) (e6 : List D) (v0 : Bool) (v1 : List D) (v2 : List D) (v3 : Bool) (v4 : List D) (v5 : List D) (v6 : Bool) (v7 : List D) (v8 : Bool) (v9 : List D) (v10 : Bool) (v11 : List D) (v12 : Int) (h0 : 0 + List.length x2 ≤ 9223372036854775807) (h1 : (0 + List.length x2) * 8 ≤ 140737488355328) (h2 : evP F C J d44 [] [1, 1, 0, 1] [(1, IV.dbox 26 0 [D.sl 1 z1 x2 e3, D.sl 1 z4 x5 e6]), (2, IV.ptr 26 0 [IV.d (D.sl 1 true [] []), IV.own true 23 1 []]), (3, IV.ptr 26 0 [IV.own false 3 1 x2, IV.own true 23 1 []]), (4, IV.d (D.int IntKind.i64 0))] = some (Out.norm [(1, IV.dbox 26 0 [D.sl 1 v0 v1 v2, D.sl 1 v3 v4 v5]), (2, IV.ptr 26 0 [IV.d (D.sl 1 true [] []), IV.own v6 23 1 v7]), (3, IV.ptr 26 0 [IV.own v8 3 1 v9, IV.own v10 23 1 v11]), (4, IV.d (D.int IntKind.i64 v12))])) : evFnJ F C J d44 [.d (.agg [.sl 1 z1 x2 e3, .sl 1 z4 x5 e6])] = some (IV.agg [IV.own v8 3 1 v9, IV.own v10 23 1 v11], [IV.d (D.agg [D.sl 1 z1 x2 e3, D.sl 1 z4 x5 e6])]) := fnW_way (q44 C J z1 x2 e3 z4 x5 e6 _) (condW_t (decide_eq_true h0) (condW_t (decide_eq_true h1) (Exists.intro v0 (Exists.intro v1 (Exists.intro v2 (Exists.intro v3 (Exists.intro v4 (Exists.intro v5 (Exists.intro v6 (Exists.intro v7 (Exists.intro v8 (Exists.intro v9 (Exists.intro v10 (Exists.intro v11 (Exists.intro v12 (And.intro h2 (rfl)))))))))))))))))
theorem q44_l0a (C J) (z1 : Bool) (x2 : List D) (e3 : List D) (z4 : Bool) (x5 : List D) (e6 : List D) (z7 : Bool) (x8 : List D) (z9 : Bool) (x10 : List D) (z11 : Bool) (x12 : List D) (i13 : Int) (Q) : wpQ F C R (L44) J d44 [] [1,1,0,1,0,0] [(1, .dbox 26 0 [.sl 1 z1 x2 e3, .sl 1 z4 x5 e6]), (2, .ptr 26 0 [.d (.sl 1 true [] []), .own z7 23 1 x8]), (3, .ptr 26 0 [.own z9 3 1 x10, .own z11 23 1 x12]), (4, .d (.int .i64 i13))] Q = (condW (decide (i13 < (↑(List.length x5) : Int))) (condW (decide (0 ≤ i13)) (∃ w0 w1 w2, x5[Int.toNat i13]? = some (D.sl 1 w0 w1 w2) ∧ condW (decide (0 + List.length w1 ≤ 9223372036854775807)) (condW (decide ((0 + List.length w1) * 8 ≤ 140737488355328)) (condW (decide (List.length x12 + (0 + 1) ≤ 9223372036854775807)) (condW (decide ((List.length x12 + (0 + 1)) * 24 ≤ 140737488355328)) (Q (Out.norm [(1, IV.dbox 26 0 [D.sl 1 z1 x2 e3, D.sl 1 z4 x5 e6]), (2, IV.ptr 26 0 [IV.d (D.sl 1 true [] []), IV.own z7 23 1 x8]), (3, IV.ptr 26 0 [IV.own z9 3 1 x10, IV.own (z11 && false) 23 1 (x12 ++ [D.sl 1 (false && List.isEmpty w1) w1 []])]), (4, IV.d (D.int IntKind.i64 (IntKind.wrap IntKind.i64 (i13 + 1))))])) False) False) False) False) False) (Q (Out.exit 0 [(1, IV.dbox 26 0 [D.sl 1 z1 x2 e3, D.sl 1 z4 x5 e6]), (2, IV.ptr 26 0 [IV.d (D.sl 1 true [] []), IV.own z7 23 1 x8]), (3, IV.ptr 26 0 [IV.own z9 3 1 x10, IV.own z11 23 1 x12]), (4, IV.d (D.int IntKind.i64 i13))]))) := by kernel_rfl
theorem q44_l0a_0 {C J} (z1 : Bool) (x2 : List D) (e3 : List D) (z4 : Bool) (x5 : List D) (e6 : List D) (z7 : Bool) (x8 : List D) (z9 : Bool) (x10 : List D) (z11 : Bool) (x12 : List D) (i13 : Int) (v0 : Bool) (v1 : List D) (v2 : List D) (h0 : i13 < (↑(List.length x5) : Int)) (h1 : 0 ≤ i13) (h2 : x5[Int.toNat i13]? = some (D.sl 1 v0 v1 v2)) (h3 : 0 + List.length v1 ≤ 9223372036854775807) (h4 : (0 + List.length v1) * 8 ≤ 140737488355328) (h5 : List.length x12 + (0 + 1) ≤ 9223372036854775807) (h6 : (List.length x12 + (0 + 1)) * 24 ≤ 140737488355328) : evP F C J d44 [] [1,1,0,1,0,0] [(1, .dbox 26 0 [.sl 1 z1 x2 e3, .sl 1 z4 x5 e6]), (2, .ptr 26 0 [.d (.sl 1 true [] []), .own z7 23 1 x8]), (3, .ptr 26 0 [.own z9 3 1 x10, .own z11 23 1 x12]), (4, .d (.int .i64 i13))] = some (Out.norm [(1, IV.dbox 26 0 [D.sl 1 z1 x2 e3, D.sl 1 z4 x5 e6]), (2, IV.ptr 26 0 [IV.d (D.sl 1 true [] []), IV.own z7 23 1 x8]), (3, IV.ptr 26 0 [IV.own z9 3 1 x10, IV.own (z11 && false) 23 1 (x12 ++ [D.sl 1 (false && List.isEmpty v1) v1 []])]), (4, IV.d (D.int IntKind.i64 (IntKind.wrap IntKind.i64 (i13 + 1))))]) := wpQ_way (q44_l0a C J z1 x2 e3 z4 x5 e6 z7 x8 z9 x10 z11 x12 i13 _) (condW_t (decide_eq_true h0) (condW_t (decide_eq_true h1) (Exists.intro v0 (Exists.intro v1 (Exists.intro v2 (And.intro h2 (condW_t (decide_eq_true h3) (condW_t (decide_eq_true h4) (condW_t (decide_eq_true h5) (condW_t (decide_eq_true h6) (rfl)))))))))))
theorem q44_l0a_1 {C J} (z1 : Bool) (x2 : List D) (e3 : List D) (z4 : Bool) (x5 : List D) (e6 : List D) (z7 : Bool) (x8 : List D) (z9 : Bool) (x10 : List D) (z11 : Bool) (x12 : List D) (i13 : Int) (h0 : ¬i13 < (↑(List.length x5) : Int)) : evP F C J d44 [] [1,1,0,1,0,0] [(1, .dbox 26 0 [.sl 1 z1 x2 e3, .sl 1 z4 x5 e6]), (2, .ptr 26 0 [.d (.sl 1 true [] []), .own z7 23 1 x8]), (3, .ptr 26 0 [.own z9 3 1 x10, .own z11 23 1 x12]), (4, .d (.int .i64 i13))] = some (Out.exit 0 [(1, IV.dbox 26 0 [D.sl 1 z1 x2 e3, D.sl 1 z4 x5 e6]), (2, IV.ptr 26 0 [IV.d (D.sl 1 true [] []), IV.own z7 23 1 x8]), (3, IV.ptr 26 0 [IV.own z9 3 1 x10, IV.own z11 23 1 x12]), (4, IV.d (D.int IntKind.i64 i13))]) := wpQ_way (q44_l0a C J z1 x2 e3 z4 x5 e6 z7 x8 z9 x10 z11 x12 i13 _) (condW_f (decide_eq_false h0) (rfl))
theorem q22 (C J) (z1 : Bool) (x2 : List D) (e3 : List D) (z4 : Bool) (x5 : List D) (e6 : List D) (z7 : Bool) (x8 : List D) (e9 : List D) (z10 : Bool) (x11 : List D) (e12 : List D) (Q) : fnW F C R (L22) J d22 [.d (.sl 4 z1 x2 e3), .d (.agg [.sl 1 z4 x5 e6, .sl 1 z7 x8 e9]), .d (.sl 1 z10 x11 e12)] Q = (∃ w0 w1 w2, C 15 [IV.d (D.sl 4 z1 x2 e3), IV.d (D.agg [D.sl 1 z4 x5 e6, D.sl 1 z7 x8 e9])] = some (IV.d (D.bool w0), [w1, w2]) ∧ condW w0 (∃ w3 w4 w5, C 32 [IV.d (D.sl 4 z1 x2 e3), IV.d (D.sl 1 z10 x11 e12)] = some (IV.d (D.bool w3), [w4, w5]) ∧ condW w3 (∃ w6 w7 w8 w9 w10, C 44 [IV.d (D.agg [D.sl 1 z4 x5 e6, D.sl 1 z7 x8 e9])] = some (IV.agg [IV.own w6 3 1 w7, IV.own w8 23 1 w9], [w10]) ∧ ∃ w11 w12 w13, C 35 [IV.d (D.agg [D.sl 1 z4 x5 e6, D.sl 1 z7 x8 e9]), IV.d (D.sl 1 z10 x11 e12)] = some (IV.d (D.int IntKind.i64 w11), [w12, w13]) ∧ condW (decide (w11 ≥ 0)) (Q (some (IV.tup [IV.agg [IV.own w6 3 1 w7, IV.own w8 23 1 w9], IV.d (D.bool false), IV.d (D.int IntKind.i64 0)], [IV.d (D.sl 4 z1 x2 e3), IV.d (D.agg [D.sl 1 z4 x5 e6, D.sl 1 z7 x8 e9]), IV.d (D.sl 1 z10 x11 e12)]))) (condW (decide ((↑(List.length x8) : Int) ≥ 24)) (Q (some (IV.tup [IV.agg [IV.own true 3 1 [], IV.own true 23 1 []], IV.d (D.bool false), IV.d (D.int IntKind.i64 1101)], [IV.d (D.sl 4 z1 x2 e3), IV.d (D.agg [D.sl 1 z4 x5 e6, D.sl 1 z7 x8 e9]), IV.d (D.sl 1 z10 x11 e12)]))) (∃ w14 w15, C 33 [IV.d (D.sl 1 z10 x11 e12)] = some (IV.d (D.int IntKind.i64 w14), [w15]) ∧ ∃ w16 w17 w18 w19 w20 w21 w22 w23 w24 w25 w26 w27, evP F C J d22 [] [1, 1, 1, 1, 1, 1, 0] [(2, IV.d (D.sl 1 z10 x11 e12)), (6, IV.ptr 26 0 [IV.own true 3 1 [], IV.own true 23 1 []]), (9, IV.ptr 26 0 [IV.own w6 3 1 w7, IV.own w8 23 1 w9]), (10, IV.d (D.int IntKind.i64 (Int.tmod w14 32)))] = some (Out.norm [(2, IV.d (D.sl 1 w16 w17 w18)), (6, IV.ptr 26 0 [IV.own w19 3 1 w20, IV.own w21 23 1 w22]), (9, IV.ptr 26 0 [IV.own w23 3 1 w24, IV.own w25 23 1 w26]), (10, IV.d (D.int IntKind.i64 w27))]) ∧ condW (decide (0 ≤ w27)) (∃ w28, w24[Int.toNat w27]? = some w28 ∧ ∃ w29, w24[Int.toNat w27]? = some (D.int IntKind.i64 w29) ∧ condW (decide (0 + List.length w17 ≤ 9223372036854775807)) (condW (decide ((0 + List.length w17) * 8 ≤ 140737488355328)) (condW (decide (List.length w26 + (0 + 1) ≤ 9223372036854775807)) (condW (decide ((List.length w26 + (0 + 1)) * 24 ≤ 140737488355328)) (Q (some (IV.tup [IV.agg [IV.own w23 3 1 (List.set w24 (Int.toNat w27) (D.int IntKind.i64 (↑(List.length w26) : Int))), IV.own (w25 && false) 23 1 (w26 ++ [D.sl 1 (false && List.isEmpty w17) w17 []])], IV.d (D.bool true), IV.d (D.int IntKind.i64 0)], [IV.d (D.sl 4 z1 x2 e3), IV.d (D.agg [D.sl 1 z4 x5 e6, D.sl 1 z7 x8 e9]), IV.d (D.sl 1 z10 x11 e12)]))) False) False) False) False) False))) (Q (some (IV.tup [IV.agg [IV.own true 3 1 [], IV.own true 23 1 []], IV.d (D.bool false), IV.d (D.int IntKind.i64 1100)], [IV.d (D.sl 4 z1 x2 e3), IV.d (D.agg [D.sl 1 z4 x5 e6, D.sl 1 z7 x8 e9]), IV.d (D.sl 1 z10 x11 e12)])))) (Q (some (IV.tup [IV.agg [IV.own true 3 1 [], IV.own true 23 1 []], IV.d (D.bool false), IV.d (D.int IntKind.i64 1100)], [IV.d (D.sl 4 z1 x2 e3), IV.d (D.agg [D.sl 1 z4 x5 e6, D.sl 1 z7 x8 e9]), IV.d (D.sl 1 z10 x11 e12)])))) := by kernel_rfl
theorem q22_0 {C J} (z1 : Bool) (x2 : List D) (e3 : List D) (z4 : Bool) (x5 : List D) (e6 : List D) (z7 : Bool) (x8 : List D) (e9 : List D) (z10 : Bool) (x11 : List D) (e12 : List D) (v0 : Bool) (v1 : IV) (v2 : IV) (v3 : Bool) (v4 : IV) (v5 : IV) (v6 : Bool) (v7 : List D) (v8 : Bool) (v9 : List D) (v10 : IV) (v11 : Int) (v12 : IV) (v13 : IV) (h0 : C 15 [IV.d (D.sl 4 z1 x2 e3), IV.d (D.agg [D.sl 1 z4 x5 e6, D.sl 1 z7 x8 e9])] = some (IV.d (D.bool v0), [v1, v2])) (h1 : v0 = true) (h2 : C 32 [IV.d (D.sl 4 z1 x2 e3), IV.d (D.sl 1 z10 x11 e12)] = some (IV.d (D.bool v3), [v4, v5])) (h3 : v3 = true) (h4 : C 44 [IV.d (D.agg [D.sl 1 z4 x5 e6, D.sl 1 z7 x8 e9])] = some (IV.agg [IV.own v6 3 1 v7, IV.own v8 23 1 v9], [v10])) (h5 : C 35 [IV.d (D.agg [D.sl 1 z4 x5 e6, D.sl 1 z7 x8 e9]), IV.d (D.sl 1 z10 x11 e12)] = some (IV.d (D.int IntKind.i64 v11), [v12, v13])) (h6 : v11 ≥ 0) : evFnJ F C J d22 [.d (.sl 4 z1 x2 e3), .d (.agg [.sl 1 z4 x5 e6, .sl 1 z7 x8 e9]), .d (.sl 1 z10 x11 e12)] = some (IV.tup [IV.agg [IV.own v6 3 1 v7, IV.own v8 23 1 v9], IV.d (D.bool false), IV.d (D.int IntKind.i64 0)], [IV.d (D.sl 4 z1 x2 e3), IV.d (D.agg [D.sl 1 z4 x5 e6, D.sl 1 z7 x8 e9]), IV.d (D.sl 1 z10 x11 e12)]) := fnW_way (q22 C J z1 x2 e3 z4 x5 e6 z7 x8 e9 z10 x11 e12 _) (Exists.intro v0 (Exists.intro v1 (Exists.intro v2 (And.intro h0 (condW_t h1 (Exists.intro v3 (Exists.intro v4 (Exists.intro v5 (And.intro h2 (condW_t h3 (Exists.intro v6 (Exists.intro v7 (Exists.intro v8 (Exists.intro v9 (Exists.intro v10 (And.intro h4 (Exists.intro v11 (Exists.intro v12 (Exists.intro v13 (And.intro h5 (condW_t (decide_eq_true h6) (rfl))))))))))))))))))))))
theorem q22_1 {C J} (z1 : Bool) (x2 : List D) (e3 : List D) (z4 : Bool) (x5 : List D) (e6 : List D) (z7 : Bool) (x8 : List D) (e9 : List D) (z10 : Bool) (x11 : List D) (e12 : List D) (v0 : Bool) (v1 : IV) (v2 : IV) (v3 : Bool) (v4 : IV) (v5 : IV) (v6 : Bool) (v7 : List D) (v8 : Bool) (v9 : List D) (v10 : IV) (v11 : Int) (v12 : IV) (v13 : IV) (h0 : C 15 [IV.d (D.sl 4 z1 x2 e3), IV.d (D.agg [D.sl 1 z4 x5 e6, D.sl 1 z7 x8 e9])] = some (IV.d (D.bool v0), [v1, v2])) (h1 : v0 = true) (h2 : C 32 [IV.d (D.sl 4 z1 x2 e3), IV.d (D.sl 1 z10 x11 e12)] = some (IV.d (D.bool v3), [v4, v5])) (h3 : v3 = true) (h4 : C 44 [IV.d (D.agg [D.sl 1 z4 x5 e6, D.sl 1 z7 x8 e9])] = some (IV.agg [IV.own v6 3 1 v7, IV.own v8 23 1 v9], [v10])) (h5 : C 35 [IV.d (D.agg [D.sl 1 z4 x5 e6, D.sl 1 z7 x8 e9]), IV.d (D.sl 1 z10 x11 e12)] = some (IV.d (D.int IntKind.i64 v11), [v12, v13])) (h6 : ¬v11 ≥ 0) (h7 : (↑(List.length x8) : Int) ≥ 24) : evFnJ F C J d22 [.d (.sl 4 z1 x2 e3), .d (.agg [.sl 1 z4 x5 e6, .sl 1 z7 x8 e9]), .d (.sl 1 z10 x11 e12)] = some (IV.tup [IV.agg [IV.own true 3 1 [], IV.own true 23 1 []], IV.d (D.bool false), IV.d (D.int IntKind.i64 1101)], [IV.d (D.sl 4 z1 x2 e3), IV.d (D.agg [D.sl 1 z4 x5 e6, D.sl 1 z7 x8 e9]), IV.d (D.sl 1 z10 x11 e12)]) := fnW_way (q22 C J z1 x2 e3 z4 x5 e6 z7 x8 e9 z10 x11 e12 _) (Exists.intro v0 (Exists.intro v1 (Exists.intro v2 (And.intro h0 (condW_t h1 (Exists.intro v3 (Exists.intro v4 (Exists.intro v5 (And.intro h2 (condW_t h3 (Exists.intro v6 (Exists.intro v7 (Exists.intro v8 (Exists.intro v9 (Exists.intro v10 (And.intro h4 (Exists.intro v11 (Exists.intro v12 (Exists.intro v13 (And.intro h5 (condW_f (decide_eq_false h6) (condW_t (decide_eq_true h7) (rfl)))))))))))))))))))))))
theorem q22_2 {C J} (z1 : Bool) (x2 : List D) (e3 : List D) (z4 : Bool) (x5 : List D) (e6 : List D) (z7 : Bool) (x8 : List D) (e9 : List D) (z10 : Bool) (x11 : List D) (e12 : List D) (v0 : Bool) (v1 : IV) (v2 : IV) (v3 : Bool) (v4 : IV) (v5 : IV) (v6 : Bool) (v7 : List D) (v8 : Bool) (v9 : List D) (v10 : IV) (v11 : Int) (v12 : IV) (v13 : IV) (v14 : Int) (v15 : IV) (v16 : Bool) (v17 : List D) (v18 : List D) (v19 : Bool) (v20 : List D) (v21 : Bool) (v22 : List D) (v23 : Bool) (v24 : List D) (v25 : Bool) (v26 : List D) (v27 : Int) (v28 : D) (v29 : Int) (h0 : C 15 [IV.d (D.sl 4 z1 x2 e3), IV.d (D.agg [D.sl 1 z4 x5 e6, D.sl 1 z7 x8 e9])] = some (IV.d (D.bool v0), [v1, v2])) (h1 : v0 = true) (h2 : C 32 [IV.d (D.sl 4 z1 x2 e3), IV.d (D.sl 1 z10 x11 e12)] = some (IV.d (D.bool v3), [v4, v5])) (h3 : v3 = true) (h4 : C 44 [IV.d (D.agg [D.sl 1 z4 x5 e6, D.sl 1 z7 x8 e9])] = some (IV.agg [IV.own v6 3 1 v7, IV.own v8 23 1 v9], [v10])) (h5 : C 35 [IV.d (D.agg [D.sl 1 z4 x5 e6, D.sl 1 z7 x8 e9]), IV.d (D.sl 1 z10 x11 e12)] = some (IV.d (D.int IntKind.i64 v11), [v12, v13])) (h6 : ¬v11 ≥ 0) (h7 : ¬(↑(List.length x8) : Int) ≥ 24) (h8 : C 33 [IV.d (D.sl 1 z10 x11 e12)] = some (IV.d (D.int IntKind.i64 v14), [v15])) (h9 : evP F C J d22 [] [1, 1, 1, 1, 1, 1, 0] [(2, IV.d (D.sl 1 z10 x11 e12)), (6, IV.ptr 26 0 [IV.own true 3 1 [], IV.own true 23 1 []]), (9, IV.ptr 26 0 [IV.own v6 3 1 v7, IV.own v8 23 1 v9]), (10, IV.d (D.int IntKind.i64 (Int.tmod v14 32)))] = some (Out.norm [(2, IV.d (D.sl 1 v16 v17 v18)), (6, IV.ptr 26 0 [IV.own v19 3 1 v20, IV.own v21 23 1 v22]), (9, IV.ptr 26 0 [IV.own v23 3 1 v24, IV.own v25 23 1 v26]), (10, IV.d (D.int IntKind.i64 v27))])) (h10 : 0 ≤ v27) (h11 : v24[Int.toNat v27]? = some v28) (h12 : v24[Int.toNat v27]? = some (D.int IntKind.i64 v29)) (h13 : 0 + List.length v17 ≤ 9223372036854775807) (h14 : (0 + List.length v17) * 8 ≤ 140737488355328) (h15 : List.length v26 + (0 + 1) ≤ 9223372036854775807) (h16 : (List.length v26 + (0 + 1)) * 24 ≤ 140737488355328) : evFnJ F C J d22 [.d (.sl 4 z1 x2 e3), .d (.agg [.sl 1 z4 x5 e6, .sl 1 z7 x8 e9]), .d (.sl 1 z10 x11 e12)] = some (IV.tup [IV.agg [IV.own v23 3 1 (List.set v24 (Int.toNat v27) (D.int IntKind.i64 (↑(List.length v26) : Int))), IV.own (v25 && false) 23 1 (v26 ++ [D.sl 1 (false && List.isEmpty v17) v17 []])], IV.d (D.bool true), IV.d (D.int IntKind.i64 0)], [IV.d (D.sl 4 z1 x2 e3), IV.d (D.agg [D.sl 1 z4 x5 e6, D.sl 1 z7 x8 e9]), IV.d (D.sl 1 z10 x11 e12)]) := fnW_way (q22 C J z1 x2 e3 z4 x5 e6 z7 x8 e9 z10 x11 e12 _) (Exists.intro v0 (Exists.intro v1 (Exists.intro v2 (And.intro h0 (condW_t h1 (Exists.intro v3 (Exists.intro v4 (Exists.intro v5 (And.intro h2 (condW_t h3 (Exists.intro v6 (Exists.intro v7 (Exists.intro v8 (Exists.intro v9 (Exists.intro v10 (And.intro h4 (Exists.intro v11 (Exists.intro v12 (Exists.intro v13 (And.intro h5 (condW_f (decide_eq_false h6) (condW_f (decide_eq_false h7) (Exists.intro v14 (Exists.intro v15 (And.intro h8 (Exists.intro v16 (Exists.intro v17 (Exists.intro v18 (Exists.intro v19 (Exists.intro v20 (Exists.intro v21 (Exists.intro v22 (Exists.intro v23 (Exists.intro v24 (Exists.intro v25 (Exists.intro v26 (Exists.intro v27 (And.intro h9 (condW_t (decide_eq_true h10) (Exists.intro v28 (And.intro h11 (Exists.intro v29 (And.intro h12 (condW_t (decide_eq_true h13) (condW_t (decide_eq_true h14) (condW_t (decide_eq_true h15) (condW_t (decide_eq_true h16) (rfl))))))))))))))))))))))))))))))))))))))))))))))))
theorem q22_3 {C J} (z1 : Bool) (x2 : List D) (e3 : List D) (z4 : Bool) (x5 : List D) (e6 : List D) (z7 : Bool) (x8 : List D) (e9 : List D) (z10 : Bool) (x11 : List D) (e12 : List D) (v0 : Bool) (v1 : IV) (v2 : IV) (v3 : Bool) (v4 : IV) (v5 : IV) (h0 : C 15 [IV.d (D.sl 4 z1 x2 e3), IV.d (D.agg [D.sl 1 z4 x5 e6, D.sl 1 z7 x8 e9])] = some (IV.d (D.bool v0), [v1, v2])) (h1 : v0 = true) (h2 : C 32 [IV.d (D.sl 4 z1 x2 e3), IV.d (D.sl 1 z10 x11 e12)] = some (IV.d (D.bool v3), [v4, v5])) (h3 : v3 = false) : evFnJ F C J d22 [.d (.sl 4 z1 x2 e3), .d (.agg [.sl 1 z4 x5 e6, .sl 1 z7 x8 e9]), .d (.sl 1 z10 x11 e12)] = some (IV.tup [IV.agg [IV.own true 3 1 [], IV.own true 23 1 []], IV.d (D.bool false), IV.d (D.int IntKind.i64 1100)], [IV.d (D.sl 4 z1 x2 e3), IV.d (D.agg [D.sl 1 z4 x5 e6, D.sl 1 z7 x8 e9]), IV.d (D.sl 1 z10 x11 e12)]) := fnW_way (q22 C J z1 x2 e3 z4 x5 e6 z7 x8 e9 z10 x11 e12 _) (Exists.intro v0 (Exists.intro v1 (Exists.intro v2 (And.intro h0 (condW_t h1 (Exists.intro v3 (Exists.intro v4 (Exists.intro v5 (And.intro h2 (condW_f h3 (rfl)))))))))))
theorem q22_4 {C J} (z1 : Bool) (x2 : List D) (e3 : List D) (z4 : Bool) (x5 : List D) (e6 : List D) (z7 : Bool) (x8 : List D) (e9 : List D) (z10 : Bool) (x11 : List D) (e12 : List D) (v0 : Bool) (v1 : IV) (v2 : IV) (h0 : C 15 [IV.d (D.sl 4 z1 x2 e3), IV.d (D.agg [D.sl 1 z4 x5 e6, D.sl 1 z7 x8 e9])] = some (IV.d (D.bool v0), [v1, v2])) (h1 : v0 = false) : evFnJ F C J d22 [.d (.sl 4 z1 x2 e3), .d (.agg [.sl 1 z4 x5 e6, .sl 1 z7 x8 e9]), .d (.sl 1 z10 x11 e12)] = some (IV.tup [IV.agg [IV.own true 3 1 [], IV.own true 23 1 []], IV.d (D.bool false), IV.d (D.int IntKind.i64 1100)], [IV.d (D.sl 4 z1 x2 e3), IV.d (D.agg [D.sl 1 z4 x5 e6, D.sl 1 z7 x8 e9]), IV.d (D.sl 1 z10 x11 e12)]) := fnW_way (q22 C J z1 x2 e3 z4 x5 e6 z7 x8 e9 z10 x11 e12 _) (Exists.intro v0 (Exists.intro v1 (Exists.intro v2 (And.intro h0 (condW_f h1 (rfl))))))
theorem q22_l0a (C J) (z1 : Bool) (x2 : List D) (e3 : List D) (z4 : Bool) (x5 : List D) (z6 : Bool) (x7 : List D) (z8 : Bool) (x9 : List D) (z10 : Bool) (x11 : List D) (i12 : Int) (Q) : wpQ F C R (L22) J d22 [] [1,1,1,1,1,1,0,0,0] [(2, .d (.sl 1 z1 x2 e3)), (6, .ptr 26 0 [.own z4 3 1 x5, .own z6 23 1 x7]), (9, .ptr 26 0 [.own z8 3 1 x9, .own z10 23 1 x11]), (10, .d (.int .i64 i12))] Q = (condW (decide (0 ≤ i12)) (∃ w0, x9[Int.toNat i12]? = some w0 ∧ ∃ w1, x9[Int.toNat i12]? = some (D.int IntKind.i64 w1) ∧ condW (decide (w1 ≥ 0)) (Q (Out.norm [(2, IV.d (D.sl 1 z1 x2 e3)), (6, IV.ptr 26 0 [IV.own z4 3 1 x5, IV.own z6 23 1 x7]), (9, IV.ptr 26 0 [IV.own z8 3 1 x9, IV.own z10 23 1 x11]), (10, IV.d (D.int IntKind.i64 (Int.tmod (IntKind.wrap IntKind.i64 (i12 + 1)) 32)))])) (Q (Out.exit 0 [(2, IV.d (D.sl 1 z1 x2 e3)), (6, IV.ptr 26 0 [IV.own z4 3 1 x5, IV.own z6 23 1 x7]), (9, IV.ptr 26 0 [IV.own z8 3 1 x9, IV.own z10 23 1 x11]), (10, IV.d (D.int IntKind.i64 i12))]))) False) := by kernel_rfl
theorem q22_l0a_0 {C J} (z1 : Bool) (x2 : List D) (e3 : List D) (z4 : Bool) (x5 : List D) (z6 : Bool) (x7 : List D) (z8 : Bool) (x9 : List D) (z10 : Bool) (x11 : List D) (i12 : Int) (v0 : D) (v1 : Int) (h0 : 0 ≤ i12) (h1 : x9[Int.toNat i12]? = some v0) (h2 : x9[Int.toNat i12]? = some (D.int IntKind.i64 v1)) (h3 : v1 ≥ 0) : evP F C J d22 [] [1,1,1,1,1,1,0,0,0] [(2, .d (.sl 1 z1 x2 e3)), (6, .ptr 26 0 [.own z4 3 1 x5, .own z6 23 1 x7]), (9, .ptr 26 0 [.own z8 3 1 x9, .own z10 23 1 x11]), (10, .d (.int .i64 i12))] = some (Out.norm [(2, IV.d (D.sl 1 z1 x2 e3)), (6, IV.ptr 26 0 [IV.own z4 3 1 x5, IV.own z6 23 1 x7]), (9, IV.ptr 26 0 [IV.own z8 3 1 x9, IV.own z10 23 1 x11]), (10, IV.d (D.int IntKind.i64 (Int.tmod (IntKind.wrap IntKind.i64 (i12 + 1)) 32)))]) := wpQ_way (q22_l0a C J z1 x2 e3 z4 x5 z6 x7 z8 x9 z10 x11 i12 _) (condW_t (decide_eq_true h0) (Exists.intro v0 (And.intro h1 (Exists.intro v1 (And.intro h2 (condW_t (decide_eq_true h3) (rfl)))))))
theorem q22_l0a_1 {C J} (z1 : Bool) (x2 : List D) (e3 : List D) (z4 : Bool) (x5 : List D) (z6 : Bool) (x7 : List D) (z8 : Bool) (x9 : List D) (z10 : Bool) (x11 : List D) (i12 : Int) (v0 : D) (v1 : Int) (h0 : 0 ≤ i12) (h1 : x9[Int.toNat i12]? = some v0) (h2 : x9[Int.toNat i12]? = some (D.int IntKind.i64 v1)) (h3 : ¬v1 ≥ 0) : evP F C J d22 [] [1,1,1,1,1,1,0,0,0] [(2, .d (.sl 1 z1 x2 e3)), (6, .ptr 26 0 [.own z4 3 1 x5, .own z6 23 1 x7]), (9, .ptr 26 0 [.own z8 3 1 x9, .own z10 23 1 x11]), (10, .d (.int .i64 i12))] = some (Out.exit 0 [(2, IV.d (D.sl 1 z1 x2 e3)), (6, IV.ptr 26 0 [IV.own z4 3 1 x5, IV.own z6 23 1 x7]), (9, IV.ptr 26 0 [IV.own z8 3 1 x9, IV.own z10 23 1 x11]), (10, IV.d (D.int IntKind.i64 i12))]) := wpQ_way (q22_l0a C J z1 x2 e3 z4 x5 z6 x7 z8 x9 z10 x11 i12 _) (condW_t (decide_eq_true h0) (Exists.intro v0 (And.intro h1 (Exists.intro v1 (And.intro h2 (condW_f (decide_eq_false h3) (rfl)))))))
theorem q24 (C J) (z1 : Bool) (x2 : List D) (e3 : List D) (z4 : Bool) (x5 : List D) (e6 : List D) (z7 : Bool) (x8 : List D) (e9 : List D) (z10 : Bool) (x11 : List D) (e12 : List D) (Q) : fnW F C R (L24) J d24 [.d (.sl 4 z1 x2 e3), .d (.agg [.sl 1 z4 x5 e6, .sl 1 z7 x8 e9]), .d (.sl 1 z10 x11 e12)] Q = (∃ w0 w1 w2, C 15 [IV.d (D.sl 4 z1 x2 e3), IV.d (D.agg [D.sl 1 z4 x5 e6, D.sl 1 z7 x8 e9])] = some (IV.d (D.bool w0), [w1, w2]) ∧ condW w0 (∃ w3 w4 w5, C 32 [IV.d (D.sl 4 z1 x2 e3), IV.d (D.sl 1 z10 x11 e12)] = some (IV.d (D.bool w3), [w4, w5]) ∧ condW w3 (∃ w6 w7 w8 w9 w10, C 44 [IV.d (D.agg [D.sl 1 z4 x5 e6, D.sl 1 z7 x8 e9])] = some (IV.agg [IV.own w6 3 1 w7, IV.own w8 23 1 w9], [w10]) ∧ ∃ w11 w12 w13, C 35 [IV.d (D.agg [D.sl 1 z4 x5 e6, D.sl 1 z7 x8 e9]), IV.d (D.sl 1 z10 x11 e12)] = some (IV.d (D.int IntKind.i64 w11), [w12, w13]) ∧ condW (decide (w11 < 0)) (Q (some (IV.tup [IV.agg [IV.own w6 3 1 w7, IV.own w8 23 1 w9], IV.d (D.bool false), IV.d (D.int IntKind.i64 0)], [IV.d (D.sl 4 z1 x2 e3), IV.d (D.agg [D.sl 1 z4 x5 e6, D.sl 1 z7 x8 e9]), IV.d (D.sl 1 z10 x11 e12)]))) (∃ w14 w15 w16, C 39 [IV.d (D.agg [D.sl 1 z4 x5 e6, D.sl 1 z7 x8 e9]), IV.d (D.int IntKind.i64 (IntKind.wrap IntKind.i64 ((↑(List.length w9) : Int) - 1)))] = some (IV.d (D.int IntKind.i64 w14), [w15, w16]) ∧ ∃ w17 w18 w19, C 39 [IV.d (D.agg [D.sl 1 z4 x5 e6, D.sl 1 z7 x8 e9]), IV.d (D.int IntKind.i64 w11)] = some (IV.d (D.int IntKind.i64 w17), [w18, w19]) ∧ condW (decide (0 ≤ w14)) (∃ w20, w7[Int.toNat w14]? = some w20 ∧ ∃ w21, w7[Int.toNat w14]? = some (D.int IntKind.i64 w21) ∧ condW (decide (0 ≤ w17)) (∃ w22, (List.set w7 (Int.toNat w14) (D.int IntKind.i64 w11))[Int.toNat w17]? = some w22 ∧ ∃ w23, (List.set w7 (Int.toNat w14) (D.int IntKind.i64 w11))[Int.toNat w17]? = some (D.int IntKind.i64 w23) ∧ condW (decide (0 ≤ IntKind.wrap IntKind.i64 ((↑(List.length w9) : Int) - 1))) (∃ w24, w9[Int.toNat (IntKind.wrap IntKind.i64 ((↑(List.length w9) : Int) - 1))]? = some w24 ∧ ∃ w25 w26 w27, w9[Int.toNat (IntKind.wrap IntKind.i64 ((↑(List.length w9) : Int) - 1))]? = some (D.sl 1 w25 w26 w27) ∧ condW (decide (0 ≤ w11)) (∃ w28, w9[Int.toNat w11]? = some w28 ∧ ∃ w29 w30 w31, w9[Int.toNat w11]? = some (D.sl 1 w29 w30 w31) ∧ condW (decide (0 ≤ IntKind.wrap IntKind.i64 ((↑(List.length w9) : Int) - 1))) (condW (decide (IntKind.wrap IntKind.i64 ((↑(List.length w9) : Int) - 1) ≤ (↑(List.length (List.set w9 (Int.toNat w11) (D.sl 1 w25 w26 w27))) : Int))) (Q (some (IV.tup [IV.agg [IV.own w6 3 1 (List.set (List.set w7 (Int.toNat w14) (D.int IntKind.i64 w11)) (Int.toNat w17) (D.int IntKind.i64 (-2))), IV.own w8 23 1 (List.take (Int.toNat (IntKind.wrap IntKind.i64 ((↑(List.length w9) : Int) - 1))) (List.set w9 (Int.toNat w11) (D.sl 1 w25 w26 w27)))], IV.d (D.bool true), IV.d (D.int IntKind.i64 0)], [IV.d (D.sl 4 z1 x2 e3), IV.d (D.agg [D.sl 1 z4 x5 e6, D.sl 1 z7 x8 e9]), IV.d (D.sl 1 z10 x11 e12)]))) False) False) False) False) False) False)) (Q (some (IV.tup [IV.agg [IV.own true 3 1 [], IV.own true 23 1 []], IV.d (D.bool false), IV.d (D.int IntKind.i64 1100)], [IV.d (D.sl 4 z1 x2 e3), IV.d (D.agg [D.sl 1 z4 x5 e6, D.sl 1 z7 x8 e9]), IV.d (D.sl 1 z10 x11 e12)])))) (Q (some (IV.tup [IV.agg [IV.own true 3 1 [], IV.own true 23 1 []], IV.d (D.bool false), IV.d (D.int IntKind.i64 1100)], [IV.d (D.sl 4 z1 x2 e3), IV.d (D.agg [D.sl 1 z4 x5 e6, D.sl 1 z7 x8 e9]), IV.d (D.sl 1 z10 x11 e12)])))) := by kernel_rfl
theorem q24_0 {C J} (z1 : Bool) (x2 : List D) (e3 : List D) (z4 : Bool) (x5 : List D) (e6 : List D) (z7 : Bool) (x8 : List D) (e9 : List D) (z10 : Bool) (x11 : List D) (e12 : List D) (v0 : Bool) (v1 : IV) (v2 : IV) (v3 : Bool) (v4 : IV) (v5 : IV) (v6 : Bool) (v7 : List D) (v8 : Bool) (v9 : List D) (v10 : IV) (v11 : Int) (v12 : IV) (v13 : IV) (h0 : C 15 [IV.d (D.sl 4 z1 x2 e3), IV.d (D.agg [D.sl 1 z4 x5 e6, D.sl 1 z7 x8 e9])] = some (IV.d (D.bool v0), [v1, v2])) (h1 : v0 = true) (h2 : C 32 [IV.d (D.sl 4 z1 x2 e3), IV.d (D.sl 1 z10 x11 e12)] = some (IV.d (D.bool v3), [v4, v5])) (h3 : v3 = true) (h4 : C 44 [IV.d (D.agg [D.sl 1 z4 x5 e6, D.sl 1 z7 x8 e9])] = some (IV.agg [IV.own v6 3 1 v7, IV.own v8 23 1 v9], [v10])) (h5 : C 35 [IV.d (D.agg [D.sl 1 z4 x5 e6, D.sl 1 z7 x8 e9]), IV.d (D.sl 1 z10 x11 e12)] = some (IV.d (D.int IntKind.i64 v11), [v12, v13])) (h6 : v11 < 0) : evFnJ F C J d24 [.d (.sl 4 z1 x2 e3), .d (.agg [.sl 1 z4 x5 e6, .sl 1 z7 x8 e9]), .d (.sl 1 z10 x11 e12)] = some (IV.tup [IV.agg [IV.own v6 3 1 v7, IV.own v8 23 1 v9], IV.d (D.bool false), IV.d (D.int IntKind.i64 0)], [IV.d (D.sl 4 z1 x2 e3), IV.d (D.agg [D.sl 1 z4 x5 e6, D.sl 1 z7 x8 e9]), IV.d (D.sl 1 z10 x11 e12)]) := fnW_way (q24 C J z1 x2 e3 z4 x5 e6 z7 x8 e9 z10 x11 e12 _) (Exists.intro v0 (Exists.intro v1 (Exists.intro v2 (And.intro h0 (condW_t h1 (Exists.intro v3 (Exists.intro v4 (Exists.intro v5 (And.intro h2 (condW_t h3 (Exists.intro v6 (Exists.intro v7 (Exists.intro v8 (Exists.intro v9 (Exists.intro v10 (And.intro h4 (Exists.intro v11 (Exists.intro v12 (Exists.intro v13 (And.intro h5 (condW_t (decide_eq_true h6) (rfl))))))))))))))))))))))
theorem q24_1 {C J} (z1 : Bool) (x2 : List D) (e3 : List D) (z4 : Bool) (x5 : List D) (e6 : List D) (z7 : Bool) (x8 : List D) (e9 : List D) (z10 : Bool) (x11 : List D) (e12 : List D) (v0 : Bool) (v1 : IV) (v2 : IV) (v3 : Bool) (v4 : IV) (v5 : IV) (v6 : Bool) (v7 : List D) (v8 : Bool) (v9 : List D) (v10 : IV) (v11 : Int) (v12 : IV) (v13 : IV) (v14 : Int) (v15 : IV) (v16 : IV) (v17 : Int) (v18 : IV) (v19 : IV) (v20 : D) (v21 : Int) (v22 : D) (v23 : Int) (v24 : D) (v25 : Bool) (v26 : List D) (v27 : List D) (v28 : D) (v29 : Bool) (v30 : List D) (v31 : List D) (h0 : C 15 [IV.d (D.sl 4 z1 x2 e3), IV.d (D.agg [D.sl 1 z4 x5 e6, D.sl 1 z7 x8 e9])] = some (IV.d (D.bool v0), [v1, v2])) (h1 : v0 = true) (h2 : C 32 [IV.d (D.sl 4 z1 x2 e3), IV.d (D.sl 1 z10 x11 e12)] = some (IV.d (D.bool v3), [v4, v5])) (h3 : v3 = true) (h4 : C 44 [IV.d (D.agg [D.sl 1 z4 x5 e6, D.sl 1 z7 x8 e9])] = some (IV.agg [IV.own v6 3 1 v7, IV.own v8 23 1 v9], [v10])) (h5 : C 35 [IV.d (D.agg [D.sl 1 z4 x5 e6, D.sl 1 z7 x8 e9]), IV.d (D.sl 1 z10 x11 e12)] = some (IV.d (D.int IntKind.i64 v11), [v12, v13])) (h6 : ¬v11 < 0) (h7 : C 39 [IV.d (D.agg [D.sl 1 z4 x5 e6, D.sl 1 z7 x8 e9]), IV.d (D.int IntKind.i64 (IntKind.wrap IntKind.i64 ((↑(List.length v9) : Int) - 1)))] = some (IV.d (D.int IntKind.i64 v14), [v15, v16])) (h8 : C 39 [IV.d (D.agg [D.sl 1 z4 x5 e6, D.sl 1 z7 x8 e9]), IV.d (D.int IntKind.i64 v11)] = some (IV.d (D.int IntKind.i64 v17), [v18, v19])) (h9 : 0 ≤ v14) (h10 : v7[Int.toNat v14]? = some v20) (h11 : v7[Int.toNat v14]? = some (D.int IntKind.i64 v21)) (h12 : 0 ≤ v17) (h13 : (List.set v7 (Int.toNat v14) (D.int IntKind.i64 v11))[Int.toNat v17]? = some v22) (h14 : (List.set v7 (Int.toNat v14) (D.int IntKind.i64 v11))[Int.toNat v17]? = some (D.int IntKind.i64 v23)) (h15 : 0 ≤ IntKind.wrap IntKind.i64 ((↑(List.length v9) : Int) - 1)) (h16 : v9[Int.toNat (IntKind.wrap IntKind.i64 ((↑(List.length v9) : Int) - 1))]? = some v24) (h17 : v9[Int.toNat (IntKind.wrap IntKind.i64 ((↑(List.length v9) : Int) - 1))]? = some (D.sl 1 v25 v26 v27)) (h18 : 0 ≤ v11) (h19 : v9[Int.toNat v11]? = some v28) (h20 : v9[Int.toNat v11]? = some (D.sl 1 v29 v30 v31)) (h21 : IntKind.wrap IntKind.i64 ((↑(List.length v9) : Int) - 1) ≤ (↑(List.length (List.set v9 (Int.toNat v11) (D.sl 1 v25 v26 v27))) : Int)) : evFnJ F C J d24 [.d (.sl 4 z1 x2 e3), .d (.agg [.sl 1 z4 x5 e6, .sl 1 z7 x8 e9]), .d (.sl 1 z10 x11 e12)] = some (IV.tup [IV.agg [IV.own v6 3 1 (List.set (List.set v7 (Int.toNat v14) (D.int IntKind.i64 v11)) (Int.toNat v17) (D.int IntKind.i64 (-2))), IV.own v8 23 1 (List.take (Int.toNat (IntKind.wrap IntKind.i64 ((↑(List.length v9) : Int) - 1))) (List.set v9 (Int.toNat v11) (D.sl 1 v25 v26 v27)))], IV.d (D.bool true), IV.d (D.int IntKind.i64 0)], [IV.d (D.sl 4 z1 x2 e3), IV.d (D.agg [D.sl 1 z4 x5 e6, D.sl 1 z7 x8 e9]), IV.d (D.sl 1 z10 x11 e12)]) := fnW_way (q24 C J z1 x2 e3 z4 x5 e6 z7 x8 e9 z10 x11 e12 _) (Exists.intro v0 (Exists.intro v1 (Exists.intro v2 (And.intro h0 (condW_t h1 (Exists.intro v3 (Exists.intro v4 (Exists.intro v5 (And.intro h2 (condW_t h3 (Exists.intro v6 (Exists.intro v7 (Exists.intro v8 (Exists.intro v9 (Exists.intro v10 (And.intro h4 (Exists.intro v11 (Exists.intro v12 (Exists.intro v13 (And.intro h5 (condW_f (decide_eq_false h6) (Exists.intro v14 (Exists.intro v15 (Exists.intro v16 (And.intro h7 (Exists.intro v17 (Exists.intro v18 (Exists.intro v19 (And.intro h8 (condW_t (decide_eq_true h9) (Exists.intro v20 (And.intro h10 (Exists.intro v21 (And.intro h11 (condW_t (decide_eq_true h12) (Exists.intro v22 (And.intro h13 (Exists.intro v23 (And.intro h14 (condW_t (decide_eq_true h15) (Exists.intro v24 (And.intro h16 (Exists.intro v25 (Exists.intro v26 (Exists.intro v27 (And.intro h17 (condW_t (decide_eq_true h18) (Exists.intro v28 (And.intro h19 (Exists.intro v29 (Exists.intro v30 (Exists.intro v31 (And.intro h20 (condW_t (decide_eq_true h15) (condW_t (decide_eq_true h21) (rfl))))))))))))))))))))))))))))))))))))))))))))))))))))))))
theorem q24_2 {C J} (z1 : Bool) (x2 : List D) (e3 : List D) (z4 : Bool) (x5 : List D) (e6 : List D) (z7 : Bool) (x8 : List D) (e9 : List D) (z10 : Bool) (x11 : List D) (e12 : List D) (v0 : Bool) (v1 : IV) (v2 : IV) (v3 : Bool) (v4 : IV) (v5 : IV) (h0 : C 15 [IV.d (D.sl 4 z1 x2 e3), IV.d (D.agg [D.sl 1 z4 x5 e6, D.sl 1 z7 x8 e9])] = some (IV.d (D.bool v0), [v1, v2])) (h1 : v0 = true) (h2 : C 32 [IV.d (D.sl 4 z1 x2 e3), IV.d (D.sl 1 z10 x11 e12)] = some (IV.d (D.bool v3), [v4, v5])) (h3 : v3 = false) : evFnJ F C J d24 [.d (.sl 4 z1 x2 e3), .d (.agg [.sl 1 z4 x5 e6, .sl 1 z7 x8 e9]), .d (.sl 1 z10 x11 e12)] = some (IV.tup [IV.agg [IV.own true 3 1 [], IV.own true 23 1 []], IV.d (D.bool false), IV.d (D.int IntKind.i64 1100)], [IV.d (D.sl 4 z1 x2 e3), IV.d (D.agg [D.sl 1 z4 x5 e6, D.sl 1 z7 x8 e9]), IV.d (D.sl 1 z10 x11 e12)]) := fnW_way (q24 C J z1 x2 e3 z4 x5 e6 z7 x8 e9 z10 x11 e12 _) (Exists.intro v0 (Exists.intro v1 (Exists.intro v2 (And.intro h0 (condW_t h1 (Exists.intro v3 (Exists.intro v4 (Exists.intro v5 (And.intro h2 (condW_f h3 (rfl)))))))))))
theorem q24_3 {C J} (z1 : Bool) (x2 : List D) (e3 : List D) (z4 : Bool) (x5 : List D) (e6 : List D) (z7 : Bool) (x8 : List D) (e9 : List D) (z10 : Bool) (x11 : List D) (e12 : List D) (v0 : Bool) (v1 : IV) (v2 : IV) (h0 : C 15 [IV.d (D.sl 4 z1 x2 e3), IV.d (D.agg [D.sl 1 z4 x5 e6, D.sl 1 z7 x8 e9])] = some (IV.d (D.bool v0), [v1, v2])) (h1 : v0 = false) : evFnJ F C J d24 [.d (.sl 4 z1 x2 e3), .d (.agg [.sl 1 z4 x5 e6, .sl 1 z7 x8 e9]), .d (.sl 1 z10 x11 e12)] = some (IV.tup [IV.agg [IV.own true 3 1 [], IV.own true 23 1 []], IV.d (D.bool false), IV.d (D.int IntKind.i64 1100)], [IV.d (D.sl 4 z1 x2 e3), IV.d (D.agg [D.sl 1 z4 x5 e6, D.sl 1 z7 x8 e9]), IV.d (D.sl 1 z10 x11 e12)]) := fnW_way (q24 C J z1 x2 e3 z4 x5 e6 z7 x8 e9 z10 x11 e12 _) (Exists.intro v0 (Exists.intro v1 (Exists.intro v2 (And.intro h0 (condW_f h1 (rfl))))))
theorem q46 (C J) (z1 : Bool) (x2 : List D) (e3 : List D) (Q) : fnW F C R (L46) J d46 [.d (.sl 1 z1 x2 e3)] Q = (∃ w0 w1 w2 w3, evP F C J d46 [] [1] [(0, IV.d (D.sl 1 z1 x2 e3)), (2, IV.d (D.int IntKind.i64 0))] = some (Out.norm [(0, IV.d (D.sl 1 w0 w1 w2)), (2, IV.d (D.int IntKind.i64 w3))]) ∧ Q (some (IV.tup [], [IV.d (D.sl 1 z1 x2 e3)]))) := by kernel_rfl
theorem q46_0 {C J} (z1 : Bool) (x2 : List D) (e3 : List D) (v0 : Bool) (v1 : List D) (v2 : List D) (v3 : Int) (h0 : evP F C J d46 [] [1] [(0, IV.d (D.sl 1 z1 x2 e3)), (2, IV.d (D.int IntKind.i64 0))] = some (Out.norm [(0, IV.d (D.sl 1 v0 v1 v2)), (2, IV.d (D.int IntKind.i64 v3))])) : evFnJ F C J d46 [.d (.sl 1 z1 x2 e3)] = some (IV.tup [], [IV.d (D.sl 1 z1 x2 e3)]) := fnW_way (q46 C J z1 x2 e3 _) (Exists.intro v0 (Exists.intro v1 (Exists.intro v2 (Exists.intro v3 (And.intro h0 (rfl))))))
theorem q46_l0a (C J) (z1 : Bool) (x2 : List D) (e3 : List D) (i4 : Int) (Q) : wpQ F C R (L46) J d46 [] [1,0,0] [(0, .d (.sl 1 z1 x2 e3)), (2, .d (.int .i64 i4))] Q = (condW (decide (i4 < (↑(List.length x2) : Int))) (condW (decide (0 ≤ i4)) (∃ w0, x2[Int.toNat i4]? = some (D.int IntKind.i64 w0) ∧ condW (decide (0 ≤ i4)) (∃ w1, x2[Int.toNat i4]? = some (D.int IntKind.i64 w1) ∧ False) False) False) (Q (Out.exit 0 [(0, IV.d (D.sl 1 z1 x2 e3)), (2, IV.d (D.int IntKind.i64 i4))]))) := by kernel_rfl
theorem q46_l0a_0 {C J} (z1 : Bool) (x2 : List D) (e3 : List D) (i4 : Int) (h0 : ¬i4 < (↑(List.length x2) : Int)) : evP F C J d46 [] [1,0,0] [(0, .d (.sl 1 z1 x2 e3)), (2, .d (.int .i64 i4))] = some (Out.exit 0 [(0, IV.d (D.sl 1 z1 x2 e3)), (2, IV.d (D.int IntKind.i64 i4))]) := wpQ_way (q46_l0a C J z1 x2 e3 i4 _) (condW_f (decide_eq_false h0) (rfl))
theorem q47 (C J) (z1 : Bool) (x2 : List D) (e3 : List D) (Q) : fnW F C R (L47) J d47 [.d (.sl 1 z1 x2 e3)] Q = (∃ w0 w1 w2 w3, evP F C J d47 [] [1] [(0, IV.d (D.sl 1 z1 x2 e3)), (2, IV.d (D.int IntKind.i64 0))] = some (Out.norm [(0, IV.d (D.sl 1 w0 w1 w2)), (2, IV.d (D.int IntKind.i64 w3))]) ∧ Q (some (IV.tup [], [IV.d (D.sl 1 z1 x2 e3)]))) := by kernel_rfl
theorem q47_0 {C J} (z1 : Bool) (x2 : List D) (e3 : List D) (v0 : Bool) (v1 : List D) (v2 : List D) (v3 : Int) (h0 : evP F C J d47 [] [1] [(0, IV.d (D.sl 1 z1 x2 e3)), (2, IV.d (D.int IntKind.i64 0))] = some (Out.norm [(0, IV.d (D.sl 1 v0 v1 v2)), (2, IV.d (D.int IntKind.i64 v3))])) : evFnJ F C J d47 [.d (.sl 1 z1 x2 e3)] = some (IV.tup [], [IV.d (D.sl 1 z1 x2 e3)]) := fnW_way (q47 C J z1 x2 e3 _) (Exists.intro v0 (Exists.intro v1 (Exists.intro v2 (Exists.intro v3 (And.intro h0 (rfl))))))
theorem q47_l0a (C J) (z1 : Bool) (x2 : List D) (e3 : List D) (i4 : Int) (Q) : wpQ F C R (L47) J d47 [] [1,0,0] [(0, .d (.sl 1 z1 x2 e3)), (2, .d (.int .i64 i4))] Q = (condW (decide (i4 < (↑(List.length x2) : Int))) (condW (decide (0 ≤ i4)) (∃ w0 w1 w2, x2[Int.toNat i4]? = some (D.sl 1 w0 w1 w2) ∧ ∃ w3, C 46 [IV.d (D.sl 1 w0 w1 w2)] = some (IV.tup [], [w3]) ∧ Q (Out.norm [(0, IV.d (D.sl 1 z1 x2 e3)), (2, IV.d (D.int IntKind.i64 (IntKind.wrap IntKind.i64 (i4 + 1))))])) False) (Q (Out.exit 0 [(0, IV.d (D.sl 1 z1 x2 e3)), (2, IV.d (D.int IntKind.i64 i4))]))) := by kernel_rfl
theorem q47_l0a_0 {C J} (z1 : Bool) (x2 : List D) (e3 : List D) (i4 : Int) (v0 : Bool) (v1 : List D) (v2 : List D) (v3 : IV) (h0 : i4 < (↑(List.length x2) : Int)) (h1 : 0 ≤ i4) (h2 : x2[Int.toNat i4]? = some (D.sl 1 v0 v1 v2)) (h3 : C 46 [IV.d (D.sl 1 v0 v1 v2)] = some (IV.tup [], [v3])) : evP F C J d47 [] [1,0,0] [(0, .d (.sl 1 z1 x2 e3)), (2, .d (.int .i64 i4))] = some (Out.norm [(0, IV.d (D.sl 1 z1 x2 e3)), (2, IV.d (D.int IntKind.i64 (IntKind.wrap IntKind.i64 (i4 + 1))))]) := wpQ_way (q47_l0a C J z1 x2 e3 i4 _) (condW_t (decide_eq_true h0) (condW_t (decide_eq_true h1) (Exists.intro v0 (Exists.intro v1 (Exists.intro v2 (And.intro h2 (Exists.intro v3 (And.intro h3 (rfl)))))))))
theorem q47_l0a_1 {C J} (z1 : Bool) (x2 : List D) (e3 : List D) (i4 : Int) (h0 : ¬i4 < (↑(List.length x2) : Int)) : evP F C J d47 [] [1,0,0] [(0, .d (.sl 1 z1 x2 e3)), (2, .d (.int .i64 i4))] = some (Out.exit 0 [(0, IV.d (D.sl 1 z1 x2 e3)), (2, IV.d (D.int IntKind.i64 i4))]) := wpQ_way (q47_l0a C J z1 x2 e3 i4 _) (condW_f (decide_eq_false h0) (rfl))
theorem q25 (C J) (z1 : Bool) (x2 : List D) (e3 : List D) (z4 : Bool) (x5 : List D) (e6 : List D) (Q) : fnW F C R (L25) J d25 [.d (.agg [.sl 1 z1 x2 e3, .sl 1 z4 x5 e6])] Q = (∃ w0, C 46 [IV.d (D.sl 1 z1 x2 e3)] = some (IV.tup [], [w0]) ∧ ∃ w1, C 47 [IV.d (D.sl 1 z4 x5 e6)] = some (IV.tup [], [w1]) ∧ Q (some (IV.tup [], [IV.d (D.agg [D.sl 1 z1 x2 e3, D.sl 1 z4 x5 e6])]))) := by kernel_rfl
theorem q25_0 {C J} (z1 : Bool) (x2 : List D) (e3 : List D) (z4 : Bool) (x5 : List D) (e6 : List D) (v0 : IV) (v1 : IV) (h0 : C 46 [IV.d (D.sl 1 z1 x2 e3)] = some (IV.tup [], [v0])) (h1 : C 47 [IV.d (D.sl 1 z4 x5 e6)] = some (IV.tup [], [v1])) : evFnJ F C J d25 [.d (.agg [.sl 1 z1 x2 e3, .sl 1 z4 x5 e6])] = some (IV.tup [], [IV.d (D.agg [D.sl 1 z1 x2 e3, D.sl 1 z4 x5 e6])]) := fnW_way (q25 C J z1 x2 e3 z4 x5 e6 _) (Exists.intro v0 (And.intro h0 (Exists.intro v1 (And.intro h1 (rfl)))))
theorem q41 (C J)  (Q) : fnW F C R (L41) J d41 [] Q = (Q (some (IV.own false 68 4 [D.agg [D.str { data := #[61] }, D.int IntKind.i64 0, D.int IntKind.i64 2, D.int IntKind.i64 1], D.agg [D.str { data := #[97] }, D.int IntKind.i64 1, D.int IntKind.i64 0, D.int IntKind.i64 1], D.agg [D.str { data := #[98] }, D.int IntKind.i64 1, D.int IntKind.i64 0, D.int IntKind.i64 2], D.agg [D.str { data := #[102] }, D.int IntKind.i64 1, D.int IntKind.i64 1, D.int IntKind.i64 1], D.agg [D.str { data := #[103] }, D.int IntKind.i64 1, D.int IntKind.i64 2, D.int IntKind.i64 3], D.agg [D.str { data := #[112] }, D.int IntKind.i64 0, D.int IntKind.i64 1, D.int IntKind.i64 1], D.agg [D.str { data := #[114] }, D.int IntKind.i64 0, D.int IntKind.i64 2, D.int IntKind.i64 2]], []))) := by kernel_rfl
theorem q41_0 {C J}  : evFnJ F C J d41 [] = some (IV.own false 68 4 [D.agg [D.str { data := #[61] }, D.int IntKind.i64 0, D.int IntKind.i64 2, D.int IntKind.i64 1], D.agg [D.str { data := #[97] }, D.int IntKind.i64 1, D.int IntKind.i64 0, D.int IntKind.i64 1], D.agg [D.str { data := #[98] }, D.int IntKind.i64 1, D.int IntKind.i64 0, D.int IntKind.i64 2], D.agg [D.str { data := #[102] }, D.int IntKind.i64 1, D.int IntKind.i64 1, D.int IntKind.i64 1], D.agg [D.str { data := #[103] }, D.int IntKind.i64 1, D.int IntKind.i64 2, D.int IntKind.i64 3], D.agg [D.str { data := #[112] }, D.int IntKind.i64 0, D.int IntKind.i64 1, D.int IntKind.i64 1], D.agg [D.str { data := #[114] }, D.int IntKind.i64 0, D.int IntKind.i64 2, D.int IntKind.i64 2]], []) := fnW_way (q41 C J _) (rfl)
end Go.Proofs.YtckhlalpnginjaaDoor.Ab

/- Signatures, rows of terms, atoms: what may be, in plain lists. No program in sight; no condition. -/
set_option linter.unusedVariables false
set_option linter.unusedSimpArgs false
namespace Go.Qu
open Go Go.Ab

abbrev iI (n : Int) : IV := .d (.int .i64 n)
abbrev iB (b : Bool) : IV := .d (.bool b)
abbrev iS (z : Bool) (l : List Int) (e : List D) : IV := .d (.sl 1 z (ints l) e)

structure Sym where
  name : ByteArray
  kind : Int
  ar : Int
  wt : Int
def Sym.d (s : Sym) : D := .agg [.str s.name, .int .i64 s.kind, .int .i64 s.ar, .int .i64 s.wt]
def syms (l : List Sym) : List D := l.map Sym.d
abbrev iG (z : Bool) (l : List Sym) (e : List D) : IV := .d (.sl 4 z (syms l) e)
theorem syms_len (l : List Sym) : (syms l).length = l.length := by simp [syms]
theorem syms_at {l : List Sym} {i : Nat} {s : Sym} (h : l[i]? = some s) : (syms l)[i]? = some (.agg [.str s.name, .int .i64 s.kind, .int .i64 s.ar, .int .i64 s.wt]) := by
  simp [syms, h, Sym.d]
theorem syms_int {l : List Sym} {i : Nat} {s : Sym} (h : l[i]? = some s) : (syms l)[Int.toNat (i : Int)]? = some (.agg [.str s.name, .int .i64 s.kind, .int .i64 s.ar, .int .i64 s.wt]) := by
  rw [Int.toNat_natCast]; exact syms_at h
theorem bytes_len (b : ByteArray) : b.toList.length = b.size := by
  have h : ∀ (k i : Nat) (acc : List UInt8), b.size - i = k → (ByteArray.toList.loop b i acc).length = acc.length + k := by
    intro k
    induction k with
    | zero => intro i acc hk; unfold ByteArray.toList.loop; rw [if_neg (by omega)]; simp
    | succ k ih => intro i acc hk; unfold ByteArray.toList.loop; rw [if_pos (by omega), ih (i + 1) _ (by omega)]; simp; omega
  have := h b.size 0 [] rfl
  unfold ByteArray.toList
  rw [this]; simp
theorem wr1 {i n : Nat} (h : i < n) (hn : n ≤ 9223372036854775807) : IntKind.wrap .i64 ((i : Int) + 1) = ((i + 1 : Nat) : Int) := by
  rw [wr _ (by omega) (by omega)]; omega
theorem at_lt {α : Type} {l : List α} {i : Nat} (h : i < l.length) : ∃ s, l[i]? = some s := ⟨l[i], by simp [h]⟩
theorem lt_at {α : Type} {l : List α} {i : Nat} {s : α} (h : l[i]? = some s) : i < l.length := (List.getElem?_eq_some_iff.1 h).1

def smallB (c : Int) : Bool := decide (97 ≤ c) && decide (c ≤ 122)
def charB (c : Int) : Bool := smallB c || (decide (48 ≤ c) && decide (c ≤ 57))
def nameB (b : ByteArray) : Bool := decide (1 ≤ b.size) && decide (b.size ≤ 8) && smallB (byteAt b 0) && (List.range b.size).all fun i => charB (byteAt b i)
def numsB (s : Sym) : Bool := decide (0 ≤ s.kind) && decide (s.kind ≤ 2) && decide (0 ≤ s.ar) && decide (s.ar ≤ 3) && decide (1 ≤ s.wt) && decide (s.wt ≤ 20)
def symB (s : Sym) : Bool := nameB s.name && numsB s
def isN (n : ByteArray) (s : Sym) : Bool := s.name.toList == n.toList
def findN (l : List Sym) (n : ByteArray) : Int := match l.findIdx? (isN n) with | some i => i | none => -1
def eqSym (s : Sym) : Bool := (s.name.toList == [61]) && (s.kind == 0 && (s.ar == 2 && (s.wt == 1 && true)))
def sigAt (l : List Sym) (i : Nat) : Bool := match l[i]? with | some s => symB s && (findN l s.name == (i : Int)) | none => true
def sigB (l : List Sym) : Bool := decide (1 ≤ l.length) && decide (l.length ≤ 20) && (match l[0]? with | some s => eqSym s | none => false) && (List.range' 1 (l.length - 1)).all (sigAt l)
/-- What may be a signature. -/
structure SigOk (l : List Sym) : Prop where
  lo : 1 ≤ l.length
  hi : l.length ≤ 20
  nums : ∀ (i : Nat) s, l[i]? = some s → 0 ≤ s.kind ∧ s.kind ≤ 2 ∧ 0 ≤ s.ar ∧ s.ar ≤ 3 ∧ 1 ≤ s.wt ∧ s.wt ≤ 20
theorem sigOk {l : List Sym} (h : sigB l = true) : SigOk l := by
  unfold sigB at h
  simp only [Bool.and_eq_true, decide_eq_true_eq] at h
  obtain ⟨⟨⟨h1, h2⟩, h3⟩, h4⟩ := h
  refine ⟨h1, h2, fun i s hs => ?_⟩
  cases i with
  | zero =>
    rw [hs] at h3
    simp only [eqSym, Bool.and_eq_true, beq_iff_eq] at h3
    omega
  | succ i =>
    have hl := lt_at hs
    have h5 := List.all_eq_true.1 h4 (i + 1) (by rw [List.mem_range'_1]; omega)
    unfold sigAt at h5
    rw [hs] at h5
    simp only [symB, numsB, Bool.and_eq_true, decide_eq_true_eq] at h5
    omega
theorem findN_some {l : List Sym} {n : ByteArray} {j : Nat} {s : Sym} (hs : l[j]? = some s) (hq : isN n s = true) (hk : ∀ k, k < j → ∀ t, l[k]? = some t → isN n t = false) : findN l n = (j : Int) := by
  unfold findN
  have : l.findIdx? (isN n) = some j := by
    rw [List.findIdx?_eq_some_iff_getElem]
    have hl := lt_at hs
    refine ⟨hl, ?_, fun k hkj => ?_⟩
    · rw [List.getElem?_eq_getElem hl] at hs; simp at hs; rw [hs]; exact hq
    · have := hk k hkj l[k] (by simp)
      simpa using this
  rw [this]
theorem findN_none {l : List Sym} {n : ByteArray} (hk : ∀ k, k < l.length → ∀ t, l[k]? = some t → isN n t = false) : findN l n = -1 := by
  unfold findN
  have : l.findIdx? (isN n) = none := by
    rw [List.findIdx?_eq_none_iff]
    intro x hx
    obtain ⟨k, hk1, hk2⟩ := List.getElem_of_mem hx
    exact hk k hk1 x (by rw [List.getElem?_eq_getElem hk1, hk2])
  rw [this]

/-! ### Terms -/
/-- How many terms stand behind a code; none: it may not begin a term. -/
def arOf (g : List Sym) (c : Int) : Option Nat :=
  if c < 0 then (if -24 ≤ c then some 0 else none) else match g[c.toNat]? with
    | none => none
    | some s => if s.kind = 0 then none else some s.ar.toNat
/-- How many codes so many terms have. -/
def lenN (g : List Sym) : List Int → Nat → Option Nat
  | _, 0 => some 0
  | [], _ + 1 => none
  | c :: r, n + 1 => match arOf g c with
    | none => none
    | some k => (lenN g r (n + k)).map (· + 1)
theorem lenN_le {g : List Sym} : ∀ {r : List Int} {n k : Nat}, lenN g r n = some k → k ≤ r.length ∧ n ≤ k
  | r, 0, k, h => by cases r <;> (simp [lenN] at h; subst h; simp)
  | [], n + 1, k, h => by simp [lenN] at h
  | c :: r, n + 1, k, h => by
    unfold lenN at h
    split at h
    · cases h
    · rename_i a ha
      obtain ⟨m, hm, rfl⟩ := Option.map_eq_some_iff.1 h
      have := lenN_le hm
      simp; omega
theorem gi_drop {r : List Int} {i : Nat} (h : i < r.length) : r.drop i = gi r i :: r.drop (i + 1) := by
  rw [List.drop_eq_getElem_cons h]; simp [gi, h]
theorem drop_ge {r : List Int} {i : Nat} (h : ¬ i < r.length) : r.drop i = [] := List.drop_of_length_le (by omega)
theorem arOf_le {g : List Sym} (hg : SigOk g) {c : Int} {k : Nat} (h : arOf g c = some k) : k ≤ 3 := by
  unfold arOf at h
  split at h
  · split at h <;> simp at h; omega
  · split at h
    · cases h
    · rename_i s hs
      have := hg.nums _ _ hs
      split at h <;> simp at h; omega
def arV (g : List Sym) (c : Int) : Int := ((arOf g c).getD 0 : Nat)
theorem lenN_end {g : List Sym} {r : List Int} {i n : Nat} (h : ¬ i < r.length) (hn : 1 ≤ n) : lenN g (r.drop i) n = none := by
  rw [drop_ge h]
  obtain ⟨m, rfl⟩ : ∃ m, n = m + 1 := ⟨n - 1, by omega⟩
  rfl
theorem lenN_no {g : List Sym} {r : List Int} {i n : Nat} (h : i < r.length) (hn : 1 ≤ n) (ha : arOf g (gi r i) = none) : lenN g (r.drop i) n = none := by
  rw [gi_drop h]
  obtain ⟨m, rfl⟩ : ∃ m, n = m + 1 := ⟨n - 1, by omega⟩
  simp [lenN, ha]
theorem lenN_go {g : List Sym} {r : List Int} {i n k : Nat} (h : i < r.length) (hn : 1 ≤ n) (ha : arOf g (gi r i) = some k) : lenN g (r.drop i) n = (lenN g (r.drop (i + 1)) (n + k - 1)).map (· + 1) := by
  rw [gi_drop h]
  obtain ⟨m, rfl⟩ : ∃ m, n = m + 1 := ⟨n - 1, by omega⟩
  simp only [lenN, ha]
  rw [show m + 1 + k - 1 = m + k by omega]
/-- The place behind so many terms from a place on. -/
def skV (g : List Sym) (r : List Int) (i n : Nat) : Int := match lenN g (r.drop i) n with | some k => ((i + k : Nat) : Int) | none => 0
def skB (g : List Sym) (r : List Int) (i n : Nat) : Bool := (lenN g (r.drop i) n).isSome
def skR (g : List Sym) (r : List Int) (i n : Nat) : Int := match lenN g (r.drop i) n with | some k => ((i + k : Nat) : Int) | none => -1
/-- The terms of a row; none: it is no row of terms. -/
def parts (g : List Sym) (r : List Int) : Option (List (List Int)) :=
  if hr : r = [] then some [] else match h : lenN g r 1 with
    | none => none
    | some k => (parts g (r.drop k)).map (r.take k :: ·)
termination_by r.length
decreasing_by
  have := lenN_le h
  have : r.length ≠ 0 := fun e => hr (List.length_eq_zero_iff.1 e)
  simp; omega
theorem parts_nil (g : List Sym) : parts g [] = some [] := by rw [parts]; simp
theorem parts_none {g : List Sym} {r : List Int} (hr : r ≠ []) (h : lenN g r 1 = none) : parts g r = none := by
  rw [parts]; rw [dif_neg hr]; split
  · rfl
  · rename_i k hk; rw [h] at hk; cases hk
theorem parts_some {g : List Sym} {r : List Int} {k : Nat} (hr : r ≠ []) (h : lenN g r 1 = some k) : parts g r = (parts g (r.drop k)).map (r.take k :: ·) := by
  rw [parts]; rw [dif_neg hr]; split
  · rename_i hk; rw [h] at hk; cases hk
  · rename_i k' hk; rw [h] at hk; cases hk; rfl
/-- Where the terms begin, from a place on. -/
def begs (at_ : Nat) : List (List Int) → List Int
  | [] => []
  | t :: ts => (at_ : Int) :: begs (at_ + t.length) ts
/-- The terms of a row that may be (P2.1). -/
def rowP (g : List Sym) (r : List Int) : Option (List (List Int)) := if r.length ≤ 48 then parts g r else none
def atomB (g : List Sym) (a : List Int) : Bool :=
  match a with
  | [] => false
  | p :: r => if p < 0 then false else match g[p.toNat]? with
    | none => false
    | some s => s.kind == 0 && sigB g && (match rowP g r with | some ts => (ts.length : Int) == s.ar | none => false)
def rowB (g : List Sym) (r : List Int) : Bool := sigB g && (rowP g r).isSome
def begsM (g : List Sym) (r : List Int) : List Int := if sigB g = true then (match rowP g r with | some ts => begs 0 ts | none => []) else []
theorem begs_len : ∀ (ts : List (List Int)) (i : Nat), (begs i ts).length = ts.length
  | [], i => rfl
  | t :: ts, i => by simp [begs, begs_len ts]
theorem parts_lens {g : List Sym} : ∀ (n : Nat) (r : List Int) {ts : List (List Int)}, r.length ≤ n → parts g r = some ts → ts.length ≤ r.length ∧ ts.flatten = r
  | n, [], ts, hn, h => by rw [parts_nil] at h; cases h; simp
  | 0, c :: r, ts, hn, h => by simp at hn
  | n + 1, c :: r, ts, hn, h => by
    cases hl : lenN g (c :: r) 1 with
    | none => rw [parts_none (by simp) hl] at h; cases h
    | some k =>
      rw [parts_some (by simp) hl] at h
      obtain ⟨us, h1, rfl⟩ := Option.map_eq_some_iff.1 h
      have h2 := lenN_le hl
      have h3 := parts_lens n ((c :: r).drop k) (by simp at hn ⊢; omega) h1
      refine ⟨?_, ?_⟩
      · have := h3.1; simp at this h2 ⊢; omega
      · rw [List.flatten_cons, h3.2, List.take_append_drop]
theorem ints_nil : ints [] = [] := rfl
theorem ints_cons (x : Int) (l : List Int) : ints (x :: l) = .int .i64 x :: ints l := rfl
/-- Numbers that are not too many. -/
def Len (l : List Int) : Prop := l.length * 8 ≤ 140737488351232
theorem Len.lt {l : List Int} (h : Len l) : l.length < 20000000000000 := by unfold Len at h; omega

/-! ### Rows of rows -/
structure Row where
  z : Bool
  l : List Int
  e : List D
def Row.d (r : Row) : D := .sl 1 r.z (ints r.l) r.e
def rws (rs : List Row) : List D := rs.map Row.d
abbrev iR (z : Bool) (rs : List Row) (e : List D) : IV := .d (.sl 1 z (rws rs) e)
theorem rws_len (l : List Row) : (rws l).length = l.length := by simp [rws]
theorem rws_at {l : List Row} {i : Nat} {s : Row} (h : l[i]? = some s) : (rws l)[i]? = some (.sl 1 s.z (ints s.l) s.e) := by
  simp [rws, h, Row.d]
theorem rws_nil : rws [] = [] := rfl
theorem rws_cons (x : Row) (l : List Row) : rws (x :: l) = .sl 1 x.z (ints x.l) x.e :: rws l := rfl
theorem rws_append (l m : List Row) : rws (l ++ m) = rws l ++ rws m := by simp [rws]
theorem gi_at {l : List Int} {i : Nat} (h : i < l.length) : l[i]? = some (gi l i) := by simp [gi, h]
theorem ints_ext {l m : List Int} (h : l.length = m.length) (h2 : ∀ i, i < l.length → gi l i = gi m i) : l = m := by
  refine List.ext_getElem h (fun i h3 h4 => ?_)
  have := h2 i h3
  simpa [gi, h3, h4] using this
def minL : List Int → Int → Int
  | [], m => m
  | x :: l, m => minL l (if x < m then x else m)
theorem minL_ge : ∀ (l : List Int) (m k : Int), k ≤ minL l m ↔ k ≤ m ∧ ∀ x ∈ l, k ≤ x
  | [], m, k => by simp [minL]
  | x :: l, m, k => by
    rw [minL, minL_ge l]
    constructor
    · rintro ⟨h1, h2⟩
      split at h1 <;> exact ⟨by omega, fun y hy => by rcases List.mem_cons.1 hy with rfl | hy; omega; exact h2 y hy⟩
    · rintro ⟨h1, h2⟩
      refine ⟨?_, fun y hy => h2 y (List.mem_cons_of_mem _ hy)⟩
      have := h2 x (by simp)
      split <;> omega
/-- Which variables stand among codes. -/
def varsFrom (l : List Int) : Nat → Nat → List Int
  | 0, _ => []
  | k + 1, v => if l.contains (-1 - (v : Int)) then (v : Int) :: varsFrom l k (v + 1) else varsFrom l k (v + 1)
def varsM (l : List Int) : List Int := varsFrom l 24 0
end Go.Qu

/- Signatures, rows of terms, atoms: what the program's and the reference's functions hand back. For every input; no condition. -/
set_option linter.unusedVariables false
set_option linter.unusedSimpArgs false
set_option maxRecDepth 100000
namespace Go.Proofs.YtckhlalpnginjaaDoor.Ab
open Go Go.Ab Go.Qu Go.Proofs
attribute [local simp] and_assoc
noncomputable abbrev C : Caller := Go.Ab.W F
theorem wfn {f : FuncId} {d : FnD} {args : List IV} {r : IV × List IV} {lk : List Nat} (h : codeOf code f = some d) (hl : lkFrom 0 args = lk) (h2 : evFnJ F (Go.Ab.W F) (JW F d lk) d args = some r) : C f args = some r := W_fn rfl h (by rw [hl]; exact h2)
/-! ### Signatures -/
@[simp] theorem w_small (c : Int) : C 65 [.d (.int .u8 c)] = some (iB (smallB c), [.d (.int .u8 c)]) := by
  refine wfn (lk := []) rfl rfl (fnW_way (q65 _ _ c _) ?_)
  by_cases h1 : 97 ≤ c <;> by_cases h2 : c ≤ 122 <;> simp [h1, h2, smallB]
@[simp] theorem w_called (s : ByteArray) : C 61 [.d (.str s)] = some (iB (nameB s), [.d (.str s)]) := by
  refine wfn (lk := []) rfl rfl (fnW_way (q61 _ _ s _) ?_)
  have hl := fun (h8 : s.size ≤ 8) => blk_all (F := F) (d := d61) (lk := []) (p := [1,1,0,1,0,0]) (p0 := [1,1,0,1]) (by kernel_rfl) (n := s.size) (id := 0) (st := fun i => [(0, .d (.str s)), (18, iI s.size), (19, iI i)]) (q := fun i => charB (byteAt s i)) (rt := [(2, iB false)]) (e := [(0, .d (.str s)), (18, iI s.size), (19, iI s.size)])
    (fun i hi hq => by
      refine wpQ_way (q61_l0a _ _ s _ i _) ?_
      simp only [charB, Bool.or_eq_true, Bool.and_eq_true, decide_eq_true_eq] at hq
      simp [wr1 hi (by omega), hi]
      intro h; simpa [h] using hq)
    (fun i hi hq => by
      refine wpQ_way (q61_l0a _ _ s _ i _) ?_
      simp [charB] at hq
      simp [-getElem?_pos, and_assoc, wr1 hi (by omega), hi, hq.1]
      omega)
    (wpQ_way (q61_l0a _ _ s _ s.size _) (by simp)) 0 (Nat.zero_le _)
  by_cases h0 : s.size = 0
  · have : s.toList = [] := List.length_eq_zero_iff.1 (by rw [bytes_len, h0])
    simp [this, nameB, h0]
  have h1 : ¬ s.toList = [] := fun e => h0 (by rw [← bytes_len, e]; rfl)
  by_cases h8 : s.size ≤ 8
  rotate_left
  · simp [h1, nameB, h8]; omega
  by_cases hs : smallB (byteAt s 0) = true
  rotate_left
  · have hs' : smallB (byteAt s 0) = false := by simpa using hs
    simp [h1, nameB, hs']; omega
  rcases hl h8 with ⟨h2, h3⟩ | ⟨⟨j, h2, h4, h5⟩, h3⟩
  · have h6 : nameB s = true := by
      simp only [nameB, Bool.and_eq_true, decide_eq_true_eq, hs, and_true, List.all_eq_true, List.mem_range]
      exact ⟨⟨by omega, h8⟩, fun j hj => h2 j (Nat.zero_le _) hj⟩
    simp at h3
    simp [h1, hs, h3, h6]
    omega
  · have h6 : nameB s = false := by
      simp only [nameB, Bool.and_eq_false_iff]
      right
      rw [List.all_eq_false]
      exact ⟨j, List.mem_range.2 h4, by simp [h5]⟩
    simp at h3
    simp [h1, hs, h3, h6]
    omega
@[simp] theorem w_symmay (s : Sym) : C 54 [.d (.agg [.str s.name, .int .i64 s.kind, .int .i64 s.ar, .int .i64 s.wt])] = some (iB (symB s), [.d (.agg [.str s.name, .int .i64 s.kind, .int .i64 s.ar, .int .i64 s.wt])]) := by
  refine wfn (lk := []) rfl rfl (fnW_way (q54 _ _ s.name s.kind s.ar s.wt _) ?_)
  cases hn : nameB s.name <;> simp [hn, symB, numsB]
  by_cases h1 : 0 ≤ s.kind <;> by_cases h2 : s.kind ≤ 2 <;> by_cases h3 : 0 ≤ s.ar <;> by_cases h4 : s.ar ≤ 3 <;> by_cases h5 : 1 ≤ s.wt <;> by_cases h6 : s.wt ≤ 20 <;> simp [h1, h2, h3, h4, h5, h6] <;> omega
theorem w_find {g : List Sym} (hg : g.length ≤ 20) (z : Bool) (e : List D) (n : ByteArray) : C 55 [iG z g e, .d (.str n)] = some (iI (findN g n), [iG z g e, .d (.str n)]) := by
  refine wfn (lk := []) rfl rfl (fnW_way (q55 _ _ z (syms g) e n _) ?_)
  have hl := blk_find (F := F) (d := d55) (lk := []) (p := [1,0,1,0,0]) (p0 := [1,0,1]) (by kernel_rfl) (n := g.length) (id := 0) (st := fun i => [(0, iG z g e), (1, .d (.str n)), (7, iI g.length), (8, iI i)]) (q := fun i => match g[i]? with | some s => isN n s | none => false) (rt := fun i => [(4, iI i)]) (e := [(0, iG z g e), (1, .d (.str n)), (7, iI g.length), (8, iI g.length)])
    (fun i hi hq => by
      refine wpQ_way (q55_l0a _ _ z (syms g) e n _ i _) ?_
      obtain ⟨s, hs⟩ := at_lt hi
      simp [hs, isN] at hq
      simp [-getElem?_pos, and_assoc, wr1 hi (by omega), hi, syms_at hs, hq])
    (fun i hi hq => by
      refine wpQ_way (q55_l0a _ _ z (syms g) e n _ i _) ?_
      obtain ⟨s, hs⟩ := at_lt hi
      simp [hs, isN] at hq
      simp [-getElem?_pos, and_assoc, wr1 hi (by omega), hi, syms_at hs, hq])
    (wpQ_way (q55_l0a _ _ z (syms g) e n _ g.length _) (by simp)) 0 (Nat.zero_le _)
  rcases hl with ⟨h2, h3⟩ | ⟨j, h1, h2, h4, h5, h3⟩
  · rw [findN_none (fun k hk t ht => by have := h2 k (Nat.zero_le _) hk; rw [ht] at this; exact this)]
    simp at h3
    simp [syms_len, h3]
  · obtain ⟨s, hs⟩ := at_lt h2
    rw [findN_some hs (by rw [hs] at h4; exact h4) (fun k hk t ht => by have := h5 k (Nat.zero_le _) hk; rw [ht] at this; exact this)]
    simp at h3
    simp [syms_len, h3]
theorem w_may (z : Bool) (g : List Sym) (e : List D) : C 36 [iG z g e] = some (iB (sigB g), [iG z g e]) := by
  refine wfn (lk := []) rfl rfl (fnW_way (q36 _ _ z (syms g) e _) ?_)
  by_cases h1 : 1 ≤ g.length
  rotate_left
  · simp [syms_len, sigB, h1]; omega
  by_cases h20 : g.length ≤ 20
  rotate_left
  · simp [syms_len, sigB, h20]; omega
  obtain ⟨s0, hs0⟩ := at_lt (show 0 < g.length by omega)
  have e1 : ¬ ((g.length : Int) < 1) := by omega
  have e2 : ¬ (20 < (g.length : Int)) := by omega
  have hl := blk_all (F := F) (d := d36) (lk := []) (p := [1,1,0,1,0,0]) (p0 := [1,1,0,1]) (by kernel_rfl) (n := g.length) (id := 0) (st := fun i => [(0, iG z g e), (3, iI i)]) (q := sigAt g) (rt := [(2, iB false)]) (e := [(0, iG z g e), (3, iI g.length)])
    (fun i hi hq => by
      refine wpQ_way (q36_l0a _ _ z (syms g) e i _) ?_
      obtain ⟨s, hs⟩ := at_lt hi
      simp [sigAt, hs] at hq
      simp [-getElem?_pos, and_assoc, wr1 hi (by omega), hi, syms_len, syms_at hs, hq, w_find h20])
    (fun i hi hq => by
      refine wpQ_way (q36_l0a _ _ z (syms g) e i _) ?_
      obtain ⟨s, hs⟩ := at_lt hi
      simp [sigAt, hs] at hq
      cases hm : symB s
      · simp [-getElem?_pos, and_assoc, wr1 hi (by omega), hi, syms_len, syms_at hs, hm]
      · simp [-getElem?_pos, and_assoc, wr1 hi (by omega), hi, syms_len, syms_at hs, hm, w_find h20, hq hm])
    (wpQ_way (q36_l0a _ _ z (syms g) e g.length _) (by simp [syms_len])) 1 h1
  have e0 : "=".toUTF8.toList = [61] := by decide +kernel
  have hq : (s0.name.toList == "=".toUTF8.toList && (s0.kind == 0 && (s0.ar == 2 && (s0.wt == 1 && true)))) = eqSym s0 := by rw [e0]; rfl
  simp only [syms_len, syms_at hs0, condW_d, e1, e2, if_false, gt_iff_lt]
  simp only [Option.some.injEq, D.agg.injEq, List.cons.injEq, D.str.injEq, D.int.injEq, true_and, and_true]
  refine ⟨s0.name, s0.kind, s0.ar, s0.wt, ⟨rfl, rfl, rfl, rfl⟩, ?_⟩
  rw [hq]
  cases h0 : eqSym s0
  · simp [sigB, h1, h20, hs0, h0]
  rcases hl with ⟨h2, h3⟩ | ⟨⟨j, h2, h4, h5⟩, h3⟩
  · have h6 : sigB g = true := by
      simp only [sigB, h1, h20, hs0, h0, Bool.and_eq_true, decide_eq_true_eq, List.all_eq_true, List.mem_range'_1, true_and]
      exact fun j hj => h2 j hj.1 (by omega)
    simp at h3
    simp [h3, h6]
  · have h6 : sigB g = false := by
      simp only [sigB, Bool.and_eq_false_iff]
      right
      rw [List.all_eq_false]
      exact ⟨j, by rw [List.mem_range'_1]; omega, by simp [h5]⟩
    simp at h3
    simp [h3, h6]
/-! ### The reference's -/
@[simp] theorem w_rsmall (c : Int) : C 62 [.d (.int .u8 c)] = some (iB (smallB c), [.d (.int .u8 c)]) := by
  refine wfn (lk := []) rfl rfl (fnW_way (q62 _ _ c _) ?_)
  by_cases h1 : 97 ≤ c <;> by_cases h2 : c ≤ 122 <;> simp [h1, h2, smallB]
@[simp] theorem w_rsymmay (s : Sym) : C 56 [.d (.agg [.str s.name, .int .i64 s.kind, .int .i64 s.ar, .int .i64 s.wt])] = some (iB (symB s), [.d (.agg [.str s.name, .int .i64 s.kind, .int .i64 s.ar, .int .i64 s.wt])]) := by
  refine wfn (lk := []) rfl rfl (fnW_way (q56 _ _ s.name s.kind s.ar s.wt _) ?_)
  have hl := fun (h8 : s.name.size ≤ 8) => blk_all (F := F) (d := d56) (lk := []) (p := [1,1,0,1,0,0]) (p0 := [1,1,0,1]) (by kernel_rfl) (n := s.name.size) (id := 0) (st := fun i => [(1, .dbox 68 0 [.str s.name, .int .i64 s.kind, .int .i64 s.ar, .int .i64 s.wt]), (3, iI i)]) (q := fun i => charB (byteAt s.name i)) (rt := [(2, iB false)]) (e := [(1, .dbox 68 0 [.str s.name, .int .i64 s.kind, .int .i64 s.ar, .int .i64 s.wt]), (3, iI s.name.size)])
    (fun i hi hq => by
      refine wpQ_way (q56_l0a _ _ s.name s.kind s.ar s.wt i _) ?_
      simp only [charB, Bool.or_eq_true, Bool.and_eq_true, decide_eq_true_eq] at hq
      simp [wr1 hi (by omega), hi]
      intro h; simpa [h] using hq)
    (fun i hi hq => by
      refine wpQ_way (q56_l0a _ _ s.name s.kind s.ar s.wt i _) ?_
      simp [charB] at hq
      simp [-getElem?_pos, and_assoc, wr1 hi (by omega), hi, hq.1]
      omega)
    (wpQ_way (q56_l0a _ _ s.name s.kind s.ar s.wt s.name.size _) (by simp)) 0 (Nat.zero_le _)
  by_cases h0 : s.name.size = 0
  · simp [symB, nameB, h0]
  by_cases h8 : s.name.size ≤ 8
  rotate_left
  · simp [symB, nameB, h8]; omega
  by_cases hs : smallB (byteAt s.name 0) = true
  rotate_left
  · have hs' : smallB (byteAt s.name 0) = false := by simpa using hs
    simp [symB, nameB, hs']; omega
  have e1 : ¬ ((s.name.size : Int) < 1) := by omega
  have e2 : ¬ (8 < (s.name.size : Int)) := by omega
  have e3 : 0 < s.name.size := by omega
  rcases hl h8 with ⟨h2, h3⟩ | ⟨⟨j, h2, h4, h5⟩, h3⟩
  · have h6 : nameB s.name = true := by
      simp only [nameB, Bool.and_eq_true, decide_eq_true_eq, hs, and_true, List.all_eq_true, List.mem_range]
      exact ⟨⟨by omega, h8⟩, fun j hj => h2 j (Nat.zero_le _) hj⟩
    simp at h3
    simp [e1, e2, e3, hs, h3, h6, symB, numsB]
    by_cases h1 : 0 ≤ s.kind <;> by_cases h2 : s.kind ≤ 2 <;> by_cases h3 : 0 ≤ s.ar <;> by_cases h4 : s.ar ≤ 3 <;> by_cases h5 : 1 ≤ s.wt <;> by_cases h6 : s.wt ≤ 20 <;> simp [h1, h2, h3, h4, h5, h6] <;> omega
  · have h6 : nameB s.name = false := by
      simp only [nameB, Bool.and_eq_false_iff]
      right
      rw [List.all_eq_false]
      exact ⟨j, List.mem_range.2 h4, by simp [h5]⟩
    simp at h3
    simp [e1, e2, e3, hs, h3, h6, symB]
theorem w_code {g : List Sym} (hg : g.length ≤ 20) (z : Bool) (e : List D) (n : ByteArray) : C 57 [iG z g e, .d (.str n)] = some (iI (findN g n), [iG z g e, .d (.str n)]) := by
  refine wfn (lk := []) rfl rfl (fnW_way (q57 _ _ z (syms g) e n _) ?_)
  have hl := blk_find (F := F) (d := d57) (lk := []) (p := [1,0,1,0,0]) (p0 := [1,0,1]) (by kernel_rfl) (n := g.length) (id := 0) (st := fun i => [(0, iG z g e), (1, .d (.str n)), (5, iI i)]) (q := fun i => match g[i]? with | some s => isN n s | none => false) (rt := fun i => [(4, iI i)]) (e := [(0, iG z g e), (1, .d (.str n)), (5, iI g.length)])
    (fun i hi hq => by
      refine wpQ_way (q57_l0a _ _ z (syms g) e n i _) ?_
      obtain ⟨s, hs⟩ := at_lt hi
      simp [hs, isN] at hq
      simp [-getElem?_pos, and_assoc, wr1 hi (by omega), hi, syms_len, syms_at hs, hq])
    (fun i hi hq => by
      refine wpQ_way (q57_l0a _ _ z (syms g) e n i _) ?_
      obtain ⟨s, hs⟩ := at_lt hi
      simp [hs, isN] at hq
      simp [-getElem?_pos, and_assoc, wr1 hi (by omega), hi, syms_len, syms_at hs, hq])
    (wpQ_way (q57_l0a _ _ z (syms g) e n g.length _) (by simp [syms_len])) 0 (Nat.zero_le _)
  rcases hl with ⟨h2, h3⟩ | ⟨j, h1, h2, h4, h5, h3⟩
  · rw [findN_none (fun k hk t ht => by have := h2 k (Nat.zero_le _) hk; rw [ht] at this; exact this)]
    simp at h3
    simp [syms_len, h3]
  · obtain ⟨s, hs⟩ := at_lt h2
    rw [findN_some hs (by rw [hs] at h4; exact h4) (fun k hk t ht => by have := h5 k (Nat.zero_le _) hk; rw [ht] at this; exact this)]
    simp at h3
    simp [syms_len, h3]
theorem w_rmay (z : Bool) (g : List Sym) (e : List D) : C 38 [iG z g e] = some (iB (sigB g), [iG z g e]) := by
  refine wfn (lk := []) rfl rfl (fnW_way (q38 _ _ z (syms g) e _) ?_)
  by_cases h1 : 1 ≤ g.length
  rotate_left
  · simp [syms_len, sigB, h1]; omega
  by_cases h20 : g.length ≤ 20
  rotate_left
  · simp [syms_len, sigB, h20]; omega
  obtain ⟨s0, hs0⟩ := at_lt (show 0 < g.length by omega)
  have e1 : ¬ ((g.length : Int) < 1) := by omega
  have e2 : ¬ (20 < (g.length : Int)) := by omega
  have hl := blk_all (F := F) (d := d38) (lk := []) (p := [1,1,0,1,0,0]) (p0 := [1,1,0,1]) (by kernel_rfl) (n := g.length) (id := 0) (st := fun i => [(0, iG z g e), (3, iI i)]) (q := sigAt g) (rt := [(2, iB false)]) (e := [(0, iG z g e), (3, iI g.length)])
    (fun i hi hq => by
      refine wpQ_way (q38_l0a _ _ z (syms g) e i _) ?_
      obtain ⟨s, hs⟩ := at_lt hi
      simp [sigAt, hs] at hq
      simp [-getElem?_pos, and_assoc, wr1 hi (by omega), hi, syms_len, syms_at hs, hq, w_code h20])
    (fun i hi hq => by
      refine wpQ_way (q38_l0a _ _ z (syms g) e i _) ?_
      obtain ⟨s, hs⟩ := at_lt hi
      simp [sigAt, hs] at hq
      cases hm : symB s
      · simp [-getElem?_pos, and_assoc, wr1 hi (by omega), hi, syms_len, syms_at hs, hm]
      · simp [-getElem?_pos, and_assoc, wr1 hi (by omega), hi, syms_len, syms_at hs, hm, w_code h20, hq hm])
    (wpQ_way (q38_l0a _ _ z (syms g) e g.length _) (by simp [syms_len])) 1 h1
  have e0 : ByteArray.toList { data := #[61] } = [61] := by decide +kernel
  have hq : (s0.name.toList == ByteArray.toList { data := #[61] } && (s0.kind == 0 && (s0.ar == 2 && (s0.wt == 1 && true)))) = eqSym s0 := by rw [e0]; rfl
  simp only [syms_len, syms_at hs0, condW_d, e1, e2, if_false, gt_iff_lt]
  simp only [Option.some.injEq, D.agg.injEq, List.cons.injEq, D.str.injEq, D.int.injEq, true_and, and_true]
  refine ⟨s0.name, s0.kind, s0.ar, s0.wt, ⟨rfl, rfl, rfl, rfl⟩, ?_⟩
  rw [hq]
  cases h0 : eqSym s0
  · simp [sigB, h1, h20, hs0, h0]
  rcases hl with ⟨h2, h3⟩ | ⟨⟨j, h2, h4, h5⟩, h3⟩
  · have h6 : sigB g = true := by
      simp only [sigB, h1, h20, hs0, h0, Bool.and_eq_true, decide_eq_true_eq, List.all_eq_true, List.mem_range'_1, true_and]
      exact fun j hj => h2 j hj.1 (by omega)
    simp at h3
    simp [h3, h6]
  · have h6 : sigB g = false := by
      simp only [sigB, Bool.and_eq_false_iff]
      right
      rw [List.all_eq_false]
      exact ⟨j, by rw [List.mem_range'_1]; omega, by simp [h5]⟩
    simp at h3
    simp [h3, h6]
end Go.Proofs.YtckhlalpnginjaaDoor.Ab

/- Rows of terms, atoms: what the program's and the reference's functions hand back. For every input; no condition. -/
set_option linter.unusedVariables false
set_option linter.unusedSimpArgs false
set_option maxRecDepth 100000
namespace Go.Proofs.YtckhlalpnginjaaDoor.Ab
open Go Go.Ab Go.Qu Go.Proofs
attribute [local simp] and_assoc
theorem w_number (c : Int) : C 67 [iI c] = some (iI (IntKind.wrap .i64 (-1 - c)), [iI c]) :=
  wfn (lk := []) rfl rfl (fnW_way (q67 _ _ c _) (by simp))
theorem w_number23 : C 67 [iI 23] = some (iI (-24), [iI 23]) := by rw [w_number, wr _ (by omega) (by omega)]; rfl
theorem w_args {g : List Sym} (hg : SigOk g) (z : Bool) (e : List D) (c : Int) : C 66 [iG z g e, iI c] = some (.tup [iI (arV g c), iB (arOf g c).isSome], [iG z g e, iI c]) := by
  refine wfn (lk := []) rfl rfl (fnW_way (q66 _ _ z (syms g) e c _) ?_)
  by_cases h0 : c < 0
  · by_cases h1 : -24 ≤ c
    · simp [h0, h1, arV, arOf, w_number23]
    · simp [h0, h1, arV, arOf, w_number23]; omega
  by_cases h2 : c < g.length
  · obtain ⟨s, hs⟩ := at_lt (l := g) (i := c.toNat) (by omega)
    have hn := hg.nums _ _ hs
    have h3 : 0 ≤ c := by omega
    have h4 : ¬ (g.length : Int) ≤ c := by omega
    by_cases hk : s.kind = 0
    · simp [-getElem?_pos, h0, h2, h3, h4, syms_len, syms_at hs, arV, arOf, hs, hk]
    · simp [-getElem?_pos, h0, h2, h3, h4, syms_len, syms_at hs, arV, arOf, hs, hk]; omega
  · have hs : g[c.toNat]? = none := List.getElem?_eq_none (by omega)
    have h4 : (g.length : Int) ≤ c := by omega
    simp [h0, h4, syms_len, arV, arOf, hs]
theorem l_skip {g : List Sym} (hg : SigOk g) (z z' : Bool) (e e' : List D) {r : List Int} (hr : r.length < 20000000000000) : ∀ x : Nat × Nat, (1 ≤ x.2 ∧ x.2 ≤ 3 * x.1 + 1 ∧ x.1 ≤ r.length) →
    ∃ o, evG (JW F d63 []) d63 [1, 0] 0 [(0, iG z g e), (1, iS z' r e'), (2, iI x.1), (8, iI x.2)] = some o ∧ o = .ret [(6, iI (skV g r x.1 x.2)), (7, iB (skB g r x.1 x.2))] :=
  label_rule (F := F) (d := d63) (lk := []) (p := [1, 0]) (fun _ => 0) (fun (x : Nat × Nat) => [(0, iG z g e), (1, iS z' r e'), (2, iI x.1), (8, iI x.2)]) _ (fun x => r.length - x.1) (fun x o => o = .ret [(6, iI (skV g r x.1 x.2)), (7, iB (skB g r x.1 x.2))]) (fun _ _ => by decide +kernel) (fun x hx => by
    obtain ⟨i, n⟩ := x
    obtain ⟨h1, h2, h3⟩ := hx
    dsimp only at h1 h2 h3 ⊢
    by_cases hi : i < r.length
    · have hi' : ¬ (r.length : Int) ≤ i := by omega
      cases ha : arOf g (gi r i) with
      | none =>
        refine .inr ⟨_, wpR_way (q63_l1000000a _ _ z (syms g) e z' (ints r) e' i n _) ?_, rfl, rfl⟩
        simp [-getElem?_pos, ints_len, hi', Go.Ab.ints_at hi, w_args hg, ha, skV, skB, lenN_no hi h1 ha]
      | some k =>
        have hk := arOf_le hg ha
        have hw1 : IntKind.wrap .i64 ((k : Int) - 1) = (k : Int) - 1 := wr _ (by omega) (by omega)
        have hw2 : IntKind.wrap .i64 ((n : Int) + ((k : Int) - 1)) = ((n + k - 1 : Nat) : Int) := by rw [wr _ (by omega) (by omega)]; omega
        have hw3 := wr1 hi (by omega)
        by_cases hn : 0 < n + k - 1
        · refine .inl ⟨(i + 1, n + k - 1), wpR_way (q63_l1000000a _ _ z (syms g) e z' (ints r) e' i n _) ?_, ⟨by dsimp only; omega, by dsimp only; omega, by dsimp only; omega⟩, by dsimp only; omega, fun o ho => ?_⟩
          · simp [-getElem?_pos, -Int.natCast_add, ints_len, hi', Go.Ab.ints_at hi, w_args hg, ha, arV, hw1, hw2, hw3, hn]
          · rw [ho]
            simp only [skV, skB, lenN_go hi h1 ha]
            cases lenN g (r.drop (i + 1)) (n + k - 1) <;> simp; omega
        · refine .inr ⟨_, wpR_way (q63_l1000000a _ _ z (syms g) e z' (ints r) e' i n _) ?_, rfl, rfl⟩
          have hz : n + k - 1 = 0 := by omega
          have hl : lenN g (r.drop i) n = some 1 := by rw [lenN_go hi h1 ha, hz]; simp [lenN]
          simp [-getElem?_pos, -Int.natCast_add, ints_len, hi', Go.Ab.ints_at hi, w_args hg, ha, arV, hw1, hw2, hw3, hz, skV, skB, hl]
    · have hi' : (r.length : Int) ≤ i := by omega
      refine .inr ⟨_, wpR_way (q63_l1000000a _ _ z (syms g) e z' (ints r) e' i n _) ?_, rfl, rfl⟩
      simp [ints_len, hi', skV, skB, lenN_end hi h1])
theorem w_skip {g : List Sym} (hg : SigOk g) (z z' : Bool) (e e' : List D) {r : List Int} (hr : r.length < 20000000000000) (i : Nat) : C 63 [iG z g e, iS z' r e', iI i] = some (.tup [iI (skV g r i 1), iB (skB g r i 1)], [iG z g e, iS z' r e', iI i]) := by
  refine wfn (lk := []) rfl rfl (fnW_way (q63 _ _ z (syms g) e z' (ints r) e' i _) ?_)
  by_cases hi : i < r.length
  · have hi' : ¬ (r.length : Int) ≤ i := by omega
    cases ha : arOf g (gi r i) with
    | none => simp [-getElem?_pos, ints_len, hi', Go.Ab.ints_at hi, w_args hg, ha, skV, skB, lenN_no hi (Nat.le_refl 1) ha]
    | some k =>
      have hk := arOf_le hg ha
      have hw1 : IntKind.wrap .i64 ((k : Int) - 1) = (k : Int) - 1 := wr _ (by omega) (by omega)
      have hw2 : IntKind.wrap .i64 (1 + ((k : Int) - 1)) = (k : Int) := by rw [wr _ (by omega) (by omega)]; omega
      have hw3 := wr1 hi (by omega)
      by_cases hn : 0 < k
      · obtain ⟨o, h1, rfl⟩ := l_skip hg z z' e e' hr (i + 1, k) ⟨hn, by dsimp only; omega, hi⟩
        have hl := lenN_go hi (Nat.le_refl 1) ha
        rw [show 1 + k - 1 = k by omega] at hl
        have e1 : skV g r i 1 = skV g r (i + 1) k := by
          simp only [skV, hl]
          cases lenN g (r.drop (i + 1)) k <;> simp; omega
        have e2 : skB g r i 1 = skB g r (i + 1) k := by simp [skB, hl]
        simp [-getElem?_pos, -Int.natCast_add, ints_len, hi', Go.Ab.ints_at hi, w_args hg, ha, arV, hw1, hw2, hw3, hn, h1, e1, e2]
      · have hz : k = 0 := by omega
        subst hz
        have hl : lenN g (r.drop i) 1 = some 1 := by rw [lenN_go hi (Nat.le_refl 1) ha]; simp [lenN]
        have hw0 : IntKind.wrap .i64 (-1) = -1 := wr _ (by omega) (by omega)
        have hw4 : IntKind.wrap .i64 0 = 0 := wr _ (by omega) (by omega)
        simp [-getElem?_pos, -Int.natCast_add, ints_len, hi', Go.Ab.ints_at hi, w_args hg, ha, arV, hw0, hw4, hw3, skV, skB, hl]
  · have hi' : (r.length : Int) ≤ i := by omega
    simp [ints_len, hi', skV, skB, lenN_end hi (Nat.le_refl 1)]
theorem l_begins {g : List Sym} (hg : sigB g = true) (z z' : Bool) (e e' : List D) {r : List Int} (hr : r.length ≤ 48) : ∀ x : List Int × Nat, (x.1.length ≤ x.2 ∧ x.2 ≤ r.length ∧ x.1 ≠ []) →
    ∃ o, evG (JW F d58 []) d58 [1, 0] 0 [(0, iG z g e), (1, iS z' r e'), (6, .own false 3 1 (ints x.1)), (7, iI x.2)] = some o ∧
      match parts g (r.drop x.2) with | some ts => o = .ret [(4, .own false 3 1 (ints (x.1 ++ begs x.2 ts))), (5, iB true)] | none => o = .ret [(4, .own true 3 1 []), (5, iB false)] :=
  label_rule (F := F) (d := d58) (lk := []) (p := [1, 0]) (fun _ => 0) (fun (x : List Int × Nat) => [(0, iG z g e), (1, iS z' r e'), (6, .own false 3 1 (ints x.1)), (7, iI x.2)]) _ (fun x => r.length - x.2) (fun x o => match parts g (r.drop x.2) with | some ts => o = .ret [(4, .own false 3 1 (ints (x.1 ++ begs x.2 ts))), (5, iB true)] | none => o = .ret [(4, .own true 3 1 []), (5, iB false)]) (fun _ _ => by decide +kernel) (fun x hx => by
    obtain ⟨acc, i⟩ := x
    obtain ⟨h1, h2, h3⟩ := hx
    dsimp only at h1 h2 h3 ⊢
    by_cases hi : i = r.length
    · refine .inr ⟨.ret [(4, .own false 3 1 (ints acc)), (5, iB true)], wpR_way (q58_l1000000a _ _ z (syms g) e z' (ints r) e' false (ints acc) i _) ?_, rfl, ?_⟩
      · simp [ints_len, hi]
      · rw [List.drop_of_length_le (by omega), parts_nil]; simp [begs]
    · have hne : r.drop i ≠ [] := by simp; omega
      have hsk := w_skip (sigOk hg) z z' e e' (r := r) (by omega) i
      have hi' : ¬ ((i : Int) = r.length) := by omega
      cases hl : lenN g (r.drop i) 1 with
      | none =>
        refine .inr ⟨.ret [(4, .own true 3 1 []), (5, iB false)], wpR_way (q58_l1000000a _ _ z (syms g) e z' (ints r) e' false (ints acc) i _) ?_, rfl, ?_⟩
        · simp [ints_len, hi', hsk, skV, skB, hl]
        · rw [parts_none hne hl]
      | some k =>
        have hle := lenN_le hl
        simp at hle
        refine .inl ⟨(acc ++ [(i : Int)], i + k), wpR_way (q58_l1000000a _ _ z (syms g) e z' (ints r) e' false (ints acc) i _) ?_, ⟨by simp; omega, by dsimp only; omega, by simp⟩, by dsimp only; omega, fun o ho => ?_⟩
        · simp [ints_len, hi', hsk, skV, skB, hl, ints_append, ints_cons, ints_nil]
          omega
        · rw [parts_some hne hl]
          rw [List.drop_drop]
          dsimp only at ho
          cases hp : parts g (r.drop (i + k)) with
          | none => rw [hp] at ho; exact ho
          | some ts =>
            rw [hp] at ho
            simp only [Option.map_some] at ho ⊢
            rw [ho]
            simp [begs, List.length_take]
            rw [show min k (r.length - i) = k by omega])
theorem w_begins (z z' : Bool) (g : List Sym) (e e' : List D) (r : List Int) : C 58 [iG z g e, iS z' r e'] = some (.tup [.own (begsM g r).isEmpty 3 1 (ints (begsM g r)), iB (rowB g r)], [iG z g e, iS z' r e']) := by
  refine wfn (lk := []) rfl rfl (fnW_way (q58 _ _ z (syms g) e z' (ints r) e' _) ?_)
  have hm := w_may z g e
  cases hg : sigB g
  · simp [hm, hg, begsM, rowB, ints_nil]
  by_cases hr : r.length ≤ 48
  rotate_left
  · have e1 : 48 < (r.length : Int) := by omega
    simp [hm, hg, begsM, rowB, ints_nil, rowP, hr, e1, ints_len]
  have e1 : ¬ 48 < (r.length : Int) := by omega
  by_cases h0 : r = []
  · subst h0
    simp [hm, hg, begsM, rowB, ints_nil, rowP, parts_nil, begs]
  have h0' : ¬ r.length = 0 := fun e => h0 (List.length_eq_zero_iff.1 e)
  have h0'' : ¬ ((0 : Int) = r.length) := by omega
  have hsk : C 63 [iG z g e, iS z' r e', iI 0] = some (.tup [iI (skV g r 0 1), iB (skB g r 0 1)], [iG z g e, iS z' r e', iI 0]) := w_skip (sigOk hg) z z' e e' (r := r) (by omega) 0
  cases hl : lenN g r 1 with
  | none =>
    simp [hm, hg, begsM, rowB, ints_nil, rowP, hr, e1, ints_len, h0'', hsk, skV, skB, hl, parts_none h0 hl]
  | some k =>
    have hle := lenN_le hl
    obtain ⟨o, h1, h2⟩ := l_begins hg z z' e e' hr ([0], k) ⟨by simp; omega, hle.1, by simp⟩
    dsimp only at h2
    simp only [ints_cons, ints_nil] at h1
    have hp := parts_some h0 hl
    cases hq : parts g (r.drop k) with
    | none =>
      rw [hq] at h2 hp
      subst h2
      simp [hm, hg, begsM, rowB, ints_nil, rowP, hr, e1, ints_len, h0'', hsk, skV, skB, hl, hp, h1]
    | some ts =>
      rw [hq] at h2 hp
      subst h2
      simp [hm, hg, begsM, rowB, ints_nil, rowP, hr, e1, ints_len, h0'', hsk, skV, skB, hl, hp, h1, begs, Nat.min_eq_left hle.1]
theorem w_isatom (z z' : Bool) (g : List Sym) (e e' : List D) (a : List Int) : C 48 [iG z g e, iS z' a e'] = some (iB (atomB g a), [iG z g e, iS z' a e']) := by
  refine wfn (lk := []) rfl rfl (fnW_way (q48 _ _ z (syms g) e z' (ints a) e' _) ?_)
  cases a with
  | nil => simp [ints_nil, atomB]
  | cons p r =>
    have e0 : ¬ ((r.length : Int) + 1 = 0) := by omega
    by_cases h0 : p < 0
    · have h3 : ¬ 0 ≤ p := by omega
      simp [ints_cons, ints_len, atomB, h0, e0, h3]
    by_cases h2 : p < g.length
    · obtain ⟨s, hs⟩ := at_lt (l := g) (i := p.toNat) (by omega)
      have h3 : 0 ≤ p := by omega
      have h4 : ¬ (g.length : Int) ≤ p := by omega
      have e1 : (1 : Int) ≤ (r.length : Int) + 1 := by omega
      have hb := w_begins z z' g e [] r
      by_cases hk : s.kind = 0
      · cases hg : sigB g
        · simp [-getElem?_pos, List.getElem?_cons_zero, ints_cons, ints_len, atomB, h0, e0, e1, h2, h3, h4, syms_len, syms_at hs, hs, hk, hb, hg, rowB]
        · cases hp : rowP g r with
          | none => simp [-getElem?_pos, List.getElem?_cons_zero, ints_cons, ints_len, atomB, h0, e0, e1, h2, h3, h4, syms_len, syms_at hs, hs, hk, hb, hg, rowB, hp]
          | some ts =>
            by_cases hc : (ts.length : Int) = s.ar
            · simp [-getElem?_pos, List.getElem?_cons_zero, ints_cons, ints_len, atomB, h0, e0, e1, h2, h3, h4, syms_len, syms_at hs, hs, hk, hb, hg, rowB, hp, begsM, begs_len, hc]
            · simp [-getElem?_pos, List.getElem?_cons_zero, ints_cons, ints_len, atomB, h0, e0, e1, h2, h3, h4, syms_len, syms_at hs, hs, hk, hb, hg, rowB, hp, begsM, begs_len, hc]
      · simp [-getElem?_pos, List.getElem?_cons_zero, ints_cons, ints_len, atomB, h0, e0, e1, h2, h3, h4, syms_len, syms_at hs, hs, hk]
    · have hs : g[p.toNat]? = none := List.getElem?_eq_none (by omega)
      have h4 : (g.length : Int) ≤ p := by omega
      simp [ints_cons, ints_len, atomB, h0, h2, e0, h4, syms_len, hs]
end Go.Proofs.YtckhlalpnginjaaDoor.Ab

/- Rows of terms, atoms: what the reference's functions hand back. For every input; no condition. -/
set_option linter.unusedVariables false
set_option linter.unusedSimpArgs false
set_option maxRecDepth 100000
namespace Go.Proofs.YtckhlalpnginjaaDoor.Ab
open Go Go.Ab Go.Qu Go.Proofs
attribute [local simp] and_assoc
theorem l_rend {g : List Sym} (hg : SigOk g) (z z' : Bool) (e e' : List D) {r : List Int} (hr : r.length < 20000000000000) (x : Nat × Nat) (hx : x.1 ≤ r.length ∧ x.2 ≤ 3 * x.1 + 1) :
    evP F (Go.Ab.W F) (JW F d64 []) d64 [] [1,1,0] [(0, iG z g e), (1, iS z' r e'), (7, iI x.2), (8, iI x.1)] = some (match lenN g (r.drop x.1) x.2 with | some k => .norm [(0, iG z g e), (1, iS z' r e'), (7, iI 0), (8, iI (x.1 + k : Nat))] | none => .ret [(6, iI (-1))]) :=
  blk_fun (F := F) (d := d64) (lk := []) (p := [1,1,0,0,0]) (p0 := [1,1,0]) (id := 0) (by kernel_rfl) (st := fun (x : Nat × Nat) => [(0, iG z g e), (1, iS z' r e'), (7, iI x.2), (8, iI x.1)]) (I := fun x => x.1 ≤ r.length ∧ x.2 ≤ 3 * x.1 + 1) (μ := fun x => r.length - x.1)
    (res := fun x => match lenN g (r.drop x.1) x.2 with | some k => .norm [(0, iG z g e), (1, iS z' r e'), (7, iI 0), (8, iI (x.1 + k : Nat))] | none => .ret [(6, iI (-1))])
    (fun x hx => by
      obtain ⟨i, n⟩ := x
      obtain ⟨h1, h2⟩ := hx
      dsimp only at h1 h2
      by_cases hn : n = 0
      · subst hn
        refine .stop (.exit 0 [(0, iG z g e), (1, iS z' r e'), (7, iI 0), (8, iI i)]) (wpQ_way (q64_l0a _ _ z (syms g) e z' (ints r) e' 0 i _) (by simp)) rfl ?_
        dsimp only
        cases r.drop i <;> simp [lenN, blkO]
      have hn1 : 1 ≤ n := by omega
      have hn2 : 0 < n := by omega
      by_cases hi : i < r.length
      rotate_left
      · have hi' : (r.length : Int) ≤ i := by omega
        refine .stop (.ret [(6, iI (-1))]) (wpQ_way (q64_l0a _ _ z (syms g) e z' (ints r) e' n i _) (by simp [hn2, ints_len, hi', hn])) rfl ?_
        dsimp only
        rw [lenN_end hi hn1]; rfl
      have hi' : ¬ (r.length : Int) ≤ i := by omega
      have hw0 : IntKind.wrap .i64 ((n : Int) - 1) = ((n : Int) - 1) := wr _ (by omega) (by omega)
      have hw3 := wr1 hi (by omega)
      have fin : ∀ {k : Nat}, arOf g (gi r i) = some k → (match lenN g (r.drop (i + 1)) (n + k - 1) with | some k => Out.norm [(0, iG z g e), (1, iS z' r e'), (7, iI 0), (8, iI (i + 1 + k : Nat))] | none => .ret [(6, iI (-1))]) = (match lenN g (r.drop i) n with | some k => Out.norm [(0, iG z g e), (1, iS z' r e'), (7, iI 0), (8, iI (i + k : Nat))] | none => .ret [(6, iI (-1))]) := fun {k} ha => by
        rw [lenN_go hi hn1 ha]
        cases lenN g (r.drop (i + 1)) (n + k - 1) <;> simp; omega
      by_cases h0 : gi r i < 0
      · have c1 : ¬ 0 ≤ gi r i := by omega
        have c3 : ¬ (g.length : Int) ≤ gi r i := by omega
        by_cases h3 : -24 ≤ gi r i
        · have c2 : ¬ gi r i < -24 := by omega
          have ha : arOf g (gi r i) = some 0 := by simp [arOf, h0, h3]
          have hcast : (n : Int) - 1 = ((n + 0 - 1 : Nat) : Int) := by omega
          refine .go (i + 1, n + 0 - 1) (wpQ_way (q64_l0a _ _ z (syms g) e z' (ints r) e' n i _) ?_) ⟨by dsimp only; omega, by dsimp only; omega⟩ (by dsimp only; omega) (fin ha)
          simp [-getElem?_pos, -Int.natCast_add, hn2, ints_len, hi', Go.Ab.ints_at hi, c1, c2, c3, hw0, hw3, syms_len]; omega
        · have c2 : gi r i < -24 := by omega
          refine .stop (.ret [(6, iI (-1))]) (wpQ_way (q64_l0a _ _ z (syms g) e z' (ints r) e' n i _) ?_) rfl (by dsimp only; rw [lenN_no hi hn1 (by simp [arOf, h0, h3])]; rfl)
          simp [-getElem?_pos, hn2, ints_len, hi', Go.Ab.ints_at hi, c2, h3]
      have c1 : 0 ≤ gi r i := by omega
      have c2 : ¬ gi r i < -24 := by omega
      by_cases h4 : gi r i < g.length
      · obtain ⟨s, hs⟩ := at_lt (l := g) (i := (gi r i).toNat) (by omega)
        have hnn := hg.nums _ _ hs
        have c3 : ¬ (g.length : Int) ≤ gi r i := by omega
        by_cases hk : s.kind = 0
        · refine .stop (.ret [(6, iI (-1))]) (wpQ_way (q64_l0a _ _ z (syms g) e z' (ints r) e' n i _) ?_) rfl (by dsimp only; rw [lenN_no hi hn1 (by simp [arOf, h0, hs, hk])]; rfl)
          simp [-getElem?_pos, hn2, ints_len, hi', Go.Ab.ints_at hi, c1, c2, c3, syms_len, syms_at hs, hk]
        · have hw1 : IntKind.wrap .i64 ((n : Int) - 1 + s.ar) = ((n + s.ar.toNat - 1 : Nat) : Int) := by rw [wr _ (by omega) (by omega)]; omega
          have ha : arOf g (gi r i) = some s.ar.toNat := by simp [arOf, h0, hs, hk]
          refine .go (i + 1, n + s.ar.toNat - 1) (wpQ_way (q64_l0a _ _ z (syms g) e z' (ints r) e' n i _) ?_) ⟨by dsimp only; omega, by dsimp only; omega⟩ (by dsimp only; omega) (fin ha)
          simp [-getElem?_pos, -Int.natCast_add, hn2, ints_len, hi', Go.Ab.ints_at hi, c1, c2, c3, syms_len, syms_at hs, hk, hw0, hw1, hw3]
          omega
      · have hs : g[(gi r i).toNat]? = none := List.getElem?_eq_none (by omega)
        have c3 : (g.length : Int) ≤ gi r i := by omega
        refine .stop (.ret [(6, iI (-1))]) (wpQ_way (q64_l0a _ _ z (syms g) e z' (ints r) e' n i _) ?_) rfl (by dsimp only; rw [lenN_no hi hn1 (by simp [arOf, h0, hs])]; rfl)
        simp [-getElem?_pos, hn2, ints_len, hi', Go.Ab.ints_at hi, c1, c2, c3, syms_len]) x hx
theorem w_rend {g : List Sym} (hg : SigOk g) (z z' : Bool) (e e' : List D) {r : List Int} (hr : r.length < 20000000000000) (i : Nat) (hi0 : i ≤ r.length) : C 64 [iG z g e, iS z' r e', iI i] = some (iI (skR g r i 1), [iG z g e, iS z' r e', iI i]) := by
  refine wfn (lk := []) rfl rfl (fnW_way (q64 _ _ z (syms g) e z' (ints r) e' i _) ?_)
  have h1 : evP F (Go.Ab.W F) (JW F d64 []) d64 [] [1,1,0] [(0, iG z g e), (1, iS z' r e'), (7, iI 1), (8, iI i)] = _ := l_rend hg z z' e e' hr (i, 1) ⟨hi0, by dsimp only; omega⟩
  cases hl : lenN g (r.drop i) 1 with
  | none => simp only [hl] at h1; simp [h1, skR, hl]
  | some k => simp only [hl] at h1; simp [h1, skR, hl]
/-- How many terms; -1: it is no row of terms. -/
theorem l_rterms {g : List Sym} (hg : SigOk g) (z z' : Bool) (e e' : List D) {r : List Int} (hr : r.length < 20000000000000) (x : Nat × Nat) (hx : x.2 ≤ r.length ∧ x.1 ≤ x.2) :
    evP F (Go.Ab.W F) (JW F d59 []) d59 [] [1,1,1,0] [(0, iG z g e), (1, iS z' r e'), (5, iI x.1), (6, iI x.2)] = some (match parts g (r.drop x.2) with | some ts => .norm [(0, iG z g e), (1, iS z' r e'), (5, iI (x.1 + ts.length : Nat)), (6, iI r.length)] | none => .ret [(4, iI (-1))]) :=
  blk_fun (F := F) (d := d59) (lk := []) (p := [1,1,1,0,0,0]) (p0 := [1,1,1,0]) (id := 0) (by kernel_rfl) (st := fun (x : Nat × Nat) => [(0, iG z g e), (1, iS z' r e'), (5, iI x.1), (6, iI x.2)]) (I := fun x => x.2 ≤ r.length ∧ x.1 ≤ x.2) (μ := fun x => r.length - x.2)
    (res := fun x => match parts g (r.drop x.2) with | some ts => .norm [(0, iG z g e), (1, iS z' r e'), (5, iI (x.1 + ts.length : Nat)), (6, iI r.length)] | none => .ret [(4, iI (-1))])
    (fun x hx => by
      obtain ⟨n, i⟩ := x
      obtain ⟨h1, h2⟩ := hx
      dsimp only at h1 h2
      by_cases hi : i < r.length
      · have hi' : (i : Int) < r.length := by omega
        have hne : r.drop i ≠ [] := by simp; omega
        have he := w_rend hg z z' e e' hr i h1
        have hw : IntKind.wrap .i64 ((n : Int) + 1) = ((n + 1 : Nat) : Int) := by rw [wr _ (by omega) (by omega)]; omega
        cases hl : lenN g (r.drop i) 1 with
        | none =>
          refine .stop (.ret [(4, iI (-1))]) (wpQ_way (q59_l0a _ _ z (syms g) e z' (ints r) e' n i _) ?_) rfl (by dsimp only; rw [parts_none hne hl]; rfl)
          simp [ints_len, hi, he, skR, hl]
        | some k =>
          have hle := lenN_le hl
          simp at hle
          refine .go (n + 1, i + k) (wpQ_way (q59_l0a _ _ z (syms g) e z' (ints r) e' n i _) ?_) ⟨by dsimp only; omega, by dsimp only; omega⟩ (by dsimp only; omega) ?_
          · simp [-Int.natCast_add, ints_len, hi, he, skR, hl, hw]
          · dsimp only
            rw [parts_some hne hl, List.drop_drop]
            cases parts g (r.drop (i + k)) <;> simp; omega
      · have hir : i = r.length := by omega
        refine .stop (.exit 0 [(0, iG z g e), (1, iS z' r e'), (5, iI n), (6, iI i)]) (wpQ_way (q59_l0a _ _ z (syms g) e z' (ints r) e' n i _) ?_) rfl ?_
        · simp [ints_len, hir]
        · dsimp only
          rw [List.drop_of_length_le (by omega), parts_nil]; simp [blkO, hir]) x hx
def termsM (g : List Sym) (r : List Int) : Int := match rowP g r with | some ts => (ts.length : Int) | none => -1
theorem w_rterms {g : List Sym} (hg : SigOk g) (z z' : Bool) (e e' : List D) (r : List Int) : C 59 [iG z g e, iS z' r e'] = some (iI (termsM g r), [iG z g e, iS z' r e']) := by
  refine wfn (lk := []) rfl rfl (fnW_way (q59 _ _ z (syms g) e z' (ints r) e' _) ?_)
  by_cases hr : r.length ≤ 48
  · have e1 : ¬ 48 < (r.length : Int) := by omega
    have h1 : evP F (Go.Ab.W F) (JW F d59 []) d59 [] [1,1,1,0] [(0, iG z g e), (1, iS z' r e'), (5, iI 0), (6, iI 0)] = some (match parts g r with | some ts => .norm [(0, iG z g e), (1, iS z' r e'), (5, iI (0 + ts.length : Nat)), (6, iI r.length)] | none => .ret [(4, iI (-1))]) := l_rterms hg z z' e e' (r := r) (by omega) (0, 0) ⟨Nat.zero_le _, Nat.le_refl _⟩
    cases hp : parts g r with
    | none => simp only [hp] at h1; simp [ints_len, e1, h1, termsM, rowP, hr, hp]
    | some ts => simp only [hp] at h1; simp [ints_len, e1, h1, termsM, rowP, hr, hp]
  · have e1 : 48 < (r.length : Int) := by omega
    simp [ints_len, e1, termsM, rowP, hr]
/-- Of a signature that may be. -/
theorem w_risatom {g : List Sym} (hg : sigB g = true) (z z' : Bool) (e e' : List D) (a : List Int) : C 50 [iG z g e, iS z' a e'] = some (iB (atomB g a), [iG z g e, iS z' a e']) := by
  refine wfn (lk := []) rfl rfl (fnW_way (q50 _ _ z (syms g) e z' (ints a) e' _) ?_)
  cases a with
  | nil => simp [ints_nil, atomB]
  | cons p r =>
    have e0 : (0 : Int) < (r.length : Int) + 1 := by omega
    by_cases h0 : p < 0
    · have h3 : ¬ 0 ≤ p := by omega
      simp [ints_cons, ints_len, atomB, h0, e0, h3]
    have h3 : 0 ≤ p := by omega
    by_cases h2 : p < g.length
    · obtain ⟨s, hs⟩ := at_lt (l := g) (i := p.toNat) (by omega)
      have e1 : (1 : Int) ≤ (r.length : Int) + 1 := by omega
      have hb := w_rterms (sigOk hg) z z' e [] r
      have hn := (sigOk hg).nums _ _ hs
      by_cases hk : s.kind = 0
      · cases hp : rowP g r with
        | none =>
          have hc : ¬ (-1 = s.ar) := by omega
          simp [-getElem?_pos, List.getElem?_cons_zero, ints_cons, ints_len, atomB, h0, e0, e1, h2, h3, syms_len, syms_at hs, hs, hk, hb, hg, termsM, hp, hc]
        | some ts =>
          by_cases hc : (ts.length : Int) = s.ar
          · simp [-getElem?_pos, List.getElem?_cons_zero, ints_cons, ints_len, atomB, h0, e0, e1, h2, h3, syms_len, syms_at hs, hs, hk, hb, hg, termsM, hp, hc]
          · simp [-getElem?_pos, List.getElem?_cons_zero, ints_cons, ints_len, atomB, h0, e0, e1, h2, h3, syms_len, syms_at hs, hs, hk, hb, hg, termsM, hp, hc]
      · simp [-getElem?_pos, List.getElem?_cons_zero, ints_cons, ints_len, atomB, h0, e0, e1, h2, h3, syms_len, syms_at hs, hs, hk]
    · have hs : g[p.toNat]? = none := List.getElem?_eq_none (by omega)
      simp [ints_cons, ints_len, atomB, h0, e0, h2, h3, syms_len, hs]; omega
end Go.Proofs.YtckhlalpnginjaaDoor.Ab

/- Rows of numbers: the same, copied, their least, their variables. For every input; no condition. -/
set_option linter.unusedVariables false
set_option linter.unusedSimpArgs false
set_option maxRecDepth 100000
namespace Go.Proofs.YtckhlalpnginjaaDoor.Ab
open Go Go.Ab Go.Qu Go.Proofs
attribute [local simp] and_assoc
@[simp] theorem w_num (c : Int) : C 16 [iI c] = some (iI c, [iI c]) :=
  wfn (lk := []) rfl rfl (fnW_way (q16 _ _ c _) (by simp))
theorem w_equal {a : List Int} (ha : Len a) (b : List Int) (z z' : Bool) (e e' : List D) : C 52 [iS z a e, iS z' b e'] = some (iB (decide (a = b)), [iS z a e, iS z' b e']) := by
  refine wfn (lk := []) rfl rfl (fnW_way (q52 _ _ z (ints a) e z' (ints b) e' _) ?_)
  have hal := ha.lt
  by_cases hl : a.length = b.length
  rotate_left
  · have e1 : ¬ (a.length : Int) = b.length := by omega
    have e2 : ¬ a = b := fun h => hl (by rw [h])
    simp [ints_len, e1, e2]
  rcases blk_all (F := F) (d := d52) (lk := []) (p := [1,1,0,1,0,0]) (p0 := [1,1,0,1]) (by kernel_rfl) (n := a.length) (id := 0) (st := fun i => [(0, iS z a e), (1, iS z' b e'), (12, iI a.length), (13, iI i)]) (q := fun i => gi a i == gi b i) (rt := [(4, iB false)]) (e := [(0, iS z a e), (1, iS z' b e'), (12, iI a.length), (13, iI a.length)])
    (fun i hi hq => wpQ_way (q52_l0a _ _ z (ints a) e z' (ints b) e' _ i _) (by simp at hq; simp [-getElem?_pos, wr1 hi (by omega), hi, Go.Ab.ints_at hi, Go.Ab.ints_at (hl ▸ hi), hq]))
    (fun i hi hq => wpQ_way (q52_l0a _ _ z (ints a) e z' (ints b) e' _ i _) (by simp at hq; simp [-getElem?_pos, hi, Go.Ab.ints_at hi, Go.Ab.ints_at (hl ▸ hi), hq]))
    (wpQ_way (q52_l0a _ _ z (ints a) e z' (ints b) e' _ a.length _) (by simp)) 0 (Nat.zero_le _) with ⟨h2, h3⟩ | ⟨⟨j, h2, h4, h5⟩, h3⟩
  · have hab : a = b := ints_ext hl (fun i hi => by simpa using h2 i (Nat.zero_le _) hi)
    simp at h3
    simp [-Bool.exists_bool, ints_len, hab]
    rw [hab] at h3
    simp [-Bool.exists_bool, h3]
  · have hab : ¬ a = b := fun h => by rw [h] at h5; simp at h5
    simp at h3
    simp [ints_len, hl, hab]
    rw [hl] at h3
    simp [h3]
theorem w_same {a : List Int} (ha : Len a) (b : List Int) (z z' : Bool) (e e' : List D) : C 53 [iS z a e, iS z' b e'] = some (iB (decide (a = b)), [iS z a e, iS z' b e']) := by
  refine wfn (lk := []) rfl rfl (fnW_way (q53 _ _ z (ints a) e z' (ints b) e' _) ?_)
  have hal := ha.lt
  by_cases hl : a.length = b.length
  rotate_left
  · have e1 : ¬ (a.length : Int) = b.length := by omega
    have e2 : ¬ a = b := fun h => hl (by rw [h])
    simp [ints_len, e1, e2]
  rcases blk_all (F := F) (d := d53) (lk := []) (p := [1,1,0,1,0,0]) (p0 := [1,1,0,1]) (by kernel_rfl) (n := a.length) (id := 0) (st := fun i => [(0, iS z a e), (1, iS z' b e'), (5, iI i)]) (q := fun i => gi a i == gi b i) (rt := [(4, iB false)]) (e := [(0, iS z a e), (1, iS z' b e'), (5, iI a.length)])
    (fun i hi hq => wpQ_way (q53_l0a _ _ z (ints a) e z' (ints b) e' i _) (by simp at hq; simp [-getElem?_pos, ints_len, wr1 hi (by omega), hi, Go.Ab.ints_at hi, Go.Ab.ints_at (hl ▸ hi), hq]))
    (fun i hi hq => wpQ_way (q53_l0a _ _ z (ints a) e z' (ints b) e' i _) (by simp at hq; simp [-getElem?_pos, ints_len, hi, Go.Ab.ints_at hi, Go.Ab.ints_at (hl ▸ hi), hq]))
    (wpQ_way (q53_l0a _ _ z (ints a) e z' (ints b) e' a.length _) (by simp [ints_len])) 0 (Nat.zero_le _) with ⟨h2, h3⟩ | ⟨⟨j, h2, h4, h5⟩, h3⟩
  · have hab : a = b := ints_ext hl (fun i hi => by simpa using h2 i (Nat.zero_le _) hi)
    simp at h3
    simp [-Bool.exists_bool, ints_len, hab]
    rw [hab] at h3
    simp [-Bool.exists_bool, h3]
  · have hab : ¬ a = b := fun h => by rw [h] at h5; simp at h5
    simp at h3
    simp [ints_len, hl, hab]
    simp [h3]
theorem w_sameints {a : List Int} (ha : Len a) (b : List Int) (z z' : Bool) (e e' : List D) : C 40 [iS z a e, iS z' b e'] = some (iB (decide (a = b)), [iS z a e, iS z' b e']) := by
  refine wfn (lk := []) rfl rfl (fnW_way (q40 _ _ z (ints a) e z' (ints b) e' _) ?_)
  have hal := ha.lt
  by_cases hl : a.length = b.length
  rotate_left
  · have e1 : ¬ (a.length : Int) = b.length := by omega
    have e2 : ¬ a = b := fun h => hl (by rw [h])
    simp [ints_len, e1, e2]
  rcases blk_all (F := F) (d := d40) (lk := []) (p := [1,1,0,1,0,0]) (p0 := [1,1,0,1]) (by kernel_rfl) (n := a.length) (id := 0) (st := fun i => [(0, iS z a e), (1, iS z' b e'), (5, iI i)]) (q := fun i => gi a i == gi b i) (rt := [(4, iB false)]) (e := [(0, iS z a e), (1, iS z' b e'), (5, iI a.length)])
    (fun i hi hq => wpQ_way (q40_l0a _ _ z (ints a) e z' (ints b) e' i _) (by simp at hq; simp [-getElem?_pos, ints_len, wr1 hi (by omega), hi, Go.Ab.ints_at hi, Go.Ab.ints_at (hl ▸ hi), hq]))
    (fun i hi hq => wpQ_way (q40_l0a _ _ z (ints a) e z' (ints b) e' i _) (by simp at hq; simp [-getElem?_pos, ints_len, hi, Go.Ab.ints_at hi, Go.Ab.ints_at (hl ▸ hi), hq]))
    (wpQ_way (q40_l0a _ _ z (ints a) e z' (ints b) e' a.length _) (by simp [ints_len])) 0 (Nat.zero_le _) with ⟨h2, h3⟩ | ⟨⟨j, h2, h4, h5⟩, h3⟩
  · have hab : a = b := ints_ext hl (fun i hi => by simpa using h2 i (Nat.zero_le _) hi)
    simp at h3
    simp [-Bool.exists_bool, ints_len, hab]
    rw [hab] at h3
    simp [-Bool.exists_bool, h3]
  · have hab : ¬ a = b := fun h => by rw [h] at h5; simp at h5
    simp at h3
    simp [ints_len, hl, hab]
    simp [h3]
theorem w_copyints {a : List Int} (ha : Len a) (z : Bool) (e : List D) : C 27 [iS z a e] = some (.own false 3 1 (ints a), [iS z a e]) := by
  unfold Len at ha
  refine wfn (lk := []) rfl rfl (fnW_way (q27 _ _ z (ints a) e _) ?_)
  simp [ints_len]
  omega
/-- Rows that are new. -/
def fresh (r : Row) : Row := ⟨false, r.l, []⟩
theorem w_copyrows {rs : List Row} (hn : rs.length * 24 ≤ 140737488351232) (hr : ∀ r ∈ rs, Len r.l) (z : Bool) (e : List D) : C 29 [iR z rs e] = some (.own rs.isEmpty 23 1 (rws (rs.map fresh)), [iR z rs e]) := by
  refine wfn (lk := []) rfl rfl (fnW_way (q29 _ _ z (rws rs) e _) ?_)
  have h1 := blk_fun (F := F) (d := d29) (lk := []) (p := [1,1,0,1,0,0]) (p0 := [1,1,0,1]) (id := 0) (by kernel_rfl) (st := fun (i : Nat) => [(0, iR z rs e), (3, .own (rs.take i).isEmpty 23 1 (rws ((rs.take i).map fresh))), (4, iI i)]) (I := fun i => i ≤ rs.length) (μ := fun i => rs.length - i)
    (res := fun _ => .norm [(0, iR z rs e), (3, .own rs.isEmpty 23 1 (rws (rs.map fresh))), (4, iI rs.length)])
    (fun i hi => by
      by_cases h : i < rs.length
      · obtain ⟨r, hr1⟩ := at_lt h
        have hL := hr r (List.mem_of_getElem? hr1)
        have e1 : rs.take (i + 1) = rs.take i ++ [r] := by rw [List.take_add_one, hr1]; rfl
        refine .go (i + 1) (wpQ_way (q29_l0a _ _ z (rws rs) e _ _ i _) ?_) h (by omega) rfl
        have e2 : min i rs.length = i := by omega
        simp [-getElem?_pos, rws_len, h, rws_at hr1, w_copyints hL, wr1 h (by omega), e1, rws_append, rws_cons, rws_nil, fresh, e2]
        omega
      · have e1 : i = rs.length := by omega
        subst e1
        refine .stop (.exit 0 [(0, iR z rs e), (3, .own rs.isEmpty 23 1 (rws (rs.map fresh))), (4, iI rs.length)]) (wpQ_way (q29_l0a _ _ z (rws rs) e _ _ rs.length _) ?_) rfl rfl
        simp [rws_len]) 0 (Nat.zero_le _)
  simp [rws_nil] at h1
  simp [h1]
theorem w_samerows {a : List Row} (hn : a.length * 24 ≤ 140737488351232) (ha : ∀ r ∈ a, Len r.l) (b : List Row) (z z' : Bool) (e e' : List D) : C 28 [iR z a e, iR z' b e'] = some (iB (decide (a.map (·.l) = b.map (·.l))), [iR z a e, iR z' b e']) := by
  refine wfn (lk := []) rfl rfl (fnW_way (q28 _ _ z (rws a) e z' (rws b) e' _) ?_)
  by_cases hl : a.length = b.length
  rotate_left
  · have e1 : ¬ (a.length : Int) = b.length := by omega
    have e2 : ¬ a.map (·.l) = b.map (·.l) := fun h => hl (by have := congrArg List.length h; simpa using this)
    simp [rws_len, e1, e2]
  rcases blk_all (F := F) (d := d28) (lk := []) (p := [1,1,0,1,0,0]) (p0 := [1,1,0,1]) (by kernel_rfl) (n := a.length) (id := 0) (st := fun i => [(0, iR z a e), (1, iR z' b e'), (5, iI i)]) (q := fun i => (a[i]?.map (·.l)) == (b[i]?.map (·.l))) (rt := [(4, iB false)]) (e := [(0, iR z a e), (1, iR z' b e'), (5, iI a.length)])
    (fun i hi hq => by
      obtain ⟨x, hx⟩ := at_lt hi
      obtain ⟨y, hy⟩ := at_lt (show i < b.length by omega)
      simp [hx, hy] at hq
      exact wpQ_way (q28_l0a _ _ z (rws a) e z' (rws b) e' i _) (by simp [-getElem?_pos, rws_len, wr1 hi (by omega), hi, rws_at hx, rws_at hy, w_sameints (ha x (List.mem_of_getElem? hx)), hq.symm]))
    (fun i hi hq => by
      obtain ⟨x, hx⟩ := at_lt hi
      obtain ⟨y, hy⟩ := at_lt (show i < b.length by omega)
      simp [hx, hy] at hq
      exact wpQ_way (q28_l0a _ _ z (rws a) e z' (rws b) e' i _) (by simp [-getElem?_pos, rws_len, hi, rws_at hx, rws_at hy, w_sameints (ha x (List.mem_of_getElem? hx)), hq]))
    (wpQ_way (q28_l0a _ _ z (rws a) e z' (rws b) e' a.length _) (by simp [rws_len])) 0 (Nat.zero_le _) with ⟨h2, h3⟩ | ⟨⟨j, h2, h4, h5⟩, h3⟩
  · have hab : a.map (·.l) = b.map (·.l) := by
      refine List.ext_getElem? (fun i => ?_)
      by_cases hi : i < a.length
      · have := h2 i (Nat.zero_le _) hi
        simpa using this
      · rw [List.getElem?_eq_none (by simpa using hi), List.getElem?_eq_none (by simp; omega)]
    simp at h3
    simp [rws_len, hl, hab, h3]
  · have hab : ¬ a.map (·.l) = b.map (·.l) := fun h => by
      have := congrArg (·[j]?) h
      simp at this h5
      exact h5 this
    simp at h3
    simp [rws_len, hl, hab, h3]
theorem w_min {a : List Int} (ha : Len a) {m : Int} (z : Bool) (e : List D) : C 49 [iS z (m :: a) e] = some (iI (minL a m), [iS z (m :: a) e]) := by
  have hal := ha.lt
  refine wfn (lk := []) rfl rfl (fnW_way (q49 _ _ z (ints (m :: a)) e _) ?_)
  have h1 := fun x hx => blk_fun (F := F) (d := d49) (lk := []) (p := [1,1,1,0,1,0,0]) (p0 := [1,1,1,0,1]) (id := 0) (by kernel_rfl) (st := fun (x : Int × Nat) => [(0, iS z (m :: a) e), (3, iI x.1), (4, iI (x.2 + 1 : Nat))]) (I := fun x => x.2 ≤ a.length) (μ := fun x => a.length - x.2)
    (res := fun x => .norm [(0, iS z (m :: a) e), (3, iI (minL (a.drop x.2) x.1)), (4, iI (a.length + 1 : Nat))])
    (fun x hx => by
      obtain ⟨k, i⟩ := x
      dsimp only at hx
      by_cases h : i < a.length
      · have h' : ((i + 1 : Nat) : Int) < ((a.length + 1 : Nat) : Int) := by omega
        have hw : IntKind.wrap .i64 (((i + 1 : Nat) : Int) + 1) = ((i + 1 + 1 : Nat) : Int) := by rw [wr _ (by omega) (by omega)]; omega
        refine .go (if gi a i < k then gi a i else k, i + 1) (wpQ_way (q49_l0a _ _ z (ints (m :: a)) e k _ _) ?_) (by dsimp only; omega) (by dsimp only; omega) ?_
        · have h2 : (ints (m :: a))[i + 1]? = some (.int .i64 (gi a i)) := by rw [ints_cons, List.getElem?_cons_succ]; exact Go.Ab.ints_at h
          simp only [ints_len, List.length_cons, condW_d, h', if_true, Int.toNat_natCast, h2, hw]
          simp
          omega
        · dsimp only
          rw [gi_drop h, minL]
      · have e1 : i = a.length := by omega
        subst e1
        refine .stop (.exit 0 [(0, iS z (m :: a) e), (3, iI k), (4, iI (a.length + 1 : Nat))]) (wpQ_way (q49_l0a _ _ z (ints (m :: a)) e k _ _) ?_) rfl ?_
        · simp [ints_len]
        · simp [blkO, minL]) x hx
  have h2 : evP F (Go.Ab.W F) (JW F d49 []) d49 [] [1,1,1,0,1] [(0, iS z (m :: a) e), (3, iI m), (4, iI 1)] = _ := h1 (m, 0) (Nat.zero_le _)
  rw [List.drop_zero] at h2
  have e0 : ¬ ((a.length : Int) + 1 < 1) := by omega
  simp only [ints_len, List.length_cons, condW_d]
  simp [iS, ints_cons] at h2
  simp [-Bool.exists_bool, ints_cons, h2]
  omega
theorem w_in {a : List Int} (ha : Len a) (z : Bool) (e : List D) (v : Nat) (hv : v ≤ 1000000) : C 60 [iS z a e, iI v] = some (iB (a.contains (-1 - (v : Int))), [iS z a e, iI v]) := by
  have hal := ha.lt
  have hw : IntKind.wrap .i64 (-1 - (v : Int)) = -1 - (v : Int) := wr _ (by omega) (by omega)
  refine wfn (lk := []) rfl rfl (fnW_way (q60 _ _ z (ints a) e v _) ?_)
  rcases blk_find (F := F) (d := d60) (lk := []) (p := [1,0,1,0,0]) (p0 := [1,0,1]) (by kernel_rfl) (n := a.length) (id := 0) (st := fun i => [(0, iS z a e), (1, iI v), (5, iI i)]) (q := fun i => gi a i == -1 - (v : Int)) (rt := fun _ => [(4, iB true)]) (e := [(0, iS z a e), (1, iI v), (5, iI a.length)])
    (fun i hi hq => wpQ_way (q60_l0a _ _ z (ints a) e v i _) (by simp at hq; simp [-getElem?_pos, ints_len, wr1 hi (by omega), hi, Go.Ab.ints_at hi, hw, hq]))
    (fun i hi hq => wpQ_way (q60_l0a _ _ z (ints a) e v i _) (by simp at hq; simp [-getElem?_pos, ints_len, hi, Go.Ab.ints_at hi, hw, hq]))
    (wpQ_way (q60_l0a _ _ z (ints a) e v a.length _) (by simp [ints_len])) 0 (Nat.zero_le _) with ⟨h2, h3⟩ | ⟨j, h1, h2, h4, h5, h3⟩
  · have hc : a.contains (-1 - (v : Int)) = false := by
      rw [List.contains_eq_mem, decide_eq_false_iff_not]
      intro hm
      obtain ⟨i, hi, he⟩ := List.getElem_of_mem hm
      have := h2 i (Nat.zero_le _) hi
      simp [gi, hi] at this
      exact this he
    simp at h3
    simp only [hc]
    simp [h3]
  · have hc : a.contains (-1 - (v : Int)) = true := by
      rw [List.contains_eq_mem, decide_eq_true_iff]
      simp [gi, h2] at h4
      rw [← h4]
      exact List.getElem_mem h2
    simp at h3
    simp only [hc]
    simp [h3]
theorem w_varsof {a : List Int} (ha : Len a) (z : Bool) (e : List D) : C 51 [iS z a e] = some (.own (varsM a).isEmpty 3 1 (ints (varsM a)), [iS z a e]) := by
  refine wfn (lk := []) rfl rfl (fnW_way (q51 _ _ z (ints a) e _) ?_)
  have h1 := fun x hx => blk_fun (F := F) (d := d51) (lk := []) (p := [1,1,0,1,0,0]) (p0 := [1,1,0,1]) (id := 0) (by kernel_rfl) (st := fun (x : List Int × Nat) => [(0, iS z a e), (3, .own x.1.isEmpty 3 1 (ints x.1)), (4, iI x.2)]) (I := fun x => x.2 ≤ 24 ∧ x.1.length ≤ x.2) (μ := fun x => 24 - x.2)
    (res := fun x => .norm [(0, iS z a e), (3, .own (x.1 ++ varsFrom a (24 - x.2) x.2).isEmpty 3 1 (ints (x.1 ++ varsFrom a (24 - x.2) x.2))), (4, iI 24)])
    (fun x hx => by
      obtain ⟨acc, i⟩ := x
      obtain ⟨hx1, hx2⟩ := hx
      dsimp only at hx1 hx2
      by_cases h : i ≤ 23
      · have h' : (i : Int) ≤ 23 := by omega
        have hw : IntKind.wrap .i64 ((i : Int) + 1) = ((i + 1 : Nat) : Int) := by rw [wr _ (by omega) (by omega)]; omega
        have hin := w_in ha z e i (by omega)
        have e1 : 24 - i = (24 - (i + 1)) + 1 := by omega
        cases hc : a.contains (-1 - (i : Int)) with
        | true =>
          rw [hc] at hin
          refine .go (acc ++ [(i : Int)], i + 1) (wpQ_way (q51_l0a _ _ z (ints a) e _ _ i _) ?_) ⟨by dsimp only; omega, by simp; omega⟩ (by dsimp only; omega) ?_
          · simp [-Int.natCast_add, ints_len, h', hin, hw, ints_append, ints_cons, ints_nil]
            omega
          · dsimp only
            rw [e1, varsFrom, hc]; simp
        | false =>
          rw [hc] at hin
          refine .go (acc, i + 1) (wpQ_way (q51_l0a _ _ z (ints a) e _ _ i _) ?_) ⟨by dsimp only; omega, by dsimp only; omega⟩ (by dsimp only; omega) ?_
          · simp [-Int.natCast_add, ints_len, h', hin, hw]
          · dsimp only
            rw [e1, varsFrom, hc]; simp
      · have e1 : i = 24 := by omega
        subst e1
        refine .stop (.exit 0 [(0, iS z a e), (3, .own acc.isEmpty 3 1 (ints acc)), (4, iI 24)]) (wpQ_way (q51_l0a _ _ z (ints a) e _ _ _ _) ?_) rfl ?_
        · simp
        · simp [blkO, varsFrom]) x hx
  have h2 : evP F (Go.Ab.W F) (JW F d51 []) d51 [] [1,1,0,1] [(0, iS z a e), (3, .own true 3 1 []), (4, iI 0)] = _ := h1 ([], 0) ⟨Nat.zero_le _, Nat.le_refl _⟩
  simp only [List.nil_append, Nat.sub_zero] at h2
  simp [h2, varsM]
end Go.Proofs.YtckhlalpnginjaaDoor.Ab

/- Tables of facts: what may be one, where a fact stands. Plain lists; no condition. -/
set_option linter.unusedVariables false
set_option linter.unusedSimpArgs false
namespace Go.Qu
open Go Go.Ab

def hashF (h : Int) : List Int → Int
  | [] => h
  | c :: a => hashF ((h * 31 + c + 1) % 1009) a
def hashM (a : List Int) : Int := hashF 7 a
theorem hashF_lt : ∀ (a : List Int) (h : Int), 0 ≤ h → h < 1009 → 0 ≤ hashF h a ∧ hashF h a < 1009
  | [], h, h1, h2 => ⟨h1, h2⟩
  | c :: a, h, h1, h2 => hashF_lt a _ (Int.emod_nonneg _ (by omega)) (Int.emod_lt_of_pos _ (by omega))
theorem hashM_lt (a : List Int) : 0 ≤ hashM a ∧ hashM a < 1009 := hashF_lt a 7 (by omega) (by omega)
/-- Codes that are none of variables, and not great. -/
def Small (a : List Int) : Prop := ∀ c ∈ a, 0 ≤ c ∧ c ≤ 1000000
def factB (g : List Sym) (a : List Int) : Bool := sigB g && (atomB g a && a.all fun c => decide (0 ≤ c))
theorem gi_mem {a : List Int} {i : Nat} (h : i < a.length) : gi a i ∈ a := by
  simp only [gi, List.getD_eq_getElem?_getD, List.getElem?_eq_getElem h, Option.getD_some]; exact List.getElem_mem h
theorem lenN_codes {g : List Sym} : ∀ {r : List Int} {n k : Nat}, lenN g r n = some k → ∀ c ∈ r.take k, (arOf g c).isSome = true
  | r, 0, k, h, c, hc => by cases r <;> (simp [lenN] at h; subst h; simp at hc)
  | [], n + 1, k, h, c, hc => by simp [lenN] at h
  | x :: r, n + 1, k, h, c, hc => by
    unfold lenN at h
    split at h
    · cases h
    · rename_i a ha
      obtain ⟨m, hm, rfl⟩ := Option.map_eq_some_iff.1 h
      rw [List.take_succ_cons] at hc
      rcases List.mem_cons.1 hc with rfl | hc
      · rw [ha]; rfl
      · exact lenN_codes hm c hc
theorem parts_codes {g : List Sym} : ∀ (n : Nat) (r : List Int) {ts : List (List Int)}, r.length ≤ n → parts g r = some ts → ∀ c ∈ r, (arOf g c).isSome = true
  | n, [], ts, hn, h, c, hc => by simp at hc
  | 0, x :: r, ts, hn, h, c, hc => by simp at hn
  | n + 1, x :: r, ts, hn, h, c, hc => by
    cases hl : lenN g (x :: r) 1 with
    | none => rw [parts_none (by simp) hl] at h; cases h
    | some k =>
      rw [parts_some (by simp) hl] at h
      obtain ⟨us, h1, rfl⟩ := Option.map_eq_some_iff.1 h
      have h2 := lenN_le hl
      have hsplit : c ∈ (x :: r).take k ∨ c ∈ (x :: r).drop k := by
        rw [← List.mem_append, List.take_append_drop]; exact hc
      rcases hsplit with hc | hc
      · exact lenN_codes hl c hc
      · exact parts_codes n _ (by simp at hn ⊢; omega) h1 c hc
theorem arOf_lt {g : List Sym} {c : Int} (h : (arOf g c).isSome = true) : -24 ≤ c ∧ c < g.length := by
  unfold arOf at h
  split at h
  · split at h
    · omega
    · cases h
  · split at h
    · cases h
    · rename_i s hs
      have := lt_at hs
      omega
/-- The codes of an atom. -/
theorem atom_codes {g : List Sym} {a : List Int} (h : atomB g a = true) : a.length ≤ 49 ∧ (∀ c ∈ a, -24 ≤ c ∧ c < g.length) ∧ g.length ≤ 20 := by
  cases a with
  | nil => simp [atomB] at h
  | cons p r =>
    simp only [atomB] at h
    split at h
    · cases h
    · rename_i hp
      split at h
      · cases h
      · rename_i s hs
        simp only [Bool.and_eq_true] at h
        obtain ⟨⟨h1, h2⟩, h3⟩ := h
        have hl := lt_at hs
        have hg := sigOk h2
        unfold rowP at h3
        by_cases hr : r.length ≤ 48
        · rw [if_pos hr] at h3
          cases hps : parts g r with
          | none => rw [hps] at h3; cases h3
          | some ts =>
            refine ⟨by simp; omega, fun c hc => ?_, hg.hi⟩
            rcases List.mem_cons.1 hc with rfl | hc
            · omega
            · exact arOf_lt (parts_codes _ r (Nat.le_refl _) hps c hc)
        · rw [if_neg hr] at h3; cases h3
theorem fact_small {g : List Sym} {a : List Int} (h : factB g a = true) : Small a ∧ Len a := by
  simp only [factB, Bool.and_eq_true, List.all_eq_true, decide_eq_true_eq] at h
  obtain ⟨h1, h2, h3⟩ := h
  have h4 := atom_codes h2
  exact ⟨fun c hc => ⟨h3 c hc, by have := (h4.2.1 c hc).2; omega⟩, by unfold Len; omega⟩
theorem varsFrom_nil (a : List Int) : ∀ (k v : Nat), varsFrom a k v = [] ↔ ∀ j, v ≤ j → j < v + k → ¬ (-1 - (j : Int)) ∈ a
  | 0, v => by simp [varsFrom]; intro j; omega
  | k + 1, v => by
    unfold varsFrom
    cases hc : a.contains (-1 - (v : Int)) with
    | true =>
      rw [List.contains_eq_mem, decide_eq_true_iff] at hc
      simp only [if_true]
      constructor
      · intro h; cases h
      · intro h; exact absurd hc (h v (Nat.le_refl _) (by omega))
    | false =>
      rw [List.contains_eq_mem, decide_eq_false_iff_not] at hc
      simp only [Bool.false_eq_true, if_false]
      rw [varsFrom_nil a k (v + 1)]
      constructor
      · intro h j h1 h2
        by_cases hj : j = v
        · subst hj; exact hc
        · exact h j (by omega) (by omega)
      · intro h j h1 h2
        exact h j (by omega) (by omega)
theorem vars_none {g : List Sym} {a : List Int} (h : atomB g a = true) : ((varsM a).length = 0) ↔ a.all (fun c => decide (0 ≤ c)) = true := by
  have h4 := atom_codes h
  rw [List.length_eq_zero_iff, varsM, varsFrom_nil]
  simp only [List.all_eq_true, decide_eq_true_eq]
  constructor
  · intro h5 c hc
    have h6 := h4.2.1 c hc
    by_cases h7 : 0 ≤ c
    · exact h7
    · have := h5 (-1 - c).toNat (Nat.zero_le _) (by omega)
      rw [show (-1 - (((-1 - c).toNat : Nat) : Int)) = c by omega] at this
      exact absurd hc this
  · intro h5 j _ hj hm
    have := h5 _ hm
    omega
/-! ### Where a fact stands -/
def probe (h k : Nat) : Nat := (h + k) % 32
def slotF (sl : List Int) (fs : List (List Int)) (a : List Int) (h : Nat) : Nat → Nat → Int
  | 0, _ => -1
  | n + 1, k => if gi sl (probe h k) = -1 then -1 else if 0 ≤ gi sl (probe h k) ∧ fs[(gi sl (probe h k)).toNat]? = some a then (probe h k : Int) else slotF sl fs a h n (k + 1)
def slotM (sl : List Int) (fs : List (List Int)) (a : List Int) : Int := slotF sl fs a (hashM a).toNat 32 0
/-- Slots that fit so many facts. -/
def slotsF (n : Nat) : List Int → List Bool → Nat → Bool
  | [], _, k => k == n
  | x :: r, seen, k => if x = -1 ∨ x = -2 then slotsF n r seen k else if x < 0 ∨ (n : Int) ≤ x ∨ seen[x.toNat]? = some true then false else slotsF n r (seen.set x.toNat true) (k + 1)
def slotsB (sl : List Int) (n : Nat) : Bool := slotsF n sl (List.replicate n false) 0
def tblB (g : List Sym) (sl : List Int) (fs : List (List Int)) : Bool :=
  sigB g && (decide (sl.length = 32) && (decide (fs.length ≤ 24) && (slotsB sl fs.length && (fs.all (factB g) && (List.range fs.length).all fun i => match fs[i]? with | some a => decide (0 ≤ slotM sl fs a) && (gi sl (slotM sl fs a).toNat == (i : Int)) | none => true))))
/-! ### The reference's words -/
def whereF (a : List Int) : List (List Int) → Nat → Int
  | [], _ => -1
  | b :: fs, i => if b = a then (i : Int) else whereF a fs (i + 1)
def whereM (fs : List (List Int)) (a : List Int) : Int := whereF a fs 0
def lastF (x : Int) : List Int → Nat → Int → Int
  | [], _, at_ => at_
  | y :: sl, i, at_ => lastF x sl (i + 1) (if y = x then (i : Int) else at_)
def lastM (sl : List Int) (x : Int) : Int := lastF x sl 0 (-1)
/-- From a slot on: is none free ahead of another one? -/
def roadF (sl : List Int) (at_ : Nat) : Nat → Nat → Bool
  | 0, _ => true
  | n + 1, i => if i = at_ then true else if gi sl i = -1 then false else roadF sl at_ n ((i + 1) % 32)
def takenF : List Int → Nat → Nat
  | [], k => k
  | x :: sl, k => takenF sl (if 0 ≤ x then k + 1 else k)
def eachB (g : List Sym) (sl : List Int) (fs : List (List Int)) (k : Nat) : Bool := match fs[k]? with
  | some a => factB g a && ((whereM fs a == (k : Int)) && (decide (0 ≤ lastM sl k) && roadF sl (lastM sl k).toNat 32 ((hashM a).toNat % 32)))
  | none => true
def rtblB (g : List Sym) (sl : List Int) (fs : List (List Int)) : Bool :=
  sigB g && (decide (sl.length = 32) && (decide (fs.length ≤ 24) && (sl.all (fun x => decide (-2 ≤ x) && decide (x < fs.length)) && ((takenF sl 0 == fs.length) && (List.range fs.length).all (eachB g sl fs)))))

/-! ### For the walks -/
abbrev iT (zs : Bool) (sl : List Int) (es : List D) (zf : Bool) (fs : List Row) (ef : List D) : IV := .d (.agg [.sl 1 zs (ints sl) es, .sl 1 zf (rws fs) ef])
def fl (fs : List Row) : List (List Int) := fs.map (·.l)
theorem fl_len (fs : List Row) : (fl fs).length = fs.length := by simp [fl]
theorem fl_at {fs : List Row} {i : Nat} {r : Row} (h : fs[i]? = some r) : (fl fs)[i]? = some r.l := by simp [fl, h]
def bls (l : List Bool) : List D := l.map D.bool
theorem bls_len (l : List Bool) : (bls l).length = l.length := by simp [bls]
theorem bls_at {l : List Bool} {i : Nat} {b : Bool} (h : l[i]? = some b) : (bls l)[i]? = some (.bool b) := by simp [bls, h]
theorem bls_set (l : List Bool) (i : Nat) (b : Bool) : (bls l).set i (.bool b) = bls (l.set i b) := by simp [bls, List.map_set]
theorem bls_rep (n : Nat) : List.replicate n (D.bool false) = bls (List.replicate n false) := by simp [bls]
theorem slotF_lt (sl : List Int) (fs : List (List Int)) (a : List Int) (h : Nat) : ∀ n k, slotF sl fs a h n k = -1 ∨ (0 ≤ slotF sl fs a h n k ∧ slotF sl fs a h n k < 32)
  | 0, k => .inl rfl
  | n + 1, k => by
    unfold slotF
    split
    · exact .inl rfl
    · split
      · right; unfold probe; omega
      · exact slotF_lt sl fs a h n (k + 1)
theorem slotM_lt (sl : List Int) (fs : List (List Int)) (a : List Int) : slotM sl fs a = -1 ∨ (0 ≤ slotM sl fs a ∧ slotM sl fs a < 32) := slotF_lt sl fs a _ 32 0
theorem slotsF_lt {n : Nat} : ∀ {sl : List Int} {seen : List Bool} {k : Nat}, slotsF n sl seen k = true → ∀ x ∈ sl, -2 ≤ x ∧ x < n
  | [], seen, k, h, x, hx => by simp at hx
  | y :: sl, seen, k, h, x, hx => by
    unfold slotsF at h
    split at h
    · rcases List.mem_cons.1 hx with rfl | hx
      · omega
      · exact slotsF_lt h x hx
    · split at h
      · cases h
      · rcases List.mem_cons.1 hx with rfl | hx
        · omega
        · exact slotsF_lt h x hx
theorem lastF_lt (x : Int) : ∀ (sl : List Int) (i : Nat) (at_ : Int), lastF x sl i at_ = at_ ∨ ((i : Int) ≤ lastF x sl i at_ ∧ lastF x sl i at_ < i + sl.length)
  | [], i, at_ => .inl rfl
  | y :: sl, i, at_ => by
    unfold lastF
    rcases lastF_lt x sl (i + 1) (if y = x then (i : Int) else at_) with h | h
    · rw [h]
      split
      · right; simp; omega
      · exact .inl rfl
    · right; simp; omega
theorem lastM_lt (sl : List Int) (x : Int) : lastM sl x = -1 ∨ (0 ≤ lastM sl x ∧ lastM sl x < sl.length) := by
  have := lastF_lt x sl 0 (-1)
  unfold lastM
  rcases this with h | h
  · exact .inl h
  · right; simpa using h
theorem roadF_more (sl : List Int) {at_ : Nat} (ha : at_ < 32) : ∀ (n i : Nat), i < 32 → (at_ + 32 - i) % 32 < n → roadF sl at_ n i = roadF sl at_ (n + 1) i
  | 0, i, hi, h => by omega
  | n + 1, i, hi, h => by
    by_cases he : i = at_
    · simp [roadF, he]
    · by_cases hf : gi sl i = -1
      · simp [roadF, he, hf]
      · have := roadF_more sl ha n ((i + 1) % 32) (Nat.mod_lt _ (by omega)) (by omega)
        rw [roadF, if_neg he, if_neg hf, this]
        conv => rhs; rw [roadF, if_neg he, if_neg hf]
theorem roadF_go (sl : List Int) {at_ i : Nat} (ha : at_ < 32) (hi : i < 32) (he : i ≠ at_) (hf : gi sl i ≠ -1) : roadF sl at_ 32 ((i + 1) % 32) = roadF sl at_ 32 i := by
  rw [← roadF_more sl ha 31 ((i + 1) % 32) (Nat.mod_lt _ (by omega)) (by omega)]
  conv => rhs; rw [roadF, if_neg he, if_neg hf]
end Go.Qu

/- Tables of facts: what the program's functions hand back. For every input; no condition. -/
set_option linter.unusedVariables false
set_option linter.unusedSimpArgs false
set_option maxRecDepth 100000
namespace Go.Proofs.YtckhlalpnginjaaDoor.Ab
open Go Go.Ab Go.Qu Go.Proofs
attribute [local simp] and_assoc
theorem hash_turn {h c : Int} (h1 : 0 ≤ h) (h2 : h < 1009) (h3 : 0 ≤ c) (h4 : c ≤ 1000000) : Int.tmod (IntKind.wrap .i64 (IntKind.wrap .i64 (IntKind.wrap .i64 (h * 31) + c) + 1)) 1009 = (h * 31 + c + 1) % 1009 := by
  rw [wr (h * 31) (by omega) (by omega), wr (h * 31 + c) (by omega) (by omega), wr (h * 31 + c + 1) (by omega) (by omega), Int.tmod_eq_emod_of_nonneg (by omega)]
theorem w_hash {a : List Int} (ha : Len a) (hs : Small a) (z : Bool) (e : List D) : C 31 [iS z a e] = some (iI (hashM a), [iS z a e]) := by
  have hal := ha.lt
  refine wfn (lk := []) rfl rfl (fnW_way (q31 _ _ z (ints a) e _) ?_)
  have h1 := fun x hx => blk_fun (F := F) (d := d31) (lk := []) (p := [1,1,0,1,0,0]) (p0 := [1,1,0,1]) (id := 0) (by kernel_rfl) (st := fun (x : Int × Nat) => [(3, iI x.1), (6, iS z a e), (7, iI a.length), (8, iI x.2)]) (I := fun x => 0 ≤ x.1 ∧ x.1 < 1009 ∧ x.2 ≤ a.length) (μ := fun x => a.length - x.2)
    (res := fun x => .norm [(3, iI (hashF x.1 (a.drop x.2))), (6, iS z a e), (7, iI a.length), (8, iI a.length)])
    (fun x hx => by
      obtain ⟨h, i⟩ := x
      obtain ⟨hx1, hx2, hx3⟩ := hx
      dsimp only at hx1 hx2 hx3
      by_cases hi : i < a.length
      · have hc := hs _ (gi_mem hi)
        refine .go ((h * 31 + gi a i + 1) % 1009, i + 1) (wpQ_way (q31_l0a _ _ h z (ints a) e _ i _) ?_) ⟨by dsimp only; omega, by dsimp only; omega, hi⟩ (by dsimp only; omega) ?_
        · simp [-getElem?_pos, hi, Go.Ab.ints_at hi, hash_turn hx1 hx2 hc.1 hc.2, wr1 hi (by omega)]
        · dsimp only
          rw [gi_drop hi, hashF]
      · have e1 : i = a.length := by omega
        subst e1
        refine .stop (.exit 0 [(3, iI h), (6, iS z a e), (7, iI a.length), (8, iI a.length)]) (wpQ_way (q31_l0a _ _ h z (ints a) e _ _ _) (by simp)) rfl ?_
        simp [blkO, hashF]) x hx
  have h2 : evP F (Go.Ab.W F) (JW F d31 []) d31 [] [1,1,0,1] [(3, iI 7), (6, iS z a e), (7, iI a.length), (8, iI 0)] = _ := h1 (7, 0) ⟨by decide, by decide, Nat.zero_le _⟩
  rw [List.drop_zero] at h2
  simp [-Bool.exists_bool, ints_len, h2, hashM]
theorem w_rsum {a : List Int} (ha : Len a) (hs : Small a) (z : Bool) (e : List D) : C 33 [iS z a e] = some (iI (hashM a), [iS z a e]) := by
  have hal := ha.lt
  refine wfn (lk := []) rfl rfl (fnW_way (q33 _ _ z (ints a) e _) ?_)
  have h1 := fun x hx => blk_fun (F := F) (d := d33) (lk := []) (p := [1,1,0,1,0,0]) (p0 := [1,1,0,1]) (id := 0) (by kernel_rfl) (st := fun (x : Int × Nat) => [(0, iS z a e), (3, iI x.1), (4, iI x.2)]) (I := fun x => 0 ≤ x.1 ∧ x.1 < 1009 ∧ x.2 ≤ a.length) (μ := fun x => a.length - x.2)
    (res := fun x => .norm [(0, iS z a e), (3, iI (hashF x.1 (a.drop x.2))), (4, iI a.length)])
    (fun x hx => by
      obtain ⟨h, i⟩ := x
      obtain ⟨hx1, hx2, hx3⟩ := hx
      dsimp only at hx1 hx2 hx3
      by_cases hi : i < a.length
      · have hc := hs _ (gi_mem hi)
        refine .go ((h * 31 + gi a i + 1) % 1009, i + 1) (wpQ_way (q33_l0a _ _ z (ints a) e h i _) ?_) ⟨by dsimp only; omega, by dsimp only; omega, hi⟩ (by dsimp only; omega) ?_
        · simp [-getElem?_pos, ints_len, hi, Go.Ab.ints_at hi, hash_turn hx1 hx2 hc.1 hc.2, wr1 hi (by omega)]
        · dsimp only
          rw [gi_drop hi, hashF]
      · have e1 : i = a.length := by omega
        subst e1
        refine .stop (.exit 0 [(0, iS z a e), (3, iI h), (4, iI a.length)]) (wpQ_way (q33_l0a _ _ z (ints a) e h _ _) (by simp [ints_len])) rfl ?_
        simp [blkO, hashF]) x hx
  have h2 : evP F (Go.Ab.W F) (JW F d33 []) d33 [] [1,1,0,1] [(0, iS z a e), (3, iI 7), (4, iI 0)] = _ := h1 (7, 0) ⟨by decide, by decide, Nat.zero_le _⟩
  rw [List.drop_zero] at h2
  simp [-Bool.exists_bool, h2, hashM]
theorem w_factmay (z z' : Bool) (g : List Sym) (e e' : List D) (a : List Int) : C 30 [iG z g e, iS z' a e'] = some (iB (factB g a), [iG z g e, iS z' a e']) := by
  refine wfn (lk := []) rfl rfl (fnW_way (q30 _ _ z (syms g) e z' (ints a) e' _) ?_)
  have h1 := w_may z g e
  have h2 := w_isatom z z' g e e' a
  cases hg : sigB g
  · simp [h1, hg, factB]
  cases hb : atomB g a
  · simp [h1, h2, hg, hb, factB]
  cases a with
  | nil => simp [atomB] at hb
  | cons p r =>
    have hl := (atom_codes hb).1
    have h3 := w_min (a := r) (by unfold Len; simp at hl; omega) (m := p) z' e'
    have h4 : (decide (0 ≤ minL r p)) = ((p :: r).all fun c => decide (0 ≤ c)) := by
      rw [Bool.eq_iff_iff, decide_eq_true_iff, minL_ge]
      simp
    simp only [h1, h2, hg, hb, condW_tt, Option.some.injEq, Prod.mk.injEq, IV.d.injEq, D.bool.injEq, List.cons.injEq, and_true, exists_eq_left', exists_eq', h3, D.int.injEq, true_and, condW_d, factB, Bool.true_and, ← h4]
    refine ⟨true, _, ⟨rfl, rfl⟩, true, _, _, ⟨rfl, rfl, rfl⟩, _, _, ⟨rfl, rfl⟩, ?_⟩
    by_cases h5 : 0 ≤ minL r p <;> simp [h5]
theorem w_isfact (z z' : Bool) (g : List Sym) (e e' : List D) (a : List Int) : C 32 [iG z g e, iS z' a e'] = some (iB (factB g a), [iG z g e, iS z' a e']) := by
  refine wfn (lk := []) rfl rfl (fnW_way (q32 _ _ z (syms g) e z' (ints a) e' _) ?_)
  have h1 := w_rmay z g e
  cases hg : sigB g
  · simp [h1, hg, factB]
  have h2 := w_risatom hg z z' e e' a
  cases hb : atomB g a
  · simp [h1, h2, hg, hb, factB]
  have hl := (atom_codes hb).1
  have h3 := w_varsof (a := a) (by unfold Len; omega) z' e'
  have h4 := vars_none hb
  cases h5 : a.all (fun c => decide (0 ≤ c))
  · have h6 : ¬ (varsM a).length = 0 := fun h => by rw [h4.1 h] at h5; cases h5
    simp [-Bool.exists_bool, h1, h2, hg, hb, h3, ints_len, h6, factB, h5, -List.length_eq_zero_iff, -List.all_eq_false, -List.all_eq_true]
  · have h6 : (varsM a).length = 0 := h4.2 h5
    simp [-Bool.exists_bool, h1, h2, hg, hb, h3, ints_len, h6, factB, h5, -List.length_eq_zero_iff, -List.all_eq_false, -List.all_eq_true]
theorem w_fhash (z z' : Bool) (g : List Sym) (e e' : List D) (a : List Int) : C 10 [iG z g e, iS z' a e'] = some (.tup [iI (if factB g a = true then hashM a else 0), iI (if factB g a = true then 0 else 1100)], [iG z g e, iS z' a e']) := by
  refine wfn (lk := []) rfl rfl (fnW_way (q10 _ _ z (syms g) e z' (ints a) e' _) ?_)
  have h1 := w_factmay z z' g e e' a
  cases hf : factB g a
  · simp [h1, hf]
  · simp [h1, hf, w_hash (fact_small hf).2 (fact_small hf).1]
theorem w_rhash (z z' : Bool) (g : List Sym) (e e' : List D) (a : List Int) : C 11 [iG z g e, iS z' a e'] = some (.tup [iI (if factB g a = true then hashM a else 0), iI (if factB g a = true then 0 else 1100)], [iG z g e, iS z' a e']) := by
  refine wfn (lk := []) rfl rfl (fnW_way (q11 _ _ z (syms g) e z' (ints a) e' _) ?_)
  have h1 := w_isfact z z' g e e' a
  cases hf : factB g a
  · simp [h1, hf]
  · simp [h1, hf, w_rsum (fact_small hf).2 (fact_small hf).1]
end Go.Proofs.YtckhlalpnginjaaDoor.Ab

/- Tables of facts: what may be one. For every input; no condition. -/
set_option linter.unusedVariables false
set_option linter.unusedSimpArgs false
set_option maxRecDepth 100000
namespace Go.Proofs.YtckhlalpnginjaaDoor.Ab
open Go Go.Ab Go.Qu Go.Proofs
attribute [local simp] and_assoc
theorem probe_eq {a : List Int} {k : Nat} (hk : k < 32) : Int.tmod (IntKind.wrap .i64 (hashM a + (k : Int))) 32 = ((probe (hashM a).toNat k : Nat) : Int) := by
  have := hashM_lt a
  rw [wr _ (by omega) (by omega), Int.tmod_eq_emod_of_nonneg (by omega)]
  unfold probe; omega
theorem probe_lt (h k : Nat) : probe h k < 32 := Nat.mod_lt _ (by omega)
section
variable (zs zf : Bool) (es ef : List D) {sl : List Int} {fs : List Row}
theorem w_slot {a : List Int} (ha : Len a) (hs : Small a) (h32 : sl.length = 32) (hlt : ∀ x ∈ sl, x < fs.length) (hrows : ∀ r ∈ fs, Len r.l) (z : Bool) (e : List D) : C 34 [iT zs sl es zf fs ef, iS z a e] = some (iI (slotM sl (fl fs) a), [iT zs sl es zf fs ef, iS z a e]) := by
  refine wfn (lk := []) rfl rfl (fnW_way (q34 _ _ zs (ints sl) es zf (rws fs) ef z (ints a) e _) ?_)
  have hh := w_hash ha hs z e
  obtain ⟨o, h1, h2⟩ := blk_rule (F := F) (d := d34) (lk := []) (p := [1,0,1,0,0]) (p0 := [1,0,1]) 0 (by kernel_rfl) (fun (k : Nat) => [(1, iS z a e), (2, .dbox 26 0 [.sl 1 zs (ints sl) es, .sl 1 zf (rws fs) ef]), (7, iI k)]) (fun k => k ≤ 32) (fun k => 32 - k)
    (fun k o => o = .ret [(4, iI (slotF sl (fl fs) a (hashM a).toNat (32 - k) k))] ∨ (o = .norm [(1, iS z a e), (2, .dbox 26 0 [.sl 1 zs (ints sl) es, .sl 1 zf (rws fs) ef]), (7, iI 32)] ∧ slotF sl (fl fs) a (hashM a).toNat (32 - k) k = -1))
    (fun k hk => by
      by_cases hlt32 : k < 32
      · have hp := probe_eq (a := a) hlt32
        have hpl := probe_lt (hashM a).toNat k
        have hpl' : probe (hashM a).toNat k < sl.length := by omega
        have hat := Go.Ab.ints_at hpl'
        have e1 : 32 - k = (32 - (k + 1)) + 1 := by omega
        have hw : IntKind.wrap .i64 ((k : Int) + 1) = ((k + 1 : Nat) : Int) := by rw [wr _ (by omega) (by omega)]; omega
        have hk' : (k : Int) < 32 := by omega
        by_cases hx1 : gi sl (probe (hashM a).toNat k) = -1
        · refine .inr ⟨.ret [(4, iI (-1))], wpQ_way (q34_l0a _ _ z (ints a) e zs (ints sl) es zf (rws fs) ef k _) ?_, rfl, .inl ?_⟩
          · simp [-Bool.exists_bool, -getElem?_pos, hk', hh, hp, hat, hx1]
          · rw [e1, slotF, if_pos hx1]; rfl
        by_cases hx0 : 0 ≤ gi sl (probe (hashM a).toNat k)
        · obtain ⟨r, hr⟩ := at_lt (l := fs) (i := (gi sl (probe (hashM a).toNat k)).toNat) (by have := hlt _ (gi_mem hpl'); omega)
          have heq := w_equal (hrows r (List.mem_of_getElem? hr)) a r.z z r.e e
          by_cases hra : r.l = a
          · refine .inr ⟨.ret [(4, iI (probe (hashM a).toNat k))], wpQ_way (q34_l0a _ _ z (ints a) e zs (ints sl) es zf (rws fs) ef k _) ?_, rfl, .inl ?_⟩
            · simp [-Bool.exists_bool, -getElem?_pos, hk', hh, hp, hat, hx1, hx0, rws_at hr, heq, hra]
              rw [hra] at heq; simp [-Bool.exists_bool, heq]
            · rw [e1, slotF, if_neg hx1, if_pos ⟨hx0, by rw [fl_at hr, hra]⟩]; rfl
          · refine .inl ⟨k + 1, wpQ_way (q34_l0a _ _ z (ints a) e zs (ints sl) es zf (rws fs) ef k _) ?_, by omega, by omega, ?_⟩
            · simp [-Bool.exists_bool, -getElem?_pos, -Int.natCast_add, hk', hh, hp, hat, hx1, hx0, rws_at hr, heq, hra, hw]
            · rw [e1, slotF, if_neg hx1, if_neg (by rw [fl_at hr]; simp [hra])]
              exact fun o ho => ho
        · refine .inl ⟨k + 1, wpQ_way (q34_l0a _ _ z (ints a) e zs (ints sl) es zf (rws fs) ef k _) ?_, by omega, by omega, ?_⟩
          · have hx0' : gi sl (probe (hashM a).toNat k) < 0 := by omega
            simp [-Bool.exists_bool, -getElem?_pos, -Int.natCast_add, hk', hh, hp, hat, hx1, hx0, hx0', hw]
          · rw [e1, slotF, if_neg hx1, if_neg (fun h => hx0 h.1)]
            exact fun o ho => ho
      · have e2 : k = 32 := by omega
        subst e2
        refine .inr ⟨.exit 0 [(1, iS z a e), (2, .dbox 26 0 [.sl 1 zs (ints sl) es, .sl 1 zf (rws fs) ef]), (7, iI 32)], wpQ_way (q34_l0a _ _ z (ints a) e zs (ints sl) es zf (rws fs) ef _ _) (by simp), rfl, .inr ⟨by simp [blkO], by simp [slotF]⟩⟩) 0 (by omega)
  simp only [Int.natCast_zero] at h1
  rcases h2 with rfl | ⟨rfl, h3⟩
  · simp at h1
    simp [h1, slotM]
  · simp at h1 h3
    simp [-Bool.exists_bool, h1, slotM, h3]
theorem w_slotsmay {n : Nat} (hn : n ≤ 24) (h32 : sl.length ≤ 1000) (z : Bool) (e : List D) : C 37 [iS z sl e, iI n] = some (iB (slotsB sl n), [iS z sl e, iI n]) := by
  refine wfn (lk := []) rfl rfl (fnW_way (q37 _ _ z (ints sl) e n _) ?_)
  obtain ⟨o, h1, h2⟩ := blk_rule (F := F) (d := d37) (lk := []) (p := [1,1,1,0,1,0,0]) (p0 := [1,1,1,0,1]) 0 (by kernel_rfl) (fun (x : List Bool × Nat × Nat) => [(1, iI n), (5, .own false 4 1 (bls x.1)), (6, iI x.2.1), (11, iS z sl e), (12, iI sl.length), (13, iI x.2.2)]) (fun x => x.1.length = n ∧ x.2.1 ≤ x.2.2 ∧ x.2.2 ≤ sl.length) (fun x => sl.length - x.2.2)
    (fun x o => (o = .ret [(4, iB false)] ∧ slotsF n (sl.drop x.2.2) x.1 x.2.1 = false) ∨ ∃ y : List Bool × Nat, o = .norm [(1, iI n), (5, .own false 4 1 (bls y.1)), (6, iI y.2), (11, iS z sl e), (12, iI sl.length), (13, iI sl.length)] ∧ slotsF n (sl.drop x.2.2) x.1 x.2.1 = (y.2 == n))
    (fun x hx => by
      obtain ⟨seen, k, i⟩ := x
      obtain ⟨hx1, hx2, hx3⟩ := hx
      dsimp only at hx1 hx2 hx3 ⊢
      by_cases hi : i < sl.length
      · have hat := Go.Ab.ints_at hi
        have hw := wr1 hi (by omega)
        have hi' : (i : Int) < sl.length := by omega
        rw [gi_drop hi, slotsF]
        by_cases h1 : gi sl i = -1
        · refine .inl ⟨(seen, k, i + 1), wpQ_way (q37_l0a _ _ n _ (bls seen) k z (ints sl) e _ i _) ?_, ⟨hx1, by dsimp only; omega, by dsimp only; omega⟩, by dsimp only; omega, ?_⟩
          · simp [-Bool.exists_bool, -getElem?_pos, -Int.natCast_add, hi, hat, h1, hw]
          · rw [if_pos (.inl h1)]; exact fun o h => h
        by_cases h2 : gi sl i = -2
        · refine .inl ⟨(seen, k, i + 1), wpQ_way (q37_l0a _ _ n _ (bls seen) k z (ints sl) e _ i _) ?_, ⟨hx1, by dsimp only; omega, by dsimp only; omega⟩, by dsimp only; omega, ?_⟩
          · simp [-Bool.exists_bool, -getElem?_pos, -Int.natCast_add, hi, hat, h1, h2, hw]
          · rw [if_pos (.inr h2)]; exact fun o h => h
        rw [if_neg (by omega)]
        by_cases h3 : gi sl i < 0
        · refine .inr ⟨.ret [(4, iB false)], wpQ_way (q37_l0a _ _ n _ (bls seen) k z (ints sl) e _ i _) ?_, rfl, .inl ⟨rfl, by rw [if_pos (.inl h3)]⟩⟩
          have h3' : ¬ 0 ≤ gi sl i := by omega
          simp [-Bool.exists_bool, -getElem?_pos, hi, hat, h1, h2, h3, h3']
        by_cases h4 : (n : Int) ≤ gi sl i
        · refine .inr ⟨.ret [(4, iB false)], wpQ_way (q37_l0a _ _ n _ (bls seen) k z (ints sl) e _ i _) ?_, rfl, .inl ⟨rfl, by rw [if_pos (.inr (.inl h4))]⟩⟩
          have h3' : 0 ≤ gi sl i := by omega
          have h4' : ¬ gi sl i < n := by omega
          simp [-Bool.exists_bool, -getElem?_pos, hi, hat, h1, h2, h3, h4, h3', h4']
        have h3' : 0 ≤ gi sl i := by omega
        have h4' : gi sl i < n := by omega
        obtain ⟨b, hb⟩ := at_lt (l := seen) (i := (gi sl i).toNat) (by omega)
        cases b with
        | true =>
          refine .inr ⟨.ret [(4, iB false)], wpQ_way (q37_l0a _ _ n _ (bls seen) k z (ints sl) e _ i _) ?_, rfl, .inl ⟨rfl, by rw [if_pos (.inr (.inr hb))]⟩⟩
          simp [-Bool.exists_bool, -getElem?_pos, hi, hat, h1, h2, h3, h3', h4, h4', bls_at hb]
        | false =>
          have hw2 : IntKind.wrap .i64 ((k : Int) + 1) = ((k + 1 : Nat) : Int) := by rw [wr _ (by omega) (by omega)]; omega
          refine .inl ⟨(seen.set (gi sl i).toNat true, k + 1, i + 1), wpQ_way (q37_l0a _ _ n _ (bls seen) k z (ints sl) e _ i _) ?_, ⟨by simp [hx1], by dsimp only; omega, by dsimp only; omega⟩, by dsimp only; omega, ?_⟩
          · simp [-Bool.exists_bool, -getElem?_pos, -Int.natCast_add, hi, hat, h1, h2, h3, h3', h4, h4', bls_at hb, hw, hw2, bls_set]
          · rw [if_neg (by rw [hb]; simp; omega)]; exact fun o h => h
      · have e1 : i = sl.length := by omega
        subst e1
        refine .inr ⟨.exit 0 [(1, iI n), (5, .own false 4 1 (bls seen)), (6, iI k), (11, iS z sl e), (12, iI sl.length), (13, iI sl.length)], wpQ_way (q37_l0a _ _ n _ (bls seen) k z (ints sl) e _ _ _) (by simp), rfl, .inr ⟨(seen, k), by simp [blkO], by simp [slotsF]⟩⟩) (List.replicate n false, 0, 0) ⟨by simp, Nat.le_refl _, Nat.zero_le _⟩
  simp only [Int.natCast_zero, List.drop_zero] at h1 h2
  have e1 : (n : Int) ≤ 281474976710656 := by omega
  have e2 : (n : Int) ≤ 9223372036854775807 := by omega
  rcases h2 with ⟨rfl, h3⟩ | ⟨y, rfl, h3⟩
  · simp [-Bool.exists_bool, e1, e2, bls_rep, ints_len, h1, slotsB, h3]
  · by_cases hy : y.2 = n
    · have h4 : slotsB sl n = true := by rw [slotsB, h3]; simp [hy]
      simp [-Bool.exists_bool, e1, e2, bls_rep, ints_len, h1, h4, hy]
    · have h4 : slotsB sl n = false := by rw [slotsB, h3]; simp [hy]
      have hy' : ¬ (y.2 : Int) = n := by omega
      simp [-Bool.exists_bool, e1, e2, bls_rep, ints_len, h1, h4, hy']
theorem w_tmay (hsl : Len sl) (hfs : fs.length * 24 ≤ 140737488351232) (hrows : ∀ r ∈ fs, Len r.l) (z : Bool) (g : List Sym) (e : List D) : C 14 [iG z g e, iT zs sl es zf fs ef] = some (iB (tblB g sl (fl fs)), [iG z g e, iT zs sl es zf fs ef]) := by
  refine wfn (lk := []) rfl rfl (fnW_way (q14 _ _ z (syms g) e zs (ints sl) es zf (rws fs) ef _) ?_)
  have h1 := w_may z g e
  cases hg : sigB g
  · simp [h1, hg, tblB]
  by_cases h32 : sl.length = 32
  rotate_left
  · have e1 : ¬ (sl.length : Int) = 32 := by omega
    simp [h1, hg, tblB, h32, e1, ints_len]
  by_cases h24 : fs.length ≤ 24
  rotate_left
  · have e1 : 24 < (fs.length : Int) := by omega
    simp [h1, hg, tblB, h32, h24, e1, ints_len, rws_len, fl_len]
  have e24 : ¬ 24 < (fs.length : Int) := by omega
  have h2 := w_slotsmay (sl := sl) (n := fs.length) h24 (by omega) zs es
  cases hsb : slotsB sl fs.length
  · simp [h1, hg, tblB, h32, h24, e24, ints_len, rws_len, fl_len, h2, hsb]
  have hlt : ∀ x ∈ sl, x < fs.length := fun x hx => (slotsF_lt hsb x hx).2
  rcases blk_all (F := F) (d := d14) (lk := []) (p := [1,1,0,1,0,0]) (p0 := [1,1,0,1]) (by kernel_rfl) (n := fs.length) (id := 0) (st := fun i => [(0, iG z g e), (3, .dbox 26 0 [.sl 1 zs (ints sl) es, .sl 1 zf (rws fs) ef]), (35, iR zf fs ef), (36, iI fs.length), (37, iI i)]) (q := fun i => match fs[i]? with | some r => factB g r.l | none => true) (rt := [(4, iB false)]) (e := [(0, iG z g e), (3, .dbox 26 0 [.sl 1 zs (ints sl) es, .sl 1 zf (rws fs) ef]), (35, iR zf fs ef), (36, iI fs.length), (37, iI fs.length)])
    (fun i hi hq => by
      obtain ⟨r, hr⟩ := at_lt hi
      rw [hr] at hq
      have hf := w_factmay z r.z g e r.e r.l
      exact wpQ_way (q14_l0a _ _ z (syms g) e zs (ints sl) es zf (rws fs) ef zf (rws fs) ef _ i _) (by simp [-Bool.exists_bool, -getElem?_pos, -Int.natCast_add, hi, rws_at hr, hf, hq, wr1 hi (by omega)]))
    (fun i hi hq => by
      obtain ⟨r, hr⟩ := at_lt hi
      rw [hr] at hq
      have hf := w_factmay z r.z g e r.e r.l
      exact wpQ_way (q14_l0a _ _ z (syms g) e zs (ints sl) es zf (rws fs) ef zf (rws fs) ef _ i _) (by simp [-Bool.exists_bool, -getElem?_pos, -Int.natCast_add, hi, rws_at hr, hf, hq]))
    (wpQ_way (q14_l0a _ _ z (syms g) e zs (ints sl) es zf (rws fs) ef zf (rws fs) ef _ fs.length _) (by simp)) 0 (Nat.zero_le _) with ⟨h3, h4⟩ | ⟨⟨j, h3, h5, h6⟩, h4⟩
  rotate_left
  · have hall : (fl fs).all (factB g) = false := by
      obtain ⟨r, hr⟩ := at_lt h5
      rw [hr] at h6
      rw [List.all_eq_false]
      exact ⟨r.l, List.mem_of_getElem? (fl_at hr), by simp [h6]⟩
    have htb : tblB g sl (fl fs) = false := by unfold tblB; rw [hall]; simp
    simp at h4
    simp [-Bool.exists_bool, h1, hg, h32, h24, e24, ints_len, rws_len, fl_len, h2, hsb, h4, htb]
  have hfact : ∀ (i : Nat) (r : Row), fs[i]? = some r → factB g r.l = true := fun i r hr => by have := h3 i (Nat.zero_le _) (lt_at hr); rw [hr] at this; exact this
  have hall : (fl fs).all (factB g) = true := by
    rw [List.all_eq_true]
    intro x hx
    obtain ⟨r, hr, rfl⟩ := List.mem_map.1 hx
    obtain ⟨i, hi, rfl⟩ := List.getElem_of_mem hr
    exact hfact i _ (by simp [hi])
  simp at h4
  rcases blk_all (F := F) (d := d14) (lk := []) (p := [1,1,1,0,1,0,0]) (p0 := [1,1,1,0,1]) (by kernel_rfl) (n := fs.length) (id := 2) (st := fun i => [(3, .dbox 26 0 [.sl 1 zs (ints sl) es, .sl 1 zf (rws fs) ef]), (47, iR zf fs ef), (48, iI fs.length), (49, iI i)]) (q := fun i => match (fl fs)[i]? with | some a => decide (0 ≤ slotM sl (fl fs) a) && (gi sl (slotM sl (fl fs) a).toNat == (i : Int)) | none => true) (rt := [(4, iB false)]) (e := [(3, .dbox 26 0 [.sl 1 zs (ints sl) es, .sl 1 zf (rws fs) ef]), (47, iR zf fs ef), (48, iI fs.length), (49, iI fs.length)])
    (fun i hi hq => by
      obtain ⟨r, hr⟩ := at_lt hi
      rw [fl_at hr] at hq
      simp only [Bool.and_eq_true, decide_eq_true_eq, beq_iff_eq] at hq
      have hsm := fact_small (hfact i r hr)
      have hs := w_slot zs zf es ef hsm.2 hsm.1 h32 hlt hrows r.z r.e
      have hlt2 := slotM_lt sl (fl fs) r.l
      have hat := Go.Ab.ints_at (l := sl) (i := (slotM sl (fl fs) r.l).toNat) (by omega)
      have hnn : ¬ slotM sl (fl fs) r.l < 0 := by omega
      exact wpQ_way (q14_l2a _ _ zs (ints sl) es zf (rws fs) ef zf (rws fs) ef _ i _) (by simp [-Bool.exists_bool, -getElem?_pos, -Int.natCast_add, hi, rws_at hr, hs, hnn, hq.1, hat, hq.2, wr1 hi (by omega)]))
    (fun i hi hq => by
      obtain ⟨r, hr⟩ := at_lt hi
      rw [fl_at hr] at hq
      have hsm := fact_small (hfact i r hr)
      have hs := w_slot zs zf es ef hsm.2 hsm.1 h32 hlt hrows r.z r.e
      have hlt2 := slotM_lt sl (fl fs) r.l
      by_cases hneg : slotM sl (fl fs) r.l < 0
      · have hneg' : ¬ 0 ≤ slotM sl (fl fs) r.l := by omega
        exact wpQ_way (q14_l2a _ _ zs (ints sl) es zf (rws fs) ef zf (rws fs) ef _ i _) (by simp [-Bool.exists_bool, -getElem?_pos, -Int.natCast_add, hi, rws_at hr, hs, hneg, hneg'])
      · have hat := Go.Ab.ints_at (l := sl) (i := (slotM sl (fl fs) r.l).toNat) (by omega)
        have h0 : 0 ≤ slotM sl (fl fs) r.l := by omega
        simp [h0] at hq
        exact wpQ_way (q14_l2a _ _ zs (ints sl) es zf (rws fs) ef zf (rws fs) ef _ i _) (by simp [-Bool.exists_bool, -getElem?_pos, -Int.natCast_add, hi, rws_at hr, hs, hneg, h0, hat, hq]))
    (wpQ_way (q14_l2a _ _ zs (ints sl) es zf (rws fs) ef zf (rws fs) ef _ fs.length _) (by simp)) 0 (Nat.zero_le _) with ⟨h5, h6⟩ | ⟨⟨j, h5, h7, h8⟩, h6⟩
  · have htb : tblB g sl (fl fs) = true := by
      unfold tblB
      rw [hg, hall, fl_len, hsb]
      simp only [h32, h24, decide_true, Bool.true_and, List.all_eq_true, List.mem_range]
      exact fun i hi => h5 i (Nat.zero_le _) hi
    simp at h6
    simp [-Bool.exists_bool, h1, hg, h32, h24, e24, ints_len, rws_len, fl_len, h2, hsb, h4, h6, htb]
  · have htb : tblB g sl (fl fs) = false := by
      unfold tblB
      rw [hg, hall, fl_len, hsb]
      simp only [h32, h24, decide_true, Bool.true_and]
      rw [List.all_eq_false]
      exact ⟨j, List.mem_range.2 h7, fun hc => absurd (hc.symm.trans h8) (by decide)⟩
    simp at h6
    simp [-Bool.exists_bool, h1, hg, h32, h24, e24, ints_len, rws_len, fl_len, h2, hsb, h4, h6, htb]
theorem w_has (hsl : Len sl) (hfs : fs.length * 24 ≤ 140737488351232) (hrows : ∀ r ∈ fs, Len r.l) (z z' : Bool) (g : List Sym) (e e' : List D) (a : List Int) : C 12 [iG z g e, iT zs sl es zf fs ef, iS z' a e'] = some (.tup [iB ((tblB g sl (fl fs) && factB g a) && decide (0 ≤ slotM sl (fl fs) a)), iI (if (tblB g sl (fl fs) && factB g a) = true then 0 else 1100)], [iG z g e, iT zs sl es zf fs ef, iS z' a e']) := by
  refine wfn (lk := []) rfl rfl (fnW_way (q12 _ _ z (syms g) e zs (ints sl) es zf (rws fs) ef z' (ints a) e' _) ?_)
  have h1 := w_tmay zs zf es ef hsl hfs hrows z g e
  have h2 := w_factmay z z' g e e' a
  cases ht : tblB g sl (fl fs)
  · simp [h1, ht]
  cases hf : factB g a
  · simp [h1, h2, ht, hf]
  have hsm := fact_small hf
  have hb := ht
  simp only [tblB, Bool.and_eq_true, decide_eq_true_eq, fl_len] at hb
  have hs := w_slot zs zf es ef hsm.2 hsm.1 hb.2.1 (fun x hx => (slotsF_lt hb.2.2.2.1 x hx).2) hrows z' e'
  by_cases h0 : 0 ≤ slotM sl (fl fs) a
  · simp [h1, h2, ht, hf, hs, h0]
  · simp [h1, h2, ht, hf, hs, h0]; omega
end
end Go.Proofs.YtckhlalpnginjaaDoor.Ab

/- Tables of facts: the reference's functions; tables copied, compared, new ones. For every input; no condition. -/
set_option linter.unusedVariables false
set_option linter.unusedSimpArgs false
set_option maxRecDepth 100000
namespace Go.Proofs.YtckhlalpnginjaaDoor.Ab
open Go Go.Ab Go.Qu Go.Proofs
attribute [local simp] and_assoc
section
variable (zs zf : Bool) (es ef : List D) {sl : List Int} {fs : List Row}
theorem w_rslot (hsl : Len sl) (x : Int) : C 39 [iT zs sl es zf fs ef, iI x] = some (iI (lastM sl x), [iT zs sl es zf fs ef, iI x]) := by
  have hal := hsl.lt
  refine wfn (lk := []) rfl rfl (fnW_way (q39 _ _ zs (ints sl) es zf (rws fs) ef x _) ?_)
  have h1 := fun y hy => blk_fun (F := F) (d := d39) (lk := []) (p := [1,1,0,1,0,0]) (p0 := [1,1,0,1]) (id := 0) (by kernel_rfl) (st := fun (y : Int × Nat) => [(1, iI x), (2, .dbox 26 0 [.sl 1 zs (ints sl) es, .sl 1 zf (rws fs) ef]), (5, iI y.1), (6, iI y.2)]) (I := fun y => y.2 ≤ sl.length) (μ := fun y => sl.length - y.2)
    (res := fun y => .norm [(1, iI x), (2, .dbox 26 0 [.sl 1 zs (ints sl) es, .sl 1 zf (rws fs) ef]), (5, iI (lastF x (sl.drop y.2) y.2 y.1)), (6, iI sl.length)])
    (fun y hy => by
      obtain ⟨at_, i⟩ := y
      dsimp only at hy
      by_cases hi : i < sl.length
      · have hw := wr1 hi (by omega)
        refine .go (if gi sl i = x then (i : Int) else at_, i + 1) (wpQ_way (q39_l0a _ _ x zs (ints sl) es zf (rws fs) ef at_ i _) ?_) hi (by dsimp only; omega) ?_
        · by_cases hx : gi sl i = x <;> simp [-Bool.exists_bool, -getElem?_pos, -Int.natCast_add, ints_len, hi, Go.Ab.ints_at hi, hw, hx]
        · dsimp only
          rw [gi_drop hi, lastF]
      · have e1 : i = sl.length := by omega
        subst e1
        refine .stop (.exit 0 [(1, iI x), (2, .dbox 26 0 [.sl 1 zs (ints sl) es, .sl 1 zf (rws fs) ef]), (5, iI at_), (6, iI sl.length)]) (wpQ_way (q39_l0a _ _ x zs (ints sl) es zf (rws fs) ef at_ _ _) (by simp [ints_len])) rfl ?_
        simp [blkO, lastF]) y hy
  have h2 : evP F (Go.Ab.W F) (JW F d39 []) d39 [] [1,1,0,1] [(1, iI x), (2, .dbox 26 0 [.sl 1 zs (ints sl) es, .sl 1 zf (rws fs) ef]), (5, iI (-1)), (6, iI 0)] = _ := h1 (-1, 0) (Nat.zero_le _)
  rw [List.drop_zero] at h2
  simp [-Bool.exists_bool, h2, lastM]
theorem w_where (hfs : fs.length * 24 ≤ 140737488351232) (hrows : ∀ r ∈ fs, Len r.l) (a : List Int) (z : Bool) (e : List D) : C 35 [iT zs sl es zf fs ef, iS z a e] = some (iI (whereM (fl fs) a), [iT zs sl es zf fs ef, iS z a e]) := by
  refine wfn (lk := []) rfl rfl (fnW_way (q35 _ _ zs (ints sl) es zf (rws fs) ef z (ints a) e _) ?_)
  obtain ⟨o, h1, h2⟩ := blk_rule (F := F) (d := d35) (lk := []) (p := [1,0,1,0,0]) (p0 := [1,0,1]) 0 (by kernel_rfl) (fun (i : Nat) => [(1, iS z a e), (2, .dbox 26 0 [.sl 1 zs (ints sl) es, .sl 1 zf (rws fs) ef]), (5, iI i)]) (fun i => i ≤ fs.length) (fun i => fs.length - i)
    (fun i o => o = .ret [(4, iI (whereF a ((fl fs).drop i) i))] ∨ (o = .norm [(1, iS z a e), (2, .dbox 26 0 [.sl 1 zs (ints sl) es, .sl 1 zf (rws fs) ef]), (5, iI fs.length)] ∧ whereF a ((fl fs).drop i) i = -1))
    (fun i hi0 => by
      by_cases hi : i < fs.length
      · obtain ⟨r, hr⟩ := at_lt hi
        have heq := w_same (hrows r (List.mem_of_getElem? hr)) a r.z z r.e e
        have hd : (fl fs).drop i = r.l :: (fl fs).drop (i + 1) := by
          have h3 := fl_at hr
          rw [List.drop_eq_getElem_cons (by rw [fl_len]; exact hi)]
          rw [List.getElem?_eq_getElem (by rw [fl_len]; exact hi)] at h3
          simp at h3
          rw [h3]
        by_cases hra : r.l = a
        · refine .inr ⟨.ret [(4, iI i)], wpQ_way (q35_l0a _ _ z (ints a) e zs (ints sl) es zf (rws fs) ef i _) ?_, rfl, .inl ?_⟩
          · rw [hra] at heq
            simp [-Bool.exists_bool, -getElem?_pos, rws_len, hi, rws_at hr, hra, heq]
          · rw [hd, whereF, if_pos hra]; rfl
        · refine .inl ⟨i + 1, wpQ_way (q35_l0a _ _ z (ints a) e zs (ints sl) es zf (rws fs) ef i _) ?_, hi, by omega, ?_⟩
          · simp [-Bool.exists_bool, -getElem?_pos, -Int.natCast_add, rws_len, hi, rws_at hr, heq, hra, wr1 hi (by omega)]
          · rw [hd, whereF, if_neg hra]; exact fun o h => h
      · have e1 : i = fs.length := by omega
        subst e1
        refine .inr ⟨.exit 0 [(1, iS z a e), (2, .dbox 26 0 [.sl 1 zs (ints sl) es, .sl 1 zf (rws fs) ef]), (5, iI fs.length)], wpQ_way (q35_l0a _ _ z (ints a) e zs (ints sl) es zf (rws fs) ef _ _) (by simp [rws_len]), rfl, .inr ⟨by simp [blkO], ?_⟩⟩
        rw [List.drop_of_length_le (by rw [fl_len]; omega)]; rfl) 0 (Nat.zero_le _)
  simp only [Int.natCast_zero, List.drop_zero] at h1 h2
  rcases h2 with rfl | ⟨rfl, h3⟩
  · simp [-Bool.exists_bool, h1, whereM]
  · simp [-Bool.exists_bool, h1, whereM, h3]
theorem w_rtmay (hsl : Len sl) (hfs : fs.length * 24 ≤ 140737488351232) (hrows : ∀ r ∈ fs, Len r.l) (z : Bool) (g : List Sym) (e : List D) : C 15 [iG z g e, iT zs sl es zf fs ef] = some (iB (rtblB g sl (fl fs)), [iG z g e, iT zs sl es zf fs ef]) := by
  refine wfn (lk := []) rfl rfl (fnW_way (q15 _ _ z (syms g) e zs (ints sl) es zf (rws fs) ef _) ?_)
  have h1 := w_rmay z g e
  cases hg : sigB g
  · simp [h1, hg, rtblB]
  by_cases h32 : sl.length = 32
  rotate_left
  · have e1 : ¬ (sl.length : Int) = 32 := by omega
    simp [h1, hg, rtblB, h32, e1, ints_len]
  by_cases h24 : fs.length ≤ 24
  rotate_left
  · have e1 : 24 < (fs.length : Int) := by omega
    simp [h1, hg, rtblB, h32, h24, e1, ints_len, rws_len, fl_len]
  have e24 : ¬ 24 < (fs.length : Int) := by omega
  have b1 := fun x hx => blk_fun (F := F) (d := d15) (lk := []) (p := [1,1,1,0,1,0,0]) (p0 := [1,1,1,0,1]) (id := 0) (by kernel_rfl) (st := fun (x : Nat × Nat) => [(0, iG z g e), (3, .dbox 26 0 [.sl 1 zs (ints sl) es, .sl 1 zf (rws fs) ef]), (5, iI x.1), (6, iI x.2)]) (I := fun x => x.1 ≤ x.2 ∧ x.2 ≤ sl.length) (μ := fun x => sl.length - x.2)
    (res := fun x => if (sl.drop x.2).all (fun y => decide (-2 ≤ y) && decide (y < fs.length)) = true then .norm [(0, iG z g e), (3, .dbox 26 0 [.sl 1 zs (ints sl) es, .sl 1 zf (rws fs) ef]), (5, iI (takenF (sl.drop x.2) x.1)), (6, iI sl.length)] else .ret [(4, iB false)])
    (fun x hx => by
      obtain ⟨k, i⟩ := x
      obtain ⟨hx1, hx2⟩ := hx
      dsimp only at hx1 hx2
      by_cases hi : i < sl.length
      · have hat := Go.Ab.ints_at hi
        have hw := wr1 hi (by omega)
        have hw2 : IntKind.wrap .i64 ((k : Int) + 1) = ((k + 1 : Nat) : Int) := by rw [wr _ (by omega) (by omega)]; omega
        by_cases c1 : gi sl i < -2
        · refine .stop (.ret [(4, iB false)]) (wpQ_way (q15_l0a _ _ z (syms g) e zs (ints sl) es zf (rws fs) ef k i _) ?_) rfl ?_
          · have c0 : ¬ -2 ≤ gi sl i := by omega
            simp [-Bool.exists_bool, -getElem?_pos, ints_len, hi, hat, c1, c0]
          · dsimp only
            rw [gi_drop hi, List.all_cons]
            have : ¬ -2 ≤ gi sl i := by omega
            simp [this, blkO]
        by_cases c2 : (fs.length : Int) ≤ gi sl i
        · refine .stop (.ret [(4, iB false)]) (wpQ_way (q15_l0a _ _ z (syms g) e zs (ints sl) es zf (rws fs) ef k i _) ?_) rfl ?_
          · have c1' : -2 ≤ gi sl i := by omega
            simp [-Bool.exists_bool, -getElem?_pos, ints_len, rws_len, hi, hat, c1, c1', c2, show ¬ gi sl i < fs.length by omega]
          · dsimp only
            rw [gi_drop hi, List.all_cons]
            have : ¬ gi sl i < fs.length := by omega
            simp [this, blkO]
        have c1' : -2 ≤ gi sl i := by omega
        have c2' : gi sl i < fs.length := by omega
        have hres : ∀ k' : Nat, (if 0 ≤ gi sl i then k + 1 else k) = k' → (if (sl.drop (i + 1)).all (fun y => decide (-2 ≤ y) && decide (y < fs.length)) = true then Out.norm [(0, iG z g e), (3, .dbox 26 0 [.sl 1 zs (ints sl) es, .sl 1 zf (rws fs) ef]), (5, iI (takenF (sl.drop (i + 1)) k')), (6, iI sl.length)] else .ret [(4, iB false)]) = (if (sl.drop i).all (fun y => decide (-2 ≤ y) && decide (y < fs.length)) = true then Out.norm [(0, iG z g e), (3, .dbox 26 0 [.sl 1 zs (ints sl) es, .sl 1 zf (rws fs) ef]), (5, iI (takenF (sl.drop i) k)), (6, iI sl.length)] else .ret [(4, iB false)]) := fun k' hk' => by
          rw [gi_drop hi, List.all_cons, takenF, hk']
          simp only [c1', c2', decide_true, Bool.true_and]
        by_cases c3 : 0 ≤ gi sl i
        · refine .go (k + 1, i + 1) (wpQ_way (q15_l0a _ _ z (syms g) e zs (ints sl) es zf (rws fs) ef k i _) ?_) ⟨by dsimp only; omega, hi⟩ (by dsimp only; omega) (hres _ (if_pos c3))
          simp [-Bool.exists_bool, -getElem?_pos, -Int.natCast_add, ints_len, rws_len, hi, hat, c1, c1', c2, c2', c3, show ¬ gi sl i < 0 by omega, hw, hw2]
        · have c3' : gi sl i < 0 := by omega
          refine .go (k, i + 1) (wpQ_way (q15_l0a _ _ z (syms g) e zs (ints sl) es zf (rws fs) ef k i _) ?_) ⟨by dsimp only; omega, hi⟩ (by dsimp only; omega) (hres _ (if_neg c3))
          simp [-Bool.exists_bool, -getElem?_pos, -Int.natCast_add, ints_len, rws_len, hi, hat, c1, c1', c2, c2', c3, c3', hw]
      · have e1 : i = sl.length := by omega
        subst e1
        refine .stop (.exit 0 [(0, iG z g e), (3, .dbox 26 0 [.sl 1 zs (ints sl) es, .sl 1 zf (rws fs) ef]), (5, iI k), (6, iI sl.length)]) (wpQ_way (q15_l0a _ _ z (syms g) e zs (ints sl) es zf (rws fs) ef k _ _) (by simp [ints_len])) rfl ?_
        simp [blkO, takenF]) x hx
  have b2 : evP F (Go.Ab.W F) (JW F d15 []) d15 [] [1,1,1,0,1] [(0, iG z g e), (3, .dbox 26 0 [.sl 1 zs (ints sl) es, .sl 1 zf (rws fs) ef]), (5, iI 0), (6, iI 0)] = _ := b1 (0, 0) ⟨Nat.le_refl _, Nat.zero_le _⟩
  rw [List.drop_zero] at b2
  cases hall : sl.all (fun y => decide (-2 ≤ y) && decide (y < fs.length))
  · have hr : rtblB g sl (fl fs) = false := by unfold rtblB; rw [fl_len, hall]; simp
    rw [hall] at b2
    simp only [Bool.false_eq_true, if_false] at b2
    simp [-Bool.exists_bool, h1, hg, h32, h24, e24, ints_len, rws_len, b2, hr]
  rw [hall] at b2
  simp only [if_true] at b2
  by_cases htk : takenF sl 0 = fs.length
  rotate_left
  · have hr : rtblB g sl (fl fs) = false := by unfold rtblB; rw [fl_len]; simp [htk]
    have htk' : ¬ (takenF sl 0 : Int) = fs.length := by omega
    simp [-Bool.exists_bool, h1, hg, h32, h24, e24, ints_len, rws_len, b2, hr, htk']
  have road : ∀ (k at_ i : Nat), at_ < 32 → i < 32 → k < fs.length → evP F (Go.Ab.W F) (JW F d15 []) d15 [] [1,1,1,1,1,0,1,0,0,1,0,0,1,1,1] [(0, iG z g e), (3, .dbox 26 0 [.sl 1 zs (ints sl) es, .sl 1 zf (rws fs) ef]), (7, iI k), (8, iI at_), (9, iI i)] = some (if roadF sl at_ 32 i = true then .norm [(0, iG z g e), (3, .dbox 26 0 [.sl 1 zs (ints sl) es, .sl 1 zf (rws fs) ef]), (7, iI k), (8, iI at_), (9, iI at_)] else .ret [(4, iB false)]) := fun k at_ i ha hi hk =>
    blk_fun (F := F) (d := d15) (lk := []) (p := [1,1,1,1,1,0,1,0,0,1,0,0,1,1,1,0,0]) (p0 := [1,1,1,1,1,0,1,0,0,1,0,0,1,1,1]) (id := 4) (by kernel_rfl) (st := fun (i : Nat) => [(0, iG z g e), (3, .dbox 26 0 [.sl 1 zs (ints sl) es, .sl 1 zf (rws fs) ef]), (7, iI k), (8, iI at_), (9, iI i)]) (I := fun i => i < 32) (μ := fun i => (at_ + 32 - i) % 32)
      (res := fun i => if roadF sl at_ 32 i = true then .norm [(0, iG z g e), (3, .dbox 26 0 [.sl 1 zs (ints sl) es, .sl 1 zf (rws fs) ef]), (7, iI k), (8, iI at_), (9, iI at_)] else .ret [(4, iB false)])
      (fun i hi => by
        have hat := Go.Ab.ints_at (show i < sl.length by omega)
        by_cases he : i = at_
        · subst he
          refine .stop (.exit 4 [(0, iG z g e), (3, .dbox 26 0 [.sl 1 zs (ints sl) es, .sl 1 zf (rws fs) ef]), (7, iI k), (8, iI i), (9, iI i)]) (wpQ_way (q15_l4a _ _ z (syms g) e zs (ints sl) es zf (rws fs) ef k i i _) (by simp)) rfl ?_
          simp [roadF, blkO]
        have he' : ¬ (i : Int) = at_ := by omega
        by_cases hf : gi sl i = -1
        · refine .stop (.ret [(4, iB false)]) (wpQ_way (q15_l4a _ _ z (syms g) e zs (ints sl) es zf (rws fs) ef k at_ i _) (by simp [-Bool.exists_bool, -getElem?_pos, he', he, hat, hf])) rfl ?_
          simp [roadF, blkO, he, hf]
        · have hm : Int.tmod (IntKind.wrap .i64 ((i : Int) + 1)) 32 = (((i + 1) % 32 : Nat) : Int) := by
            rw [wr _ (by omega) (by omega), Int.tmod_eq_emod_of_nonneg (by omega)]; omega
          refine .go ((i + 1) % 32) (wpQ_way (q15_l4a _ _ z (syms g) e zs (ints sl) es zf (rws fs) ef k at_ i _) ?_) (Nat.mod_lt _ (by omega)) (by omega) ?_
          · rw [← hm]
            simp [-Bool.exists_bool, -getElem?_pos, -Int.natCast_add, he', he, hat, hf]
          · rw [roadF_go sl ha hi he hf]) i hi
  rcases blk_all (F := F) (d := d15) (lk := []) (p := [1,1,1,1,1,0,1,0,0]) (p0 := [1,1,1,1,1,0,1]) (by kernel_rfl) (n := fs.length) (id := 2) (st := fun i => [(0, iG z g e), (3, .dbox 26 0 [.sl 1 zs (ints sl) es, .sl 1 zf (rws fs) ef]), (7, iI i)]) (q := fun i => eachB g sl (fl fs) i) (rt := [(4, iB false)]) (e := [(0, iG z g e), (3, .dbox 26 0 [.sl 1 zs (ints sl) es, .sl 1 zf (rws fs) ef]), (7, iI fs.length)])
    (fun i hi hq => by
      obtain ⟨r, hr⟩ := at_lt hi
      simp only [eachB, fl_at hr, Bool.and_eq_true, beq_iff_eq, decide_eq_true_eq] at hq
      obtain ⟨q1, q2, q3, q4⟩ := hq
      have hsl' := w_rslot zs zf es ef (fs := fs) hsl (i : Int)
      have hf := w_isfact z r.z g e r.e r.l
      have hwh := w_where zs zf es ef (sl := sl) hfs hrows r.l r.z r.e
      have hsm := fact_small q1
      have hsum := w_rsum hsm.2 hsm.1 r.z r.e
      have hh := hashM_lt r.l
      have hlm := lastM_lt sl (i : Int)
      have hro := road i (lastM sl i).toNat ((hashM r.l).toNat % 32) (by omega) (Nat.mod_lt _ (by omega)) hi
      rw [if_pos q4] at hro
      have hm : Int.tmod (hashM r.l) 32 = (((hashM r.l).toNat % 32 : Nat) : Int) := by rw [Int.tmod_eq_emod_of_nonneg hh.1]; omega
      rw [← hm, show (((lastM sl i).toNat : Nat) : Int) = lastM sl i by omega] at hro
      have hn : ¬ lastM sl i < 0 := by omega
      exact wpQ_way (q15_l2a _ _ z (syms g) e zs (ints sl) es zf (rws fs) ef i _) (by simp [-Bool.exists_bool, -getElem?_pos, -Int.natCast_add, rws_len, hi, hsl', rws_at hr, hf, q1, hwh, q2, hn, q3, hsum, hro, wr1 hi (by omega)]))
    (fun i hi hq => by
      obtain ⟨r, hr⟩ := at_lt hi
      have hsl' := w_rslot zs zf es ef (fs := fs) hsl (i : Int)
      have hf := w_isfact z r.z g e r.e r.l
      have hwh := w_where zs zf es ef (sl := sl) hfs hrows r.l r.z r.e
      simp only [eachB, fl_at hr] at hq
      refine wpQ_way (q15_l2a _ _ z (syms g) e zs (ints sl) es zf (rws fs) ef i _) ?_
      cases q1 : factB g r.l
      · simp [-Bool.exists_bool, -getElem?_pos, -Int.natCast_add, rws_len, hi, hsl', rws_at hr, hf, q1]
      by_cases q2 : whereM (fl fs) r.l = i
      rotate_left
      · simp [-Bool.exists_bool, -getElem?_pos, -Int.natCast_add, rws_len, hi, hsl', rws_at hr, hf, q1, hwh, q2]
      by_cases q3 : 0 ≤ lastM sl i
      rotate_left
      · have hn : lastM sl i < 0 := by omega
        simp [-Bool.exists_bool, -getElem?_pos, -Int.natCast_add, rws_len, hi, hsl', rws_at hr, hf, q1, hwh, q2, hn, q3]
      rw [q1] at hq
      simp [q2, q3] at hq
      have hsm := fact_small q1
      have hsum := w_rsum hsm.2 hsm.1 r.z r.e
      have hh := hashM_lt r.l
      have hlm := lastM_lt sl (i : Int)
      have hro := road i (lastM sl i).toNat ((hashM r.l).toNat % 32) (by omega) (Nat.mod_lt _ (by omega)) hi
      rw [hq] at hro
      simp only [Bool.false_eq_true, if_false] at hro
      have hm : Int.tmod (hashM r.l) 32 = (((hashM r.l).toNat % 32 : Nat) : Int) := by rw [Int.tmod_eq_emod_of_nonneg hh.1]; omega
      rw [← hm, show (((lastM sl i).toNat : Nat) : Int) = lastM sl i by omega] at hro
      have hn : ¬ lastM sl i < 0 := by omega
      simp [-Bool.exists_bool, -getElem?_pos, -Int.natCast_add, rws_len, hi, hsl', rws_at hr, hf, q1, hwh, q2, hn, q3, hsum, hro])
    (wpQ_way (q15_l2a _ _ z (syms g) e zs (ints sl) es zf (rws fs) ef fs.length _) (by simp [rws_len])) 0 (Nat.zero_le _) with ⟨h5, h6⟩ | ⟨⟨j, h5, h7, h8⟩, h6⟩
  · have htb : rtblB g sl (fl fs) = true := by
      unfold rtblB
      rw [fl_len, hall]
      simp only [hg, h32, h24, htk, decide_true, Bool.true_and, beq_self_eq_true, List.all_eq_true, List.mem_range]
      exact fun i hi => h5 i (Nat.zero_le _) hi
    simp only [Int.natCast_zero] at h6
    simp [-Bool.exists_bool, h1, hg, h32, h24, e24, ints_len, rws_len, b2, htk, h6, htb]
  · have htb : rtblB g sl (fl fs) = false := by
      unfold rtblB
      rw [fl_len, hall]
      simp only [hg, h32, h24, htk, decide_true, Bool.true_and, beq_self_eq_true]
      rw [List.all_eq_false]
      exact ⟨j, List.mem_range.2 h7, fun hc => absurd (hc.symm.trans h8) (by decide)⟩
    simp only [Int.natCast_zero] at h6
    simp [-Bool.exists_bool, h1, hg, h32, h24, e24, ints_len, rws_len, b2, htk, h6, htb]
theorem w_rhas (hsl : Len sl) (hfs : fs.length * 24 ≤ 140737488351232) (hrows : ∀ r ∈ fs, Len r.l) (z z' : Bool) (g : List Sym) (e e' : List D) (a : List Int) : C 13 [iG z g e, iT zs sl es zf fs ef, iS z' a e'] = some (.tup [iB ((rtblB g sl (fl fs) && factB g a) && decide (0 ≤ whereM (fl fs) a)), iI (if (rtblB g sl (fl fs) && factB g a) = true then 0 else 1100)], [iG z g e, iT zs sl es zf fs ef, iS z' a e']) := by
  refine wfn (lk := []) rfl rfl (fnW_way (q13 _ _ z (syms g) e zs (ints sl) es zf (rws fs) ef z' (ints a) e' _) ?_)
  have h1 := w_rtmay zs zf es ef hsl hfs hrows z g e
  have h2 := w_isfact z z' g e e' a
  have hs := w_where zs zf es ef (sl := sl) hfs hrows a z' e'
  cases ht : rtblB g sl (fl fs)
  · simp [h1, ht]
  cases hf : factB g a
  · simp [h1, h2, ht, hf]
  by_cases h0 : 0 ≤ whereM (fl fs) a
  · simp [h1, h2, ht, hf, hs, h0]
  · simp [h1, h2, ht, hf, hs, h0]; omega
theorem w_copytable (hsl : Len sl) (hfs : fs.length * 24 ≤ 140737488351232) (hrows : ∀ r ∈ fs, Len r.l) : C 9 [iT zs sl es zf fs ef] = some (.agg [.own false 3 1 (ints sl), .own fs.isEmpty 23 1 (rws (fs.map fresh))], [iT zs sl es zf fs ef]) := by
  refine wfn (lk := []) rfl rfl (fnW_way (q9 _ _ zs (ints sl) es zf (rws fs) ef _) ?_)
  simp [-Bool.exists_bool, w_copyints hsl, w_copyrows hfs hrows]
theorem w_sametable (hsl : Len sl) (hfs : fs.length * 24 ≤ 140737488351232) (hrows : ∀ r ∈ fs, Len r.l) (sl' : List Int) (fs' : List Row) (zs' zf' : Bool) (es' ef' : List D) : C 17 [iT zs sl es zf fs ef, iT zs' sl' es' zf' fs' ef'] = some (iB (decide (sl = sl' ∧ fl fs = fl fs')), [iT zs sl es zf fs ef, iT zs' sl' es' zf' fs' ef']) := by
  refine wfn (lk := []) rfl rfl (fnW_way (q17 _ _ zs (ints sl) es zf (rws fs) ef zs' (ints sl') es' zf' (rws fs') ef' _) ?_)
  have h1 := w_sameints hsl sl' zs zs' es es'
  have h2 := w_samerows hfs hrows fs' zf zf' ef ef'
  by_cases h3 : sl = sl'
  · subst h3
    have h1' : C 40 [iS zs sl es, iS zs' sl es'] = some (iB true, [iS zs sl es, iS zs' sl es']) := by rw [h1, decide_eq_true rfl]
    by_cases h4 : fl fs = fl fs'
    · have h2' : C 28 [iR zf fs ef, iR zf' fs' ef'] = some (iB true, [iR zf fs ef, iR zf' fs' ef']) := by rw [h2]; exact congrArg (fun b => some (iB b, _)) (decide_eq_true h4)
      simp [-Bool.exists_bool, h1', h2', h4]
    · have h2' : C 28 [iR zf fs ef, iR zf' fs' ef'] = some (iB false, [iR zf fs ef, iR zf' fs' ef']) := by rw [h2]; exact congrArg (fun b => some (iB b, _)) (decide_eq_false h4)
      simp [-Bool.exists_bool, h1', h2', h4]
  · simp [-Bool.exists_bool, h1, h3]
end
theorem w_new : C 18 [] = some (.agg [.own false 3 1 (ints (List.replicate 32 (-1))), .d (.sl 1 true [] [])], []) := W_ev (n := 60) (by kernel_rfl)
theorem w_rnew : C 19 [] = some (.agg [.own false 3 1 (ints (List.replicate 32 (-1))), .d (.sl 1 true [] [])], []) := W_ev (n := 60) (by kernel_rfl)
end Go.Proofs.YtckhlalpnginjaaDoor.Ab
