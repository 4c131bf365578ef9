/- Written by a program of this session (wip/tools/AbSym.lean). Not trusted: Lean checks it. -/
import Derived.Test.YthemimhlhjfdaaaDoorPointDenied0
import Derived.Test.YthemimhlhjfdaaaDoorPointDenied1
import Derived.Test.YthemimhlhjfdaaaDoorPointDenied2
import Derived.Test.YthemimhlhjfdaaaDoorPointDenied3
import Derived.Test.YthemimhlhjfdaaaDoorPointDenied4
import Derived.Test.YthemimhlhjfdaaaDoorPointDenied5
import Derived.Test.YthemimhlhjfdaaaDoorPointDenied6
import Derived.Test.YthemimhlhjfdaaaDoorPointDenied7
import Derived.Test.YthemimhlhjfdaaaDoorPointDenied8
import Derived.Test.YthemimhlhjfdaaaDoorPointDenied9
import Derived.Test.YthemimhlhjfdaaaDoorPointDenied10
import Derived.Test.YthemimhlhjfdaaaDoorPointDenied11
set_option maxRecDepth 100000
set_option linter.unusedVariables false
namespace Go.Proofs.YthemimhlhjfdaaaDoor.Ab
open Go Go.Ab Go.Proofs
theorem q64_0 {C J} (i1 : Int) (h0 : i1 ≥ 97) (h1 : i1 ≤ 122) : evFnJ F C J d64 [.d (.int .u8 i1)] = some (IV.d (D.bool true), [IV.d (D.int IntKind.u8 i1)]) := fnW_way (q64 C J i1 _) (condW_t (decide_eq_true h0) (condW_t (decide_eq_true h1) (rfl)))
theorem q64_1 {C J} (i1 : Int) (h0 : i1 ≥ 97) (h1 : ¬i1 ≤ 122) : evFnJ F C J d64 [.d (.int .u8 i1)] = some (IV.d (D.bool false), [IV.d (D.int IntKind.u8 i1)]) := fnW_way (q64 C J i1 _) (condW_t (decide_eq_true h0) (condW_f (decide_eq_false h1) (rfl)))
theorem q64_2 {C J} (i1 : Int) (h0 : ¬i1 ≥ 97) : evFnJ F C J d64 [.d (.int .u8 i1)] = some (IV.d (D.bool false), [IV.d (D.int IntKind.u8 i1)]) := fnW_way (q64 C J i1 _) (condW_f (decide_eq_false h0) (rfl))
theorem q57 (C J) (s1 : ByteArray) (i2 : Int) (i3 : Int) (i4 : Int) (Q) : fnW F C R (L57) J d57 [.d (.agg [.str s1, .int .i64 i2, .int .i64 i3, .int .i64 i4])] Q = (condW (decide ((↑(ByteArray.size s1) : Int) < 1)) (Q (some (IV.d (D.bool false), [IV.d (D.agg [D.str s1, D.int IntKind.i64 i2, D.int IntKind.i64 i3, D.int IntKind.i64 i4])]))) (condW (decide ((↑(ByteArray.size s1) : Int) > 8)) (Q (some (IV.d (D.bool false), [IV.d (D.agg [D.str s1, D.int IntKind.i64 i2, D.int IntKind.i64 i3, D.int IntKind.i64 i4])]))) (condW (decide (0 < (↑(ByteArray.size s1) : Int))) (∃ w0 w1, C 64 [IV.d (D.int IntKind.u8 (byteAt s1 (Int.toNat 0)))] = some (IV.d (D.bool w0), [w1]) ∧ condW w0 ((∃ w2, evP F C J d57 [] [1, 1, 0, 1] [(1, IV.dbox 77 0 [D.str s1, D.int IntKind.i64 i2, D.int IntKind.i64 i3, D.int IntKind.i64 i4]), (3, IV.d (D.int IntKind.i64 0))] = some (Out.ret [(2, IV.d (D.bool w2))]) ∧ Q (some (IV.d (D.bool w2), [IV.d (D.agg [D.str s1, D.int IntKind.i64 i2, D.int IntKind.i64 i3, D.int IntKind.i64 i4])]))) ∨ ∃ w3 w4 w5 w6 w7, evP F C J d57 [] [1, 1, 0, 1] [(1, IV.dbox 77 0 [D.str s1, D.int IntKind.i64 i2, D.int IntKind.i64 i3, D.int IntKind.i64 i4]), (3, IV.d (D.int IntKind.i64 0))] = some (Out.norm [(1, IV.dbox 77 0 [D.str w3, D.int IntKind.i64 w4, D.int IntKind.i64 w5, D.int IntKind.i64 w6]), (3, IV.d (D.int IntKind.i64 w7))]) ∧ condW (decide (w4 ≥ 0)) (condW (decide (w4 ≤ 2)) (condW (decide (w5 ≥ 0)) (condW (decide (w5 ≤ 3)) (condW (decide (w6 ≥ 1)) (condW (decide (w6 ≤ 20)) (Q (some (IV.d (D.bool true), [IV.d (D.agg [D.str s1, D.int IntKind.i64 i2, D.int IntKind.i64 i3, D.int IntKind.i64 i4])]))) (Q (some (IV.d (D.bool false), [IV.d (D.agg [D.str s1, D.int IntKind.i64 i2, D.int IntKind.i64 i3, D.int IntKind.i64 i4])])))) (Q (some (IV.d (D.bool false), [IV.d (D.agg [D.str s1, D.int IntKind.i64 i2, D.int IntKind.i64 i3, D.int IntKind.i64 i4])])))) (Q (some (IV.d (D.bool false), [IV.d (D.agg [D.str s1, D.int IntKind.i64 i2, D.int IntKind.i64 i3, D.int IntKind.i64 i4])])))) (Q (some (IV.d (D.bool false), [IV.d (D.agg [D.str s1, D.int IntKind.i64 i2, D.int IntKind.i64 i3, D.int IntKind.i64 i4])])))) (Q (some (IV.d (D.bool false), [IV.d (D.agg [D.str s1, D.int IntKind.i64 i2, D.int IntKind.i64 i3, D.int IntKind.i64 i4])])))) (Q (some (IV.d (D.bool false), [IV.d (D.agg [D.str s1, D.int IntKind.i64 i2, D.int IntKind.i64 i3, D.int IntKind.i64 i4])])))) (Q (some (IV.d (D.bool false), [IV.d (D.agg [D.str s1, D.int IntKind.i64 i2, D.int IntKind.i64 i3, D.int IntKind.i64 i4])])))) False))) := by kernel_rfl
theorem q57_0 {C J} (s1 : ByteArray) (i2 : Int) (i3 : Int) (i4 : Int) (h0 : (↑(ByteArray.size s1) : Int) < 1) : evFnJ F C J d57 [.d (.agg [.str s1, .int .i64 i2, .int .i64 i3, .int .i64 i4])] = some (IV.d (D.bool false), [IV.d (D.agg [D.str s1, D.int IntKind.i64 i2, D.int IntKind.i64 i3, D.int IntKind.i64 i4])]) := fnW_way (q57 C J s1 i2 i3 i4 _) (condW_t (decide_eq_true h0) (rfl))
theorem q57_1 {C J} (s1 : ByteArray) (i2 : Int) (i3 : Int) (i4 : Int) (h0 : ¬(↑(ByteArray.size s1) : Int) < 1) (h1 : (↑(ByteArray.size s1) : Int) > 8) : evFnJ F C J d57 [.d (.agg [.str s1, .int .i64 i2, .int .i64 i3, .int .i64 i4])] = some (IV.d (D.bool false), [IV.d (D.agg [D.str s1, D.int IntKind.i64 i2, D.int IntKind.i64 i3, D.int IntKind.i64 i4])]) := fnW_way (q57 C J s1 i2 i3 i4 _) (condW_f (decide_eq_false h0) (condW_t (decide_eq_true h1) (rfl)))
theorem q57_2 {C J} (s1 : ByteArray) (i2 : Int) (i3 : Int) (i4 : Int) (v0 : Bool) (v1 : IV) (v2 : Bool) (h0 : ¬(↑(ByteArray.size s1) : Int) < 1) (h1 : ¬(↑(ByteArray.size s1) : Int) > 8) (h2 : 0 < (↑(ByteArray.size s1) : Int)) (h3 : C 64 [IV.d (D.int IntKind.u8 (byteAt s1 (Int.toNat 0)))] = some (IV.d (D.bool v0), [v1])) (h4 : v0 = true) (h5 : evP F C J d57 [] [1, 1, 0, 1] [(1, IV.dbox 77 0 [D.str s1, D.int IntKind.i64 i2, D.int IntKind.i64 i3, D.int IntKind.i64 i4]), (3, IV.d (D.int IntKind.i64 0))] = some (Out.ret [(2, IV.d (D.bool v2))])) : evFnJ F C J d57 [.d (.agg [.str s1, .int .i64 i2, .int .i64 i3, .int .i64 i4])] = some (IV.d (D.bool v2), [IV.d (D.agg [D.str s1, D.int IntKind.i64 i2, D.int IntKind.i64 i3, D.int IntKind.i64 i4])]) := fnW_way (q57 C J s1 i2 i3 i4 _) (condW_f (decide_eq_false h0) (condW_f (decide_eq_false h1) (condW_t (decide_eq_true h2) (Exists.intro v0 (Exists.intro v1 (And.intro h3 (condW_t h4 (Or.inl (Exists.intro v2 (And.intro h5 (rfl)))))))))))
theorem q57_3 {C J} (s1 : ByteArray) (i2 : Int) (i3 : Int) (i4 : Int) (v0 : Bool) (v1 : IV) (v2 : ByteArray) (v3 : Int) (v4 : Int) (v5 : Int) (v6 : Int) (h0 : ¬(↑(ByteArray.size s1) : Int) < 1) (h1 : ¬(↑(ByteArray.size s1) : Int) > 8) (h2 : 0 < (↑(ByteArray.size s1) : Int)) (h3 : C 64 [IV.d (D.int IntKind.u8 (byteAt s1 (Int.toNat 0)))] = some (IV.d (D.bool v0), [v1])) (h4 : v0 = true) (h5 : evP F C J d57 [] [1, 1, 0, 1] [(1, IV.dbox 77 0 [D.str s1, D.int IntKind.i64 i2, D.int IntKind.i64 i3, D.int IntKind.i64 i4]), (3, IV.d (D.int IntKind.i64 0))] = some (Out.norm [(1, IV.dbox 77 0 [D.str v2, D.int IntKind.i64 v3, D.int IntKind.i64 v4, D.int IntKind.i64 v5]), (3, IV.d (D.int IntKind.i64 v6))])) (h6 : v3 ≥ 0) (h7 : v3 ≤ 2) (h8 : v4 ≥ 0) (h9 : v4 ≤ 3) (h10 : v5 ≥ 1) (h11 : v5 ≤ 20) : evFnJ F C J d57 [.d (.agg [.str s1, .int .i64 i2, .int .i64 i3, .int .i64 i4])] = some (IV.d (D.bool true), [IV.d (D.agg [D.str s1, D.int IntKind.i64 i2, D.int IntKind.i64 i3, D.int IntKind.i64 i4])]) := fnW_way (q57 C J s1 i2 i3 i4 _) (condW_f (decide_eq_false h0) (condW_f (decide_eq_false h1) (condW_t (decide_eq_true h2) (Exists.intro v0 (Exists.intro v1 (And.intro h3 (condW_t h4 (Or.inr (Exists.intro v2 (Exists.intro v3 (Exists.intro v4 (Exists.intro v5 (Exists.intro v6 (And.intro h5 (condW_t (decide_eq_true h6) (condW_t (decide_eq_true h7) (condW_t (decide_eq_true h8) (condW_t (decide_eq_true h9) (condW_t (decide_eq_true h10) (condW_t (decide_eq_true h11) (rfl)))))))))))))))))))))
theorem q57_4 {C J} (s1 : ByteArray) (i2 : Int) (i3 : Int) (i4 : Int) (v0 : Bool) (v1 : IV) (v2 : ByteArray) (v3 : Int) (v4 : Int) (v5 : Int) (v6 : Int) (h0 : ¬(↑(ByteArray.size s1) : Int) < 1) (h1 : ¬(↑(ByteArray.size s1) : Int) > 8) (h2 : 0 < (↑(ByteArray.size s1) : Int)) (h3 : C 64 [IV.d (D.int IntKind.u8 (byteAt s1 (Int.toNat 0)))] = some (IV.d (D.bool v0), [v1])) (h4 : v0 = true) (h5 : evP F C J d57 [] [1, 1, 0, 1] [(1, IV.dbox 77 0 [D.str s1, D.int IntKind.i64 i2, D.int IntKind.i64 i3, D.int IntKind.i64 i4]), (3, IV.d (D.int IntKind.i64 0))] = some (Out.norm [(1, IV.dbox 77 0 [D.str v2, D.int IntKind.i64 v3, D.int IntKind.i64 v4, D.int IntKind.i64 v5]), (3, IV.d (D.int IntKind.i64 v6))])) (h6 : v3 ≥ 0) (h7 : v3 ≤ 2) (h8 : v4 ≥ 0) (h9 : v4 ≤ 3) (h10 : v5 ≥ 1) (h11 : ¬v5 ≤ 20) : evFnJ F C J d57 [.d (.agg [.str s1, .int .i64 i2, .int .i64 i3, .int .i64 i4])] = some (IV.d (D.bool false), [IV.d (D.agg [D.str s1, D.int IntKind.i64 i2, D.int IntKind.i64 i3, D.int IntKind.i64 i4])]) := fnW_way (q57 C J s1 i2 i3 i4 _) (condW_f (decide_eq_false h0) (condW_f (decide_eq_false h1) (condW_t (decide_eq_true h2) (Exists.intro v0 (Exists.intro v1 (And.intro h3 (condW_t h4 (Or.inr (Exists.intro v2 (Exists.intro v3 (Exists.intro v4 (Exists.intro v5 (Exists.intro v6 (And.intro h5 (condW_t (decide_eq_true h6) (condW_t (decide_eq_true h7) (condW_t (decide_eq_true h8) (condW_t (decide_eq_true h9) (condW_t (decide_eq_true h10) (condW_f (decide_eq_false h11) (rfl)))))))))))))))))))))
theorem q57_5 {C J} (s1 : ByteArray) (i2 : Int) (i3 : Int) (i4 : Int) (v0 : Bool) (v1 : IV) (v2 : ByteArray) (v3 : Int) (v4 : Int) (v5 : Int) (v6 : Int) (h0 : ¬(↑(ByteArray.size s1) : Int) < 1) (h1 : ¬(↑(ByteArray.size s1) : Int) > 8) (h2 : 0 < (↑(ByteArray.size s1) : Int)) (h3 : C 64 [IV.d (D.int IntKind.u8 (byteAt s1 (Int.toNat 0)))] = some (IV.d (D.bool v0), [v1])) (h4 : v0 = true) (h5 : evP F C J d57 [] [1, 1, 0, 1] [(1, IV.dbox 77 0 [D.str s1, D.int IntKind.i64 i2, D.int IntKind.i64 i3, D.int IntKind.i64 i4]), (3, IV.d (D.int IntKind.i64 0))] = some (Out.norm [(1, IV.dbox 77 0 [D.str v2, D.int IntKind.i64 v3, D.int IntKind.i64 v4, D.int IntKind.i64 v5]), (3, IV.d (D.int IntKind.i64 v6))])) (h6 : v3 ≥ 0) (h7 : v3 ≤ 2) (h8 : v4 ≥ 0) (h9 : v4 ≤ 3) (h10 : ¬v5 ≥ 1) : evFnJ F C J d57 [.d (.agg [.str s1, .int .i64 i2, .int .i64 i3, .int .i64 i4])] = some (IV.d (D.bool false), [IV.d (D.agg [D.str s1, D.int IntKind.i64 i2, D.int IntKind.i64 i3, D.int IntKind.i64 i4])]) := fnW_way (q57 C J s1 i2 i3 i4 _) (condW_f (decide_eq_false h0) (condW_f (decide_eq_false h1) (condW_t (decide_eq_true h2) (Exists.intro v0 (Exists.intro v1 (And.intro h3 (condW_t h4 (Or.inr (Exists.intro v2 (Exists.intro v3 (Exists.intro v4 (Exists.intro v5 (Exists.intro v6 (And.intro h5 (condW_t (decide_eq_true h6) (condW_t (decide_eq_true h7) (condW_t (decide_eq_true h8) (condW_t (decide_eq_true h9) (condW_f (decide_eq_false h10) (rfl))))))))))))))))))))
theorem q57_6 {C J} (s1 : ByteArray) (i2 : Int) (i3 : Int) (i4 : Int) (v0 : Bool) (v1 : IV) (v2 : ByteArray) (v3 : Int) (v4 : Int) (v5 : Int) (v6 : Int) (h0 : ¬(↑(ByteArray.size s1) : Int) < 1) (h1 : ¬(↑(ByteArray.size s1) : Int) > 8) (h2 : 0 < (↑(ByteArray.size s1) : Int)) (h3 : C 64 [IV.d (D.int IntKind.u8 (byteAt s1 (Int.toNat 0)))] = some (IV.d (D.bool v0), [v1])) (h4 : v0 = true) (h5 : evP F C J d57 [] [1, 1, 0, 1] [(1, IV.dbox 77 0 [D.str s1, D.int IntKind.i64 i2, D.int IntKind.i64 i3, D.int IntKind.i64 i4]), (3, IV.d (D.int IntKind.i64 0))] = some (Out.norm [(1, IV.dbox 77 0 [D.str v2, D.int IntKind.i64 v3, D.int IntKind.i64 v4, D.int IntKind.i64 v5]), (3, IV.d (D.int IntKind.i64 v6))])) (h6 : v3 ≥ 0) (h7 : v3 ≤ 2) (h8 : v4 ≥ 0) (h9 : ¬v4 ≤ 3) : evFnJ F C J d57 [.d (.agg [.str s1, .int .i64 i2, .int .i64 i3, .int .i64 i4])] = some (IV.d (D.bool false), [IV.d (D.agg [D.str s1, D.int IntKind.i64 i2, D.int IntKind.i64 i3, D.int IntKind.i64 i4])]) := fnW_way (q57 C J s1 i2 i3 i4 _) (condW_f (decide_eq_false h0) (condW_f (decide_eq_false h1) (condW_t (decide_eq_true h2) (Exists.intro v0 (Exists.intro v1 (And.intro h3 (condW_t h4 (Or.inr (Exists.intro v2 (Exists.intro v3 (Exists.intro v4 (Exists.intro v5 (Exists.intro v6 (And.intro h5 (condW_t (decide_eq_true h6) (condW_t (decide_eq_true h7) (condW_t (decide_eq_true h8) (condW_f (decide_eq_false h9) (rfl)))))))))))))))))))
theorem q57_7 {C J} (s1 : ByteArray) (i2 : Int) (i3 : Int) (i4 : Int) (v0 : Bool) (v1 : IV) (v2 : ByteArray) (v3 : Int) (v4 : Int) (v5 : Int) (v6 : Int) (h0 : ¬(↑(ByteArray.size s1) : Int) < 1) (h1 : ¬(↑(ByteArray.size s1) : Int) > 8) (h2 : 0 < (↑(ByteArray.size s1) : Int)) (h3 : C 64 [IV.d (D.int IntKind.u8 (byteAt s1 (Int.toNat 0)))] = some (IV.d (D.bool v0), [v1])) (h4 : v0 = true) (h5 : evP F C J d57 [] [1, 1, 0, 1] [(1, IV.dbox 77 0 [D.str s1, D.int IntKind.i64 i2, D.int IntKind.i64 i3, D.int IntKind.i64 i4]), (3, IV.d (D.int IntKind.i64 0))] = some (Out.norm [(1, IV.dbox 77 0 [D.str v2, D.int IntKind.i64 v3, D.int IntKind.i64 v4, D.int IntKind.i64 v5]), (3, IV.d (D.int IntKind.i64 v6))])) (h6 : v3 ≥ 0) (h7 : v3 ≤ 2) (h8 : ¬v4 ≥ 0) : evFnJ F C J d57 [.d (.agg [.str s1, .int .i64 i2, .int .i64 i3, .int .i64 i4])] = some (IV.d (D.bool false), [IV.d (D.agg [D.str s1, D.int IntKind.i64 i2, D.int IntKind.i64 i3, D.int IntKind.i64 i4])]) := fnW_way (q57 C J s1 i2 i3 i4 _) (condW_f (decide_eq_false h0) (condW_f (decide_eq_false h1) (condW_t (decide_eq_true h2) (Exists.intro v0 (Exists.intro v1 (And.intro h3 (condW_t h4 (Or.inr (Exists.intro v2 (Exists.intro v3 (Exists.intro v4 (Exists.intro v5 (Exists.intro v6 (And.intro h5 (condW_t (decide_eq_true h6) (condW_t (decide_eq_true h7) (condW_f (decide_eq_false h8) (rfl))))))))))))))))))
theorem q57_8 {C J} (s1 : ByteArray) (i2 : Int) (i3 : Int) (i4 : Int) (v0 : Bool) (v1 : IV) (v2 : ByteArray) (v3 : Int) (v4 : Int) (v5 : Int) (v6 : Int) (h0 : ¬(↑(ByteArray.size s1) : Int) < 1) (h1 : ¬(↑(ByteArray.size s1) : Int) > 8) (h2 : 0 < (↑(ByteArray.size s1) : Int)) (h3 : C 64 [IV.d (D.int IntKind.u8 (byteAt s1 (Int.toNat 0)))] = some (IV.d (D.bool v0), [v1])) (h4 : v0 = true) (h5 : evP F C J d57 [] [1, 1, 0, 1] [(1, IV.dbox 77 0 [D.str s1, D.int IntKind.i64 i2, D.int IntKind.i64 i3, D.int IntKind.i64 i4]), (3, IV.d (D.int IntKind.i64 0))] = some (Out.norm [(1, IV.dbox 77 0 [D.str v2, D.int IntKind.i64 v3, D.int IntKind.i64 v4, D.int IntKind.i64 v5]), (3, IV.d (D.int IntKind.i64 v6))])) (h6 : v3 ≥ 0) (h7 : ¬v3 ≤ 2) : evFnJ F C J d57 [.d (.agg [.str s1, .int .i64 i2, .int .i64 i3, .int .i64 i4])] = some (IV.d (D.bool false), [IV.d (D.agg [D.str s1, D.int IntKind.i64 i2, D.int IntKind.i64 i3, D.int IntKind.i64 i4])]) := fnW_way (q57 C J s1 i2 i3 i4 _) (condW_f (decide_eq_false h0) (condW_f (decide_eq_false h1) (condW_t (decide_eq_true h2) (Exists.intro v0 (Exists.intro v1 (And.intro h3 (condW_t h4 (Or.inr (Exists.intro v2 (Exists.intro v3 (Exists.intro v4 (Exists.intro v5 (Exists.intro v6 (And.intro h5 (condW_t (decide_eq_true h6) (condW_f (decide_eq_false h7) (rfl)))))))))))))))))
theorem q57_9 {C J} (s1 : ByteArray) (i2 : Int) (i3 : Int) (i4 : Int) (v0 : Bool) (v1 : IV) (v2 : ByteArray) (v3 : Int) (v4 : Int) (v5 : Int) (v6 : Int) (h0 : ¬(↑(ByteArray.size s1) : Int) < 1) (h1 : ¬(↑(ByteArray.size s1) : Int) > 8) (h2 : 0 < (↑(ByteArray.size s1) : Int)) (h3 : C 64 [IV.d (D.int IntKind.u8 (byteAt s1 (Int.toNat 0)))] = some (IV.d (D.bool v0), [v1])) (h4 : v0 = true) (h5 : evP F C J d57 [] [1, 1, 0, 1] [(1, IV.dbox 77 0 [D.str s1, D.int IntKind.i64 i2, D.int IntKind.i64 i3, D.int IntKind.i64 i4]), (3, IV.d (D.int IntKind.i64 0))] = some (Out.norm [(1, IV.dbox 77 0 [D.str v2, D.int IntKind.i64 v3, D.int IntKind.i64 v4, D.int IntKind.i64 v5]), (3, IV.d (D.int IntKind.i64 v6))])) (h6 : ¬v3 ≥ 0) : evFnJ F C J d57 [.d (.agg [.str s1, .int .i64 i2, .int .i64 i3, .int .i64 i4])] = some (IV.d (D.bool false), [IV.d (D.agg [D.str s1, D.int IntKind.i64 i2, D.int IntKind.i64 i3, D.int IntKind.i64 i4])]) := fnW_way (q57 C J s1 i2 i3 i4 _) (condW_f (decide_eq_false h0) (condW_f (decide_eq_false h1) (condW_t (decide_eq_true h2) (Exists.intro v0 (Exists.intro v1 (And.intro h3 (condW_t h4 (Or.inr (Exists.intro v2 (Exists.intro v3 (Exists.intro v4 (Exists.intro v5 (Exists.intro v6 (And.intro h5 (condW_f (decide_eq_false h6) (rfl))))))))))))))))
theorem q57_10 {C J} (s1 : ByteArray) (i2 : Int) (i3 : Int) (i4 : Int) (v0 : Bool) (v1 : IV) (h0 : ¬(↑(ByteArray.size s1) : Int) < 1) (h1 : ¬(↑(ByteArray.size s1) : Int) > 8) (h2 : 0 < (↑(ByteArray.size s1) : Int)) (h3 : C 64 [IV.d (D.int IntKind.u8 (byteAt s1 (Int.toNat 0)))] = some (IV.d (D.bool v0), [v1])) (h4 : v0 = false) : evFnJ F C J d57 [.d (.agg [.str s1, .int .i64 i2, .int .i64 i3, .int .i64 i4])] = some (IV.d (D.bool false), [IV.d (D.agg [D.str s1, D.int IntKind.i64 i2, D.int IntKind.i64 i3, D.int IntKind.i64 i4])]) := fnW_way (q57 C J s1 i2 i3 i4 _) (condW_f (decide_eq_false h0) (condW_f (decide_eq_false h1) (condW_t (decide_eq_true h2) (Exists.intro v0 (Exists.intro v1 (And.intro h3 (condW_f h4 (rfl))))))))
theorem q57_l0a (C J) (s1 : ByteArray) (i2 : Int) (i3 : Int) (i4 : Int) (i5 : Int) (Q) : wpQ F C R (L57) J d57 [] [1,1,0,1,0,0] [(1, .dbox 77 0 [.str s1, .int .i64 i2, .int .i64 i3, .int .i64 i4]), (3, .d (.int .i64 i5))] Q = (condW (decide (i5 < (↑(ByteArray.size s1) : Int))) (condW (decide (0 ≤ i5)) (condW (decide (i5 < (↑(ByteArray.size s1) : Int))) (∃ w0 w1, C 64 [IV.d (D.int IntKind.u8 (byteAt s1 (Int.toNat i5)))] = some (IV.d (D.bool w0), [w1]) ∧ condW w0 (Q (Out.norm [(1, IV.dbox 77 0 [D.str s1, D.int IntKind.i64 i2, D.int IntKind.i64 i3, D.int IntKind.i64 i4]), (3, IV.d (D.int IntKind.i64 (IntKind.wrap IntKind.i64 (i5 + 1))))])) (condW (decide (0 ≤ i5)) (condW (decide (i5 < (↑(ByteArray.size s1) : Int))) (condW (decide (byteAt s1 (Int.toNat i5) < 48)) (Q (Out.ret [(2, IV.d (D.bool false))])) (condW (decide (0 ≤ i5)) (condW (decide (i5 < (↑(ByteArray.size s1) : Int))) (condW (decide (byteAt s1 (Int.toNat i5) > 57)) (Q (Out.ret [(2, IV.d (D.bool false))])) (Q (Out.norm [(1, IV.dbox 77 0 [D.str s1, D.int IntKind.i64 i2, D.int IntKind.i64 i3, D.int IntKind.i64 i4]), (3, IV.d (D.int IntKind.i64 (IntKind.wrap IntKind.i64 (i5 + 1))))]))) False) False)) False) False)) False) False) (Q (Out.exit 0 [(1, IV.dbox 77 0 [D.str s1, D.int IntKind.i64 i2, D.int IntKind.i64 i3, D.int IntKind.i64 i4]), (3, IV.d (D.int IntKind.i64 i5))]))) := by kernel_rfl
theorem q57_l0a_0 {C J} (s1 : ByteArray) (i2 : Int) (i3 : Int) (i4 : Int) (i5 : Int) (v0 : Bool) (v1 : IV) (h0 : i5 < (↑(ByteArray.size s1) : Int)) (h1 : 0 ≤ i5) (h2 : C 64 [IV.d (D.int IntKind.u8 (byteAt s1 (Int.toNat i5)))] = some (IV.d (D.bool v0), [v1])) (h3 : v0 = true) : evP F C J d57 [] [1,1,0,1,0,0] [(1, .dbox 77 0 [.str s1, .int .i64 i2, .int .i64 i3, .int .i64 i4]), (3, .d (.int .i64 i5))] = some (Out.norm [(1, IV.dbox 77 0 [D.str s1, D.int IntKind.i64 i2, D.int IntKind.i64 i3, D.int IntKind.i64 i4]), (3, IV.d (D.int IntKind.i64 (IntKind.wrap IntKind.i64 (i5 + 1))))]) := wpQ_way (q57_l0a C J s1 i2 i3 i4 i5 _) (condW_t (decide_eq_true h0) (condW_t (decide_eq_true h1) (condW_t (decide_eq_true h0) (Exists.intro v0 (Exists.intro v1 (And.intro h2 (condW_t h3 (rfl))))))))
theorem q57_l0a_1 {C J} (s1 : ByteArray) (i2 : Int) (i3 : Int) (i4 : Int) (i5 : Int) (v0 : Bool) (v1 : IV) (h0 : i5 < (↑(ByteArray.size s1) : Int)) (h1 : 0 ≤ i5) (h2 : C 64 [IV.d (D.int IntKind.u8 (byteAt s1 (Int.toNat i5)))] = some (IV.d (D.bool v0), [v1])) (h3 : v0 = false) (h4 : byteAt s1 (Int.toNat i5) < 48) : evP F C J d57 [] [1,1,0,1,0,0] [(1, .dbox 77 0 [.str s1, .int .i64 i2, .int .i64 i3, .int .i64 i4]), (3, .d (.int .i64 i5))] = some (Out.ret [(2, IV.d (D.bool false))]) := wpQ_way (q57_l0a C J s1 i2 i3 i4 i5 _) (condW_t (decide_eq_true h0) (condW_t (decide_eq_true h1) (condW_t (decide_eq_true h0) (Exists.intro v0 (Exists.intro v1 (And.intro h2 (condW_f h3 (condW_t (decide_eq_true h1) (condW_t (decide_eq_true h0) (condW_t (decide_eq_true h4) (rfl)))))))))))
theorem q57_l0a_2 {C J} (s1 : ByteArray) (i2 : Int) (i3 : Int) (i4 : Int) (i5 : Int) (v0 : Bool) (v1 : IV) (h0 : i5 < (↑(ByteArray.size s1) : Int)) (h1 : 0 ≤ i5) (h2 : C 64 [IV.d (D.int IntKind.u8 (byteAt s1 (Int.toNat i5)))] = some (IV.d (D.bool v0), [v1])) (h3 : v0 = false) (h4 : ¬byteAt s1 (Int.toNat i5) < 48) (h5 : byteAt s1 (Int.toNat i5) > 57) : evP F C J d57 [] [1,1,0,1,0,0] [(1, .dbox 77 0 [.str s1, .int .i64 i2, .int .i64 i3, .int .i64 i4]), (3, .d (.int .i64 i5))] = some (Out.ret [(2, IV.d (D.bool false))]) := wpQ_way (q57_l0a C J s1 i2 i3 i4 i5 _) (condW_t (decide_eq_true h0) (condW_t (decide_eq_true h1) (condW_t (decide_eq_true h0) (Exists.intro v0 (Exists.intro v1 (And.intro h2 (condW_f h3 (condW_t (decide_eq_true h1) (condW_t (decide_eq_true h0) (condW_f (decide_eq_false h4) (condW_t (decide_eq_true h1) (condW_t (decide_eq_true h0) (condW_t (decide_eq_true h5) (rfl))))))))))))))
theorem q57_l0a_3 {C J} (s1 : ByteArray) (i2 : Int) (i3 : Int) (i4 : Int) (i5 : Int) (v0 : Bool) (v1 : IV) (h0 : i5 < (↑(ByteArray.size s1) : Int)) (h1 : 0 ≤ i5) (h2 : C 64 [IV.d (D.int IntKind.u8 (byteAt s1 (Int.toNat i5)))] = some (IV.d (D.bool v0), [v1])) (h3 : v0 = false) (h4 : ¬byteAt s1 (Int.toNat i5) < 48) (h5 : ¬byteAt s1 (Int.toNat i5) > 57) : evP F C J d57 [] [1,1,0,1,0,0] [(1, .dbox 77 0 [.str s1, .int .i64 i2, .int .i64 i3, .int .i64 i4]), (3, .d (.int .i64 i5))] = some (Out.norm [(1, IV.dbox 77 0 [D.str s1, D.int IntKind.i64 i2, D.int IntKind.i64 i3, D.int IntKind.i64 i4]), (3, IV.d (D.int IntKind.i64 (IntKind.wrap IntKind.i64 (i5 + 1))))]) := wpQ_way (q57_l0a C J s1 i2 i3 i4 i5 _) (condW_t (decide_eq_true h0) (condW_t (decide_eq_true h1) (condW_t (decide_eq_true h0) (Exists.intro v0 (Exists.intro v1 (And.intro h2 (condW_f h3 (condW_t (decide_eq_true h1) (condW_t (decide_eq_true h0) (condW_f (decide_eq_false h4) (condW_t (decide_eq_true h1) (condW_t (decide_eq_true h0) (condW_f (decide_eq_false h5) (rfl))))))))))))))
theorem q57_l0a_4 {C J} (s1 : ByteArray) (i2 : Int) (i3 : Int) (i4 : Int) (i5 : Int) (h0 : ¬i5 < (↑(ByteArray.size s1) : Int)) : evP F C J d57 [] [1,1,0,1,0,0] [(1, .dbox 77 0 [.str s1, .int .i64 i2, .int .i64 i3, .int .i64 i4]), (3, .d (.int .i64 i5))] = some (Out.exit 0 [(1, IV.dbox 77 0 [D.str s1, D.int IntKind.i64 i2, D.int IntKind.i64 i3, D.int IntKind.i64 i4]), (3, IV.d (D.int IntKind.i64 i5))]) := wpQ_way (q57_l0a C J s1 i2 i3 i4 i5 _) (condW_f (decide_eq_false h0) (rfl))
theorem q58 (C J) (z1 : Bool) (x2 : List D) (e3 : List D) (s4 : ByteArray) (Q) : fnW F C R (L58) J d58 [.d (.sl 4 z1 x2 e3), .d (.str s4)] Q = ((∃ w0, evP F C J d58 [] [1, 0, 1] [(0, IV.d (D.sl 4 z1 x2 e3)), (1, IV.d (D.str s4)), (5, IV.d (D.int IntKind.i64 0))] = some (Out.ret [(4, IV.d (D.int IntKind.i64 w0))]) ∧ Q (some (IV.d (D.int IntKind.i64 w0), [IV.d (D.sl 4 z1 x2 e3), IV.d (D.str s4)]))) ∨ ∃ w1 w2 w3 w4 w5, evP F C J d58 [] [1, 0, 1] [(0, IV.d (D.sl 4 z1 x2 e3)), (1, IV.d (D.str s4)), (5, IV.d (D.int IntKind.i64 0))] = some (Out.norm [(0, IV.d (D.sl 4 w1 w2 w3)), (1, IV.d (D.str w4)), (5, IV.d (D.int IntKind.i64 w5))]) ∧ Q (some (IV.d (D.int IntKind.i64 (-1)), [IV.d (D.sl 4 z1 x2 e3), IV.d (D.str s4)]))) := by kernel_rfl
theorem q58_0 {C J} (z1 : Bool) (x2 : List D) (e3 : List D) (s4 : ByteArray) (v0 : Int) (h0 : evP F C J d58 [] [1, 0, 1] [(0, IV.d (D.sl 4 z1 x2 e3)), (1, IV.d (D.str s4)), (5, IV.d (D.int IntKind.i64 0))] = some (Out.ret [(4, IV.d (D.int IntKind.i64 v0))])) : evFnJ F C J d58 [.d (.sl 4 z1 x2 e3), .d (.str s4)] = some (IV.d (D.int IntKind.i64 v0), [IV.d (D.sl 4 z1 x2 e3), IV.d (D.str s4)]) := fnW_way (q58 C J z1 x2 e3 s4 _) (Or.inl (Exists.intro v0 (And.intro h0 (rfl))))
theorem q58_1 {C J} (z1 : Bool) (x2 : List D) (e3 : List D) (s4 : ByteArray) (v0 : Bool) (v1 : List D) (v2 : List D) (v3 : ByteArray) (v4 : Int) (h0 : evP F C J d58 [] [1, 0, 1] [(0, IV.d (D.sl 4 z1 x2 e3)), (1, IV.d (D.str s4)), (5, IV.d (D.int IntKind.i64 0))] = some (Out.norm [(0, IV.d (D.sl 4 v0 v1 v2)), (1, IV.d (D.str v3)), (5, IV.d (D.int IntKind.i64 v4))])) : evFnJ F C J d58 [.d (.sl 4 z1 x2 e3), .d (.str s4)] = some (IV.d (D.int IntKind.i64 (-1)), [IV.d (D.sl 4 z1 x2 e3), IV.d (D.str s4)]) := fnW_way (q58 C J z1 x2 e3 s4 _) (Or.inr (Exists.intro v0 (Exists.intro v1 (Exists.intro v2 (Exists.intro v3 (Exists.intro v4 (And.intro h0 (rfl))))))))
theorem q58_l0a (C J) (z1 : Bool) (x2 : List D) (e3 : List D) (s4 : ByteArray) (i5 : Int) (Q) : wpQ F C R (L58) J d58 [] [1,0,1,0,0] [(0, .d (.sl 4 z1 x2 e3)), (1, .d (.str s4)), (5, .d (.int .i64 i5))] Q = (condW (decide (i5 < (↑(List.length x2) : Int))) (condW (decide (0 ≤ i5)) (∃ w0 w1 w2 w3, x2[Int.toNat i5]? = some (D.agg [D.str w0, D.int IntKind.i64 w1, D.int IntKind.i64 w2, D.int IntKind.i64 w3]) ∧ condW (ByteArray.toList w0 == ByteArray.toList s4) (Q (Out.ret [(4, IV.d (D.int IntKind.i64 i5))])) (Q (Out.norm [(0, IV.d (D.sl 4 z1 x2 e3)), (1, IV.d (D.str s4)), (5, IV.d (D.int IntKind.i64 (IntKind.wrap IntKind.i64 (i5 + 1))))]))) False) (Q (Out.exit 0 [(0, IV.d (D.sl 4 z1 x2 e3)), (1, IV.d (D.str s4)), (5, IV.d (D.int IntKind.i64 i5))]))) := by kernel_rfl
theorem q58_l0a_0 {C J} (z1 : Bool) (x2 : List D) (e3 : List D) (s4 : ByteArray) (i5 : Int) (v0 : ByteArray) (v1 : Int) (v2 : Int) (v3 : Int) (h0 : i5 < (↑(List.length x2) : Int)) (h1 : 0 ≤ i5) (h2 : x2[Int.toNat i5]? = some (D.agg [D.str v0, D.int IntKind.i64 v1, D.int IntKind.i64 v2, D.int IntKind.i64 v3])) (h3 : (ByteArray.toList v0 == ByteArray.toList s4) = true) : evP F C J d58 [] [1,0,1,0,0] [(0, .d (.sl 4 z1 x2 e3)), (1, .d (.str s4)), (5, .d (.int .i64 i5))] = some (Out.ret [(4, IV.d (D.int IntKind.i64 i5))]) := wpQ_way (q58_l0a C J z1 x2 e3 s4 i5 _) (condW_t (decide_eq_true h0) (condW_t (decide_eq_true h1) (Exists.intro v0 (Exists.intro v1 (Exists.intro v2 (Exists.intro v3 (And.intro h2 (condW_t h3 (rfl)))))))))
theorem q58_l0a_1 {C J} (z1 : Bool) (x2 : List D) (e3 : List D) (s4 : ByteArray) (i5 : Int) (v0 : ByteArray) (v1 : Int) (v2 : Int) (v3 : Int) (h0 : i5 < (↑(List.length x2) : Int)) (h1 : 0 ≤ i5) (h2 : x2[Int.toNat i5]? = some (D.agg [D.str v0, D.int IntKind.i64 v1, D.int IntKind.i64 v2, D.int IntKind.i64 v3])) (h3 : (ByteArray.toList v0 == ByteArray.toList s4) = false) : evP F C J d58 [] [1,0,1,0,0] [(0, .d (.sl 4 z1 x2 e3)), (1, .d (.str s4)), (5, .d (.int .i64 i5))] = some (Out.norm [(0, IV.d (D.sl 4 z1 x2 e3)), (1, IV.d (D.str s4)), (5, IV.d (D.int IntKind.i64 (IntKind.wrap IntKind.i64 (i5 + 1))))]) := wpQ_way (q58_l0a C J z1 x2 e3 s4 i5 _) (condW_t (decide_eq_true h0) (condW_t (decide_eq_true h1) (Exists.intro v0 (Exists.intro v1 (Exists.intro v2 (Exists.intro v3 (And.intro h2 (condW_f h3 (rfl)))))))))
theorem q58_l0a_2 {C J} (z1 : Bool) (x2 : List D) (e3 : List D) (s4 : ByteArray) (i5 : Int) (h0 : ¬i5 < (↑(List.length x2) : Int)) : evP F C J d58 [] [1,0,1,0,0] [(0, .d (.sl 4 z1 x2 e3)), (1, .d (.str s4)), (5, .d (.int .i64 i5))] = some (Out.exit 0 [(0, IV.d (D.sl 4 z1 x2 e3)), (1, IV.d (D.str s4)), (5, IV.d (D.int IntKind.i64 i5))]) := wpQ_way (q58_l0a C J z1 x2 e3 s4 i5 _) (condW_f (decide_eq_false h0) (rfl))
theorem q48 (C J) (z1 : Bool) (x2 : List D) (e3 : List D) (Q) : fnW F C R (L48) J d48 [.d (.sl 4 z1 x2 e3)] Q = (condW (decide ((↑(List.length x2) : Int) < 1)) (Q (some (IV.d (D.bool false), [IV.d (D.sl 4 z1 x2 e3)]))) (condW (decide ((↑(List.length x2) : Int) > 20)) (Q (some (IV.d (D.bool false), [IV.d (D.sl 4 z1 x2 e3)]))) (∃ w0 w1 w2 w3, x2[0]? = some (D.agg [D.str w0, D.int IntKind.i64 w1, D.int IntKind.i64 w2, D.int IntKind.i64 w3]) ∧ condW (!(ByteArray.toList w0 == ByteArray.toList { data := #[61] } && (w1 == 0 && (w2 == 2 && (w3 == 1 && true))))) (Q (some (IV.d (D.bool false), [IV.d (D.sl 4 z1 x2 e3)]))) ((∃ w4, evP F C J d48 [] [1, 1, 0, 1] [(0, IV.d (D.sl 4 z1 x2 e3)), (3, IV.d (D.int IntKind.i64 1))] = some (Out.ret [(2, IV.d (D.bool w4))]) ∧ Q (some (IV.d (D.bool w4), [IV.d (D.sl 4 z1 x2 e3)]))) ∨ ∃ w5 w6 w7 w8, evP F C J d48 [] [1, 1, 0, 1] [(0, IV.d (D.sl 4 z1 x2 e3)), (3, IV.d (D.int IntKind.i64 1))] = some (Out.norm [(0, IV.d (D.sl 4 w5 w6 w7)), (3, IV.d (D.int IntKind.i64 w8))]) ∧ Q (some (IV.d (D.bool true), [IV.d (D.sl 4 z1 x2 e3)])))))) := by kernel_rfl
theorem q48_0 {C J} (z1 : Bool) (x2 : List D) (e3 : List D) (h0 : (↑(List.length x2) : Int) < 1) : evFnJ F C J d48 [.d (.sl 4 z1 x2 e3)] = some (IV.d (D.bool false), [IV.d (D.sl 4 z1 x2 e3)]) := fnW_way (q48 C J z1 x2 e3 _) (condW_t (decide_eq_true h0) (rfl))
theorem q48_1 {C J} (z1 : Bool) (x2 : List D) (e3 : List D) (h0 : ¬(↑(List.length x2) : Int) < 1) (h1 : (↑(List.length x2) : Int) > 20) : evFnJ F C J d48 [.d (.sl 4 z1 x2 e3)] = some (IV.d (D.bool false), [IV.d (D.sl 4 z1 x2 e3)]) := fnW_way (q48 C J z1 x2 e3 _) (condW_f (decide_eq_false h0) (condW_t (decide_eq_true h1) (rfl)))
theorem q48_2 {C J} (z1 : Bool) (x2 : List D) (e3 : List D) (v0 : ByteArray) (v1 : Int) (v2 : Int) (v3 : Int) (h0 : ¬(↑(List.length x2) : Int) < 1) (h1 : ¬(↑(List.length x2) : Int) > 20) (h2 : x2[0]? = some (D.agg [D.str v0, D.int IntKind.i64 v1, D.int IntKind.i64 v2, D.int IntKind.i64 v3])) (h3 : (!(ByteArray.toList v0 == ByteArray.toList { data := #[61] } && (v1 == 0 && (v2 == 2 && (v3 == 1 && true))))) = true) : evFnJ F C J d48 [.d (.sl 4 z1 x2 e3)] = some (IV.d (D.bool false), [IV.d (D.sl 4 z1 x2 e3)]) := fnW_way (q48 C J z1 x2 e3 _) (condW_f (decide_eq_false h0) (condW_f (decide_eq_false h1) (Exists.intro v0 (Exists.intro v1 (Exists.intro v2 (Exists.intro v3 (And.intro h2 (condW_t h3 (rfl)))))))))
theorem q48_3 {C J} (z1 : Bool) (x2 : List D) (e3 : List D) (v0 : ByteArray) (v1 : Int) (v2 : Int) (v3 : Int) (v4 : Bool) (h0 : ¬(↑(List.length x2) : Int) < 1) (h1 : ¬(↑(List.length x2) : Int) > 20) (h2 : x2[0]? = some (D.agg [D.str v0, D.int IntKind.i64 v1, D.int IntKind.i64 v2, D.int IntKind.i64 v3])) (h3 : (!(ByteArray.toList v0 == ByteArray.toList { data := #[61] } && (v1 == 0 && (v2 == 2 && (v3 == 1 && true))))) = false) (h4 : evP F C J d48 [] [1, 1, 0, 1] [(0, IV.d (D.sl 4 z1 x2 e3)), (3, IV.d (D.int IntKind.i64 1))] = some (Out.ret [(2, IV.d (D.bool v4))])) : evFnJ F C J d48 [.d (.sl 4 z1 x2 e3)] = some (IV.d (D.bool v4), [IV.d (D.sl 4 z1 x2 e3)]) := fnW_way (q48 C J z1 x2 e3 _) (condW_f (decide_eq_false h0) (condW_f (decide_eq_false h1) (Exists.intro v0 (Exists.intro v1 (Exists.intro v2 (Exists.intro v3 (And.intro h2 (condW_f h3 (Or.inl (Exists.intro v4 (And.intro h4 (rfl))))))))))))
theorem q48_4 {C J} (z1 : Bool) (x2 : List D) (e3 : List D) (v0 : ByteArray) (v1 : Int) (v2 : Int) (v3 : Int) (v4 : Bool) (v5 : List D) (v6 : List D) (v7 : Int) (h0 : ¬(↑(List.length x2) : Int) < 1) (h1 : ¬(↑(List.length x2) : Int) > 20) (h2 : x2[0]? = some (D.agg [D.str v0, D.int IntKind.i64 v1, D.int IntKind.i64 v2, D.int IntKind.i64 v3])) (h3 : (!(ByteArray.toList v0 == ByteArray.toList { data := #[61] } && (v1 == 0 && (v2 == 2 && (v3 == 1 && true))))) = false) (h4 : evP F C J d48 [] [1, 1, 0, 1] [(0, IV.d (D.sl 4 z1 x2 e3)), (3, IV.d (D.int IntKind.i64 1))] = some (Out.norm [(0, IV.d (D.sl 4 v4 v5 v6)), (3, IV.d (D.int IntKind.i64 v7))])) : evFnJ F C J d48 [.d (.sl 4 z1 x2 e3)] = some (IV.d (D.bool true), [IV.d (D.sl 4 z1 x2 e3)]) := fnW_way (q48 C J z1 x2 e3 _) (condW_f (decide_eq_false h0) (condW_f (decide_eq_false h1) (Exists.intro v0 (Exists.intro v1 (Exists.intro v2 (Exists.intro v3 (And.intro h2 (condW_f h3 (Or.inr (Exists.intro v4 (Exists.intro v5 (Exists.intro v6 (Exists.intro v7 (And.intro h4 (rfl)))))))))))))))
theorem q48_l0a (C J) (z1 : Bool) (x2 : List D) (e3 : List D) (i4 : Int) (Q) : wpQ F C R (L48) J d48 [] [1,1,0,1,0,0] [(0, .d (.sl 4 z1 x2 e3)), (3, .d (.int .i64 i4))] Q = (condW (decide (i4 < (↑(List.length x2) : Int))) (condW (decide (0 ≤ i4)) (∃ w0 w1 w2 w3, x2[Int.toNat i4]? = some (D.agg [D.str w0, D.int IntKind.i64 w1, D.int IntKind.i64 w2, D.int IntKind.i64 w3]) ∧ ∃ w4 w5, C 57 [IV.d (D.agg [D.str w0, D.int IntKind.i64 w1, D.int IntKind.i64 w2, D.int IntKind.i64 w3])] = some (IV.d (D.bool w4), [w5]) ∧ condW w4 (condW (decide (0 ≤ i4)) (∃ w6 w7 w8 w9, x2[Int.toNat i4]? = some (D.agg [D.str w6, D.int IntKind.i64 w7, D.int IntKind.i64 w8, D.int IntKind.i64 w9]) ∧ ∃ w10 w11 w12, C 58 [IV.d (D.sl 4 z1 x2 e3), IV.d (D.str w6)] = some (IV.d (D.int IntKind.i64 w10), [w11, w12]) ∧ condW (w10 != i4) (Q (Out.ret [(2, IV.d (D.bool false))])) (Q (Out.norm [(0, IV.d (D.sl 4 z1 x2 e3)), (3, IV.d (D.int IntKind.i64 (IntKind.wrap IntKind.i64 (i4 + 1))))]))) False) (Q (Out.ret [(2, IV.d (D.bool false))]))) False) (Q (Out.exit 0 [(0, IV.d (D.sl 4 z1 x2 e3)), (3, IV.d (D.int IntKind.i64 i4))]))) := by kernel_rfl
theorem q48_l0a_0 {C J} (z1 : Bool) (x2 : List D) (e3 : List D) (i4 : Int) (v0 : ByteArray) (v1 : Int) (v2 : Int) (v3 : Int) (v4 : Bool) (v5 : IV) (v6 : ByteArray) (v7 : Int) (v8 : Int) (v9 : Int) (v10 : Int) (v11 : IV) (v12 : IV) (h0 : i4 < (↑(List.length x2) : Int)) (h1 : 0 ≤ i4) (h2 : x2[Int.toNat i4]? = some (D.agg [D.str v0, D.int IntKind.i64 v1, D.int IntKind.i64 v2, D.int IntKind.i64 v3])) (h3 : C 57 [IV.d (D.agg [D.str v0, D.int IntKind.i64 v1, D.int IntKind.i64 v2, D.int IntKind.i64 v3])] = some (IV.d (D.bool v4), [v5])) (h4 : v4 = true) (h5 : x2[Int.toNat i4]? = some (D.agg [D.str v6, D.int IntKind.i64 v7, D.int IntKind.i64 v8, D.int IntKind.i64 v9])) (h6 : C 58 [IV.d (D.sl 4 z1 x2 e3), IV.d (D.str v6)] = some (IV.d (D.int IntKind.i64 v10), [v11, v12])) (h7 : (v10 != i4) = true) : evP F C J d48 [] [1,1,0,1,0,0] [(0, .d (.sl 4 z1 x2 e3)), (3, .d (.int .i64 i4))] = some (Out.ret [(2, IV.d (D.bool false))]) := wpQ_way (q48_l0a C J z1 x2 e3 i4 _) (condW_t (decide_eq_true h0) (condW_t (decide_eq_true h1) (Exists.intro v0 (Exists.intro v1 (Exists.intro v2 (Exists.intro v3 (And.intro h2 (Exists.intro v4 (Exists.intro v5 (And.intro h3 (condW_t h4 (condW_t (decide_eq_true h1) (Exists.intro v6 (Exists.intro v7 (Exists.intro v8 (Exists.intro v9 (And.intro h5 (Exists.intro v10 (Exists.intro v11 (Exists.intro v12 (And.intro h6 (condW_t h7 (rfl)))))))))))))))))))))))
theorem q48_l0a_1 {C J} (z1 : Bool) (x2 : List D) (e3 : List D) (i4 : Int) (v0 : ByteArray) (v1 : Int) (v2 : Int) (v3 : Int) (v4 : Bool) (v5 : IV) (v6 : ByteArray) (v7 : Int) (v8 : Int) (v9 : Int) (v10 : Int) (v11 : IV) (v12 : IV) (h0 : i4 < (↑(List.length x2) : Int)) (h1 : 0 ≤ i4) (h2 : x2[Int.toNat i4]? = some (D.agg [D.str v0, D.int IntKind.i64 v1, D.int IntKind.i64 v2, D.int IntKind.i64 v3])) (h3 : C 57 [IV.d (D.agg [D.str v0, D.int IntKind.i64 v1, D.int IntKind.i64 v2, D.int IntKind.i64 v3])] = some (IV.d (D.bool v4), [v5])) (h4 : v4 = true) (h5 : x2[Int.toNat i4]? = some (D.agg [D.str v6, D.int IntKind.i64 v7, D.int IntKind.i64 v8, D.int IntKind.i64 v9])) (h6 : C 58 [IV.d (D.sl 4 z1 x2 e3), IV.d (D.str v6)] = some (IV.d (D.int IntKind.i64 v10), [v11, v12])) (h7 : (v10 != i4) = false) : evP F C J d48 [] [1,1,0,1,0,0] [(0, .d (.sl 4 z1 x2 e3)), (3, .d (.int .i64 i4))] = some (Out.norm [(0, IV.d (D.sl 4 z1 x2 e3)), (3, IV.d (D.int IntKind.i64 (IntKind.wrap IntKind.i64 (i4 + 1))))]) := wpQ_way (q48_l0a C J z1 x2 e3 i4 _) (condW_t (decide_eq_true h0) (condW_t (decide_eq_true h1) (Exists.intro v0 (Exists.intro v1 (Exists.intro v2 (Exists.intro v3 (And.intro h2 (Exists.intro v4 (Exists.intro v5 (And.intro h3 (condW_t h4 (condW_t (decide_eq_true h1) (Exists.intro v6 (Exists.intro v7 (Exists.intro v8 (Exists.intro v9 (And.intro h5 (Exists.intro v10 (Exists.intro v11 (Exists.intro v12 (And.intro h6 (condW_f h7 (rfl)))))))))))))))))))))))
theorem q48_l0a_2 {C J} (z1 : Bool) (x2 : List D) (e3 : List D) (i4 : Int) (v0 : ByteArray) (v1 : Int) (v2 : Int) (v3 : Int) (v4 : Bool) (v5 : IV) (h0 : i4 < (↑(List.length x2) : Int)) (h1 : 0 ≤ i4) (h2 : x2[Int.toNat i4]? = some (D.agg [D.str v0, D.int IntKind.i64 v1, D.int IntKind.i64 v2, D.int IntKind.i64 v3])) (h3 : C 57 [IV.d (D.agg [D.str v0, D.int IntKind.i64 v1, D.int IntKind.i64 v2, D.int IntKind.i64 v3])] = some (IV.d (D.bool v4), [v5])) (h4 : v4 = false) : evP F C J d48 [] [1,1,0,1,0,0] [(0, .d (.sl 4 z1 x2 e3)), (3, .d (.int .i64 i4))] = some (Out.ret [(2, IV.d (D.bool false))]) := wpQ_way (q48_l0a C J z1 x2 e3 i4 _) (condW_t (decide_eq_true h0) (condW_t (decide_eq_true h1) (Exists.intro v0 (Exists.intro v1 (Exists.intro v2 (Exists.intro v3 (And.intro h2 (Exists.intro v4 (Exists.intro v5 (And.intro h3 (condW_f h4 (rfl))))))))))))
theorem q48_l0a_3 {C J} (z1 : Bool) (x2 : List D) (e3 : List D) (i4 : Int) (h0 : ¬i4 < (↑(List.length x2) : Int)) : evP F C J d48 [] [1,1,0,1,0,0] [(0, .d (.sl 4 z1 x2 e3)), (3, .d (.int .i64 i4))] = some (Out.exit 0 [(0, IV.d (D.sl 4 z1 x2 e3)), (3, IV.d (D.int IntKind.i64 i4))]) := wpQ_way (q48_l0a C J z1 x2 e3 i4 _) (condW_f (decide_eq_false h0) (rfl))
theorem q60 (C J) (z1 : Bool) (x2 : List D) (e3 : List D) (z4 : Bool) (x5 : List D) (e6 : List D) (i7 : Int) (Q) : fnW F C R (L60) J d60 [.d (.sl 4 z1 x2 e3), .d (.sl 1 z4 x5 e6), .d (.int .i64 i7)] Q = ((∃ w0, evP F C J d60 [] [1, 1, 0] [(0, IV.d (D.sl 4 z1 x2 e3)), (1, IV.d (D.sl 1 z4 x5 e6)), (7, IV.d (D.int IntKind.i64 1)), (8, IV.d (D.int IntKind.i64 i7))] = some (Out.ret [(6, IV.d (D.int IntKind.i64 w0))]) ∧ Q (some (IV.d (D.int IntKind.i64 w0), [IV.d (D.sl 4 z1 x2 e3), IV.d (D.sl 1 z4 x5 e6), IV.d (D.int IntKind.i64 i7)]))) ∨ ∃ w1 w2 w3 w4 w5 w6 w7 w8, evP F C J d60 [] [1, 1, 0] [(0, IV.d (D.sl 4 z1 x2 e3)), (1, IV.d (D.sl 1 z4 x5 e6)), (7, IV.d (D.int IntKind.i64 1)), (8, IV.d (D.int IntKind.i64 i7))] = some (Out.norm [(0, IV.d (D.sl 4 w1 w2 w3)), (1, IV.d (D.sl 1 w4 w5 w6)), (7, IV.d (D.int IntKind.i64 w7)), (8, IV.d (D.int IntKind.i64 w8))]) ∧ Q (some (IV.d (D.int IntKind.i64 w8), [IV.d (D.sl 4 z1 x2 e3), IV.d (D.sl 1 z4 x5 e6), IV.d (D.int IntKind.i64 i7)]))) := by kernel_rfl
theorem q60_0 {C J} (z1 : Bool) (x2 : List D) (e3 : List D) (z4 : Bool) (x5 : List D) (e6 : List D) (i7 : Int) (v0 : Int) (h0 : evP F C J d60 [] [1, 1, 0] [(0, IV.d (D.sl 4 z1 x2 e3)), (1, IV.d (D.sl 1 z4 x5 e6)), (7, IV.d (D.int IntKind.i64 1)), (8, IV.d (D.int IntKind.i64 i7))] = some (Out.ret [(6, IV.d (D.int IntKind.i64 v0))])) : evFnJ F C J d60 [.d (.sl 4 z1 x2 e3), .d (.sl 1 z4 x5 e6), .d (.int .i64 i7)] = some (IV.d (D.int IntKind.i64 v0), [IV.d (D.sl 4 z1 x2 e3), IV.d (D.sl 1 z4 x5 e6), IV.d (D.int IntKind.i64 i7)]) := fnW_way (q60 C J z1 x2 e3 z4 x5 e6 i7 _) (Or.inl (Exists.intro v0 (And.intro h0 (rfl))))
theorem q60_1 {C J} (z1 : Bool) (x2 : List D) (e3 : List D) (z4 : Bool) (x5 : List D) (e6 : List D) (i7 : Int) (v0 : Bool) (v1 : List D) (v2 : List D) (v3 : Bool) (v4 : List D) (v5 : List D) (v6 : Int) (v7 : Int) (h0 : evP F C J d60 [] [1, 1, 0] [(0, IV.d (D.sl 4 z1 x2 e3)), (1, IV.d (D.sl 1 z4 x5 e6)), (7, IV.d (D.int IntKind.i64 1)), (8, IV.d (D.int IntKind.i64 i7))] = some (Out.norm [(0, IV.d (D.sl 4 v0 v1 v2)), (1, IV.d (D.sl 1 v3 v4 v5)), (7, IV.d (D.int IntKind.i64 v6)), (8, IV.d (D.int IntKind.i64 v7))])) : evFnJ F C J d60 [.d (.sl 4 z1 x2 e3), .d (.sl 1 z4 x5 e6), .d (.int .i64 i7)] = some (IV.d (D.int IntKind.i64 v7), [IV.d (D.sl 4 z1 x2 e3), IV.d (D.sl 1 z4 x5 e6), IV.d (D.int IntKind.i64 i7)]) := fnW_way (q60 C J z1 x2 e3 z4 x5 e6 i7 _) (Or.inr (Exists.intro v0 (Exists.intro v1 (Exists.intro v2 (Exists.intro v3 (Exists.intro v4 (Exists.intro v5 (Exists.intro v6 (Exists.intro v7 (And.intro h0 (rfl)))))))))))
theorem q60_l0a (C J) (z1 : Bool) (x2 : List D) (e3 : List D) (z4 : Bool) (x5 : List D) (e6 : List D) (i7 : Int) (i8 : Int) (Q) : wpQ F C R (L60) J d60 [] [1,1,0,0,0] [(0, .d (.sl 4 z1 x2 e3)), (1, .d (.sl 1 z4 x5 e6)), (7, .d (.int .i64 i7)), (8, .d (.int .i64 i8))] Q = (condW (decide (i7 > 0)) (condW (decide (i8 ≥ (↑(List.length x5) : Int))) (Q (Out.ret [(6, IV.d (D.int IntKind.i64 (-1)))])) (condW (decide (0 ≤ i8)) (∃ w0, x5[Int.toNat i8]? = some (D.int IntKind.i64 w0) ∧ condW (decide (w0 < -24)) (Q (Out.ret [(6, IV.d (D.int IntKind.i64 (-1)))])) (condW (decide (0 ≤ i8)) (∃ w1, x5[Int.toNat i8]? = some (D.int IntKind.i64 w1) ∧ condW (decide (w1 ≥ (↑(List.length x2) : Int))) (Q (Out.ret [(6, IV.d (D.int IntKind.i64 (-1)))])) (condW (decide (0 ≤ i8)) (∃ w2, x5[Int.toNat i8]? = some (D.int IntKind.i64 w2) ∧ condW (decide (w2 ≥ 0)) (condW (decide (0 ≤ i8)) (∃ w3, x5[Int.toNat i8]? = some (D.int IntKind.i64 w3) ∧ condW (decide (0 ≤ w3)) (∃ w4 w5 w6 w7, x2[Int.toNat w3]? = some (D.agg [D.str w4, D.int IntKind.i64 w5, D.int IntKind.i64 w6, D.int IntKind.i64 w7]) ∧ condW (w5 == 0) (Q (Out.ret [(6, IV.d (D.int IntKind.i64 (-1)))])) (condW (decide (0 ≤ i8)) (∃ w8, x5[Int.toNat i8]? = some (D.int IntKind.i64 w8) ∧ condW (decide (0 ≤ w8)) (∃ w9 w10 w11 w12, x2[Int.toNat w8]? = some (D.agg [D.str w9, D.int IntKind.i64 w10, D.int IntKind.i64 w11, D.int IntKind.i64 w12]) ∧ Q (Out.norm [(0, IV.d (D.sl 4 z1 x2 e3)), (1, IV.d (D.sl 1 z4 x5 e6)), (7, IV.d (D.int IntKind.i64 (IntKind.wrap IntKind.i64 (IntKind.wrap IntKind.i64 (i7 - 1) + w11)))), (8, IV.d (D.int IntKind.i64 (IntKind.wrap IntKind.i64 (i8 + 1))))])) False) False)) False) False) (Q (Out.norm [(0, IV.d (D.sl 4 z1 x2 e3)), (1, IV.d (D.sl 1 z4 x5 e6)), (7, IV.d (D.int IntKind.i64 (IntKind.wrap IntKind.i64 (i7 - 1)))), (8, IV.d (D.int IntKind.i64 (IntKind.wrap IntKind.i64 (i8 + 1))))]))) False)) False)) False)) (Q (Out.exit 0 [(0, IV.d (D.sl 4 z1 x2 e3)), (1, IV.d (D.sl 1 z4 x5 e6)), (7, IV.d (D.int IntKind.i64 i7)), (8, IV.d (D.int IntKind.i64 i8))]))) := by kernel_rfl
theorem q60_l0a_0 {C J} (z1 : Bool) (x2 : List D) (e3 : List D) (z4 : Bool) (x5 : List D) (e6 : List D) (i7 : Int) (i8 : Int) (h0 : i7 > 0) (h1 : i8 ≥ (↑(List.length x5) : Int)) : evP F C J d60 [] [1,1,0,0,0] [(0, .d (.sl 4 z1 x2 e3)), (1, .d (.sl 1 z4 x5 e6)), (7, .d (.int .i64 i7)), (8, .d (.int .i64 i8))] = some (Out.ret [(6, IV.d (D.int IntKind.i64 (-1)))]) := wpQ_way (q60_l0a C J z1 x2 e3 z4 x5 e6 i7 i8 _) (condW_t (decide_eq_true h0) (condW_t (decide_eq_true h1) (rfl)))
theorem q60_l0a_1 {C J} (z1 : Bool) (x2 : List D) (e3 : List D) (z4 : Bool) (x5 : List D) (e6 : List D) (i7 : Int) (i8 : Int) (v0 : Int) (h0 : i7 > 0) (h1 : ¬i8 ≥ (↑(List.length x5) : Int)) (h2 : 0 ≤ i8) (h3 : x5[Int.toNat i8]? = some (D.int IntKind.i64 v0)) (h4 : v0 < -24) : evP F C J d60 [] [1,1,0,0,0] [(0, .d (.sl 4 z1 x2 e3)), (1, .d (.sl 1 z4 x5 e6)), (7, .d (.int .i64 i7)), (8, .d (.int .i64 i8))] = some (Out.ret [(6, IV.d (D.int IntKind.i64 (-1)))]) := wpQ_way (q60_l0a C J z1 x2 e3 z4 x5 e6 i7 i8 _) (condW_t (decide_eq_true h0) (condW_f (decide_eq_false h1) (condW_t (decide_eq_true h2) (Exists.intro v0 (And.intro h3 (condW_t (decide_eq_true h4) (rfl)))))))
theorem q60_l0a_2 {C J} (z1 : Bool) (x2 : List D) (e3 : List D) (z4 : Bool) (x5 : List D) (e6 : List D) (i7 : Int) (i8 : Int) (v0 : Int) (v1 : Int) (h0 : i7 > 0) (h1 : ¬i8 ≥ (↑(List.length x5) : Int)) (h2 : 0 ≤ i8) (h3 : x5[Int.toNat i8]? = some (D.int IntKind.i64 v0)) (h4 : ¬v0 < -24) (h5 : x5[Int.toNat i8]? = some (D.int IntKind.i64 v1)) (h6 : v1 ≥ (↑(List.length x2) : Int)) : evP F C J d60 [] [1,1,0,0,0] [(0, .d (.sl 4 z1 x2 e3)), (1, .d (.sl 1 z4 x5 e6)), (7, .d (.int .i64 i7)), (8, .d (.int .i64 i8))] = some (Out.ret [(6, IV.d (D.int IntKind.i64 (-1)))]) := wpQ_way (q60_l0a C J z1 x2 e3 z4 x5 e6 i7 i8 _) (condW_t (decide_eq_true h0) (condW_f (decide_eq_false h1) (condW_t (decide_eq_true h2) (Exists.intro v0 (And.intro h3 (condW_f (decide_eq_false h4) (condW_t (decide_eq_true h2) (Exists.intro v1 (And.intro h5 (condW_t (decide_eq_true h6) (rfl)))))))))))
theorem q60_l0a_3 {C J} (z1 : Bool) (x2 : List D) (e3 : List D) (z4 : Bool) (x5 : List D) (e6 : List D) (i7 : Int) (i8 : Int) (v0 : Int) (v1 : Int) (v2 : Int) (v3 : Int) (v4 : ByteArray) (v5 : Int) (v6 : Int) (v7 : Int) (h0 : i7 > 0) (h1 : ¬i8 ≥ (↑(List.length x5) : Int)) (h2 : 0 ≤ i8) (h3 : x5[Int.toNat i8]? = some (D.int IntKind.i64 v0)) (h4 : ¬v0 < -24) (h5 : x5[Int.toNat i8]? = some (D.int IntKind.i64 v1)) (h6 : ¬v1 ≥ (↑(List.length x2) : Int)) (h7 : x5[Int.toNat i8]? = some (D.int IntKind.i64 v2)) (h8 : v2 ≥ 0) (h9 : x5[Int.toNat i8]? = some (D.int IntKind.i64 v3)) (h10 : 0 ≤ v3) (h11 : x2[Int.toNat v3]? = some (D.agg [D.str v4, D.int IntKind.i64 v5, D.int IntKind.i64 v6, D.int IntKind.i64 v7])) (h12 : (v5 == 0) = true) : evP F C J d60 [] [1,1,0,0,0] [(0, .d (.sl 4 z1 x2 e3)), (1, .d (.sl 1 z4 x5 e6)), (7, .d (.int .i64 i7)), (8, .d (.int .i64 i8))] = some (Out.ret [(6, IV.d (D.int IntKind.i64 (-1)))]) := wpQ_way (q60_l0a C J z1 x2 e3 z4 x5 e6 i7 i8 _) (condW_t (decide_eq_true h0) (condW_f (decide_eq_false h1) (condW_t (decide_eq_true h2) (Exists.intro v0 (And.intro h3 (condW_f (decide_eq_false h4) (condW_t (decide_eq_true h2) (Exists.intro v1 (And.intro h5 (condW_f (decide_eq_false h6) (condW_t (decide_eq_true h2) (Exists.intro v2 (And.intro h7 (condW_t (decide_eq_true h8) (condW_t (decide_eq_true h2) (Exists.intro v3 (And.intro h9 (condW_t (decide_eq_true h10) (Exists.intro v4 (Exists.intro v5 (Exists.intro v6 (Exists.intro v7 (And.intro h11 (condW_t h12 (rfl)))))))))))))))))))))))))
theorem q60_l0a_4 {C J} (z1 : Bool) (x2 : List D) (e3 : List D) (z4 : Bool) (x5 : List D) (e6 : List D) (i7 : Int) (i8 : Int) (v0 : Int) (v1 : Int) (v2 : Int) (v3 : Int) (v4 : ByteArray) (v5 : Int) (v6 : Int) (v7 : Int) (v8 : Int) (v9 : ByteArray) (v10 : Int) (v11 : Int) (v12 : Int) (h0 : i7 > 0) (h1 : ¬i8 ≥ (↑(List.length x5) : Int)) (h2 : 0 ≤ i8) (h3 : x5[Int.toNat i8]? = some (D.int IntKind.i64 v0)) (h4 : ¬v0 < -24) (h5 : x5[Int.toNat i8]? = some (D.int IntKind.i64 v1)) (h6 : ¬v1 ≥ (↑(List.length x2) : Int)) (h7 : x5[Int.toNat i8]? = some (D.int IntKind.i64 v2)) (h8 : v2 ≥ 0) (h9 : x5[Int.toNat i8]? = some (D.int IntKind.i64 v3)) (h10 : 0 ≤ v3) (h11 : x2[Int.toNat v3]? = some (D.agg [D.str v4, D.int IntKind.i64 v5, D.int IntKind.i64 v6, D.int IntKind.i64 v7])) (h12 : (v5 == 0) = false) (h13 : x5[Int.toNat i8]? = some (D.int IntKind.i64 v8)) (h14 : 0 ≤ v8) (h15 : x2[Int.toNat v8]? = some (D.agg [D.str v9, D.int IntKind.i64 v10, D.int IntKind.i64 v11, D.int IntKind.i64 v12])) : evP F C J d60 [] [1,1,0,0,0] [(0, .d (.sl 4 z1 x2 e3)), (1, .d (.sl 1 z4 x5 e6)), (7, .d (.int .i64 i7)), (8, .d (.int .i64 i8))] = some (Out.norm [(0, IV.d (D.sl 4 z1 x2 e3)), (1, IV.d (D.sl 1 z4 x5 e6)), (7, IV.d (D.int IntKind.i64 (IntKind.wrap IntKind.i64 (IntKind.wrap IntKind.i64 (i7 - 1) + v11)))), (8, IV.d (D.int IntKind.i64 (IntKind.wrap IntKind.i64 (i8 + 1))))]) := wpQ_way (q60_l0a C J z1 x2 e3 z4 x5 e6 i7 i8 _) (condW_t (decide_eq_true h0) (condW_f (decide_eq_false h1) (condW_t (decide_eq_true h2) (Exists.intro v0 (And.intro h3 (condW_f (decide_eq_false h4) (condW_t (decide_eq_true h2) (Exists.intro v1 (And.intro h5 (condW_f (decide_eq_false h6) (condW_t (decide_eq_true h2) (Exists.intro v2 (And.intro h7 (condW_t (decide_eq_true h8) (condW_t (decide_eq_true h2) (Exists.intro v3 (And.intro h9 (condW_t (decide_eq_true h10) (Exists.intro v4 (Exists.intro v5 (Exists.intro v6 (Exists.intro v7 (And.intro h11 (condW_f h12 (condW_t (decide_eq_true h2) (Exists.intro v8 (And.intro h13 (condW_t (decide_eq_true h14) (Exists.intro v9 (Exists.intro v10 (Exists.intro v11 (Exists.intro v12 (And.intro h15 (rfl))))))))))))))))))))))))))))))))))
theorem q60_l0a_5 {C J} (z1 : Bool) (x2 : List D) (e3 : List D) (z4 : Bool) (x5 : List D) (e6 : List D) (i7 : Int) (i8 : Int) (v0 : Int) (v1 : Int) (v2 : Int) (h0 : i7 > 0) (h1 : ¬i8 ≥ (↑(List.length x5) : Int)) (h2 : 0 ≤ i8) (h3 : x5[Int.toNat i8]? = some (D.int IntKind.i64 v0)) (h4 : ¬v0 < -24) (h5 : x5[Int.toNat i8]? = some (D.int IntKind.i64 v1)) (h6 : ¬v1 ≥ (↑(List.length x2) : Int)) (h7 : x5[Int.toNat i8]? = some (D.int IntKind.i64 v2)) (h8 : ¬v2 ≥ 0) : evP F C J d60 [] [1,1,0,0,0] [(0, .d (.sl 4 z1 x2 e3)), (1, .d (.sl 1 z4 x5 e6)), (7, .d (.int .i64 i7)), (8, .d (.int .i64 i8))] = some (Out.norm [(0, IV.d (D.sl 4 z1 x2 e3)), (1, IV.d (D.sl 1 z4 x5 e6)), (7, IV.d (D.int IntKind.i64 (IntKind.wrap IntKind.i64 (i7 - 1)))), (8, IV.d (D.int IntKind.i64 (IntKind.wrap IntKind.i64 (i8 + 1))))]) := wpQ_way (q60_l0a C J z1 x2 e3 z4 x5 e6 i7 i8 _) (condW_t (decide_eq_true h0) (condW_f (decide_eq_false h1) (condW_t (decide_eq_true h2) (Exists.intro v0 (And.intro h3 (condW_f (decide_eq_false h4) (condW_t (decide_eq_true h2) (Exists.intro v1 (And.intro h5 (condW_f (decide_eq_false h6) (condW_t (decide_eq_true h2) (Exists.intro v2 (And.intro h7 (condW_f (decide_eq_false h8) (rfl)))))))))))))))
theorem q60_l0a_6 {C J} (z1 : Bool) (x2 : List D) (e3 : List D) (z4 : Bool) (x5 : List D) (e6 : List D) (i7 : Int) (i8 : Int) (h0 : ¬i7 > 0) : evP F C J d60 [] [1,1,0,0,0] [(0, .d (.sl 4 z1 x2 e3)), (1, .d (.sl 1 z4 x5 e6)), (7, .d (.int .i64 i7)), (8, .d (.int .i64 i8))] = some (Out.exit 0 [(0, IV.d (D.sl 4 z1 x2 e3)), (1, IV.d (D.sl 1 z4 x5 e6)), (7, IV.d (D.int IntKind.i64 i7)), (8, IV.d (D.int IntKind.i64 i8))]) := wpQ_way (q60_l0a C J z1 x2 e3 z4 x5 e6 i7 i8 _) (condW_f (decide_eq_false h0) (rfl))
theorem q50 (C J) (z1 : Bool) (x2 : List D) (e3 : List D) (z4 : Bool) (x5 : List D) (e6 : List D) (Q) : fnW F C R (L50) J d50 [.d (.sl 4 z1 x2 e3), .d (.sl 1 z4 x5 e6)] Q = (condW (decide ((↑(List.length x5) : Int) > 48)) (Q (some (IV.d (D.int IntKind.i64 (-1)), [IV.d (D.sl 4 z1 x2 e3), IV.d (D.sl 1 z4 x5 e6)]))) ((∃ w0, evP F C J d50 [] [1, 1, 1, 0] [(0, IV.d (D.sl 4 z1 x2 e3)), (1, IV.d (D.sl 1 z4 x5 e6)), (5, IV.d (D.int IntKind.i64 0)), (6, IV.d (D.int IntKind.i64 0))] = some (Out.ret [(4, IV.d (D.int IntKind.i64 w0))]) ∧ Q (some (IV.d (D.int IntKind.i64 w0), [IV.d (D.sl 4 z1 x2 e3), IV.d (D.sl 1 z4 x5 e6)]))) ∨ ∃ w1 w2 w3 w4 w5 w6 w7 w8, evP F C J d50 [] [1, 1, 1, 0] [(0, IV.d (D.sl 4 z1 x2 e3)), (1, IV.d (D.sl 1 z4 x5 e6)), (5, IV.d (D.int IntKind.i64 0)), (6, IV.d (D.int IntKind.i64 0))] = some (Out.norm [(0, IV.d (D.sl 4 w1 w2 w3)), (1, IV.d (D.sl 1 w4 w5 w6)), (5, IV.d (D.int IntKind.i64 w7)), (6, IV.d (D.int IntKind.i64 w8))]) ∧ Q (some (IV.d (D.int IntKind.i64 w7), [IV.d (D.sl 4 z1 x2 e3), IV.d (D.sl 1 z4 x5 e6)])))) := by kernel_rfl
theorem q50_0 {C J} (z1 : Bool) (x2 : List D) (e3 : List D) (z4 : Bool) (x5 : List D) (e6 : List D) (h0 : (↑(List.length x5) : Int) > 48) : evFnJ F C J d50 [.d (.sl 4 z1 x2 e3), .d (.sl 1 z4 x5 e6)] = some (IV.d (D.int IntKind.i64 (-1)), [IV.d (D.sl 4 z1 x2 e3), IV.d (D.sl 1 z4 x5 e6)]) := fnW_way (q50 C J z1 x2 e3 z4 x5 e6 _) (condW_t (decide_eq_true h0) (rfl))
theorem q50_1 {C J} (z1 : Bool) (x2 : List D) (e3 : List D) (z4 : Bool) (x5 : List D) (e6 : List D) (v0 : Int) (h0 : ¬(↑(List.length x5) : Int) > 48) (h1 : evP F C J d50 [] [1, 1, 1, 0] [(0, IV.d (D.sl 4 z1 x2 e3)), (1, IV.d (D.sl 1 z4 x5 e6)), (5, IV.d (D.int IntKind.i64 0)), (6, IV.d (D.int IntKind.i64 0))] = some (Out.ret [(4, IV.d (D.int IntKind.i64 v0))])) : evFnJ F C J d50 [.d (.sl 4 z1 x2 e3), .d (.sl 1 z4 x5 e6)] = some (IV.d (D.int IntKind.i64 v0), [IV.d (D.sl 4 z1 x2 e3), IV.d (D.sl 1 z4 x5 e6)]) := fnW_way (q50 C J z1 x2 e3 z4 x5 e6 _) (condW_f (decide_eq_false h0) (Or.inl (Exists.intro v0 (And.intro h1 (rfl)))))
theorem q50_2 {C J} (z1 : Bool) (x2 : List D) (e3 : List D) (z4 : Bool) (x5 : List D) (e6 : List D) (v0 : Bool) (v1 : List D) (v2 : List D) (v3 : Bool) (v4 : List D) (v5 : List D) (v6 : Int) (v7 : Int) (h0 : ¬(↑(List.length x5) : Int) > 48) (h1 : evP F C J d50 [] [1, 1, 1, 0] [(0, IV.d (D.sl 4 z1 x2 e3)), (1, IV.d (D.sl 1 z4 x5 e6)), (5, IV.d (D.int IntKind.i64 0)), (6, IV.d (D.int IntKind.i64 0))] = some (Out.norm [(0, IV.d (D.sl 4 v0 v1 v2)), (1, IV.d (D.sl 1 v3 v4 v5)), (5, IV.d (D.int IntKind.i64 v6)), (6, IV.d (D.int IntKind.i64 v7))])) : evFnJ F C J d50 [.d (.sl 4 z1 x2 e3), .d (.sl 1 z4 x5 e6)] = some (IV.d (D.int IntKind.i64 v6), [IV.d (D.sl 4 z1 x2 e3), IV.d (D.sl 1 z4 x5 e6)]) := fnW_way (q50 C J z1 x2 e3 z4 x5 e6 _) (condW_f (decide_eq_false h0) (Or.inr (Exists.intro v0 (Exists.intro v1 (Exists.intro v2 (Exists.intro v3 (Exists.intro v4 (Exists.intro v5 (Exists.intro v6 (Exists.intro v7 (And.intro h1 (rfl))))))))))))
theorem q50_l0a (C J) (z1 : Bool) (x2 : List D) (e3 : List D) (z4 : Bool) (x5 : List D) (e6 : List D) (i7 : Int) (i8 : Int) (Q) : wpQ F C R (L50) J d50 [] [1,1,1,0,0,0] [(0, .d (.sl 4 z1 x2 e3)), (1, .d (.sl 1 z4 x5 e6)), (5, .d (.int .i64 i7)), (6, .d (.int .i64 i8))] Q = (condW (decide (i8 < (↑(List.length x5) : Int))) (∃ w0 w1 w2 w3, C 60 [IV.d (D.sl 4 z1 x2 e3), IV.d (D.sl 1 z4 x5 e6), IV.d (D.int IntKind.i64 i8)] = some (IV.d (D.int IntKind.i64 w0), [w1, w2, w3]) ∧ condW (decide (w0 < 0)) (Q (Out.ret [(4, IV.d (D.int IntKind.i64 (-1)))])) (Q (Out.norm [(0, IV.d (D.sl 4 z1 x2 e3)), (1, IV.d (D.sl 1 z4 x5 e6)), (5, IV.d (D.int IntKind.i64 (IntKind.wrap IntKind.i64 (i7 + 1)))), (6, IV.d (D.int IntKind.i64 w0))]))) (Q (Out.exit 0 [(0, IV.d (D.sl 4 z1 x2 e3)), (1, IV.d (D.sl 1 z4 x5 e6)), (5, IV.d (D.int IntKind.i64 i7)), (6, IV.d (D.int IntKind.i64 i8))]))) := by kernel_rfl
theorem q50_l0a_0 {C J} (z1 : Bool) (x2 : List D) (e3 : List D) (z4 : Bool) (x5 : List D) (e6 : List D) (i7 : Int) (i8 : Int) (v0 : Int) (v1 : IV) (v2 : IV) (v3 : IV) (h0 : i8 < (↑(List.length x5) : Int)) (h1 : C 60 [IV.d (D.sl 4 z1 x2 e3), IV.d (D.sl 1 z4 x5 e6), IV.d (D.int IntKind.i64 i8)] = some (IV.d (D.int IntKind.i64 v0), [v1, v2, v3])) (h2 : v0 < 0) : evP F C J d50 [] [1,1,1,0,0,0] [(0, .d (.sl 4 z1 x2 e3)), (1, .d (.sl 1 z4 x5 e6)), (5, .d (.int .i64 i7)), (6, .d (.int .i64 i8))] = some (Out.ret [(4, IV.d (D.int IntKind.i64 (-1)))]) := wpQ_way (q50_l0a C J z1 x2 e3 z4 x5 e6 i7 i8 _) (condW_t (decide_eq_true h0) (Exists.intro v0 (Exists.intro v1 (Exists.intro v2 (Exists.intro v3 (And.intro h1 (condW_t (decide_eq_true h2) (rfl))))))))
theorem q50_l0a_1 {C J} (z1 : Bool) (x2 : List D) (e3 : List D) (z4 : Bool) (x5 : List D) (e6 : List D) (i7 : Int) (i8 : Int) (v0 : Int) (v1 : IV) (v2 : IV) (v3 : IV) (h0 : i8 < (↑(List.length x5) : Int)) (h1 : C 60 [IV.d (D.sl 4 z1 x2 e3), IV.d (D.sl 1 z4 x5 e6), IV.d (D.int IntKind.i64 i8)] = some (IV.d (D.int IntKind.i64 v0), [v1, v2, v3])) (h2 : ¬v0 < 0) : evP F C J d50 [] [1,1,1,0,0,0] [(0, .d (.sl 4 z1 x2 e3)), (1, .d (.sl 1 z4 x5 e6)), (5, .d (.int .i64 i7)), (6, .d (.int .i64 i8))] = some (Out.norm [(0, IV.d (D.sl 4 z1 x2 e3)), (1, IV.d (D.sl 1 z4 x5 e6)), (5, IV.d (D.int IntKind.i64 (IntKind.wrap IntKind.i64 (i7 + 1)))), (6, IV.d (D.int IntKind.i64 v0))]) := wpQ_way (q50_l0a C J z1 x2 e3 z4 x5 e6 i7 i8 _) (condW_t (decide_eq_true h0) (Exists.intro v0 (Exists.intro v1 (Exists.intro v2 (Exists.intro v3 (And.intro h1 (condW_f (decide_eq_false h2) (rfl))))))))
theorem q50_l0a_2 {C J} (z1 : Bool) (x2 : List D) (e3 : List D) (z4 : Bool) (x5 : List D) (e6 : List D) (i7 : Int) (i8 : Int) (h0 : ¬i8 < (↑(List.length x5) : Int)) : evP F C J d50 [] [1,1,1,0,0,0] [(0, .d (.sl 4 z1 x2 e3)), (1, .d (.sl 1 z4 x5 e6)), (5, .d (.int .i64 i7)), (6, .d (.int .i64 i8))] = some (Out.exit 0 [(0, IV.d (D.sl 4 z1 x2 e3)), (1, IV.d (D.sl 1 z4 x5 e6)), (5, IV.d (D.int IntKind.i64 i7)), (6, IV.d (D.int IntKind.i64 i8))]) := wpQ_way (q50_l0a C J z1 x2 e3 z4 x5 e6 i7 i8 _) (condW_f (decide_eq_false h0) (rfl))
theorem q59 (C J) (z1 : Bool) (x2 : List D) (e3 : List D) (z4 : Bool) (x5 : List D) (e6 : List D) (Q) : fnW F C R (L59) J d59 [.d (.sl 4 z1 x2 e3), .d (.sl 1 z4 x5 e6)] Q = (condW (decide ((↑(List.length x5) : Int) > 0)) (∃ w0, x5[0]? = some (D.int IntKind.i64 w0) ∧ condW (decide (w0 ≥ 0)) (∃ w1, x5[0]? = some (D.int IntKind.i64 w1) ∧ condW (decide (w1 < (↑(List.length x2) : Int))) (∃ w2, x5[0]? = some (D.int IntKind.i64 w2) ∧ condW (decide (0 ≤ w2)) (∃ w3 w4 w5 w6, x2[Int.toNat w2]? = some (D.agg [D.str w3, D.int IntKind.i64 w4, D.int IntKind.i64 w5, D.int IntKind.i64 w6]) ∧ condW (w4 == 0) (condW (decide (1 ≤ (↑(List.length x5) : Int))) (∃ w7 w8 w9, C 50 [IV.d (D.sl 4 z1 x2 e3), IV.d (D.sl 1 z4 (List.drop (Int.toNat 1) x5) [])] = some (IV.d (D.int IntKind.i64 w7), [w8, w9]) ∧ ∃ w10, x5[0]? = some (D.int IntKind.i64 w10) ∧ condW (decide (0 ≤ w10)) (∃ w11 w12 w13 w14, x2[Int.toNat w10]? = some (D.agg [D.str w11, D.int IntKind.i64 w12, D.int IntKind.i64 w13, D.int IntKind.i64 w14]) ∧ condW (w7 == w13) (Q (some (IV.d (D.bool true), [IV.d (D.sl 4 z1 x2 e3), IV.d (D.sl 1 z4 x5 e6)]))) (Q (some (IV.d (D.bool false), [IV.d (D.sl 4 z1 x2 e3), IV.d (D.sl 1 z4 x5 e6)])))) False) False) (Q (some (IV.d (D.bool false), [IV.d (D.sl 4 z1 x2 e3), IV.d (D.sl 1 z4 x5 e6)])))) False) (Q (some (IV.d (D.bool false), [IV.d (D.sl 4 z1 x2 e3), IV.d (D.sl 1 z4 x5 e6)])))) (Q (some (IV.d (D.bool false), [IV.d (D.sl 4 z1 x2 e3), IV.d (D.sl 1 z4 x5 e6)])))) (Q (some (IV.d (D.bool false), [IV.d (D.sl 4 z1 x2 e3), IV.d (D.sl 1 z4 x5 e6)])))) := by kernel_rfl
theorem q59_0 {C J} (z1 : Bool) (x2 : List D) (e3 : List D) (z4 : Bool) (x5 : List D) (e6 : List D) (v0 : Int) (v1 : Int) (v2 : Int) (v3 : ByteArray) (v4 : Int) (v5 : Int) (v6 : Int) (v7 : Int) (v8 : IV) (v9 : IV) (v10 : Int) (v11 : ByteArray) (v12 : Int) (v13 : Int) (v14 : Int) (h0 : (↑(List.length x5) : Int) > 0) (h1 : x5[0]? = some (D.int IntKind.i64 v0)) (h2 : v0 ≥ 0) (h3 : x5[0]? = some (D.int IntKind.i64 v1)) (h4 : v1 < (↑(List.length x2) : Int)) (h5 : x5[0]? = some (D.int IntKind.i64 v2)) (h6 : 0 ≤ v2) (h7 : x2[Int.toNat v2]? = some (D.agg [D.str v3, D.int IntKind.i64 v4, D.int IntKind.i64 v5, D.int IntKind.i64 v6])) (h8 : (v4 == 0) = true) (h9 : 1 ≤ (↑(List.length x5) : Int)) (h10 : C 50 [IV.d (D.sl 4 z1 x2 e3), IV.d (D.sl 1 z4 (List.drop (Int.toNat 1) x5) [])] = some (IV.d (D.int IntKind.i64 v7), [v8, v9])) (h11 : x5[0]? = some (D.int IntKind.i64 v10)) (h12 : 0 ≤ v10) (h13 : x2[Int.toNat v10]? = some (D.agg [D.str v11, D.int IntKind.i64 v12, D.int IntKind.i64 v13, D.int IntKind.i64 v14])) (h14 : (v7 == v13) = true) : evFnJ F C J d59 [.d (.sl 4 z1 x2 e3), .d (.sl 1 z4 x5 e6)] = some (IV.d (D.bool true), [IV.d (D.sl 4 z1 x2 e3), IV.d (D.sl 1 z4 x5 e6)]) := fnW_way (q59 C J z1 x2 e3 z4 x5 e6 _) (condW_t (decide_eq_true h0) (Exists.intro v0 (And.intro h1 (condW_t (decide_eq_true h2) (Exists.intro v1 (And.intro h3 (condW_t (decide_eq_true h4) (Exists.intro v2 (And.intro h5 (condW_t (decide_eq_true h6) (Exists.intro v3 (Exists.intro v4 (Exists.intro v5 (Exists.intro v6 (And.intro h7 (condW_t h8 (condW_t (decide_eq_true h9) (Exists.intro v7 (Exists.intro v8 (Exists.intro v9 (And.intro h10 (Exists.intro v10 (And.intro h11 (condW_t (decide_eq_true h12) (Exists.intro v11 (Exists.intro v12 (Exists.intro v13 (Exists.intro v14 (And.intro h13 (condW_t h14 (rfl)))))))))))))))))))))))))))))))
theorem q59_1 {C J} (z1 : Bool) (x2 : List D) (e3 : List D) (z4 : Bool) (x5 : List D) (e6 : List D) (v0 : Int) (v1 : Int) (v2 : Int) (v3 : ByteArray) (v4 : Int) (v5 : Int) (v6 : Int) (v7 : Int) (v8 : IV) (v9 : IV) (v10 : Int) (v11 : ByteArray) (v12 : Int) (v13 : Int) (v14 : Int) (h0 : (↑(List.length x5) : Int) > 0) (h1 : x5[0]? = some (D.int IntKind.i64 v0)) (h2 : v0 ≥ 0) (h3 : x5[0]? = some (D.int IntKind.i64 v1)) (h4 : v1 < (↑(List.length x2) : Int)) (h5 : x5[0]? = some (D.int IntKind.i64 v2)) (h6 : 0 ≤ v2) (h7 : x2[Int.toNat v2]? = some (D.agg [D.str v3, D.int IntKind.i64 v4, D.int IntKind.i64 v5, D.int IntKind.i64 v6])) (h8 : (v4 == 0) = true) (h9 : 1 ≤ (↑(List.length x5) : Int)) (h10 : C 50 [IV.d (D.sl 4 z1 x2 e3), IV.d (D.sl 1 z4 (List.drop (Int.toNat 1) x5) [])] = some (IV.d (D.int IntKind.i64 v7), [v8, v9])) (h11 : x5[0]? = some (D.int IntKind.i64 v10)) (h12 : 0 ≤ v10) (h13 : x2[Int.toNat v10]? = some (D.agg [D.str v11, D.int IntKind.i64 v12, D.int IntKind.i64 v13, D.int IntKind.i64 v14])) (h14 : (v7 == v13) = false) : evFnJ F C J d59 [.d (.sl 4 z1 x2 e3), .d (.sl 1 z4 x5 e6)] = some (IV.d (D.bool false), [IV.d (D.sl 4 z1 x2 e3), IV.d (D.sl 1 z4 x5 e6)]) := fnW_way (q59 C J z1 x2 e3 z4 x5 e6 _) (condW_t (decide_eq_true h0) (Exists.intro v0 (And.intro h1 (condW_t (decide_eq_true h2) (Exists.intro v1 (And.intro h3 (condW_t (decide_eq_true h4) (Exists.intro v2 (And.intro h5 (condW_t (decide_eq_true h6) (Exists.intro v3 (Exists.intro v4 (Exists.intro v5 (Exists.intro v6 (And.intro h7 (condW_t h8 (condW_t (decide_eq_true h9) (Exists.intro v7 (Exists.intro v8 (Exists.intro v9 (And.intro h10 (Exists.intro v10 (And.intro h11 (condW_t (decide_eq_true h12) (Exists.intro v11 (Exists.intro v12 (Exists.intro v13 (Exists.intro v14 (And.intro h13 (condW_f h14 (rfl)))))))))))))))))))))))))))))))
theorem q59_2 {C J} (z1 : Bool) (x2 : List D) (e3 : List D) (z4 : Bool) (x5 : List D) (e6 : List D) (v0 : Int) (v1 : Int) (v2 : Int) (v3 : ByteArray) (v4 : Int) (v5 : Int) (v6 : Int) (h0 : (↑(List.length x5) : Int) > 0) (h1 : x5[0]? = some (D.int IntKind.i64 v0)) (h2 : v0 ≥ 0) (h3 : x5[0]? = some (D.int IntKind.i64 v1)) (h4 : v1 < (↑(List.length x2) : Int)) (h5 : x5[0]? = some (D.int IntKind.i64 v2)) (h6 : 0 ≤ v2) (h7 : x2[Int.toNat v2]? = some (D.agg [D.str v3, D.int IntKind.i64 v4, D.int IntKind.i64 v5, D.int IntKind.i64 v6])) (h8 : (v4 == 0) = false) : evFnJ F C J d59 [.d (.sl 4 z1 x2 e3), .d (.sl 1 z4 x5 e6)] = some (IV.d (D.bool false), [IV.d (D.sl 4 z1 x2 e3), IV.d (D.sl 1 z4 x5 e6)]) := fnW_way (q59 C J z1 x2 e3 z4 x5 e6 _) (condW_t (decide_eq_true h0) (Exists.intro v0 (And.intro h1 (condW_t (decide_eq_true h2) (Exists.intro v1 (And.intro h3 (condW_t (decide_eq_true h4) (Exists.intro v2 (And.intro h5 (condW_t (decide_eq_true h6) (Exists.intro v3 (Exists.intro v4 (Exists.intro v5 (Exists.intro v6 (And.intro h7 (condW_f h8 (rfl)))))))))))))))))
theorem q59_3 {C J} (z1 : Bool) (x2 : List D) (e3 : List D) (z4 : Bool) (x5 : List D) (e6 : List D) (v0 : Int) (v1 : Int) (h0 : (↑(List.length x5) : Int) > 0) (h1 : x5[0]? = some (D.int IntKind.i64 v0)) (h2 : v0 ≥ 0) (h3 : x5[0]? = some (D.int IntKind.i64 v1)) (h4 : ¬v1 < (↑(List.length x2) : Int)) : evFnJ F C J d59 [.d (.sl 4 z1 x2 e3), .d (.sl 1 z4 x5 e6)] = some (IV.d (D.bool false), [IV.d (D.sl 4 z1 x2 e3), IV.d (D.sl 1 z4 x5 e6)]) := fnW_way (q59 C J z1 x2 e3 z4 x5 e6 _) (condW_t (decide_eq_true h0) (Exists.intro v0 (And.intro h1 (condW_t (decide_eq_true h2) (Exists.intro v1 (And.intro h3 (condW_f (decide_eq_false h4) (rfl))))))))
theorem q59_4 {C J} (z1 : Bool) (x2 : List D) (e3 : List D) (z4 : Bool) (x5 : List D) (e6 : List D) (v0 : Int) (h0 : (↑(List.length x5) : Int) > 0) (h1 : x5[0]? = some (D.int IntKind.i64 v0)) (h2 : ¬v0 ≥ 0) : evFnJ F C J d59 [.d (.sl 4 z1 x2 e3), .d (.sl 1 z4 x5 e6)] = some (IV.d (D.bool false), [IV.d (D.sl 4 z1 x2 e3), IV.d (D.sl 1 z4 x5 e6)]) := fnW_way (q59 C J z1 x2 e3 z4 x5 e6 _) (condW_t (decide_eq_true h0) (Exists.intro v0 (And.intro h1 (condW_f (decide_eq_false h2) (rfl)))))
theorem q59_5 {C J} (z1 : Bool) (x2 : List D) (e3 : List D) (z4 : Bool) (x5 : List D) (e6 : List D) (h0 : ¬(↑(List.length x5) : Int) > 0) : evFnJ F C J d59 [.d (.sl 4 z1 x2 e3), .d (.sl 1 z4 x5 e6)] = some (IV.d (D.bool false), [IV.d (D.sl 4 z1 x2 e3), IV.d (D.sl 1 z4 x5 e6)]) := fnW_way (q59 C J z1 x2 e3 z4 x5 e6 _) (condW_f (decide_eq_false h0) (rfl))
theorem q49 (C J) (z1 : Bool) (x2 : List D) (e3 : List D) (b4 : Bool) (z5 : Bool) (x6 : List D) (e7 : List D) (Q) : fnW F C R (L49) J d49 [.d (.sl 4 z1 x2 e3), .d (.agg [.bool b4, .sl 1 z5 x6 e7])] Q = (∃ w0 w1, C 48 [IV.d (D.sl 4 z1 x2 e3)] = some (IV.d (D.bool w0), [w1]) ∧ condW w0 (∃ w2 w3 w4, C 59 [IV.d (D.sl 4 z1 x2 e3), IV.d (D.sl 1 z5 x6 e7)] = some (IV.d (D.bool w2), [w3, w4]) ∧ condW w2 (Q (some (IV.d (D.bool true), [IV.d (D.sl 4 z1 x2 e3), IV.d (D.agg [D.bool b4, D.sl 1 z5 x6 e7])]))) (Q (some (IV.d (D.bool false), [IV.d (D.sl 4 z1 x2 e3), IV.d (D.agg [D.bool b4, D.sl 1 z5 x6 e7])])))) (Q (some (IV.d (D.bool false), [IV.d (D.sl 4 z1 x2 e3), IV.d (D.agg [D.bool b4, D.sl 1 z5 x6 e7])])))) := by kernel_rfl
theorem q49_0 {C J} (z1 : Bool) (x2 : List D) (e3 : List D) (b4 : Bool) (z5 : Bool) (x6 : List D) (e7 : List D) (v0 : Bool) (v1 : IV) (v2 : Bool) (v3 : IV) (v4 : IV) (h0 : C 48 [IV.d (D.sl 4 z1 x2 e3)] = some (IV.d (D.bool v0), [v1])) (h1 : v0 = true) (h2 : C 59 [IV.d (D.sl 4 z1 x2 e3), IV.d (D.sl 1 z5 x6 e7)] = some (IV.d (D.bool v2), [v3, v4])) (h3 : v2 = true) : evFnJ F C J d49 [.d (.sl 4 z1 x2 e3), .d (.agg [.bool b4, .sl 1 z5 x6 e7])] = some (IV.d (D.bool true), [IV.d (D.sl 4 z1 x2 e3), IV.d (D.agg [D.bool b4, D.sl 1 z5 x6 e7])]) := fnW_way (q49 C J z1 x2 e3 b4 z5 x6 e7 _) (Exists.intro v0 (Exists.intro v1 (And.intro h0 (condW_t h1 (Exists.intro v2 (Exists.intro v3 (Exists.intro v4 (And.intro h2 (condW_t h3 (rfl))))))))))
theorem q49_1 {C J} (z1 : Bool) (x2 : List D) (e3 : List D) (b4 : Bool) (z5 : Bool) (x6 : List D) (e7 : List D) (v0 : Bool) (v1 : IV) (v2 : Bool) (v3 : IV) (v4 : IV) (h0 : C 48 [IV.d (D.sl 4 z1 x2 e3)] = some (IV.d (D.bool v0), [v1])) (h1 : v0 = true) (h2 : C 59 [IV.d (D.sl 4 z1 x2 e3), IV.d (D.sl 1 z5 x6 e7)] = some (IV.d (D.bool v2), [v3, v4])) (h3 : v2 = false) : evFnJ F C J d49 [.d (.sl 4 z1 x2 e3), .d (.agg [.bool b4, .sl 1 z5 x6 e7])] = some (IV.d (D.bool false), [IV.d (D.sl 4 z1 x2 e3), IV.d (D.agg [D.bool b4, D.sl 1 z5 x6 e7])]) := fnW_way (q49 C J z1 x2 e3 b4 z5 x6 e7 _) (Exists.intro v0 (Exists.intro v1 (And.intro h0 (condW_t h1 (Exists.intro v2 (Exists.intro v3 (Exists.intro v4 (And.intro h2 (condW_f h3 (rfl))))))))))
theorem q49_2 {C J} (z1 : Bool) (x2 : List D) (e3 : List D) (b4 : Bool) (z5 : Bool) (x6 : List D) (e7 : List D) (v0 : Bool) (v1 : IV) (h0 : C 48 [IV.d (D.sl 4 z1 x2 e3)] = some (IV.d (D.bool v0), [v1])) (h1 : v0 = false) : evFnJ F C J d49 [.d (.sl 4 z1 x2 e3), .d (.agg [.bool b4, .sl 1 z5 x6 e7])] = some (IV.d (D.bool false), [IV.d (D.sl 4 z1 x2 e3), IV.d (D.agg [D.bool b4, D.sl 1 z5 x6 e7])]) := fnW_way (q49 C J z1 x2 e3 b4 z5 x6 e7 _) (Exists.intro v0 (Exists.intro v1 (And.intro h0 (condW_f h1 (rfl)))))
theorem q51 (C J) (z1 : Bool) (x2 : List D) (e3 : List D) (z4 : Bool) (x5 : List D) (e6 : List D) (z7 : Bool) (x8 : List D) (e9 : List D) (Q) : fnW F C R (L51) J d51 [.d (.agg [.sl 2 z1 x2 e3, .sl 1 z4 x5 e6, .sl 2 z7 x8 e9])] Q = (∃ w0 w1 w2 w3 w4 w5 w6 w7 w8 w9 w10 w11, evP F C J d51 [] [1, 1, 0, 1] [(1, IV.dbox 47 0 [D.sl 2 z1 x2 e3, D.sl 1 z4 x5 e6, D.sl 2 z7 x8 e9]), (3, IV.own true 56 1 []), (4, IV.d (D.int IntKind.i64 0))] = some (Out.norm [(1, IV.dbox 47 0 [D.sl 2 w0 w1 w2, D.sl 1 w3 w4 w5, D.sl 2 w6 w7 w8]), (3, IV.own w9 56 1 w10), (4, IV.d (D.int IntKind.i64 w11))]) ∧ ∃ w12 w13 w14 w15 w16 w17 w18 w19 w20 w21 w22 w23, evP F C J d51 [] [1, 1, 1, 0, 1] [(1, IV.dbox 47 0 [D.sl 2 w0 w1 w2, D.sl 1 w3 w4 w5, D.sl 2 w6 w7 w8]), (3, IV.own w9 56 1 w10), (5, IV.d (D.int IntKind.i64 0))] = some (Out.norm [(1, IV.dbox 47 0 [D.sl 2 w12 w13 w14, D.sl 1 w15 w16 w17, D.sl 2 w18 w19 w20]), (3, IV.own w21 56 1 w22), (5, IV.d (D.int IntKind.i64 w23))]) ∧ ∃ w24 w25 w26 w27 w28 w29 w30 w31 w32 w33 w34 w35, evP F C J d51 [] [1, 1, 1, 1, 0, 1] [(1, IV.dbox 47 0 [D.sl 2 w12 w13 w14, D.sl 1 w15 w16 w17, D.sl 2 w18 w19 w20]), (3, IV.own w21 56 1 w22), (6, IV.d (D.int IntKind.i64 0))] = some (Out.norm [(1, IV.dbox 47 0 [D.sl 2 w24 w25 w26, D.sl 1 w27 w28 w29, D.sl 2 w30 w31 w32]), (3, IV.own w33 56 1 w34), (6, IV.d (D.int IntKind.i64 w35))]) ∧ Q (some (IV.own w33 56 1 w34, [IV.d (D.agg [D.sl 2 z1 x2 e3, D.sl 1 z4 x5 e6, D.sl 2 z7 x8 e9])]))) := by kernel_rfl
theorem q51_0 {C J} (z1 : Bool) (x2 : List D) (e3 : List D) (z4 : Bool) (x5 : List D) (e6 : List D) (z7 : Bool) (x8 : List D) (e9 : List D) (v0 : Bool) (v1 : List D) (v2 : List D) (v3 : Bool) (v4 : List D) (v5 : List D) (v6 : Bool) (v7 : List D) (v8 : List D) (v9 : Bool) (v10 : List D) (v11 : Int) (v12 : Bool) (v13 : List D) (v14 : List D) (v15 : Bool) (v16 : List D) (v17 : List D) (v18 : Bool) (v19 : List D) (v20 : List D) (v21 : Bool) (v22 : List D) (v23 : Int) (v24 : Bool) (v25 : List D) (v26 : List D) (v27 : Bool) (v28 : List D) (v29 : List D) (v30 : Bool) (v31 : List D) (v32 : List D) (v33 : Bool) (v34 : List D) (v35 : Int) (h0 : evP F C J d51 [] [1, 1, 0, 1] [(1, IV.dbox 47 0 [D.sl 2 z1 x2 e3, D.sl 1 z4 x5 e6, D.sl 2 z7 x8 e9]), (3, IV.own true 56 1 []), (4, IV.d (D.int IntKind.i64 0))] = some (Out.norm [(1, IV.dbox 47 0 [D.sl 2 v0 v1 v2, D.sl 1 v3 v4 v5, D.sl 2 v6 v7 v8]), (3, IV.own v9 56 1 v10), (4, IV.d (D.int IntKind.i64 v11))])) (h1 : evP F C J d51 [] [1, 1, 1, 0, 1] [(1, IV.dbox 47 0 [D.sl 2 v0 v1 v2, D.sl 1 v3 v4 v5, D.sl 2 v6 v7 v8]), (3, IV.own v9 56 1 v10), (5, IV.d (D.int IntKind.i64 0))] = some (Out.norm [(1, IV.dbox 47 0 [D.sl 2 v12 v13 v14, D.sl 1 v15 v16 v17, D.sl 2 v18 v19 v20]), (3, IV.own v21 56 1 v22), (5, IV.d (D.int IntKind.i64 v23))])) (h2 : evP F C J d51 [] [1, 1, 1, 1, 0, 1] [(1, IV.dbox 47 0 [D.sl 2 v12 v13 v14, D.sl 1 v15 v16 v17, D.sl 2 v18 v19 v20]), (3, IV.own v21 56 1 v22), (6, IV.d (D.int IntKind.i64 0))] = some (Out.norm [(1, IV.dbox 47 0 [D.sl 2 v24 v25 v26, D.sl 1 v27 v28 v29, D.sl 2 v30 v31 v32]), (3, IV.own v33 56 1 v34), (6, IV.d (D.int IntKind.i64 v35))])) : evFnJ F C J d51 [.d (.agg [.sl 2 z1 x2 e3, .sl 1 z4 x5 e6, .sl 2 z7 x8 e9])] = some (IV.own v33 56 1 v34, [IV.d (D.agg [D.sl 2 z1 x2 e3, D.sl 1 z4 x5 e6, D.sl 2 z7 x8 e9])]) := fnW_way (q51 C J z1 x2 e3 z4 x5 e6 z7 x8 e9 _) (Exists.intro v0 (Exists.intro v1 (Exists.intro v2 (Exists.intro v3 (Exists.intro v4 (Exists.intro v5 (Exists.intro v6 (Exists.intro v7 (Exists.intro v8 (Exists.intro v9 (Exists.intro v10 (Exists.intro v11 (And.intro h0 (Exists.intro v12 (Exists.intro v13 (Exists.intro v14 (Exists.intro v15 (Exists.intro v16 (Exists.intro v17 (Exists.intro v18 (Exists.intro v19 (Exists.intro v20 (Exists.intro v21 (Exists.intro v22 (Exists.intro v23 (And.intro h1 (Exists.intro v24 (Exists.intro v25 (Exists.intro v26 (Exists.intro v27 (Exists.intro v28 (Exists.intro v29 (Exists.intro v30 (Exists.intro v31 (Exists.intro v32 (Exists.intro v33 (Exists.intro v34 (Exists.intro v35 (And.intro h2 (rfl))))))))))))))))))))))))))))))))))))))))
theorem q51_l2a (C J) (i1 : Int) (Q) : wpQ F C R (L51) J d51 [] [1,1,1,0,1,0,0] [(1, .dead), (3, .dead), (5, .d (.int .i64 i1))] Q = (False) := by kernel_rfl
theorem q51_l4a (C J) (i1 : Int) (Q) : wpQ F C R (L51) J d51 [] [1,1,1,1,0,1,0,0] [(1, .dead), (3, .dead), (6, .d (.int .i64 i1))] Q = (False) := by kernel_rfl
theorem q51_l0a (C J) (z1 : Bool) (x2 : List D) (e3 : List D) (z4 : Bool) (x5 : List D) (e6 : List D) (z7 : Bool) (x8 : List D) (e9 : List D) (z10 : Bool) (x11 : List D) (i12 : Int) (Q) : wpQ F C R (L51) J d51 [] [1,1,0,1,0,0] [(1, .dbox 47 0 [.sl 2 z1 x2 e3, .sl 1 z4 x5 e6, .sl 2 z7 x8 e9]), (3, .own z10 56 1 x11), (4, .d (.int .i64 i12))] Q = (condW (decide (i12 < (↑(List.length x2) : Int))) (condW (decide (0 ≤ i12)) (∃ w0 w1 w2 w3, x2[Int.toNat i12]? = some (D.agg [D.bool w0, D.sl 1 w1 w2 w3]) ∧ condW (decide (List.length x11 + (0 + 1) ≤ 9223372036854775807)) (condW (decide ((List.length x11 + (0 + 1)) * 24 ≤ 140737488355328)) (Q (Out.norm [(1, IV.dbox 47 0 [D.sl 2 z1 x2 e3, D.sl 1 z4 x5 e6, D.sl 2 z7 x8 e9]), (3, IV.own (z10 && false) 56 1 (x11 ++ [D.sl 1 w1 w2 w3])), (4, IV.d (D.int IntKind.i64 (IntKind.wrap IntKind.i64 (i12 + 1))))])) False) False) False) (Q (Out.exit 0 [(1, IV.dbox 47 0 [D.sl 2 z1 x2 e3, D.sl 1 z4 x5 e6, D.sl 2 z7 x8 e9]), (3, IV.own z10 56 1 x11), (4, IV.d (D.int IntKind.i64 i12))]))) := by kernel_rfl
theorem q51_l0a_0 {C J} (z1 : Bool) (x2 : List D) (e3 : List D) (z4 : Bool) (x5 : List D) (e6 : List D) (z7 : Bool) (x8 : List D) (e9 : List D) (z10 : Bool) (x11 : List D) (i12 : Int) (v0 : Bool) (v1 : Bool) (v2 : List D) (v3 : List D) (h0 : i12 < (↑(List.length x2) : Int)) (h1 : 0 ≤ i12) (h2 : x2[Int.toNat i12]? = some (D.agg [D.bool v0, D.sl 1 v1 v2 v3])) (h3 : List.length x11 + (0 + 1) ≤ 9223372036854775807) (h4 : (List.length x11 + (0 + 1)) * 24 ≤ 140737488355328) : evP F C J d51 [] [1,1,0,1,0,0] [(1, .dbox 47 0 [.sl 2 z1 x2 e3, .sl 1 z4 x5 e6, .sl 2 z7 x8 e9]), (3, .own z10 56 1 x11), (4, .d (.int .i64 i12))] = some (Out.norm [(1, IV.dbox 47 0 [D.sl 2 z1 x2 e3, D.sl 1 z4 x5 e6, D.sl 2 z7 x8 e9]), (3, IV.own (z10 && false) 56 1 (x11 ++ [D.sl 1 v1 v2 v3])), (4, IV.d (D.int IntKind.i64 (IntKind.wrap IntKind.i64 (i12 + 1))))]) := wpQ_way (q51_l0a C J z1 x2 e3 z4 x5 e6 z7 x8 e9 z10 x11 i12 _) (condW_t (decide_eq_true h0) (condW_t (decide_eq_true h1) (Exists.intro v0 (Exists.intro v1 (Exists.intro v2 (Exists.intro v3 (And.intro h2 (condW_t (decide_eq_true h3) (condW_t (decide_eq_true h4) (rfl))))))))))
theorem q51_l0a_1 {C J} (z1 : Bool) (x2 : List D) (e3 : List D) (z4 : Bool) (x5 : List D) (e6 : List D) (z7 : Bool) (x8 : List D) (e9 : List D) (z10 : Bool) (x11 : List D) (i12 : Int) (h0 : ¬i12 < (↑(List.length x2) : Int)) : evP F C J d51 [] [1,1,0,1,0,0] [(1, .dbox 47 0 [.sl 2 z1 x2 e3, .sl 1 z4 x5 e6, .sl 2 z7 x8 e9]), (3, .own z10 56 1 x11), (4, .d (.int .i64 i12))] = some (Out.exit 0 [(1, IV.dbox 47 0 [D.sl 2 z1 x2 e3, D.sl 1 z4 x5 e6, D.sl 2 z7 x8 e9]), (3, IV.own z10 56 1 x11), (4, IV.d (D.int IntKind.i64 i12))]) := wpQ_way (q51_l0a C J z1 x2 e3 z4 x5 e6 z7 x8 e9 z10 x11 i12 _) (condW_f (decide_eq_false h0) (rfl))
theorem q51_l2b (C J) (z1 : Bool) (x2 : List D) (e3 : List D) (z4 : Bool) (x5 : List D) (e6 : List D) (z7 : Bool) (x8 : List D) (e9 : List D) (z10 : Bool) (x11 : List D) (i12 : Int) (Q) : wpQ F C R (L51) J d51 [] [1,1,1,0,1,0,0] [(1, .dbox 47 0 [.sl 2 z1 x2 e3, .sl 1 z4 x5 e6, .sl 2 z7 x8 e9]), (3, .own z10 56 1 x11), (5, .d (.int .i64 i12))] Q = (condW (decide (i12 < (↑(List.length x5) : Int))) (condW (decide (0 ≤ i12)) (∃ w0 w1 w2, x5[Int.toNat i12]? = some (D.sl 1 w0 w1 w2) ∧ condW (decide (List.length x11 + (0 + 1) ≤ 9223372036854775807)) (condW (decide ((List.length x11 + (0 + 1)) * 24 ≤ 140737488355328)) (Q (Out.norm [(1, IV.dbox 47 0 [D.sl 2 z1 x2 e3, D.sl 1 z4 x5 e6, D.sl 2 z7 x8 e9]), (3, IV.own (z10 && false) 56 1 (x11 ++ [D.sl 1 w0 w1 w2])), (5, IV.d (D.int IntKind.i64 (IntKind.wrap IntKind.i64 (i12 + 1))))])) False) False) False) (Q (Out.exit 2 [(1, IV.dbox 47 0 [D.sl 2 z1 x2 e3, D.sl 1 z4 x5 e6, D.sl 2 z7 x8 e9]), (3, IV.own z10 56 1 x11), (5, IV.d (D.int IntKind.i64 i12))]))) := by kernel_rfl
theorem q51_l2b_0 {C J} (z1 : Bool) (x2 : List D) (e3 : List D) (z4 : Bool) (x5 : List D) (e6 : List D) (z7 : Bool) (x8 : List D) (e9 : List D) (z10 : Bool) (x11 : List D) (i12 : Int) (v0 : Bool) (v1 : List D) (v2 : List D) (h0 : i12 < (↑(List.length x5) : Int)) (h1 : 0 ≤ i12) (h2 : x5[Int.toNat i12]? = some (D.sl 1 v0 v1 v2)) (h3 : List.length x11 + (0 + 1) ≤ 9223372036854775807) (h4 : (List.length x11 + (0 + 1)) * 24 ≤ 140737488355328) : evP F C J d51 [] [1,1,1,0,1,0,0] [(1, .dbox 47 0 [.sl 2 z1 x2 e3, .sl 1 z4 x5 e6, .sl 2 z7 x8 e9]), (3, .own z10 56 1 x11), (5, .d (.int .i64 i12))] = some (Out.norm [(1, IV.dbox 47 0 [D.sl 2 z1 x2 e3, D.sl 1 z4 x5 e6, D.sl 2 z7 x8 e9]), (3, IV.own (z10 && false) 56 1 (x11 ++ [D.sl 1 v0 v1 v2])), (5, IV.d (D.int IntKind.i64 (IntKind.wrap IntKind.i64 (i12 + 1))))]) := wpQ_way (q51_l2b C J z1 x2 e3 z4 x5 e6 z7 x8 e9 z10 x11 i12 _) (condW_t (decide_eq_true h0) (condW_t (decide_eq_true h1) (Exists.intro v0 (Exists.intro v1 (Exists.intro v2 (And.intro h2 (condW_t (decide_eq_true h3) (condW_t (decide_eq_true h4) (rfl)))))))))
theorem q51_l2b_1 {C J} (z1 : Bool) (x2 : List D) (e3 : List D) (z4 : Bool) (x5 : List D) (e6 : List D) (z7 : Bool) (x8 : List D) (e9 : List D) (z10 : Bool) (x11 : List D) (i12 : Int) (h0 : ¬i12 < (↑(List.length x5) : Int)) : evP F C J d51 [] [1,1,1,0,1,0,0] [(1, .dbox 47 0 [.sl 2 z1 x2 e3, .sl 1 z4 x5 e6, .sl 2 z7 x8 e9]), (3, .own z10 56 1 x11), (5, .d (.int .i64 i12))] = some (Out.exit 2 [(1, IV.dbox 47 0 [D.sl 2 z1 x2 e3, D.sl 1 z4 x5 e6, D.sl 2 z7 x8 e9]), (3, IV.own z10 56 1 x11), (5, IV.d (D.int IntKind.i64 i12))]) := wpQ_way (q51_l2b C J z1 x2 e3 z4 x5 e6 z7 x8 e9 z10 x11 i12 _) (condW_f (decide_eq_false h0) (rfl))
theorem q51_l4b (C J) (z1 : Bool) (x2 : List D) (e3 : List D) (z4 : Bool) (x5 : List D) (e6 : List D) (z7 : Bool) (x8 : List D) (e9 : List D) (z10 : Bool) (x11 : List D) (i12 : Int) (Q) : wpQ F C R (L51) J d51 [] [1,1,1,1,0,1,0,0] [(1, .dbox 47 0 [.sl 2 z1 x2 e3, .sl 1 z4 x5 e6, .sl 2 z7 x8 e9]), (3, .own z10 56 1 x11), (6, .d (.int .i64 i12))] Q = (condW (decide (i12 < (↑(List.length x8) : Int))) (condW (decide (0 ≤ i12)) (∃ w0 w1 w2 w3, x8[Int.toNat i12]? = some (D.agg [D.bool w0, D.sl 1 w1 w2 w3]) ∧ condW (decide (List.length x11 + (0 + 1) ≤ 9223372036854775807)) (condW (decide ((List.length x11 + (0 + 1)) * 24 ≤ 140737488355328)) (Q (Out.norm [(1, IV.dbox 47 0 [D.sl 2 z1 x2 e3, D.sl 1 z4 x5 e6, D.sl 2 z7 x8 e9]), (3, IV.own (z10 && false) 56 1 (x11 ++ [D.sl 1 w1 w2 w3])), (6, IV.d (D.int IntKind.i64 (IntKind.wrap IntKind.i64 (i12 + 1))))])) False) False) False) (Q (Out.exit 4 [(1, IV.dbox 47 0 [D.sl 2 z1 x2 e3, D.sl 1 z4 x5 e6, D.sl 2 z7 x8 e9]), (3, IV.own z10 56 1 x11), (6, IV.d (D.int IntKind.i64 i12))]))) := by kernel_rfl
theorem q51_l4b_0 {C J} (z1 : Bool) (x2 : List D) (e3 : List D) (z4 : Bool) (x5 : List D) (e6 : List D) (z7 : Bool) (x8 : List D) (e9 : List D) (z10 : Bool) (x11 : List D) (i12 : Int) (v0 : Bool) (v1 : Bool) (v2 : List D) (v3 : List D) (h0 : i12 < (↑(List.length x8) : Int)) (h1 : 0 ≤ i12) (h2 : x8[Int.toNat i12]? = some (D.agg [D.bool v0, D.sl 1 v1 v2 v3])) (h3 : List.length x11 + (0 + 1) ≤ 9223372036854775807) (h4 : (List.length x11 + (0 + 1)) * 24 ≤ 140737488355328) : evP F C J d51 [] [1,1,1,1,0,1,0,0] [(1, .dbox 47 0 [.sl 2 z1 x2 e3, .sl 1 z4 x5 e6, .sl 2 z7 x8 e9]), (3, .own z10 56 1 x11), (6, .d (.int .i64 i12))] = some (Out.norm [(1, IV.dbox 47 0 [D.sl 2 z1 x2 e3, D.sl 1 z4 x5 e6, D.sl 2 z7 x8 e9]), (3, IV.own (z10 && false) 56 1 (x11 ++ [D.sl 1 v1 v2 v3])), (6, IV.d (D.int IntKind.i64 (IntKind.wrap IntKind.i64 (i12 + 1))))]) := wpQ_way (q51_l4b C J z1 x2 e3 z4 x5 e6 z7 x8 e9 z10 x11 i12 _) (condW_t (decide_eq_true h0) (condW_t (decide_eq_true h1) (Exists.intro v0 (Exists.intro v1 (Exists.intro v2 (Exists.intro v3 (And.intro h2 (condW_t (decide_eq_true h3) (condW_t (decide_eq_true h4) (rfl))))))))))
theorem q51_l4b_1 {C J} (z1 : Bool) (x2 : List D) (e3 : List D) (z4 : Bool) (x5 : List D) (e6 : List D) (z7 : Bool) (x8 : List D) (e9 : List D) (z10 : Bool) (x11 : List D) (i12 : Int) (h0 : ¬i12 < (↑(List.length x8) : Int)) : evP F C J d51 [] [1,1,1,1,0,1,0,0] [(1, .dbox 47 0 [.sl 2 z1 x2 e3, .sl 1 z4 x5 e6, .sl 2 z7 x8 e9]), (3, .own z10 56 1 x11), (6, .d (.int .i64 i12))] = some (Out.exit 4 [(1, IV.dbox 47 0 [D.sl 2 z1 x2 e3, D.sl 1 z4 x5 e6, D.sl 2 z7 x8 e9]), (3, IV.own z10 56 1 x11), (6, IV.d (D.int IntKind.i64 i12))]) := wpQ_way (q51_l4b C J z1 x2 e3 z4 x5 e6 z7 x8 e9 z10 x11 i12 _) (condW_f (decide_eq_false h0) (rfl))
theorem q39 (C J) (z1 : Bool) (x2 : List D) (e3 : List D) (z4 : Bool) (x5 : List D) (e6 : List D) (z7 : Bool) (x8 : List D) (e9 : List D) (z10 : Bool) (x11 : List D) (e12 : List D) (Q) : fnW F C R (L39) J d39 [.d (.sl 4 z1 x2 e3), .d (.agg [.sl 2 z4 x5 e6, .sl 1 z7 x8 e9, .sl 2 z10 x11 e12])] Q = (∃ w0 w1, C 48 [IV.d (D.sl 4 z1 x2 e3)] = some (IV.d (D.bool w0), [w1]) ∧ condW w0 (condW (decide ((↑(List.length x5) : Int) > 5)) (Q (some (IV.d (D.bool false), [IV.d (D.sl 4 z1 x2 e3), IV.d (D.agg [D.sl 2 z4 x5 e6, D.sl 1 z7 x8 e9, D.sl 2 z10 x11 e12])]))) (condW (decide ((↑(List.length x11) : Int) > 3)) (Q (some (IV.d (D.bool false), [IV.d (D.sl 4 z1 x2 e3), IV.d (D.agg [D.sl 2 z4 x5 e6, D.sl 1 z7 x8 e9, D.sl 2 z10 x11 e12])]))) (condW (decide ((↑(List.length x8) : Int) > 3)) (Q (some (IV.d (D.bool false), [IV.d (D.sl 4 z1 x2 e3), IV.d (D.agg [D.sl 2 z4 x5 e6, D.sl 1 z7 x8 e9, D.sl 2 z10 x11 e12])]))) ((∃ w2, evP F C J d39 [] [1, 1, 0, 1] [(0, IV.d (D.sl 4 z1 x2 e3)), (3, IV.dbox 47 0 [D.sl 2 z4 x5 e6, D.sl 1 z7 x8 e9, D.sl 2 z10 x11 e12]), (5, IV.d (D.int IntKind.i64 0))] = some (Out.ret [(4, IV.d (D.bool w2))]) ∧ Q (some (IV.d (D.bool w2), [IV.d (D.sl 4 z1 x2 e3), IV.d (D.agg [D.sl 2 z4 x5 e6, D.sl 1 z7 x8 e9, D.sl 2 z10 x11 e12])]))) ∨ ∃ w3 w4 w5 w6 w7 w8 w9 w10 w11 w12 w13 w14 w15, evP F C J d39 [] [1, 1, 0, 1] [(0, IV.d (D.sl 4 z1 x2 e3)), (3, IV.dbox 47 0 [D.sl 2 z4 x5 e6, D.sl 1 z7 x8 e9, D.sl 2 z10 x11 e12]), (5, IV.d (D.int IntKind.i64 0))] = some (Out.norm [(0, IV.d (D.sl 4 w3 w4 w5)), (3, IV.dbox 47 0 [D.sl 2 w6 w7 w8, D.sl 1 w9 w10 w11, D.sl 2 w12 w13 w14]), (5, IV.d (D.int IntKind.i64 w15))]) ∧ ((∃ w16, evP F C J d39 [] [1, 1, 1, 0, 1] [(0, IV.d (D.sl 4 w3 w4 w5)), (3, IV.dbox 47 0 [D.sl 2 w6 w7 w8, D.sl 1 w9 w10 w11, D.sl 2 w12 w13 w14]), (6, IV.d (D.int IntKind.i64 0))] = some (Out.ret [(4, IV.d (D.bool w16))]) ∧ Q (some (IV.d (D.bool w16), [IV.d (D.sl 4 z1 x2 e3), IV.d (D.agg [D.sl 2 z4 x5 e6, D.sl 1 z7 x8 e9, D.sl 2 z10 x11 e12])]))) ∨ ∃ w17 w18 w19 w20 w21 w22 w23 w24 w25 w26 w27 w28 w29, evP F C J d39 [] [1, 1, 1, 0, 1] [(0, IV.d (D.sl 4 w3 w4 w5)), (3, IV.dbox 47 0 [D.sl 2 w6 w7 w8, D.sl 1 w9 w10 w11, D.sl 2 w12 w13 w14]), (6, IV.d (D.int IntKind.i64 0))] = some (Out.norm [(0, IV.d (D.sl 4 w17 w18 w19)), (3, IV.dbox 47 0 [D.sl 2 w20 w21 w22, D.sl 1 w23 w24 w25, D.sl 2 w26 w27 w28]), (6, IV.d (D.int IntKind.i64 w29))]) ∧ ((∃ w30, evP F C J d39 [] [1, 1, 1, 1, 0, 1] [(0, IV.d (D.sl 4 w17 w18 w19)), (3, IV.dbox 47 0 [D.sl 2 w20 w21 w22, D.sl 1 w23 w24 w25, D.sl 2 w26 w27 w28]), (7, IV.d (D.int IntKind.i64 0))] = some (Out.ret [(4, IV.d (D.bool w30))]) ∧ Q (some (IV.d (D.bool w30), [IV.d (D.sl 4 z1 x2 e3), IV.d (D.agg [D.sl 2 z4 x5 e6, D.sl 1 z7 x8 e9, D.sl 2 z10 x11 e12])]))) ∨ ∃ w31 w32 w33 w34 w35 w36 w37 w38 w39 w40 w41 w42 w43, evP F C J d39 [] [1, 1, 1, 1, 0, 1] [(0, IV.d (D.sl 4 w17 w18 w19)), (3, IV.dbox 47 0 [D.sl 2 w20 w21 w22, D.sl 1 w23 w24 w25, D.sl 2 w26 w27 w28]), (7, IV.d (D.int IntKind.i64 0))] = some (Out.norm [(0, IV.d (D.sl 4 w31 w32 w33)), (3, IV.dbox 47 0 [D.sl 2 w34 w35 w36, D.sl 1 w37 w38 w39, D.sl 2 w40 w41 w42]), (7, IV.d (D.int IntKind.i64 w43))]) ∧ ∃ w44 w45 w46, C 51 [IV.d (D.agg [D.sl 2 w34 w35 w36, D.sl 1 w37 w38 w39, D.sl 2 w40 w41 w42])] = some (IV.own w44 56 1 w45, [w46]) ∧ ∃ w47 w48 w49 w50, evP F C J d39 [] [1, 1, 1, 1, 1, 1, 1, 0, 1] [(9, IV.own w44 56 1 w45), (10, IV.d (D.int IntKind.i64 0)), (11, IV.d (D.int IntKind.i64 0))] = some (Out.norm [(9, IV.own w47 56 1 w48), (10, IV.d (D.int IntKind.i64 w49)), (11, IV.d (D.int IntKind.i64 w50))]) ∧ condW (decide (w49 ≤ 240)) (Q (some (IV.d (D.bool true), [IV.d (D.sl 4 z1 x2 e3), IV.d (D.agg [D.sl 2 z4 x5 e6, D.sl 1 z7 x8 e9, D.sl 2 z10 x11 e12])]))) (Q (some (IV.d (D.bool false), [IV.d (D.sl 4 z1 x2 e3), IV.d (D.agg [D.sl 2 z4 x5 e6, D.sl 1 z7 x8 e9, D.sl 2 z10 x11 e12])]))))))))) (Q (some (IV.d (D.bool false), [IV.d (D.sl 4 z1 x2 e3), IV.d (D.agg [D.sl 2 z4 x5 e6, D.sl 1 z7 x8 e9, D.sl 2 z10 x11 e12])])))) := by kernel_rfl
theorem q39_0 {C J} (z1 : Bool) (x2 : List D) (e3 : List D) (z4 : Bool) (x5 : List D) (e6 : List D) (z7 : Bool) (x8 : List D) (e9 : List D) (z10 : Bool) (x11 : List D) (e12 : List D) (v0 : Bool) (v1 : IV) (h0 : C 48 [IV.d (D.sl 4 z1 x2 e3)] = some (IV.d (D.bool v0), [v1])) (h1 : v0 = true) (h2 : (↑(List.length x5) : Int) > 5) : evFnJ F C J d39 [.d (.sl 4 z1 x2 e3), .d (.agg [.sl 2 z4 x5 e6, .sl 1 z7 x8 e9, .sl 2 z10 x11 e12])] = some (IV.d (D.bool false), [IV.d (D.sl 4 z1 x2 e3), IV.d (D.agg [D.sl 2 z4 x5 e6, D.sl 1 z7 x8 e9, D.sl 2 z10 x11 e12])]) := fnW_way (q39 C J z1 x2 e3 z4 x5 e6 z7 x8 e9 z10 x11 e12 _) (Exists.intro v0 (Exists.intro v1 (And.intro h0 (condW_t h1 (condW_t (decide_eq_true h2) (rfl))))))
theorem q39_1 {C J} (z1 : Bool) (x2 : List D) (e3 : List D) (z4 : Bool) (x5 : List D) (e6 : List D) (z7 : Bool) (x8 : List D) (e9 : List D) (z10 : Bool) (x11 : List D) (e12 : List D) (v0 : Bool) (v1 : IV) (h0 : C 48 [IV.d (D.sl 4 z1 x2 e3)] = some (IV.d (D.bool v0), [v1])) (h1 : v0 = true) (h2 : ¬(↑(List.length x5) : Int) > 5) (h3 : (↑(List.length x11) : Int) > 3) : evFnJ F C J d39 [.d (.sl 4 z1 x2 e3), .d (.agg [.sl 2 z4 x5 e6, .sl 1 z7 x8 e9, .sl 2 z10 x11 e12])] = some (IV.d (D.bool false), [IV.d (D.sl 4 z1 x2 e3), IV.d (D.agg [D.sl 2 z4 x5 e6, D.sl 1 z7 x8 e9, D.sl 2 z10 x11 e12])]) := fnW_way (q39 C J z1 x2 e3 z4 x5 e6 z7 x8 e9 z10 x11 e12 _) (Exists.intro v0 (Exists.intro v1 (And.intro h0 (condW_t h1 (condW_f (decide_eq_false h2) (condW_t (decide_eq_true h3) (rfl)))))))
theorem q39_2 {C J} (z1 : Bool) (x2 : List D) (e3 : List D) (z4 : Bool) (x5 : List D) (e6 : List D) (z7 : Bool) (x8 : List D) (e9 : List D) (z10 : Bool) (x11 : List D) (e12 : List D) (v0 : Bool) (v1 : IV) (h0 : C 48 [IV.d (D.sl 4 z1 x2 e3)] = some (IV.d (D.bool v0), [v1])) (h1 : v0 = true) (h2 : ¬(↑(List.length x5) : Int) > 5) (h3 : ¬(↑(List.length x11) : Int) > 3) (h4 : (↑(List.length x8) : Int) > 3) : evFnJ F C J d39 [.d (.sl 4 z1 x2 e3), .d (.agg [.sl 2 z4 x5 e6, .sl 1 z7 x8 e9, .sl 2 z10 x11 e12])] = some (IV.d (D.bool false), [IV.d (D.sl 4 z1 x2 e3), IV.d (D.agg [D.sl 2 z4 x5 e6, D.sl 1 z7 x8 e9, D.sl 2 z10 x11 e12])]) := fnW_way (q39 C J z1 x2 e3 z4 x5 e6 z7 x8 e9 z10 x11 e12 _) (Exists.intro v0 (Exists.intro v1 (And.intro h0 (condW_t h1 (condW_f (decide_eq_false h2) (condW_f (decide_eq_false h3) (condW_t (decide_eq_true h4) (rfl))))))))
theorem q39_3 {C J} (z1 : Bool) (x2 : List D) (e3 : List D) (z4 : Bool) (x5 : List D) (e6 : List D) (z7 : Bool) (x8 : List D) (e9 : List D) (z10 : Bool) (x11 : List D) (e12 : List D) (v0 : Bool) (v1 : IV) (v2 : Bool) (h0 : C 48 [IV.d (D.sl 4 z1 x2 e3)] = some (IV.d (D.bool v0), [v1])) (h1 : v0 = true) (h2 : ¬(↑(List.length x5) : Int) > 5) (h3 : ¬(↑(List.length x11) : Int) > 3) (h4 : ¬(↑(List.length x8) : Int) > 3) (h5 : evP F C J d39 [] [1, 1, 0, 1] [(0, IV.d (D.sl 4 z1 x2 e3)), (3, IV.dbox 47 0 [D.sl 2 z4 x5 e6, D.sl 1 z7 x8 e9, D.sl 2 z10 x11 e12]), (5, IV.d (D.int IntKind.i64 0))] = some (Out.ret [(4, IV.d (D.bool v2))])) : evFnJ F C J d39 [.d (.sl 4 z1 x2 e3), .d (.agg [.sl 2 z4 x5 e6, .sl 1 z7 x8 e9, .sl 2 z10 x11 e12])] = some (IV.d (D.bool v2), [IV.d (D.sl 4 z1 x2 e3), IV.d (D.agg [D.sl 2 z4 x5 e6, D.sl 1 z7 x8 e9, D.sl 2 z10 x11 e12])]) := fnW_way (q39 C J z1 x2 e3 z4 x5 e6 z7 x8 e9 z10 x11 e12 _) (Exists.intro v0 (Exists.intro v1 (And.intro h0 (condW_t h1 (condW_f (decide_eq_false h2) (condW_f (decide_eq_false h3) (condW_f (decide_eq_false h4) (Or.inl (Exists.intro v2 (And.intro h5 (rfl)))))))))))
theorem q39_4 {C J} (z1 : Bool) (x2 : List D) (e3 : List D) (z4 : Bool) (x5 : List D) (e6 : List D) (z7 : Bool) (x8 : List D) (e9 : List D) (z10 : Bool) (x11 : List D) (e12 : List D) (v0 : Bool) (v1 : IV) (v2 : Bool) (v3 : List D) (v4 : List D) (v5 : Bool) (v6 : List D) (v7 : List D) (v8 : Bool) (v9 : List D) (v10 : List D) (v11 : Bool) (v12 : List D) (v13 : List D) (v14 : Int) (v15 : Bool) (h0 : C 48 [IV.d (D.sl 4 z1 x2 e3)] = some (IV.d (D.bool v0), [v1])) (h1 : v0 = true) (h2 : ¬(↑(List.length x5) : Int) > 5) (h3 : ¬(↑(List.length x11) : Int) > 3) (h4 : ¬(↑(List.length x8) : Int) > 3) (h5 : evP F C J d39 [] [1, 1, 0, 1] [(0, IV.d (D.sl 4 z1 x2 e3)), (3, IV.dbox 47 0 [D.sl 2 z4 x5 e6, D.sl 1 z7 x8 e9, D.sl 2 z10 x11 e12]), (5, IV.d (D.int IntKind.i64 0))] = some (Out.norm [(0, IV.d (D.sl 4 v2 v3 v4)), (3, IV.dbox 47 0 [D.sl 2 v5 v6 v7, D.sl 1 v8 v9 v10, D.sl 2 v11 v12 v13]), (5, IV.d (D.int IntKind.i64 v14))])) (h6 : evP F C J d39 [] [1, 1, 1, 0, 1] [(0, IV.d (D.sl 4 v2 v3 v4)), (3, IV.dbox 47 0 [D.sl 2 v5 v6 v7, D.sl 1 v8 v9 v10, D.sl 2 v11 v12 v13]), (6, IV.d (D.int IntKind.i64 0))] = some (Out.ret [(4, IV.d (D.bool v15))])) : evFnJ F C J d39 [.d (.sl 4 z1 x2 e3), .d (.agg [.sl 2 z4 x5 e6, .sl 1 z7 x8 e9, .sl 2 z10 x11 e12])] = some (IV.d (D.bool v15), [IV.d (D.sl 4 z1 x2 e3), IV.d (D.agg [D.sl 2 z4 x5 e6, D.sl 1 z7 x8 e9, D.sl 2 z10 x11 e12])]) := fnW_way (q39 C J z1 x2 e3 z4 x5 e6 z7 x8 e9 z10 x11 e12 _) (Exists.intro v0 (Exists.intro v1 (And.intro h0 (condW_t h1 (condW_f (decide_eq_false h2) (condW_f (decide_eq_false h3) (condW_f (decide_eq_false h4) (Or.inr (Exists.intro v2 (Exists.intro v3 (Exists.intro v4 (Exists.intro v5 (Exists.intro v6 (Exists.intro v7 (Exists.intro v8 (Exists.intro v9 (Exists.intro v10 (Exists.intro v11 (Exists.intro v12 (Exists.intro v13 (Exists.intro v14 (And.intro h5 (Or.inl (Exists.intro v15 (And.intro h6 (rfl))))))))))))))))))))))))))
theorem q39_5 {C J} (z1 : Bool) (x2 : List D) (e3 : List D) (z4 : Bool) (x5 : List D) (e6 : List D) (z7 : Bool) (x8 : List D) (e9 : List D) (z10 : Bool) (x11 : List D) (e12 : List D) (v0 : Bool) (v1 : IV) (v2 : Bool) (v3 : List D) (v4 : List D) (v5 : Bool) (v6 : List D) (v7 : List D) (v8 : Bool) (v9 : List D) (v10 : List D) (v11 : Bool) (v12 : List D) (v13 : List D) (v14 : Int) (v15 : Bool) (v16 : List D) (v17 : List D) (v18 : Bool) (v19 : List D) (v20 : List D) (v21 : Bool) (v22 : List D) (v23 : List D) (v24 : Bool) (v25 : List D) (v26 : List D) (v27 : Int) (v28 : Bool) (h0 : C 48 [IV.d (D.sl 4 z1 x2 e3)] = some (IV.d (D.bool v0), [v1])) (h1 : v0 = true) (h2 : ¬(↑(List.length x5) : Int) > 5) (h3 : ¬(↑(List.length x11) : Int) > 3) (h4 : ¬(↑(List.length x8) : Int) > 3) (h5 : evP F C J d39 [] [1, 1, 0, 1] [(0, IV.d (D.sl 4 z1 x2 e3)), (3, IV.dbox 47 0 [D.sl 2 z4 x5 e6, D.sl 1 z7 x8 e9, D.sl 2 z10 x11 e12]), (5, IV.d (D.int IntKind.i64 0))] = some (Out.norm [(0, IV.d (D.sl 4 v2 v3 v4)), (3, IV.dbox 47 0 [D.sl 2 v5 v6 v7, D.sl 1 v8 v9 v10, D.sl 2 v11 v12 v13]), (5, IV.d (D.int IntKind.i64 v14))])) (h6 : evP F C J d39 [] [1, 1, 1, 0, 1] [(0, IV.d (D.sl 4 v2 v3 v4)), (3, IV.dbox 47 0 [D.sl 2 v5 v6 v7, D.sl 1 v8 v9 v10, D.sl 2 v11 v12 v13]), (6, IV.d (D.int IntKind.i64 0))] = some (Out.norm [(0, IV.d (D.sl 4 v15 v16 v17)), (3, IV.dbox 47 0 [D.sl 2 v18 v19 v20, D.sl 1 v21 v22 v23, D.sl 2 v24 v25 v26]), (6, IV.d (D.int IntKind.i64 v27))])) (h7 : evP F C J d39 [] [1, 1, 1, 1, 0, 1] [(0, IV.d (D.sl 4 v15 v16 v17)), (3, IV.dbox 47 0 [D.sl 2 v18 v19 v20, D.sl 1 v21 v22 v23, D.sl 2 v24 v25 v26]), (7, IV.d (D.int IntKind.i64 0))] = some (Out.ret [(4, IV.d (D.bool v28))])) : evFnJ F C J d39 [.d (.sl 4 z1 x2 e3), .d (.agg [.sl 2 z4 x5 e6, .sl 1 z7 x8 e9, .sl 2 z10 x11 e12])] = some (IV.d (D.bool v28), [IV.d (D.sl 4 z1 x2 e3), IV.d (D.agg [D.sl 2 z4 x5 e6, D.sl 1 z7 x8 e9, D.sl 2 z10 x11 e12])]) := fnW_way (q39 C J z1 x2 e3 z4 x5 e6 z7 x8 e9 z10 x11 e12 _) (Exists.intro v0 (Exists.intro v1 (And.intro h0 (condW_t h1 (condW_f (decide_eq_false h2) (condW_f (decide_eq_false h3) (condW_f (decide_eq_false h4) (Or.inr (Exists.intro v2 (Exists.intro v3 (Exists.intro v4 (Exists.intro v5 (Exists.intro v6 (Exists.intro v7 (Exists.intro v8 (Exists.intro v9 (Exists.intro v10 (Exists.intro v11 (Exists.intro v12 (Exists.intro v13 (Exists.intro v14 (And.intro h5 (Or.inr (Exists.intro v15 (Exists.intro v16 (Exists.intro v17 (Exists.intro v18 (Exists.intro v19 (Exists.intro v20 (Exists.intro v21 (Exists.intro v22 (Exists.intro v23 (Exists.intro v24 (Exists.intro v25 (Exists.intro v26 (Exists.intro v27 (And.intro h6 (Or.inl (Exists.intro v28 (And.intro h7 (rfl)))))))))))))))))))))))))))))))))))))))))
theorem q39_6 {C J} (z1 : Bool) (x2 : List D) (e3 : List D) (z4 : Bool) (x5 : List D) (e6 : List D) (z7 : Bool) (x8 : List D) (e9 : List D) (z10 : Bool) (x11 : List D) (e12 : List D) (v0 : Bool) (v1 : IV) (v2 : Bool) (v3 : List D) (v4 : List D) (v5 : Bool) (v6 : List D) (v7 : List D) (v8 : Bool) (v9 : List D) (v10 : List D) (v11 : Bool) (v12 : List D) (v13 : List D) (v14 : Int) (v15 : Bool) (v16 : List D) (v17 : List D) (v18 : Bool) (v19 : List D) (v20 : List D) (v21 : Bool) (v22 : List D) (v23 : List D) (v24 : Bool) (v25 : List D) (v26 : List D) (v27 : Int) (v28 : Bool) (v29 : List D) (v30 : List D) (v31 : Bool) (v32 : List D) (v33 : List D) (v34 : Bool) (v35 : List D) (v36 : List D) (v37 : Bool) (v38 : List D) (v39 : List D) (v40 : Int) (v41 : Bool) (v42 : List D) (v43 : IV) (v44 : Bool) (v45 : List D) (v46 : Int) (v47 : Int) (h0 : C 48 [IV.d (D.sl 4 z1 x2 e3)] = some (IV.d (D.bool v0), [v1])) (h1 : v0 = true) (h2 : ¬(↑(List.length x5) : Int) > 5) (h3 : ¬(↑(List.length x11) : Int) > 3) (h4 : ¬(↑(List.length x8) : Int) > 3) (h5 : evP F C J d39 [] [1, 1, 0, 1] [(0, IV.d (D.sl 4 z1 x2 e3)), (3, IV.dbox 47 0 [D.sl 2 z4 x5 e6, D.sl 1 z7 x8 e9, D.sl 2 z10 x11 e12]), (5, IV.d (D.int IntKind.i64 0))] = some (Out.norm [(0, IV.d (D.sl 4 v2 v3 v4)), (3, IV.dbox 47 0 [D.sl 2 v5 v6 v7, D.sl 1 v8 v9 v10, D.sl 2 v11 v12 v13]), (5, IV.d (D.int IntKind.i64 v14))])) (h6 : evP F C J d39 [] [1, 1, 1, 0, 1] [(0, IV.d (D.sl 4 v2 v3 v4)), (3, IV.dbox 47 0 [D.sl 2 v5 v6 v7, D.sl 1 v8 v9 v10, D.sl 2 v11 v12 v13]), (6, IV.d (D.int IntKind.i64 0))] = some (Out.norm [(0, IV.d (D.sl 4 v15 v16 v17)), (3, IV.dbox 47 0 [D.sl 2 v18 v19 v20, D.sl 1 v21 v22 v23, D.sl 2 v24 v25 v26]), (6, IV.d (D.int IntKind.i64 v27))])) (h7 : evP F C J d39 [] [1, 1, 1, 1, 0, 1] [(0, IV.d (D.sl 4 v15 v16 v17)), (3, IV.dbox 47 0 [D.sl 2 v18 v19 v20, D.sl 1 v21 v22 v23, D.sl 2 v24 v25 v26]), (7, IV.d (D.int IntKind.i64 0))] = some (Out.norm [(0, IV.d (D.sl 4 v28 v29 v30)), (3, IV.dbox 47 0 [D.sl 2 v31 v32 v33, D.sl 1 v34 v35 v36, D.sl 2 v37 v38 v39]), (7, IV.d (D.int IntKind.i64 v40))])) (h8 : C 51 [IV.d (D.agg [D.sl 2 v31 v32 v33, D.sl 1 v34 v35 v36, D.sl 2 v37 v38 v39])] = some (IV.own v41 56 1 v42, [v43])) (h9 : evP F C J d39 [] [1, 1, 1, 1, 1, 1, 1, 0, 1] [(9, IV.own v41 56 1 v42), (10, IV.d (D.int IntKind.i64 0)), (11, IV.d (D.int IntKind.i64 0))] = some (Out.norm [(9, IV.own v44 56 1 v45), (10, IV.d (D.int IntKind.i64 v46)), (11, IV.d (D.int IntKind.i64 v47))])) (h10 : v46 ≤ 240) : evFnJ F C J d39 [.d (.sl 4 z1 x2 e3), .d (.agg [.sl 2 z4 x5 e6, .sl 1 z7 x8 e9, .sl 2 z10 x11 e12])] = some (IV.d (D.bool true), [IV.d (D.sl 4 z1 x2 e3), IV.d (D.agg [D.sl 2 z4 x5 e6, D.sl 1 z7 x8 e9, D.sl 2 z10 x11 e12])]) := fnW_way (q39 C J z1 x2 e3 z4 x5 e6 z7 x8 e9 z10 x11 e12 _) (Exists.intro v0 (Exists.intro v1 (And.intro h0 (condW_t h1 (condW_f (decide_eq_false h2) (condW_f (decide_eq_false h3) (condW_f (decide_eq_false h4) (Or.inr (Exists.intro v2 (Exists.intro v3 (Exists.intro v4 (Exists.intro v5 (Exists.intro v6 (Exists.intro v7 (Exists.intro v8 (Exists.intro v9 (Exists.intro v10 (Exists.intro v11 (Exists.intro v12 (Exists.intro v13 (Exists.intro v14 (And.intro h5 (Or.inr (Exists.intro v15 (Exists.intro v16 (Exists.intro v17 (Exists.intro v18 (Exists.intro v19 (Exists.intro v20 (Exists.intro v21 (Exists.intro v22 (Exists.intro v23 (Exists.intro v24 (Exists.intro v25 (Exists.intro v26 (Exists.intro v27 (And.intro h6 (Or.inr (Exists.intro v28 (Exists.intro v29 (Exists.intro v30 (Exists.intro v31 (Exists.intro v32 (Exists.intro v33 (Exists.intro v34 (Exists.intro v35 (Exists.intro v36 (Exists.intro v37 (Exists.intro v38 (Exists.intro v39 (Exists.intro v40 (And.intro h7 (Exists.intro v41 (Exists.intro v42 (Exists.intro v43 (And.intro h8 (Exists.intro v44 (Exists.intro v45 (Exists.intro v46 (Exists.intro v47 (And.intro h9 (condW_t (decide_eq_true h10) (rfl)))))))))))))))))))))))))))))))))))))))))))))))))))))))))))))))
theorem q39_7 {C J} (z1 : Bool) (x2 : List D) (e3 : List D) (z4 : Bool) (x5 : List D) (e6 : List D) (z7 : Bool) (x8 : List D) (e9 : List D) (z10 : Bool) (x11 : List D) (e12 : List D) (v0 : Bool) (v1 : IV) (v2 : Bool) (v3 : List D) (v4 : List D) (v5 : Bool) (v6 : List D) (v7 : List D) (v8 : Bool) (v9 : List D) (v10 : List D) (v11 : Bool) (v12 : List D) (v13 : List D) (v14 : Int) (v15 : Bool) (v16 : List D) (v17 : List D) (v18 : Bool) (v19 : List D) (v20 : List D) (v21 : Bool) (v22 : List D) (v23 : List D) (v24 : Bool) (v25 : List D) (v26 : List D) (v27 : Int) (v28 : Bool) (v29 : List D) (v30 : List D) (v31 : Bool) (v32 : List D) (v33 : List D) (v34 : Bool) (v35 : List D) (v36 : List D) (v37 : Bool) (v38 : List D) (v39 : List D) (v40 : Int) (v41 : Bool) (v42 : List D) (v43 : IV) (v44 : Bool) (v45 : List D) (v46 : Int) (v47 : Int) (h0 : C 48 [IV.d (D.sl 4 z1 x2 e3)] = some (IV.d (D.bool v0), [v1])) (h1 : v0 = true) (h2 : ¬(↑(List.length x5) : Int) > 5) (h3 : ¬(↑(List.length x11) : Int) > 3) (h4 : ¬(↑(List.length x8) : Int) > 3) (h5 : evP F C J d39 [] [1, 1, 0, 1] [(0, IV.d (D.sl 4 z1 x2 e3)), (3, IV.dbox 47 0 [D.sl 2 z4 x5 e6, D.sl 1 z7 x8 e9, D.sl 2 z10 x11 e12]), (5, IV.d (D.int IntKind.i64 0))] = some (Out.norm [(0, IV.d (D.sl 4 v2 v3 v4)), (3, IV.dbox 47 0 [D.sl 2 v5 v6 v7, D.sl 1 v8 v9 v10, D.sl 2 v11 v12 v13]), (5, IV.d (D.int IntKind.i64 v14))])) (h6 : evP F C J d39 [] [1, 1, 1, 0, 1] [(0, IV.d (D.sl 4 v2 v3 v4)), (3, IV.dbox 47 0 [D.sl 2 v5 v6 v7, D.sl 1 v8 v9 v10, D.sl 2 v11 v12 v13]), (6, IV.d (D.int IntKind.i64 0))] = some (Out.norm [(0, IV.d (D.sl 4 v15 v16 v17)), (3, IV.dbox 47 0 [D.sl 2 v18 v19 v20, D.sl 1 v21 v22 v23, D.sl 2 v24 v25 v26]), (6, IV.d (D.int IntKind.i64 v27))])) (h7 : evP F C J d39 [] [1, 1, 1, 1, 0, 1] [(0, IV.d (D.sl 4 v15 v16 v17)), (3, IV.dbox 47 0 [D.sl 2 v18 v19 v20, D.sl 1 v21 v22 v23, D.sl 2 v24 v25 v26]), (7, IV.d (D.int IntKind.i64 0))] = some (Out.norm [(0, IV.d (D.sl 4 v28 v29 v30)), (3, IV.dbox 47 0 [D.sl 2 v31 v32 v33, D.sl 1 v34 v35 v36, D.sl 2 v37 v38 v39]), (7, IV.d (D.int IntKind.i64 v40))])) (h8 : C 51 [IV.d (D.agg [D.sl 2 v31 v32 v33, D.sl 1 v34 v35 v36, D.sl 2 v37 v38 v39])] = some (IV.own v41 56 1 v42, [v43])) (h9 : evP F C J d39 [] [1, 1, 1, 1, 1, 1, 1, 0, 1] [(9, IV.own v41 56 1 v42), (10, IV.d (D.int IntKind.i64 0)), (11, IV.d (D.int IntKind.i64 0))] = some (Out.norm [(9, IV.own v44 56 1 v45), (10, IV.d (D.int IntKind.i64 v46)), (11, IV.d (D.int IntKind.i64 v47))])) (h10 : ¬v46 ≤ 240) : evFnJ F C J d39 [.d (.sl 4 z1 x2 e3), .d (.agg [.sl 2 z4 x5 e6, .sl 1 z7 x8 e9, .sl 2 z10 x11 e12])] = some (IV.d (D.bool false), [IV.d (D.sl 4 z1 x2 e3), IV.d (D.agg [D.sl 2 z4 x5 e6, D.sl 1 z7 x8 e9, D.sl 2 z10 x11 e12])]) := fnW_way (q39 C J z1 x2 e3 z4 x5 e6 z7 x8 e9 z10 x11 e12 _) (Exists.intro v0 (Exists.intro v1 (And.intro h0 (condW_t h1 (condW_f (decide_eq_false h2) (condW_f (decide_eq_false h3) (condW_f (decide_eq_false h4) (Or.inr (Exists.intro v2 (Exists.intro v3 (Exists.intro v4 (Exists.intro v5 (Exists.intro v6 (Exists.intro v7 (Exists.intro v8 (Exists.intro v9 (Exists.intro v10 (Exists.intro v11 (Exists.intro v12 (Exists.intro v13 (Exists.intro v14 (And.intro h5 (Or.inr (Exists.intro v15 (Exists.intro v16 (Exists.intro v17 (Exists.intro v18 (Exists.intro v19 (Exists.intro v20 (Exists.intro v21 (Exists.intro v22 (Exists.intro v23 (Exists.intro v24 (Exists.intro v25 (Exists.intro v26 (Exists.intro v27 (And.intro h6 (Or.inr (Exists.intro v28 (Exists.intro v29 (Exists.intro v30 (Exists.intro v31 (Exists.intro v32 (Exists.intro v33 (Exists.intro v34 (Exists.intro v35 (Exists.intro v36 (Exists.intro v37 (Exists.intro v38 (Exists.intro v39 (Exists.intro v40 (And.intro h7 (Exists.intro v41 (Exists.intro v42 (Exists.intro v43 (And.intro h8 (Exists.intro v44 (Exists.intro v45 (Exists.intro v46 (Exists.intro v47 (And.intro h9 (condW_f (decide_eq_false h10) (rfl)))))))))))))))))))))))))))))))))))))))))))))))))))))))))))))))
theorem q39_8 {C J} (z1 : Bool) (x2 : List D) (e3 : List D) (z4 : Bool) (x5 : List D) (e6 : List D) (z7 : Bool) (x8 : List D) (e9 : List D) (z10 : Bool) (x11 : List D) (e12 : List D) (v0 : Bool) (v1 : IV) (h0 : C 48 [IV.d (D.sl 4 z1 x2 e3)] = some (IV.d (D.bool v0), [v1])) (h1 : v0 = false) : evFnJ F C J d39 [.d (.sl 4 z1 x2 e3), .d (.agg [.sl 2 z4 x5 e6, .sl 1 z7 x8 e9, .sl 2 z10 x11 e12])] = some (IV.d (D.bool false), [IV.d (D.sl 4 z1 x2 e3), IV.d (D.agg [D.sl 2 z4 x5 e6, D.sl 1 z7 x8 e9, D.sl 2 z10 x11 e12])]) := fnW_way (q39 C J z1 x2 e3 z4 x5 e6 z7 x8 e9 z10 x11 e12 _) (Exists.intro v0 (Exists.intro v1 (And.intro h0 (condW_f h1 (rfl)))))
theorem q39_l0a (C J) (z1 : Bool) (x2 : List D) (e3 : List D) (z4 : Bool) (x5 : List D) (e6 : List D) (z7 : Bool) (x8 : List D) (e9 : List D) (z10 : Bool) (x11 : List D) (e12 : List D) (i13 : Int) (Q) : wpQ F C R (L39) J d39 [] [1,1,0,1,0,0] [(0, .d (.sl 4 z1 x2 e3)), (3, .dbox 47 0 [.sl 2 z4 x5 e6, .sl 1 z7 x8 e9, .sl 2 z10 x11 e12]), (5, .d (.int .i64 i13))] Q = (condW (decide (i13 < (↑(List.length x5) : Int))) (condW (decide (0 ≤ i13)) (∃ w0 w1 w2 w3, x5[Int.toNat i13]? = some (D.agg [D.bool w0, D.sl 1 w1 w2 w3]) ∧ ∃ w4 w5 w6, C 49 [IV.d (D.sl 4 z1 x2 e3), IV.d (D.agg [D.bool w0, D.sl 1 w1 w2 w3])] = some (IV.d (D.bool w4), [w5, w6]) ∧ condW w4 (Q (Out.norm [(0, IV.d (D.sl 4 z1 x2 e3)), (3, IV.dbox 47 0 [D.sl 2 z4 x5 e6, D.sl 1 z7 x8 e9, D.sl 2 z10 x11 e12]), (5, IV.d (D.int IntKind.i64 (IntKind.wrap IntKind.i64 (i13 + 1))))])) (Q (Out.ret [(4, IV.d (D.bool false))]))) False) (Q (Out.exit 0 [(0, IV.d (D.sl 4 z1 x2 e3)), (3, IV.dbox 47 0 [D.sl 2 z4 x5 e6, D.sl 1 z7 x8 e9, D.sl 2 z10 x11 e12]), (5, IV.d (D.int IntKind.i64 i13))]))) := by kernel_rfl
theorem q39_l0a_0 {C J} (z1 : Bool) (x2 : List D) (e3 : List D) (z4 : Bool) (x5 : List D) (e6 : List D) (z7 : Bool) (x8 : List D) (e9 : List D) (z10 : Bool) (x11 : List D) (e12 : List D) (i13 : Int) (v0 : Bool) (v1 : Bool) (v2 : List D) (v3 : List D) (v4 : Bool) (v5 : IV) (v6 : IV) (h0 : i13 < (↑(List.length x5) : Int)) (h1 : 0 ≤ i13) (h2 : x5[Int.toNat i13]? = some (D.agg [D.bool v0, D.sl 1 v1 v2 v3])) (h3 : C 49 [IV.d (D.sl 4 z1 x2 e3), IV.d (D.agg [D.bool v0, D.sl 1 v1 v2 v3])] = some (IV.d (D.bool v4), [v5, v6])) (h4 : v4 = true) : evP F C J d39 [] [1,1,0,1,0,0] [(0, .d (.sl 4 z1 x2 e3)), (3, .dbox 47 0 [.sl 2 z4 x5 e6, .sl 1 z7 x8 e9, .sl 2 z10 x11 e12]), (5, .d (.int .i64 i13))] = some (Out.norm [(0, IV.d (D.sl 4 z1 x2 e3)), (3, IV.dbox 47 0 [D.sl 2 z4 x5 e6, D.sl 1 z7 x8 e9, D.sl 2 z10 x11 e12]), (5, IV.d (D.int IntKind.i64 (IntKind.wrap IntKind.i64 (i13 + 1))))]) := wpQ_way (q39_l0a C J z1 x2 e3 z4 x5 e6 z7 x8 e9 z10 x11 e12 i13 _) (condW_t (decide_eq_true h0) (condW_t (decide_eq_true h1) (Exists.intro v0 (Exists.intro v1 (Exists.intro v2 (Exists.intro v3 (And.intro h2 (Exists.intro v4 (Exists.intro v5 (Exists.intro v6 (And.intro h3 (condW_t h4 (rfl)))))))))))))
theorem q39_l0a_1 {C J} (z1 : Bool) (x2 : List D) (e3 : List D) (z4 : Bool) (x5 : List D) (e6 : List D) (z7 : Bool) (x8 : List D) (e9 : List D) (z10 : Bool) (x11 : List D) (e12 : List D) (i13 : Int) (v0 : Bool) (v1 : Bool) (v2 : List D) (v3 : List D) (v4 : Bool) (v5 : IV) (v6 : IV) (h0 : i13 < (↑(List.length x5) : Int)) (h1 : 0 ≤ i13) (h2 : x5[Int.toNat i13]? = some (D.agg [D.bool v0, D.sl 1 v1 v2 v3])) (h3 : C 49 [IV.d (D.sl 4 z1 x2 e3), IV.d (D.agg [D.bool v0, D.sl 1 v1 v2 v3])] = some (IV.d (D.bool v4), [v5, v6])) (h4 : v4 = false) : evP F C J d39 [] [1,1,0,1,0,0] [(0, .d (.sl 4 z1 x2 e3)), (3, .dbox 47 0 [.sl 2 z4 x5 e6, .sl 1 z7 x8 e9, .sl 2 z10 x11 e12]), (5, .d (.int .i64 i13))] = some (Out.ret [(4, IV.d (D.bool false))]) := wpQ_way (q39_l0a C J z1 x2 e3 z4 x5 e6 z7 x8 e9 z10 x11 e12 i13 _) (condW_t (decide_eq_true h0) (condW_t (decide_eq_true h1) (Exists.intro v0 (Exists.intro v1 (Exists.intro v2 (Exists.intro v3 (And.intro h2 (Exists.intro v4 (Exists.intro v5 (Exists.intro v6 (And.intro h3 (condW_f h4 (rfl)))))))))))))
theorem q39_l0a_2 {C J} (z1 : Bool) (x2 : List D) (e3 : List D) (z4 : Bool) (x5 : List D) (e6 : List D) (z7 : Bool) (x8 : List D) (e9 : List D) (z10 : Bool) (x11 : List D) (e12 : List D) (i13 : Int) (h0 : ¬i13 < (↑(List.length x5) : Int)) : evP F C J d39 [] [1,1,0,1,0,0] [(0, .d (.sl 4 z1 x2 e3)), (3, .dbox 47 0 [.sl 2 z4 x5 e6, .sl 1 z7 x8 e9, .sl 2 z10 x11 e12]), (5, .d (.int .i64 i13))] = some (Out.exit 0 [(0, IV.d (D.sl 4 z1 x2 e3)), (3, IV.dbox 47 0 [D.sl 2 z4 x5 e6, D.sl 1 z7 x8 e9, D.sl 2 z10 x11 e12]), (5, IV.d (D.int IntKind.i64 i13))]) := wpQ_way (q39_l0a C J z1 x2 e3 z4 x5 e6 z7 x8 e9 z10 x11 e12 i13 _) (condW_f (decide_eq_false h0) (rfl))
theorem q39_l2a (C J) (i1 : Int) (Q) : wpQ F C R (L39) J d39 [] [1,1,1,0,1,0,0] [(0, .dead), (3, .dead), (6, .d (.int .i64 i1))] Q = (False) := by kernel_rfl
theorem q39_l4a (C J) (i1 : Int) (Q) : wpQ F C R (L39) J d39 [] [1,1,1,1,0,1,0,0] [(0, .dead), (3, .dead), (7, .d (.int .i64 i1))] Q = (False) := by kernel_rfl
theorem q39_l2b (C J) (z1 : Bool) (x2 : List D) (e3 : List D) (z4 : Bool) (x5 : List D) (e6 : List D) (z7 : Bool) (x8 : List D) (e9 : List D) (z10 : Bool) (x11 : List D) (e12 : List D) (i13 : Int) (Q) : wpQ F C R (L39) J d39 [] [1,1,1,0,1,0,0] [(0, .d (.sl 4 z1 x2 e3)), (3, .dbox 47 0 [.sl 2 z4 x5 e6, .sl 1 z7 x8 e9, .sl 2 z10 x11 e12]), (6, .d (.int .i64 i13))] Q = (condW (decide (i13 < (↑(List.length x11) : Int))) (condW (decide (0 ≤ i13)) (∃ w0 w1 w2 w3, x11[Int.toNat i13]? = some (D.agg [D.bool w0, D.sl 1 w1 w2 w3]) ∧ ∃ w4 w5 w6, C 49 [IV.d (D.sl 4 z1 x2 e3), IV.d (D.agg [D.bool w0, D.sl 1 w1 w2 w3])] = some (IV.d (D.bool w4), [w5, w6]) ∧ condW w4 (Q (Out.norm [(0, IV.d (D.sl 4 z1 x2 e3)), (3, IV.dbox 47 0 [D.sl 2 z4 x5 e6, D.sl 1 z7 x8 e9, D.sl 2 z10 x11 e12]), (6, IV.d (D.int IntKind.i64 (IntKind.wrap IntKind.i64 (i13 + 1))))])) (Q (Out.ret [(4, IV.d (D.bool false))]))) False) (Q (Out.exit 2 [(0, IV.d (D.sl 4 z1 x2 e3)), (3, IV.dbox 47 0 [D.sl 2 z4 x5 e6, D.sl 1 z7 x8 e9, D.sl 2 z10 x11 e12]), (6, IV.d (D.int IntKind.i64 i13))]))) := by kernel_rfl
theorem q39_l2b_0 {C J} (z1 : Bool) (x2 : List D) (e3 : List D) (z4 : Bool) (x5 : List D) (e6 : List D) (z7 : Bool) (x8 : List D) (e9 : List D) (z10 : Bool) (x11 : List D) (e12 : List D) (i13 : Int) (v0 : Bool) (v1 : Bool) (v2 : List D) (v3 : List D) (v4 : Bool) (v5 : IV) (v6 : IV) (h0 : i13 < (↑(List.length x11) : Int)) (h1 : 0 ≤ i13) (h2 : x11[Int.toNat i13]? = some (D.agg [D.bool v0, D.sl 1 v1 v2 v3])) (h3 : C 49 [IV.d (D.sl 4 z1 x2 e3), IV.d (D.agg [D.bool v0, D.sl 1 v1 v2 v3])] = some (IV.d (D.bool v4), [v5, v6])) (h4 : v4 = true) : evP F C J d39 [] [1,1,1,0,1,0,0] [(0, .d (.sl 4 z1 x2 e3)), (3, .dbox 47 0 [.sl 2 z4 x5 e6, .sl 1 z7 x8 e9, .sl 2 z10 x11 e12]), (6, .d (.int .i64 i13))] = some (Out.norm [(0, IV.d (D.sl 4 z1 x2 e3)), (3, IV.dbox 47 0 [D.sl 2 z4 x5 e6, D.sl 1 z7 x8 e9, D.sl 2 z10 x11 e12]), (6, IV.d (D.int IntKind.i64 (IntKind.wrap IntKind.i64 (i13 + 1))))]) := wpQ_way (q39_l2b C J z1 x2 e3 z4 x5 e6 z7 x8 e9 z10 x11 e12 i13 _) (condW_t (decide_eq_true h0) (condW_t (decide_eq_true h1) (Exists.intro v0 (Exists.intro v1 (Exists.intro v2 (Exists.intro v3 (And.intro h2 (Exists.intro v4 (Exists.intro v5 (Exists.intro v6 (And.intro h3 (condW_t h4 (rfl)))))))))))))
theorem q39_l2b_1 {C J} (z1 : Bool) (x2 : List D) (e3 : List D) (z4 : Bool) (x5 : List D) (e6 : List D) (z7 : Bool) (x8 : List D) (e9 : List D) (z10 : Bool) (x11 : List D) (e12 : List D) (i13 : Int) (v0 : Bool) (v1 : Bool) (v2 : List D) (v3 : List D) (v4 : Bool) (v5 : IV) (v6 : IV) (h0 : i13 < (↑(List.length x11) : Int)) (h1 : 0 ≤ i13) (h2 : x11[Int.toNat i13]? = some (D.agg [D.bool v0, D.sl 1 v1 v2 v3])) (h3 : C 49 [IV.d (D.sl 4 z1 x2 e3), IV.d (D.agg [D.bool v0, D.sl 1 v1 v2 v3])] = some (IV.d (D.bool v4), [v5, v6])) (h4 : v4 = false) : evP F C J d39 [] [1,1,1,0,1,0,0] [(0, .d (.sl 4 z1 x2 e3)), (3, .dbox 47 0 [.sl 2 z4 x5 e6, .sl 1 z7 x8 e9, .sl 2 z10 x11 e12]), (6, .d (.int .i64 i13))] = some (Out.ret [(4, IV.d (D.bool false))]) := wpQ_way (q39_l2b C J z1 x2 e3 z4 x5 e6 z7 x8 e9 z10 x11 e12 i13 _) (condW_t (decide_eq_true h0) (condW_t (decide_eq_true h1) (Exists.intro v0 (Exists.intro v1 (Exists.intro v2 (Exists.intro v3 (And.intro h2 (Exists.intro v4 (Exists.intro v5 (Exists.intro v6 (And.intro h3 (condW_f h4 (rfl)))))))))))))
theorem q39_l2b_2 {C J} (z1 : Bool) (x2 : List D) (e3 : List D) (z4 : Bool) (x5 : List D) (e6 : List D) (z7 : Bool) (x8 : List D) (e9 : List D) (z10 : Bool) (x11 : List D) (e12 : List D) (i13 : Int) (h0 : ¬i13 < (↑(List.length x11) : Int)) : evP F C J d39 [] [1,1,1,0,1,0,0] [(0, .d (.sl 4 z1 x2 e3)), (3, .dbox 47 0 [.sl 2 z4 x5 e6, .sl 1 z7 x8 e9, .sl 2 z10 x11 e12]), (6, .d (.int .i64 i13))] = some (Out.exit 2 [(0, IV.d (D.sl 4 z1 x2 e3)), (3, IV.dbox 47 0 [D.sl 2 z4 x5 e6, D.sl 1 z7 x8 e9, D.sl 2 z10 x11 e12]), (6, IV.d (D.int IntKind.i64 i13))]) := wpQ_way (q39_l2b C J z1 x2 e3 z4 x5 e6 z7 x8 e9 z10 x11 e12 i13 _) (condW_f (decide_eq_false h0) (rfl))
theorem q39_l4b (C J) (z1 : Bool) (x2 : List D) (e3 : List D) (z4 : Bool) (x5 : List D) (e6 : List D) (z7 : Bool) (x8 : List D) (e9 : List D) (z10 : Bool) (x11 : List D) (e12 : List D) (i13 : Int) (Q) : wpQ F C R (L39) J d39 [] [1,1,1,1,0,1,0,0] [(0, .d (.sl 4 z1 x2 e3)), (3, .dbox 47 0 [.sl 2 z4 x5 e6, .sl 1 z7 x8 e9, .sl 2 z10 x11 e12]), (7, .d (.int .i64 i13))] Q = (condW (decide (i13 < (↑(List.length x8) : Int))) (condW (decide (0 ≤ i13)) (∃ w0 w1 w2, x8[Int.toNat i13]? = some (D.sl 1 w0 w1 w2) ∧ ∃ w3 w4 w5, C 50 [IV.d (D.sl 4 z1 x2 e3), IV.d (D.sl 1 w0 w1 w2)] = some (IV.d (D.int IntKind.i64 w3), [w4, w5]) ∧ condW (decide (w3 < 0)) (Q (Out.ret [(4, IV.d (D.bool false))])) (∃ w6 w7 w8, x8[0]? = some (D.sl 1 w6 w7 w8) ∧ ∃ w9 w10 w11, C 50 [IV.d (D.sl 4 z1 x2 e3), IV.d (D.sl 1 w6 w7 w8)] = some (IV.d (D.int IntKind.i64 w9), [w10, w11]) ∧ condW (w3 != w9) (Q (Out.ret [(4, IV.d (D.bool false))])) (Q (Out.norm [(0, IV.d (D.sl 4 z1 x2 e3)), (3, IV.dbox 47 0 [D.sl 2 z4 x5 e6, D.sl 1 z7 x8 e9, D.sl 2 z10 x11 e12]), (7, IV.d (D.int IntKind.i64 (IntKind.wrap IntKind.i64 (i13 + 1))))])))) False) (Q (Out.exit 4 [(0, IV.d (D.sl 4 z1 x2 e3)), (3, IV.dbox 47 0 [D.sl 2 z4 x5 e6, D.sl 1 z7 x8 e9, D.sl 2 z10 x11 e12]), (7, IV.d (D.int IntKind.i64 i13))]))) := by kernel_rfl
theorem q39_l4b_0 {C J} (z1 : Bool) (x2 : List D) (e3 : List D) (z4 : Bool) (x5 : List D) (e6 : List D) (z7 : Bool) (x8 : List D) (e9 : List D) (z10 : Bool) (x11 : List D) (e12 : List D) (i13 : Int) (v0 : Bool) (v1 : List D) (v2 : List D) (v3 : Int) (v4 : IV) (v5 : IV) (h0 : i13 < (↑(List.length x8) : Int)) (h1 : 0 ≤ i13) (h2 : x8[Int.toNat i13]? = some (D.sl 1 v0 v1 v2)) (h3 : C 50 [IV.d (D.sl 4 z1 x2 e3), IV.d (D.sl 1 v0 v1 v2)] = some (IV.d (D.int IntKind.i64 v3), [v4, v5])) (h4 : v3 < 0) : evP F C J d39 [] [1,1,1,1,0,1,0,0] [(0, .d (.sl 4 z1 x2 e3)), (3, .dbox 47 0 [.sl 2 z4 x5 e6, .sl 1 z7 x8 e9, .sl 2 z10 x11 e12]), (7, .d (.int .i64 i13))] = some (Out.ret [(4, IV.d (D.bool false))]) := wpQ_way (q39_l4b C J z1 x2 e3 z4 x5 e6 z7 x8 e9 z10 x11 e12 i13 _) (condW_t (decide_eq_true h0) (condW_t (decide_eq_true h1) (Exists.intro v0 (Exists.intro v1 (Exists.intro v2 (And.intro h2 (Exists.intro v3 (Exists.intro v4 (Exists.intro v5 (And.intro h3 (condW_t (decide_eq_true h4) (rfl))))))))))))
theorem q39_l4b_1 {C J} (z1 : Bool) (x2 : List D) (e3 : List D) (z4 : Bool) (x5 : List D) (e6 : List D) (z7 : Bool) (x8 : List D) (e9 : List D) (z10 : Bool) (x11 : List D) (e12 : List D) (i13 : Int) (v0 : Bool) (v1 : List D) (v2 : List D) (v3 : Int) (v4 : IV) (v5 : IV) (v6 : Bool) (v7 : List D) (v8 : List D) (v9 : Int) (v10 : IV) (v11 : IV) (h0 : i13 < (↑(List.length x8) : Int)) (h1 : 0 ≤ i13) (h2 : x8[Int.toNat i13]? = some (D.sl 1 v0 v1 v2)) (h3 : C 50 [IV.d (D.sl 4 z1 x2 e3), IV.d (D.sl 1 v0 v1 v2)] = some (IV.d (D.int IntKind.i64 v3), [v4, v5])) (h4 : ¬v3 < 0) (h5 : x8[0]? = some (D.sl 1 v6 v7 v8)) (h6 : C 50 [IV.d (D.sl 4 z1 x2 e3), IV.d (D.sl 1 v6 v7 v8)] = some (IV.d (D.int IntKind.i64 v9), [v10, v11])) (h7 : (v3 != v9) = true) : evP F C J d39 [] [1,1,1,1,0,1,0,0] [(0, .d (.sl 4 z1 x2 e3)), (3, .dbox 47 0 [.sl 2 z4 x5 e6, .sl 1 z7 x8 e9, .sl 2 z10 x11 e12]), (7, .d (.int .i64 i13))] = some (Out.ret [(4, IV.d (D.bool false))]) := wpQ_way (q39_l4b C J z1 x2 e3 z4 x5 e6 z7 x8 e9 z10 x11 e12 i13 _) (condW_t (decide_eq_true h0) (condW_t (decide_eq_true h1) (Exists.intro v0 (Exists.intro v1 (Exists.intro v2 (And.intro h2 (Exists.intro v3 (Exists.intro v4 (Exists.intro v5 (And.intro h3 (condW_f (decide_eq_false h4) (Exists.intro v6 (Exists.intro v7 (Exists.intro v8 (And.intro h5 (Exists.intro v9 (Exists.intro v10 (Exists.intro v11 (And.intro h6 (condW_t h7 (rfl)))))))))))))))))))))
theorem q39_l4b_2 {C J} (z1 : Bool) (x2 : List D) (e3 : List D) (z4 : Bool) (x5 : List D) (e6 : List D) (z7 : Bool) (x8 : List D) (e9 : List D) (z10 : Bool) (x11 : List D) (e12 : List D) (i13 : Int) (v0 : Bool) (v1 : List D) (v2 : List D) (v3 : Int) (v4 : IV) (v5 : IV) (v6 : Bool) (v7 : List D) (v8 : List D) (v9 : Int) (v10 : IV) (v11 : IV) (h0 : i13 < (↑(List.length x8) : Int)) (h1 : 0 ≤ i13) (h2 : x8[Int.toNat i13]? = some (D.sl 1 v0 v1 v2)) (h3 : C 50 [IV.d (D.sl 4 z1 x2 e3), IV.d (D.sl 1 v0 v1 v2)] = some (IV.d (D.int IntKind.i64 v3), [v4, v5])) (h4 : ¬v3 < 0) (h5 : x8[0]? = some (D.sl 1 v6 v7 v8)) (h6 : C 50 [IV.d (D.sl 4 z1 x2 e3), IV.d (D.sl 1 v6 v7 v8)] = some (IV.d (D.int IntKind.i64 v9), [v10, v11])) (h7 : (v3 != v9) = false) : evP F C J d39 [] [1,1,1,1,0,1,0,0] [(0, .d (.sl 4 z1 x2 e3)), (3, .dbox 47 0 [.sl 2 z4 x5 e6, .sl 1 z7 x8 e9, .sl 2 z10 x11 e12]), (7, .d (.int .i64 i13))] = some (Out.norm [(0, IV.d (D.sl 4 z1 x2 e3)), (3, IV.dbox 47 0 [D.sl 2 z4 x5 e6, D.sl 1 z7 x8 e9, D.sl 2 z10 x11 e12]), (7, IV.d (D.int IntKind.i64 (IntKind.wrap IntKind.i64 (i13 + 1))))]) := wpQ_way (q39_l4b C J z1 x2 e3 z4 x5 e6 z7 x8 e9 z10 x11 e12 i13 _) (condW_t (decide_eq_true h0) (condW_t (decide_eq_true h1) (Exists.intro v0 (Exists.intro v1 (Exists.intro v2 (And.intro h2 (Exists.intro v3 (Exists.intro v4 (Exists.intro v5 (And.intro h3 (condW_f (decide_eq_false h4) (Exists.intro v6 (Exists.intro v7 (Exists.intro v8 (And.intro h5 (Exists.intro v9 (Exists.intro v10 (Exists.intro v11 (And.intro h6 (condW_f h7 (rfl)))))))))))))))))))))
theorem q39_l4b_3 {C J} (z1 : Bool) (x2 : List D) (e3 : List D) (z4 : Bool) (x5 : List D) (e6 : List D) (z7 : Bool) (x8 : List D) (e9 : List D) (z10 : Bool) (x11 : List D) (e12 : List D) (i13 : Int) (h0 : ¬i13 < (↑(List.length x8) : Int)) : evP F C J d39 [] [1,1,1,1,0,1,0,0] [(0, .d (.sl 4 z1 x2 e3)), (3, .dbox 47 0 [.sl 2 z4 x5 e6, .sl 1 z7 x8 e9, .sl 2 z10 x11 e12]), (7, .d (.int .i64 i13))] = some (Out.exit 4 [(0, IV.d (D.sl 4 z1 x2 e3)), (3, IV.dbox 47 0 [D.sl 2 z4 x5 e6, D.sl 1 z7 x8 e9, D.sl 2 z10 x11 e12]), (7, IV.d (D.int IntKind.i64 i13))]) := wpQ_way (q39_l4b C J z1 x2 e3 z4 x5 e6 z7 x8 e9 z10 x11 e12 i13 _) (condW_f (decide_eq_false h0) (rfl))
theorem q39_l6a (C J) (z1 : Bool) (x2 : List D) (i3 : Int) (i4 : Int) (Q) : wpQ F C R (L39) J d39 [] [1,1,1,1,1,1,1,0,1,0,0] [(9, .own z1 56 1 x2), (10, .d (.int .i64 i3)), (11, .d (.int .i64 i4))] Q = (condW (decide (i4 < (↑(List.length x2) : Int))) (condW (decide (0 ≤ i4)) (∃ w0, x2[Int.toNat i4]? = some w0 ∧ ∃ w1 w2 w3, x2[Int.toNat i4]? = some (D.sl 1 w1 w2 w3) ∧ Q (Out.norm [(9, IV.own z1 56 1 x2), (10, IV.d (D.int IntKind.i64 (IntKind.wrap IntKind.i64 (i3 + (↑(List.length w2) : Int))))), (11, IV.d (D.int IntKind.i64 (IntKind.wrap IntKind.i64 (i4 + 1))))])) False) (Q (Out.exit 6 [(9, IV.own z1 56 1 x2), (10, IV.d (D.int IntKind.i64 i3)), (11, IV.d (D.int IntKind.i64 i4))]))) := by kernel_rfl
theorem q39_l6a_0 {C J} (z1 : Bool) (x2 : List D) (i3 : Int) (i4 : Int) (v0 : D) (v1 : Bool) (v2 : List D) (v3 : List D) (h0 : i4 < (↑(List.length x2) : Int)) (h1 : 0 ≤ i4) (h2 : x2[Int.toNat i4]? = some v0) (h3 : x2[Int.toNat i4]? = some (D.sl 1 v1 v2 v3)) : evP F C J d39 [] [1,1,1,1,1,1,1,0,1,0,0] [(9, .own z1 56 1 x2), (10, .d (.int .i64 i3)), (11, .d (.int .i64 i4))] = some (Out.norm [(9, IV.own z1 56 1 x2), (10, IV.d (D.int IntKind.i64 (IntKind.wrap IntKind.i64 (i3 + (↑(List.length v2) : Int))))), (11, IV.d (D.int IntKind.i64 (IntKind.wrap IntKind.i64 (i4 + 1))))]) := wpQ_way (q39_l6a C J z1 x2 i3 i4 _) (condW_t (decide_eq_true h0) (condW_t (decide_eq_true h1) (Exists.intro v0 (And.intro h2 (Exists.intro v1 (Exists.intro v2 (Exists.intro v3 (And.intro h3 (rfl)))))))))
theorem q39_l6a_1 {C J} (z1 : Bool) (x2 : List D) (i3 : Int) (i4 : Int) (h0 : ¬i4 < (↑(List.length x2) : Int)) : evP F C J d39 [] [1,1,1,1,1,1,1,0,1,0,0] [(9, .own z1 56 1 x2), (10, .d (.int .i64 i3)), (11, .d (.int .i64 i4))] = some (Out.exit 6 [(9, IV.own z1 56 1 x2), (10, IV.d (D.int IntKind.i64 i3)), (11, IV.d (D.int IntKind.i64 i4))]) := wpQ_way (q39_l6a C J z1 x2 i3 i4 _) (condW_f (decide_eq_false h0) (rfl))
theorem q40 (C J) (z1 : Bool) (x2 : List D) (e3 : List D) (z4 : Bool) (x5 : List D) (e6 : List D) (Q) : fnW F C R (L40) J d40 [.d (.sl 4 z1 x2 e3), .d (.sl 1 z4 x5 e6)] Q = (∃ w0 w1 w2 w3 w4 w5 w6 w7, evP F C J d40 [] [1, 1, 0, 1] [(0, IV.d (D.sl 4 z1 x2 e3)), (1, IV.d (D.sl 1 z4 x5 e6)), (5, IV.d (D.int IntKind.i64 0)), (6, IV.d (D.int IntKind.i64 0))] = some (Out.norm [(0, IV.d (D.sl 4 w0 w1 w2)), (1, IV.d (D.sl 1 w3 w4 w5)), (5, IV.d (D.int IntKind.i64 w6)), (6, IV.d (D.int IntKind.i64 w7))]) ∧ Q (some (IV.d (D.int IntKind.i64 w6), [IV.d (D.sl 4 z1 x2 e3), IV.d (D.sl 1 z4 x5 e6)]))) := by kernel_rfl
theorem q40_0 {C J} (z1 : Bool) (x2 : List D) (e3 : List D) (z4 : Bool) (x5 : List D) (e6 : List D) (v0 : Bool) (v1 : List D) (v2 : List D) (v3 : Bool) (v4 : List D) (v5 : List D) (v6 : Int) (v7 : Int) (h0 : evP F C J d40 [] [1, 1, 0, 1] [(0, IV.d (D.sl 4 z1 x2 e3)), (1, IV.d (D.sl 1 z4 x5 e6)), (5, IV.d (D.int IntKind.i64 0)), (6, IV.d (D.int IntKind.i64 0))] = some (Out.norm [(0, IV.d (D.sl 4 v0 v1 v2)), (1, IV.d (D.sl 1 v3 v4 v5)), (5, IV.d (D.int IntKind.i64 v6)), (6, IV.d (D.int IntKind.i64 v7))])) : evFnJ F C J d40 [.d (.sl 4 z1 x2 e3), .d (.sl 1 z4 x5 e6)] = some (IV.d (D.int IntKind.i64 v6), [IV.d (D.sl 4 z1 x2 e3), IV.d (D.sl 1 z4 x5 e6)]) := fnW_way (q40 C J z1 x2 e3 z4 x5 e6 _) (Exists.intro v0 (Exists.intro v1 (Exists.intro v2 (Exists.intro v3 (Exists.intro v4 (Exists.intro v5 (Exists.intro v6 (Exists.intro v7 (And.intro h0 (rfl))))))))))
theorem q40_l0a (C J) (z1 : Bool) (x2 : List D) (e3 : List D) (z4 : Bool) (x5 : List D) (e6 : List D) (i7 : Int) (i8 : Int) (Q) : wpQ F C R (L40) J d40 [] [1,1,0,1,0,0] [(0, .d (.sl 4 z1 x2 e3)), (1, .d (.sl 1 z4 x5 e6)), (5, .d (.int .i64 i7)), (6, .d (.int .i64 i8))] Q = (condW (decide (i8 < (↑(List.length x5) : Int))) (condW (decide (0 ≤ i8)) (∃ w0, x5[Int.toNat i8]? = some (D.int IntKind.i64 w0) ∧ condW (decide (w0 < 0)) (Q (Out.norm [(0, IV.d (D.sl 4 z1 x2 e3)), (1, IV.d (D.sl 1 z4 x5 e6)), (5, IV.d (D.int IntKind.i64 (IntKind.wrap IntKind.i64 (i7 + 1)))), (6, IV.d (D.int IntKind.i64 (IntKind.wrap IntKind.i64 (i8 + 1))))])) (condW (decide (0 ≤ i8)) (∃ w1, x5[Int.toNat i8]? = some (D.int IntKind.i64 w1) ∧ condW (decide (0 ≤ w1)) (∃ w2 w3 w4 w5, x2[Int.toNat w1]? = some (D.agg [D.str w2, D.int IntKind.i64 w3, D.int IntKind.i64 w4, D.int IntKind.i64 w5]) ∧ Q (Out.norm [(0, IV.d (D.sl 4 z1 x2 e3)), (1, IV.d (D.sl 1 z4 x5 e6)), (5, IV.d (D.int IntKind.i64 (IntKind.wrap IntKind.i64 (i7 + w5)))), (6, IV.d (D.int IntKind.i64 (IntKind.wrap IntKind.i64 (i8 + 1))))])) False) False)) False) (Q (Out.exit 0 [(0, IV.d (D.sl 4 z1 x2 e3)), (1, IV.d (D.sl 1 z4 x5 e6)), (5, IV.d (D.int IntKind.i64 i7)), (6, IV.d (D.int IntKind.i64 i8))]))) := by kernel_rfl
theorem q40_l0a_0 {C J} (z1 : Bool) (x2 : List D) (e3 : List D) (z4 : Bool) (x5 : List D) (e6 : List D) (i7 : Int) (i8 : Int) (v0 : Int) (h0 : i8 < (↑(List.length x5) : Int)) (h1 : 0 ≤ i8) (h2 : x5[Int.toNat i8]? = some (D.int IntKind.i64 v0)) (h3 : v0 < 0) : evP F C J d40 [] [1,1,0,1,0,0] [(0, .d (.sl 4 z1 x2 e3)), (1, .d (.sl 1 z4 x5 e6)), (5, .d (.int .i64 i7)), (6, .d (.int .i64 i8))] = some (Out.norm [(0, IV.d (D.sl 4 z1 x2 e3)), (1, IV.d (D.sl 1 z4 x5 e6)), (5, IV.d (D.int IntKind.i64 (IntKind.wrap IntKind.i64 (i7 + 1)))), (6, IV.d (D.int IntKind.i64 (IntKind.wrap IntKind.i64 (i8 + 1))))]) := wpQ_way (q40_l0a C J z1 x2 e3 z4 x5 e6 i7 i8 _) (condW_t (decide_eq_true h0) (condW_t (decide_eq_true h1) (Exists.intro v0 (And.intro h2 (condW_t (decide_eq_true h3) (rfl))))))
theorem q40_l0a_1 {C J} (z1 : Bool) (x2 : List D) (e3 : List D) (z4 : Bool) (x5 : List D) (e6 : List D) (i7 : Int) (i8 : Int) (v0 : Int) (v1 : Int) (v2 : ByteArray) (v3 : Int) (v4 : Int) (v5 : Int) (h0 : i8 < (↑(List.length x5) : Int)) (h1 : 0 ≤ i8) (h2 : x5[Int.toNat i8]? = some (D.int IntKind.i64 v0)) (h3 : ¬v0 < 0) (h4 : x5[Int.toNat i8]? = some (D.int IntKind.i64 v1)) (h5 : 0 ≤ v1) (h6 : x2[Int.toNat v1]? = some (D.agg [D.str v2, D.int IntKind.i64 v3, D.int IntKind.i64 v4, D.int IntKind.i64 v5])) : evP F C J d40 [] [1,1,0,1,0,0] [(0, .d (.sl 4 z1 x2 e3)), (1, .d (.sl 1 z4 x5 e6)), (5, .d (.int .i64 i7)), (6, .d (.int .i64 i8))] = some (Out.norm [(0, IV.d (D.sl 4 z1 x2 e3)), (1, IV.d (D.sl 1 z4 x5 e6)), (5, IV.d (D.int IntKind.i64 (IntKind.wrap IntKind.i64 (i7 + v5)))), (6, IV.d (D.int IntKind.i64 (IntKind.wrap IntKind.i64 (i8 + 1))))]) := wpQ_way (q40_l0a C J z1 x2 e3 z4 x5 e6 i7 i8 _) (condW_t (decide_eq_true h0) (condW_t (decide_eq_true h1) (Exists.intro v0 (And.intro h2 (condW_f (decide_eq_false h3) (condW_t (decide_eq_true h1) (Exists.intro v1 (And.intro h4 (condW_t (decide_eq_true h5) (Exists.intro v2 (Exists.intro v3 (Exists.intro v4 (Exists.intro v5 (And.intro h6 (rfl)))))))))))))))
theorem q40_l0a_2 {C J} (z1 : Bool) (x2 : List D) (e3 : List D) (z4 : Bool) (x5 : List D) (e6 : List D) (i7 : Int) (i8 : Int) (h0 : ¬i8 < (↑(List.length x5) : Int)) : evP F C J d40 [] [1,1,0,1,0,0] [(0, .d (.sl 4 z1 x2 e3)), (1, .d (.sl 1 z4 x5 e6)), (5, .d (.int .i64 i7)), (6, .d (.int .i64 i8))] = some (Out.exit 0 [(0, IV.d (D.sl 4 z1 x2 e3)), (1, IV.d (D.sl 1 z4 x5 e6)), (5, IV.d (D.int IntKind.i64 i7)), (6, IV.d (D.int IntKind.i64 i8))]) := wpQ_way (q40_l0a C J z1 x2 e3 z4 x5 e6 i7 i8 _) (condW_f (decide_eq_false h0) (rfl))
theorem q25 (C J) (z1 : Bool) (x2 : List D) (e3 : List D) (z4 : Bool) (x5 : List D) (e6 : List D) (z7 : Bool) (x8 : List D) (e9 : List D) (z10 : Bool) (x11 : List D) (e12 : List D) (Q) : fnW F C R (L25) J d25 [.d (.sl 4 z1 x2 e3), .d (.agg [.sl 2 z4 x5 e6, .sl 1 z7 x8 e9, .sl 2 z10 x11 e12])] Q = (∃ w0 w1 w2, C 39 [IV.d (D.sl 4 z1 x2 e3), IV.d (D.agg [D.sl 2 z4 x5 e6, D.sl 1 z7 x8 e9, D.sl 2 z10 x11 e12])] = some (IV.d (D.bool w0), [w1, w2]) ∧ condW w0 (∃ w3 w4 w5 w6 w7 w8 w9 w10 w11 w12 w13 w14 w15 w16 w17 w18 w19, evP F C J d25 [] [1, 1, 1, 0, 1] [(0, IV.d (D.sl 4 z1 x2 e3)), (3, IV.dbox 47 0 [D.sl 2 z4 x5 e6, D.sl 1 z7 x8 e9, D.sl 2 z10 x11 e12]), (4, IV.dbox 23 0 [D.int IntKind.i64 0, D.int IntKind.i64 0]), (6, IV.dbox 23 0 [D.int IntKind.i64 0, D.int IntKind.i64 0]), (7, IV.d (D.int IntKind.i64 0))] = some (Out.norm [(0, IV.d (D.sl 4 w3 w4 w5)), (3, IV.dbox 47 0 [D.sl 2 w6 w7 w8, D.sl 1 w9 w10 w11, D.sl 2 w12 w13 w14]), (4, IV.dbox 23 0 [D.int IntKind.i64 w15, D.int IntKind.i64 w16]), (6, IV.dbox 23 0 [D.int IntKind.i64 w17, D.int IntKind.i64 w18]), (7, IV.d (D.int IntKind.i64 w19))]) ∧ Q (some (IV.tup [IV.d (D.agg [D.int IntKind.i64 w17, D.int IntKind.i64 w18]), IV.d (D.int IntKind.i64 0)], [IV.d (D.sl 4 z1 x2 e3), IV.d (D.agg [D.sl 2 z4 x5 e6, D.sl 1 z7 x8 e9, D.sl 2 z10 x11 e12])]))) (Q (some (IV.tup [IV.d (D.agg [D.int IntKind.i64 0, D.int IntKind.i64 0]), IV.d (D.int IntKind.i64 900)], [IV.d (D.sl 4 z1 x2 e3), IV.d (D.agg [D.sl 2 z4 x5 e6, D.sl 1 z7 x8 e9, D.sl 2 z10 x11 e12])])))) := by kernel_rfl
theorem q25_0 {C J} (z1 : Bool) (x2 : List D) (e3 : List D) (z4 : Bool) (x5 : List D) (e6 : List D) (z7 : Bool) (x8 : List D) (e9 : List D) (z10 : Bool) (x11 : List D) (e12 : List D) (v0 : Bool) (v1 : IV) (v2 : IV) (v3 : Bool) (v4 : List D) (v5 : List D) (v6 : Bool) (v7 : List D) (v8 : List D) (v9 : Bool) (v10 : List D) (v11 : List D) (v12 : Bool) (v13 : List D) (v14 : List D) (v15 : Int) (v16 : Int) (v17 : Int) (v18 : Int) (v19 : Int) (h0 : C 39 [IV.d (D.sl 4 z1 x2 e3), IV.d (D.agg [D.sl 2 z4 x5 e6, D.sl 1 z7 x8 e9, D.sl 2 z10 x11 e12])] = some (IV.d (D.bool v0), [v1, v2])) (h1 : v0 = true) (h2 : evP F C J d25 [] [1, 1, 1, 0, 1] [(0, IV.d (D.sl 4 z1 x2 e3)), (3, IV.dbox 47 0 [D.sl 2 z4 x5 e6, D.sl 1 z7 x8 e9, D.sl 2 z10 x11 e12]), (4, IV.dbox 23 0 [D.int IntKind.i64 0, D.int IntKind.i64 0]), (6, IV.dbox 23 0 [D.int IntKind.i64 0, D.int IntKind.i64 0]), (7, IV.d (D.int IntKind.i64 0))] = some (Out.norm [(0, IV.d (D.sl 4 v3 v4 v5)), (3, IV.dbox 47 0 [D.sl 2 v6 v7 v8, D.sl 1 v9 v10 v11, D.sl 2 v12 v13 v14]), (4, IV.dbox 23 0 [D.int IntKind.i64 v15, D.int IntKind.i64 v16]), (6, IV.dbox 23 0 [D.int IntKind.i64 v17, D.int IntKind.i64 v18]), (7, IV.d (D.int IntKind.i64 v19))])) : evFnJ F C J d25 [.d (.sl 4 z1 x2 e3), .d (.agg [.sl 2 z4 x5 e6, .sl 1 z7 x8 e9, .sl 2 z10 x11 e12])] = some (IV.tup [IV.d (D.agg [D.int IntKind.i64 v17, D.int IntKind.i64 v18]), IV.d (D.int IntKind.i64 0)], [IV.d (D.sl 4 z1 x2 e3), IV.d (D.agg [D.sl 2 z4 x5 e6, D.sl 1 z7 x8 e9, D.sl 2 z10 x11 e12])]) := fnW_way (q25 C J z1 x2 e3 z4 x5 e6 z7 x8 e9 z10 x11 e12 _) (Exists.intro v0 (Exists.intro v1 (Exists.intro v2 (And.intro h0 (condW_t h1 (Exists.intro v3 (Exists.intro v4 (Exists.intro v5 (Exists.intro v6 (Exists.intro v7 (Exists.intro v8 (Exists.intro v9 (Exists.intro v10 (Exists.intro v11 (Exists.intro v12 (Exists.intro v13 (Exists.intro v14 (Exists.intro v15 (Exists.intro v16 (Exists.intro v17 (Exists.intro v18 (Exists.intro v19 (And.intro h2 (rfl))))))))))))))))))))))))
theorem q25_1 {C J} (z1 : Bool) (x2 : List D) (e3 : List D) (z4 : Bool) (x5 : List D) (e6 : List D) (z7 : Bool) (x8 : List D) (e9 : List D) (z10 : Bool) (x11 : List D) (e12 : List D) (v0 : Bool) (v1 : IV) (v2 : IV) (h0 : C 39 [IV.d (D.sl 4 z1 x2 e3), IV.d (D.agg [D.sl 2 z4 x5 e6, D.sl 1 z7 x8 e9, D.sl 2 z10 x11 e12])] = some (IV.d (D.bool v0), [v1, v2])) (h1 : v0 = false) : evFnJ F C J d25 [.d (.sl 4 z1 x2 e3), .d (.agg [.sl 2 z4 x5 e6, .sl 1 z7 x8 e9, .sl 2 z10 x11 e12])] = some (IV.tup [IV.d (D.agg [D.int IntKind.i64 0, D.int IntKind.i64 0]), IV.d (D.int IntKind.i64 900)], [IV.d (D.sl 4 z1 x2 e3), IV.d (D.agg [D.sl 2 z4 x5 e6, D.sl 1 z7 x8 e9, D.sl 2 z10 x11 e12])]) := fnW_way (q25 C J z1 x2 e3 z4 x5 e6 z7 x8 e9 z10 x11 e12 _) (Exists.intro v0 (Exists.intro v1 (Exists.intro v2 (And.intro h0 (condW_f h1 (rfl))))))
theorem q25_l0a (C J) (z1 : Bool) (x2 : List D) (e3 : List D) (z4 : Bool) (x5 : List D) (e6 : List D) (z7 : Bool) (x8 : List D) (e9 : List D) (z10 : Bool) (x11 : List D) (e12 : List D) (i13 : Int) (i14 : Int) (i15 : Int) (i16 : Int) (i17 : Int) (Q) : wpQ F C R (L25) J d25 [] [1,1,1,0,1,0,0] [(0, .d (.sl 4 z1 x2 e3)), (3, .dbox 47 0 [.sl 2 z4 x5 e6, .sl 1 z7 x8 e9, .sl 2 z10 x11 e12]), (4, .dbox 23 0 [.int .i64 i13, .int .i64 i14]), (6, .dbox 23 0 [.int .i64 i15, .int .i64 i16]), (7, .d (.int .i64 i17))] Q = (condW (decide (i17 < (↑(List.length x5) : Int))) (condW (decide (0 ≤ i17)) (∃ w0 w1 w2 w3, x5[Int.toNat i17]? = some (D.agg [D.bool w0, D.sl 1 w1 w2 w3]) ∧ ∃ w4 w5 w6, C 40 [IV.d (D.sl 4 z1 x2 e3), IV.d (D.sl 1 w1 w2 w3)] = some (IV.d (D.int IntKind.i64 w4), [w5, w6]) ∧ condW (decide (0 ≤ i17)) (∃ w7 w8 w9 w10, x5[Int.toNat i17]? = some (D.agg [D.bool w7, D.sl 1 w8 w9 w10]) ∧ condW w7 (Q (Out.norm [(0, IV.d (D.sl 4 z1 x2 e3)), (3, IV.dbox 47 0 [D.sl 2 z4 x5 e6, D.sl 1 z7 x8 e9, D.sl 2 z10 x11 e12]), (4, IV.dbox 23 0 [D.int IntKind.i64 i13, D.int IntKind.i64 i14]), (6, IV.dbox 23 0 [D.int IntKind.i64 i15, D.int IntKind.i64 (if true = true then if w4 > i16 then w4 else i16 else if w4 < i16 then w4 else i16)]), (7, IV.d (D.int IntKind.i64 (IntKind.wrap IntKind.i64 (i17 + 1))))])) (Q (Out.norm [(0, IV.d (D.sl 4 z1 x2 e3)), (3, IV.dbox 47 0 [D.sl 2 z4 x5 e6, D.sl 1 z7 x8 e9, D.sl 2 z10 x11 e12]), (4, IV.dbox 23 0 [D.int IntKind.i64 i13, D.int IntKind.i64 i14]), (6, IV.dbox 23 0 [D.int IntKind.i64 (if true = true then if w4 > i15 then w4 else i15 else if w4 < i15 then w4 else i15), D.int IntKind.i64 i16]), (7, IV.d (D.int IntKind.i64 (IntKind.wrap IntKind.i64 (i17 + 1))))]))) False) False) (Q (Out.exit 0 [(0, IV.d (D.sl 4 z1 x2 e3)), (3, IV.dbox 47 0 [D.sl 2 z4 x5 e6, D.sl 1 z7 x8 e9, D.sl 2 z10 x11 e12]), (4, IV.dbox 23 0 [D.int IntKind.i64 i13, D.int IntKind.i64 i14]), (6, IV.dbox 23 0 [D.int IntKind.i64 i15, D.int IntKind.i64 i16]), (7, IV.d (D.int IntKind.i64 i17))]))) := by kernel_rfl
theorem q25_l0a_0 {C J} (z1 : Bool) (x2 : List D) (e3 : List D) (z4 : Bool) (x5 : List D) (e6 : List D) (z7 : Bool) (x8 : List D) (e9 : List D) (z10 : Bool) (x11 : List D) (e12 : List D) (i13 : Int) (i14 : Int) (i15 : Int) (i16 : Int) (i17 : Int) (v0 : Bool) (v1 : Bool) (v2 : List D) (v3 : List D) (v4 : Int) (v5 : IV) (v6 : IV) (v7 : Bool) (v8 : Bool) (v9 : List D) (v10 : List D) (h0 : i17 < (↑(List.length x5) : Int)) (h1 : 0 ≤ i17) (h2 : x5[Int.toNat i17]? = some (D.agg [D.bool v0, D.sl 1 v1 v2 v3])) (h3 : C 40 [IV.d (D.sl 4 z1 x2 e3), IV.d (D.sl 1 v1 v2 v3)] = some (IV.d (D.int IntKind.i64 v4), [v5, v6])) (h4 : x5[Int.toNat i17]? = some (D.agg [D.bool v7, D.sl 1 v8 v9 v10])) (h5 : v7 = true) : evP F C J d25 [] [1,1,1,0,1,0,0] [(0, .d (.sl 4 z1 x2 e3)), (3, .dbox 47 0 [.sl 2 z4 x5 e6, .sl 1 z7 x8 e9, .sl 2 z10 x11 e12]), (4, .dbox 23 0 [.int .i64 i13, .int .i64 i14]), (6, .dbox 23 0 [.int .i64 i15, .int .i64 i16]), (7, .d (.int .i64 i17))] = some (Out.norm [(0, IV.d (D.sl 4 z1 x2 e3)), (3, IV.dbox 47 0 [D.sl 2 z4 x5 e6, D.sl 1 z7 x8 e9, D.sl 2 z10 x11 e12]), (4, IV.dbox 23 0 [D.int IntKind.i64 i13, D.int IntKind.i64 i14]), (6, IV.dbox 23 0 [D.int IntKind.i64 i15, D.int IntKind.i64 (if true = true then if v4 > i16 then v4 else i16 else if v4 < i16 then v4 else i16)]), (7, IV.d (D.int IntKind.i64 (IntKind.wrap IntKind.i64 (i17 + 1))))]) := wpQ_way (q25_l0a C J z1 x2 e3 z4 x5 e6 z7 x8 e9 z10 x11 e12 i13 i14 i15 i16 i17 _) (condW_t (decide_eq_true h0) (condW_t (decide_eq_true h1) (Exists.intro v0 (Exists.intro v1 (Exists.intro v2 (Exists.intro v3 (And.intro h2 (Exists.intro v4 (Exists.intro v5 (Exists.intro v6 (And.intro h3 (condW_t (decide_eq_true h1) (Exists.intro v7 (Exists.intro v8 (Exists.intro v9 (Exists.intro v10 (And.intro h4 (condW_t h5 (rfl)))))))))))))))))))
theorem q25_l0a_1 {C J} (z1 : Bool) (x2 : List D) (e3 : List D) (z4 : Bool) (x5 : List D) (e6 : List D) (z7 : Bool) (x8 : List D) (e9 : List D) (z10 : Bool) (x11 : List D) (e12 : List D) (i13 : Int) (i14 : Int) (i15 : Int) (i16 : Int) (i17 : Int) (v0 : Bool) (v1 : Bool) (v2 : List D) (v3 : List D) (v4 : Int) (v5 : IV) (v6 : IV) (v7 : Bool) (v8 : Bool) (v9 : List D) (v10 : List D) (h0 : i17 < (↑(List.length x5) : Int)) (h1 : 0 ≤ i17) (h2 : x5[Int.toNat i17]? = some (D.agg [D.bool v0, D.sl 1 v1 v2 v3])) (h3 : C 40 [IV.d (D.sl 4 z1 x2 e3), IV.d (D.sl 1 v1 v2 v3)] = some (IV.d (D.int IntKind.i64 v4), [v5, v6])) (h4 : x5[Int.toNat i17]? = some (D.agg [D.bool v7, D.sl 1 v8 v9 v10])) (h5 : v7 = false) : evP F C J d25 [] [1,1,1,0,1,0,0] [(0, .d (.sl 4 z1 x2 e3)), (3, .dbox 47 0 [.sl 2 z4 x5 e6, .sl 1 z7 x8 e9, .sl 2 z10 x11 e12]), (4, .dbox 23 0 [.int .i64 i13, .int .i64 i14]), (6, .dbox 23 0 [.int .i64 i15, .int .i64 i16]), (7, .d (.int .i64 i17))] = some (Out.norm [(0, IV.d (D.sl 4 z1 x2 e3)), (3, IV.dbox 47 0 [D.sl 2 z4 x5 e6, D.sl 1 z7 x8 e9, D.sl 2 z10 x11 e12]), (4, IV.dbox 23 0 [D.int IntKind.i64 i13, D.int IntKind.i64 i14]), (6, IV.dbox 23 0 [D.int IntKind.i64 (if true = true then if v4 > i15 then v4 else i15 else if v4 < i15 then v4 else i15), D.int IntKind.i64 i16]), (7, IV.d (D.int IntKind.i64 (IntKind.wrap IntKind.i64 (i17 + 1))))]) := wpQ_way (q25_l0a C J z1 x2 e3 z4 x5 e6 z7 x8 e9 z10 x11 e12 i13 i14 i15 i16 i17 _) (condW_t (decide_eq_true h0) (condW_t (decide_eq_true h1) (Exists.intro v0 (Exists.intro v1 (Exists.intro v2 (Exists.intro v3 (And.intro h2 (Exists.intro v4 (Exists.intro v5 (Exists.intro v6 (And.intro h3 (condW_t (decide_eq_true h1) (Exists.intro v7 (Exists.intro v8 (Exists.intro v9 (Exists.intro v10 (And.intro h4 (condW_f h5 (rfl)))))))))))))))))))
theorem q25_l0a_2 {C J} (z1 : Bool) (x2 : List D) (e3 : List D) (z4 : Bool) (x5 : List D) (e6 : List D) (z7 : Bool) (x8 : List D) (e9 : List D) (z10 : Bool) (x11 : List D) (e12 : List D) (i13 : Int) (i14 : Int) (i15 : Int) (i16 : Int) (i17 : Int) (h0 : ¬i17 < (↑(List.length x5) : Int)) : evP F C J d25 [] [1,1,1,0,1,0,0] [(0, .d (.sl 4 z1 x2 e3)), (3, .dbox 47 0 [.sl 2 z4 x5 e6, .sl 1 z7 x8 e9, .sl 2 z10 x11 e12]), (4, .dbox 23 0 [.int .i64 i13, .int .i64 i14]), (6, .dbox 23 0 [.int .i64 i15, .int .i64 i16]), (7, .d (.int .i64 i17))] = some (Out.exit 0 [(0, IV.d (D.sl 4 z1 x2 e3)), (3, IV.dbox 47 0 [D.sl 2 z4 x5 e6, D.sl 1 z7 x8 e9, D.sl 2 z10 x11 e12]), (4, IV.dbox 23 0 [D.int IntKind.i64 i13, D.int IntKind.i64 i14]), (6, IV.dbox 23 0 [D.int IntKind.i64 i15, D.int IntKind.i64 i16]), (7, IV.d (D.int IntKind.i64 i17))]) := wpQ_way (q25_l0a C J z1 x2 e3 z4 x5 e6 z7 x8 e9 z10 x11 e12 i13 i14 i15 i16 i17 _) (condW_f (decide_eq_false h0) (rfl))
theorem q52 (C J) (z1 : Bool) (x2 : List D) (e3 : List D) (z4 : Bool) (x5 : List D) (e6 : List D) (Q) : fnW F C R (L52) J d52 [.d (.sl 1 z1 x2 e3), .d (.sl 1 z4 x5 e6)] Q = (condW ((↑(List.length x2) : Int) != (↑(List.length x5) : Int)) (Q (some (IV.d (D.bool false), [IV.d (D.sl 1 z1 x2 e3), IV.d (D.sl 1 z4 x5 e6)]))) ((∃ w0, evP F C J d52 [] [1, 1, 0, 1] [(0, IV.d (D.sl 1 z1 x2 e3)), (1, IV.d (D.sl 1 z4 x5 e6)), (5, IV.d (D.int IntKind.i64 0))] = some (Out.ret [(4, IV.d (D.bool w0))]) ∧ Q (some (IV.d (D.bool w0), [IV.d (D.sl 1 z1 x2 e3), IV.d (D.sl 1 z4 x5 e6)]))) ∨ ∃ w1 w2 w3 w4 w5 w6 w7, evP F C J d52 [] [1, 1, 0, 1] [(0, IV.d (D.sl 1 z1 x2 e3)), (1, IV.d (D.sl 1 z4 x5 e6)), (5, IV.d (D.int IntKind.i64 0))] = some (Out.norm [(0, IV.d (D.sl 1 w1 w2 w3)), (1, IV.d (D.sl 1 w4 w5 w6)), (5, IV.d (D.int IntKind.i64 w7))]) ∧ Q (some (IV.d (D.bool true), [IV.d (D.sl 1 z1 x2 e3), IV.d (D.sl 1 z4 x5 e6)])))) := by kernel_rfl
theorem q52_0 {C J} (z1 : Bool) (x2 : List D) (e3 : List D) (z4 : Bool) (x5 : List D) (e6 : List D) (h0 : ((↑(List.length x2) : Int) != (↑(List.length x5) : Int)) = true) : evFnJ F C J d52 [.d (.sl 1 z1 x2 e3), .d (.sl 1 z4 x5 e6)] = some (IV.d (D.bool false), [IV.d (D.sl 1 z1 x2 e3), IV.d (D.sl 1 z4 x5 e6)]) := fnW_way (q52 C J z1 x2 e3 z4 x5 e6 _) (condW_t h0 (rfl))
theorem q52_1 {C J} (z1 : Bool) (x2 : List D) (e3 : List D) (z4 : Bool) (x5 : List D) (e6 : List D) (v0 : Bool) (h0 : ((↑(List.length x2) : Int) != (↑(List.length x5) : Int)) = false) (h1 : evP F C J d52 [] [1, 1, 0, 1] [(0, IV.d (D.sl 1 z1 x2 e3)), (1, IV.d (D.sl 1 z4 x5 e6)), (5, IV.d (D.int IntKind.i64 0))] = some (Out.ret [(4, IV.d (D.bool v0))])) : evFnJ F C J d52 [.d (.sl 1 z1 x2 e3), .d (.sl 1 z4 x5 e6)] = some (IV.d (D.bool v0), [IV.d (D.sl 1 z1 x2 e3), IV.d (D.sl 1 z4 x5 e6)]) := fnW_way (q52 C J z1 x2 e3 z4 x5 e6 _) (condW_f h0 (Or.inl (Exists.intro v0 (And.intro h1 (rfl)))))
theorem q52_2 {C J} (z1 : Bool) (x2 : List D) (e3 : List D) (z4 : Bool) (x5 : List D) (e6 : List D) (v0 : Bool) (v1 : List D) (v2 : List D) (v3 : Bool) (v4 : List D) (v5 : List D) (v6 : Int) (h0 : ((↑(List.length x2) : Int) != (↑(List.length x5) : Int)) = false) (h1 : evP F C J d52 [] [1, 1, 0, 1] [(0, IV.d (D.sl 1 z1 x2 e3)), (1, IV.d (D.sl 1 z4 x5 e6)), (5, IV.d (D.int IntKind.i64 0))] = some (Out.norm [(0, IV.d (D.sl 1 v0 v1 v2)), (1, IV.d (D.sl 1 v3 v4 v5)), (5, IV.d (D.int IntKind.i64 v6))])) : evFnJ F C J d52 [.d (.sl 1 z1 x2 e3), .d (.sl 1 z4 x5 e6)] = some (IV.d (D.bool true), [IV.d (D.sl 1 z1 x2 e3), IV.d (D.sl 1 z4 x5 e6)]) := fnW_way (q52 C J z1 x2 e3 z4 x5 e6 _) (condW_f h0 (Or.inr (Exists.intro v0 (Exists.intro v1 (Exists.intro v2 (Exists.intro v3 (Exists.intro v4 (Exists.intro v5 (Exists.intro v6 (And.intro h1 (rfl)))))))))))
theorem q52_l0a (C J) (z1 : Bool) (x2 : List D) (e3 : List D) (z4 : Bool) (x5 : List D) (e6 : List D) (i7 : Int) (Q) : wpQ F C R (L52) J d52 [] [1,1,0,1,0,0] [(0, .d (.sl 1 z1 x2 e3)), (1, .d (.sl 1 z4 x5 e6)), (5, .d (.int .i64 i7))] Q = (condW (decide (i7 < (↑(List.length x2) : Int))) (condW (decide (0 ≤ i7)) (∃ w0, x2[Int.toNat i7]? = some (D.int IntKind.i64 w0) ∧ condW (decide (0 ≤ i7)) (∃ w1, x5[Int.toNat i7]? = some (D.int IntKind.i64 w1) ∧ condW (w0 != w1) (Q (Out.ret [(4, IV.d (D.bool false))])) (Q (Out.norm [(0, IV.d (D.sl 1 z1 x2 e3)), (1, IV.d (D.sl 1 z4 x5 e6)), (5, IV.d (D.int IntKind.i64 (IntKind.wrap IntKind.i64 (i7 + 1))))]))) False) False) (Q (Out.exit 0 [(0, IV.d (D.sl 1 z1 x2 e3)), (1, IV.d (D.sl 1 z4 x5 e6)), (5, IV.d (D.int IntKind.i64 i7))]))) := by kernel_rfl
theorem q52_l0a_0 {C J} (z1 : Bool) (x2 : List D) (e3 : List D) (z4 : Bool) (x5 : List D) (e6 : List D) (i7 : Int) (v0 : Int) (v1 : Int) (h0 : i7 < (↑(List.length x2) : Int)) (h1 : 0 ≤ i7) (h2 : x2[Int.toNat i7]? = some (D.int IntKind.i64 v0)) (h3 : x5[Int.toNat i7]? = some (D.int IntKind.i64 v1)) (h4 : (v0 != v1) = true) : evP F C J d52 [] [1,1,0,1,0,0] [(0, .d (.sl 1 z1 x2 e3)), (1, .d (.sl 1 z4 x5 e6)), (5, .d (.int .i64 i7))] = some (Out.ret [(4, IV.d (D.bool false))]) := wpQ_way (q52_l0a C J z1 x2 e3 z4 x5 e6 i7 _) (condW_t (decide_eq_true h0) (condW_t (decide_eq_true h1) (Exists.intro v0 (And.intro h2 (condW_t (decide_eq_true h1) (Exists.intro v1 (And.intro h3 (condW_t h4 (rfl)))))))))
theorem q52_l0a_1 {C J} (z1 : Bool) (x2 : List D) (e3 : List D) (z4 : Bool) (x5 : List D) (e6 : List D) (i7 : Int) (v0 : Int) (v1 : Int) (h0 : i7 < (↑(List.length x2) : Int)) (h1 : 0 ≤ i7) (h2 : x2[Int.toNat i7]? = some (D.int IntKind.i64 v0)) (h3 : x5[Int.toNat i7]? = some (D.int IntKind.i64 v1)) (h4 : (v0 != v1) = false) : evP F C J d52 [] [1,1,0,1,0,0] [(0, .d (.sl 1 z1 x2 e3)), (1, .d (.sl 1 z4 x5 e6)), (5, .d (.int .i64 i7))] = some (Out.norm [(0, IV.d (D.sl 1 z1 x2 e3)), (1, IV.d (D.sl 1 z4 x5 e6)), (5, IV.d (D.int IntKind.i64 (IntKind.wrap IntKind.i64 (i7 + 1))))]) := wpQ_way (q52_l0a C J z1 x2 e3 z4 x5 e6 i7 _) (condW_t (decide_eq_true h0) (condW_t (decide_eq_true h1) (Exists.intro v0 (And.intro h2 (condW_t (decide_eq_true h1) (Exists.intro v1 (And.intro h3 (condW_f h4 (rfl)))))))))
theorem q52_l0a_2 {C J} (z1 : Bool) (x2 : List D) (e3 : List D) (z4 : Bool) (x5 : List D) (e6 : List D) (i7 : Int) (h0 : ¬i7 < (↑(List.length x2) : Int)) : evP F C J d52 [] [1,1,0,1,0,0] [(0, .d (.sl 1 z1 x2 e3)), (1, .d (.sl 1 z4 x5 e6)), (5, .d (.int .i64 i7))] = some (Out.exit 0 [(0, IV.d (D.sl 1 z1 x2 e3)), (1, IV.d (D.sl 1 z4 x5 e6)), (5, IV.d (D.int IntKind.i64 i7))]) := wpQ_way (q52_l0a C J z1 x2 e3 z4 x5 e6 i7 _) (condW_f (decide_eq_false h0) (rfl))
theorem q41 (C J) (z1 : Bool) (x2 : List D) (e3 : List D) (z4 : Bool) (x5 : List D) (e6 : List D) (Q) : fnW F C R (L41) J d41 [.d (.sl 2 z1 x2 e3), .d (.sl 2 z4 x5 e6)] Q = (condW ((↑(List.length x2) : Int) != (↑(List.length x5) : Int)) (Q (some (IV.d (D.bool false), [IV.d (D.sl 2 z1 x2 e3), IV.d (D.sl 2 z4 x5 e6)]))) ((∃ w0, evP F C J d41 [] [1, 1, 0, 1] [(0, IV.d (D.sl 2 z1 x2 e3)), (1, IV.d (D.sl 2 z4 x5 e6)), (5, IV.d (D.int IntKind.i64 0))] = some (Out.ret [(4, IV.d (D.bool w0))]) ∧ Q (some (IV.d (D.bool w0), [IV.d (D.sl 2 z1 x2 e3), IV.d (D.sl 2 z4 x5 e6)]))) ∨ ∃ w1 w2 w3 w4 w5 w6 w7, evP F C J d41 [] [1, 1, 0, 1] [(0, IV.d (D.sl 2 z1 x2 e3)), (1, IV.d (D.sl 2 z4 x5 e6)), (5, IV.d (D.int IntKind.i64 0))] = some (Out.norm [(0, IV.d (D.sl 2 w1 w2 w3)), (1, IV.d (D.sl 2 w4 w5 w6)), (5, IV.d (D.int IntKind.i64 w7))]) ∧ Q (some (IV.d (D.bool true), [IV.d (D.sl 2 z1 x2 e3), IV.d (D.sl 2 z4 x5 e6)])))) := by kernel_rfl
theorem q41_0 {C J} (z1 : Bool) (x2 : List D) (e3 : List D) (z4 : Bool) (x5 : List D) (e6 : List D) (h0 : ((↑(List.length x2) : Int) != (↑(List.length x5) : Int)) = true) : evFnJ F C J d41 [.d (.sl 2 z1 x2 e3), .d (.sl 2 z4 x5 e6)] = some (IV.d (D.bool false), [IV.d (D.sl 2 z1 x2 e3), IV.d (D.sl 2 z4 x5 e6)]) := fnW_way (q41 C J z1 x2 e3 z4 x5 e6 _) (condW_t h0 (rfl))
theorem q41_1 {C J} (z1 : Bool) (x2 : List D) (e3 : List D) (z4 : Bool) (x5 : List D) (e6 : List D) (v0 : Bool) (h0 : ((↑(List.length x2) : Int) != (↑(List.length x5) : Int)) = false) (h1 : evP F C J d41 [] [1, 1, 0, 1] [(0, IV.d (D.sl 2 z1 x2 e3)), (1, IV.d (D.sl 2 z4 x5 e6)), (5, IV.d (D.int IntKind.i64 0))] = some (Out.ret [(4, IV.d (D.bool v0))])) : evFnJ F C J d41 [.d (.sl 2 z1 x2 e3), .d (.sl 2 z4 x5 e6)] = some (IV.d (D.bool v0), [IV.d (D.sl 2 z1 x2 e3), IV.d (D.sl 2 z4 x5 e6)]) := fnW_way (q41 C J z1 x2 e3 z4 x5 e6 _) (condW_f h0 (Or.inl (Exists.intro v0 (And.intro h1 (rfl)))))
theorem q41_2 {C J} (z1 : Bool) (x2 : List D) (e3 : List D) (z4 : Bool) (x5 : List D) (e6 : List D) (v0 : Bool) (v1 : List D) (v2 : List D) (v3 : Bool) (v4 : List D) (v5 : List D) (v6 : Int) (h0 : ((↑(List.length x2) : Int) != (↑(List.length x5) : Int)) = false) (h1 : evP F C J d41 [] [1, 1, 0, 1] [(0, IV.d (D.sl 2 z1 x2 e3)), (1, IV.d (D.sl 2 z4 x5 e6)), (5, IV.d (D.int IntKind.i64 0))] = some (Out.norm [(0, IV.d (D.sl 2 v0 v1 v2)), (1, IV.d (D.sl 2 v3 v4 v5)), (5, IV.d (D.int IntKind.i64 v6))])) : evFnJ F C J d41 [.d (.sl 2 z1 x2 e3), .d (.sl 2 z4 x5 e6)] = some (IV.d (D.bool true), [IV.d (D.sl 2 z1 x2 e3), IV.d (D.sl 2 z4 x5 e6)]) := fnW_way (q41 C J z1 x2 e3 z4 x5 e6 _) (condW_f h0 (Or.inr (Exists.intro v0 (Exists.intro v1 (Exists.intro v2 (Exists.intro v3 (Exists.intro v4 (Exists.intro v5 (Exists.intro v6 (And.intro h1 (rfl)))))))))))
theorem q41_l0a (C J) (z1 : Bool) (x2 : List D) (e3 : List D) (z4 : Bool) (x5 : List D) (e6 : List D) (i7 : Int) (Q) : wpQ F C R (L41) J d41 [] [1,1,0,1,0,0] [(0, .d (.sl 2 z1 x2 e3)), (1, .d (.sl 2 z4 x5 e6)), (5, .d (.int .i64 i7))] Q = (condW (decide (i7 < (↑(List.length x2) : Int))) (condW (decide (0 ≤ i7)) (∃ w0 w1 w2 w3, x2[Int.toNat i7]? = some (D.agg [D.bool w0, D.sl 1 w1 w2 w3]) ∧ condW w0 (condW (decide (0 ≤ i7)) (∃ w4 w5 w6 w7, x5[Int.toNat i7]? = some (D.agg [D.bool w4, D.sl 1 w5 w6 w7]) ∧ condW w4 (condW (decide (0 ≤ i7)) (∃ w8 w9 w10 w11, x2[Int.toNat i7]? = some (D.agg [D.bool w8, D.sl 1 w9 w10 w11]) ∧ condW (decide (0 ≤ i7)) (∃ w12 w13 w14 w15, x5[Int.toNat i7]? = some (D.agg [D.bool w12, D.sl 1 w13 w14 w15]) ∧ ∃ w16 w17 w18, C 52 [IV.d (D.sl 1 w9 w10 w11), IV.d (D.sl 1 w13 w14 w15)] = some (IV.d (D.bool w16), [w17, w18]) ∧ condW w16 (Q (Out.norm [(0, IV.d (D.sl 2 z1 x2 e3)), (1, IV.d (D.sl 2 z4 x5 e6)), (5, IV.d (D.int IntKind.i64 (IntKind.wrap IntKind.i64 (i7 + 1))))])) (Q (Out.ret [(4, IV.d (D.bool false))]))) False) False) (Q (Out.ret [(4, IV.d (D.bool false))]))) False) (condW (decide (0 ≤ i7)) (∃ w19 w20 w21 w22, x5[Int.toNat i7]? = some (D.agg [D.bool w19, D.sl 1 w20 w21 w22]) ∧ condW w19 (Q (Out.ret [(4, IV.d (D.bool false))])) (condW (decide (0 ≤ i7)) (∃ w23 w24 w25 w26, x2[Int.toNat i7]? = some (D.agg [D.bool w23, D.sl 1 w24 w25 w26]) ∧ condW (decide (0 ≤ i7)) (∃ w27 w28 w29 w30, x5[Int.toNat i7]? = some (D.agg [D.bool w27, D.sl 1 w28 w29 w30]) ∧ ∃ w31 w32 w33, C 52 [IV.d (D.sl 1 w24 w25 w26), IV.d (D.sl 1 w28 w29 w30)] = some (IV.d (D.bool w31), [w32, w33]) ∧ condW w31 (Q (Out.norm [(0, IV.d (D.sl 2 z1 x2 e3)), (1, IV.d (D.sl 2 z4 x5 e6)), (5, IV.d (D.int IntKind.i64 (IntKind.wrap IntKind.i64 (i7 + 1))))])) (Q (Out.ret [(4, IV.d (D.bool false))]))) False) False)) False)) False) (Q (Out.exit 0 [(0, IV.d (D.sl 2 z1 x2 e3)), (1, IV.d (D.sl 2 z4 x5 e6)), (5, IV.d (D.int IntKind.i64 i7))]))) := by kernel_rfl
theorem q41_l0a_0 {C J} (z1 : Bool) (x2 : List D) (e3 : List D) (z4 : Bool) (x5 : List D) (e6 : List D) (i7 : Int) (v0 : Bool) (v1 : Bool) (v2 : List D) (v3 : List D) (v4 : Bool) (v5 : Bool) (v6 : List D) (v7 : List D) (v8 : Bool) (v9 : Bool) (v10 : List D) (v11 : List D) (v12 : Bool) (v13 : Bool) (v14 : List D) (v15 : List D) (v16 : Bool) (v17 : IV) (v18 : IV) (h0 : i7 < (↑(List.length x2) : Int)) (h1 : 0 ≤ i7) (h2 : x2[Int.toNat i7]? = some (D.agg [D.bool v0, D.sl 1 v1 v2 v3])) (h3 : v0 = true) (h4 : x5[Int.toNat i7]? = some (D.agg [D.bool v4, D.sl 1 v5 v6 v7])) (h5 : v4 = true) (h6 : x2[Int.toNat i7]? = some (D.agg [D.bool v8, D.sl 1 v9 v10 v11])) (h7 : x5[Int.toNat i7]? = some (D.agg [D.bool v12, D.sl 1 v13 v14 v15])) (h8 : C 52 [IV.d (D.sl 1 v9 v10 v11), IV.d (D.sl 1 v13 v14 v15)] = some (IV.d (D.bool v16), [v17, v18])) (h9 : v16 = true) : evP F C J d41 [] [1,1,0,1,0,0] [(0, .d (.sl 2 z1 x2 e3)), (1, .d (.sl 2 z4 x5 e6)), (5, .d (.int .i64 i7))] = some (Out.norm [(0, IV.d (D.sl 2 z1 x2 e3)), (1, IV.d (D.sl 2 z4 x5 e6)), (5, IV.d (D.int IntKind.i64 (IntKind.wrap IntKind.i64 (i7 + 1))))]) := wpQ_way (q41_l0a C J z1 x2 e3 z4 x5 e6 i7 _) (condW_t (decide_eq_true h0) (condW_t (decide_eq_true h1) (Exists.intro v0 (Exists.intro v1 (Exists.intro v2 (Exists.intro v3 (And.intro h2 (condW_t h3 (condW_t (decide_eq_true h1) (Exists.intro v4 (Exists.intro v5 (Exists.intro v6 (Exists.intro v7 (And.intro h4 (condW_t h5 (condW_t (decide_eq_true h1) (Exists.intro v8 (Exists.intro v9 (Exists.intro v10 (Exists.intro v11 (And.intro h6 (condW_t (decide_eq_true h1) (Exists.intro v12 (Exists.intro v13 (Exists.intro v14 (Exists.intro v15 (And.intro h7 (Exists.intro v16 (Exists.intro v17 (Exists.intro v18 (And.intro h8 (condW_t h9 (rfl)))))))))))))))))))))))))))))))))
theorem q41_l0a_1 {C J} (z1 : Bool) (x2 : List D) (e3 : List D) (z4 : Bool) (x5 : List D) (e6 : List D) (i7 : Int) (v0 : Bool) (v1 : Bool) (v2 : List D) (v3 : List D) (v4 : Bool) (v5 : Bool) (v6 : List D) (v7 : List D) (v8 : Bool) (v9 : Bool) (v10 : List D) (v11 : List D) (v12 : Bool) (v13 : Bool) (v14 : List D) (v15 : List D) (v16 : Bool) (v17 : IV) (v18 : IV) (h0 : i7 < (↑(List.length x2) : Int)) (h1 : 0 ≤ i7) (h2 : x2[Int.toNat i7]? = some (D.agg [D.bool v0, D.sl 1 v1 v2 v3])) (h3 : v0 = true) (h4 : x5[Int.toNat i7]? = some (D.agg [D.bool v4, D.sl 1 v5 v6 v7])) (h5 : v4 = true) (h6 : x2[Int.toNat i7]? = some (D.agg [D.bool v8, D.sl 1 v9 v10 v11])) (h7 : x5[Int.toNat i7]? = some (D.agg [D.bool v12, D.sl 1 v13 v14 v15])) (h8 : C 52 [IV.d (D.sl 1 v9 v10 v11), IV.d (D.sl 1 v13 v14 v15)] = some (IV.d (D.bool v16), [v17, v18])) (h9 : v16 = false) : evP F C J d41 [] [1,1,0,1,0,0] [(0, .d (.sl 2 z1 x2 e3)), (1, .d (.sl 2 z4 x5 e6)), (5, .d (.int .i64 i7))] = some (Out.ret [(4, IV.d (D.bool false))]) := wpQ_way (q41_l0a C J z1 x2 e3 z4 x5 e6 i7 _) (condW_t (decide_eq_true h0) (condW_t (decide_eq_true h1) (Exists.intro v0 (Exists.intro v1 (Exists.intro v2 (Exists.intro v3 (And.intro h2 (condW_t h3 (condW_t (decide_eq_true h1) (Exists.intro v4 (Exists.intro v5 (Exists.intro v6 (Exists.intro v7 (And.intro h4 (condW_t h5 (condW_t (decide_eq_true h1) (Exists.intro v8 (Exists.intro v9 (Exists.intro v10 (Exists.intro v11 (And.intro h6 (condW_t (decide_eq_true h1) (Exists.intro v12 (Exists.intro v13 (Exists.intro v14 (Exists.intro v15 (And.intro h7 (Exists.intro v16 (Exists.intro v17 (Exists.intro v18 (And.intro h8 (condW_f h9 (rfl)))))))))))))))))))))))))))))))))
theorem q41_l0a_2 {C J} (z1 : Bool) (x2 : List D) (e3 : List D) (z4 : Bool) (x5 : List D) (e6 : List D) (i7 : Int) (v0 : Bool) (v1 : Bool) (v2 : List D) (v3 : List D) (v4 : Bool) (v5 : Bool) (v6 : List D) (v7 : List D) (h0 : i7 < (↑(List.length x2) : Int)) (h1 : 0 ≤ i7) (h2 : x2[Int.toNat i7]? = some (D.agg [D.bool v0, D.sl 1 v1 v2 v3])) (h3 : v0 = true) (h4 : x5[Int.toNat i7]? = some (D.agg [D.bool v4, D.sl 1 v5 v6 v7])) (h5 : v4 = false) : evP F C J d41 [] [1,1,0,1,0,0] [(0, .d (.sl 2 z1 x2 e3)), (1, .d (.sl 2 z4 x5 e6)), (5, .d (.int .i64 i7))] = some (Out.ret [(4, IV.d (D.bool false))]) := wpQ_way (q41_l0a C J z1 x2 e3 z4 x5 e6 i7 _) (condW_t (decide_eq_true h0) (condW_t (decide_eq_true h1) (Exists.intro v0 (Exists.intro v1 (Exists.intro v2 (Exists.intro v3 (And.intro h2 (condW_t h3 (condW_t (decide_eq_true h1) (Exists.intro v4 (Exists.intro v5 (Exists.intro v6 (Exists.intro v7 (And.intro h4 (condW_f h5 (rfl))))))))))))))))
theorem q41_l0a_3 {C J} (z1 : Bool) (x2 : List D) (e3 : List D) (z4 : Bool) (x5 : List D) (e6 : List D) (i7 : Int) (v0 : Bool) (v1 : Bool) (v2 : List D) (v3 : List D) (v4 : Bool) (v5 : Bool) (v6 : List D) (v7 : List D) (h0 : i7 < (↑(List.length x2) : Int)) (h1 : 0 ≤ i7) (h2 : x2[Int.toNat i7]? = some (D.agg [D.bool v0, D.sl 1 v1 v2 v3])) (h3 : v0 = false) (h4 : x5[Int.toNat i7]? = some (D.agg [D.bool v4, D.sl 1 v5 v6 v7])) (h5 : v4 = true) : evP F C J d41 [] [1,1,0,1,0,0] [(0, .d (.sl 2 z1 x2 e3)), (1, .d (.sl 2 z4 x5 e6)), (5, .d (.int .i64 i7))] = some (Out.ret [(4, IV.d (D.bool false))]) := wpQ_way (q41_l0a C J z1 x2 e3 z4 x5 e6 i7 _) (condW_t (decide_eq_true h0) (condW_t (decide_eq_true h1) (Exists.intro v0 (Exists.intro v1 (Exists.intro v2 (Exists.intro v3 (And.intro h2 (condW_f h3 (condW_t (decide_eq_true h1) (Exists.intro v4 (Exists.intro v5 (Exists.intro v6 (Exists.intro v7 (And.intro h4 (condW_t h5 (rfl))))))))))))))))
theorem q41_l0a_4 {C J} (z1 : Bool) (x2 : List D) (e3 : List D) (z4 : Bool) (x5 : List D) (e6 : List D) (i7 : Int) (v0 : Bool) (v1 : Bool) (v2 : List D) (v3 : List D) (v4 : Bool) (v5 : Bool) (v6 : List D) (v7 : List D) (v8 : Bool) (v9 : Bool) (v10 : List D) (v11 : List D) (v12 : Bool) (v13 : Bool) (v14 : List D) (v15 : List D) (v16 : Bool) (v17 : IV) (v18 : IV) (h0 : i7 < (↑(List.length x2) : Int)) (h1 : 0 ≤ i7) (h2 : x2[Int.toNat i7]? = some (D.agg [D.bool v0, D.sl 1 v1 v2 v3])) (h3 : v0 = false) (h4 : x5[Int.toNat i7]? = some (D.agg [D.bool v4, D.sl 1 v5 v6 v7])) (h5 : v4 = false) (h6 : x2[Int.toNat i7]? = some (D.agg [D.bool v8, D.sl 1 v9 v10 v11])) (h7 : x5[Int.toNat i7]? = some (D.agg [D.bool v12, D.sl 1 v13 v14 v15])) (h8 : C 52 [IV.d (D.sl 1 v9 v10 v11), IV.d (D.sl 1 v13 v14 v15)] = some (IV.d (D.bool v16), [v17, v18])) (h9 : v16 = true) : evP F C J d41 [] [1,1,0,1,0,0] [(0, .d (.sl 2 z1 x2 e3)), (1, .d (.sl 2 z4 x5 e6)), (5, .d (.int .i64 i7))] = some (Out.norm [(0, IV.d (D.sl 2 z1 x2 e3)), (1, IV.d (D.sl 2 z4 x5 e6)), (5, IV.d (D.int IntKind.i64 (IntKind.wrap IntKind.i64 (i7 + 1))))]) := wpQ_way (q41_l0a C J z1 x2 e3 z4 x5 e6 i7 _) (condW_t (decide_eq_true h0) (condW_t (decide_eq_true h1) (Exists.intro v0 (Exists.intro v1 (Exists.intro v2 (Exists.intro v3 (And.intro h2 (condW_f h3 (condW_t (decide_eq_true h1) (Exists.intro v4 (Exists.intro v5 (Exists.intro v6 (Exists.intro v7 (And.intro h4 (condW_f h5 (condW_t (decide_eq_true h1) (Exists.intro v8 (Exists.intro v9 (Exists.intro v10 (Exists.intro v11 (And.intro h6 (condW_t (decide_eq_true h1) (Exists.intro v12 (Exists.intro v13 (Exists.intro v14 (Exists.intro v15 (And.intro h7 (Exists.intro v16 (Exists.intro v17 (Exists.intro v18 (And.intro h8 (condW_t h9 (rfl)))))))))))))))))))))))))))))))))
theorem q41_l0a_5 {C J} (z1 : Bool) (x2 : List D) (e3 : List D) (z4 : Bool) (x5 : List D) (e6 : List D) (i7 : Int) (v0 : Bool) (v1 : Bool) (v2 : List D) (v3 : List D) (v4 : Bool) (v5 : Bool) (v6 : List D) (v7 : List D) (v8 : Bool) (v9 : Bool) (v10 : List D) (v11 : List D) (v12 : Bool) (v13 : Bool) (v14 : List D) (v15 : List D) (v16 : Bool) (v17 : IV) (v18 : IV) (h0 : i7 < (↑(List.length x2) : Int)) (h1 : 0 ≤ i7) (h2 : x2[Int.toNat i7]? = some (D.agg [D.bool v0, D.sl 1 v1 v2 v3])) (h3 : v0 = false) (h4 : x5[Int.toNat i7]? = some (D.agg [D.bool v4, D.sl 1 v5 v6 v7])) (h5 : v4 = false) (h6 : x2[Int.toNat i7]? = some (D.agg [D.bool v8, D.sl 1 v9 v10 v11])) (h7 : x5[Int.toNat i7]? = some (D.agg [D.bool v12, D.sl 1 v13 v14 v15])) (h8 : C 52 [IV.d (D.sl 1 v9 v10 v11), IV.d (D.sl 1 v13 v14 v15)] = some (IV.d (D.bool v16), [v17, v18])) (h9 : v16 = false) : evP F C J d41 [] [1,1,0,1,0,0] [(0, .d (.sl 2 z1 x2 e3)), (1, .d (.sl 2 z4 x5 e6)), (5, .d (.int .i64 i7))] = some (Out.ret [(4, IV.d (D.bool false))]) := wpQ_way (q41_l0a C J z1 x2 e3 z4 x5 e6 i7 _) (condW_t (decide_eq_true h0) (condW_t (decide_eq_true h1) (Exists.intro v0 (Exists.intro v1 (Exists.intro v2 (Exists.intro v3 (And.intro h2 (condW_f h3 (condW_t (decide_eq_true h1) (Exists.intro v4 (Exists.intro v5 (Exists.intro v6 (Exists.intro v7 (And.intro h4 (condW_f h5 (condW_t (decide_eq_true h1) (Exists.intro v8 (Exists.intro v9 (Exists.intro v10 (Exists.intro v11 (And.intro h6 (condW_t (decide_eq_true h1) (Exists.intro v12 (Exists.intro v13 (Exists.intro v14 (Exists.intro v15 (And.intro h7 (Exists.intro v16 (Exists.intro v17 (Exists.intro v18 (And.intro h8 (condW_f h9 (rfl)))))))))))))))))))))))))))))))))
theorem q41_l0a_6 {C J} (z1 : Bool) (x2 : List D) (e3 : List D) (z4 : Bool) (x5 : List D) (e6 : List D) (i7 : Int) (h0 : ¬i7 < (↑(List.length x2) : Int)) : evP F C J d41 [] [1,1,0,1,0,0] [(0, .d (.sl 2 z1 x2 e3)), (1, .d (.sl 2 z4 x5 e6)), (5, .d (.int .i64 i7))] = some (Out.exit 0 [(0, IV.d (D.sl 2 z1 x2 e3)), (1, IV.d (D.sl 2 z4 x5 e6)), (5, IV.d (D.int IntKind.i64 i7))]) := wpQ_way (q41_l0a C J z1 x2 e3 z4 x5 e6 i7 _) (condW_f (decide_eq_false h0) (rfl))
theorem q42 (C J) (z1 : Bool) (x2 : List D) (e3 : List D) (z4 : Bool) (x5 : List D) (e6 : List D) (Q) : fnW F C R (L42) J d42 [.d (.sl 1 z1 x2 e3), .d (.sl 1 z4 x5 e6)] Q = (condW ((↑(List.length x2) : Int) != (↑(List.length x5) : Int)) (Q (some (IV.d (D.bool false), [IV.d (D.sl 1 z1 x2 e3), IV.d (D.sl 1 z4 x5 e6)]))) ((∃ w0, evP F C J d42 [] [1, 1, 0, 1] [(0, IV.d (D.sl 1 z1 x2 e3)), (1, IV.d (D.sl 1 z4 x5 e6)), (5, IV.d (D.int IntKind.i64 0))] = some (Out.ret [(4, IV.d (D.bool w0))]) ∧ Q (some (IV.d (D.bool w0), [IV.d (D.sl 1 z1 x2 e3), IV.d (D.sl 1 z4 x5 e6)]))) ∨ ∃ w1 w2 w3 w4 w5 w6 w7, evP F C J d42 [] [1, 1, 0, 1] [(0, IV.d (D.sl 1 z1 x2 e3)), (1, IV.d (D.sl 1 z4 x5 e6)), (5, IV.d (D.int IntKind.i64 0))] = some (Out.norm [(0, IV.d (D.sl 1 w1 w2 w3)), (1, IV.d (D.sl 1 w4 w5 w6)), (5, IV.d (D.int IntKind.i64 w7))]) ∧ Q (some (IV.d (D.bool true), [IV.d (D.sl 1 z1 x2 e3), IV.d (D.sl 1 z4 x5 e6)])))) := by kernel_rfl
theorem q42_0 {C J} (z1 : Bool) (x2 : List D) (e3 : List D) (z4 : Bool) (x5 : List D) (e6 : List D) (h0 : ((↑(List.length x2) : Int) != (↑(List.length x5) : Int)) = true) : evFnJ F C J d42 [.d (.sl 1 z1 x2 e3), .d (.sl 1 z4 x5 e6)] = some (IV.d (D.bool false), [IV.d (D.sl 1 z1 x2 e3), IV.d (D.sl 1 z4 x5 e6)]) := fnW_way (q42 C J z1 x2 e3 z4 x5 e6 _) (condW_t h0 (rfl))
theorem q42_1 {C J} (z1 : Bool) (x2 : List D) (e3 : List D) (z4 : Bool) (x5 : List D) (e6 : List D) (v0 : Bool) (h0 : ((↑(List.length x2) : Int) != (↑(List.length x5) : Int)) = false) (h1 : evP F C J d42 [] [1, 1, 0, 1] [(0, IV.d (D.sl 1 z1 x2 e3)), (1, IV.d (D.sl 1 z4 x5 e6)), (5, IV.d (D.int IntKind.i64 0))] = some (Out.ret [(4, IV.d (D.bool v0))])) : evFnJ F C J d42 [.d (.sl 1 z1 x2 e3), .d (.sl 1 z4 x5 e6)] = some (IV.d (D.bool v0), [IV.d (D.sl 1 z1 x2 e3), IV.d (D.sl 1 z4 x5 e6)]) := fnW_way (q42 C J z1 x2 e3 z4 x5 e6 _) (condW_f h0 (Or.inl (Exists.intro v0 (And.intro h1 (rfl)))))
theorem q42_2 {C J} (z1 : Bool) (x2 : List D) (e3 : List D) (z4 : Bool) (x5 : List D) (e6 : List D) (v0 : Bool) (v1 : List D) (v2 : List D) (v3 : Bool) (v4 : List D) (v5 : List D) (v6 : Int) (h0 : ((↑(List.length x2) : Int) != (↑(List.length x5) : Int)) = false) (h1 : evP F C J d42 [] [1, 1, 0, 1] [(0, IV.d (D.sl 1 z1 x2 e3)), (1, IV.d (D.sl 1 z4 x5 e6)), (5, IV.d (D.int IntKind.i64 0))] = some (Out.norm [(0, IV.d (D.sl 1 v0 v1 v2)), (1, IV.d (D.sl 1 v3 v4 v5)), (5, IV.d (D.int IntKind.i64 v6))])) : evFnJ F C J d42 [.d (.sl 1 z1 x2 e3), .d (.sl 1 z4 x5 e6)] = some (IV.d (D.bool true), [IV.d (D.sl 1 z1 x2 e3), IV.d (D.sl 1 z4 x5 e6)]) := fnW_way (q42 C J z1 x2 e3 z4 x5 e6 _) (condW_f h0 (Or.inr (Exists.intro v0 (Exists.intro v1 (Exists.intro v2 (Exists.intro v3 (Exists.intro v4 (Exists.intro v5 (Exists.intro v6 (And.intro h1 (rfl)))))))))))
theorem q42_l0a (C J) (z1 : Bool) (x2 : List D) (e3 : List D) (z4 : Bool) (x5 : List D) (e6 : List D) (i7 : Int) (Q) : wpQ F C R (L42) J d42 [] [1,1,0,1,0,0] [(0, .d (.sl 1 z1 x2 e3)), (1, .d (.sl 1 z4 x5 e6)), (5, .d (.int .i64 i7))] Q = (condW (decide (i7 < (↑(List.length x2) : Int))) (condW (decide (0 ≤ i7)) (∃ w0 w1 w2, x2[Int.toNat i7]? = some (D.sl 1 w0 w1 w2) ∧ condW (decide (0 ≤ i7)) (∃ w3 w4 w5, x5[Int.toNat i7]? = some (D.sl 1 w3 w4 w5) ∧ ∃ w6 w7 w8, C 52 [IV.d (D.sl 1 w0 w1 w2), IV.d (D.sl 1 w3 w4 w5)] = some (IV.d (D.bool w6), [w7, w8]) ∧ condW w6 (Q (Out.norm [(0, IV.d (D.sl 1 z1 x2 e3)), (1, IV.d (D.sl 1 z4 x5 e6)), (5, IV.d (D.int IntKind.i64 (IntKind.wrap IntKind.i64 (i7 + 1))))])) (Q (Out.ret [(4, IV.d (D.bool false))]))) False) False) (Q (Out.exit 0 [(0, IV.d (D.sl 1 z1 x2 e3)), (1, IV.d (D.sl 1 z4 x5 e6)), (5, IV.d (D.int IntKind.i64 i7))]))) := by kernel_rfl
theorem q42_l0a_0 {C J} (z1 : Bool) (x2 : List D) (e3 : List D) (z4 : Bool) (x5 : List D) (e6 : List D) (i7 : Int) (v0 : Bool) (v1 : List D) (v2 : List D) (v3 : Bool) (v4 : List D) (v5 : List D) (v6 : Bool) (v7 : IV) (v8 : IV) (h0 : i7 < (↑(List.length x2) : Int)) (h1 : 0 ≤ i7) (h2 : x2[Int.toNat i7]? = some (D.sl 1 v0 v1 v2)) (h3 : x5[Int.toNat i7]? = some (D.sl 1 v3 v4 v5)) (h4 : C 52 [IV.d (D.sl 1 v0 v1 v2), IV.d (D.sl 1 v3 v4 v5)] = some (IV.d (D.bool v6), [v7, v8])) (h5 : v6 = true) : evP F C J d42 [] [1,1,0,1,0,0] [(0, .d (.sl 1 z1 x2 e3)), (1, .d (.sl 1 z4 x5 e6)), (5, .d (.int .i64 i7))] = some (Out.norm [(0, IV.d (D.sl 1 z1 x2 e3)), (1, IV.d (D.sl 1 z4 x5 e6)), (5, IV.d (D.int IntKind.i64 (IntKind.wrap IntKind.i64 (i7 + 1))))]) := wpQ_way (q42_l0a C J z1 x2 e3 z4 x5 e6 i7 _) (condW_t (decide_eq_true h0) (condW_t (decide_eq_true h1) (Exists.intro v0 (Exists.intro v1 (Exists.intro v2 (And.intro h2 (condW_t (decide_eq_true h1) (Exists.intro v3 (Exists.intro v4 (Exists.intro v5 (And.intro h3 (Exists.intro v6 (Exists.intro v7 (Exists.intro v8 (And.intro h4 (condW_t h5 (rfl)))))))))))))))))
theorem q42_l0a_1 {C J} (z1 : Bool) (x2 : List D) (e3 : List D) (z4 : Bool) (x5 : List D) (e6 : List D) (i7 : Int) (v0 : Bool) (v1 : List D) (v2 : List D) (v3 : Bool) (v4 : List D) (v5 : List D) (v6 : Bool) (v7 : IV) (v8 : IV) (h0 : i7 < (↑(List.length x2) : Int)) (h1 : 0 ≤ i7) (h2 : x2[Int.toNat i7]? = some (D.sl 1 v0 v1 v2)) (h3 : x5[Int.toNat i7]? = some (D.sl 1 v3 v4 v5)) (h4 : C 52 [IV.d (D.sl 1 v0 v1 v2), IV.d (D.sl 1 v3 v4 v5)] = some (IV.d (D.bool v6), [v7, v8])) (h5 : v6 = false) : evP F C J d42 [] [1,1,0,1,0,0] [(0, .d (.sl 1 z1 x2 e3)), (1, .d (.sl 1 z4 x5 e6)), (5, .d (.int .i64 i7))] = some (Out.ret [(4, IV.d (D.bool false))]) := wpQ_way (q42_l0a C J z1 x2 e3 z4 x5 e6 i7 _) (condW_t (decide_eq_true h0) (condW_t (decide_eq_true h1) (Exists.intro v0 (Exists.intro v1 (Exists.intro v2 (And.intro h2 (condW_t (decide_eq_true h1) (Exists.intro v3 (Exists.intro v4 (Exists.intro v5 (And.intro h3 (Exists.intro v6 (Exists.intro v7 (Exists.intro v8 (And.intro h4 (condW_f h5 (rfl)))))))))))))))))
theorem q42_l0a_2 {C J} (z1 : Bool) (x2 : List D) (e3 : List D) (z4 : Bool) (x5 : List D) (e6 : List D) (i7 : Int) (h0 : ¬i7 < (↑(List.length x2) : Int)) : evP F C J d42 [] [1,1,0,1,0,0] [(0, .d (.sl 1 z1 x2 e3)), (1, .d (.sl 1 z4 x5 e6)), (5, .d (.int .i64 i7))] = some (Out.exit 0 [(0, IV.d (D.sl 1 z1 x2 e3)), (1, IV.d (D.sl 1 z4 x5 e6)), (5, IV.d (D.int IntKind.i64 i7))]) := wpQ_way (q42_l0a C J z1 x2 e3 z4 x5 e6 i7 _) (condW_f (decide_eq_false h0) (rfl))
theorem q26 (C J) (z1 : Bool) (x2 : List D) (e3 : List D) (z4 : Bool) (x5 : List D) (e6 : List D) (z7 : Bool) (x8 : List D) (e9 : List D) (z10 : Bool) (x11 : List D) (e12 : List D) (z13 : Bool) (x14 : List D) (e15 : List D) (z16 : Bool) (x17 : List D) (e18 : List D) (Q) : fnW F C R (L26) J d26 [.d (.agg [.sl 2 z1 x2 e3, .sl 1 z4 x5 e6, .sl 2 z7 x8 e9]), .d (.agg [.sl 2 z10 x11 e12, .sl 1 z13 x14 e15, .sl 2 z16 x17 e18])] Q = (∃ w0 w1 w2, C 41 [IV.d (D.sl 2 z1 x2 e3), IV.d (D.sl 2 z10 x11 e12)] = some (IV.d (D.bool w0), [w1, w2]) ∧ condW w0 (∃ w3 w4 w5, C 42 [IV.d (D.sl 1 z4 x5 e6), IV.d (D.sl 1 z13 x14 e15)] = some (IV.d (D.bool w3), [w4, w5]) ∧ condW w3 (∃ w6 w7 w8, C 41 [IV.d (D.sl 2 z7 x8 e9), IV.d (D.sl 2 z16 x17 e18)] = some (IV.d (D.bool w6), [w7, w8]) ∧ condW w6 (Q (some (IV.d (D.bool true), [IV.d (D.agg [D.sl 2 z1 x2 e3, D.sl 1 z4 x5 e6, D.sl 2 z7 x8 e9]), IV.d (D.agg [D.sl 2 z10 x11 e12, D.sl 1 z13 x14 e15, D.sl 2 z16 x17 e18])]))) (Q (some (IV.d (D.bool false), [IV.d (D.agg [D.sl 2 z1 x2 e3, D.sl 1 z4 x5 e6, D.sl 2 z7 x8 e9]), IV.d (D.agg [D.sl 2 z10 x11 e12, D.sl 1 z13 x14 e15, D.sl 2 z16 x17 e18])])))) (Q (some (IV.d (D.bool false), [IV.d (D.agg [D.sl 2 z1 x2 e3, D.sl 1 z4 x5 e6, D.sl 2 z7 x8 e9]), IV.d (D.agg [D.sl 2 z10 x11 e12, D.sl 1 z13 x14 e15, D.sl 2 z16 x17 e18])])))) (Q (some (IV.d (D.bool false), [IV.d (D.agg [D.sl 2 z1 x2 e3, D.sl 1 z4 x5 e6, D.sl 2 z7 x8 e9]), IV.d (D.agg [D.sl 2 z10 x11 e12, D.sl 1 z13 x14 e15, D.sl 2 z16 x17 e18])])))) := by kernel_rfl
theorem q26_0 {C J} (z1 : Bool) (x2 : List D) (e3 : List D) (z4 : Bool) (x5 : List D) (e6 : List D) (z7 : Bool) (x8 : List D) (e9 : List D) (z10 : Bool) (x11 : List D) (e12 : List D) (z13 : Bool) (x14 : List D) (e15 : List D) (z16 : Bool) (x17 : List D) (e18 : List D) (v0 : Bool) (v1 : IV) (v2 : IV) (v3 : Bool) (v4 : IV) (v5 : IV) (v6 : Bool) (v7 : IV) (v8 : IV) (h0 : C 41 [IV.d (D.sl 2 z1 x2 e3), IV.d (D.sl 2 z10 x11 e12)] = some (IV.d (D.bool v0), [v1, v2])) (h1 : v0 = true) (h2 : C 42 [IV.d (D.sl 1 z4 x5 e6), IV.d (D.sl 1 z13 x14 e15)] = some (IV.d (D.bool v3), [v4, v5])) (h3 : v3 = true) (h4 : C 41 [IV.d (D.sl 2 z7 x8 e9), IV.d (D.sl 2 z16 x17 e18)] = some (IV.d (D.bool v6), [v7, v8])) (h5 : v6 = true) : evFnJ F C J d26 [.d (.agg [.sl 2 z1 x2 e3, .sl 1 z4 x5 e6, .sl 2 z7 x8 e9]), .d (.agg [.sl 2 z10 x11 e12, .sl 1 z13 x14 e15, .sl 2 z16 x17 e18])] = some (IV.d (D.bool true), [IV.d (D.agg [D.sl 2 z1 x2 e3, D.sl 1 z4 x5 e6, D.sl 2 z7 x8 e9]), IV.d (D.agg [D.sl 2 z10 x11 e12, D.sl 1 z13 x14 e15, D.sl 2 z16 x17 e18])]) := fnW_way (q26 C J z1 x2 e3 z4 x5 e6 z7 x8 e9 z10 x11 e12 z13 x14 e15 z16 x17 e18 _) (Exists.intro v0 (Exists.intro v1 (Exists.intro v2 (And.intro h0 (condW_t h1 (Exists.intro v3 (Exists.intro v4 (Exists.intro v5 (And.intro h2 (condW_t h3 (Exists.intro v6 (Exists.intro v7 (Exists.intro v8 (And.intro h4 (condW_t h5 (rfl))))))))))))))))
theorem q26_1 {C J} (z1 : Bool) (x2 : List D) (e3 : List D) (z4 : Bool) (x5 : List D) (e6 : List D) (z7 : Bool) (x8 : List D) (e9 : List D) (z10 : Bool) (x11 : List D) (e12 : List D) (z13 : Bool) (x14 : List D) (e15 : List D) (z16 : Bool) (x17 : List D) (e18 : List D) (v0 : Bool) (v1 : IV) (v2 : IV) (v3 : Bool) (v4 : IV) (v5 : IV) (v6 : Bool) (v7 : IV) (v8 : IV) (h0 : C 41 [IV.d (D.sl 2 z1 x2 e3), IV.d (D.sl 2 z10 x11 e12)] = some (IV.d (D.bool v0), [v1, v2])) (h1 : v0 = true) (h2 : C 42 [IV.d (D.sl 1 z4 x5 e6), IV.d (D.sl 1 z13 x14 e15)] = some (IV.d (D.bool v3), [v4, v5])) (h3 : v3 = true) (h4 : C 41 [IV.d (D.sl 2 z7 x8 e9), IV.d (D.sl 2 z16 x17 e18)] = some (IV.d (D.bool v6), [v7, v8])) (h5 : v6 = false) : evFnJ F C J d26 [.d (.agg [.sl 2 z1 x2 e3, .sl 1 z4 x5 e6, .sl 2 z7 x8 e9]), .d (.agg [.sl 2 z10 x11 e12, .sl 1 z13 x14 e15, .sl 2 z16 x17 e18])] = some (IV.d (D.bool false), [IV.d (D.agg [D.sl 2 z1 x2 e3, D.sl 1 z4 x5 e6, D.sl 2 z7 x8 e9]), IV.d (D.agg [D.sl 2 z10 x11 e12, D.sl 1 z13 x14 e15, D.sl 2 z16 x17 e18])]) := fnW_way (q26 C J z1 x2 e3 z4 x5 e6 z7 x8 e9 z10 x11 e12 z13 x14 e15 z16 x17 e18 _) (Exists.intro v0 (Exists.intro v1 (Exists.intro v2 (And.intro h0 (condW_t h1 (Exists.intro v3 (Exists.intro v4 (Exists.intro v5 (And.intro h2 (condW_t h3 (Exists.intro v6 (Exists.intro v7 (Exists.intro v8 (And.intro h4 (condW_f h5 (rfl))))))))))))))))
theorem q26_2 {C J} (z1 : Bool) (x2 : List D) (e3 : List D) (z4 : Bool) (x5 : List D) (e6 : List D) (z7 : Bool) (x8 : List D) (e9 : List D) (z10 : Bool) (x11 : List D) (e12 : List D) (z13 : Bool) (x14 : List D) (e15 : List D) (z16 : Bool) (x17 : List D) (e18 : List D) (v0 : Bool) (v1 : IV) (v2 : IV) (v3 : Bool) (v4 : IV) (v5 : IV) (h0 : C 41 [IV.d (D.sl 2 z1 x2 e3), IV.d (D.sl 2 z10 x11 e12)] = some (IV.d (D.bool v0), [v1, v2])) (h1 : v0 = true) (h2 : C 42 [IV.d (D.sl 1 z4 x5 e6), IV.d (D.sl 1 z13 x14 e15)] = some (IV.d (D.bool v3), [v4, v5])) (h3 : v3 = false) : evFnJ F C J d26 [.d (.agg [.sl 2 z1 x2 e3, .sl 1 z4 x5 e6, .sl 2 z7 x8 e9]), .d (.agg [.sl 2 z10 x11 e12, .sl 1 z13 x14 e15, .sl 2 z16 x17 e18])] = some (IV.d (D.bool false), [IV.d (D.agg [D.sl 2 z1 x2 e3, D.sl 1 z4 x5 e6, D.sl 2 z7 x8 e9]), IV.d (D.agg [D.sl 2 z10 x11 e12, D.sl 1 z13 x14 e15, D.sl 2 z16 x17 e18])]) := fnW_way (q26 C J z1 x2 e3 z4 x5 e6 z7 x8 e9 z10 x11 e12 z13 x14 e15 z16 x17 e18 _) (Exists.intro v0 (Exists.intro v1 (Exists.intro v2 (And.intro h0 (condW_t h1 (Exists.intro v3 (Exists.intro v4 (Exists.intro v5 (And.intro h2 (condW_f h3 (rfl)))))))))))
theorem q26_3 {C J} (z1 : Bool) (x2 : List D) (e3 : List D) (z4 : Bool) (x5 : List D) (e6 : List D) (z7 : Bool) (x8 : List D) (e9 : List D) (z10 : Bool) (x11 : List D) (e12 : List D) (z13 : Bool) (x14 : List D) (e15 : List D) (z16 : Bool) (x17 : List D) (e18 : List D) (v0 : Bool) (v1 : IV) (v2 : IV) (h0 : C 41 [IV.d (D.sl 2 z1 x2 e3), IV.d (D.sl 2 z10 x11 e12)] = some (IV.d (D.bool v0), [v1, v2])) (h1 : v0 = false) : evFnJ F C J d26 [.d (.agg [.sl 2 z1 x2 e3, .sl 1 z4 x5 e6, .sl 2 z7 x8 e9]), .d (.agg [.sl 2 z10 x11 e12, .sl 1 z13 x14 e15, .sl 2 z16 x17 e18])] = some (IV.d (D.bool false), [IV.d (D.agg [D.sl 2 z1 x2 e3, D.sl 1 z4 x5 e6, D.sl 2 z7 x8 e9]), IV.d (D.agg [D.sl 2 z10 x11 e12, D.sl 1 z13 x14 e15, D.sl 2 z16 x17 e18])]) := fnW_way (q26 C J z1 x2 e3 z4 x5 e6 z7 x8 e9 z10 x11 e12 z13 x14 e15 z16 x17 e18 _) (Exists.intro v0 (Exists.intro v1 (Exists.intro v2 (And.intro h0 (condW_f h1 (rfl))))))
theorem q27 (C J) (i1 : Int) (i2 : Int) (Q) : fnW F C R (L27) J d27 [.d (.int .i64 i1), .d (.int .i64 i2)] Q = (Q (some (IV.d (D.agg [D.int IntKind.i64 (IntKind.wrap IntKind.i64 (IntKind.wrap IntKind.i64 (Int.tmod (IntKind.wrap IntKind.u64 i1) 601) - 300)), D.int IntKind.i64 (IntKind.wrap IntKind.i64 (IntKind.wrap IntKind.i64 (Int.tmod (IntKind.wrap IntKind.u64 i2) 601) - 300))]), [IV.d (D.int IntKind.i64 i1), IV.d (D.int IntKind.i64 i2)]))) := by kernel_rfl
theorem q27_0 {C J} (i1 : Int) (i2 : Int) : evFnJ F C J d27 [.d (.int .i64 i1), .d (.int .i64 i2)] = some (IV.d (D.agg [D.int IntKind.i64 (IntKind.wrap IntKind.i64 (IntKind.wrap IntKind.i64 (Int.tmod (IntKind.wrap IntKind.u64 i1) 601) - 300)), D.int IntKind.i64 (IntKind.wrap IntKind.i64 (IntKind.wrap IntKind.i64 (Int.tmod (IntKind.wrap IntKind.u64 i2) 601) - 300))]), [IV.d (D.int IntKind.i64 i1), IV.d (D.int IntKind.i64 i2)]) := fnW_way (q27 C J i1 i2 _) (rfl)
theorem q33 (C J)  (Q) : fnW F C R (L33) J d33 [] Q = (Q (some (IV.own false 77 4 [D.agg [D.str { data := #[61] }, D.int IntKind.i64 0, D.int IntKind.i64 2, D.int IntKind.i64 1], D.agg [D.str { data := #[97] }, D.int IntKind.i64 1, D.int IntKind.i64 0, D.int IntKind.i64 1], D.agg [D.str { data := #[98] }, D.int IntKind.i64 1, D.int IntKind.i64 0, D.int IntKind.i64 2], D.agg [D.str { data := #[102] }, D.int IntKind.i64 1, D.int IntKind.i64 1, D.int IntKind.i64 1], D.agg [D.str { data := #[103] }, D.int IntKind.i64 1, D.int IntKind.i64 2, D.int IntKind.i64 3], D.agg [D.str { data := #[112] }, D.int IntKind.i64 0, D.int IntKind.i64 1, D.int IntKind.i64 1], D.agg [D.str { data := #[114] }, D.int IntKind.i64 0, D.int IntKind.i64 2, D.int IntKind.i64 2]], []))) := by kernel_rfl
theorem q33_0 {C J}  : evFnJ F C J d33 [] = some (IV.own false 77 4 [D.agg [D.str { data := #[61] }, D.int IntKind.i64 0, D.int IntKind.i64 2, D.int IntKind.i64 1], D.agg [D.str { data := #[97] }, D.int IntKind.i64 1, D.int IntKind.i64 0, D.int IntKind.i64 1], D.agg [D.str { data := #[98] }, D.int IntKind.i64 1, D.int IntKind.i64 0, D.int IntKind.i64 2], D.agg [D.str { data := #[102] }, D.int IntKind.i64 1, D.int IntKind.i64 1, D.int IntKind.i64 1], D.agg [D.str { data := #[103] }, D.int IntKind.i64 1, D.int IntKind.i64 2, D.int IntKind.i64 3], D.agg [D.str { data := #[112] }, D.int IntKind.i64 0, D.int IntKind.i64 1, D.int IntKind.i64 1], D.agg [D.str { data := #[114] }, D.int IntKind.i64 0, D.int IntKind.i64 2, D.int IntKind.i64 2]], []) := fnW_way (q33 C J _) (rfl)
end Go.Proofs.YthemimhlhjfdaaaDoor.Ab

/- Signatures, rows of terms, atoms: what may be, in plain lists. No program in sight; no condition. -/
set_option linter.unusedVariables false
set_option linter.unusedSimpArgs false
namespace Go.Qu
open Go Go.Ab

abbrev iI (n : Int) : IV := .d (.int .i64 n)
abbrev iB (b : Bool) : IV := .d (.bool b)
abbrev iS (z : Bool) (l : List Int) (e : List D) : IV := .d (.sl 1 z (ints l) e)

structure Sym where
  name : ByteArray
  kind : Int
  ar : Int
  wt : Int
def Sym.d (s : Sym) : D := .agg [.str s.name, .int .i64 s.kind, .int .i64 s.ar, .int .i64 s.wt]
def syms (l : List Sym) : List D := l.map Sym.d
abbrev iG (z : Bool) (l : List Sym) (e : List D) : IV := .d (.sl 4 z (syms l) e)
theorem syms_len (l : List Sym) : (syms l).length = l.length := by simp [syms]
theorem syms_at {l : List Sym} {i : Nat} {s : Sym} (h : l[i]? = some s) : (syms l)[i]? = some (.agg [.str s.name, .int .i64 s.kind, .int .i64 s.ar, .int .i64 s.wt]) := by
  simp [syms, h, Sym.d]
theorem syms_int {l : List Sym} {i : Nat} {s : Sym} (h : l[i]? = some s) : (syms l)[Int.toNat (i : Int)]? = some (.agg [.str s.name, .int .i64 s.kind, .int .i64 s.ar, .int .i64 s.wt]) := by
  rw [Int.toNat_natCast]; exact syms_at h
theorem bytes_len (b : ByteArray) : b.toList.length = b.size := by
  have h : ∀ (k i : Nat) (acc : List UInt8), b.size - i = k → (ByteArray.toList.loop b i acc).length = acc.length + k := by
    intro k
    induction k with
    | zero => intro i acc hk; unfold ByteArray.toList.loop; rw [if_neg (by omega)]; simp
    | succ k ih => intro i acc hk; unfold ByteArray.toList.loop; rw [if_pos (by omega), ih (i + 1) _ (by omega)]; simp; omega
  have := h b.size 0 [] rfl
  unfold ByteArray.toList
  rw [this]; simp
theorem wr1 {i n : Nat} (h : i < n) (hn : n ≤ 9223372036854775807) : IntKind.wrap .i64 ((i : Int) + 1) = ((i + 1 : Nat) : Int) := by
  rw [wr _ (by omega) (by omega)]; omega
theorem at_lt {α : Type} {l : List α} {i : Nat} (h : i < l.length) : ∃ s, l[i]? = some s := ⟨l[i], by simp [h]⟩
theorem lt_at {α : Type} {l : List α} {i : Nat} {s : α} (h : l[i]? = some s) : i < l.length := (List.getElem?_eq_some_iff.1 h).1

def smallB (c : Int) : Bool := decide (97 ≤ c) && decide (c ≤ 122)
def charB (c : Int) : Bool := smallB c || (decide (48 ≤ c) && decide (c ≤ 57))
def nameB (b : ByteArray) : Bool := decide (1 ≤ b.size) && decide (b.size ≤ 8) && smallB (byteAt b 0) && (List.range b.size).all fun i => charB (byteAt b i)
def numsB (s : Sym) : Bool := decide (0 ≤ s.kind) && decide (s.kind ≤ 2) && decide (0 ≤ s.ar) && decide (s.ar ≤ 3) && decide (1 ≤ s.wt) && decide (s.wt ≤ 20)
def symB (s : Sym) : Bool := nameB s.name && numsB s
def isN (n : ByteArray) (s : Sym) : Bool := s.name.toList == n.toList
def findN (l : List Sym) (n : ByteArray) : Int := match l.findIdx? (isN n) with | some i => i | none => -1
def eqSym (s : Sym) : Bool := (s.name.toList == [61]) && (s.kind == 0 && (s.ar == 2 && (s.wt == 1 && true)))
def sigAt (l : List Sym) (i : Nat) : Bool := match l[i]? with | some s => symB s && (findN l s.name == (i : Int)) | none => true
def sigB (l : List Sym) : Bool := decide (1 ≤ l.length) && decide (l.length ≤ 20) && (match l[0]? with | some s => eqSym s | none => false) && (List.range' 1 (l.length - 1)).all (sigAt l)
/-- What may be a signature. -/
structure SigOk (l : List Sym) : Prop where
  lo : 1 ≤ l.length
  hi : l.length ≤ 20
  nums : ∀ (i : Nat) s, l[i]? = some s → 0 ≤ s.kind ∧ s.kind ≤ 2 ∧ 0 ≤ s.ar ∧ s.ar ≤ 3 ∧ 1 ≤ s.wt ∧ s.wt ≤ 20
theorem sigOk {l : List Sym} (h : sigB l = true) : SigOk l := by
  unfold sigB at h
  simp only [Bool.and_eq_true, decide_eq_true_eq] at h
  obtain ⟨⟨⟨h1, h2⟩, h3⟩, h4⟩ := h
  refine ⟨h1, h2, fun i s hs => ?_⟩
  cases i with
  | zero =>
    rw [hs] at h3
    simp only [eqSym, Bool.and_eq_true, beq_iff_eq] at h3
    omega
  | succ i =>
    have hl := lt_at hs
    have h5 := List.all_eq_true.1 h4 (i + 1) (by rw [List.mem_range'_1]; omega)
    unfold sigAt at h5
    rw [hs] at h5
    simp only [symB, numsB, Bool.and_eq_true, decide_eq_true_eq] at h5
    omega
theorem findN_some {l : List Sym} {n : ByteArray} {j : Nat} {s : Sym} (hs : l[j]? = some s) (hq : isN n s = true) (hk : ∀ k, k < j → ∀ t, l[k]? = some t → isN n t = false) : findN l n = (j : Int) := by
  unfold findN
  have : l.findIdx? (isN n) = some j := by
    rw [List.findIdx?_eq_some_iff_getElem]
    have hl := lt_at hs
    refine ⟨hl, ?_, fun k hkj => ?_⟩
    · rw [List.getElem?_eq_getElem hl] at hs; simp at hs; rw [hs]; exact hq
    · have := hk k hkj l[k] (by simp)
      simpa using this
  rw [this]
theorem findN_none {l : List Sym} {n : ByteArray} (hk : ∀ k, k < l.length → ∀ t, l[k]? = some t → isN n t = false) : findN l n = -1 := by
  unfold findN
  have : l.findIdx? (isN n) = none := by
    rw [List.findIdx?_eq_none_iff]
    intro x hx
    obtain ⟨k, hk1, hk2⟩ := List.getElem_of_mem hx
    exact hk k hk1 x (by rw [List.getElem?_eq_getElem hk1, hk2])
  rw [this]

/-! ### Terms -/
/-- How many terms stand behind a code; none: it may not begin a term. -/
def arOf (g : List Sym) (c : Int) : Option Nat :=
  if c < 0 then (if -24 ≤ c then some 0 else none) else match g[c.toNat]? with
    | none => none
    | some s => if s.kind = 0 then none else some s.ar.toNat
/-- How many codes so many terms have. -/
def lenN (g : List Sym) : List Int → Nat → Option Nat
  | _, 0 => some 0
  | [], _ + 1 => none
  | c :: r, n + 1 => match arOf g c with
    | none => none
    | some k => (lenN g r (n + k)).map (· + 1)
theorem lenN_le {g : List Sym} : ∀ {r : List Int} {n k : Nat}, lenN g r n = some k → k ≤ r.length ∧ n ≤ k
  | r, 0, k, h => by cases r <;> (simp [lenN] at h; subst h; simp)
  | [], n + 1, k, h => by simp [lenN] at h
  | c :: r, n + 1, k, h => by
    unfold lenN at h
    split at h
    · cases h
    · rename_i a ha
      obtain ⟨m, hm, rfl⟩ := Option.map_eq_some_iff.1 h
      have := lenN_le hm
      simp; omega
theorem gi_drop {r : List Int} {i : Nat} (h : i < r.length) : r.drop i = gi r i :: r.drop (i + 1) := by
  rw [List.drop_eq_getElem_cons h]; simp [gi, h]
theorem drop_ge {r : List Int} {i : Nat} (h : ¬ i < r.length) : r.drop i = [] := List.drop_of_length_le (by omega)
theorem arOf_le {g : List Sym} (hg : SigOk g) {c : Int} {k : Nat} (h : arOf g c = some k) : k ≤ 3 := by
  unfold arOf at h
  split at h
  · split at h <;> simp at h; omega
  · split at h
    · cases h
    · rename_i s hs
      have := hg.nums _ _ hs
      split at h <;> simp at h; omega
def arV (g : List Sym) (c : Int) : Int := ((arOf g c).getD 0 : Nat)
theorem lenN_end {g : List Sym} {r : List Int} {i n : Nat} (h : ¬ i < r.length) (hn : 1 ≤ n) : lenN g (r.drop i) n = none := by
  rw [drop_ge h]
  obtain ⟨m, rfl⟩ : ∃ m, n = m + 1 := ⟨n - 1, by omega⟩
  rfl
theorem lenN_no {g : List Sym} {r : List Int} {i n : Nat} (h : i < r.length) (hn : 1 ≤ n) (ha : arOf g (gi r i) = none) : lenN g (r.drop i) n = none := by
  rw [gi_drop h]
  obtain ⟨m, rfl⟩ : ∃ m, n = m + 1 := ⟨n - 1, by omega⟩
  simp [lenN, ha]
theorem lenN_go {g : List Sym} {r : List Int} {i n k : Nat} (h : i < r.length) (hn : 1 ≤ n) (ha : arOf g (gi r i) = some k) : lenN g (r.drop i) n = (lenN g (r.drop (i + 1)) (n + k - 1)).map (· + 1) := by
  rw [gi_drop h]
  obtain ⟨m, rfl⟩ : ∃ m, n = m + 1 := ⟨n - 1, by omega⟩
  simp only [lenN, ha]
  rw [show m + 1 + k - 1 = m + k by omega]
/-- The place behind so many terms from a place on. -/
def skV (g : List Sym) (r : List Int) (i n : Nat) : Int := match lenN g (r.drop i) n with | some k => ((i + k : Nat) : Int) | none => 0
def skB (g : List Sym) (r : List Int) (i n : Nat) : Bool := (lenN g (r.drop i) n).isSome
def skR (g : List Sym) (r : List Int) (i n : Nat) : Int := match lenN g (r.drop i) n with | some k => ((i + k : Nat) : Int) | none => -1
/-- The terms of a row; none: it is no row of terms. -/
def parts (g : List Sym) (r : List Int) : Option (List (List Int)) :=
  if hr : r = [] then some [] else match h : lenN g r 1 with
    | none => none
    | some k => (parts g (r.drop k)).map (r.take k :: ·)
termination_by r.length
decreasing_by
  have := lenN_le h
  have : r.length ≠ 0 := fun e => hr (List.length_eq_zero_iff.1 e)
  simp; omega
theorem parts_nil (g : List Sym) : parts g [] = some [] := by rw [parts]; simp
theorem parts_none {g : List Sym} {r : List Int} (hr : r ≠ []) (h : lenN g r 1 = none) : parts g r = none := by
  rw [parts]; rw [dif_neg hr]; split
  · rfl
  · rename_i k hk; rw [h] at hk; cases hk
theorem parts_some {g : List Sym} {r : List Int} {k : Nat} (hr : r ≠ []) (h : lenN g r 1 = some k) : parts g r = (parts g (r.drop k)).map (r.take k :: ·) := by
  rw [parts]; rw [dif_neg hr]; split
  · rename_i hk; rw [h] at hk; cases hk
  · rename_i k' hk; rw [h] at hk; cases hk; rfl
/-- Where the terms begin, from a place on. -/
def begs (at_ : Nat) : List (List Int) → List Int
  | [] => []
  | t :: ts => (at_ : Int) :: begs (at_ + t.length) ts
/-- The terms of a row that may be (P2.1). -/
def rowP (g : List Sym) (r : List Int) : Option (List (List Int)) := if r.length ≤ 48 then parts g r else none
def atomB (g : List Sym) (a : List Int) : Bool :=
  match a with
  | [] => false
  | p :: r => if p < 0 then false else match g[p.toNat]? with
    | none => false
    | some s => s.kind == 0 && sigB g && (match rowP g r with | some ts => (ts.length : Int) == s.ar | none => false)
def rowB (g : List Sym) (r : List Int) : Bool := sigB g && (rowP g r).isSome
def begsM (g : List Sym) (r : List Int) : List Int := if sigB g = true then (match rowP g r with | some ts => begs 0 ts | none => []) else []
theorem begs_len : ∀ (ts : List (List Int)) (i : Nat), (begs i ts).length = ts.length
  | [], i => rfl
  | t :: ts, i => by simp [begs, begs_len ts]
theorem parts_lens {g : List Sym} : ∀ (n : Nat) (r : List Int) {ts : List (List Int)}, r.length ≤ n → parts g r = some ts → ts.length ≤ r.length ∧ ts.flatten = r
  | n, [], ts, hn, h => by rw [parts_nil] at h; cases h; simp
  | 0, c :: r, ts, hn, h => by simp at hn
  | n + 1, c :: r, ts, hn, h => by
    cases hl : lenN g (c :: r) 1 with
    | none => rw [parts_none (by simp) hl] at h; cases h
    | some k =>
      rw [parts_some (by simp) hl] at h
      obtain ⟨us, h1, rfl⟩ := Option.map_eq_some_iff.1 h
      have h2 := lenN_le hl
      have h3 := parts_lens n ((c :: r).drop k) (by simp at hn ⊢; omega) h1
      refine ⟨?_, ?_⟩
      · have := h3.1; simp at this h2 ⊢; omega
      · rw [List.flatten_cons, h3.2, List.take_append_drop]
theorem ints_nil : ints [] = [] := rfl
theorem ints_cons (x : Int) (l : List Int) : ints (x :: l) = .int .i64 x :: ints l := rfl
/-- Numbers that are not too many. -/
def Len (l : List Int) : Prop := l.length * 8 ≤ 140737488351232
theorem Len.lt {l : List Int} (h : Len l) : l.length < 20000000000000 := by unfold Len at h; omega

/-! ### Rows of rows -/
structure Row where
  z : Bool
  l : List Int
  e : List D
def Row.d (r : Row) : D := .sl 1 r.z (ints r.l) r.e
def rws (rs : List Row) : List D := rs.map Row.d
abbrev iR (z : Bool) (rs : List Row) (e : List D) : IV := .d (.sl 1 z (rws rs) e)
theorem rws_len (l : List Row) : (rws l).length = l.length := by simp [rws]
theorem rws_at {l : List Row} {i : Nat} {s : Row} (h : l[i]? = some s) : (rws l)[i]? = some (.sl 1 s.z (ints s.l) s.e) := by
  simp [rws, h, Row.d]
theorem rws_nil : rws [] = [] := rfl
theorem rws_cons (x : Row) (l : List Row) : rws (x :: l) = .sl 1 x.z (ints x.l) x.e :: rws l := rfl
theorem rws_append (l m : List Row) : rws (l ++ m) = rws l ++ rws m := by simp [rws]
theorem gi_at {l : List Int} {i : Nat} (h : i < l.length) : l[i]? = some (gi l i) := by simp [gi, h]
theorem ints_ext {l m : List Int} (h : l.length = m.length) (h2 : ∀ i, i < l.length → gi l i = gi m i) : l = m := by
  refine List.ext_getElem h (fun i h3 h4 => ?_)
  have := h2 i h3
  simpa [gi, h3, h4] using this
def minL : List Int → Int → Int
  | [], m => m
  | x :: l, m => minL l (if x < m then x else m)
theorem minL_ge : ∀ (l : List Int) (m k : Int), k ≤ minL l m ↔ k ≤ m ∧ ∀ x ∈ l, k ≤ x
  | [], m, k => by simp [minL]
  | x :: l, m, k => by
    rw [minL, minL_ge l]
    constructor
    · rintro ⟨h1, h2⟩
      split at h1 <;> exact ⟨by omega, fun y hy => by rcases List.mem_cons.1 hy with rfl | hy; omega; exact h2 y hy⟩
    · rintro ⟨h1, h2⟩
      refine ⟨?_, fun y hy => h2 y (List.mem_cons_of_mem _ hy)⟩
      have := h2 x (by simp)
      split <;> omega
/-- Which variables stand among codes. -/
def varsFrom (l : List Int) : Nat → Nat → List Int
  | 0, _ => []
  | k + 1, v => if l.contains (-1 - (v : Int)) then (v : Int) :: varsFrom l k (v + 1) else varsFrom l k (v + 1)
def varsM (l : List Int) : List Int := varsFrom l 24 0
end Go.Qu

/- Signatures, rows of terms, atoms: what the program's and the reference's functions hand back. For every input; no condition. -/
set_option linter.unusedVariables false
set_option linter.unusedSimpArgs false
set_option maxRecDepth 100000
namespace Go.Proofs.YthemimhlhjfdaaaDoor.Ab
open Go Go.Ab Go.Qu Go.Proofs
attribute [local simp] and_assoc
noncomputable abbrev C : Caller := Go.Ab.W F
theorem wfn {f : FuncId} {d : FnD} {args : List IV} {r : IV × List IV} {lk : List Nat} (h : codeOf code f = some d) (hl : lkFrom 0 args = lk) (h2 : evFnJ F (Go.Ab.W F) (JW F d lk) d args = some r) : C f args = some r := W_fn rfl h (by rw [hl]; exact h2)
/-! ### Signatures -/
@[simp] theorem w_small (c : Int) : C 65 [.d (.int .u8 c)] = some (iB (smallB c), [.d (.int .u8 c)]) := by
  refine wfn (lk := []) rfl rfl (fnW_way (q65 _ _ c _) ?_)
  by_cases h1 : 97 ≤ c <;> by_cases h2 : c ≤ 122 <;> simp [h1, h2, smallB]
@[simp] theorem w_called (s : ByteArray) : C 61 [.d (.str s)] = some (iB (nameB s), [.d (.str s)]) := by
  refine wfn (lk := []) rfl rfl (fnW_way (q61 _ _ s _) ?_)
  have hl := fun (h8 : s.size ≤ 8) => blk_all (F := F) (d := d61) (lk := []) (p := [1,1,0,1,0,0]) (p0 := [1,1,0,1]) (by kernel_rfl) (n := s.size) (id := 0) (st := fun i => [(0, .d (.str s)), (18, iI s.size), (19, iI i)]) (q := fun i => charB (byteAt s i)) (rt := [(2, iB false)]) (e := [(0, .d (.str s)), (18, iI s.size), (19, iI s.size)])
    (fun i hi hq => by
      refine wpQ_way (q61_l0a _ _ s _ i _) ?_
      simp only [charB, Bool.or_eq_true, Bool.and_eq_true, decide_eq_true_eq] at hq
      simp [wr1 hi (by omega), hi]
      intro h; simpa [h] using hq)
    (fun i hi hq => by
      refine wpQ_way (q61_l0a _ _ s _ i _) ?_
      simp [charB] at hq
      simp [-getElem?_pos, and_assoc, wr1 hi (by omega), hi, hq.1]
      omega)
    (wpQ_way (q61_l0a _ _ s _ s.size _) (by simp)) 0 (Nat.zero_le _)
  by_cases h0 : s.size = 0
  · have : s.toList = [] := List.length_eq_zero_iff.1 (by rw [bytes_len, h0])
    simp [this, nameB, h0]
  have h1 : ¬ s.toList = [] := fun e => h0 (by rw [← bytes_len, e]; rfl)
  by_cases h8 : s.size ≤ 8
  rotate_left
  · simp [h1, nameB, h8]; omega
  by_cases hs : smallB (byteAt s 0) = true
  rotate_left
  · have hs' : smallB (byteAt s 0) = false := by simpa using hs
    simp [h1, nameB, hs']; omega
  rcases hl h8 with ⟨h2, h3⟩ | ⟨⟨j, h2, h4, h5⟩, h3⟩
  · have h6 : nameB s = true := by
      simp only [nameB, Bool.and_eq_true, decide_eq_true_eq, hs, and_true, List.all_eq_true, List.mem_range]
      exact ⟨⟨by omega, h8⟩, fun j hj => h2 j (Nat.zero_le _) hj⟩
    simp at h3
    simp [h1, hs, h3, h6]
    omega
  · have h6 : nameB s = false := by
      simp only [nameB, Bool.and_eq_false_iff]
      right
      rw [List.all_eq_false]
      exact ⟨j, List.mem_range.2 h4, by simp [h5]⟩
    simp at h3
    simp [h1, hs, h3, h6]
    omega
@[simp] theorem w_symmay (s : Sym) : C 53 [.d (.agg [.str s.name, .int .i64 s.kind, .int .i64 s.ar, .int .i64 s.wt])] = some (iB (symB s), [.d (.agg [.str s.name, .int .i64 s.kind, .int .i64 s.ar, .int .i64 s.wt])]) := by
  refine wfn (lk := []) rfl rfl (fnW_way (q53 _ _ s.name s.kind s.ar s.wt _) ?_)
  cases hn : nameB s.name <;> simp [hn, symB, numsB]
  by_cases h1 : 0 ≤ s.kind <;> by_cases h2 : s.kind ≤ 2 <;> by_cases h3 : 0 ≤ s.ar <;> by_cases h4 : s.ar ≤ 3 <;> by_cases h5 : 1 ≤ s.wt <;> by_cases h6 : s.wt ≤ 20 <;> simp [h1, h2, h3, h4, h5, h6] <;> omega
theorem w_find {g : List Sym} (hg : g.length ≤ 20) (z : Bool) (e : List D) (n : ByteArray) : C 54 [iG z g e, .d (.str n)] = some (iI (findN g n), [iG z g e, .d (.str n)]) := by
  refine wfn (lk := []) rfl rfl (fnW_way (q54 _ _ z (syms g) e n _) ?_)
  have hl := blk_find (F := F) (d := d54) (lk := []) (p := [1,0,1,0,0]) (p0 := [1,0,1]) (by kernel_rfl) (n := g.length) (id := 0) (st := fun i => [(0, iG z g e), (1, .d (.str n)), (7, iI g.length), (8, iI i)]) (q := fun i => match g[i]? with | some s => isN n s | none => false) (rt := fun i => [(4, iI i)]) (e := [(0, iG z g e), (1, .d (.str n)), (7, iI g.length), (8, iI g.length)])
    (fun i hi hq => by
      refine wpQ_way (q54_l0a _ _ z (syms g) e n _ i _) ?_
      obtain ⟨s, hs⟩ := at_lt hi
      simp [hs, isN] at hq
      simp [-getElem?_pos, and_assoc, wr1 hi (by omega), hi, syms_at hs, hq])
    (fun i hi hq => by
      refine wpQ_way (q54_l0a _ _ z (syms g) e n _ i _) ?_
      obtain ⟨s, hs⟩ := at_lt hi
      simp [hs, isN] at hq
      simp [-getElem?_pos, and_assoc, wr1 hi (by omega), hi, syms_at hs, hq])
    (wpQ_way (q54_l0a _ _ z (syms g) e n _ g.length _) (by simp)) 0 (Nat.zero_le _)
  rcases hl with ⟨h2, h3⟩ | ⟨j, h1, h2, h4, h5, h3⟩
  · rw [findN_none (fun k hk t ht => by have := h2 k (Nat.zero_le _) hk; rw [ht] at this; exact this)]
    simp at h3
    simp [syms_len, h3]
  · obtain ⟨s, hs⟩ := at_lt h2
    rw [findN_some hs (by rw [hs] at h4; exact h4) (fun k hk t ht => by have := h5 k (Nat.zero_le _) hk; rw [ht] at this; exact this)]
    simp at h3
    simp [syms_len, h3]
theorem w_may (z : Bool) (g : List Sym) (e : List D) : C 44 [iG z g e] = some (iB (sigB g), [iG z g e]) := by
  refine wfn (lk := []) rfl rfl (fnW_way (q44 _ _ z (syms g) e _) ?_)
  by_cases h1 : 1 ≤ g.length
  rotate_left
  · simp [syms_len, sigB, h1]; omega
  by_cases h20 : g.length ≤ 20
  rotate_left
  · simp [syms_len, sigB, h20]; omega
  obtain ⟨s0, hs0⟩ := at_lt (show 0 < g.length by omega)
  have e1 : ¬ ((g.length : Int) < 1) := by omega
  have e2 : ¬ (20 < (g.length : Int)) := by omega
  have hl := blk_all (F := F) (d := d44) (lk := []) (p := [1,1,0,1,0,0]) (p0 := [1,1,0,1]) (by kernel_rfl) (n := g.length) (id := 0) (st := fun i => [(0, iG z g e), (3, iI i)]) (q := sigAt g) (rt := [(2, iB false)]) (e := [(0, iG z g e), (3, iI g.length)])
    (fun i hi hq => by
      refine wpQ_way (q44_l0a _ _ z (syms g) e i _) ?_
      obtain ⟨s, hs⟩ := at_lt hi
      simp [sigAt, hs] at hq
      simp [-getElem?_pos, and_assoc, wr1 hi (by omega), hi, syms_len, syms_at hs, hq, w_find h20])
    (fun i hi hq => by
      refine wpQ_way (q44_l0a _ _ z (syms g) e i _) ?_
      obtain ⟨s, hs⟩ := at_lt hi
      simp [sigAt, hs] at hq
      cases hm : symB s
      · simp [-getElem?_pos, and_assoc, wr1 hi (by omega), hi, syms_len, syms_at hs, hm]
      · simp [-getElem?_pos, and_assoc, wr1 hi (by omega), hi, syms_len, syms_at hs, hm, w_find h20, hq hm])
    (wpQ_way (q44_l0a _ _ z (syms g) e g.length _) (by simp [syms_len])) 1 h1
  have e0 : "=".toUTF8.toList = [61] := by decide +kernel
  have hq : (s0.name.toList == "=".toUTF8.toList && (s0.kind == 0 && (s0.ar == 2 && (s0.wt == 1 && true)))) = eqSym s0 := by rw [e0]; rfl
  simp only [syms_len, syms_at hs0, condW_d, e1, e2, if_false, gt_iff_lt]
  simp only [Option.some.injEq, D.agg.injEq, List.cons.injEq, D.str.injEq, D.int.injEq, true_and, and_true]
  refine ⟨s0.name, s0.kind, s0.ar, s0.wt, ⟨rfl, rfl, rfl, rfl⟩, ?_⟩
  rw [hq]
  cases h0 : eqSym s0
  · simp [sigB, h1, h20, hs0, h0]
  rcases hl with ⟨h2, h3⟩ | ⟨⟨j, h2, h4, h5⟩, h3⟩
  · have h6 : sigB g = true := by
      simp only [sigB, h1, h20, hs0, h0, Bool.and_eq_true, decide_eq_true_eq, List.all_eq_true, List.mem_range'_1, true_and]
      exact fun j hj => h2 j hj.1 (by omega)
    simp at h3
    simp [h3, h6]
  · have h6 : sigB g = false := by
      simp only [sigB, Bool.and_eq_false_iff]
      right
      rw [List.all_eq_false]
      exact ⟨j, by rw [List.mem_range'_1]; omega, by simp [h5]⟩
    simp at h3
    simp [h3, h6]
/-! ### The reference's -/
@[simp] theorem w_rsmall (c : Int) : C 64 [.d (.int .u8 c)] = some (iB (smallB c), [.d (.int .u8 c)]) := by
  refine wfn (lk := []) rfl rfl (fnW_way (q64 _ _ c _) ?_)
  by_cases h1 : 97 ≤ c <;> by_cases h2 : c ≤ 122 <;> simp [h1, h2, smallB]
@[simp] theorem w_rsymmay (s : Sym) : C 57 [.d (.agg [.str s.name, .int .i64 s.kind, .int .i64 s.ar, .int .i64 s.wt])] = some (iB (symB s), [.d (.agg [.str s.name, .int .i64 s.kind, .int .i64 s.ar, .int .i64 s.wt])]) := by
  refine wfn (lk := []) rfl rfl (fnW_way (q57 _ _ s.name s.kind s.ar s.wt _) ?_)
  have hl := fun (h8 : s.name.size ≤ 8) => blk_all (F := F) (d := d57) (lk := []) (p := [1,1,0,1,0,0]) (p0 := [1,1,0,1]) (by kernel_rfl) (n := s.name.size) (id := 0) (st := fun i => [(1, .dbox 77 0 [.str s.name, .int .i64 s.kind, .int .i64 s.ar, .int .i64 s.wt]), (3, iI i)]) (q := fun i => charB (byteAt s.name i)) (rt := [(2, iB false)]) (e := [(1, .dbox 77 0 [.str s.name, .int .i64 s.kind, .int .i64 s.ar, .int .i64 s.wt]), (3, iI s.name.size)])
    (fun i hi hq => by
      refine wpQ_way (q57_l0a _ _ s.name s.kind s.ar s.wt i _) ?_
      simp only [charB, Bool.or_eq_true, Bool.and_eq_true, decide_eq_true_eq] at hq
      simp [wr1 hi (by omega), hi]
      intro h; simpa [h] using hq)
    (fun i hi hq => by
      refine wpQ_way (q57_l0a _ _ s.name s.kind s.ar s.wt i _) ?_
      simp [charB] at hq
      simp [-getElem?_pos, and_assoc, wr1 hi (by omega), hi, hq.1]
      omega)
    (wpQ_way (q57_l0a _ _ s.name s.kind s.ar s.wt s.name.size _) (by simp)) 0 (Nat.zero_le _)
  by_cases h0 : s.name.size = 0
  · simp [symB, nameB, h0]
  by_cases h8 : s.name.size ≤ 8
  rotate_left
  · simp [symB, nameB, h8]; omega
  by_cases hs : smallB (byteAt s.name 0) = true
  rotate_left
  · have hs' : smallB (byteAt s.name 0) = false := by simpa using hs
    simp [symB, nameB, hs']; omega
  have e1 : ¬ ((s.name.size : Int) < 1) := by omega
  have e2 : ¬ (8 < (s.name.size : Int)) := by omega
  have e3 : 0 < s.name.size := by omega
  rcases hl h8 with ⟨h2, h3⟩ | ⟨⟨j, h2, h4, h5⟩, h3⟩
  · have h6 : nameB s.name = true := by
      simp only [nameB, Bool.and_eq_true, decide_eq_true_eq, hs, and_true, List.all_eq_true, List.mem_range]
      exact ⟨⟨by omega, h8⟩, fun j hj => h2 j (Nat.zero_le _) hj⟩
    simp at h3
    simp [e1, e2, e3, hs, h3, h6, symB, numsB]
    by_cases h1 : 0 ≤ s.kind <;> by_cases h2 : s.kind ≤ 2 <;> by_cases h3 : 0 ≤ s.ar <;> by_cases h4 : s.ar ≤ 3 <;> by_cases h5 : 1 ≤ s.wt <;> by_cases h6 : s.wt ≤ 20 <;> simp [h1, h2, h3, h4, h5, h6] <;> omega
  · have h6 : nameB s.name = false := by
      simp only [nameB, Bool.and_eq_false_iff]
      right
      rw [List.all_eq_false]
      exact ⟨j, List.mem_range.2 h4, by simp [h5]⟩
    simp at h3
    simp [e1, e2, e3, hs, h3, h6, symB]
theorem w_code {g : List Sym} (hg : g.length ≤ 20) (z : Bool) (e : List D) (n : ByteArray) : C 58 [iG z g e, .d (.str n)] = some (iI (findN g n), [iG z g e, .d (.str n)]) := by
  refine wfn (lk := []) rfl rfl (fnW_way (q58 _ _ z (syms g) e n _) ?_)
  have hl := blk_find (F := F) (d := d58) (lk := []) (p := [1,0,1,0,0]) (p0 := [1,0,1]) (by kernel_rfl) (n := g.length) (id := 0) (st := fun i => [(0, iG z g e), (1, .d (.str n)), (5, iI i)]) (q := fun i => match g[i]? with | some s => isN n s | none => false) (rt := fun i => [(4, iI i)]) (e := [(0, iG z g e), (1, .d (.str n)), (5, iI g.length)])
    (fun i hi hq => by
      refine wpQ_way (q58_l0a _ _ z (syms g) e n i _) ?_
      obtain ⟨s, hs⟩ := at_lt hi
      simp [hs, isN] at hq
      simp [-getElem?_pos, and_assoc, wr1 hi (by omega), hi, syms_len, syms_at hs, hq])
    (fun i hi hq => by
      refine wpQ_way (q58_l0a _ _ z (syms g) e n i _) ?_
      obtain ⟨s, hs⟩ := at_lt hi
      simp [hs, isN] at hq
      simp [-getElem?_pos, and_assoc, wr1 hi (by omega), hi, syms_len, syms_at hs, hq])
    (wpQ_way (q58_l0a _ _ z (syms g) e n g.length _) (by simp [syms_len])) 0 (Nat.zero_le _)
  rcases hl with ⟨h2, h3⟩ | ⟨j, h1, h2, h4, h5, h3⟩
  · rw [findN_none (fun k hk t ht => by have := h2 k (Nat.zero_le _) hk; rw [ht] at this; exact this)]
    simp at h3
    simp [syms_len, h3]
  · obtain ⟨s, hs⟩ := at_lt h2
    rw [findN_some hs (by rw [hs] at h4; exact h4) (fun k hk t ht => by have := h5 k (Nat.zero_le _) hk; rw [ht] at this; exact this)]
    simp at h3
    simp [syms_len, h3]
theorem w_rmay (z : Bool) (g : List Sym) (e : List D) : C 48 [iG z g e] = some (iB (sigB g), [iG z g e]) := by
  refine wfn (lk := []) rfl rfl (fnW_way (q48 _ _ z (syms g) e _) ?_)
  by_cases h1 : 1 ≤ g.length
  rotate_left
  · simp [syms_len, sigB, h1]; omega
  by_cases h20 : g.length ≤ 20
  rotate_left
  · simp [syms_len, sigB, h20]; omega
  obtain ⟨s0, hs0⟩ := at_lt (show 0 < g.length by omega)
  have e1 : ¬ ((g.length : Int) < 1) := by omega
  have e2 : ¬ (20 < (g.length : Int)) := by omega
  have hl := blk_all (F := F) (d := d48) (lk := []) (p := [1,1,0,1,0,0]) (p0 := [1,1,0,1]) (by kernel_rfl) (n := g.length) (id := 0) (st := fun i => [(0, iG z g e), (3, iI i)]) (q := sigAt g) (rt := [(2, iB false)]) (e := [(0, iG z g e), (3, iI g.length)])
    (fun i hi hq => by
      refine wpQ_way (q48_l0a _ _ z (syms g) e i _) ?_
      obtain ⟨s, hs⟩ := at_lt hi
      simp [sigAt, hs] at hq
      simp [-getElem?_pos, and_assoc, wr1 hi (by omega), hi, syms_len, syms_at hs, hq, w_code h20])
    (fun i hi hq => by
      refine wpQ_way (q48_l0a _ _ z (syms g) e i _) ?_
      obtain ⟨s, hs⟩ := at_lt hi
      simp [sigAt, hs] at hq
      cases hm : symB s
      · simp [-getElem?_pos, and_assoc, wr1 hi (by omega), hi, syms_len, syms_at hs, hm]
      · simp [-getElem?_pos, and_assoc, wr1 hi (by omega), hi, syms_len, syms_at hs, hm, w_code h20, hq hm])
    (wpQ_way (q48_l0a _ _ z (syms g) e g.length _) (by simp [syms_len])) 1 h1
  have e0 : ByteArray.toList { data := #[61] } = [61] := by decide +kernel
  have hq : (s0.name.toList == ByteArray.toList { data := #[61] } && (s0.kind == 0 && (s0.ar == 2 && (s0.wt == 1 && true)))) = eqSym s0 := by rw [e0]; rfl
  simp only [syms_len, syms_at hs0, condW_d, e1, e2, if_false, gt_iff_lt]
  simp only [Option.some.injEq, D.agg.injEq, List.cons.injEq, D.str.injEq, D.int.injEq, true_and, and_true]
  refine ⟨s0.name, s0.kind, s0.ar, s0.wt, ⟨rfl, rfl, rfl, rfl⟩, ?_⟩
  rw [hq]
  cases h0 : eqSym s0
  · simp [sigB, h1, h20, hs0, h0]
  rcases hl with ⟨h2, h3⟩ | ⟨⟨j, h2, h4, h5⟩, h3⟩
  · have h6 : sigB g = true := by
      simp only [sigB, h1, h20, hs0, h0, Bool.and_eq_true, decide_eq_true_eq, List.all_eq_true, List.mem_range'_1, true_and]
      exact fun j hj => h2 j hj.1 (by omega)
    simp at h3
    simp [h3, h6]
  · have h6 : sigB g = false := by
      simp only [sigB, Bool.and_eq_false_iff]
      right
      rw [List.all_eq_false]
      exact ⟨j, by rw [List.mem_range'_1]; omega, by simp [h5]⟩
    simp at h3
    simp [h3, h6]
end Go.Proofs.YthemimhlhjfdaaaDoor.Ab

/- Rows of terms, atoms: what the program's and the reference's functions hand back. For every input; no condition. -/
set_option linter.unusedVariables false
set_option linter.unusedSimpArgs false
set_option maxRecDepth 100000
namespace Go.Proofs.YthemimhlhjfdaaaDoor.Ab
open Go Go.Ab Go.Qu Go.Proofs
attribute [local simp] and_assoc
theorem w_number (c : Int) : C 68 [iI c] = some (iI (IntKind.wrap .i64 (-1 - c)), [iI c]) :=
  wfn (lk := []) rfl rfl (fnW_way (q68 _ _ c _) (by simp))
theorem w_number23 : C 68 [iI 23] = some (iI (-24), [iI 23]) := by rw [w_number, wr _ (by omega) (by omega)]; rfl
theorem w_args {g : List Sym} (hg : SigOk g) (z : Bool) (e : List D) (c : Int) : C 67 [iG z g e, iI c] = some (.tup [iI (arV g c), iB (arOf g c).isSome], [iG z g e, iI c]) := by
  refine wfn (lk := []) rfl rfl (fnW_way (q67 _ _ z (syms g) e c _) ?_)
  by_cases h0 : c < 0
  · by_cases h1 : -24 ≤ c
    · simp [h0, h1, arV, arOf, w_number23]
    · simp [h0, h1, arV, arOf, w_number23]; omega
  by_cases h2 : c < g.length
  · obtain ⟨s, hs⟩ := at_lt (l := g) (i := c.toNat) (by omega)
    have hn := hg.nums _ _ hs
    have h3 : 0 ≤ c := by omega
    have h4 : ¬ (g.length : Int) ≤ c := by omega
    by_cases hk : s.kind = 0
    · simp [-getElem?_pos, h0, h2, h3, h4, syms_len, syms_at hs, arV, arOf, hs, hk]
    · simp [-getElem?_pos, h0, h2, h3, h4, syms_len, syms_at hs, arV, arOf, hs, hk]; omega
  · have hs : g[c.toNat]? = none := List.getElem?_eq_none (by omega)
    have h4 : (g.length : Int) ≤ c := by omega
    simp [h0, h4, syms_len, arV, arOf, hs]
theorem l_skip {g : List Sym} (hg : SigOk g) (z z' : Bool) (e e' : List D) {r : List Int} (hr : r.length < 20000000000000) : ∀ x : Nat × Nat, (1 ≤ x.2 ∧ x.2 ≤ 3 * x.1 + 1 ∧ x.1 ≤ r.length) →
    ∃ o, evG (JW F d66 []) d66 [1, 0] 0 [(0, iG z g e), (1, iS z' r e'), (2, iI x.1), (8, iI x.2)] = some o ∧ o = .ret [(6, iI (skV g r x.1 x.2)), (7, iB (skB g r x.1 x.2))] :=
  label_rule (F := F) (d := d66) (lk := []) (p := [1, 0]) (fun _ => 0) (fun (x : Nat × Nat) => [(0, iG z g e), (1, iS z' r e'), (2, iI x.1), (8, iI x.2)]) _ (fun x => r.length - x.1) (fun x o => o = .ret [(6, iI (skV g r x.1 x.2)), (7, iB (skB g r x.1 x.2))]) (fun _ _ => by decide +kernel) (fun x hx => by
    obtain ⟨i, n⟩ := x
    obtain ⟨h1, h2, h3⟩ := hx
    dsimp only at h1 h2 h3 ⊢
    by_cases hi : i < r.length
    · have hi' : ¬ (r.length : Int) ≤ i := by omega
      cases ha : arOf g (gi r i) with
      | none =>
        refine .inr ⟨_, wpR_way (q66_l1000000a _ _ z (syms g) e z' (ints r) e' i n _) ?_, rfl, rfl⟩
        simp [-getElem?_pos, ints_len, hi', Go.Ab.ints_at hi, w_args hg, ha, skV, skB, lenN_no hi h1 ha]
      | some k =>
        have hk := arOf_le hg ha
        have hw1 : IntKind.wrap .i64 ((k : Int) - 1) = (k : Int) - 1 := wr _ (by omega) (by omega)
        have hw2 : IntKind.wrap .i64 ((n : Int) + ((k : Int) - 1)) = ((n + k - 1 : Nat) : Int) := by rw [wr _ (by omega) (by omega)]; omega
        have hw3 := wr1 hi (by omega)
        by_cases hn : 0 < n + k - 1
        · refine .inl ⟨(i + 1, n + k - 1), wpR_way (q66_l1000000a _ _ z (syms g) e z' (ints r) e' i n _) ?_, ⟨by dsimp only; omega, by dsimp only; omega, by dsimp only; omega⟩, by dsimp only; omega, fun o ho => ?_⟩
          · simp [-getElem?_pos, -Int.natCast_add, ints_len, hi', Go.Ab.ints_at hi, w_args hg, ha, arV, hw1, hw2, hw3, hn]
          · rw [ho]
            simp only [skV, skB, lenN_go hi h1 ha]
            cases lenN g (r.drop (i + 1)) (n + k - 1) <;> simp; omega
        · refine .inr ⟨_, wpR_way (q66_l1000000a _ _ z (syms g) e z' (ints r) e' i n _) ?_, rfl, rfl⟩
          have hz : n + k - 1 = 0 := by omega
          have hl : lenN g (r.drop i) n = some 1 := by rw [lenN_go hi h1 ha, hz]; simp [lenN]
          simp [-getElem?_pos, -Int.natCast_add, ints_len, hi', Go.Ab.ints_at hi, w_args hg, ha, arV, hw1, hw2, hw3, hz, skV, skB, hl]
    · have hi' : (r.length : Int) ≤ i := by omega
      refine .inr ⟨_, wpR_way (q66_l1000000a _ _ z (syms g) e z' (ints r) e' i n _) ?_, rfl, rfl⟩
      simp [ints_len, hi', skV, skB, lenN_end hi h1])
theorem w_skip {g : List Sym} (hg : SigOk g) (z z' : Bool) (e e' : List D) {r : List Int} (hr : r.length < 20000000000000) (i : Nat) : C 66 [iG z g e, iS z' r e', iI i] = some (.tup [iI (skV g r i 1), iB (skB g r i 1)], [iG z g e, iS z' r e', iI i]) := by
  refine wfn (lk := []) rfl rfl (fnW_way (q66 _ _ z (syms g) e z' (ints r) e' i _) ?_)
  by_cases hi : i < r.length
  · have hi' : ¬ (r.length : Int) ≤ i := by omega
    cases ha : arOf g (gi r i) with
    | none => simp [-getElem?_pos, ints_len, hi', Go.Ab.ints_at hi, w_args hg, ha, skV, skB, lenN_no hi (Nat.le_refl 1) ha]
    | some k =>
      have hk := arOf_le hg ha
      have hw1 : IntKind.wrap .i64 ((k : Int) - 1) = (k : Int) - 1 := wr _ (by omega) (by omega)
      have hw2 : IntKind.wrap .i64 (1 + ((k : Int) - 1)) = (k : Int) := by rw [wr _ (by omega) (by omega)]; omega
      have hw3 := wr1 hi (by omega)
      by_cases hn : 0 < k
      · obtain ⟨o, h1, rfl⟩ := l_skip hg z z' e e' hr (i + 1, k) ⟨hn, by dsimp only; omega, hi⟩
        have hl := lenN_go hi (Nat.le_refl 1) ha
        rw [show 1 + k - 1 = k by omega] at hl
        have e1 : skV g r i 1 = skV g r (i + 1) k := by
          simp only [skV, hl]
          cases lenN g (r.drop (i + 1)) k <;> simp; omega
        have e2 : skB g r i 1 = skB g r (i + 1) k := by simp [skB, hl]
        simp [-getElem?_pos, -Int.natCast_add, ints_len, hi', Go.Ab.ints_at hi, w_args hg, ha, arV, hw1, hw2, hw3, hn, h1, e1, e2]
      · have hz : k = 0 := by omega
        subst hz
        have hl : lenN g (r.drop i) 1 = some 1 := by rw [lenN_go hi (Nat.le_refl 1) ha]; simp [lenN]
        have hw0 : IntKind.wrap .i64 (-1) = -1 := wr _ (by omega) (by omega)
        have hw4 : IntKind.wrap .i64 0 = 0 := wr _ (by omega) (by omega)
        simp [-getElem?_pos, -Int.natCast_add, ints_len, hi', Go.Ab.ints_at hi, w_args hg, ha, arV, hw0, hw4, hw3, skV, skB, hl]
  · have hi' : (r.length : Int) ≤ i := by omega
    simp [ints_len, hi', skV, skB, lenN_end hi (Nat.le_refl 1)]
theorem l_begins {g : List Sym} (hg : sigB g = true) (z z' : Bool) (e e' : List D) {r : List Int} (hr : r.length ≤ 48) : ∀ x : List Int × Nat, (x.1.length ≤ x.2 ∧ x.2 ≤ r.length ∧ x.1 ≠ []) →
    ∃ o, evG (JW F d63 []) d63 [1, 0] 0 [(0, iG z g e), (1, iS z' r e'), (6, .own false 3 1 (ints x.1)), (7, iI x.2)] = some o ∧
      match parts g (r.drop x.2) with | some ts => o = .ret [(4, .own false 3 1 (ints (x.1 ++ begs x.2 ts))), (5, iB true)] | none => o = .ret [(4, .own true 3 1 []), (5, iB false)] :=
  label_rule (F := F) (d := d63) (lk := []) (p := [1, 0]) (fun _ => 0) (fun (x : List Int × Nat) => [(0, iG z g e), (1, iS z' r e'), (6, .own false 3 1 (ints x.1)), (7, iI x.2)]) _ (fun x => r.length - x.2) (fun x o => match parts g (r.drop x.2) with | some ts => o = .ret [(4, .own false 3 1 (ints (x.1 ++ begs x.2 ts))), (5, iB true)] | none => o = .ret [(4, .own true 3 1 []), (5, iB false)]) (fun _ _ => by decide +kernel) (fun x hx => by
    obtain ⟨acc, i⟩ := x
    obtain ⟨h1, h2, h3⟩ := hx
    dsimp only at h1 h2 h3 ⊢
    by_cases hi : i = r.length
    · refine .inr ⟨.ret [(4, .own false 3 1 (ints acc)), (5, iB true)], wpR_way (q63_l1000000a _ _ z (syms g) e z' (ints r) e' false (ints acc) i _) ?_, rfl, ?_⟩
      · simp [ints_len, hi]
      · rw [List.drop_of_length_le (by omega), parts_nil]; simp [begs]
    · have hne : r.drop i ≠ [] := by simp; omega
      have hsk := w_skip (sigOk hg) z z' e e' (r := r) (by omega) i
      have hi' : ¬ ((i : Int) = r.length) := by omega
      cases hl : lenN g (r.drop i) 1 with
      | none =>
        refine .inr ⟨.ret [(4, .own true 3 1 []), (5, iB false)], wpR_way (q63_l1000000a _ _ z (syms g) e z' (ints r) e' false (ints acc) i _) ?_, rfl, ?_⟩
        · simp [ints_len, hi', hsk, skV, skB, hl]
        · rw [parts_none hne hl]
      | some k =>
        have hle := lenN_le hl
        simp at hle
        refine .inl ⟨(acc ++ [(i : Int)], i + k), wpR_way (q63_l1000000a _ _ z (syms g) e z' (ints r) e' false (ints acc) i _) ?_, ⟨by simp; omega, by dsimp only; omega, by simp⟩, by dsimp only; omega, fun o ho => ?_⟩
        · simp [ints_len, hi', hsk, skV, skB, hl, ints_append, ints_cons, ints_nil]
          omega
        · rw [parts_some hne hl]
          rw [List.drop_drop]
          dsimp only at ho
          cases hp : parts g (r.drop (i + k)) with
          | none => rw [hp] at ho; exact ho
          | some ts =>
            rw [hp] at ho
            simp only [Option.map_some] at ho ⊢
            rw [ho]
            simp [begs, List.length_take]
            rw [show min k (r.length - i) = k by omega])
theorem w_begins (z z' : Bool) (g : List Sym) (e e' : List D) (r : List Int) : C 63 [iG z g e, iS z' r e'] = some (.tup [.own (begsM g r).isEmpty 3 1 (ints (begsM g r)), iB (rowB g r)], [iG z g e, iS z' r e']) := by
  refine wfn (lk := []) rfl rfl (fnW_way (q63 _ _ z (syms g) e z' (ints r) e' _) ?_)
  have hm := w_may z g e
  cases hg : sigB g
  · simp [hm, hg, begsM, rowB, ints_nil]
  by_cases hr : r.length ≤ 48
  rotate_left
  · have e1 : 48 < (r.length : Int) := by omega
    simp [hm, hg, begsM, rowB, ints_nil, rowP, hr, e1, ints_len]
  have e1 : ¬ 48 < (r.length : Int) := by omega
  by_cases h0 : r = []
  · subst h0
    simp [hm, hg, begsM, rowB, ints_nil, rowP, parts_nil, begs]
  have h0' : ¬ r.length = 0 := fun e => h0 (List.length_eq_zero_iff.1 e)
  have h0'' : ¬ ((0 : Int) = r.length) := by omega
  have hsk : C 66 [iG z g e, iS z' r e', iI 0] = some (.tup [iI (skV g r 0 1), iB (skB g r 0 1)], [iG z g e, iS z' r e', iI 0]) := w_skip (sigOk hg) z z' e e' (r := r) (by omega) 0
  cases hl : lenN g r 1 with
  | none =>
    simp [hm, hg, begsM, rowB, ints_nil, rowP, hr, e1, ints_len, h0'', hsk, skV, skB, hl, parts_none h0 hl]
  | some k =>
    have hle := lenN_le hl
    obtain ⟨o, h1, h2⟩ := l_begins hg z z' e e' hr ([0], k) ⟨by simp; omega, hle.1, by simp⟩
    dsimp only at h2
    simp only [ints_cons, ints_nil] at h1
    have hp := parts_some h0 hl
    cases hq : parts g (r.drop k) with
    | none =>
      rw [hq] at h2 hp
      subst h2
      simp [hm, hg, begsM, rowB, ints_nil, rowP, hr, e1, ints_len, h0'', hsk, skV, skB, hl, hp, h1]
    | some ts =>
      rw [hq] at h2 hp
      subst h2
      simp [hm, hg, begsM, rowB, ints_nil, rowP, hr, e1, ints_len, h0'', hsk, skV, skB, hl, hp, h1, begs, Nat.min_eq_left hle.1]
theorem w_isatom (z z' : Bool) (g : List Sym) (e e' : List D) (a : List Int) : C 62 [iG z g e, iS z' a e'] = some (iB (atomB g a), [iG z g e, iS z' a e']) := by
  refine wfn (lk := []) rfl rfl (fnW_way (q62 _ _ z (syms g) e z' (ints a) e' _) ?_)
  cases a with
  | nil => simp [ints_nil, atomB]
  | cons p r =>
    have e0 : ¬ ((r.length : Int) + 1 = 0) := by omega
    by_cases h0 : p < 0
    · have h3 : ¬ 0 ≤ p := by omega
      simp [ints_cons, ints_len, atomB, h0, e0, h3]
    by_cases h2 : p < g.length
    · obtain ⟨s, hs⟩ := at_lt (l := g) (i := p.toNat) (by omega)
      have h3 : 0 ≤ p := by omega
      have h4 : ¬ (g.length : Int) ≤ p := by omega
      have e1 : (1 : Int) ≤ (r.length : Int) + 1 := by omega
      have hb := w_begins z z' g e [] r
      by_cases hk : s.kind = 0
      · cases hg : sigB g
        · simp [-getElem?_pos, List.getElem?_cons_zero, ints_cons, ints_len, atomB, h0, e0, e1, h2, h3, h4, syms_len, syms_at hs, hs, hk, hb, hg, rowB]
        · cases hp : rowP g r with
          | none => simp [-getElem?_pos, List.getElem?_cons_zero, ints_cons, ints_len, atomB, h0, e0, e1, h2, h3, h4, syms_len, syms_at hs, hs, hk, hb, hg, rowB, hp]
          | some ts =>
            by_cases hc : (ts.length : Int) = s.ar
            · simp [-getElem?_pos, List.getElem?_cons_zero, ints_cons, ints_len, atomB, h0, e0, e1, h2, h3, h4, syms_len, syms_at hs, hs, hk, hb, hg, rowB, hp, begsM, begs_len, hc]
            · simp [-getElem?_pos, List.getElem?_cons_zero, ints_cons, ints_len, atomB, h0, e0, e1, h2, h3, h4, syms_len, syms_at hs, hs, hk, hb, hg, rowB, hp, begsM, begs_len, hc]
      · simp [-getElem?_pos, List.getElem?_cons_zero, ints_cons, ints_len, atomB, h0, e0, e1, h2, h3, h4, syms_len, syms_at hs, hs, hk]
    · have hs : g[p.toNat]? = none := List.getElem?_eq_none (by omega)
      have h4 : (g.length : Int) ≤ p := by omega
      simp [ints_cons, ints_len, atomB, h0, h2, e0, h4, syms_len, hs]
end Go.Proofs.YthemimhlhjfdaaaDoor.Ab

/- Rows of terms, atoms: what the reference's functions hand back. For every input; no condition. -/
set_option linter.unusedVariables false
set_option linter.unusedSimpArgs false
set_option maxRecDepth 100000
namespace Go.Proofs.YthemimhlhjfdaaaDoor.Ab
open Go Go.Ab Go.Qu Go.Proofs
attribute [local simp] and_assoc
theorem l_rend {g : List Sym} (hg : SigOk g) (z z' : Bool) (e e' : List D) {r : List Int} (hr : r.length < 20000000000000) (x : Nat × Nat) (hx : x.1 ≤ r.length ∧ x.2 ≤ 3 * x.1 + 1) :
    evP F (Go.Ab.W F) (JW F d60 []) d60 [] [1,1,0] [(0, iG z g e), (1, iS z' r e'), (7, iI x.2), (8, iI x.1)] = some (match lenN g (r.drop x.1) x.2 with | some k => .norm [(0, iG z g e), (1, iS z' r e'), (7, iI 0), (8, iI (x.1 + k : Nat))] | none => .ret [(6, iI (-1))]) :=
  blk_fun (F := F) (d := d60) (lk := []) (p := [1,1,0,0,0]) (p0 := [1,1,0]) (id := 0) (by kernel_rfl) (st := fun (x : Nat × Nat) => [(0, iG z g e), (1, iS z' r e'), (7, iI x.2), (8, iI x.1)]) (I := fun x => x.1 ≤ r.length ∧ x.2 ≤ 3 * x.1 + 1) (μ := fun x => r.length - x.1)
    (res := fun x => match lenN g (r.drop x.1) x.2 with | some k => .norm [(0, iG z g e), (1, iS z' r e'), (7, iI 0), (8, iI (x.1 + k : Nat))] | none => .ret [(6, iI (-1))])
    (fun x hx => by
      obtain ⟨i, n⟩ := x
      obtain ⟨h1, h2⟩ := hx
      dsimp only at h1 h2
      by_cases hn : n = 0
      · subst hn
        refine .stop (.exit 0 [(0, iG z g e), (1, iS z' r e'), (7, iI 0), (8, iI i)]) (wpQ_way (q60_l0a _ _ z (syms g) e z' (ints r) e' 0 i _) (by simp)) rfl ?_
        dsimp only
        cases r.drop i <;> simp [lenN, blkO]
      have hn1 : 1 ≤ n := by omega
      have hn2 : 0 < n := by omega
      by_cases hi : i < r.length
      rotate_left
      · have hi' : (r.length : Int) ≤ i := by omega
        refine .stop (.ret [(6, iI (-1))]) (wpQ_way (q60_l0a _ _ z (syms g) e z' (ints r) e' n i _) (by simp [hn2, ints_len, hi', hn])) rfl ?_
        dsimp only
        rw [lenN_end hi hn1]; rfl
      have hi' : ¬ (r.length : Int) ≤ i := by omega
      have hw0 : IntKind.wrap .i64 ((n : Int) - 1) = ((n : Int) - 1) := wr _ (by omega) (by omega)
      have hw3 := wr1 hi (by omega)
      have fin : ∀ {k : Nat}, arOf g (gi r i) = some k → (match lenN g (r.drop (i + 1)) (n + k - 1) with | some k => Out.norm [(0, iG z g e), (1, iS z' r e'), (7, iI 0), (8, iI (i + 1 + k : Nat))] | none => .ret [(6, iI (-1))]) = (match lenN g (r.drop i) n with | some k => Out.norm [(0, iG z g e), (1, iS z' r e'), (7, iI 0), (8, iI (i + k : Nat))] | none => .ret [(6, iI (-1))]) := fun {k} ha => by
        rw [lenN_go hi hn1 ha]
        cases lenN g (r.drop (i + 1)) (n + k - 1) <;> simp; omega
      by_cases h0 : gi r i < 0
      · have c1 : ¬ 0 ≤ gi r i := by omega
        have c3 : ¬ (g.length : Int) ≤ gi r i := by omega
        by_cases h3 : -24 ≤ gi r i
        · have c2 : ¬ gi r i < -24 := by omega
          have ha : arOf g (gi r i) = some 0 := by simp [arOf, h0, h3]
          have hcast : (n : Int) - 1 = ((n + 0 - 1 : Nat) : Int) := by omega
          refine .go (i + 1, n + 0 - 1) (wpQ_way (q60_l0a _ _ z (syms g) e z' (ints r) e' n i _) ?_) ⟨by dsimp only; omega, by dsimp only; omega⟩ (by dsimp only; omega) (fin ha)
          simp [-getElem?_pos, -Int.natCast_add, hn2, ints_len, hi', Go.Ab.ints_at hi, c1, c2, c3, hw0, hw3, syms_len]; omega
        · have c2 : gi r i < -24 := by omega
          refine .stop (.ret [(6, iI (-1))]) (wpQ_way (q60_l0a _ _ z (syms g) e z' (ints r) e' n i _) ?_) rfl (by dsimp only; rw [lenN_no hi hn1 (by simp [arOf, h0, h3])]; rfl)
          simp [-getElem?_pos, hn2, ints_len, hi', Go.Ab.ints_at hi, c2, h3]
      have c1 : 0 ≤ gi r i := by omega
      have c2 : ¬ gi r i < -24 := by omega
      by_cases h4 : gi r i < g.length
      · obtain ⟨s, hs⟩ := at_lt (l := g) (i := (gi r i).toNat) (by omega)
        have hnn := hg.nums _ _ hs
        have c3 : ¬ (g.length : Int) ≤ gi r i := by omega
        by_cases hk : s.kind = 0
        · refine .stop (.ret [(6, iI (-1))]) (wpQ_way (q60_l0a _ _ z (syms g) e z' (ints r) e' n i _) ?_) rfl (by dsimp only; rw [lenN_no hi hn1 (by simp [arOf, h0, hs, hk])]; rfl)
          simp [-getElem?_pos, hn2, ints_len, hi', Go.Ab.ints_at hi, c1, c2, c3, syms_len, syms_at hs, hk]
        · have hw1 : IntKind.wrap .i64 ((n : Int) - 1 + s.ar) = ((n + s.ar.toNat - 1 : Nat) : Int) := by rw [wr _ (by omega) (by omega)]; omega
          have ha : arOf g (gi r i) = some s.ar.toNat := by simp [arOf, h0, hs, hk]
          refine .go (i + 1, n + s.ar.toNat - 1) (wpQ_way (q60_l0a _ _ z (syms g) e z' (ints r) e' n i _) ?_) ⟨by dsimp only; omega, by dsimp only; omega⟩ (by dsimp only; omega) (fin ha)
          simp [-getElem?_pos, -Int.natCast_add, hn2, ints_len, hi', Go.Ab.ints_at hi, c1, c2, c3, syms_len, syms_at hs, hk, hw0, hw1, hw3]
          omega
      · have hs : g[(gi r i).toNat]? = none := List.getElem?_eq_none (by omega)
        have c3 : (g.length : Int) ≤ gi r i := by omega
        refine .stop (.ret [(6, iI (-1))]) (wpQ_way (q60_l0a _ _ z (syms g) e z' (ints r) e' n i _) ?_) rfl (by dsimp only; rw [lenN_no hi hn1 (by simp [arOf, h0, hs])]; rfl)
        simp [-getElem?_pos, hn2, ints_len, hi', Go.Ab.ints_at hi, c1, c2, c3, syms_len]) x hx
theorem w_rend {g : List Sym} (hg : SigOk g) (z z' : Bool) (e e' : List D) {r : List Int} (hr : r.length < 20000000000000) (i : Nat) (hi0 : i ≤ r.length) : C 60 [iG z g e, iS z' r e', iI i] = some (iI (skR g r i 1), [iG z g e, iS z' r e', iI i]) := by
  refine wfn (lk := []) rfl rfl (fnW_way (q60 _ _ z (syms g) e z' (ints r) e' i _) ?_)
  have h1 : evP F (Go.Ab.W F) (JW F d60 []) d60 [] [1,1,0] [(0, iG z g e), (1, iS z' r e'), (7, iI 1), (8, iI i)] = _ := l_rend hg z z' e e' hr (i, 1) ⟨hi0, by dsimp only; omega⟩
  cases hl : lenN g (r.drop i) 1 with
  | none => simp only [hl] at h1; simp [h1, skR, hl]
  | some k => simp only [hl] at h1; simp [h1, skR, hl]
/-- How many terms; -1: it is no row of terms. -/
theorem l_rterms {g : List Sym} (hg : SigOk g) (z z' : Bool) (e e' : List D) {r : List Int} (hr : r.length < 20000000000000) (x : Nat × Nat) (hx : x.2 ≤ r.length ∧ x.1 ≤ x.2) :
    evP F (Go.Ab.W F) (JW F d50 []) d50 [] [1,1,1,0] [(0, iG z g e), (1, iS z' r e'), (5, iI x.1), (6, iI x.2)] = some (match parts g (r.drop x.2) with | some ts => .norm [(0, iG z g e), (1, iS z' r e'), (5, iI (x.1 + ts.length : Nat)), (6, iI r.length)] | none => .ret [(4, iI (-1))]) :=
  blk_fun (F := F) (d := d50) (lk := []) (p := [1,1,1,0,0,0]) (p0 := [1,1,1,0]) (id := 0) (by kernel_rfl) (st := fun (x : Nat × Nat) => [(0, iG z g e), (1, iS z' r e'), (5, iI x.1), (6, iI x.2)]) (I := fun x => x.2 ≤ r.length ∧ x.1 ≤ x.2) (μ := fun x => r.length - x.2)
    (res := fun x => match parts g (r.drop x.2) with | some ts => .norm [(0, iG z g e), (1, iS z' r e'), (5, iI (x.1 + ts.length : Nat)), (6, iI r.length)] | none => .ret [(4, iI (-1))])
    (fun x hx => by
      obtain ⟨n, i⟩ := x
      obtain ⟨h1, h2⟩ := hx
      dsimp only at h1 h2
      by_cases hi : i < r.length
      · have hi' : (i : Int) < r.length := by omega
        have hne : r.drop i ≠ [] := by simp; omega
        have he := w_rend hg z z' e e' hr i h1
        have hw : IntKind.wrap .i64 ((n : Int) + 1) = ((n + 1 : Nat) : Int) := by rw [wr _ (by omega) (by omega)]; omega
        cases hl : lenN g (r.drop i) 1 with
        | none =>
          refine .stop (.ret [(4, iI (-1))]) (wpQ_way (q50_l0a _ _ z (syms g) e z' (ints r) e' n i _) ?_) rfl (by dsimp only; rw [parts_none hne hl]; rfl)
          simp [ints_len, hi, he, skR, hl]
        | some k =>
          have hle := lenN_le hl
          simp at hle
          refine .go (n + 1, i + k) (wpQ_way (q50_l0a _ _ z (syms g) e z' (ints r) e' n i _) ?_) ⟨by dsimp only; omega, by dsimp only; omega⟩ (by dsimp only; omega) ?_
          · simp [-Int.natCast_add, ints_len, hi, he, skR, hl, hw]
          · dsimp only
            rw [parts_some hne hl, List.drop_drop]
            cases parts g (r.drop (i + k)) <;> simp; omega
      · have hir : i = r.length := by omega
        refine .stop (.exit 0 [(0, iG z g e), (1, iS z' r e'), (5, iI n), (6, iI i)]) (wpQ_way (q50_l0a _ _ z (syms g) e z' (ints r) e' n i _) ?_) rfl ?_
        · simp [ints_len, hir]
        · dsimp only
          rw [List.drop_of_length_le (by omega), parts_nil]; simp [blkO, hir]) x hx
def termsM (g : List Sym) (r : List Int) : Int := match rowP g r with | some ts => (ts.length : Int) | none => -1
theorem w_rterms {g : List Sym} (hg : SigOk g) (z z' : Bool) (e e' : List D) (r : List Int) : C 50 [iG z g e, iS z' r e'] = some (iI (termsM g r), [iG z g e, iS z' r e']) := by
  refine wfn (lk := []) rfl rfl (fnW_way (q50 _ _ z (syms g) e z' (ints r) e' _) ?_)
  by_cases hr : r.length ≤ 48
  · have e1 : ¬ 48 < (r.length : Int) := by omega
    have h1 : evP F (Go.Ab.W F) (JW F d50 []) d50 [] [1,1,1,0] [(0, iG z g e), (1, iS z' r e'), (5, iI 0), (6, iI 0)] = some (match parts g r with | some ts => .norm [(0, iG z g e), (1, iS z' r e'), (5, iI (0 + ts.length : Nat)), (6, iI r.length)] | none => .ret [(4, iI (-1))]) := l_rterms hg z z' e e' (r := r) (by omega) (0, 0) ⟨Nat.zero_le _, Nat.le_refl _⟩
    cases hp : parts g r with
    | none => simp only [hp] at h1; simp [ints_len, e1, h1, termsM, rowP, hr, hp]
    | some ts => simp only [hp] at h1; simp [ints_len, e1, h1, termsM, rowP, hr, hp]
  · have e1 : 48 < (r.length : Int) := by omega
    simp [ints_len, e1, termsM, rowP, hr]
/-- Of a signature that may be. -/
theorem w_risatom {g : List Sym} (hg : sigB g = true) (z z' : Bool) (e e' : List D) (a : List Int) : C 59 [iG z g e, iS z' a e'] = some (iB (atomB g a), [iG z g e, iS z' a e']) := by
  refine wfn (lk := []) rfl rfl (fnW_way (q59 _ _ z (syms g) e z' (ints a) e' _) ?_)
  cases a with
  | nil => simp [ints_nil, atomB]
  | cons p r =>
    have e0 : (0 : Int) < (r.length : Int) + 1 := by omega
    by_cases h0 : p < 0
    · have h3 : ¬ 0 ≤ p := by omega
      simp [ints_cons, ints_len, atomB, h0, e0, h3]
    have h3 : 0 ≤ p := by omega
    by_cases h2 : p < g.length
    · obtain ⟨s, hs⟩ := at_lt (l := g) (i := p.toNat) (by omega)
      have e1 : (1 : Int) ≤ (r.length : Int) + 1 := by omega
      have hb := w_rterms (sigOk hg) z z' e [] r
      have hn := (sigOk hg).nums _ _ hs
      by_cases hk : s.kind = 0
      · cases hp : rowP g r with
        | none =>
          have hc : ¬ (-1 = s.ar) := by omega
          simp [-getElem?_pos, List.getElem?_cons_zero, ints_cons, ints_len, atomB, h0, e0, e1, h2, h3, syms_len, syms_at hs, hs, hk, hb, hg, termsM, hp, hc]
        | some ts =>
          by_cases hc : (ts.length : Int) = s.ar
          · simp [-getElem?_pos, List.getElem?_cons_zero, ints_cons, ints_len, atomB, h0, e0, e1, h2, h3, syms_len, syms_at hs, hs, hk, hb, hg, termsM, hp, hc]
          · simp [-getElem?_pos, List.getElem?_cons_zero, ints_cons, ints_len, atomB, h0, e0, e1, h2, h3, syms_len, syms_at hs, hs, hk, hb, hg, termsM, hp, hc]
      · simp [-getElem?_pos, List.getElem?_cons_zero, ints_cons, ints_len, atomB, h0, e0, e1, h2, h3, syms_len, syms_at hs, hs, hk]
    · have hs : g[p.toNat]? = none := List.getElem?_eq_none (by omega)
      simp [ints_cons, ints_len, atomB, h0, e0, h2, h3, syms_len, hs]; omega
end Go.Proofs.YthemimhlhjfdaaaDoor.Ab

/- Rows of numbers: the same, copied, their least, their variables. For every input; no condition. -/
set_option linter.unusedVariables false
set_option linter.unusedSimpArgs false
set_option maxRecDepth 100000
namespace Go.Proofs.YthemimhlhjfdaaaDoor.Ab
open Go Go.Ab Go.Qu Go.Proofs
attribute [local simp] and_assoc
@[simp] theorem w_num (c : Int) : C 21 [iI c] = some (iI c, [iI c]) :=
  wfn (lk := []) rfl rfl (fnW_way (q21 _ _ c _) (by simp))
theorem w_sameints {a : List Int} (ha : Len a) (b : List Int) (z z' : Bool) (e e' : List D) : C 52 [iS z a e, iS z' b e'] = some (iB (decide (a = b)), [iS z a e, iS z' b e']) := by
  refine wfn (lk := []) rfl rfl (fnW_way (q52 _ _ z (ints a) e z' (ints b) e' _) ?_)
  have hal := ha.lt
  by_cases hl : a.length = b.length
  rotate_left
  · have e1 : ¬ (a.length : Int) = b.length := by omega
    have e2 : ¬ a = b := fun h => hl (by rw [h])
    simp [ints_len, e1, e2]
  rcases blk_all (F := F) (d := d52) (lk := []) (p := [1,1,0,1,0,0]) (p0 := [1,1,0,1]) (by kernel_rfl) (n := a.length) (id := 0) (st := fun i => [(0, iS z a e), (1, iS z' b e'), (5, iI i)]) (q := fun i => gi a i == gi b i) (rt := [(4, iB false)]) (e := [(0, iS z a e), (1, iS z' b e'), (5, iI a.length)])
    (fun i hi hq => wpQ_way (q52_l0a _ _ z (ints a) e z' (ints b) e' i _) (by simp at hq; simp [-getElem?_pos, ints_len, wr1 hi (by omega), hi, Go.Ab.ints_at hi, Go.Ab.ints_at (hl ▸ hi), hq]))
    (fun i hi hq => wpQ_way (q52_l0a _ _ z (ints a) e z' (ints b) e' i _) (by simp at hq; simp [-getElem?_pos, ints_len, hi, Go.Ab.ints_at hi, Go.Ab.ints_at (hl ▸ hi), hq]))
    (wpQ_way (q52_l0a _ _ z (ints a) e z' (ints b) e' a.length _) (by simp [ints_len])) 0 (Nat.zero_le _) with ⟨h2, h3⟩ | ⟨⟨j, h2, h4, h5⟩, h3⟩
  · have hab : a = b := ints_ext hl (fun i hi => by simpa using h2 i (Nat.zero_le _) hi)
    simp at h3
    simp [-Bool.exists_bool, ints_len, hab]
    rw [hab] at h3
    simp [-Bool.exists_bool, h3]
  · have hab : ¬ a = b := fun h => by rw [h] at h5; simp at h5
    simp at h3
    simp [ints_len, hl, hab]
    simp [h3]
theorem w_copyints {a : List Int} (ha : Len a) (z : Bool) (e : List D) : C 43 [iS z a e] = some (.own false 3 1 (ints a), [iS z a e]) := by
  unfold Len at ha
  refine wfn (lk := []) rfl rfl (fnW_way (q43 _ _ z (ints a) e _) ?_)
  simp [ints_len]
  omega
/-- Rows that are new. -/
def fresh (r : Row) : Row := ⟨false, r.l, []⟩
theorem w_copyrows {rs : List Row} (hn : rs.length * 24 ≤ 140737488351232) (hr : ∀ r ∈ rs, Len r.l) (z : Bool) (e : List D) : C 35 [iR z rs e] = some (.own rs.isEmpty 56 1 (rws (rs.map fresh)), [iR z rs e]) := by
  refine wfn (lk := []) rfl rfl (fnW_way (q35 _ _ z (rws rs) e _) ?_)
  have h1 := blk_fun (F := F) (d := d35) (lk := []) (p := [1,1,0,1,0,0]) (p0 := [1,1,0,1]) (id := 0) (by kernel_rfl) (st := fun (i : Nat) => [(0, iR z rs e), (3, .own (rs.take i).isEmpty 56 1 (rws ((rs.take i).map fresh))), (4, iI i)]) (I := fun i => i ≤ rs.length) (μ := fun i => rs.length - i)
    (res := fun _ => .norm [(0, iR z rs e), (3, .own rs.isEmpty 56 1 (rws (rs.map fresh))), (4, iI rs.length)])
    (fun i hi => by
      by_cases h : i < rs.length
      · obtain ⟨r, hr1⟩ := at_lt h
        have hL := hr r (List.mem_of_getElem? hr1)
        have e1 : rs.take (i + 1) = rs.take i ++ [r] := by rw [List.take_add_one, hr1]; rfl
        refine .go (i + 1) (wpQ_way (q35_l0a _ _ z (rws rs) e _ _ i _) ?_) h (by omega) rfl
        have e2 : min i rs.length = i := by omega
        simp [-getElem?_pos, rws_len, h, rws_at hr1, w_copyints hL, wr1 h (by omega), e1, rws_append, rws_cons, rws_nil, fresh, e2]
        omega
      · have e1 : i = rs.length := by omega
        subst e1
        refine .stop (.exit 0 [(0, iR z rs e), (3, .own rs.isEmpty 56 1 (rws (rs.map fresh))), (4, iI rs.length)]) (wpQ_way (q35_l0a _ _ z (rws rs) e _ _ rs.length _) ?_) rfl rfl
        simp [rws_len]) 0 (Nat.zero_le _)
  simp [rws_nil] at h1
  simp [h1]
theorem w_samerows {a : List Row} (hn : a.length * 24 ≤ 140737488351232) (ha : ∀ r ∈ a, Len r.l) (b : List Row) (z z' : Bool) (e e' : List D) : C 42 [iR z a e, iR z' b e'] = some (iB (decide (a.map (·.l) = b.map (·.l))), [iR z a e, iR z' b e']) := by
  refine wfn (lk := []) rfl rfl (fnW_way (q42 _ _ z (rws a) e z' (rws b) e' _) ?_)
  by_cases hl : a.length = b.length
  rotate_left
  · have e1 : ¬ (a.length : Int) = b.length := by omega
    have e2 : ¬ a.map (·.l) = b.map (·.l) := fun h => hl (by have := congrArg List.length h; simpa using this)
    simp [rws_len, e1, e2]
  rcases blk_all (F := F) (d := d42) (lk := []) (p := [1,1,0,1,0,0]) (p0 := [1,1,0,1]) (by kernel_rfl) (n := a.length) (id := 0) (st := fun i => [(0, iR z a e), (1, iR z' b e'), (5, iI i)]) (q := fun i => (a[i]?.map (·.l)) == (b[i]?.map (·.l))) (rt := [(4, iB false)]) (e := [(0, iR z a e), (1, iR z' b e'), (5, iI a.length)])
    (fun i hi hq => by
      obtain ⟨x, hx⟩ := at_lt hi
      obtain ⟨y, hy⟩ := at_lt (show i < b.length by omega)
      simp [hx, hy] at hq
      exact wpQ_way (q42_l0a _ _ z (rws a) e z' (rws b) e' i _) (by simp [-getElem?_pos, rws_len, wr1 hi (by omega), hi, rws_at hx, rws_at hy, w_sameints (ha x (List.mem_of_getElem? hx)), hq.symm]))
    (fun i hi hq => by
      obtain ⟨x, hx⟩ := at_lt hi
      obtain ⟨y, hy⟩ := at_lt (show i < b.length by omega)
      simp [hx, hy] at hq
      exact wpQ_way (q42_l0a _ _ z (rws a) e z' (rws b) e' i _) (by simp [-getElem?_pos, rws_len, hi, rws_at hx, rws_at hy, w_sameints (ha x (List.mem_of_getElem? hx)), hq]))
    (wpQ_way (q42_l0a _ _ z (rws a) e z' (rws b) e' a.length _) (by simp [rws_len])) 0 (Nat.zero_le _) with ⟨h2, h3⟩ | ⟨⟨j, h2, h4, h5⟩, h3⟩
  · have hab : a.map (·.l) = b.map (·.l) := by
      refine List.ext_getElem? (fun i => ?_)
      by_cases hi : i < a.length
      · have := h2 i (Nat.zero_le _) hi
        simpa using this
      · rw [List.getElem?_eq_none (by simpa using hi), List.getElem?_eq_none (by simp; omega)]
    simp at h3
    simp [rws_len, hl, hab, h3]
  · have hab : ¬ a.map (·.l) = b.map (·.l) := fun h => by
      have := congrArg (·[j]?) h
      simp at this h5
      exact h5 this
    simp at h3
    simp [rws_len, hl, hab, h3]
end Go.Proofs.YthemimhlhjfdaaaDoor.Ab

/- Tables of facts: what may be one, where a fact stands. Plain lists; no condition. -/
set_option linter.unusedVariables false
set_option linter.unusedSimpArgs false
namespace Go.Qu
open Go Go.Ab

def hashF (h : Int) : List Int → Int
  | [] => h
  | c :: a => hashF ((h * 31 + c + 1) % 1009) a
def hashM (a : List Int) : Int := hashF 7 a
theorem hashF_lt : ∀ (a : List Int) (h : Int), 0 ≤ h → h < 1009 → 0 ≤ hashF h a ∧ hashF h a < 1009
  | [], h, h1, h2 => ⟨h1, h2⟩
  | c :: a, h, h1, h2 => hashF_lt a _ (Int.emod_nonneg _ (by omega)) (Int.emod_lt_of_pos _ (by omega))
theorem hashM_lt (a : List Int) : 0 ≤ hashM a ∧ hashM a < 1009 := hashF_lt a 7 (by omega) (by omega)
/-- Codes that are none of variables, and not great. -/
def Small (a : List Int) : Prop := ∀ c ∈ a, 0 ≤ c ∧ c ≤ 1000000
def factB (g : List Sym) (a : List Int) : Bool := sigB g && (atomB g a && a.all fun c => decide (0 ≤ c))
theorem gi_mem {a : List Int} {i : Nat} (h : i < a.length) : gi a i ∈ a := by
  simp only [gi, List.getD_eq_getElem?_getD, List.getElem?_eq_getElem h, Option.getD_some]; exact List.getElem_mem h
theorem lenN_codes {g : List Sym} : ∀ {r : List Int} {n k : Nat}, lenN g r n = some k → ∀ c ∈ r.take k, (arOf g c).isSome = true
  | r, 0, k, h, c, hc => by cases r <;> (simp [lenN] at h; subst h; simp at hc)
  | [], n + 1, k, h, c, hc => by simp [lenN] at h
  | x :: r, n + 1, k, h, c, hc => by
    unfold lenN at h
    split at h
    · cases h
    · rename_i a ha
      obtain ⟨m, hm, rfl⟩ := Option.map_eq_some_iff.1 h
      rw [List.take_succ_cons] at hc
      rcases List.mem_cons.1 hc with rfl | hc
      · rw [ha]; rfl
      · exact lenN_codes hm c hc
theorem parts_codes {g : List Sym} : ∀ (n : Nat) (r : List Int) {ts : List (List Int)}, r.length ≤ n → parts g r = some ts → ∀ c ∈ r, (arOf g c).isSome = true
  | n, [], ts, hn, h, c, hc => by simp at hc
  | 0, x :: r, ts, hn, h, c, hc => by simp at hn
  | n + 1, x :: r, ts, hn, h, c, hc => by
    cases hl : lenN g (x :: r) 1 with
    | none => rw [parts_none (by simp) hl] at h; cases h
    | some k =>
      rw [parts_some (by simp) hl] at h
      obtain ⟨us, h1, rfl⟩ := Option.map_eq_some_iff.1 h
      have h2 := lenN_le hl
      have hsplit : c ∈ (x :: r).take k ∨ c ∈ (x :: r).drop k := by
        rw [← List.mem_append, List.take_append_drop]; exact hc
      rcases hsplit with hc | hc
      · exact lenN_codes hl c hc
      · exact parts_codes n _ (by simp at hn ⊢; omega) h1 c hc
theorem arOf_lt {g : List Sym} {c : Int} (h : (arOf g c).isSome = true) : -24 ≤ c ∧ c < g.length := by
  unfold arOf at h
  split at h
  · split at h
    · omega
    · cases h
  · split at h
    · cases h
    · rename_i s hs
      have := lt_at hs
      omega
/-- The codes of an atom. -/
theorem atom_codes {g : List Sym} {a : List Int} (h : atomB g a = true) : a.length ≤ 49 ∧ (∀ c ∈ a, -24 ≤ c ∧ c < g.length) ∧ g.length ≤ 20 := by
  cases a with
  | nil => simp [atomB] at h
  | cons p r =>
    simp only [atomB] at h
    split at h
    · cases h
    · rename_i hp
      split at h
      · cases h
      · rename_i s hs
        simp only [Bool.and_eq_true] at h
        obtain ⟨⟨h1, h2⟩, h3⟩ := h
        have hl := lt_at hs
        have hg := sigOk h2
        unfold rowP at h3
        by_cases hr : r.length ≤ 48
        · rw [if_pos hr] at h3
          cases hps : parts g r with
          | none => rw [hps] at h3; cases h3
          | some ts =>
            refine ⟨by simp; omega, fun c hc => ?_, hg.hi⟩
            rcases List.mem_cons.1 hc with rfl | hc
            · omega
            · exact arOf_lt (parts_codes _ r (Nat.le_refl _) hps c hc)
        · rw [if_neg hr] at h3; cases h3
theorem fact_small {g : List Sym} {a : List Int} (h : factB g a = true) : Small a ∧ Len a := by
  simp only [factB, Bool.and_eq_true, List.all_eq_true, decide_eq_true_eq] at h
  obtain ⟨h1, h2, h3⟩ := h
  have h4 := atom_codes h2
  exact ⟨fun c hc => ⟨h3 c hc, by have := (h4.2.1 c hc).2; omega⟩, by unfold Len; omega⟩
theorem varsFrom_nil (a : List Int) : ∀ (k v : Nat), varsFrom a k v = [] ↔ ∀ j, v ≤ j → j < v + k → ¬ (-1 - (j : Int)) ∈ a
  | 0, v => by simp [varsFrom]; intro j; omega
  | k + 1, v => by
    unfold varsFrom
    cases hc : a.contains (-1 - (v : Int)) with
    | true =>
      rw [List.contains_eq_mem, decide_eq_true_iff] at hc
      simp only [if_true]
      constructor
      · intro h; cases h
      · intro h; exact absurd hc (h v (Nat.le_refl _) (by omega))
    | false =>
      rw [List.contains_eq_mem, decide_eq_false_iff_not] at hc
      simp only [Bool.false_eq_true, if_false]
      rw [varsFrom_nil a k (v + 1)]
      constructor
      · intro h j h1 h2
        by_cases hj : j = v
        · subst hj; exact hc
        · exact h j (by omega) (by omega)
      · intro h j h1 h2
        exact h j (by omega) (by omega)
theorem vars_none {g : List Sym} {a : List Int} (h : atomB g a = true) : ((varsM a).length = 0) ↔ a.all (fun c => decide (0 ≤ c)) = true := by
  have h4 := atom_codes h
  rw [List.length_eq_zero_iff, varsM, varsFrom_nil]
  simp only [List.all_eq_true, decide_eq_true_eq]
  constructor
  · intro h5 c hc
    have h6 := h4.2.1 c hc
    by_cases h7 : 0 ≤ c
    · exact h7
    · have := h5 (-1 - c).toNat (Nat.zero_le _) (by omega)
      rw [show (-1 - (((-1 - c).toNat : Nat) : Int)) = c by omega] at this
      exact absurd hc this
  · intro h5 j _ hj hm
    have := h5 _ hm
    omega
/-! ### Where a fact stands -/
def probe (h k : Nat) : Nat := (h + k) % 32
def slotF (sl : List Int) (fs : List (List Int)) (a : List Int) (h : Nat) : Nat → Nat → Int
  | 0, _ => -1
  | n + 1, k => if gi sl (probe h k) = -1 then -1 else if 0 ≤ gi sl (probe h k) ∧ fs[(gi sl (probe h k)).toNat]? = some a then (probe h k : Int) else slotF sl fs a h n (k + 1)
def slotM (sl : List Int) (fs : List (List Int)) (a : List Int) : Int := slotF sl fs a (hashM a).toNat 32 0
/-- Slots that fit so many facts. -/
def slotsF (n : Nat) : List Int → List Bool → Nat → Bool
  | [], _, k => k == n
  | x :: r, seen, k => if x = -1 ∨ x = -2 then slotsF n r seen k else if x < 0 ∨ (n : Int) ≤ x ∨ seen[x.toNat]? = some true then false else slotsF n r (seen.set x.toNat true) (k + 1)
def slotsB (sl : List Int) (n : Nat) : Bool := slotsF n sl (List.replicate n false) 0
def tblB (g : List Sym) (sl : List Int) (fs : List (List Int)) : Bool :=
  sigB g && (decide (sl.length = 32) && (decide (fs.length ≤ 24) && (slotsB sl fs.length && (fs.all (factB g) && (List.range fs.length).all fun i => match fs[i]? with | some a => decide (0 ≤ slotM sl fs a) && (gi sl (slotM sl fs a).toNat == (i : Int)) | none => true))))
/-! ### The reference's words -/
def whereF (a : List Int) : List (List Int) → Nat → Int
  | [], _ => -1
  | b :: fs, i => if b = a then (i : Int) else whereF a fs (i + 1)
def whereM (fs : List (List Int)) (a : List Int) : Int := whereF a fs 0
def lastF (x : Int) : List Int → Nat → Int → Int
  | [], _, at_ => at_
  | y :: sl, i, at_ => lastF x sl (i + 1) (if y = x then (i : Int) else at_)
def lastM (sl : List Int) (x : Int) : Int := lastF x sl 0 (-1)
/-- From a slot on: is none free ahead of another one? -/
def roadF (sl : List Int) (at_ : Nat) : Nat → Nat → Bool
  | 0, _ => true
  | n + 1, i => if i = at_ then true else if gi sl i = -1 then false else roadF sl at_ n ((i + 1) % 32)
def takenF : List Int → Nat → Nat
  | [], k => k
  | x :: sl, k => takenF sl (if 0 ≤ x then k + 1 else k)
def eachB (g : List Sym) (sl : List Int) (fs : List (List Int)) (k : Nat) : Bool := match fs[k]? with
  | some a => factB g a && ((whereM fs a == (k : Int)) && (decide (0 ≤ lastM sl k) && roadF sl (lastM sl k).toNat 32 ((hashM a).toNat % 32)))
  | none => true
def rtblB (g : List Sym) (sl : List Int) (fs : List (List Int)) : Bool :=
  sigB g && (decide (sl.length = 32) && (decide (fs.length ≤ 24) && (sl.all (fun x => decide (-2 ≤ x) && decide (x < fs.length)) && ((takenF sl 0 == fs.length) && (List.range fs.length).all (eachB g sl fs)))))

/-! ### For the walks -/
abbrev iT (zs : Bool) (sl : List Int) (es : List D) (zf : Bool) (fs : List Row) (ef : List D) : IV := .d (.agg [.sl 1 zs (ints sl) es, .sl 1 zf (rws fs) ef])
def fl (fs : List Row) : List (List Int) := fs.map (·.l)
theorem fl_len (fs : List Row) : (fl fs).length = fs.length := by simp [fl]
theorem fl_at {fs : List Row} {i : Nat} {r : Row} (h : fs[i]? = some r) : (fl fs)[i]? = some r.l := by simp [fl, h]
def bls (l : List Bool) : List D := l.map D.bool
theorem bls_len (l : List Bool) : (bls l).length = l.length := by simp [bls]
theorem bls_at {l : List Bool} {i : Nat} {b : Bool} (h : l[i]? = some b) : (bls l)[i]? = some (.bool b) := by simp [bls, h]
theorem bls_set (l : List Bool) (i : Nat) (b : Bool) : (bls l).set i (.bool b) = bls (l.set i b) := by simp [bls, List.map_set]
theorem bls_rep (n : Nat) : List.replicate n (D.bool false) = bls (List.replicate n false) := by simp [bls]
theorem slotF_lt (sl : List Int) (fs : List (List Int)) (a : List Int) (h : Nat) : ∀ n k, slotF sl fs a h n k = -1 ∨ (0 ≤ slotF sl fs a h n k ∧ slotF sl fs a h n k < 32)
  | 0, k => .inl rfl
  | n + 1, k => by
    unfold slotF
    split
    · exact .inl rfl
    · split
      · right; unfold probe; omega
      · exact slotF_lt sl fs a h n (k + 1)
theorem slotM_lt (sl : List Int) (fs : List (List Int)) (a : List Int) : slotM sl fs a = -1 ∨ (0 ≤ slotM sl fs a ∧ slotM sl fs a < 32) := slotF_lt sl fs a _ 32 0
theorem slotsF_lt {n : Nat} : ∀ {sl : List Int} {seen : List Bool} {k : Nat}, slotsF n sl seen k = true → ∀ x ∈ sl, -2 ≤ x ∧ x < n
  | [], seen, k, h, x, hx => by simp at hx
  | y :: sl, seen, k, h, x, hx => by
    unfold slotsF at h
    split at h
    · rcases List.mem_cons.1 hx with rfl | hx
      · omega
      · exact slotsF_lt h x hx
    · split at h
      · cases h
      · rcases List.mem_cons.1 hx with rfl | hx
        · omega
        · exact slotsF_lt h x hx
theorem lastF_lt (x : Int) : ∀ (sl : List Int) (i : Nat) (at_ : Int), lastF x sl i at_ = at_ ∨ ((i : Int) ≤ lastF x sl i at_ ∧ lastF x sl i at_ < i + sl.length)
  | [], i, at_ => .inl rfl
  | y :: sl, i, at_ => by
    unfold lastF
    rcases lastF_lt x sl (i + 1) (if y = x then (i : Int) else at_) with h | h
    · rw [h]
      split
      · right; simp; omega
      · exact .inl rfl
    · right; simp; omega
theorem lastM_lt (sl : List Int) (x : Int) : lastM sl x = -1 ∨ (0 ≤ lastM sl x ∧ lastM sl x < sl.length) := by
  have := lastF_lt x sl 0 (-1)
  unfold lastM
  rcases this with h | h
  · exact .inl h
  · right; simpa using h
theorem roadF_more (sl : List Int) {at_ : Nat} (ha : at_ < 32) : ∀ (n i : Nat), i < 32 → (at_ + 32 - i) % 32 < n → roadF sl at_ n i = roadF sl at_ (n + 1) i
  | 0, i, hi, h => by omega
  | n + 1, i, hi, h => by
    by_cases he : i = at_
    · simp [roadF, he]
    · by_cases hf : gi sl i = -1
      · simp [roadF, he, hf]
      · have := roadF_more sl ha n ((i + 1) % 32) (Nat.mod_lt _ (by omega)) (by omega)
        rw [roadF, if_neg he, if_neg hf, this]
        conv => rhs; rw [roadF, if_neg he, if_neg hf]
theorem roadF_go (sl : List Int) {at_ i : Nat} (ha : at_ < 32) (hi : i < 32) (he : i ≠ at_) (hf : gi sl i ≠ -1) : roadF sl at_ 32 ((i + 1) % 32) = roadF sl at_ 32 i := by
  rw [← roadF_more sl ha 31 ((i + 1) % 32) (Nat.mod_lt _ (by omega)) (by omega)]
  conv => rhs; rw [roadF, if_neg he, if_neg hf]
end Go.Qu

/- Literals, clauses: what may be, what they weigh. Plain lists; no condition. -/
set_option linter.unusedVariables false
set_option linter.unusedSimpArgs false
namespace Go.Qu
open Go Go.Ab

structure LitR where
  neg : Bool
  r : Row
def LitR.d (l : LitR) : D := .agg [.bool l.neg, .sl 1 l.r.z (ints l.r.l) l.r.e]
def lits (ls : List LitR) : List D := ls.map LitR.d
abbrev iL (z : Bool) (ls : List LitR) (e : List D) : IV := .d (.sl 2 z (lits ls) e)
abbrev iLit (b : Bool) (z : Bool) (l : List Int) (e : List D) : IV := .d (.agg [.bool b, .sl 1 z (ints l) e])
theorem lits_len (l : List LitR) : (lits l).length = l.length := by simp [lits]
theorem lits_at {l : List LitR} {i : Nat} {s : LitR} (h : l[i]? = some s) : (lits l)[i]? = some (.agg [.bool s.neg, .sl 1 s.r.z (ints s.r.l) s.r.e]) := by simp [lits, h, LitR.d]
theorem lits_nil : lits [] = [] := rfl
theorem lits_cons (x : LitR) (l : List LitR) : lits (x :: l) = .agg [.bool x.neg, .sl 1 x.r.z (ints x.r.l) x.r.e] :: lits l := rfl
theorem lits_append (l m : List LitR) : lits (l ++ m) = lits l ++ lits m := by simp [lits]
/-- A clause as it lies in memory. -/
structure Cl where
  lz : Bool
  ls : List LitR
  le : List D
  tz : Bool
  ts : List Row
  te : List D
  cz : Bool
  cs : List LitR
  ce : List D
abbrev Cl.d (c : Cl) : D := .agg [.sl 2 c.lz (lits c.ls) c.le, .sl 1 c.tz (rws c.ts) c.te, .sl 2 c.cz (lits c.cs) c.ce]
abbrev iC (c : Cl) : IV := .d (.agg [.sl 2 c.lz (lits c.ls) c.le, .sl 1 c.tz (rws c.ts) c.te, .sl 2 c.cz (lits c.cs) c.ce])
/-! ### What may be -/
def litsB (g : List Sym) (ls : List LitR) : Bool := ls.all fun l => atomB g l.r.l
def lenL : List LitR → Nat
  | [] => 0
  | l :: ls => l.r.l.length + lenL ls
def lenR : List Row → Nat
  | [] => 0
  | r :: rs => r.l.length + lenR rs
def termsN (g : List Sym) (r : List Int) : Nat := (begsM g r).length
def rowsF (g : List Sym) (k : Nat) (ts : List Row) : Bool := ts.all fun r => rowB g r.l && (termsN g r.l == k)
def rowsB (g : List Sym) (ts : List Row) : Bool := match ts with
  | [] => true
  | r :: _ => rowsF g (termsN g r.l) ts
def clB (g : List Sym) (c : Cl) : Bool := sigB g && (decide (c.ls.length ≤ 5) && (decide (c.ts.length ≤ 3) && (decide (c.cs.length ≤ 3) && (litsB g c.ls && (rowsB g c.ts && (litsB g c.cs && decide (lenL c.ls + lenR c.ts + lenL c.cs ≤ 240)))))))
theorem lenL_le {g : List Sym} : ∀ {ls : List LitR}, litsB g ls = true → lenL ls ≤ 49 * ls.length
  | [], h => by simp [lenL]
  | l :: ls, h => by
    simp only [litsB, List.all_cons, Bool.and_eq_true] at h
    have h1 := (atom_codes h.1).1
    have h2 := lenL_le (ls := ls) h.2
    simp [lenL]; omega
theorem rowB_len {g : List Sym} {r : List Int} (h : rowB g r = true) : r.length ≤ 48 := by
  simp only [rowB, Bool.and_eq_true, rowP] at h
  by_cases h1 : r.length ≤ 48
  · exact h1
  · rw [if_neg h1] at h; simp at h
theorem lenR_le {g : List Sym} {k : Nat} : ∀ {ts : List Row}, rowsF g k ts = true → lenR ts ≤ 48 * ts.length
  | [], h => by simp [lenR]
  | r :: ts, h => by
    simp only [rowsF, List.all_cons, Bool.and_eq_true] at h
    have h1 := rowB_len h.1.1
    have h2 := lenR_le (ts := ts) (k := k) h.2
    simp [lenR]; omega
/-! ### What they weigh -/
def codeW (g : List Sym) (c : Int) : Int := if c < 0 then 1 else match g[c.toNat]? with | some s => s.wt | none => 0
def sumW (g : List Sym) : List Int → Int
  | [] => 0
  | c :: r => codeW g c + sumW g r
/-- Codes that a signature knows. -/
def Known (g : List Sym) (r : List Int) : Prop := ∀ c ∈ r, c < g.length
theorem atom_known {g : List Sym} {a : List Int} (h : atomB g a = true) : Known g a := fun c hc => ((atom_codes h).2.1 c hc).2
theorem codeW_le {g : List Sym} (hg : SigOk g) (c : Int) (h : c < g.length) : 1 ≤ codeW g c ∧ codeW g c ≤ 20 := by
  unfold codeW
  split
  · omega
  · obtain ⟨s, hs⟩ := at_lt (l := g) (i := c.toNat) (by omega)
    rw [hs]
    have := hg.nums _ _ hs
    dsimp only; omega
theorem sumW_le {g : List Sym} (hg : SigOk g) : ∀ (r : List Int), Known g r → (r.length : Int) ≤ sumW g r ∧ sumW g r ≤ 20 * r.length
  | [], h => by simp [sumW]
  | c :: r, h => by
    have h1 := codeW_le hg c (h c (by simp))
    have h2 := sumW_le hg r (fun x hx => h x (by simp [hx]))
    simp only [sumW, List.length_cons]; omega
/-- The parts of a clause's point. -/
def ptF (g : List Sym) : List LitR → Int → Int → Int × Int
  | [], a, b => (a, b)
  | l :: ls, a, b => if l.neg then ptF g ls a (if sumW g l.r.l > b then sumW g l.r.l else b) else ptF g ls (if sumW g l.r.l > a then sumW g l.r.l else a) b
def ptM (g : List Sym) (c : Cl) : Int × Int := ptF g c.ls 0 0
end Go.Qu

/- Rows of terms: how deep they are, which variables they have, what joining and cutting does. Plain lists, no program in sight; no condition. -/
set_option linter.unusedVariables false
set_option linter.unusedSimpArgs false
namespace Go.Qu
open Go Go.Ab
theorem lenN_cons {g : List Sym} {c : Int} {r : List Int} {n a : Nat} (ha : arOf g c = some a) : lenN g (c :: r) (n + 1) = (lenN g r (n + a)).map (· + 1) := by
  simp [lenN, ha]
theorem lenN_some {g : List Sym} {c : Int} {r : List Int} {n k : Nat} (h : lenN g (c :: r) (n + 1) = some k) : ∃ a m, arOf g c = some a ∧ lenN g r (n + a) = some m ∧ k = m + 1 := by
  unfold lenN at h
  split at h
  · cases h
  · rename_i a ha
    obtain ⟨m, hm, rfl⟩ := Option.map_eq_some_iff.1 h
    exact ⟨a, m, ha, hm, rfl⟩
theorem lenN_cut {g : List Sym} : ∀ {r : List Int} {n k : Nat}, lenN g r n = some k → ∀ j, j < k → lenN g (r.take j) n = none
  | r, 0, k, h, j, hj => by cases r <;> (simp [lenN] at h; omega)
  | [], n + 1, k, h, j, hj => by simp [lenN] at h
  | c :: r, n + 1, k, h, 0, hj => by simp [lenN]
  | c :: r, n + 1, k, h, j + 1, hj => by
    obtain ⟨a, m, ha, hm, rfl⟩ := lenN_some h
    rw [List.take_succ_cons, lenN_cons ha, lenN_cut hm j (by omega)]; rfl
theorem lenN_app {g : List Sym} : ∀ {r : List Int} {n k : Nat} (s : List Int), lenN g r n = some k → lenN g (r ++ s) n = some k
  | r, 0, k, s, h => by
    have e : k = 0 := by cases r <;> simp [lenN] at h <;> omega
    subst e
    cases r ++ s <;> simp [lenN]
  | [], n + 1, k, s, h => by simp [lenN] at h
  | c :: r, n + 1, k, s, h => by
    obtain ⟨a, m, ha, hm, rfl⟩ := lenN_some h
    rw [List.cons_append, lenN_cons ha, lenN_app s hm]; rfl
theorem lenN_take {g : List Sym} : ∀ {r : List Int} {n k : Nat}, lenN g r n = some k → lenN g (r.take k) n = some k
  | r, 0, k, h => by
    have e : k = 0 := by cases r <;> simp [lenN] at h <;> omega
    subst e
    cases r <;> simp [lenN]
  | [], n + 1, k, h => by simp [lenN] at h
  | c :: r, n + 1, k, h => by
    obtain ⟨a, m, ha, hm, rfl⟩ := lenN_some h
    rw [List.take_succ_cons, lenN_cons ha, lenN_take hm]; rfl
theorem lenN_split {g : List Sym} : ∀ {r : List Int} {n k : Nat} (m : Nat), lenN g r n = some k → lenN g r (n + m) = (lenN g (r.drop k) m).map (k + ·)
  | r, 0, k, m, h => by
    have e : k = 0 := by cases r <;> simp [lenN] at h <;> omega
    subst e
    simp
  | [], n + 1, k, m, h => by simp [lenN] at h
  | c :: r, n + 1, k, m, h => by
    obtain ⟨a, j, ha, hm, rfl⟩ := lenN_some h
    rw [show n + 1 + m = (n + m) + 1 by omega, lenN_cons ha, show n + m + a = (n + a) + m by omega, lenN_split m hm, List.drop_succ_cons]
    cases lenN g (r.drop j) m <;> simp; omega
theorem lenN_first {g : List Sym} {r : List Int} {n k : Nat} (h : lenN g r (n + 1) = some k) : ∃ k1 k2, lenN g r 1 = some k1 ∧ lenN g (r.drop k1) n = some k2 ∧ k = k1 + k2 := by
  have : ∃ k1, lenN g r 1 = some k1 := by
    have hgen : ∀ (r : List Int) (i j : Nat) {k : Nat}, lenN g r (i + j) = some k → ∃ k1, lenN g r i = some k1 := by
      intro r
      induction r with
      | nil =>
        intro i j k h
        cases i with
        | zero => exact ⟨0, rfl⟩
        | succ i => rw [show i + 1 + j = (i + j) + 1 by omega] at h; simp [lenN] at h
      | cons c r ih =>
        intro i j k h
        cases i with
        | zero => exact ⟨0, rfl⟩
        | succ i =>
          rw [show i + 1 + j = (i + j) + 1 by omega] at h
          obtain ⟨a, m, ha, hm, rfl⟩ := lenN_some h
          rw [show i + j + a = (i + a) + j by omega] at hm
          obtain ⟨k1, hk⟩ := ih (i + a) j hm
          exact ⟨k1 + 1, by rw [lenN_cons ha, hk]; rfl⟩
    exact hgen r 1 n (by rw [Nat.add_comm]; exact h)
  obtain ⟨k1, h1⟩ := this
  have h2 := lenN_split n h1
  rw [Nat.add_comm 1 n, h] at h2
  cases h3 : lenN g (r.drop k1) n with
  | none => rw [h3] at h2; cases h2
  | some k2 => rw [h3] at h2; simp at h2; exact ⟨k1, k2, h1, h3, h2⟩
/-! ### Rows -/
theorem parts_one {g : List Sym} {r : List Int} {k : Nat} (h : lenN g r 1 = some k) : parts g (r.take k) = some [r.take k] := by
  have hle := lenN_le h
  have hne : r.take k ≠ [] := by
    intro e
    have := congrArg List.length e
    rw [List.length_take] at this; simp only [List.length_nil] at this; omega
  rw [parts_some hne (lenN_take h)]
  have e1 : (r.take k).drop k = [] := List.drop_of_length_le (by simp; omega)
  have e2 : (r.take k).take k = r.take k := List.take_of_length_le (by simp; omega)
  rw [e1, e2, parts_nil]; rfl
/-- A row begins with a term, and the others follow. -/
theorem parts_cases {g : List Sym} {r : List Int} {ts : List (List Int)} (h : parts g r = some ts) : (r = [] ∧ ts = []) ∨ ∃ k us, lenN g r 1 = some k ∧ parts g (r.drop k) = some us ∧ ts = r.take k :: us ∧ r ≠ [] := by
  by_cases hr : r = []
  · subst hr; rw [parts_nil] at h; cases h; exact Or.inl ⟨rfl, rfl⟩
  · cases hl : lenN g r 1 with
    | none => rw [parts_none hr hl] at h; cases h
    | some k =>
      rw [parts_some hr hl] at h
      obtain ⟨us, h1, rfl⟩ := Option.map_eq_some_iff.1 h
      exact Or.inr ⟨k, us, rfl, h1, rfl, hr⟩
theorem parts_app {g : List Sym} : ∀ (n : Nat) {a b : List Int} {ts us : List (List Int)}, a.length ≤ n → parts g a = some ts → parts g b = some us → parts g (a ++ b) = some (ts ++ us)
  | n, a, b, ts, us, hn, ha, hb => by
    rcases parts_cases ha with ⟨rfl, rfl⟩ | ⟨k, vs, hl, hv, rfl, hne⟩
    · simpa using hb
    · have hle := lenN_le hl
      match n, hn with
      | 0, hn => exact absurd (List.length_eq_zero_iff.1 (Nat.le_zero.1 hn)) hne
      | n + 1, hn =>
        have h1 := parts_app n (a := a.drop k) (b := b) (by simp; omega) hv hb
        rw [parts_some (by simp [hne]) (lenN_app b hl), List.drop_append_of_le_length hle.1, h1, List.take_append_of_le_length hle.1]
        rfl
theorem parts_join {g : List Sym} {a b : List Int} {ts us : List (List Int)} (ha : parts g a = some ts) (hb : parts g b = some us) : parts g (a ++ b) = some (ts ++ us) := parts_app _ (Nat.le_refl _) ha hb
theorem parts_lenN {g : List Sym} : ∀ {n : Nat} {r : List Int} {k : Nat}, lenN g r n = some k → ∃ ts, parts g (r.take k) = some ts ∧ ts.length = n
  | 0, r, k, h => by
    have e : k = 0 := by cases r <;> simp [lenN] at h <;> omega
    subst e
    exact ⟨[], by simp [parts_nil], rfl⟩
  | n + 1, r, k, h => by
    obtain ⟨k1, k2, h1, h2, rfl⟩ := lenN_first h
    obtain ⟨us, h3, h4⟩ := parts_lenN h2
    refine ⟨r.take k1 :: us, ?_, by simp [h4]⟩
    rw [List.take_add]
    exact parts_join (parts_one h1) h3
/-- What stands behind a term's first code is a row. -/
theorem parts_tail {g : List Sym} {r : List Int} {k : Nat} (h : lenN g r 1 = some k) : ∃ ts, parts g (r.take k).tail = some ts := by
  cases r with
  | nil => simp [lenN] at h
  | cons c r =>
    obtain ⟨a, m, ha, hm, rfl⟩ := lenN_some h
    obtain ⟨ts, h1, _⟩ := parts_lenN hm
    exact ⟨ts, by simpa using h1⟩
/-- The last code is taken off. -/
theorem parts_cut {g : List Sym} : ∀ (n : Nat) {r : List Int} {us : List (List Int)} {t : List Int}, r.length ≤ n → parts g r = some (us ++ [t]) → parts g r.dropLast = if t.length = 1 then some us else none
  | n, r, us, t, hn, h => by
    rcases parts_cases h with ⟨rfl, h1⟩ | ⟨k, vs, hl, hv, he, hne⟩
    · simp at h1
    · have hle := lenN_le hl
      cases us with
      | nil =>
        simp at he
        obtain ⟨rfl, rfl⟩ := he
        have hk : r.length = k := by
          have := (parts_lens _ _ (Nat.le_refl _) hv).2
          simp at this; omega
        by_cases h1 : k = 1
        · have e1 : r.dropLast = [] := by rw [List.dropLast_eq_take]; simp; omega
          rw [if_pos (by simp; omega), e1, parts_nil]
        · have e1 : r.dropLast ≠ [] := by intro e; have := congrArg List.length e; simp at this; omega
          rw [if_neg (by simp; omega), parts_none e1]
          rw [List.dropLast_eq_take]
          exact lenN_cut hl _ (by omega)
      | cons u us =>
        simp at he
        obtain ⟨rfl, rfl⟩ := he
        match n, hn with
        | 0, hn => exact absurd (List.length_eq_zero_iff.1 (Nat.le_zero.1 hn)) hne
        | n + 1, hn =>
          have h1 := parts_cut n (r := r.drop k) (by simp; omega) hv
          have h2 : r.drop k ≠ [] := by intro e; rw [e, parts_nil] at hv; simp at hv
          have h3 : k < r.length := by
            have := List.length_pos_iff.2 h2; simp at this; omega
          have e1 : r.dropLast = r.take k ++ (r.drop k).dropLast := by
            rw [List.dropLast_eq_take, List.dropLast_eq_take, List.length_drop, ← List.take_add]
            congr 1; omega
          have e0 : r.take k ≠ [] := by intro e; have := congrArg List.length e; rw [List.length_take] at this; simp only [List.length_nil] at this; omega
          have hl2 : lenN g (r.take k ++ (r.drop k).dropLast) 1 = some k := lenN_app _ (lenN_take hl)
          rw [e1, parts_some (by simp [e0]) hl2, List.drop_append_of_le_length (by simp; omega), List.take_append_of_le_length (by simp; omega)]
          have e2 : (r.take k).drop k = [] := List.drop_of_length_le (by simp; omega)
          have e3 : (r.take k).take k = r.take k := List.take_of_length_le (by simp; omega)
          rw [e2, e3, List.nil_append, h1]
          split <;> rfl
theorem lenN_inner {g : List Sym} : ∀ {r : List Int} {n k : Nat}, lenN g r n = some k → ∀ i, i < k → ∃ j, lenN g (r.drop i) 1 = some j
  | r, 0, k, h, i, hi => by cases r <;> (simp [lenN] at h; omega)
  | [], n + 1, k, h, i, hi => by simp [lenN] at h
  | c :: r, n + 1, k, h, 0, hi => by
    obtain ⟨k1, k2, h1, _, _⟩ := lenN_first h
    exact ⟨k1, h1⟩
  | c :: r, n + 1, k, h, i + 1, hi => by
    obtain ⟨a, m, ha, hm, rfl⟩ := lenN_some h
    rw [List.drop_succ_cons]
    exact lenN_inner hm i (by omega)
theorem parts_all {g : List Sym} : ∀ (n : Nat) {r : List Int} {ts : List (List Int)}, r.length ≤ n → parts g r = some ts → lenN g r ts.length = some r.length
  | n, r, ts, hn, h => by
    rcases parts_cases h with ⟨rfl, rfl⟩ | ⟨k, vs, hl, hv, rfl, hne⟩
    · rfl
    · have hle := lenN_le hl
      match n, hn with
      | 0, hn => exact absurd (List.length_eq_zero_iff.1 (Nat.le_zero.1 hn)) hne
      | n + 1, hn =>
        have h1 := parts_all n (r := r.drop k) (by simp; omega) hv
        have h2 := lenN_split vs.length hl
        rw [h1] at h2
        rw [List.length_cons, Nat.add_comm, h2]
        simp; omega
/-- From each place of a row a term begins. -/
theorem parts_inner {g : List Sym} {r : List Int} {ts : List (List Int)} (h : parts g r = some ts) {i : Nat} (hi : i < r.length) : ∃ j, lenN g (r.drop i) 1 = some j :=
  lenN_inner (parts_all _ (Nat.le_refl _) h) i hi
theorem rowB_parts {g : List Sym} {r : List Int} (h : rowB g r = true) : sigB g = true ∧ r.length ≤ 48 ∧ ∃ ts, parts g r = some ts ∧ rowP g r = some ts := by
  simp only [rowB, Bool.and_eq_true, rowP] at h
  by_cases h1 : r.length ≤ 48
  · rw [if_pos h1] at h
    obtain ⟨ts, hts⟩ := Option.isSome_iff_exists.1 h.2
    exact ⟨h.1, h1, ts, hts, by simp [rowP, h1, hts]⟩
  · rw [if_neg h1] at h; simp at h
theorem rowB_of {g : List Sym} {r : List Int} {ts : List (List Int)} (hg : sigB g = true) (hr : r.length ≤ 48) (h : parts g r = some ts) : rowB g r = true := by
  simp [rowB, hg, rowP, hr, h]
theorem termsN_of {g : List Sym} {r : List Int} {ts : List (List Int)} (hg : sigB g = true) (hr : r.length ≤ 48) (h : parts g r = some ts) : termsN g r = ts.length := by
  simp [termsN, begsM, hg, rowP, hr, h, begs_len]
theorem termsN_no {g : List Sym} {r : List Int} (h : rowB g r = false) : termsN g r = 0 := by
  simp only [rowB, Bool.and_eq_false_iff] at h
  unfold termsN begsM
  rcases h with h | h
  · simp [h]
  · cases hp : rowP g r with
    | none => simp
    | some ts => rw [hp] at h; simp at h
theorem begsM_no {g : List Sym} {r : List Int} (h : rowB g r = false) : begsM g r = [] := List.length_eq_zero_iff.1 (termsN_no h)
theorem row_codes {g : List Sym} {r : List Int} (h : rowB g r = true) : ∀ c ∈ r, -24 ≤ c ∧ c < g.length := by
  obtain ⟨hg, hr, ts, hts, _⟩ := rowB_parts h
  intro c hc
  exact arOf_lt (parts_codes _ r (Nat.le_refl _) hts c hc)
theorem row_known {g : List Sym} {r : List Int} (h : rowB g r = true) : Known g r := fun c hc => (row_codes h c hc).2
theorem row_len {g : List Sym} {r : List Int} (h : rowB g r = true) : Len r := by
  have := (rowB_parts h).2.1
  unfold Len; omega
/-! ### How deep -/
def dep (g : List Sym) (r : List Int) : Nat :=
  if hr : r = [] then 0 else match h : lenN g r 1 with
    | none => 0
    | some k => max (1 + dep g (r.take k).tail) (dep g (r.drop k))
termination_by r.length
decreasing_by
  · have := lenN_le h
    have : r.length ≠ 0 := fun e => hr (List.length_eq_zero_iff.1 e)
    simp; omega
  · have := lenN_le h
    have : r.length ≠ 0 := fun e => hr (List.length_eq_zero_iff.1 e)
    simp; omega
theorem dep_nil (g : List Sym) : dep g [] = 0 := by rw [dep]; simp
theorem dep_some {g : List Sym} {r : List Int} {k : Nat} (h : lenN g r 1 = some k) : dep g r = max (1 + dep g (r.take k).tail) (dep g (r.drop k)) := by
  have hr : r ≠ [] := by rintro rfl; simp [lenN] at h
  rw [dep]; rw [dif_neg hr]; split
  · rename_i hk; rw [h] at hk; cases hk
  · rename_i k' hk; rw [h] at hk; cases hk; rfl
theorem dep_one {g : List Sym} {r : List Int} {k : Nat} (h : lenN g r 1 = some k) : dep g (r.take k) = 1 + dep g (r.take k).tail := by
  have hle := lenN_le h
  rw [dep_some (lenN_take h)]
  have e2 : (r.take k).drop k = [] := List.drop_of_length_le (by simp; omega)
  have e3 : (r.take k).take k = r.take k := List.take_of_length_le (by simp; omega)
  rw [e2, e3, dep_nil]; omega
theorem dep_first {g : List Sym} {r : List Int} {k : Nat} (h : lenN g r 1 = some k) : dep g r = max (dep g (r.take k)) (dep g (r.drop k)) := by
  rw [dep_some h, dep_one h]
theorem dep_app {g : List Sym} : ∀ (n : Nat) {a b : List Int} {ts : List (List Int)}, a.length ≤ n → parts g a = some ts → dep g (a ++ b) = max (dep g a) (dep g b)
  | n, a, b, ts, hn, ha => by
    rcases parts_cases ha with ⟨rfl, rfl⟩ | ⟨k, vs, hl, hv, rfl, hne⟩
    · simp [dep_nil]
    · have hle := lenN_le hl
      match n, hn with
      | 0, hn => exact absurd (List.length_eq_zero_iff.1 (Nat.le_zero.1 hn)) hne
      | n + 1, hn =>
        have h1 := dep_app n (a := a.drop k) (b := b) (by simp; omega) hv
        rw [dep_some (lenN_app b hl), dep_some hl, List.drop_append_of_le_length hle.1, h1, List.take_append_of_le_length hle.1]
        omega
theorem dep_join {g : List Sym} {a b : List Int} {ts : List (List Int)} (ha : parts g a = some ts) : dep g (a ++ b) = max (dep g a) (dep g b) := dep_app _ (Nat.le_refl _) ha
theorem dep_le {g : List Sym} : ∀ (n : Nat) (r : List Int), r.length ≤ n → dep g r ≤ r.length
  | n, r, hn => by
    by_cases hr : r = []
    · subst hr; simp [dep_nil]
    · cases hl : lenN g r 1 with
      | none => rw [dep, dif_neg hr]; split <;> simp_all
      | some k =>
        have hle := lenN_le hl
        match n, hn with
        | 0, hn => exact absurd (List.length_eq_zero_iff.1 (Nat.le_zero.1 hn)) hr
        | n + 1, hn =>
          have h1 := dep_le (g := g) n (r.take k).tail (by simp; omega)
          have h2 := dep_le (g := g) n (r.drop k) (by simp; omega)
          rw [dep_some hl]
          simp at h1 h2; omega
/-- The depth, with what is open counted in a stack. -/
def popS : List Nat → List Nat
  | [] => []
  | n :: s => if 1 < n then (n - 1) :: s else popS s
def runD (g : List Sym) : List Int → List Nat → Nat → Nat
  | [], _, m => m
  | c :: r, s, m => if 0 < (arOf g c).getD 0 then runD g r ((arOf g c).getD 0 :: s) (max m (s.length + 1)) else runD g r (popS s) (max m (s.length + 1))
theorem run_many {g : List Sym} (N : Nat) (hA : ∀ r : List Int, r.length ≤ N → ∀ k s m, lenN g r 1 = some k → runD g r s m = runD g (r.drop k) (popS s) (max m (s.length + dep g (r.take k)))) :
    ∀ (n : Nat) (r : List Int), r.length ≤ N → ∀ k s m, lenN g r (n + 1) = some k → runD g r ((n + 1) :: s) m = runD g (r.drop k) (popS s) (max m (s.length + 1 + dep g (r.take k)))
  | 0, r, hr, k, s, m, h => by rw [hA r hr k _ m h]; simp [popS]
  | n + 1, r, hr, k, s, m, h => by
    obtain ⟨k1, k2, h1, h2, rfl⟩ := lenN_first h
    have hle := lenN_le h1
    have hle2 := lenN_le h2
    rw [hA r hr k1 _ m h1]
    have e1 : popS ((n + 1 + 1) :: s) = (n + 1) :: s := by simp [popS]
    have e2 : dep g (r.take (k1 + k2)) = max (dep g (r.take k1)) (dep g ((r.drop k1).take k2)) := by
      rw [List.take_add]; exact dep_join (parts_one h1)
    rw [e1, run_many N hA n (r.drop k1) (by simp; omega) k2 s _ h2, List.drop_drop, e2]
    simp only [List.length_cons]
    congr 1
    omega
theorem run_term {g : List Sym} : ∀ (N : Nat) (r : List Int), r.length ≤ N → ∀ k s m, lenN g r 1 = some k → runD g r s m = runD g (r.drop k) (popS s) (max m (s.length + dep g (r.take k)))
  | N, [], hr, k, s, m, h => by simp [lenN] at h
  | 0, c :: r, hr, k, s, m, h => by simp at hr
  | N + 1, c :: r, hr, k, s, m, h => by
    obtain ⟨a, j, ha, hm, rfl⟩ := lenN_some h
    rw [Nat.zero_add] at hm
    have hd := dep_one h
    rw [List.take_succ_cons, List.tail_cons] at hd
    rw [List.drop_succ_cons, List.take_succ_cons, hd]
    cases a with
    | zero =>
      have e : j = 0 := by cases r <;> simp [lenN] at hm <;> omega
      subst e
      simp [runD, ha, dep_nil]
    | succ a =>
      have h1 := run_many N (run_term N) a r (by simp at hr; omega) j s (max m (s.length + 1)) hm
      simp [runD, ha, h1]
      congr 1
      omega
theorem run_row {g : List Sym} : ∀ (n : Nat) {r : List Int} {ts : List (List Int)} (m : Nat), r.length ≤ n → parts g r = some ts → runD g r [] m = max m (dep g r)
  | n, r, ts, m, hn, h => by
    rcases parts_cases h with ⟨rfl, rfl⟩ | ⟨k, vs, hl, hv, rfl, hne⟩
    · simp [runD, dep_nil]
    · have hle := lenN_le hl
      match n, hn with
      | 0, hn => exact absurd (List.length_eq_zero_iff.1 (Nat.le_zero.1 hn)) hne
      | n + 1, hn =>
        rw [run_term _ r (Nat.le_refl _) k [] m hl, dep_first hl]
        have := run_row n (r := r.drop k) (max m (dep g (r.take k))) (by simp; omega) hv
        simp [popS, this]
/-- The stack as a row of numbers, its top behind. -/
def stk (s : List Nat) : List D := ints (@List.map Nat Int (fun n => (n : Int)) s.reverse)
theorem stk_nil : stk [] = [] := rfl
theorem stk_cons (n : Nat) (s : List Nat) : stk (n :: s) = stk s ++ [.int .i64 (n : Int)] := by simp [stk, ints]
theorem stk_len (s : List Nat) : (stk s).length = s.length := by simp [stk, ints]
theorem stk_top (n : Nat) (s : List Nat) : (stk (n :: s))[s.length]? = some (.int .i64 (n : Int)) := by
  rw [stk_cons, ← stk_len s]; simp
theorem stk_set (n m : Nat) (s : List Nat) : (stk (n :: s)).set s.length (.int .i64 (m : Int)) = stk (m :: s) := by
  rw [stk_cons, stk_cons, ← stk_len s, List.set_append_right _ _ (Nat.le_refl _)]; simp
theorem stk_take (n : Nat) (s : List Nat) : (stk (n :: s)).take s.length = stk s := by
  rw [stk_cons, ← stk_len s]; simp
def mxN (m k : Nat) : Nat := max m k
theorem mxN_eq (m k : Nat) : (if (k : Int) > m then (k : Int) else (m : Int)) = (mxN m k : Int) := by
  unfold mxN; split <;> omega
theorem popS_len : ∀ (s : List Nat), (popS s).length ≤ s.length
  | [] => Nat.le_refl _
  | n :: s => by
    rw [popS]; split
    · simp
    · have := popS_len s; simp; omega
theorem popS_mem : ∀ {s : List Nat}, (∀ n ∈ s, 1 ≤ n ∧ n ≤ 3) → ∀ n ∈ popS s, 1 ≤ n ∧ n ≤ 3
  | [], h, n, hn => by simp [popS] at hn
  | k :: s, h, n, hn => by
    rw [popS] at hn; split at hn
    · rcases List.mem_cons.1 hn with rfl | hn
      · have := h k (by simp); omega
      · exact h n (by simp [hn])
    · exact popS_mem (fun n hn => h n (by simp [hn])) n hn
theorem runD_go {g : List Sym} {r : List Int} {i : Nat} (h : i < r.length) (s : List Nat) (m : Nat) : runD g (r.drop i) s m = if 0 < (arOf g (gi r i)).getD 0 then runD g (r.drop (i + 1)) ((arOf g (gi r i)).getD 0 :: s) (mxN m (s.length + 1)) else runD g (r.drop (i + 1)) (popS s) (mxN m (s.length + 1)) := by
  rw [gi_drop h]; rfl
/-- The depth by the terms. -/
def depT (g : List Sym) : List (List Int) → Nat
  | [] => 0
  | t :: ts => mxN (1 + dep g t.tail) (depT g ts)
theorem dep_parts {g : List Sym} : ∀ (n : Nat) {r : List Int} {ts : List (List Int)}, r.length ≤ n → parts g r = some ts → dep g r = depT g ts
  | n, r, ts, hn, h => by
    rcases parts_cases h with ⟨rfl, rfl⟩ | ⟨k, vs, hl, hv, rfl, hne⟩
    · simp [dep_nil, depT]
    · have hle := lenN_le hl
      match n, hn with
      | 0, hn => exact absurd (List.length_eq_zero_iff.1 (Nat.le_zero.1 hn)) hne
      | n + 1, hn =>
        rw [dep_some hl, dep_parts n (r := r.drop k) (by simp; omega) hv, depT]; rfl
theorem parts_mem {g : List Sym} : ∀ (n : Nat) {r : List Int} {ts : List (List Int)}, r.length ≤ n → parts g r = some ts → ∀ t ∈ ts, t ≠ [] ∧ t.length ≤ r.length ∧ ∃ us, parts g t.tail = some us
  | n, r, ts, hn, h, t, ht => by
    rcases parts_cases h with ⟨rfl, rfl⟩ | ⟨k, vs, hl, hv, rfl, hne⟩
    · simp at ht
    · have hle := lenN_le hl
      match n, hn with
      | 0, hn => exact absurd (List.length_eq_zero_iff.1 (Nat.le_zero.1 hn)) hne
      | n + 1, hn =>
        rcases List.mem_cons.1 ht with rfl | ht
        · refine ⟨?_, by simp; omega, parts_tail hl⟩
          intro e; have := congrArg List.length e; rw [List.length_take] at this; simp only [List.length_nil] at this; omega
        · obtain ⟨h1, h2, h3⟩ := parts_mem n (r := r.drop k) (by simp; omega) hv t ht
          exact ⟨h1, by simp at h2; omega, h3⟩
theorem tkX_ints {n : Nat} {r : List Int} (h : n ≤ r.length) (e : List D) : tkX n (ints r) e = ints (r.take n) := by
  rw [tkX_eq _ _ _ (.inr (by rw [ints_len]; exact h)), List.take_append_of_le_length (by rw [ints_len]; exact h)]
  simp [ints]
theorem ints_drop (n : Nat) (r : List Int) : (ints r).drop n = ints (r.drop n) := by simp [ints]
theorem ints_take (n : Nat) (r : List Int) : (ints r).take n = ints (r.take n) := by simp [ints]
/-! ### Which variables -/
abbrev Up (l : List Int) : Prop := l.Pairwise (· < ·)
def lowS (vs : List Int) (v : Int) : Nat := (vs.takeWhile (fun x => decide (x < v))).length
def insS (vs : List Int) (v : Int) : List Int := if v ∈ vs then vs else vs.take (lowS vs v) ++ v :: vs.drop (lowS vs v)
def seenF : List Int → List Int → List Int
  | vs, [] => vs
  | vs, c :: r => seenF (if c < 0 then insS vs (-1 - c) else vs) r
theorem low_spec : ∀ {vs : List Int} (v : Int), Up vs → (∀ x ∈ vs.take (lowS vs v), x < v) ∧ (∀ x ∈ vs.drop (lowS vs v), v ≤ x) ∧ lowS vs v ≤ vs.length
  | [], v, h => by simp [lowS]
  | x :: vs, v, h => by
    obtain ⟨h1, h2⟩ := List.pairwise_cons.1 h
    obtain ⟨i1, i2, i3⟩ := low_spec (vs := vs) v h2
    by_cases hx : x < v
    · have e : lowS (x :: vs) v = lowS vs v + 1 := by simp [lowS, hx]
      rw [e, List.take_succ_cons, List.drop_succ_cons]
      refine ⟨fun y hy => ?_, i2, by simp; omega⟩
      rcases List.mem_cons.1 hy with rfl | hy
      · exact hx
      · exact i1 y hy
    · have e : lowS (x :: vs) v = 0 := by simp [lowS, hx]
      rw [e]
      refine ⟨by simp, fun y hy => ?_, by simp⟩
      rcases List.mem_cons.1 (by simpa using hy) with rfl | hy
      · omega
      · have := h1 y hy; omega
theorem mem_ins {vs : List Int} {v x : Int} : x ∈ insS vs v ↔ x ∈ vs ∨ x = v := by
  unfold insS
  split
  · rename_i h
    constructor
    · exact Or.inl
    · rintro (h1 | rfl)
      · exact h1
      · exact h
  · constructor
    · intro h
      rcases List.mem_append.1 h with h | h
      · exact Or.inl (List.mem_of_mem_take h)
      · rcases List.mem_cons.1 h with rfl | h
        · exact Or.inr rfl
        · exact Or.inl (List.mem_of_mem_drop h)
    · rintro (h | rfl)
      · rw [← List.take_append_drop (lowS vs v) vs] at h
        rcases List.mem_append.1 h with h | h
        · exact List.mem_append_left _ h
        · exact List.mem_append_right _ (List.mem_cons_of_mem _ h)
      · exact List.mem_append_right _ (List.mem_cons_self ..)
theorem up_ins {vs : List Int} {v : Int} (h : Up vs) : Up (insS vs v) := by
  unfold insS
  split
  · exact h
  · rename_i hv
    obtain ⟨h1, h2, h3⟩ := low_spec v h
    have h0 := h
    rw [← List.take_append_drop (lowS vs v) vs, Up, List.pairwise_append] at h0
    obtain ⟨a1, a2, a3⟩ := h0
    rw [Up, List.pairwise_append]
    refine ⟨a1, List.pairwise_cons.2 ⟨fun x hx => ?_, a2⟩, fun x hx y hy => ?_⟩
    · have hx2 := h2 x hx
      have : x ≠ v := fun e => hv (e ▸ List.mem_of_mem_drop hx)
      omega
    · rcases List.mem_cons.1 hy with rfl | hy
      · exact h1 x hx
      · exact a3 x hx y hy
theorem mem_seen : ∀ {r vs : List Int} {x : Int}, x ∈ seenF vs r ↔ x ∈ vs ∨ (0 ≤ x ∧ (-1 - x) ∈ r)
  | [], vs, x => by simp [seenF]
  | c :: r, vs, x => by
    rw [seenF, mem_seen (r := r)]
    by_cases hc : c < 0
    · rw [if_pos hc, mem_ins, List.mem_cons]
      constructor
      · rintro ((h | rfl) | ⟨h1, h2⟩)
        · exact Or.inl h
        · exact Or.inr ⟨by omega, Or.inl (by omega)⟩
        · exact Or.inr ⟨h1, Or.inr h2⟩
      · rintro (h | ⟨h1, h2 | h2⟩)
        · exact Or.inl (Or.inl h)
        · exact Or.inl (Or.inr (by omega))
        · exact Or.inr ⟨h1, h2⟩
    · rw [if_neg hc, List.mem_cons]
      constructor
      · rintro (h | ⟨h1, h2⟩)
        · exact Or.inl h
        · exact Or.inr ⟨h1, Or.inr h2⟩
      · rintro (h | ⟨h1, h2 | h2⟩)
        · exact Or.inl h
        · omega
        · exact Or.inr ⟨h1, h2⟩
theorem up_seen : ∀ {r vs : List Int}, Up vs → Up (seenF vs r)
  | [], vs, h => h
  | c :: r, vs, h => by
    rw [seenF]
    refine up_seen (r := r) ?_
    split
    · exact up_ins h
    · exact h
theorem mem_varsFrom {r : List Int} : ∀ {k v : Nat} {x : Int}, x ∈ varsFrom r k v ↔ (v : Int) ≤ x ∧ x < ((v + k : Nat) : Int) ∧ (-1 - x) ∈ r
  | 0, v, x => by
    simp only [varsFrom, List.not_mem_nil, false_iff]
    rintro ⟨h1, h2, h3⟩; omega
  | k + 1, v, x => by
    rw [varsFrom]
    have ih := mem_varsFrom (r := r) (k := k) (v := v + 1) (x := x)
    split
    · rename_i h
      simp at h
      rw [List.mem_cons, ih]
      constructor
      · rintro (rfl | ⟨h1, h2, h3⟩)
        · exact ⟨by omega, by omega, h⟩
        · exact ⟨by omega, by omega, h3⟩
      · rintro ⟨h1, h2, h3⟩
        by_cases e : x = v
        · exact Or.inl e
        · exact Or.inr ⟨by omega, by omega, h3⟩
    · rename_i h
      simp at h
      rw [ih]
      constructor
      · rintro ⟨h1, h2, h3⟩; exact ⟨by omega, by omega, h3⟩
      · rintro ⟨h1, h2, h3⟩
        have e : x ≠ v := by rintro rfl; exact h h3
        exact ⟨by omega, by omega, h3⟩
theorem up_varsFrom {r : List Int} : ∀ {k v : Nat}, Up (varsFrom r k v)
  | 0, v => List.Pairwise.nil
  | k + 1, v => by
    rw [varsFrom]
    split
    · refine List.pairwise_cons.2 ⟨fun x hx => ?_, up_varsFrom⟩
      have := (mem_varsFrom.1 hx).1
      omega
    · exact up_varsFrom
theorem up_ext : ∀ {a b : List Int}, Up a → Up b → (∀ x, x ∈ a ↔ x ∈ b) → a = b
  | [], [], _, _, _ => rfl
  | [], y :: b, _, _, h => by have := (h y).2 (by simp); simp at this
  | x :: a, [], _, _, h => by have := (h x).1 (by simp); simp at this
  | x :: a, y :: b, ha, hb, h => by
    obtain ⟨a1, a2⟩ := List.pairwise_cons.1 ha
    obtain ⟨b1, b2⟩ := List.pairwise_cons.1 hb
    have e : x = y := by
      have h1 := (h x).1 (by simp)
      have h2 := (h y).2 (by simp)
      rcases List.mem_cons.1 h1 with h1 | h1
      · exact h1
      · rcases List.mem_cons.1 h2 with h2 | h2
        · exact h2.symm
        · have := a1 y h2; have := b1 x h1; omega
    subst e
    rw [up_ext a2 b2 (fun z => ?_)]
    constructor
    · intro hz
      rcases List.mem_cons.1 ((h z).1 (by simp [hz])) with rfl | h1
      · have := a1 z hz; omega
      · exact h1
    · intro hz
      rcases List.mem_cons.1 ((h z).2 (by simp [hz])) with rfl | h1
      · have := b1 z hz; omega
      · exact h1
theorem seen_vars {r : List Int} (h : ∀ c ∈ r, -24 ≤ c) : seenF [] r = varsM r := by
  refine up_ext (up_seen List.Pairwise.nil) up_varsFrom (fun x => ?_)
  rw [mem_seen, varsM, mem_varsFrom]
  constructor
  · rintro (h1 | ⟨h1, h2⟩)
    · simp at h1
    · exact ⟨by omega, by have := h _ h2; omega, h2⟩
  · rintro ⟨h1, h2, h3⟩
    exact Or.inr ⟨by omega, h3⟩
theorem up_gi : ∀ {vs : List Int}, Up vs → ∀ {i j : Nat}, i < j → j < vs.length → gi vs i < gi vs j
  | vs, h, i, j, hij, hj => by
    have h1 := List.pairwise_iff_getElem.1 h i j (by omega) hj hij
    simpa [gi, hj, show i < vs.length by omega] using h1
theorem low_of : ∀ {vs : List Int} {v : Int} (i : Nat), i ≤ vs.length → (∀ k, k < i → gi vs k < v) → (∀ k, i ≤ k → k < vs.length → v ≤ gi vs k) → lowS vs v = i
  | [], v, i, h, h1, h2 => by simp at h; simp [lowS, h]
  | x :: vs, v, 0, h, h1, h2 => by
    have h3 := h2 0 (Nat.le_refl _) (by simp)
    simp [gi] at h3
    have h4 : ¬ x < v := by omega
    simp [lowS, h4]
  | x :: vs, v, i + 1, h, h1, h2 => by
    have h3 := h1 0 (by omega)
    simp [gi] at h3
    have e : lowS (x :: vs) v = lowS vs v + 1 := by simp [lowS, h3]
    rw [e, low_of (vs := vs) (v := v) i (by simpa using h) (fun k hk => by simpa [gi] using h1 (k + 1) (by omega)) (fun k hk hk2 => by simpa [gi] using h2 (k + 1) (by omega) (by simp; omega))]
theorem low_le : ∀ {vs : List Int} {v : Int}, lowS vs v ≤ vs.length
  | vs, v => (List.takeWhile_sublist _).length_le
theorem low_mem {vs : List Int} {v : Int} (h : Up vs) : v ∈ vs ↔ lowS vs v < vs.length ∧ gi vs (lowS vs v) = v := by
  obtain ⟨h1, h2, h3⟩ := low_spec v h
  constructor
  · intro hv
    rw [← List.take_append_drop (lowS vs v) vs] at hv
    rcases List.mem_append.1 hv with hv | hv
    · have := h1 v hv; omega
    · have hlt : lowS vs v < vs.length := by
        rcases Nat.lt_or_ge (lowS vs v) vs.length with hl | hl
        · exact hl
        · rw [List.drop_of_length_le hl] at hv; simp at hv
      refine ⟨hlt, ?_⟩
      rw [gi_drop hlt] at hv h2
      rcases List.mem_cons.1 hv with hv | hv
      · exact hv.symm
      · have h4 := h2 _ (List.mem_cons_self ..)
        obtain ⟨j, hj, he⟩ := List.getElem_of_mem hv
        simp at hj
        have h5 := up_gi h (i := lowS vs v) (j := lowS vs v + 1 + j) (by omega) (by omega)
        have h6 : gi vs (lowS vs v + 1 + j) = v := by
          rw [List.getElem_drop] at he
          simp [gi, show lowS vs v + 1 + j < vs.length by omega, he]
        omega
  · rintro ⟨h4, h5⟩
    rw [← h5]
    exact gi_mem h4
theorem ins_len {vs : List Int} {v : Int} : (insS vs v).length ≤ vs.length + 1 := by
  unfold insS
  split
  · omega
  · simp; omega
end Go.Qu

/- Rows of terms: what the program's and the reference's exported functions hand back. For every input; no condition. -/
set_option linter.unusedVariables false
set_option linter.unusedSimpArgs false
set_option maxRecDepth 100000
namespace Go.Proofs.YthemimhlhjfdaaaDoor.Ab
open Go Go.Ab Go.Qu Go.Proofs
attribute [local simp] and_assoc
theorem w_row (z z' : Bool) (g : List Sym) (e e' : List D) (r : List Int) : C 56 [iG z g e, iS z' r e'] = some (.tup [iI (termsN g r), iI (if rowB g r = true then 0 else 200)], [iG z g e, iS z' r e']) := by
  refine wfn (lk := []) rfl rfl (fnW_way (q56 _ _ z (syms g) e z' (ints r) e' _) ?_)
  have h1 := w_begins z z' g e e' r
  cases h : rowB g r
  · simp [-Bool.exists_bool, h1, h, termsN_no h]
  · simp [-Bool.exists_bool, h1, h, ints_len, termsN]
def endB (g : List Sym) (r : List Int) (i : Int) : Bool := rowB g r && (decide (0 ≤ i) && decide (i < r.length))
def endV (g : List Sym) (r : List Int) (i : Int) : Int := if endB g r i = true then skV g r i.toNat 1 else 0
theorem w_sum {g : List Sym} (hg : SigOk g) {r : List Int} (hr : Len r) (hk : Known g r) (z z' : Bool) (e e' : List D) : C 47 [iG z g e, iS z' r e'] = some (iI (sumW g r), [iG z g e, iS z' r e']) := by
  have hrl := hr.lt
  refine wfn (lk := []) rfl rfl (fnW_way (q47 _ _ z (syms g) e z' (ints r) e' _) ?_)
  have h1 := fun x hx => blk_fun (F := F) (d := d47) (lk := []) (p := [1,1,0,1,0,0]) (p0 := [1,1,0,1]) (id := 0) (by kernel_rfl) (st := fun (x : Nat × Int) => [(0, iG z g e), (5, iI x.2), (8, iS z' r e'), (9, iI r.length), (10, iI x.1)]) (I := fun x => x.1 ≤ r.length ∧ 0 ≤ x.2 ∧ x.2 ≤ 20 * x.1) (μ := fun x => r.length - x.1)
    (res := fun x => .norm [(0, iG z g e), (5, iI (x.2 + sumW g (r.drop x.1))), (8, iS z' r e'), (9, iI r.length), (10, iI r.length)])
    (fun x hx => by
      obtain ⟨i, k⟩ := x
      obtain ⟨hx1, hx2, hx3⟩ := hx
      dsimp only at hx1 hx2 hx3
      by_cases hi : i < r.length
      · have hc := hk _ (gi_mem hi)
        have hcw := codeW_le hg _ hc
        have hi' : (i : Int) < r.length := by omega
        have hw : IntKind.wrap .i64 (k + codeW g (gi r i)) = k + codeW g (gi r i) := wr _ (by omega) (by omega)
        refine .go (i + 1, k + codeW g (gi r i)) (wpQ_way (q47_l0a _ _ z (syms g) e k z' (ints r) e' _ i _) ?_) ⟨by dsimp only; omega, by dsimp only; omega, by dsimp only; omega⟩ (by dsimp only; omega) ?_
        · by_cases h0 : gi r i < 0
          · have e1 : codeW g (gi r i) = 1 := by simp [codeW, h0]
            have h0n : ¬ 0 ≤ gi r i := by omega
            rw [e1] at hw ⊢
            simp [-Bool.exists_bool, -getElem?_pos, -Int.natCast_add, hi', Go.Ab.ints_at hi, h0, h0n, hw, wr1 hi (by omega)]
          · have h0' : 0 ≤ gi r i := by omega
            obtain ⟨s, hs⟩ := at_lt (l := g) (i := (gi r i).toNat) (by omega)
            have e1 : codeW g (gi r i) = s.wt := by simp [codeW, h0, hs]
            rw [e1] at hw ⊢
            simp [-Bool.exists_bool, -getElem?_pos, -Int.natCast_add, hi', Go.Ab.ints_at hi, h0, h0', syms_at hs, hw, wr1 hi (by omega)]
        · dsimp only
          rw [gi_drop hi, sumW, Int.add_assoc]
      · have e1 : i = r.length := by omega
        subst e1
        refine .stop (.exit 0 [(0, iG z g e), (5, iI k), (8, iS z' r e'), (9, iI r.length), (10, iI r.length)]) (wpQ_way (q47_l0a _ _ z (syms g) e k z' (ints r) e' _ _ _) (by simp)) rfl ?_
        simp [blkO, sumW]) x hx
  have h2 : evP F (Go.Ab.W F) (JW F d47 []) d47 [] [1,1,0,1] [(0, iG z g e), (5, iI 0), (8, iS z' r e'), (9, iI r.length), (10, iI 0)] = _ := h1 (0, 0) ⟨Nat.zero_le _, by decide, by decide⟩
  rw [List.drop_zero, Int.zero_add] at h2
  simp [-Bool.exists_bool, ints_len, h2]
theorem w_heavy {g : List Sym} (hg : SigOk g) {r : List Int} (hr : Len r) (hk : Known g r) (z z' : Bool) (e e' : List D) : C 40 [iG z g e, iS z' r e'] = some (iI (sumW g r), [iG z g e, iS z' r e']) := by
  have hrl := hr.lt
  refine wfn (lk := []) rfl rfl (fnW_way (q40 _ _ z (syms g) e z' (ints r) e' _) ?_)
  have h1 := fun x hx => blk_fun (F := F) (d := d40) (lk := []) (p := [1,1,0,1,0,0]) (p0 := [1,1,0,1]) (id := 0) (by kernel_rfl) (st := fun (x : Nat × Int) => [(0, iG z g e), (1, iS z' r e'), (5, iI x.2), (6, iI x.1)]) (I := fun x => x.1 ≤ r.length ∧ 0 ≤ x.2 ∧ x.2 ≤ 20 * x.1) (μ := fun x => r.length - x.1)
    (res := fun x => .norm [(0, iG z g e), (1, iS z' r e'), (5, iI (x.2 + sumW g (r.drop x.1))), (6, iI r.length)])
    (fun x hx => by
      obtain ⟨i, k⟩ := x
      obtain ⟨hx1, hx2, hx3⟩ := hx
      dsimp only at hx1 hx2 hx3
      by_cases hi : i < r.length
      · have hc := hk _ (gi_mem hi)
        have hcw := codeW_le hg _ hc
        have hi' : (i : Int) < r.length := by omega
        have hw : IntKind.wrap .i64 (k + codeW g (gi r i)) = k + codeW g (gi r i) := wr _ (by omega) (by omega)
        refine .go (i + 1, k + codeW g (gi r i)) (wpQ_way (q40_l0a _ _ z (syms g) e z' (ints r) e' k i _) ?_) ⟨by dsimp only; omega, by dsimp only; omega, by dsimp only; omega⟩ (by dsimp only; omega) ?_
        · by_cases h0 : gi r i < 0
          · have e1 : codeW g (gi r i) = 1 := by simp [codeW, h0]
            have h0n : ¬ 0 ≤ gi r i := by omega
            rw [e1] at hw ⊢
            simp [-Bool.exists_bool, -getElem?_pos, -Int.natCast_add, ints_len, hi', Go.Ab.ints_at hi, h0, h0n, hw, wr1 hi (by omega)]
          · have h0' : 0 ≤ gi r i := by omega
            obtain ⟨s, hs⟩ := at_lt (l := g) (i := (gi r i).toNat) (by omega)
            have e1 : codeW g (gi r i) = s.wt := by simp [codeW, h0, hs]
            rw [e1] at hw ⊢
            simp [-Bool.exists_bool, -getElem?_pos, -Int.natCast_add, ints_len, hi', Go.Ab.ints_at hi, h0, h0', syms_at hs, hw, wr1 hi (by omega)]
        · dsimp only
          rw [gi_drop hi, sumW, Int.add_assoc]
      · have e1 : i = r.length := by omega
        subst e1
        refine .stop (.exit 0 [(0, iG z g e), (1, iS z' r e'), (5, iI k), (6, iI r.length)]) (wpQ_way (q40_l0a _ _ z (syms g) e z' (ints r) e' k _ _) (by simp [ints_len])) rfl ?_
        simp [blkO, sumW]) x hx
  have h2 : evP F (Go.Ab.W F) (JW F d40 []) d40 [] [1,1,0,1] [(0, iG z g e), (1, iS z' r e'), (5, iI 0), (6, iI 0)] = _ := h1 (0, 0) ⟨Nat.zero_le _, by decide, by decide⟩
  rw [List.drop_zero, Int.zero_add] at h2
  simp [-Bool.exists_bool, h2]
/-! ### Numbers that rise -/
/-! ### The reference's -/
theorem termsM_of {g : List Sym} {r : List Int} (hg : sigB g = true) : termsM g r = if rowB g r = true then (termsN g r : Int) else -1 := by
  unfold termsM
  cases hp : rowP g r with
  | none => simp [rowB, hg, hp]
  | some ts => simp [rowB, hg, hp, termsN, begsM, begs_len]
theorem rowB_sig {g : List Sym} {r : List Int} (hg : sigB g = false) : rowB g r = false := by simp [rowB, hg]
end Go.Proofs.YthemimhlhjfdaaaDoor.Ab
