/- Written by a program of this session (wip/tools/abgen.py), out of the translation. Not trusted: Lean checks it. -/
import Derived.Test.YtoghhgceanlkkaaProg
import Derived.Test.YtoghhgceanlkkaaAbTab
import Derived.KernelRfl
set_option maxRecDepth 100000
set_option linter.unusedVariables false
namespace Go.Proofs.Ytoghhgceanlkkaa.Ab
open Go Go.Ab Go.Proofs
def k3 : Keep := assoc [] [(0, [0, 2, 4]), (1, [0, 2, 4, 7]), (2, [0, 2, 4, 7, 8, 9]), (3, [0, 7, 8, 9, 10, 11]), (4, [6])]
noncomputable def d3 : FnD := ⟨45, [.tmp 6], Try.f3.body.getD .skip, k3, false⟩
def k7 : Keep := assoc [] [(0, [0, 1000001]), (1, [0, 3, 1000001]), (2, [2, 1000001])]
noncomputable def d7 : FnD := ⟨12, [.tmp 2], Try.f7.body.getD .skip, k7, false⟩
def k8 : Keep := assoc [] [(0, [0, 2, 4]), (1, [0, 2, 4, 29]), (2, [6, 7]), (3, [0, 38]), (4, [6, 7]), (5, [6, 7])]
noncomputable def d8 : FnD := ⟨43, [.tmp 6, .tmp 7], Try.f8.body.getD .skip, k8, false⟩
def k9 : Keep := assoc [] [(0, [0, 2, 4]), (1, [0, 2, 4, 21]), (2, [6, 7]), (3, [0, 2, 4, 8]), (4, [0, 2, 4, 8, 9]), (5, [0, 2, 4, 8, 9, 25]), (6, [0, 2, 4, 8, 9]), (7, [0, 2, 4, 8, 9, 39]), (8, [6, 7]), (9, [0, 2, 4, 8, 9, 48]), (10, [0, 2, 4, 8, 9]), (11, [8, 59]), (12, [6, 7]), (13, [6, 7])]
noncomputable def d9 : FnD := ⟨61, [.tmp 6, .tmp 7], Try.f9.body.getD .skip, k9, false⟩
def k10 : Keep := assoc [] [(0, [0]), (1, [2])]
noncomputable def d10 : FnD := ⟨4, [.tmp 2], Try.f10.body.getD .skip, k10, false⟩
def k11 : Keep := assoc [] [(0, [0, 1]), (1, [0, 1, 5]), (2, [4])]
noncomputable def d11 : FnD := ⟨31, [.tmp 4], Try.f11.body.getD .skip, k11, false⟩
def k12 : Keep := assoc [] [(0, []), (1, [1, 2]), (2, [1, 2, 3, 4]), (3, [1, 2, 3, 4, 6]), (4, [1, 2, 3, 4, 6, 8]), (5, [0])]
noncomputable def d12 : FnD := ⟨58, [.tmp 0], Try.f12.body.getD .skip, k12, false⟩
def k14 : Keep := assoc [] [(0, [0]), (1, [2])]
noncomputable def d14 : FnD := ⟨6, [.tmp 2], Try.f14.body.getD .skip, k14, false⟩
def k15 : Keep := assoc [] [(0, [0]), (1, [0, 7]), (2, [0]), (3, [0, 3]), (4, [0, 3, 4]), (5, [0, 3, 4, 15]), (6, [0, 3, 4]), (7, [0, 3, 4]), (8, [2])]
noncomputable def d15 : FnD := ⟨25, [.tmp 2], Try.f15.body.getD .skip, k15, false⟩
def k16 : Keep := assoc [] [(0, [0]), (1, [0, 7]), (2, [0]), (3, [0, 3]), (4, [0, 3, 4]), (5, [0, 3, 4, 15]), (6, [0, 3, 4]), (7, [0, 3, 4]), (8, [2])]
noncomputable def d16 : FnD := ⟨25, [.tmp 2], Try.f16.body.getD .skip, k16, false⟩
def k17 : Keep := assoc [] [(0, [1]), (1, [2])]
noncomputable def d17 : FnD := ⟨21, [.tmp 2], Try.f17.body.getD .skip, k17, false⟩
def k18 : Keep := assoc [] [(0, [0, 1]), (1, [4])]
noncomputable def d18 : FnD := ⟨17, [.tmp 4], Try.f18.body.getD .skip, k18, false⟩
def k19 : Keep := assoc [] [(0, [0, 1]), (1, [0, 1, 7, 8]), (2, [0, 1, 7, 8, 9]), (3, [0, 1, 5, 7, 8]), (4, [0, 1, 5, 7, 8, 16]), (5, [4]), (6, [0, 1, 7, 8]), (7, [4])]
noncomputable def d19 : FnD := ⟨19, [.tmp 4], Try.f19.body.getD .skip, k19, false⟩
def k20 : Keep := assoc [] [(0, [1]), (1, [2])]
noncomputable def d20 : FnD := ⟨21, [.tmp 2], Try.f20.body.getD .skip, k20, false⟩
def k21 : Keep := assoc [] [(0, [0, 1]), (1, [0, 1, 10]), (2, [4]), (3, [0, 1, 5]), (4, [0, 1, 5, 14]), (5, [0, 1, 5]), (6, [0, 1, 5, 25]), (7, [4]), (8, [4])]
noncomputable def d21 : FnD := ⟨26, [.tmp 4], Try.f21.body.getD .skip, k21, false⟩
noncomputable def code : List (FuncId × FnD) := [(3, d3), (7, d7), (8, d8), (9, d9), (10, d10), (11, d11), (12, d12), (14, d14), (15, d15), (16, d16), (17, d17), (18, d18), (19, d19), (20, d20), (21, d21)]
theorem code_ok : CodeOk Try.prog code :=
  .cons Try.func3 ⟨rfl, rfl, rfl, by decide +kernel⟩ <|
  .cons Try.func7 ⟨rfl, rfl, rfl, by decide +kernel⟩ <|
  .cons Try.func8 ⟨rfl, rfl, rfl, by decide +kernel⟩ <|
  .cons Try.func9 ⟨rfl, rfl, rfl, by decide +kernel⟩ <|
  .cons Try.func10 ⟨rfl, rfl, rfl, by decide +kernel⟩ <|
  .cons Try.func11 ⟨rfl, rfl, rfl, by decide +kernel⟩ <|
  .cons Try.func12 ⟨rfl, rfl, rfl, by decide +kernel⟩ <|
  .cons Try.func14 ⟨rfl, rfl, rfl, by decide +kernel⟩ <|
  .cons Try.func15 ⟨rfl, rfl, rfl, by decide +kernel⟩ <|
  .cons Try.func16 ⟨rfl, rfl, rfl, by decide +kernel⟩ <|
  .cons Try.func17 ⟨rfl, rfl, rfl, by decide +kernel⟩ <|
  .cons Try.func18 ⟨rfl, rfl, rfl, by decide +kernel⟩ <|
  .cons Try.func19 ⟨rfl, rfl, rfl, by decide +kernel⟩ <|
  .cons Try.func20 ⟨rfl, rfl, rfl, by decide +kernel⟩ <|
  .cons Try.func21 ⟨rfl, rfl, rfl, by decide +kernel⟩ <|
  .nil _
def T : Tab := [
  (3, { desc := TypeDesc.int IntKind.i64, size := 1, bytes := 8, zero := D.int IntKind.i64 0 }),
  (4, { desc := TypeDesc.bool, size := 1, bytes := 1, zero := D.bool false }),
  (9, { desc := TypeDesc.string, size := 1, bytes := 16, zero := D.str { data := { toList := [] } } }),
  (22, { desc := TypeDesc.slice 3, size := 1, bytes := 24, zero := D.sl 1 true [] [] }),
  (24, { desc := TypeDesc.struct { toList := [{ name := "Re", type := 3, offset := 0, embedded := false, tag := "", pkgPath := "", byteOffset := 0 }, { name := "Im", type := 3, offset := 1, embedded := false, tag := "", pkgPath := "", byteOffset := 8 }] }, size := 2, bytes := 16, zero := D.agg [D.int IntKind.i64 0, D.int IntKind.i64 0] }),
  (26, { desc := TypeDesc.int IntKind.i64, size := 1, bytes := 8, zero := D.int IntKind.i64 0 }),
  (43, { desc := TypeDesc.complex FloatKind.f64, size := 1, bytes := 16, zero := D.cpx FloatKind.f64 0 0 }),
  (44, { desc := TypeDesc.float FloatKind.f64, size := 1, bytes := 8, zero := D.flt FloatKind.f64 0 })]
theorem tab_ok : TabOk Try.prog T := TabOk.of (l := [3, 4, 9, 22, 24, 26, 43, 44]) (by kernel_rfl)
end Go.Proofs.Ytoghhgceanlkkaa.Ab
