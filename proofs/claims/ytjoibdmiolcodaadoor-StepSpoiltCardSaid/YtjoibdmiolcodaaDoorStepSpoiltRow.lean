/- StepSpoilt: the row and the card. For every input; the condition is the row's own: the package variable is as its initialiser lays it. -/
import Derived.Test.YtjoibdmiolcodaaDoorStepSpoilt0
import Derived.Test.YtjoibdmiolcodaaDoorStepSpoilt1
import Derived.Test.YtjoibdmiolcodaaDoorStepSpoilt2
import Derived.Test.YtjoibdmiolcodaaDoorStepSpoilt3
import Derived.Test.YtjoibdmiolcodaaDoorStepSpoilt4
import Derived.Test.YtjoibdmiolcodaaDoorStepSpoilt5
import Derived.Test.YtjoibdmiolcodaaDoorStepSpoilt6
import Derived.Test.YtjoibdmiolcodaaDoorStepSpoilt7
import Derived.Test.YtjoibdmiolcodaaDoorStepSpoilt8
import Derived.Test.YtjoibdmiolcodaaDoorStepSpoilt9
import Derived.Test.YtjoibdmiolcodaaDoorStepSpoilt10
import Derived.Test.YtjoibdmiolcodaaDoorStepSpoilt11
import Derived.Test.YtjoibdmiolcodaaDoorStepSpoilt12
import Derived.Test.YtjoibdmiolcodaaDoorStepSpoilt13
import Derived.Test.YtjoibdmiolcodaaDoorStepSpoilt14
import Derived.Test.YtjoibdmiolcodaaDoorStepSpoilt15
import Derived.Test.YtjoibdmiolcodaaDoorStepSpoilt16
namespace Go.Proofs.YtjoibdmiolcodaaDoor.stepSpoilt
open Go Go.Ab Go.ChangeShapes Go.WideShapes Go.ChangeAt Go.RowKit Go.Joins
set_option linter.unusedVariables false
set_option maxRecDepth 100000
theorem lifted (os : Os) (started : os.Started) (H : Type) (enc : TypeId × Value → H) :
    ReturnsInHanded {} Tryd.checked os 5 .any (fun w args => (Rows.stepSpoiltSpec.pre enc Tryd.prog Tryd.f5 [] false w args ∧ laidMetH Tryd.prog Go.Proofs.YtjoibdmiolcodaaDoor.Ab.laid1 w) ∧ sizedMet enc Tryd.prog Tryd.f5 (OpenSpec.ofChange Rows.stepSpoiltSpec) false w args)
      (Rows.stepSpoiltSpec.post enc Tryd.prog Tryd.f5 false true false false) := by
  refine changed_and_shaped (C := Tryd.checked) (X := fun w _ => laidMetH Tryd.prog Go.Proofs.YtjoibdmiolcodaaDoor.Ab.laid1 w) (fun _ _ _ hh h => h.of_heap hh) Go.Proofs.YtjoibdmiolcodaaDoor.Ab.own started (by kernel_rfl) Tryd.func5
    (ChangeSpec.witness_shaped (enc := enc) (C := Tryd.checked) (os := os) (X := fun w _ => laidMetH Tryd.prog Go.Proofs.YtjoibdmiolcodaaDoor.Ab.laid1 w) false (World.laidAll Tryd.prog os Go.Proofs.YtjoibdmiolcodaaDoor.Ab.laid1) #[.slice none 0 0, .agg #[.int .i64 0, .int .i64 0, .int .i64 0, .int .i64 0, .int .i64 0, .int .i64 0, .int .i64 0, .slice none 0 0, .slice none 0 0, .slice none 0 0], .int .i64 0] 8 (World.laidAll_os _ _ _) (Go.Proofs.YtjoibdmiolcodaaDoor.Ab.door_shaped os) (by kernel_rfl) (by kernel_rfl) (by kernel_rfl) (Go.Proofs.YtjoibdmiolcodaaDoor.Ab.door_met os _)) ?_
  intro W base args ds gs before hval0 hW _ hsz hL hsh _
  have hval : ∀ (j : Nat) t v, Tryd.f5.params[j]? = some t → args[j]? = some v → Value.okWide Tryd.prog W .any base t v := hval0
  have hW' := hW
  obtain ⟨p, q, hA0, hV, rfl, hfz, hnd⟩ := hW
  have hA : DataW.TrodAll enc Tryd.prog W 0 (fun _ => true) true Tryd.f5.params.toList args.toList ds p := hA0
  rw [Tryd.params5] at hA hval hsz
  obtain ⟨v0, vs0, d0, ds0, p0, q0, hargs, rfl, rfl, h0, r0⟩ := trodAll_cons hA
  obtain ⟨v1, vs1, d1, ds1, p1, q1, rfl, rfl, rfl, h1, r1⟩ := trodAll_cons r0
  obtain ⟨v2, vs2, d2, ds2, p2, q2, rfl, rfl, rfl, h2, r2⟩ := trodAll_cons r1
  obtain ⟨rfl, rfl, rfl⟩ := trodAll_nil r2
  obtain rfl : args = #[v0, v1, v2] := by cases args; simp_all
  obtain ⟨rfl, rfl⟩ := trodVars_none hV
  simp only [List.cons_append, List.nil_append, List.append_nil, DataW.weightsEach, List.all_append, Bool.and_eq_true] at hsz
  obtain ⟨s0, s1, s2, _⟩ := hsz
  obtain ⟨y0, g0, i0⟩ := arg_D (n := 12) (t := 22) (by kernel_rfl) (hval 0 22 v0 rfl rfl) h0 s0
  have lt0 : ∀ x ∈ p0, x.block < W.heap.size := by obtain ⟨m, hm⟩ := h0; exact DataW.trod_lt m _ _ _ hm
  obtain ⟨y1, g1, i1⟩ := arg_D (n := 12) (t := 28) (by kernel_rfl) (hval 1 28 v1 rfl rfl) h1 s1
  have lt1 : ∀ x ∈ p1, x.block < W.heap.size := by obtain ⟨m, hm⟩ := h1; exact DataW.trod_lt m _ _ _ hm
  obtain ⟨y2, g2, i2⟩ := arg_D (n := 12) (t := 3) (by kernel_rfl) (hval 2 3 v2 rfl rfl) h2 s2
  have lt2 : ∀ x ∈ p2, x.block < W.heap.size := by obtain ⟨m, hm⟩ := h2; exact DataW.trod_lt m _ _ _ hm
  clear hA0 hval0
  obtain ⟨outs, hlaw⟩ := Go.Proofs.YtjoibdmiolcodaaDoor.Ab.call_stepspoilt y0 y1 y2 g0 g1 g2
  refine (law_run Go.Proofs.YtjoibdmiolcodaaDoor.Ab.fxOk hlaw (Go.Proofs.YtjoibdmiolcodaaDoor.Ab.globs hL hsh) (repL_cons i0 (repL_cons i1 (repL_cons i2 (repL_nil))))).mono fun e W' ⟨he, bel⟩ => ?_
  subst he
  exact ⟨_, rfl, _, _, _, [], _, [], hW', trodAll_mk1 (shut_bool Tryd.underlying4 _), (trodAll_cons_mk (Below.trod Go.Proofs.YtjoibdmiolcodaaDoor.Ab.laidOut (by kernel_rfl) (of_decide_eq_true (by kernel_rfl)) h0 bel lt0) (trodAll_cons_mk (Below.trod Go.Proofs.YtjoibdmiolcodaaDoor.Ab.laidOut (by kernel_rfl) (of_decide_eq_true (by kernel_rfl)) h1 bel lt1) (trodAll_cons_mk (Below.trod Go.Proofs.YtjoibdmiolcodaaDoor.Ab.laidOut (by kernel_rfl) (of_decide_eq_true (by kernel_rfl)) h2 bel lt2) (trodAll_mk0)))), rfl, bel.frame _, fun h => by cases h⟩
theorem over : Rows.stepSpoiltRow.holds Tryd.pinned (OpenSpec.ofChange Rows.stepSpoiltSpec) :=
  OpenClaim.holds_of_wide 5 Tryd.f5 rfl rfl rfl rfl rfl rfl rfl ⟨rfl, rfl, rfl, rfl, rfl⟩ rfl rfl rfl rfl rfl (by kernel_rfl) Tryd.func5 (by kernel_rfl)
    (of_decide_eq_true (by kernel_rfl)) (by unfold Func.isWrapper; first | (rw [if_pos (by decide +kernel)]; kernel_rfl) | (rw [if_neg (by decide +kernel)]; exact ⟨rfl, rfl⟩))
    (fun os started H enc _ => lifted os started H enc)
theorem proved : Rows.StepSpoiltCardSaid :=
  Claim7.holds_tied_plain_at .later [] [.data, .data, .data, .data, .data, .sentinel, .sentinel, .pinned] true (true, "f762fd7a60a481c679c444a258c1eeae014ddfd713c6e2ab75a1a40ee0f86ee7") true
    over (fun _ h => by cases h) (by kernel_rfl) (fun _ h => by cases h) stepSpoilt_row_tie rfl ⟨rfl, rfl⟩ (by kernel_rfl) rfl
    (fun f fn hf hfn => by
      obtain rfl : f = 5 := Option.some.inj ((show Tryd.prog.funcNamed "quaere/quaerelaw17.StepSpoilt" = some 5 by kernel_rfl).symm.trans hf) |>.symm
      obtain rfl : fn = Tryd.f5 := (Option.some.inj (Tryd.func5.symm.trans hfn)).symm
      exact ⟨by kernel_rfl, fun j t ht => by
        rw [Tryd.params5] at ht
        have hm : t ∈ [22, 28, 3] := by simpa using Array.mem_of_getElem? ht
        have hall : ([22, 28, 3].all fun u => !Tryd.prog.wantsStandIn u) = true := by kernel_rfl
        exact (show Tryd.prog.wantsStandIn t = false by simpa using List.all_eq_true.1 hall t hm)⟩)
    (by kernel_rfl)
#print axioms proved
end Go.Proofs.YtjoibdmiolcodaaDoor.stepSpoilt
namespace Go.Proofs.YtjoibdmiolcodaaDoor
/-- The card, under a short name, for the claim. -/
theorem stepSpoilt_holds : Rows.StepSpoiltCardSaid := stepSpoilt.proved
end Go.Proofs.YtjoibdmiolcodaaDoor
