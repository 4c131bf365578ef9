/- StepReads: the row and the card. For every input; the condition is the row's own: the package variable is as its initialiser lays it. -/
import Derived.Test.YtjoibdmiolcodaaGreatDoorStepReads0
import Derived.Test.YtjoibdmiolcodaaGreatDoorStepReads1
import Derived.Test.YtjoibdmiolcodaaGreatDoorStepReads2
import Derived.Test.YtjoibdmiolcodaaGreatDoorStepReads3
import Derived.Test.YtjoibdmiolcodaaGreatDoorStepReads4
import Derived.Test.YtjoibdmiolcodaaGreatDoorStepReads5
import Derived.Test.YtjoibdmiolcodaaGreatDoorStepReads6
import Derived.Test.YtjoibdmiolcodaaGreatDoorStepReads7
import Derived.Test.YtjoibdmiolcodaaGreatDoorStepReads8
import Derived.Test.YtjoibdmiolcodaaGreatDoorStepReads9
import Derived.Test.YtjoibdmiolcodaaGreatDoorStepReads10
import Derived.Test.YtjoibdmiolcodaaGreatDoorStepReads11
import Derived.Test.YtjoibdmiolcodaaGreatDoorStepReads12
import Derived.Test.YtjoibdmiolcodaaGreatDoorStepReads13
import Derived.Test.YtjoibdmiolcodaaGreatDoorStepReads14
import Derived.Test.YtjoibdmiolcodaaGreatDoorStepReads15
import Derived.Test.YtjoibdmiolcodaaGreatDoorStepReads16
import Derived.Test.YtjoibdmiolcodaaGreatDoorStepReads17
namespace Go.Proofs.YtjoibdmiolcodaaGreatDoor.stepReads
open Go Go.Ab Go.ChangeShapes Go.WideShapes Go.ChangeAt Go.RowKit Go.Joins
set_option linter.unusedVariables false
set_option maxRecDepth 100000
theorem lifted (os : Os) (started : os.Started) (H : Type) (enc : TypeId × Value → H) :
    ReturnsInHanded {} Tryz.checked os 4 .any (fun w args => (Rows.stepReadsSpec.pre enc Tryz.prog Tryz.f4 [] false w args ∧ laidMetH Tryz.prog Go.Proofs.YtjoibdmiolcodaaGreatDoor.Ab.laid1 w) ∧ sizedMet enc Tryz.prog Tryz.f4 (OpenSpec.ofChange Rows.stepReadsSpec) false w args)
      (Rows.stepReadsSpec.post enc Tryz.prog Tryz.f4 false true false false) := by
  refine changed_and_shaped (C := Tryz.checked) (X := fun w _ => laidMetH Tryz.prog Go.Proofs.YtjoibdmiolcodaaGreatDoor.Ab.laid1 w) (fun _ _ _ hh h => h.of_heap hh) Go.Proofs.YtjoibdmiolcodaaGreatDoor.Ab.own started (by kernel_rfl) Tryz.func4
    (ChangeSpec.witness_shaped (enc := enc) (C := Tryz.checked) (os := os) (X := fun w _ => laidMetH Tryz.prog Go.Proofs.YtjoibdmiolcodaaGreatDoor.Ab.laid1 w) false (World.laidAll Tryz.prog os Go.Proofs.YtjoibdmiolcodaaGreatDoor.Ab.laid1) #[.slice none 0 0, .string ⟨#[]⟩] 8 (World.laidAll_os _ _ _) (Go.Proofs.YtjoibdmiolcodaaGreatDoor.Ab.door_shaped os) (by kernel_rfl) (by kernel_rfl) (by kernel_rfl) (Go.Proofs.YtjoibdmiolcodaaGreatDoor.Ab.door_met os _)) ?_
  intro W base args ds gs before hval0 hW _ hsz hL hsh _
  have hval : ∀ (j : Nat) t v, Tryz.f4.params[j]? = some t → args[j]? = some v → Value.okWide Tryz.prog W .any base t v := hval0
  have hW' := hW
  obtain ⟨p, q, hA0, hV, rfl, hfz, hnd⟩ := hW
  have hA : DataW.TrodAll enc Tryz.prog W 0 (fun _ => true) true Tryz.f4.params.toList args.toList ds p := hA0
  rw [Tryz.params4] at hA hval hsz
  obtain ⟨v0, vs0, d0, ds0, p0, q0, hargs, rfl, rfl, h0, r0⟩ := trodAll_cons hA
  obtain ⟨v1, vs1, d1, ds1, p1, q1, rfl, rfl, rfl, h1, r1⟩ := trodAll_cons r0
  obtain ⟨rfl, rfl, rfl⟩ := trodAll_nil r1
  obtain rfl : args = #[v0, v1] := by cases args; simp_all
  obtain ⟨rfl, rfl⟩ := trodVars_none hV
  simp only [List.cons_append, List.nil_append, List.append_nil, DataW.weightsEach, List.all_append, Bool.and_eq_true] at hsz
  obtain ⟨s0, s1, _⟩ := hsz
  obtain ⟨y0, g0, i0⟩ := arg_D (n := 12) (t := 22) (by kernel_rfl) (hval 0 22 v0 rfl rfl) h0 s0
  have lt0 : ∀ x ∈ p0, x.block < W.heap.size := by obtain ⟨m, hm⟩ := h0; exact DataW.trod_lt m _ _ _ hm
  obtain ⟨y1, g1, i1⟩ := arg_D (n := 12) (t := 9) (by kernel_rfl) (hval 1 9 v1 rfl rfl) h1 s1
  have lt1 : ∀ x ∈ p1, x.block < W.heap.size := by obtain ⟨m, hm⟩ := h1; exact DataW.trod_lt m _ _ _ hm
  clear hA0 hval0
  obtain ⟨outs, hlaw⟩ := Go.Proofs.YtjoibdmiolcodaaGreatDoor.Ab.call_stepreads y0 y1 g0 g1
  refine (law_run Go.Proofs.YtjoibdmiolcodaaGreatDoor.Ab.fxOk hlaw (Go.Proofs.YtjoibdmiolcodaaGreatDoor.Ab.globs hL hsh) (repL_cons i0 (repL_cons i1 (repL_nil)))).mono fun e W' ⟨he, bel⟩ => ?_
  subst he
  exact ⟨_, rfl, _, _, _, [], _, [], hW', trodAll_mk1 (shut_bool Tryz.underlying4 _), (trodAll_cons_mk (Below.trod Go.Proofs.YtjoibdmiolcodaaGreatDoor.Ab.laidOut (by kernel_rfl) (of_decide_eq_true (by kernel_rfl)) h0 bel lt0) (trodAll_cons_mk (Below.trod Go.Proofs.YtjoibdmiolcodaaGreatDoor.Ab.laidOut (by kernel_rfl) (of_decide_eq_true (by kernel_rfl)) h1 bel lt1) (trodAll_mk0))), rfl, bel.frame _, fun h => by cases h⟩
theorem over : Rows.stepReadsRow.holds Tryz.pinned (OpenSpec.ofChange Rows.stepReadsSpec) :=
  OpenClaim.holds_of_wide 4 Tryz.f4 rfl rfl rfl rfl rfl rfl rfl ⟨rfl, rfl, rfl, rfl, rfl⟩ rfl rfl rfl rfl rfl (by kernel_rfl) Tryz.func4 (by kernel_rfl)
    (of_decide_eq_true (by kernel_rfl)) (by unfold Func.isWrapper; first | (rw [if_pos (by decide +kernel)]; kernel_rfl) | (rw [if_neg (by decide +kernel)]; exact ⟨rfl, rfl⟩))
    (fun os started H enc _ => lifted os started H enc)
theorem proved : Rows.StepReadsCardSaid :=
  Claim7.holds_tied_plain_at .later [] [.data, .data, .data, .data, .data, .sentinel, .sentinel, .pinned] true (true, "bbf9d42bfdd4afc1b3e9a39a696f48dd281a29fb1773cd9716456fc433057fe4") true
    over (fun _ h => by cases h) (by kernel_rfl) (fun _ h => by cases h) stepReads_row_tie rfl ⟨rfl, rfl⟩ (by kernel_rfl) rfl
    (fun f fn hf hfn => by
      obtain rfl : f = 4 := Option.some.inj ((show Tryz.prog.funcNamed "quaere/quaerelaw17.StepReads" = some 4 by kernel_rfl).symm.trans hf) |>.symm
      obtain rfl : fn = Tryz.f4 := (Option.some.inj (Tryz.func4.symm.trans hfn)).symm
      exact ⟨by kernel_rfl, fun j t ht => by
        rw [Tryz.params4] at ht
        have hm : t ∈ [22, 9] := by simpa using Array.mem_of_getElem? ht
        have hall : ([22, 9].all fun u => !Tryz.prog.wantsStandIn u) = true := by kernel_rfl
        exact (show Tryz.prog.wantsStandIn t = false by simpa using List.all_eq_true.1 hall t hm)⟩)
    (by kernel_rfl)
#print axioms proved
end Go.Proofs.YtjoibdmiolcodaaGreatDoor.stepReads
namespace Go.Proofs.YtjoibdmiolcodaaGreatDoor
/-- The card, under a short name, for the claim. -/
theorem stepReads_holds : Rows.StepReadsCardSaid := stepReads.proved
end Go.Proofs.YtjoibdmiolcodaaGreatDoor
