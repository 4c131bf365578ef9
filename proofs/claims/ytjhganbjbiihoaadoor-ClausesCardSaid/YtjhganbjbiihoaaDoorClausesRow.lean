/- Clauses: the row and the card. For every input; the condition is the row's own: the package variable is as its initialiser lays it. -/
import Derived.Test.YtjhganbjbiihoaaDoorClauses0
import Derived.Test.YtjhganbjbiihoaaDoorClauses1
import Derived.Test.YtjhganbjbiihoaaDoorClauses2
import Derived.Test.YtjhganbjbiihoaaDoorClauses3
import Derived.Test.YtjhganbjbiihoaaDoorClauses4
import Derived.Test.YtjhganbjbiihoaaDoorClauses5
import Derived.Test.YtjhganbjbiihoaaDoorClauses6
import Derived.Test.YtjhganbjbiihoaaDoorClauses7
import Derived.Test.YtjhganbjbiihoaaDoorClauses8
import Derived.Test.YtjhganbjbiihoaaDoorClauses9
import Derived.Test.YtjhganbjbiihoaaDoorClauses10
import Derived.Test.YtjhganbjbiihoaaDoorClauses11
import Derived.Test.YtjhganbjbiihoaaDoorClauses12
import Derived.Test.YtjhganbjbiihoaaDoorClauses13
import Derived.Test.YtjhganbjbiihoaaDoorClauses14
import Derived.Test.YtjhganbjbiihoaaDoorClauses15
import Derived.Test.YtjhganbjbiihoaaDoorClauses16
import Derived.Test.YtjhganbjbiihoaaDoorClauses17
import Derived.Test.YtjhganbjbiihoaaDoorClauses18
namespace Go.Proofs.YtjhganbjbiihoaaDoor.clauses
open Go Go.Ab Go.ChangeShapes Go.WideShapes Go.ChangeAt Go.RowKit Go.Joins
set_option linter.unusedVariables false
set_option maxRecDepth 100000
theorem lifted (os : Os) (started : os.Started) (H : Type) (enc : TypeId × Value → H) :
    ReturnsInHanded {} Tryd.checked os 3 .any (fun w args => (Rows.clausesSpec.pre enc Tryd.prog Tryd.f3 [] false w args ∧ laidMetH Tryd.prog Go.Proofs.YtjhganbjbiihoaaDoor.Ab.laid1 w) ∧ sizedMet enc Tryd.prog Tryd.f3 (OpenSpec.ofChange Rows.clausesSpec) false w args)
      (Rows.clausesSpec.post enc Tryd.prog Tryd.f3 false true false false) := by
  refine returnsInHanded_of_change_and (C := Tryd.checked) (X := fun w _ => laidMetH Tryd.prog Go.Proofs.YtjhganbjbiihoaaDoor.Ab.laid1 w) (fun _ _ _ hh h => h.of_heap hh) Go.Proofs.YtjhganbjbiihoaaDoor.Ab.own started (by kernel_rfl) Tryd.func3
    (ChangeSpec.witness_shaped (enc := enc) (C := Tryd.checked) (os := os) (X := fun w _ => laidMetH Tryd.prog Go.Proofs.YtjhganbjbiihoaaDoor.Ab.laid1 w) false (World.doorLaid Tryd.prog 400 os) #[.slice none 0 0, .agg #[.slice none 0 0, .slice none 0 0, .slice none 0 0], .agg #[.slice none 0 0, .slice none 0 0, .slice none 0 0]] 8 rfl (World.shaped_of_RefB (by kernel_rfl) (by kernel_rfl)) (by kernel_rfl) (by kernel_rfl) (by kernel_rfl) (Go.Proofs.YtjhganbjbiihoaaDoor.Ab.door_met os _)) ?_
  intro W base args ds gs before hval0 hW _ hsz hL _
  have hval : ∀ (j : Nat) t v, Tryd.f3.params[j]? = some t → args[j]? = some v → Value.okWide Tryd.prog W .any base t v := hval0
  have hW' := hW
  obtain ⟨p, q, hA0, hV, rfl, hfz, hnd⟩ := hW
  have hA : DataW.TrodAll enc Tryd.prog W 0 (fun _ => true) true Tryd.f3.params.toList args.toList ds p := hA0
  rw [Tryd.params3] at hA hval hsz
  obtain ⟨v0, vs0, d0, ds0, p0, q0, hargs, rfl, rfl, h0, r0⟩ := trodAll_cons hA
  obtain ⟨v1, vs1, d1, ds1, p1, q1, rfl, rfl, rfl, h1, r1⟩ := trodAll_cons r0
  obtain ⟨v2, vs2, d2, ds2, p2, q2, rfl, rfl, rfl, h2, r2⟩ := trodAll_cons r1
  obtain ⟨rfl, rfl, rfl⟩ := trodAll_nil r2
  obtain rfl : args = #[v0, v1, v2] := by cases args; simp_all
  obtain ⟨rfl, rfl⟩ := trodVars_none hV
  simp only [List.cons_append, List.nil_append, List.append_nil, DataW.weightsEach, List.all_append, Bool.and_eq_true] at hsz
  obtain ⟨s0, s1, s2, _⟩ := hsz
  obtain ⟨y0, g0, i0⟩ := arg_D (n := 12) (t := 22) (by kernel_rfl) (hval 0 22 v0 rfl rfl) h0 s0
  have lt0 : ∀ x ∈ p0, x.block < W.heap.size := by obtain ⟨m, hm⟩ := h0; exact DataW.trod_lt m _ _ _ hm
  obtain ⟨y1, g1, i1⟩ := arg_D (n := 12) (t := 26) (by kernel_rfl) (hval 1 26 v1 rfl rfl) h1 s1
  have lt1 : ∀ x ∈ p1, x.block < W.heap.size := by obtain ⟨m, hm⟩ := h1; exact DataW.trod_lt m _ _ _ hm
  obtain ⟨y2, g2, i2⟩ := arg_D (n := 12) (t := 26) (by kernel_rfl) (hval 2 26 v2 rfl rfl) h2 s2
  have lt2 : ∀ x ∈ p2, x.block < W.heap.size := by obtain ⟨m, hm⟩ := h2; exact DataW.trod_lt m _ _ _ hm
  clear hA0 hval0
  obtain ⟨outs, hlaw⟩ := Go.Proofs.YtjhganbjbiihoaaDoor.Ab.call_clauses y0 y1 y2 g0 g1 g2
  refine (law_run Go.Proofs.YtjhganbjbiihoaaDoor.Ab.fxOk hlaw (Go.Proofs.YtjhganbjbiihoaaDoor.Ab.globs hL) (repL_cons i0 (repL_cons i1 (repL_cons i2 (repL_nil))))).mono fun e W' ⟨he, bel⟩ => ?_
  subst he
  exact ⟨_, rfl, _, _, _, [], _, [], hW', trodAll_mk1 (shut_bool Tryd.underlying4 _), (trodAll_cons_mk (Below.trod Go.Proofs.YtjhganbjbiihoaaDoor.Ab.laidOut (by kernel_rfl) (of_decide_eq_true (by kernel_rfl)) h0 bel lt0) (trodAll_cons_mk (Below.trod Go.Proofs.YtjhganbjbiihoaaDoor.Ab.laidOut (by kernel_rfl) (of_decide_eq_true (by kernel_rfl)) h1 bel lt1) (trodAll_cons_mk (Below.trod Go.Proofs.YtjhganbjbiihoaaDoor.Ab.laidOut (by kernel_rfl) (of_decide_eq_true (by kernel_rfl)) h2 bel lt2) (trodAll_mk0)))), rfl, bel.frame _, fun h => by cases h⟩
theorem over : Rows.clausesRow.holds Tryd.pinned (OpenSpec.ofChange Rows.clausesSpec) :=
  OpenClaim.holds_of_wide 3 Tryd.f3 rfl rfl rfl rfl rfl rfl rfl ⟨rfl, rfl, rfl, rfl, rfl⟩ rfl rfl rfl rfl rfl (by kernel_rfl) Tryd.func3 (by kernel_rfl)
    (of_decide_eq_true (by kernel_rfl)) (by unfold Func.isWrapper; first | (rw [if_pos (by decide +kernel)]; kernel_rfl) | (rw [if_neg (by decide +kernel)]; exact ⟨rfl, rfl⟩))
    (fun os started H enc _ => lifted os started H enc)
theorem proved : Rows.ClausesCardSaid :=
  Claim7.holds_tied_plain_at .later [] [.data] true (true, "6fb618b8367d5a2b1924d084bdd2f9bf741498a82aca0ae517e858462b5d170e") false
    over (fun _ h => by cases h) (by kernel_rfl) (fun _ h => by cases h) clauses_row_tie rfl ⟨rfl, rfl⟩ (by kernel_rfl) rfl
    (fun f fn hf hfn => by
      obtain rfl : f = 3 := Option.some.inj ((show Tryd.prog.funcNamed "quaere/quaerelaw8.Clauses" = some 3 by kernel_rfl).symm.trans hf) |>.symm
      obtain rfl : fn = Tryd.f3 := (Option.some.inj (Tryd.func3.symm.trans hfn)).symm
      exact ⟨by kernel_rfl, fun j t ht => by
        rw [Tryd.params3] at ht
        have hm : t ∈ [22, 26, 26] := by simpa using Array.mem_of_getElem? ht
        have hall : ([22, 26, 26].all fun u => !Tryd.prog.wantsStandIn u) = true := by kernel_rfl
        exact (show Tryd.prog.wantsStandIn t = false by simpa using List.all_eq_true.1 hall t hm)⟩)
    (by kernel_rfl)
#print axioms proved
end Go.Proofs.YtjhganbjbiihoaaDoor.clauses
namespace Go.Proofs.YtjhganbjbiihoaaDoor
/-- The card, under a short name, for the claim. -/
theorem clauses_holds : Rows.ClausesCardSaid := clauses.proved
end Go.Proofs.YtjhganbjbiihoaaDoor
