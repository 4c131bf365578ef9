/- SimpRules: the row and the card. For every input; the condition is the row's own: the package variable is as its initialiser lays it. -/
import Derived.Deep.DeepHandedRow
import Derived.Deep.DeepWitnessRowRef
import Derived.Test.YtollbcdhmnnjeaaDoorSimpRules0
import Derived.Test.YtollbcdhmnnjeaaDoorSimpRules1
import Derived.Test.YtollbcdhmnnjeaaDoorSimpRules2
import Derived.Test.YtollbcdhmnnjeaaDoorSimpRules3
import Derived.Test.YtollbcdhmnnjeaaDoorSimpRules4
import Derived.Test.YtollbcdhmnnjeaaDoorSimpRules5
import Derived.Test.YtollbcdhmnnjeaaDoorSimpRules6
import Derived.Test.YtollbcdhmnnjeaaDoorSimpRules7
import Derived.Test.YtollbcdhmnnjeaaDoorSimpRules8
import Derived.Test.YtollbcdhmnnjeaaDoorSimpRules9
import Derived.Test.YtollbcdhmnnjeaaDoorSimpRules10
import Derived.Test.YtollbcdhmnnjeaaDoorSimpRules11
import Derived.Test.YtollbcdhmnnjeaaDoorSimpRules12
import Derived.Test.YtollbcdhmnnjeaaDoorSimpRules13
import Derived.Test.YtollbcdhmnnjeaaDoorSimpRules14
import Derived.Test.YtollbcdhmnnjeaaDoorSimpRules15
namespace Go.Proofs.YtollbcdhmnnjeaaDoor.simpRules
open Go Go.Ab Go.ChangeShapes Go.WideShapes Go.ChangeAt Go.RowKit Go.Joins
set_option linter.unusedVariables false
set_option linter.unusedSimpArgs false
set_option maxRecDepth 100000
theorem one_le {H : Type} (d : DataW H) : 1 ≤ Rows.uptoBulk d := by
  cases d with
  | lit l => cases l <;> simp [Rows.uptoBulk]
  | nil => simp [Rows.uptoBulk]
  | ptr d => simp [Rows.uptoBulk]
  | slice elems spare => simp [Rows.uptoBulk]
  | agg parts => simp [Rows.uptoBulk]
  | iface t d => simp [Rows.uptoBulk]
  | map entries => simp [Rows.uptoBulk]
  | held h => simp [Rows.uptoBulk]
theorem length_le {H : Type} (l : List (DataW H)) : l.length ≤ Rows.uptoBulkAll l := by
  induction l with
  | nil => simp [Rows.uptoBulkAll]
  | cons x r ih => have := one_le x; simp only [Rows.uptoBulkAll, List.length_cons]; omega
/-- As many places as are told of, at the most. -/
theorem slice_len {H : Type} {enc : TypeId × Value → H} {P : Program} {w : World} {base : Nat} {spare : Nat → Bool} {held : Bool} {t e : TypeId} {v : Value} {d : DataW H} {p : List MemPlace} (ht : P.underlying t = some (.slice e)) (h : DataW.Trod enc P w base spare held t v d p) {Hf : Fz} {sz : Nat} {z : Bool} {xs ext : List D} (hi : IV.Rep Hf w (.d (.sl sz z xs ext)) v []) : xs.length ≤ Rows.uptoBulk d := by
  obtain ⟨fuel, hf⟩ := h
  unfold IV.Rep at hi
  obtain ⟨hi, _⟩ := hi
  simp only [D.RepV] at hi
  unfold D.Rep at hi
  rcases Go.Deep.open_slice ht hf with ⟨e1, e2⟩ | ⟨a, len, cap, m, n', D', Pl, e1, hb, hl, hc, hm, e2, hj⟩
  · rcases hi with ⟨_, h2, _, _⟩ | ⟨_, a', cap', cells, ext', h2, _⟩
    · subst h2; simp
    · simp only [List.cons.injEq, and_true] at h2
      rw [h2] at e1
      simp [Value.cells] at e1
  · rcases hi with ⟨_, h2, _, _⟩ | ⟨_, a', cap', cells, ext', h2, _⟩
    · subst h2; simp
    · simp only [List.cons.injEq, and_true] at h2
      rw [h2] at e1
      simp only [Value.cells, List.cons.injEq, Value.slice.injEq, and_true] at e1
      have hlen : len = xs.length := e1.2.1.symm
      obtain ⟨rfl, _⟩ := Prod.mk.inj e2
      have k1 : len ≤ m := by rw [hm]; split <;> omega
      have k2 := length_le ((List.range len).map D')
      simp only [List.length_map, List.length_range] at k2
      simp only [Rows.uptoBulk]
      omega
theorem reads (os : Os) {H : Type} (enc : TypeId × Value → H) : ∃ places, DataW.whole enc Tryd.prog ((World.doorLaid Tryd.prog 400 os).forCall (fun _ _ => 0) ⟨#[], #[.slice none 0 0, .slice none 0 0, .slice none 0 0], []⟩).memory Tryd.f4.params.toList Rows.simpRulesSpec.vars false (#[.slice none 0 0, .slice none 0 0, .slice none 0 0] : Array Value).toList 8 = some ([.nil, .nil, .nil], [], places) :=
  ⟨[], by kernel_rfl⟩
theorem lifted (os : Os) (started : os.Started) (H : Type) (enc : TypeId × Value → H) (F : Stop.Interp) :
    ReturnsInHanded {} Tryd.checked os 4 .any ((Rows.OpenSpec.upto Rows.simpRulesSpec).preRow enc Tryd.prog Tryd.f4 Rows.simpRulesUptoRow.domain false Rows.simpRulesUptoRow.laid) (((Rows.OpenSpec.upto Rows.simpRulesSpec).at F).post enc Tryd.prog Tryd.f4 false true false false) := by
  obtain ⟨places, hx⟩ := reads os enc
  refine returnsInHanded_of_row (C := Tryd.checked) (s := Rows.OpenSpec.upto Rows.simpRulesSpec) Go.Proofs.YtollbcdhmnnjeaaDoor.Ab.own started (by kernel_rfl) Tryd.func4
    (witness_row_atRef (enc := enc) (C := Tryd.checked) false (World.doorLaid Tryd.prog 400 os) #[.slice none 0 0, .slice none 0 0, .slice none 0 0] rfl (by kernel_rfl) (by kernel_rfl) (by kernel_rfl)
      (OpenSpec.preRow_of_cond 8 hx (by kernel_rfl) (fun k hk => by cases hk; kernel_rfl) (by kernel_rfl) (Go.Proofs.YtollbcdhmnnjeaaDoor.Ab.door_met os _))) ?_
  intro W base args ds gs before hval0 hW _ hcond hsz hL _ _
  have hval : ∀ (j : Nat) t v, Tryd.f4.params[j]? = some t → args[j]? = some v → Value.okWide Tryd.prog W .any base t v := hval0
  have hW' := hW
  obtain ⟨p, q, hA0, hV, rfl, hfz, hnd⟩ := hW
  have hA : DataW.TrodAll enc Tryd.prog W 0 (fun _ => true) true Tryd.f4.params.toList args.toList ds p := hA0
  have hbulk : Rows.uptoBulkAll (ds ++ gs) ≤ 1048576 := of_decide_eq_true (hcond _ rfl)
  rw [Tryd.params4] at hA hval hsz
  obtain ⟨v0, vs0, d0, ds0, p0, q0, hargs, rfl, rfl, h0, r0⟩ := trodAll_cons hA
  obtain ⟨v1, vs1, d1, ds1, p1, q1, rfl, rfl, rfl, h1, r1⟩ := trodAll_cons r0
  obtain ⟨v2, vs2, d2, ds2, p2, q2, rfl, rfl, rfl, h2, r2⟩ := trodAll_cons r1
  obtain ⟨rfl, rfl, rfl⟩ := trodAll_nil r2
  obtain rfl : args = #[v0, v1, v2] := by cases args; simp_all
  obtain ⟨rfl, rfl⟩ := trodVars_none hV
  simp only [List.cons_append, List.nil_append, List.append_nil, DataW.weightsEach, List.all_append, Bool.and_eq_true] at hsz
  obtain ⟨s0, s1, s2, _⟩ := hsz
  obtain ⟨y0, g0, i0⟩ := arg_D (n := 12) (t := 22) (by kernel_rfl) (hval 0 22 v0 rfl rfl) h0 s0
  have lt0 : ∀ x ∈ p0, x.block < W.heap.size := by obtain ⟨m, hm⟩ := h0; exact DataW.trod_lt m _ _ _ hm
  obtain ⟨y1, g1, i1⟩ := arg_D (n := 12) (t := 23) (by kernel_rfl) (hval 1 23 v1 rfl rfl) h1 s1
  have lt1 : ∀ x ∈ p1, x.block < W.heap.size := by obtain ⟨m, hm⟩ := h1; exact DataW.trod_lt m _ _ _ hm
  obtain ⟨y2, g2, i2⟩ := arg_D (n := 12) (t := 23) (by kernel_rfl) (hval 2 23 v2 rfl rfl) h2 s2
  have lt2 : ∀ x ∈ p2, x.block < W.heap.size := by obtain ⟨m, hm⟩ := h2; exact DataW.trod_lt m _ _ _ hm
  clear hA0 hval0
  simp only [List.cons_append, List.nil_append, List.append_nil, Rows.uptoBulkAll] at hbulk
  have b1 : ∀ z xs, y1 = .sl 1 z xs [] → xs.length ≤ 1048576 := fun z xs e => by have := slice_len (t := 23) Tryd.underlying23 h1 (e ▸ i1); omega
  have b2 : ∀ z xs, y2 = .sl 1 z xs [] → xs.length ≤ 1048576 := fun z xs e => by have := slice_len (t := 23) Tryd.underlying23 h2 (e ▸ i2); omega
  obtain ⟨outs, hlaw⟩ := Go.Proofs.YtollbcdhmnnjeaaDoor.Ab.call_simprules y0 y1 y2 g0 g1 g2 b1 b2
  refine (law_run Go.Proofs.YtollbcdhmnnjeaaDoor.Ab.fxOk hlaw (Go.Proofs.YtollbcdhmnnjeaaDoor.Ab.globs hL) (repL_cons i0 (repL_cons i1 (repL_cons i2 (repL_nil))))).mono fun e W' ⟨he, bel⟩ => ?_
  subst he
  exact ⟨_, rfl, _, _, _, [], _, [], hW', trodAll_mk1 (shut_bool Tryd.underlying4 _), (trodAll_cons_mk (Below.trod Go.Proofs.YtollbcdhmnnjeaaDoor.Ab.laidOut (by kernel_rfl) (of_decide_eq_true (by kernel_rfl)) h0 bel lt0) (trodAll_cons_mk (Below.trod Go.Proofs.YtollbcdhmnnjeaaDoor.Ab.laidOut (by kernel_rfl) (of_decide_eq_true (by kernel_rfl)) h1 bel lt1) (trodAll_cons_mk (Below.trod Go.Proofs.YtollbcdhmnnjeaaDoor.Ab.laidOut (by kernel_rfl) (of_decide_eq_true (by kernel_rfl)) h2 bel lt2) (trodAll_mk0)))), rfl, bel.frame _, fun h => by cases h⟩
theorem over : Rows.SimpRulesUptoSaid :=
  OpenClaim.holds_of_cond 4 Tryd.f4 rfl rfl rfl rfl rfl rfl rfl ⟨rfl, rfl, rfl, rfl, rfl⟩ rfl rfl rfl rfl rfl (by kernel_rfl) Tryd.func4 (by kernel_rfl)
    (of_decide_eq_true (by kernel_rfl)) (by unfold Func.isWrapper; first | (rw [if_pos (by decide +kernel)]; kernel_rfl) | (rw [if_neg (by decide +kernel)]; exact ⟨rfl, rfl⟩))
    (fun os started H enc _ F => by rw [OpenClaim.pre_eq_preRow]; exact lifted os started H enc F)
theorem proved : Rows.SimpRulesUptoCardSaid :=
  Claim7.holds_tied_plain_at .later [] [.data] true (true, "c34f52fd262443548109690e97397bc61e55042481cf35595714c60b7124f7fa") false
    over (fun _ h => by cases h) (by kernel_rfl) (fun _ h => by cases h) simpRulesUpto_row_tie rfl ⟨rfl, rfl⟩ (by kernel_rfl) rfl
    (fun f fn hf hfn => by
      obtain rfl : f = 4 := Option.some.inj ((show Tryd.prog.funcNamed "quaere/quaerelaw16.SimpRules" = some 4 by kernel_rfl).symm.trans hf) |>.symm
      obtain rfl : fn = Tryd.f4 := (Option.some.inj (Tryd.func4.symm.trans hfn)).symm
      exact ⟨by kernel_rfl, fun j t ht => by
        rw [Tryd.params4] at ht
        have hm : t ∈ [22, 23, 23] := by simpa using Array.mem_of_getElem? ht
        have hall : ([22, 23, 23].all fun u => !Tryd.prog.wantsStandIn u) = true := by kernel_rfl
        exact (show Tryd.prog.wantsStandIn t = false by simpa using List.all_eq_true.1 hall t hm)⟩)
    (by kernel_rfl)
#print axioms proved
end Go.Proofs.YtollbcdhmnnjeaaDoor.simpRules
namespace Go.Proofs.YtollbcdhmnnjeaaDoor
/-- The card, under a short name, for the claim. -/
theorem simpRulesUpto_holds : Rows.SimpRulesUptoCardSaid := simpRules.proved
end Go.Proofs.YtollbcdhmnnjeaaDoor
