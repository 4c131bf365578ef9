/- Variables of packages that are read: from what the row says of the world to the evaluator's word of them. Conditions: the row's own. -/
import Derived.HandedShaped
import Derived.LaidMore
import Derived.Lib.LaidTab
import Derived.Shelf.Vars
import Derived.Stop.Joined
import Derived.Stop.LaidErr
import Derived.Test.YtjoibdmiolcodaaGreatDoorStepReads0
import Derived.Test.YtjoibdmiolcodaaGreatDoorStepReads1
import Derived.Test.YtjoibdmiolcodaaGreatDoorStepReads2
import Derived.Test.YtjoibdmiolcodaaGreatDoorStepReads3
import Derived.Test.YtjoibdmiolcodaaGreatDoorStepReads4
import Derived.Test.YtjoibdmiolcodaaGreatDoorStepReads5
import Derived.Test.YtjoibdmiolcodaaGreatDoorStepReads6
import Derived.Test.YtjoibdmiolcodaaGreatDoorStepReads7
import Derived.Test.YtjoibdmiolcodaaGreatDoorStepReads8
import Derived.Test.YtjoibdmiolcodaaGreatDoorStepReads9
import Derived.Test.YtjoibdmiolcodaaGreatDoorStepReads10
import Derived.Test.YtjoibdmiolcodaaGreatDoorStepReads11
import Derived.Test.YtjoibdmiolcodaaGreatDoorStepReads12
import Derived.Test.YtjoibdmiolcodaaGreatDoorStepReads13
import Derived.Test.YtjoibdmiolcodaaGreatDoorStepReads14
set_option linter.unusedVariables false
namespace Go.Ab
open Go

/-- The plain wrap with the listed variables and the world's shape. -/
theorem changed_and_shaped {H : Type} {enc : TypeId × Value → H} {a : Assume} {C : Checked} {os : Os} {f : FuncId} {fn : Func} {s : ChangeSpec} {conds : List PathCond} {apart fresh handsOn again : Bool} {X : World → Array Value → Prop}
    (hX : ∀ (w w' : World) (args : Array Value), w.heap = w'.heap → X w args → X w' args)
    (own : ownKnob C.prog.godebug = none) (started : os.Started) (noInit : C.prog.inits.idxOf? f = none) (hfn : C.prog.funcs[f]? = some fn)
    (witness : ∃ (w : World) (tape : Tape) (i : Input), w.os = os ∧ (w.forCall tape i).Shaped C.prog ∧ i.vars = [] ∧ Input.okWide C.prog (w.forCall tape i) .any w.heap.size f i ∧
      ((s.pre enc C.prog fn conds apart (w.forCall tape i).memory i.args ∧ X (w.forCall tape i).memory i.args) ∧ sizedMet enc C.prog fn (OpenSpec.ofChange s) apart (w.forCall tape i).memory i.args) ∧ a.holds C.prog (lone (Frame.enter C.prog f i.args .normal) [] (w.forCall tape i)))
    (contract : ∀ (W : World) (base : Nat) (args : Array Value) (ds gs : List (DataW H)) (before : List MemPlace),
      (∀ (j : Nat) t v, fn.params[j]? = some t → args[j]? = some v → Value.okWide C.prog W .any base t v) →
      DataW.Whole enc C.prog fn.params.toList s.vars apart W args.toList ds gs before →
      conds.all (PathCond.test C.prog ⟨fn.params.toList, ds, s.plain.varTypes C.prog, gs⟩) = true →
      (DataW.weightsEach C.prog (fn.params.toList ++ s.plain.varTypes C.prog) (ds ++ gs)).all (· ≤ reachBytes) = true → X W args → W.ShapedOpen C.prog →
      a.holds C.prog (lone (Frame.enter C.prog f args .normal) [] W) →
      Calls C.prog f args W fun e W' => ∃ v, e = .returned v ∧ s.post enc C.prog fn apart fresh handsOn again W args v W') :
    ReturnsInHanded a C os f .any (fun w args => (s.pre enc C.prog fn conds apart w args ∧ X w args) ∧ sizedMet enc C.prog fn (OpenSpec.ofChange s) apart w args) (s.post enc C.prog fn apart fresh handsOn again) := by
  refine returnsInHanded_of_calls own started noInit witness ?_
  intro w tape i _ hsh _ hok hpre hholds
  obtain ⟨_, _, _, fn', hfn', _, _, _, _, hval⟩ := hok
  have e : fn' = fn := Option.some.inj (hfn'.symm.trans hfn)
  subst e
  obtain ⟨⟨⟨ds, gs, before, hw, hc⟩, hx⟩, hz⟩ := hpre
  have hw' := DataW.Whole.of_heap (w' := w.forCall tape i) (by rfl) hw
  refine (contract (w.forCall tape i) w.heap.size i.args ds gs before hval hw' hc (hz.weights hw) (hX _ _ _ (by rfl) hx) hsh hholds).mono fun e W' ⟨v, he, hp⟩ => ?_
  subst he
  exact ChangeSpec.post_blind hp

/-- One variable more. -/
theorem globOk_cons {W : World} {G : Globs} {g : Nat} {cs : List D} {arr : Array Value} (hh : ∃ t z, W.heap[g]? = some (.cells arr t z)) (hr : D.RepL (Hw W) cs arr.toList) (ha : ∀ c ∈ cs, c.isAgg = false) (h : GlobOk (Hw W) G) : GlobOk (Hw W) ((g, cs) :: G) := by
  intro g' cs' hg
  simp only [List.map_cons, assoc] at hg
  split at hg
  · rename_i e
    simp only [Option.some.injEq] at hg
    subst e hg
    obtain ⟨t, z, hh⟩ := hh
    refine ⟨arr.toList, hr, fun j u hj => Hw.cell ?_, ha, t, z, ?_⟩
    · have e2 : (⟨g, 0, none⟩ : Addr).add j = ⟨g, j, none⟩ := by unfold Addr.add; split <;> simp_all
      rw [e2]
      unfold World.cell?
      simp only [hh]
      simpa using hj
    · unfold Hw
      rw [Array.toArray_toList]
      exact hh
  · exact h g' cs' hg
theorem heap_of_var {P : Program} {W : World} {n : String} {g : Nat} {arr : Array Value} (hg : P.globalNamed n = some g) (hv : W.var? P n = some arr) : ∃ t z, W.heap[g]? = some (.cells arr t z) := by
  unfold World.var? at hv
  rw [hg] at hv
  simp only [Option.bind_some] at hv
  split at hv
  · rename_i cs t z h
    simp only [Option.some.injEq] at hv
    subst hv
    exact ⟨t, z, h⟩
  · cases hv
theorem rep_ints {H : Fz} {k : IntKind} : ∀ (zs : List Int), D.RepL H (zs.map fun z => .int k z) (zs.map fun z => Value.int k z)
  | [] => by unfold D.RepL; rfl
  | z :: zs => by
    show D.RepL H (.int k z :: zs.map fun z => .int k z) (Value.int k z :: zs.map fun z => Value.int k z)
    unfold D.RepL
    exact ⟨[.int k z], _, rfl, by unfold D.Rep; rfl, rep_ints zs⟩
/-- A table of whole numbers. -/
theorem globOk_tab {P : Program} {W : World} {G : Globs} {n : String} {g : Nat} {k : IntKind} {zs : List Int} (hg : P.globalNamed n = some g) (ht : Lib.TabIs P W n k zs) (h : GlobOk (Hw W) G) : GlobOk (Hw W) ((g, zs.map fun z => .int k z) :: G) :=
  globOk_cons (heap_of_var hg ht) (rep_ints zs) (fun c hc => by obtain ⟨z, _, rfl⟩ := List.mem_map.1 hc; rfl) h
/-- An error that is there. -/
theorem globOk_err {P : Program} {W : World} {G : Globs} {n : String} {g : Nat} {tp : TypeId} {p : Value} (hg : P.globalNamed n = some g) (ht : W.var? P n = some #[.iface tp p]) (h : GlobOk (Hw W) G) : GlobOk (Hw W) ((g, [.ifc false]) :: G) :=
  globOk_cons (heap_of_var hg ht) (by unfold D.RepL; exact ⟨[.iface tp p], [], rfl, by unfold D.Rep; exact ⟨.iface tp p, rfl, .inr ⟨rfl, tp, p, rfl⟩⟩, by unfold D.RepL; rfl⟩) (by simp [D.isAgg]) h
/-- Some whole number. -/
theorem globOk_int {P : Program} {W : World} {G : Globs} {g : Nat} {t : TypeId} {zero : Array Value} {k : IntKind} (hs : W.ShapedOpen P) (hg : g < P.globals.size)
    (h0 : ((begin P (fun _ _ => 0) default).world.heap[g]?).bind Obj.row? = some (zero, t)) (hz : zero.size = 1)
    (hb : P.buildable t = true) (hc : P.cellTypes P.depth t = some [t]) (hu : P.underlying t = some (.int k)) (h : GlobOk (Hw W) G) : GlobOk (Hw W) ((g, [.anyi k]) :: G) := by
  obtain ⟨m, hm⟩ := Go.Proofs.cell_of_shapedOpen_int hs hg h0 hz hb hc hu
  obtain ⟨cs, hh, hsz, _⟩ := hs.1 g zero t hg h0
  rw [hz] at hsz
  obtain ⟨⟨l⟩⟩ : ∃ x, x = cs := ⟨cs, rfl⟩
  refine globOk_cons (arr := cs) ⟨t, _, hh⟩ ?_ (by simp [D.isAgg]) h
  unfold World.cell? at hm
  simp only [hh, Option.isSome_none, Bool.false_eq_true, if_false] at hm
  have : cs.toList = [.int k m] := by
    apply List.ext_getElem?
    intro i
    cases i with
    | zero => simpa using hm
    | succ i => simp [hsz]
  rw [this]
  unfold D.RepL
  exact ⟨[.int k m], [], rfl, by unfold D.Rep; exact ⟨.int k m, rfl, m, rfl⟩, by unfold D.RepL; rfl⟩
end Go.Ab
