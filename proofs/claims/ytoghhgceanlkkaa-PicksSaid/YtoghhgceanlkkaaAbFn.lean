/- Functions: the evaluator of a program's functions, and that what it tells of a call is what the machine does. No condition. -/
import Derived.Test.YtoghhgceanlkkaaAbCode
set_option linter.unusedVariables false
set_option linter.unusedSimpArgs false
namespace Go.Ab
open Go

structure FnD where
  ntmps : Nat
  results : List ResultVar
  body : Code
  keep : Keep
  cut : Bool
structure Fx where
  T : Tab
  G : Globs
  code : FuncId → Option FnD
  prim : FuncId → Option (List IV → Option (IV × List IV))

def lentI : IV → Bool
  | .dbox _ _ _ => true
  | .fn _ (_ :: _) => true
  | _ => false
def okArg : IV → Bool
  | .d _ => true
  | .dead => true
  | .dptr _ => true
  | .dbox _ _ _ => true
  | .fn _ _ => true
  | _ => false
def lkFrom : Nat → List IV → List Nat
  | _, [] => []
  | i, a :: r => if lentI a then i :: lkFrom (i + 1) r else lkFrom (i + 1) r
mutual
def shp : IV → IV → Bool
  | .d _, .d _ => true
  | .d _, .dptr _ => true
  | .d _, .dead => true
  | .dptr _, .d _ => true
  | .dptr _, .dptr _ => true
  | .dptr _, .dead => true
  | .dead, .dead => true
  | .dead, .d _ => true
  | .dead, .dptr _ => true
  | .dbox _ _ _, .dbox _ _ _ => true
  | .fn _ cs, .fn _ ds => shpL cs ds
  | _, _ => false
def shpL : List IV → List IV → Bool
  | [], [] => true
  | a :: as, b :: bs => shp a b && shpL as bs
  | _, _ => false
end
def mergeO : List IV → List IV → List IV
  | [], _ => []
  | a :: r, os => if lentI a then (match os with | o :: os => o :: mergeO r os | [] => a :: mergeO r []) else a :: mergeO r os
def resV (T : Tab) (σ : St) : ResultVar → Option Val
  | .tmp t => some (σ.getS t)
  | .cell a ty => match σ.getS a with
    | .ptr t 0 => match T.get ty with
      | some td => match σ.getT t with
        | .box _ cells => if isAggT td then (if cells.length = td.size then some (mkAgg cells) else none) else match cells with
          | [x] => some x
          | _ => none
        | .dbox _ cells => if isAggT td then (if cells.length = td.size then some (.d (.agg cells)) else none) else match cells with
          | [x] => some (.d x)
          | _ => none
        | _ => none
      | none => none
    | _ => none
def resL (T : Tab) (σ : St) : List ResultVar → Option (List Val)
  | [] => some []
  | r :: rs => match resV T σ r with
    | some x => match resL T σ rs with
      | some xs => some (x :: xs)
      | none => none
    | none => none
def oneI : List IV → IV
  | [x] => x
  | xs => .tup xs
def finF (F : Fx) (C : Caller) (fn : FnD) (args : List IV) (s : Sl) : Option (IV × List IV) :=
  let lk := lkFrom 0 args
  match (argL (lk.map (unpackS s).getS) fun _ _ _ => .ret).run C (unpackS s) with
  | some σ1 => match resL F.T σ1 fn.results with
    | some rv =>
      let σ2 := freezeT σ1 (if fn.cut then cutT rv else [])
      let σ3 := freezeT σ2 (dups (toksL σ2 rv))
      if (toksL σ3 (lk.map σ3.getS ++ rv)).Nodup ∧ shpL (args.filter lentI) (packL σ3 (lk.map σ3.getS)) = true then
        some (oneI (packL σ3 rv), mergeO args (packL σ3 (lk.map σ3.getS)))
      else none
    | none => none
  | none => none
def evFn (F : Fx) (C : Caller) (n : Nat) (fn : FnD) (args : List IV) : Option (IV × List IV) :=
  if args.length ≤ fn.ntmps ∧ args.all okArg = true then
    match evS ⟨F.T, F.G, fn.ntmps, lkFrom 0 args⟩ C fn.keep (evJ ⟨F.T, F.G, fn.ntmps, lkFrom 0 args⟩ C fn.keep n).1 (evJ ⟨F.T, F.G, fn.ntmps, lkFrom 0 args⟩ C fn.keep n).2 fn.body ((List.range args.length).zip args) with
    | some (.norm s) => finF F C fn args s
    | some (.ret s) => finF F C fn args s
    | _ => none
  else none
def evF (F : Fx) : Nat → Caller
  | 0 => fun _ _ => none
  | n + 1 => fun f args => match F.prim f with
    | some p => p args
    | none => match F.code f with
      | some fn => evFn F (evF F n) n fn args
      | none => none

theorem repD_bs {H : Fz} {w : World} {x : IV} {v : Value} {bs : List Nat} (h : IV.Rep H w x v bs) (hx : okArg x = true) (hl : lentI x = false) : bs = [] ∧ ∀ H' w', H.le H' → IV.Rep H' w' x v [] := by
  cases x <;> simp [okArg, lentI] at hx hl
  · unfold IV.Rep at h ⊢; exact ⟨h, fun _ _ _ => rfl⟩
  · unfold IV.Rep at h; exact ⟨h.2, fun H' w' hle => by unfold IV.Rep; exact ⟨D.RepV.le hle h.1, rfl⟩⟩
  · unfold IV.Rep at h
    obtain ⟨⟨a, cs, h1, h2, h3, h4⟩, h5⟩ := h
    exact ⟨h5, fun H' w' hle => by unfold IV.Rep; exact ⟨⟨a, cs, h1, D.RepL.le hle _ _ h2, h3.le hle, h4⟩, rfl⟩⟩
  · rename_i f caps
    unfold IV.Rep at h
    obtain ⟨arr, h1, h2⟩ := h
    cases caps with
    | cons c cs => simp [lentI] at hl
    | nil =>
      unfold IV.RepL at h2
      refine ⟨h2.2, fun H' w' hle => ?_⟩
      unfold IV.Rep
      refine ⟨arr, h1, ?_⟩
      unfold IV.RepL
      exact ⟨h2.1, rfl⟩
mutual
theorem shp_bs {H H' : Fz} {w w' : World} : ∀ (a : IV) {o : IV} {v : Value} {bs bs' : List Nat}, IV.Rep H w a v bs → IV.Rep H' w' o v bs' → shp a o = true → bs = bs'
  | .d _, o, v, bs, bs', h, h', hs => by
    unfold IV.Rep at h
    cases o <;> simp [shp] at hs <;> unfold IV.Rep at h' <;> first | exact h.2.trans h'.2.symm | exact h.2.trans h'.symm
  | .dptr _, o, v, bs, bs', h, h', hs => by
    unfold IV.Rep at h
    cases o <;> simp [shp] at hs <;> unfold IV.Rep at h' <;> first | exact h.2.trans h'.2.symm | exact h.2.trans h'.symm
  | .dead, o, v, bs, bs', h, h', hs => by
    unfold IV.Rep at h
    cases o <;> simp [shp] at hs <;> unfold IV.Rep at h' <;> first | exact h.trans h'.2.symm | exact h.trans h'.symm
  | .dbox _ _ _, o, v, bs, bs', h, h', hs => by
    unfold IV.Rep at h
    cases o <;> simp [shp] at hs
    unfold IV.Rep at h'
    obtain ⟨b, cur, h1, _, _, _, h2⟩ := h
    obtain ⟨b', cur', h1', _, _, _, h2'⟩ := h'
    rw [h1] at h1'
    simp only [Value.pointer.injEq, Option.some.injEq, Addr.mk.injEq] at h1'
    rw [h2, h2', h1'.1]
  | .fn _ cs, o, v, bs, bs', h, h', hs => by
    unfold IV.Rep at h
    cases o <;> simp [shp] at hs
    rename_i f' ds
    unfold IV.Rep at h'
    obtain ⟨arr, h1, h2⟩ := h
    obtain ⟨arr', h1', h2'⟩ := h'
    rw [h1] at h1'
    simp only [Value.func.injEq, true_and] at h1'
    obtain ⟨_, rfl⟩ := h1'
    exact shpL_bs cs h2 h2' hs
  | .own _ _ _ _, o, _, _, _, _, _, hs => by cases o <;> simp [shp] at hs
  | .ptr _ _ _, o, _, _, _, _, _, hs => by cases o <;> simp [shp] at hs
  | .agg _, o, _, _, _, _, _, hs => by cases o <;> simp [shp] at hs
  | .tup _, o, _, _, _, _, _, hs => by cases o <;> simp [shp] at hs
theorem shpL_bs {H H' : Fz} {w w' : World} : ∀ (as : List IV) {os : List IV} {vs : List Value} {bs bs' : List Nat}, IV.RepL H w as vs bs → IV.RepL H' w' os vs bs' → shpL as os = true → bs = bs'
  | [], os, vs, bs, bs', h, h', hs => by
    cases os with
    | cons o os => simp [shpL] at hs
    | nil =>
      unfold IV.RepL at h h'
      exact h.2.trans h'.2.symm
  | a :: as, os, vs, bs, bs', h, h', hs => by
    cases os with
    | nil => simp [shpL] at hs
    | cons o os =>
      unfold IV.RepL at h h'
      obtain ⟨v, r, b1, b2, e1, e2, h1, h2⟩ := h
      obtain ⟨v', r', b1', b2', e1', e2', h1', h2'⟩ := h'
      rw [e1] at e1'
      simp only [List.cons.injEq] at e1'
      obtain ⟨rfl, rfl⟩ := e1'
      simp only [shpL, Bool.and_eq_true] at hs
      rw [e2, e2', shp_bs a h1 h1' hs.1, shpL_bs as h2 h2' hs.2]
end
theorem merge_rep {H H' : Fz} {w w' : World} (hle : H.le H') {f : Nat → Value} : ∀ (args : List IV) (i : Nat) {vs : List Value} {bs : List Nat} {os : List IV} {bs' : List Nat}, IV.RepL H w args vs bs → args.all okArg = true → (∀ j x v, args[j]? = some x → lentI x = true → vs[j]? = some v → f (i + j) = v) →
    IV.RepL H' w' os ((lkFrom i args).map f) bs' → shpL (args.filter lentI) os = true → IV.RepL H' w' (mergeO args os) vs bs ∧ bs = bs'
  | [], i, vs, bs, os, bs', h, _, _, ho, hs => by
    unfold IV.RepL at h
    obtain ⟨rfl, rfl⟩ := h
    cases os with
    | cons o os => simp [shpL] at hs
    | nil =>
      unfold lkFrom IV.RepL at ho
      unfold mergeO IV.RepL
      exact ⟨⟨rfl, rfl⟩, ho.2.symm⟩
  | a :: r, i, vs, bs, os, bs', h, hk, hf, ho, hs => by
    unfold IV.RepL at h
    obtain ⟨v, vs', b1, b2, rfl, rfl, h1, h2⟩ := h
    simp only [List.all_cons, Bool.and_eq_true] at hk
    have hf' : ∀ j x u, r[j]? = some x → lentI x = true → vs'[j]? = some u → f (i + 1 + j) = u := fun j x u hx hl hu => by
      have := hf (j + 1) x u (by simpa using hx) hl (by simpa using hu)
      rw [← this]; congr 1; omega
    cases hl : lentI a with
    | true =>
      have e1 : lkFrom i (a :: r) = i :: lkFrom (i + 1) r := by simp [lkFrom, hl]
      have e2 : (a :: r).filter lentI = a :: r.filter lentI := by simp [hl]
      rw [e2] at hs
      rw [e1, List.map_cons] at ho
      cases os with
      | nil => simp [shpL] at hs
      | cons o os =>
        simp only [shpL, Bool.and_eq_true] at hs
        unfold IV.RepL at ho
        obtain ⟨v', r', c1, c2, e3, rfl, g1, g2⟩ := ho
        simp only [List.cons.injEq] at e3
        obtain ⟨rfl, rfl⟩ := e3
        have hv : f i = v := by have := hf 0 a v rfl hl rfl; simpa using this
        rw [hv] at g1
        have hb := shp_bs a h1 g1 hs.1
        subst hb
        obtain ⟨k1, k2⟩ := merge_rep hle r (i + 1) h2 hk.2 hf' g2 hs.2
        subst k2
        refine ⟨?_, rfl⟩
        have e4 : mergeO (a :: r) (o :: os) = o :: mergeO r os := by simp [mergeO, hl]
        rw [e4]
        unfold IV.RepL
        exact ⟨v, vs', _, _, rfl, rfl, g1, k1⟩
    | false =>
      have e1 : lkFrom i (a :: r) = lkFrom (i + 1) r := by simp [lkFrom, hl]
      have e2 : (a :: r).filter lentI = r.filter lentI := by simp [hl]
      rw [e2] at hs
      rw [e1] at ho
      obtain ⟨rfl, g⟩ := repD_bs h1 hk.1 hl
      obtain ⟨k1, k2⟩ := merge_rep hle r (i + 1) h2 hk.2 hf' ho hs
      subst k2
      refine ⟨?_, by simp⟩
      have e4 : mergeO (a :: r) os = a :: mergeO r os := by simp [mergeO, hl]
      rw [e4]
      unfold IV.RepL
      exact ⟨v, vs', [], _, rfl, by simp, g _ _ hle, k1⟩

section
variable {X : Cx} {H : Fz} {L : Vl} {σ : St} {a : Act} {w : World}
theorem resV_run {T : Tab} (hT : TabOk X.P T) (r : Rel X H L σ a w) {rv : ResultVar} {x : Val} (h : resV T σ rv = some x) :
    ∃ u, (match rv with
      | .tmp t => pure (a.tmps.getD t undef)
      | .cell p t => do loadVar t (← asAddr (a.tmps.getD p undef)) : Sem Value).run X.P w = .ok u w ∧ x.Rep H L u := by
  cases rv with
  | tmp t =>
    simp only [resV, Option.some.injEq] at h
    subst h
    exact ⟨_, rfl, r.env t⟩
  | cell p ty =>
    unfold resV at h
    dsimp only at h
    split at h
    case h_2 => cases h
    rename_i t hp
    split at h
    case h_2 => cases h
    rename_i td htd
    have hd := hT _ _ htd
    have hv := r.env p
    rw [hp] at hv
    unfold Val.Rep at hv
    obtain ⟨b, hL, e1⟩ := hv
    split at h
    · rename_i ty0 cells hen
      have he := r.ents t
      rw [hen] at he
      obtain ⟨b', cur, g1, g2, g3, g4, _⟩ := he
      rw [hL] at g1
      simp only [Option.some.injEq, Value.pointer.injEq, Addr.mk.injEq, and_true] at g1
      subst g1
      have hth := there_block g2
      split at h
      · rename_i hagg
        split at h
        · rename_i hlen
          simp only [Option.some.injEq] at h
          subst h
          refine ⟨.agg cur.toList.toArray, ?_, mkAgg_rep g3 g4⟩
          dsimp only
          rw [e1]
          have := run_loadVar_agg hd hagg hth (by rw [← hlen]; exact g3.len)
          simpa [asAddr] using this
        · cases h
      · rename_i hagg
        split at h
        · rename_i y
          simp only [Option.some.injEq] at h
          subst h
          obtain ⟨u, h3, h4⟩ := g3.get (i := 0) (x := y) rfl
          refine ⟨u, ?_, h4⟩
          dsimp only
          rw [e1]
          have := run_loadVar_one hd (by simpa using hagg) (hth 0 u h3)
          rw [add_zero] at this
          simpa [asAddr] using this
        · cases h
    · rename_i ty0 cells hen
      have he := r.ents t
      rw [hen] at he
      obtain ⟨b', cur, g1, g2, g3, g4, _⟩ := he
      rw [hL] at g1
      simp only [Option.some.injEq, Value.pointer.injEq, Addr.mk.injEq, and_true] at g1
      subst g1
      have hth := there_block g2
      split at h
      · rename_i hagg
        split at h
        · rename_i hlen
          simp only [Option.some.injEq] at h
          subst h
          refine ⟨.agg cur.toList.toArray, ?_, ?_⟩
          · dsimp only
            rw [e1]
            have := run_loadVar_agg hd hagg hth (by rw [repL_len g3 g4]; exact hlen)
            simpa [asAddr] using this
          · unfold Val.Rep
            exact ⟨_, rfl, by unfold D.Rep; exact ⟨by simpa using g3, g4⟩⟩
        · cases h
      · rename_i hagg
        split at h
        · rename_i y
          simp only [Option.some.injEq] at h
          subst h
          obtain ⟨u, h3, h4⟩ := D.repL_one g3 g4 (i := 0) (x := y) rfl
          refine ⟨u, ?_, ?_⟩
          · dsimp only
            rw [e1]
            have := run_loadVar_one hd (by simpa using hagg) (hth 0 u h3)
            rw [add_zero] at this
            simpa [asAddr] using this
          · unfold Val.Rep
            have := g4 y (by simp)
            cases y <;> first | (simp [D.isAgg] at this; done) | exact h4
        · cases h
    · cases h
theorem resL_run {T : Tab} (hT : TabOk X.P T) (r : Rel X H L σ a w) : ∀ {rs : List ResultVar} {xs : List Val}, resL T σ rs = some xs →
    ∃ us, (rs.mapM fun rv => (match rv with
      | .tmp t => pure (a.tmps.getD t undef)
      | .cell p t => do loadVar t (← asAddr (a.tmps.getD p undef)) : Sem Value)).run X.P w = .ok us w ∧ Val.RepL H L xs us
  | [], xs, h => by
    simp only [resL, Option.some.injEq] at h
    subst h
    exact ⟨[], rfl, by unfold Val.RepL; rfl⟩
  | rv :: rs, xs, h => by
    unfold resL at h
    split at h
    · rename_i x hx
      split at h
      · rename_i xs' hxs
        simp only [Option.some.injEq] at h
        subst h
        obtain ⟨u, h1, h2⟩ := resV_run hT r hx
        obtain ⟨us, h3, h4⟩ := resL_run hT r hxs
        refine ⟨u :: us, ?_, by unfold Val.RepL; exact ⟨u, us, rfl, h2, h4⟩⟩
        simp only [List.mapM_cons, Sem.run_bind, h1, h3, Result.andThen_ok, Sem.run_pure]
      · cases h
    · cases h
end

theorem lkFrom_mem : ∀ (args : List IV) (i j : Nat), j ∈ lkFrom i args ↔ ∃ k x, j = i + k ∧ args[k]? = some x ∧ lentI x = true
  | [], i, j => by simp [lkFrom]
  | a :: r, i, j => by
    have ih := lkFrom_mem r (i + 1) j
    unfold lkFrom
    split
    · rename_i hl
      rw [List.mem_cons, ih]
      constructor
      · rintro (rfl | ⟨k, x, rfl, h1, h2⟩)
        · exact ⟨0, a, rfl, rfl, hl⟩
        · exact ⟨k + 1, x, by omega, by simpa using h1, h2⟩
      · rintro ⟨k, x, rfl, h1, h2⟩
        cases k with
        | zero => exact .inl rfl
        | succ k => exact .inr ⟨k, x, by omega, by simpa using h1, h2⟩
    · rename_i hl
      rw [ih]
      constructor
      · rintro ⟨k, x, rfl, h1, h2⟩
        exact ⟨k + 1, x, by omega, by simpa using h1, h2⟩
      · rintro ⟨k, x, rfl, h1, h2⟩
        cases k with
        | zero => simp at h1; subst h1; exact (hl h2).elim
        | succ k => exact ⟨k, x, by omega, by simpa using h1, h2⟩
mutual
theorem IV.Rep.lt {H : Fz} {w : World} : ∀ {x : IV} {v : Value} {bs : List Nat}, IV.Rep H w x v bs → ∀ b ∈ bs, b < w.heap.size
  | .dead, v, bs, h, b, hb => by unfold IV.Rep at h; subst h; simp at hb
  | .d _, v, bs, h, b, hb => by unfold IV.Rep at h; rw [h.2] at hb; simp at hb
  | .dptr _, v, bs, h, b, hb => by unfold IV.Rep at h; rw [h.2] at hb; simp at hb
  | .own nl e sz xs, v, bs, h, b, hb => by
    unfold IV.Rep at h
    obtain ⟨cells, h1, h2, h3, h4, rfl⟩ := h
    have hb' : v.ownBlock = some b := by
      cases hv : v.ownBlock with
      | none => rw [hv] at hb; simp at hb
      | some c => rw [hv] at hb; simp at hb; rw [hb]
    exact ownsRow_lt h1 hb'
  | .ptr ty off cells, v, bs, h, b, hb => by
    unfold IV.Rep at h
    obtain ⟨b0, cur, bs', h1, h2, h3, h4, rfl⟩ := h
    rcases List.mem_cons.1 hb with rfl | hb
    · exact (Array.getElem?_eq_some_iff.1 h2).1
    · exact IV.RepL.lt h3 b hb
  | .dbox ty off cells, v, bs, h, b, hb => by
    unfold IV.Rep at h
    obtain ⟨b0, cur, h1, h2, h3, h4, rfl⟩ := h
    simp at hb
    subst hb
    exact (Array.getElem?_eq_some_iff.1 h2).1
  | .fn f caps, v, bs, h, b, hb => by
    unfold IV.Rep at h
    obtain ⟨arr, h1, h2⟩ := h
    exact IV.RepL.lt h2 b hb
  | .agg cs, v, bs, h, b, hb => by
    unfold IV.Rep at h
    obtain ⟨arr, h1, h2, h3⟩ := h
    exact IV.RepL.lt h2 b hb
  | .tup cs, v, bs, h, b, hb => by
    unfold IV.Rep at h
    obtain ⟨arr, h1, h2⟩ := h
    exact IV.RepL.lt h2 b hb
theorem IV.RepL.lt {H : Fz} {w : World} : ∀ {xs : List IV} {vs : List Value} {bs : List Nat}, IV.RepL H w xs vs bs → ∀ b ∈ bs, b < w.heap.size
  | [], vs, bs, h, b, hb => by unfold IV.RepL at h; rw [h.2] at hb; simp at hb
  | x :: xs, vs, bs, h, b, hb => by
    unfold IV.RepL at h
    obtain ⟨v, r, b1, b2, rfl, rfl, h1, h2⟩ := h
    rcases List.mem_append.1 hb with hb | hb
    · exact IV.Rep.lt h1 b hb
    · exact IV.RepL.lt h2 b hb
end
/-- What a program's functions are. -/
structure FxOk (P : Program) (F : Fx) : Prop where
  orders : P.follows .mixedOrders = true
  tab : TabOk P F.T
  code : ∀ f fn, F.code f = some fn → ∃ g, P.funcs[f]? = some g ∧ g.body = some fn.body ∧ g.ntmps = fn.ntmps ∧ g.results.toList = fn.results ∧ (g.name == "runtime.NumGoroutine") = false
  prim : ∀ f p args r outs, F.prim f = some p → p args = some (r, outs) → FnOk P f ∧ CallSpec P F.G f args r outs
theorem IV.RepL.len {H : Fz} {w : World} : ∀ {xs : List IV} {vs : List Value} {bs : List Nat}, IV.RepL H w xs vs bs → xs.length = vs.length
  | [], vs, bs, h => by unfold IV.RepL at h; rw [h.1]; rfl
  | x :: xs, vs, bs, h => by
    unfold IV.RepL at h
    obtain ⟨v, r, b1, b2, rfl, _, _, h2⟩ := h
    simp [h2.len]
theorem oneI_rep {H : Fz} {w : World} {xs : List IV} {vs : List Value} {bs : List Nat} (h : IV.RepL H w xs vs bs) : IV.Rep H w (oneI xs) (if h : vs.toArray.size = 1 then vs.toArray[0] else .tuple vs.toArray) bs := by
  have hl := h.len
  unfold oneI
  split
  · rename_i x
    unfold IV.RepL at h
    obtain ⟨v, r, b1, b2, rfl, rfl, h1, h2⟩ := h
    unfold IV.RepL at h2
    obtain ⟨rfl, rfl⟩ := h2
    simpa using h1
  · rename_i hn
    have : ¬ vs.toArray.size = 1 := by
      intro he
      cases xs with
      | nil => simp at hl he; omega
      | cons x xs =>
        cases xs with
        | nil => exact hn x rfl
        | cons y ys => simp at hl he; omega
    rw [dif_neg this]
    unfold IV.Rep
    exact ⟨_, rfl, by simpa using h⟩
theorem toksL_append (σ : St) : ∀ xs ys : List Val, toksL σ (xs ++ ys) = toksL σ xs ++ toksL σ ys
  | [], ys => rfl
  | x :: xs, ys => by simp [toksL, toksL_append σ xs ys]
theorem finF_ok {P : Program} {F : Fx} (hF : FxOk P F) {C : Caller} {fn : FnD} {g : Func} (hg : g.results.toList = fn.results) {args : List IV} {s : Sl} {res : IV} {outs : List IV} (h : finF F C fn args s = some (res, outs)) (hk : args.all okArg = true)
    {X : Cx} (hP : X.P = P) {vs : List Value} {H : Fz} {a : Act} {w : World} (hargs : IV.RepL X.H0 X.w0 args vs X.own0) (hown : ∀ b ∈ X.own0, X.H0 b = none ∧ b < X.w0.heap.size) (hlk : ∀ j x v, args[j]? = some x → lentI x = true → vs[j]? = some v → (j, v) ∈ X.lk) (r : SRel X H s a w) :
    a.defers = [] ∧ ∃ v, (results g a.tmps).run P w = .ok v w ∧ ∃ H' b2, X.H0.le H' ∧ H'.sub w ∧ Framed X.w0 X.own0 w ∧ (∀ k, k < X.w0.heap.size → H' k = X.H0 k) ∧
      IV.RepL H' w outs vs X.own0 ∧ IV.Rep H' w res v b2 ∧ b2.Nodup ∧ ∀ b ∈ b2, H' b = none ∧ X.w0.heap.size ≤ b := by
  subst hP
  obtain ⟨L, r1, _⟩ := unpackS_rel r
  refine ⟨r.defers, ?_⟩
  unfold finF at h
  dsimp only at h
  split at h
  case h_2 => cases h
  rename_i σ1 h1
  split at h
  case h_2 => cases h
  rename_i rv hrv
  -- the variables that were lent
  obtain ⟨_, _, _, H1, σ1', k1, k2, k3, _⟩ := argL_run (C := C) _ r1 (repL_slots r1 (lkFrom 0 args)) h1
  simp only [Prog.run, Option.some.injEq] at k1
  subst k1
  obtain ⟨us, k4, k5⟩ := resL_run hF.tab k3 hrv
  obtain ⟨H2, k6, k7⟩ := freezeT_rel (if fn.cut then cutT rv else []) k3
  generalize freezeT σ1' (if fn.cut then cutT rv else []) = σ2 at *
  obtain ⟨H3, k8, k9⟩ := freezeT_rel (dups (toksL σ2 rv)) k7
  generalize freezeT σ2 (dups (toksL σ2 rv)) = σ3 at *
  by_cases hok : (toksL σ3 ((lkFrom 0 args).map σ3.getS ++ rv)).Nodup ∧ shpL (args.filter lentI) (packL σ3 ((lkFrom 0 args).map σ3.getS)) = true
  case neg => rw [if_neg hok] at h; cases h
  rw [if_pos hok] at h
  simp only [Option.some.injEq, Prod.mk.injEq] at h
  obtain ⟨rfl, rfl⟩ := h
  obtain ⟨hnd, hsh⟩ := hok
  have hres : Val.RepL H3 L rv us := Val.RepL.le (Fz.le_trans k6 k8) (Vl.le_refl L) _ _ k5
  have hb := blks_ok k9 hnd
  rw [toksL_append, blks_append] at hb
  have p1 := packL_rep k9 _ (repL_slots k9 (lkFrom 0 args))
  have p2 := packL_rep k9 _ hres
  obtain ⟨m1, m2⟩ := merge_rep (H := X.H0) (w := X.w0) k9.le (f := fun i => a.tmps.getD i undef) args 0 hargs hk (fun j x v hx hl hv => by
    rw [Nat.zero_add]; exact k9.lk j v (hlk j x v hx hl hv)) p1 hsh
  refine ⟨if h : us.toArray.size = 1 then us.toArray[0] else .tuple us.toArray, ?_, H3, blks σ3 L (toksL σ3 rv), k9.le, k9.sub, k9.fr, fun k hk' => ?_, m1, oneI_rep p2, ?_, fun b hb' => ?_⟩
  · have e1 : (g.results.mapM fun rv => (match rv with
      | .tmp t => pure (a.tmps.getD t undef)
      | .cell p t => do loadVar t (← asAddr (a.tmps.getD p undef)) : Sem Value)).run X.P w = .ok us.toArray w := by
      rw [Array.mapM_eq_mapM_toList, hg]
      rw [map_eq_pure_bind, Sem.run_bind, k4]
      rfl
    unfold results
    rw [Sem.run_bind]
    exact congrArg (fun r => r.andThen fun (b : Array Value) w' => Sem.run X.P (pure (if h : b.size = 1 then b[0] else Value.tuple b)) w') e1
  · by_cases hm : k ∈ X.own0
    · rw [(hown k hm).1]
      rw [m2] at hm
      exact (hb.2 k (List.mem_append_left _ hm)).1
    · exact k9.fz k (fun hM => by rcases hM with hM | hM; exact absurd hk' (by omega); exact hm hM)
  · rw [List.nodup_append] at hb
    exact hb.1.2.1
  · have h5 := hb.2 b (List.mem_append_right _ hb')
    refine ⟨h5.1, ?_⟩
    rcases h5.2 with h6 | h6
    · exact h6
    · rw [m2] at h6
      have := hb.1
      rw [List.nodup_append] at this
      exact absurd rfl (this.2.2 b h6 b hb')
theorem evFn_ok {P : Program} {F : Fx} (hF : FxOk P F) {C : Caller} (hC : CSound P F.G C) {n : Nat} {fn : FnD} {f : FuncId} (hf : F.code f = some fn) {args : List IV} {res : IV} {outs : List IV} (h : evFn F C n fn args = some (res, outs)) : FnOk P f ∧ CallSpec P F.G f args res outs := by
  obtain ⟨g, g1, g2, g3, g4, g5⟩ := hF.code f fn hf
  refine ⟨⟨g, g1, g5, by rw [g2]; rfl⟩, ?_⟩
  intro H w vs bs hglob hsub hargs hnd hfree
  unfold evFn at h
  split at h
  case isFalse => cases h
  rename_i hk
  have hlen := hargs.len
  have hbl : ∀ b ∈ bs, b < w.heap.size := fun b hb => by
    exact IV.RepL.lt hargs b hb
  let X : Cx := ⟨P, F.T, w, bs, H, fn.ntmps, (lkFrom 0 args).map fun i => (i, vs.getD i undef)⟩
  have kk : Cxk X ⟨F.T, F.G, fn.ntmps, lkFrom 0 args⟩ := ⟨hF.tab, hglob, rfl, fun d hd u hu => by
    obtain ⟨i, hi, e⟩ := List.mem_map.1 hu
    cases e
    exact hd hi⟩
  have htmp : ∀ i, i < vs.length → ((vs.toArray ++ Array.replicate (fn.ntmps - vs.toArray.size) undef).getD i undef) = vs.getD i undef := fun i hi => by
    rw [Array.getD_eq_getD_getElem?, Array.getElem?_append_left (by simpa using hi)]
    simp [List.getD_eq_getElem?_getD]
  have r0 : SRel X H ((List.range args.length).zip args) { tmps := vs.toArray ++ Array.replicate (fn.ntmps - vs.toArray.size) undef, defers := [] } w := by
    refine ⟨Fz.le_refl H, hsub, Framed.refl w bs, rfl, ?_, fun i v hi => ?_, ⟨bs, ?_, hnd, fun b hb => ⟨hfree b hb, .inr hb⟩⟩, fun _ _ => rfl⟩
    · have := hk.1
      show (vs.toArray ++ Array.replicate (fn.ntmps - vs.toArray.size) undef).size = fn.ntmps
      simp; omega
    · obtain ⟨j, hj, e⟩ := List.mem_map.1 hi
      cases e
      obtain ⟨k, x, rfl, h1, _⟩ := (lkFrom_mem args 0 _).1 hj
      have := (List.getElem?_eq_some_iff.1 h1).1
      exact htmp _ (by omega)
    · have e1 : ((List.range args.length).zip args).map (·.2) = args := List.map_snd_zip (by simp)
      have e2 : ((List.range args.length).zip args).map (fun p => (vs.toArray ++ Array.replicate (fn.ntmps - vs.toArray.size) undef).getD p.1 undef) = vs := by
        have : (fun (p : Nat × IV) => (vs.toArray ++ Array.replicate (fn.ntmps - vs.toArray.size) undef).getD p.1 undef) = (fun i => (vs.toArray ++ Array.replicate (fn.ntmps - vs.toArray.size) undef).getD i undef) ∘ Prod.fst := rfl
        rw [this, ← List.map_map, List.map_fst_zip (by simp)]
        refine List.ext_getElem (by simp [hlen]) (fun i h1 h2 => ?_)
        simp only [List.getElem_map, List.getElem_range]
        rw [htmp i h2, List.getD_eq_getElem?_getD, List.getElem?_eq_getElem h2]; rfl
      rw [e1, e2]
      exact hargs
  have hmem : ∀ (j : Nat) (x : IV) (v : Value), args[j]? = some x → lentI x = true → vs[j]? = some v → (j, v) ∈ X.lk := by
    intro j x v hx hl hv
    refine List.mem_map.2 ⟨j, (lkFrom_mem args 0 j).2 ⟨j, x, by omega, hx, hl⟩, ?_⟩
    rw [List.getD_eq_getElem?_getD, hv]; rfl
  have hfin : ∀ s, finF F C fn args s = some (res, outs) → ∀ H' a w', SRel X H' s a w' → a.defers = [] ∧ ∃ v, (results g a.tmps).run P w' = .ok v w' ∧ ∃ H' b2, X.H0.le H' ∧ H'.sub w' ∧ Framed X.w0 X.own0 w' ∧ (∀ k, k < X.w0.heap.size → H' k = X.H0 k) ∧
      IV.RepL H' w' outs vs X.own0 ∧ IV.Rep H' w' res v b2 ∧ b2.Nodup ∧ ∀ b ∈ b2, H' b = none ∧ X.w0.heap.size ≤ b := fun s hs H' a w' r' =>
    finF_ok hF g4 hs hk.2 (X := X) rfl hargs (fun b hb => ⟨hfree b hb, hbl b hb⟩) (fun j x v hx hl hv => hmem j x v hx hl hv) r'
  refine calls_of_wp g1 g2 ?_
  rw [g3]
  have hJ := evJ_ok (X := X) kk hF.orders hC (K := fn.keep) n
  split at h
  · rename_i s hs
    refine evS_ok kk hF.orders hC hJ fn.body _ _ hs H _ w r0 _ (fun H' a' w' r' => ?_)
    obtain ⟨q1, v, q2, H2, b2, q3⟩ := hfin s h H' a' w' r'
    exact ⟨q1, v, q2, v, H2, b2, rfl, q3⟩
  · rename_i s hs
    refine evS_ok kk hF.orders hC hJ fn.body _ _ hs H _ w r0 _ (fun H' a' w' r' => ?_)
    obtain ⟨q1, v, q2, H2, b2, q3⟩ := hfin s h H' a' w' r'
    exact ⟨q1, v, q2, v, H2, b2, rfl, q3⟩
  · cases h
theorem evF_sound {P : Program} {F : Fx} (hF : FxOk P F) : ∀ n, CSound P F.G (evF F n)
  | 0 => fun f args r outs h => by simp [evF] at h
  | n + 1 => fun f args r outs h => by
    unfold evF at h
    split at h
    · rename_i p hp
      exact hF.prim f p args r outs hp h
    · split at h
      · rename_i fn hf
        exact evFn_ok hF (evF_sound hF n) hf h
      · cases h
end Go.Ab
