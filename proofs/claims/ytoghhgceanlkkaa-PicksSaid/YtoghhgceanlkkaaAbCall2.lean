/- Calls: the operation. No condition. -/
import Derived.Test.YtoghhgceanlkkaaAbCall
set_option linter.unusedVariables false
set_option linter.unusedSimpArgs false
namespace Go.Ab
open Go

/-- A function that is entered when it is called. -/
def FnOk (P : Program) (f : FuncId) : Prop := ∃ fn, P.funcs[f]? = some fn ∧ (fn.name == "runtime.NumGoroutine") = false ∧ fn.body.isNone = false
/-- What the evaluator tells of a call is what the machine does. -/
def CallSpec (P : Program) (G : Globs) (f : FuncId) (args : List IV) (r : IV) (outs : List IV) : Prop :=
  ∀ (H : Fz) (w : World) (vs : List Value) (bs : List Nat), GlobOk H G → H.sub w → IV.RepL H w args vs bs → bs.Nodup → (∀ b ∈ bs, H b = none) →
    Calls P f vs.toArray w fun e w' => ∃ v H' b2, e = .returned v ∧ H.le H' ∧ H'.sub w' ∧ Framed w bs w' ∧ (∀ k, k < w.heap.size → H' k = H k) ∧
      IV.RepL H' w' outs vs bs ∧ IV.Rep H' w' r v b2 ∧ b2.Nodup ∧ ∀ b ∈ b2, H' b = none ∧ w.heap.size ≤ b

def freezeTs : List Tok → Prog → Prog
  | [], k => k
  | t :: ts, k => .getT t fun e => match e with
    | .row true nl e sz xs => .putT t (.row false nl e sz xs) (freezeTs ts k)
    | _ => freezeTs ts k
def putTs : List (Tok × Ent) → Prog → Prog
  | [], k => k
  | (t, e) :: r, k => .putT t e (putTs r k)
def St.putsT : St → List (Tok × Ent) → St
  | σ, [] => σ
  | σ, (t, e) :: r => (σ.putT t e).putsT r
def freshTs (t : Nat) : Nat → Prog → Prog
  | 0, k => k
  | n + 1, k => .getT (t, n) fun e => match e with | .fresh => freshTs t n k | _ => .fail
mutual
def updV (v : Val) (o : IV) : List (Tok × Ent) :=
  match v, o with
  | .ptr t _, .dbox ty _ cells => [(t, .dbox ty cells)]
  | .fn _ caps, .fn _ os => updL caps os
  | _, _ => []
def updL (vs : List Val) (os : List IV) : List (Tok × Ent) :=
  match vs, os with
  | v :: vs, o :: os => updV v o ++ updL vs os
  | _, _ => []
end
mutual
def D.scalar : D → Bool
  | .int _ _ => true
  | .bool _ => true
  | .flt _ _ => true
  | .cpx _ _ _ => true
  | .str _ => true
  | .agg cs => D.scalarL cs
  | _ => false
def D.scalarL : List D → Bool
  | [] => true
  | c :: cs => D.scalar c && D.scalarL cs
end
mutual
def IV.scalar : IV → Bool
  | .d x => x.scalar
  | .tup vs => IV.scalarL vs
  | _ => false
def IV.scalarL : List IV → Bool
  | [] => true
  | c :: cs => IV.scalar c && IV.scalarL cs
end
mutual
def IV.val : IV → Val
  | .d x => .d x
  | .tup vs => .tup (IV.vals vs)
  | _ => .dead
def IV.vals : List IV → List Val
  | [] => []
  | c :: cs => IV.val c :: IV.vals cs
end
def fnOf : Val → Option (FuncId × List Val)
  | .d (.fn f) => some (f, [])
  | .fn f caps => some (f, caps)
  | _ => none

def callP (E : Ev) (o : Oper) (fo : Operand) (args : List (TypeId × Operand)) : Prog :=
  opnd E.T E.G 0 fo fun fv => match fnOf fv with
    | none => .fail
    | some (f, caps) => opnds E.T E.G args fun vs => argL (vs ++ caps) fun ivs ts bx => .need (decide bx.Nodup) (.call f ivs fun r outs =>
        if r.scalar && bx.isEmpty then putD E o r.val
        else freezeTs ts (.need (decide ((updL (vs ++ caps) outs).map (·.1) = bx)) (putTs (updL (vs ++ caps) outs)
          (freshTs (2 * o.dst.getD 1000000 + 1) (unpackV (2 * o.dst.getD 1000000 + 1) r 0).2.2 (putTs (unpackV (2 * o.dst.getD 1000000 + 1) r 0).2.1 (putD E o (unpackV (2 * o.dst.getD 1000000 + 1) r 0).1))))))

section
variable {X : Cx} {E : Ev} {C : Caller}

theorem freezeTs_run {σ' : St} : ∀ (ts : List Tok) {K : Prog} {σ : St}, (freezeTs ts K).run C σ = some σ' → K.run C (freezeT σ ts) = some σ'
  | [], K, σ, h => h
  | t :: ts, K, σ, h => by
    unfold freezeTs at h
    simp only [Prog.run] at h
    unfold freezeT
    split at h
    · rename_i nl e sz xs ht
      simp only [Prog.run] at h
      rw [ht]
      exact freezeTs_run ts h
    · rename_i hn
      split
      · rename_i nl e sz xs ht
        exact (hn _ _ _ _ ht).elim
      · exact freezeTs_run ts h
theorem putTs_run {σ' : St} : ∀ (l : List (Tok × Ent)) {K : Prog} {σ : St}, (putTs l K).run C σ = some σ' → K.run C (σ.putsT l) = some σ'
  | [], K, σ, h => h
  | (t, e) :: l, K, σ, h => putTs_run l h
theorem freshTs_run {σ σ' : St} {t : Nat} : ∀ (n : Nat) {K : Prog}, (freshTs t n K).run C σ = some σ' → K.run C σ = some σ' ∧ ∀ j, j < n → σ.getT (t, j) = .fresh
  | 0, K, h => ⟨h, fun j hj => by omega⟩
  | n + 1, K, h => by
    unfold freshTs at h
    simp only [Prog.run] at h
    split at h
    · rename_i ht
      obtain ⟨h1, h2⟩ := freshTs_run n h
      exact ⟨h1, fun j hj => by
        by_cases e : j = n
        · subst e; exact ht
        · exact h2 j (by omega)⟩
    · exact (fail_run h).elim
theorem getS_putsT : ∀ (l : List (Tok × Ent)) (σ : St) (i : Nat), (σ.putsT l).getS i = σ.getS i
  | [], σ, i => rfl
  | (t, e) :: l, σ, i => getS_putsT l (σ.putT t e) i
theorem getT_putsT_not : ∀ (l : List (Tok × Ent)) (σ : St) (t : Tok), t ∉ l.map (·.1) → (σ.putsT l).getT t = σ.getT t
  | [], σ, t, _ => rfl
  | (u, e) :: l, σ, t, h => by
    simp only [List.map_cons, List.mem_cons, not_or] at h
    show ((σ.putT u e).putsT l).getT t = _
    rw [getT_putsT_not l _ t h.2, St.getT_putT, if_neg (fun e => h.1 e.symm)]
theorem getT_putsT_mem : ∀ {l : List (Tok × Ent)} {σ : St} {t : Tok} {e : Ent}, (l.map (·.1)).Nodup → (t, e) ∈ l → (σ.putsT l).getT t = e
  | [], σ, t, e, _, h => by simp at h
  | (u, e') :: l, σ, t, e, hn, h => by
    simp only [List.map_cons, List.nodup_cons] at hn
    show ((σ.putT u e').putsT l).getT t = _
    rcases List.mem_cons.1 h with h | h
    · cases h
      rw [getT_putsT_not l _ _ hn.1, St.getT_putT, if_pos rfl]
    · exact getT_putsT_mem hn.2 h

mutual
theorem D.scalar_rep {H H' : Fz} : ∀ (x : D) {vs : List Value}, x.scalar = true → D.Rep H x vs → D.Rep H' x vs
  | .int _ _, _, _, h => h
  | .bool _, _, _, h => h
  | .flt _ _, _, _, h => h
  | .cpx _ _ _, _, _, h => h
  | .str _, _, _, h => h
  | .agg cs, vs, hs, h => by
    unfold D.Rep at *
    unfold D.scalar at hs
    exact ⟨D.scalarL_rep cs hs h.1, h.2⟩
  | .sl _ _ _ _, _, hs, _ => by simp [D.scalar] at hs
  | .nilp, _, hs, _ => by simp [D.scalar] at hs
  | .fn _, _, hs, _ => by simp [D.scalar] at hs
  | .nilf, _, hs, _ => by simp [D.scalar] at hs
theorem D.scalarL_rep {H H' : Fz} : ∀ (xs : List D) {vs : List Value}, D.scalarL xs = true → D.RepL H xs vs → D.RepL H' xs vs
  | [], _, _, h => h
  | x :: xs, vs, hs, h => by
    unfold D.RepL at *
    unfold D.scalarL at hs
    simp only [Bool.and_eq_true] at hs
    obtain ⟨a, b, h1, h2, h3⟩ := h
    exact ⟨a, b, h1, D.scalar_rep x hs.1 h2, D.scalarL_rep xs hs.2 h3⟩
end
theorem D.scalar_repV {H H' : Fz} {x : D} {v : Value} (hs : x.scalar = true) (h : x.RepV H v) : x.RepV H' v := by
  cases x <;> first
    | (obtain ⟨arr, h1, h2⟩ := h; exact ⟨arr, h1, D.scalar_rep (H := H) _ hs h2⟩)
    | exact D.scalar_rep (H := H) _ hs h
mutual
theorem IV.scalar_rep {H H' : Fz} {L : Vl} {w : World} : ∀ (x : IV) {v : Value} {bs : List Nat}, x.scalar = true → IV.Rep H w x v bs → (IV.val x).Rep H' L v
  | .d x, v, bs, hs, h => by
    unfold IV.Rep at h
    unfold IV.scalar at hs
    unfold IV.val Val.Rep
    exact D.scalar_repV hs h.1
  | .tup vs, v, bs, hs, h => by
    unfold IV.Rep at h
    unfold IV.scalar at hs
    obtain ⟨arr, h1, h2⟩ := h
    unfold IV.val Val.Rep
    exact ⟨arr, h1, IV.scalarL_rep vs hs h2⟩
  | .dead, _, _, hs, _ => by simp [IV.scalar] at hs
  | .own _ _ _ _, _, _, hs, _ => by simp [IV.scalar] at hs
  | .ptr _ _ _, _, _, hs, _ => by simp [IV.scalar] at hs
  | .dbox _ _ _, _, _, hs, _ => by simp [IV.scalar] at hs
  | .dptr _, _, _, hs, _ => by simp [IV.scalar] at hs
  | .fn _ _, _, _, hs, _ => by simp [IV.scalar] at hs
  | .agg _, _, _, hs, _ => by simp [IV.scalar] at hs
theorem IV.scalarL_rep {H H' : Fz} {L : Vl} {w : World} : ∀ (xs : List IV) {vs : List Value} {bs : List Nat}, IV.scalarL xs = true → IV.RepL H w xs vs bs → Val.RepL H' L (IV.vals xs) vs
  | [], vs, bs, _, h => by
    unfold IV.RepL at h
    obtain ⟨rfl, _⟩ := h
    unfold IV.vals Val.RepL; rfl
  | x :: xs, vs, bs, hs, h => by
    unfold IV.RepL at h
    unfold IV.scalarL at hs
    simp only [Bool.and_eq_true] at hs
    obtain ⟨v, r, b1, b2, rfl, rfl, h1, h2⟩ := h
    unfold IV.vals Val.RepL
    exact ⟨v, r, rfl, IV.scalar_rep x hs.1 h1, IV.scalarL_rep xs hs.2 h2⟩
end

mutual
/-- Variables that come back. -/
theorem updV_rep {H H' : Fz} {L : Vl} {w' : World} : ∀ (v : Val) {o : IV} {u : Value} {bs : List Nat}, v.Rep H L u → IV.Rep H' w' o u bs → ∀ t e, (t, e) ∈ updV v o → ∃ b cur ty cells, e = .dbox ty cells ∧ L t = some (.pointer (some ⟨b, 0, none⟩)) ∧ w'.heap[b]? = some (.cells cur ty (0, 0)) ∧ D.RepL H' cells cur.toList ∧ ∀ c ∈ cells, c.isAgg = false
  | .ptr t off, o, u, bs, hv, ho, t', e, hm => by
    unfold updV at hm
    split at hm
    · rename_i t1 _ ty _ cells heq
      cases heq
      simp at hm
      obtain ⟨rfl, rfl⟩ := hm
      unfold Val.Rep at hv
      obtain ⟨b, h1, rfl⟩ := hv
      unfold IV.Rep at ho
      obtain ⟨b', cur, h2, h3, h4, h5, _⟩ := ho
      simp only [Value.pointer.injEq, Option.some.injEq, Addr.mk.injEq, and_true] at h2
      obtain ⟨rfl, _⟩ := h2
      exact ⟨b, cur, ty, cells, rfl, h1, h3, h4, h5⟩
    · rename_i heq; cases heq
    · simp at hm
  | .fn f caps, o, u, bs, hv, ho, t', e, hm => by
    unfold updV at hm
    split at hm
    · rename_i heq; cases heq
    · rename_i f1 caps1 f2 os heq
      cases heq
      unfold Val.Rep at hv
      obtain ⟨arr, h1, h2⟩ := hv
      unfold IV.Rep at ho
      obtain ⟨arr', h3, h4⟩ := ho
      rw [h1] at h3
      simp only [Value.func.injEq, true_and] at h3
      obtain ⟨_, rfl⟩ := h3
      exact updL_rep caps h2 h4 t' e hm
    · simp at hm
  | .dead, o, _, _, _, _, _, _, hm => by unfold updV at hm; simp at hm
  | .und, o, _, _, _, _, _, _, hm => by unfold updV at hm; simp at hm
  | .d _, o, _, _, _, _, _, _, hm => by unfold updV at hm; simp at hm
  | .ref _ _, o, _, _, _, _, _, _, hm => by unfold updV at hm; simp at hm
  | .eptr _ _ _ _, o, _, _, _, _, _, _, hm => by unfold updV at hm; simp at hm
  | .dptr _, o, _, _, _, _, _, _, hm => by unfold updV at hm; simp at hm
  | .agg _, o, _, _, _, _, _, _, hm => by unfold updV at hm; simp at hm
  | .tup _, o, _, _, _, _, _, _, hm => by unfold updV at hm; simp at hm
theorem updL_rep {H H' : Fz} {L : Vl} {w' : World} : ∀ (vs : List Val) {os : List IV} {us : List Value} {bs : List Nat}, Val.RepL H L vs us → IV.RepL H' w' os us bs → ∀ t e, (t, e) ∈ updL vs os → ∃ b cur ty cells, e = .dbox ty cells ∧ L t = some (.pointer (some ⟨b, 0, none⟩)) ∧ w'.heap[b]? = some (.cells cur ty (0, 0)) ∧ D.RepL H' cells cur.toList ∧ ∀ c ∈ cells, c.isAgg = false
  | [], os, us, bs, hv, ho, t, e, hm => by cases os <;> simp [updL] at hm
  | v :: vs, os, us, bs, hv, ho, t, e, hm => by
    cases os with
    | nil => simp [updL] at hm
    | cons o os =>
      unfold updL at hm
      unfold Val.RepL at hv
      obtain ⟨u, us', rfl, h1, h2⟩ := hv
      unfold IV.RepL at ho
      obtain ⟨u2, us2, b1, b2, he, rfl, h3, h4⟩ := ho
      simp only [List.cons.injEq] at he
      obtain ⟨rfl, rfl⟩ := he
      rcases List.mem_append.1 hm with hm | hm
      · exact updV_rep v h1 h3 t e hm
      · exact updL_rep vs h2 h4 t e hm
end
theorem Framed.then {w0 w w' : World} {o bs : List Nat} (h : Framed w0 o w) (h' : Framed w bs w') (hb : ∀ b ∈ bs, w0.heap.size ≤ b ∨ b ∈ o) : Framed w0 o w' :=
  ⟨h'.os.trans h.os, h'.tape.trans h.tape, h'.output.trans h.output, Nat.le_trans h.size h'.size, fun k hk hn => by
    refine (h'.block k (Nat.lt_of_lt_of_le hk h.size) (fun hm => ?_)).trans (h.block k hk hn)
    rcases hb k hm with h1 | h1
    · omega
    · exact hn h1⟩
/-- What a call made comes into the state. -/
theorem Rel.laid {H : Fz} {L L' : Vl} {σ : St} {a : Act} {w : World} (r : Rel X H L σ a w) {es : List (Tok × Ent)} {bs : List Nat} (h : Laid X H w L L' es bs) (hf : ∀ t ∈ es.map (·.1), σ.getT t = .fresh) (hb : ∀ b ∈ bs, ∀ t, mutBlk (σ.getT t) (L t) ≠ some b) : Rel X H L' (σ.putsT es) a w := by
  refine r.move (fun i => getS_putsT es σ i) h.le (Fz.le_refl H) r.sub r.fr r.sub (fun t => t ∈ es.map (·.1)) (fun t ht => ?_) (fun t b ht hm => ⟨rfl, ((r.ents t).lt hm).2.1⟩) (fun t ht => ?_) (fun t t' b ht hne hm => ?_)
  · refine ⟨getT_putsT_not es σ t ht, ?_⟩
    rcases h.key t with h1 | h1
    · exact h1
    · exact (ht h1).elim
  · obtain ⟨⟨u, e⟩, hm, rfl⟩ := List.mem_map.1 ht
    rw [getT_putsT_mem h.keys hm]
    exact h.inv _ _ hm
  · obtain ⟨⟨u, e⟩, hme, rfl⟩ := List.mem_map.1 ht
    rw [getT_putsT_mem h.keys hme] at hm
    by_cases ht' : t' ∈ es.map (·.1)
    · obtain ⟨⟨u', e'⟩, hme', rfl⟩ := List.mem_map.1 ht'
      rw [getT_putsT_mem h.keys hme']
      exact h.apart _ _ _ _ b hme hme' hne hm
    · rw [getT_putsT_not es σ t' ht']
      have h1 : L' t' = L t' := by
        rcases h.key t' with h1 | h1
        · exact h1
        · exact (ht' h1).elim
      rw [h1]
      exact hb b (h.blk _ _ b hme hm) t'
/-- The caller's word: what it tells of calls is what the machine does. -/
def CSound (P : Program) (G : Globs) (C : Caller) : Prop := ∀ f args r outs, C f args = some (r, outs) → FnOk P f ∧ CallSpec P G f args r outs
theorem GlobOk.le {H H' : Fz} {G : Globs} (h : GlobOk H G) (hl : H.le H') : GlobOk H' G := fun g cs hg => by
  obtain ⟨vs, h1, h2, h3⟩ := h g cs hg
  exact ⟨vs, D.RepL.le hl _ _ h1, h2.le hl, h3⟩
theorem fnOf_rep {H : Fz} {L : Vl} {v : Val} {u : Value} {f : FuncId} {caps : List Val} (hv : v.Rep H L u) (h : fnOf v = some (f, caps)) : ∃ arr, u = .func (.func f) #[] arr ∧ Val.RepL H L caps arr.toList := by
  unfold fnOf at h
  split at h
  · rename_i g
    simp only [Option.some.injEq, Prod.mk.injEq] at h
    obtain ⟨rfl, rfl⟩ := h
    unfold Val.Rep at hv
    simp only [D.RepV, D.Rep, List.cons.injEq, and_true] at hv
    exact ⟨#[], hv, by unfold Val.RepL; rfl⟩
  · rename_i g cs
    simp only [Option.some.injEq, Prod.mk.injEq] at h
    obtain ⟨rfl, rfl⟩ := h
    unfold Val.Rep at hv
    exact hv
  · cases h
theorem callP_ok (k : Cxk X E) (hC : CSound X.P E.G C) {o : Oper} {fo : Operand} {args : Array Operand} {tys : Array TypeId} {l : List (TypeId × Operand)} (hl : l.map (·.2) = args.toList) (ho : o.op = .call { callee := .value fo, args := args, argTypes := tys }) : OpOk X C o (callP E o fo l) := by
  intro H L σ a w σ' r h K Q hK
  obtain ⟨fv, h1, h2⟩ := opnd_run k r h
  split at h1
  · exact (fail_run h1).elim
  rename_i f caps hfn
  obtain ⟨cap, e1, hcap⟩ := fnOf_rep h2 hfn
  obtain ⟨vs, h3, h4⟩ := opnds_run k r _ h1
  have e2 : l.map (fun p => a.eval p.2) = (args.map a.eval).toList := by
    rw [Array.toList_map, ← hl, List.map_map]; rfl
  rw [e2] at h4
  have hall : Val.RepL H L (vs ++ caps) ((args.map a.eval).toList ++ cap.toList) := Val.RepL.append hcap h4
  obtain ⟨ivs, ts, bx, H1, σ1, k1, k2, k3, k4, k5, k6, k7⟩ := argL_run (vs ++ caps) r hall h3
  obtain ⟨hnd, k8⟩ := need_run k1
  simp only [decide_eq_true_eq] at hnd
  simp only [Prog.run] at k8
  cases hc : C f ivs with
  | none => rw [hc] at k8; cases k8
  | some p =>
    obtain ⟨res, outs⟩ := p
    rw [hc] at k8
    dsimp only at k8
    obtain ⟨⟨fn, hfn1, hfn2, hfn3⟩, hspec⟩ := hC f ivs res outs hc
    obtain ⟨H2, m1, r2⟩ := freezeT_rel ts k3
    have hext := freezeT_ext ts σ1
    have hfz := hext.2 k5
    have hbox := k6.ext hext.1
    have hargs := k7 H2 (freezeT σ1 ts) m1 r2 hext.1 hfz
    have hbs := blks_ok r2 hnd
    have hcall := hspec H2 w _ _ (k.glob.le r2.le) r2.sub hargs hbs.1 (fun b hb => (hbs.2 b hb).1)
    have hex : (execOp a.eval o).run X.P w = .ok (.enter f ((args.map a.eval).toList ++ cap.toList).toArray) w := by
      have e3 : ((args.map a.eval).toList ++ cap.toList).toArray = args.map a.eval ++ cap := by simp
      rw [e3]
      have n2 : ¬ fn.name = "runtime.NumGoroutine" := by simpa using hfn2
      have n3 : ¬ fn.body = none := by intro h; rw [h] at hfn3; simp at hfn3
      simp [execOp, ho, resolve, Deferred.ofValue, e1, invoke, callFunc, hfn1, n2, n3]
    unfold Oper.wp
    rw [hex]
    show Calls _ _ _ _ _
    refine hcall.mono ?_
    rintro e w' ⟨v, H3, b2, rfl, q1, q2, q3, q4, q5, q6, q7, q8⟩
    show K (a.put o.dst v) w'
    -- blocks of the caller's that were not handed over
    have hkeep : ∀ t b, t ∉ bx → mutBlk ((freezeT σ1 ts).getT t) (L t) = some b → w'.heap[b]? = w.heap[b]? ∧ H3 b = none := fun t b ht hb => by
      have h5 := (r2.ents t).lt hb
      refine ⟨q3.block b h5.1 (fun hm => ?_), (q4 b h5.1).trans h5.2.1⟩
      obtain ⟨t', ht', hb'⟩ := List.mem_filterMap.1 hm
      exact r2.apart t t' b (fun e => ht (e ▸ ht')) hb hb'
    have hfr3 : Framed X.w0 X.own0 w' := r2.fr.then q3 (fun b hb => (hbs.2 b hb).2)
    split at k8
    · -- numbers alone
      rename_i hsc
      simp only [Bool.and_eq_true, List.isEmpty_iff] at hsc
      obtain ⟨hsc, rfl⟩ := hsc
      have hH1 : H1.sub w' := fun b ob hb => by
        have h5 := k3.sub b ob hb
        exact (q3.block b (Array.getElem?_eq_some_iff.1 h5).1 (by simp [blks])).trans h5
      have r3 : Rel X H1 L σ1 a w' := k3.move (fun _ => rfl) (Vl.le_refl L) (Fz.le_refl H1) hH1 hfr3 hH1 (fun _ => False) (fun t _ => ⟨rfl, rfl⟩) (fun t b _ hb => by
          have h5 := (k3.ents t).lt hb
          exact ⟨q3.block b h5.1 (by simp [blks]), h5.2.1⟩) (fun t h => h.elim) (fun t t' b h => h.elim)
      exact hK _ _ _ _ (putD_run k r3 (IV.scalar_rep res hsc q6) k8)
    · have k9 := freezeTs_run ts k8
      obtain ⟨hupd, k10⟩ := need_run k9
      simp only [decide_eq_true_eq] at hupd
      have k11 := putTs_run _ k10
      have hvals2 : Val.RepL H2 L (vs ++ caps) ((args.map a.eval).toList ++ cap.toList) := Val.RepL.le (Fz.le_trans k2 m1) (Vl.le_refl L) _ _ hall
      have hund : ((updL (vs ++ caps) outs).map (·.1)).Nodup := hupd ▸ hnd
      -- the variables as they come back
      have hinv : ∀ t e, (t, e) ∈ updL (vs ++ caps) outs → EntInv X H3 L w' t e ∧ ∃ b, mutBlk e (L t) = some b ∧ mutBlk ((freezeT σ1 ts).getT t) (L t) = some b := fun t e hm => by
        obtain ⟨b, cur, ty, cells, rfl, g1, g2, g3, g4⟩ := updL_rep (vs ++ caps) hvals2 q5 t e hm
        have htb : t ∈ bx := hupd ▸ List.mem_map.2 ⟨_, hm, rfl⟩
        obtain ⟨ty', cells', hb'⟩ := hbox t htb
        have hmb : mutBlk ((freezeT σ1 ts).getT t) (L t) = some b := by rw [hb', g1]; rfl
        have h5 := (r2.ents t).lt hmb
        exact ⟨⟨b, cur, g1, g2, g3, g4, (q4 b h5.1).trans h5.2.1, h5.2.2⟩, b, by rw [g1]; rfl, hmb⟩
      have r3 : Rel X H3 L ((freezeT σ1 ts).putsT (updL (vs ++ caps) outs)) a w' := by
        refine r2.move (fun i => getS_putsT _ _ i) (Vl.le_refl L) q1 q2 hfr3 (fun b ob hb => q2 b ob (q1 b ob hb)) (fun t => t ∈ (updL (vs ++ caps) outs).map (·.1)) (fun t ht => ⟨getT_putsT_not _ _ t ht, rfl⟩) (fun t b ht hb => hkeep t b (fun hm => ht (hupd ▸ hm)) hb) (fun t ht => ?_) (fun t t' b ht hne hm => ?_) (fun k' hk' => q4 k' (Nat.lt_of_lt_of_le (Nat.lt_of_not_le (fun e => hk' (.inl e))) r2.fr.size))
        · obtain ⟨⟨u, e⟩, hm, rfl⟩ := List.mem_map.1 ht
          rw [getT_putsT_mem hund hm]
          exact (hinv _ _ hm).1
        · obtain ⟨⟨u, e⟩, hme, rfl⟩ := List.mem_map.1 ht
          rw [getT_putsT_mem hund hme] at hm
          obtain ⟨_, b', g1, g2⟩ := hinv _ _ hme
          rw [g1] at hm
          cases hm
          by_cases ht' : t' ∈ (updL (vs ++ caps) outs).map (·.1)
          · obtain ⟨⟨u', e'⟩, hme', rfl⟩ := List.mem_map.1 ht'
            rw [getT_putsT_mem hund hme']
            obtain ⟨_, b'', g3, g4⟩ := hinv _ _ hme'
            rw [g3]
            intro he
            cases he
            exact r2.apart _ _ _ hne g2 g4
          · rw [getT_putsT_not _ _ t' ht']
            exact r2.apart _ _ _ hne g2
      obtain ⟨k12, hfresh⟩ := freshTs_run _ k11
      have hLfr : ∀ j, 0 ≤ j → j < (unpackV (2 * o.dst.getD 1000000 + 1) res 0).2.2 → L (2 * o.dst.getD 1000000 + 1, j) = none := fun j _ hj => by
        have := r3.ents (2 * o.dst.getD 1000000 + 1, j)
        rw [hfresh j hj] at this
        exact this
      obtain ⟨L3, g1, g2⟩ := unpackV_rep (X := X) (2 * o.dst.getD 1000000 + 1) res 0 (L0 := L) q6 q7 (fun b hb => ⟨(q8 b hb).1, .inl (Nat.le_trans r2.fr.size (q8 b hb).2)⟩) hLfr
      have hkeys := (unpackV_key (2 * o.dst.getD 1000000 + 1) res 0).2
      have r4 := r3.laid g1 (fun t ht => by
        have h5 := hkeys t ht
        obtain ⟨t1, t2⟩ := t
        dsimp only at h5
        obtain ⟨rfl, _, h6⟩ := h5
        exact hfresh t2 h6) (fun b hb t hm => by
        have hlt : b < w.heap.size := by
          by_cases ht : t ∈ (updL (vs ++ caps) outs).map (·.1)
          · obtain ⟨⟨u, e⟩, hme, rfl⟩ := List.mem_map.1 ht
            rw [getT_putsT_mem hund hme] at hm
            obtain ⟨_, b', g3, g4⟩ := hinv _ _ hme
            rw [g3] at hm
            cases hm
            exact ((r2.ents _).lt g4).1
          · rw [getT_putsT_not _ _ t ht] at hm
            exact ((r2.ents t).lt hm).1
        have := (q8 b hb).2
        omega)
      exact hK _ _ _ _ (putD_run k r4 g2 (putTs_run _ k12))
end
end Go.Ab
