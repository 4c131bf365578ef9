/- The operations, one by one: what the evaluator tells is what the machine does. First part. No condition. -/
import Derived.Laws.Slices
import Derived.Test.YtjhganbjbiihoaaDoorClauses0
import Derived.Test.YtjhganbjbiihoaaDoorClauses1
import Derived.Test.YtjhganbjbiihoaaDoorClauses2
set_option linter.unusedVariables false
set_option linter.unusedSimpArgs false
namespace Go.Ab
open Go

structure TdOk (P : Program) (t : TypeId) (td : TD) : Prop where
  und : P.underlying t = some td.desc
  info : ∃ i, P.info? t = some i ∧ i.size = td.size ∧ i.bytes = td.bytes ∧ i.zero = some td.zero.val
  plain : td.zero.plain = true
  zsz : td.zero.val.cells.size = td.size
  pos : 0 < td.size
  eqs : td.eqs = true → P.stoodInHeld t = false ∧ P.eqGuardType P.depth t = false ∧ ∀ fs, td.desc = .struct fs → fs.toList.all (fun f => f.name != "_") = true
def TabOk (P : Program) (T : Tab) : Prop := ∀ t td, T.get t = some td → TdOk P t td
/-- The variables of packages that are read. -/
def GlobOk (H0 : Fz) (G : Globs) : Prop := ∀ g cs, assoc none (G.map fun p => (p.1, some p.2)) g = some cs → ∃ vs, D.RepL H0 cs vs ∧ Lies H0 ⟨g, 0, none⟩ vs ∧ (∀ c ∈ cs, c.isAgg = false) ∧ ∃ t z, H0 g = some (.cells vs.toArray t z)

theorem D.plain1_rep {H : Fz} {x : D} (h : x.plain1 = true) : D.Rep H x [x.val] ∧ x.isAgg = false := by
  cases x <;> simp [D.plain1] at h <;> first
    | exact ⟨by unfold D.Rep D.val; rfl, rfl⟩
    | exact ⟨by unfold D.Rep D.val; exact ⟨_, rfl, .inl ⟨h, rfl⟩⟩, rfl⟩
    | (obtain ⟨⟨h1, h2⟩, h3⟩ := h
       subst h1; subst h2; subst h3
       exact ⟨by unfold D.Rep D.val; exact .inl ⟨rfl, rfl, rfl, rfl⟩, rfl⟩)
theorem D.plain_repL {H : Fz} : ∀ {cs : List D}, cs.all D.plain1 = true → D.RepL H cs (D.vals cs) ∧ ∀ c ∈ cs, c.isAgg = false
  | [], _ => ⟨by unfold D.RepL D.vals; rfl, by simp⟩
  | c :: cs, h => by
    simp only [List.all_cons, Bool.and_eq_true] at h
    have h1 := D.plain1_rep (H := H) h.1
    have h2 := D.plain_repL (H := H) h.2
    refine ⟨by unfold D.RepL D.vals; exact ⟨[c.val], D.vals cs, rfl, h1.1, h2.1⟩, fun x hx => ?_⟩
    rcases List.mem_cons.1 hx with rfl | hx
    · exact h1.2
    · exact h2.2 x hx
theorem D.plain_rep {H : Fz} {x : D} (h : x.plain = true) : x.RepV H x.val := by
  cases x with
  | agg cs =>
    unfold D.RepV D.val
    exact ⟨_, rfl, by unfold D.Rep; exact D.plain_repL h⟩
  | _ => exact (D.plain1_rep (H := H) (by simpa [D.plain] using h)).1

structure Cxk (X : Cx) (E : Ev) : Prop where
  tab : TabOk X.P E.T
  glob : GlobOk X.H0 E.G
  n : E.N = X.N
  lk : ∀ d, d ∉ E.lk → ∀ u, (d, u) ∉ X.lk
  ins : ∀ f e, insOf E.cv f = some e → InsOk X.P f e ∧ ∃ fn, X.P.funcs[f]? = some fn ∧ (fn.name == "runtime.NumGoroutine") = false ∧ fn.body.isNone = false

section
variable {X : Cx} {E : Ev} {C : Caller} {H : Fz} {L : Vl} {σ σ' : St} {a : Act} {w : World}

theorem constV_rep (T : Tab) (ty : TypeId) (v : Value) : (constV T ty v).Rep H L v := by
  unfold constV
  split <;> first
    | (unfold Val.Rep; simp [D.RepV, D.Rep]; done)
    | (split <;> first
        | (split <;> first
            | (unfold Val.Rep; simp [D.RepV, D.Rep]; done)
            | trivial)
        | trivial)
    | trivial
theorem opnd_run (k : Cxk X E) (r : Rel X H L σ a w) {ty : TypeId} {x : Operand} {K : Val → Prog} (h : (opnd E.T E.G ty x K).run C σ = some σ') : ∃ v, (K v).run C σ = some σ' ∧ v.Rep H L (a.eval x) := by
  cases x with
  | tmp t => exact ⟨σ.getS t, h, r.env t⟩
  | const v => exact ⟨_, h, constV_rep E.T ty v⟩
  | func f => exact ⟨_, h, by unfold Val.Rep; simp [D.RepV, D.Rep, Act.eval]⟩
  | global g =>
    refine ⟨_, h, ?_⟩
    cases hg : assoc none (E.G.map fun p => (p.1, some p.2)) g with
    | none => trivial
    | some cs =>
      obtain ⟨vs, h1, h2, h3, _⟩ := k.glob g cs hg
      unfold Val.Rep
      exact ⟨⟨g, 0, none⟩, vs, rfl, D.RepL.le r.le _ _ h1, h2.le r.le, h3⟩
theorem putD_run (k : Cxk X E) (r : Rel X H L σ a w) {o : Oper} {x : Val} {v : Value} (hx : x.Rep H L v) (h : (putD E o x).run C σ = some σ') : Rel X H L σ' (a.put o.dst v) w := by
  unfold putD at h
  cases ho : o.dst with
  | none =>
    rw [ho] at h
    simp only [Prog.run, Option.some.injEq] at h
    subst h
    exact r
  | some d =>
    rw [ho] at h
    simp only at h
    by_cases hd : d < E.N ∧ d ∉ E.lk
    · rw [if_pos hd] at h
      simp only [Prog.run, Option.some.injEq] at h
      subst h
      exact r.put (by rw [← k.n]; exact hd.1) (k.lk d hd.2) hx
    · rw [if_neg hd] at h
      simp [Prog.run] at h
theorem need_run {p : Bool} {K : Prog} (h : (Prog.need p K).run C σ = some σ') : p = true ∧ K.run C σ = some σ' := by
  simp only [Prog.run] at h
  by_cases hp : p = true
  · rw [if_pos hp] at h; exact ⟨hp, h⟩
  · rw [if_neg hp] at h; cases h
theorem elem_run {tg : Option Tag} {xs : List D} {i : Nat} {K : D → Prog} (h : (Prog.elem tg xs i K).run C σ = some σ') : ∃ x, xs[i]? = some x ∧ (K x).run C σ = some σ' := by
  simp only [Prog.run] at h
  cases hx : xs[i]? with
  | none => rw [hx] at h; cases h
  | some x => rw [hx] at h; exact ⟨x, rfl, h⟩
theorem fail_run (h : (Prog.fail).run C σ = some σ') : False := by simp [Prog.run] at h
theorem newT_run {t : Tok} {e : Ent} {K : Prog} (h : (newT t e K).run C σ = some σ') : σ.getT t = .fresh ∧ K.run C (σ.putT t e) = some σ' := by
  unfold newT at h
  simp only [Prog.run] at h
  cases ht : σ.getT t <;> rw [ht] at h <;> first
    | exact ⟨rfl, h⟩
    | exact (fail_run h).elim

/-- What the evaluator tells of an operation is what the machine does. -/
def OpOk (X : Cx) (C : Caller) (o : Oper) (p : Prog) : Prop :=
  ∀ (H : Fz) (L : Vl) (σ : St) (a : Act) (w : World) (σ' : St), Rel X H L σ a w → p.run C σ = some σ' →
    ∀ (K : Act → World → Prop) (Q : Exit → Act → World → Prop), (∀ H' L' a' w', Rel X H' L' σ' a' w' → K a' w') → o.wp X.P a w K Q

theorem wp_value {P : Program} {o : Oper} {a : Act} {w w1 : World} {v : Value} {K : Act → World → Prop} {Q : Exit → Act → World → Prop} (h : (execOp a.eval o).run P w = .ok (.value v) w1) (hk : K (a.put o.dst v) w1) : o.wp P a w K Q := by
  unfold Oper.wp
  rw [h]
  exact hk
end
end Go.Ab
