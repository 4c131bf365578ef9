/- The types' table of a program, and its functions, by lists. No condition. -/
import Derived.Test.YtoghhgceanlkkaaAbFn
set_option linter.unusedVariables false
set_option linter.unusedSimpArgs false
namespace Go.Ab
open Go

def toD1 : Value → Option D
  | .int k n => some (.int k n)
  | .bool b => some (.bool b)
  | .float k b => some (.flt k b)
  | .complex k a b => some (.cpx k a b)
  | .string s => some (.str s)
  | .slice none 0 0 => some (.sl 1 true [] [])
  | .pointer none => some .nilp
  | .nilFunc => some .nilf
  | _ => none
def toDs : List Value → Option (List D)
  | [] => some []
  | v :: vs => match toD1 v, toDs vs with
    | some x, some xs => some (x :: xs)
    | _, _ => none
def toD : Value → Option D
  | .agg cs => (toDs cs.toList).map .agg
  | v => toD1 v
def tdOf (P : Program) (t : TypeId) : Option TD :=
  match P.underlying t, P.info? t with
  | some d, some i => match i.zero with
    | some z => match toD z with
      | some x => if x.val.cells.size = i.size ∧ 0 < i.size then some ⟨d, i.size, i.bytes, x⟩ else none
      | none => none
    | none => none
  | _, _ => none
def tabOf (P : Program) : List TypeId → Tab
  | [] => []
  | t :: r => match tdOf P t with
    | some td => (t, td) :: tabOf P r
    | none => tabOf P r
theorem toD1_val {v : Value} {x : D} (h : toD1 v = some x) : x.val = v ∧ x.plain1 = true := by
  unfold toD1 at h
  split at h <;> first | (cases h; done) | (simp only [Option.some.injEq] at h; subst h; exact ⟨rfl, rfl⟩)
theorem toDs_val : ∀ {vs : List Value} {xs : List D}, toDs vs = some xs → D.vals xs = vs ∧ xs.all D.plain1 = true
  | [], xs, h => by simp only [toDs, Option.some.injEq] at h; subst h; exact ⟨rfl, rfl⟩
  | v :: vs, xs, h => by
    unfold toDs at h
    split at h
    · rename_i x ys h1 h2
      simp only [Option.some.injEq] at h
      subst h
      have h3 := toD1_val h1
      have h4 := toDs_val h2
      exact ⟨by unfold D.vals; rw [h3.1, h4.1], by simp [h3.2]; simpa using h4.2⟩
    · cases h
theorem toD_val {v : Value} {x : D} (h : toD v = some x) : x.val = v ∧ x.plain = true := by
  unfold toD at h
  split at h
  · rename_i cs
    cases hc : toDs cs.toList with
    | none => rw [hc] at h; cases h
    | some xs =>
      rw [hc] at h
      simp only [Option.map_some, Option.some.injEq] at h
      subst h
      have h4 := toDs_val hc
      exact ⟨by unfold D.val; rw [h4.1], h4.2⟩
  · have h3 := toD1_val h
    refine ⟨h3.1, ?_⟩
    cases x <;> first | exact h3.2 | (simp [D.plain1] at h3)
theorem tdOf_ok {P : Program} {t : TypeId} {td : TD} (h : tdOf P t = some td) : TdOk P t td := by
  unfold tdOf at h
  split at h
  · rename_i d i h1 h2
    split at h
    · rename_i z h3
      split at h
      · rename_i x h4
        split at h
        · rename_i h5
          simp only [Option.some.injEq] at h
          subst h
          have h6 := toD_val h4
          exact ⟨h1, ⟨i, h2, rfl, rfl, by rw [h3, h6.1]⟩, h6.2, h5.1, h5.2⟩
        · cases h
      · cases h
    · cases h
  · cases h
theorem tabOf_ok {P : Program} : ∀ {l : List TypeId}, TabOk P (tabOf P l)
  | [], t, td, h => by simp [tabOf, Tab.get] at h
  | u :: r, t, td, h => by
    unfold tabOf at h
    split at h
    · rename_i td' h1
      unfold Tab.get at h
      split at h
      · rename_i e
        subst e
        simp only [Option.some.injEq] at h
        subst h
        exact tdOf_ok h1
      · exact tabOf_ok t td h
    · exact tabOf_ok t td h
theorem TabOk.of {P : Program} {T : Tab} {l : List TypeId} (h : tabOf P l = T) : TabOk P T := h ▸ tabOf_ok

/-- Functions, by number. -/
def codeOf : List (FuncId × FnD) → FuncId → Option FnD
  | [], _ => none
  | (g, d) :: r, f => if g = f then some d else codeOf r f
def CodeOk (P : Program) (l : List (FuncId × FnD)) : Prop := ∀ p ∈ l, ∃ g, P.funcs[p.1]? = some g ∧ g.body = some p.2.body ∧ g.ntmps = p.2.ntmps ∧ g.results.toList = p.2.results ∧ (g.name == "runtime.NumGoroutine") = false
theorem CodeOk.nil (P : Program) : CodeOk P [] := by simp [CodeOk]
theorem CodeOk.cons {P : Program} {f : FuncId} {d : FnD} {l : List (FuncId × FnD)} {g : Func} (h : P.funcs[f]? = some g) (h2 : g.body = some d.body ∧ g.ntmps = d.ntmps ∧ g.results.toList = d.results ∧ (g.name == "runtime.NumGoroutine") = false) (h3 : CodeOk P l) : CodeOk P ((f, d) :: l) := fun p hp => by
  rcases List.mem_cons.1 hp with rfl | hp
  · exact ⟨g, h, h2⟩
  · exact h3 p hp
theorem CodeOk.get {P : Program} : ∀ {l : List (FuncId × FnD)}, CodeOk P l → ∀ f fn, codeOf l f = some fn → ∃ g, P.funcs[f]? = some g ∧ g.body = some fn.body ∧ g.ntmps = fn.ntmps ∧ g.results.toList = fn.results ∧ (g.name == "runtime.NumGoroutine") = false
  | [], _, f, fn, h => by simp [codeOf] at h
  | (g, d) :: r, hl, f, fn, h => by
    unfold codeOf at h
    split at h
    · rename_i e
      subst e
      simp only [Option.some.injEq] at h
      subst h
      exact hl (g, d) (by simp)
    · exact CodeOk.get (fun p hp => hl p (by simp [hp])) f fn h
end Go.Ab
