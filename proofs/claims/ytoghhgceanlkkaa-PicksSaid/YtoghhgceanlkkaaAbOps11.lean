/- The operations: complex numbers. No condition. -/
import Derived.Test.YtoghhgceanlkkaaAbOps10
set_option linter.unusedVariables false
set_option linter.unusedSimpArgs false
namespace Go.Ab
open Go
section
variable {X : Cx} {E : Ev} {C : Caller}
def cpxP (E : Ev) (o : Oper) (t1 t2 : TypeId) (x y : Operand) : Prog :=
  opnd E.T E.G t1 x fun u => opnd E.T E.G t2 y fun v => match u, v with
    | .d (.flt k a), .d (.flt k' b) => if k = k' then putD E o (.d (.cpx k a b)) else .fail
    | _, _ => .fail
def reimP (E : Ev) (o : Oper) (im : _root_.Bool) (t : TypeId) (x : Operand) : Prog :=
  opnd E.T E.G t x fun u => match u with
    | .d (.cpx k a b) => putD E o (.d (.flt k (match im with | true => b | false => a)))
    | _ => .fail
theorem cpxP_ok (k : Cxk X E) {o : Oper} {t1 t2 : TypeId} {x y : Operand} {tys : Array TypeId} (ho : o.op = .call { callee := .builtin .complex, args := #[x, y], argTypes := tys }) : OpOk X C o (cpxP E o t1 t2 x y) := by
  intro H L σ a w σ' r h K Q hK
  obtain ⟨u, h1, h2⟩ := opnd_run k r h
  obtain ⟨v, h3, h4⟩ := opnd_run k r h1
  split at h3
  · rename_i k1 m k2 n
    have e1 := repD_flt h2
    have e2 := repD_flt h4
    split at h3
    · rename_i hk
      subst hk
      refine wp_value (w1 := w) (v := .complex k1 m n) ?_ (hK _ _ _ _ (putD_run k r rep_cpx h3))
      have hb : (Builtin.complex_ tys o.type #[.float k1 m, .float k1 n]).run X.P w = .ok (.complex k1 m n) w := by
        show (if k1 = k1 then (pure (.complex k1 m n) : Sem Value) else _).run X.P w = _
        rw [if_pos rfl]; rfl
      simp [execOp, ho, resolve, invoke, builtin, e1, e2, hb]
    · exact (fail_run h3).elim
  · exact (fail_run h3).elim
theorem reimP_ok (k : Cxk X E) {o : Oper} {im : _root_.Bool} {t1 : TypeId} {x : Operand} {tys : Array TypeId} (ho : o.op = .call { callee := .builtin (if im = true then Builtin.imag else Builtin.real), args := #[x], argTypes := tys }) : OpOk X C o (reimP E o im t1 x) := by
  intro H L σ a w σ' r h K Q hK
  obtain ⟨u, h1, h2⟩ := opnd_run k r h
  split at h1
  · rename_i k1 m n
    have e1 := repD_cpx h2
    have hb : (Builtin.real_ tys o.type #[.complex k1 m n]).run X.P w = .ok (.float k1 m) w := rfl
    have hb2 : (Builtin.imag_ tys o.type #[.complex k1 m n]).run X.P w = .ok (.float k1 n) w := rfl
    cases im with
    | true =>
      refine wp_value (w1 := w) (v := .float k1 n) ?_ (hK _ _ _ _ (putD_run k r rep_flt h1))
      simp [execOp, ho, resolve, invoke, builtin, e1, hb, hb2]
    | false =>
      refine wp_value (w1 := w) (v := .float k1 m) ?_ (hK _ _ _ _ (putD_run k r rep_flt h1))
      simp [execOp, ho, resolve, invoke, builtin, e1, hb, hb2]
  · exact (fail_run h1).elim
end
end Go.Ab
