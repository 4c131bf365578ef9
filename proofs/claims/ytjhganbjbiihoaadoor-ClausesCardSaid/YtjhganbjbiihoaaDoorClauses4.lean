/- The operations, one by one: what the evaluator tells is what the machine does. Second part: copies, arithmetic, comparisons. No condition. -/
import Derived.Laws.Entries
import Derived.Laws.OwnMore
import Derived.Laws.Shifts
import Derived.Laws.StructEq
import Derived.Test.YtjhganbjbiihoaaDoorClauses0
import Derived.Test.YtjhganbjbiihoaaDoorClauses1
import Derived.Test.YtjhganbjbiihoaaDoorClauses2
import Derived.Test.YtjhganbjbiihoaaDoorClauses3
set_option linter.unusedVariables false
set_option linter.unusedSimpArgs false
namespace Go.Ab
open Go

section
variable {P : Program} {t : TypeId} {td : TD} (h : TdOk P t td) (w : World)
include h
theorem TdOk.run_und : (underlying t).run P w = .ok td.desc w := run_underlying h.und w
theorem TdOk.run_info : ∃ i, (typeInfo t).run P w = .ok i w ∧ i.size = td.size ∧ i.bytes = td.bytes ∧ i.zero = some td.zero.val := by
  obtain ⟨i, h1, h2⟩ := h.info
  exact ⟨i, by simp [typeInfo, h1], h2⟩
theorem TdOk.run_size : (sizeOf t).run P w = .ok td.size w := by
  obtain ⟨i, h1, h2, _⟩ := h.run_info w
  simp [sizeOf, h1, h2]
theorem TdOk.run_zero : (zeroValue t).run P w = .ok td.zero.val w := by
  obtain ⟨i, h1, _, _, h2⟩ := h.run_info w
  simp [zeroValue, h1, h2]
theorem TdOk.run_isAgg : (isAgg t).run P w = .ok (isAggT td) w := by
  unfold isAgg isAggT
  simp only [Sem.run_bind, h.run_und, Result.andThen_ok]
  cases td.desc <;> rfl
end

section
variable {X : Cx} {E : Ev} {C : Caller}

def moveP (E : Ev) (o : Oper) (x : Operand) : Prog := opnd E.T E.G o.type x (putD E o)
theorem moveP_ok (k : Cxk X E) {o : Oper} {x : Operand} (ho : o.op = .move x ∨ o.op = .assign x) : OpOk X C o (moveP E o x) := by
  intro H L σ a w σ' r h K Q hK
  obtain ⟨v, h1, h2⟩ := opnd_run k r h
  exact wp_value (v := a.eval x) (w1 := w) (by rcases ho with ho | ho <;> simp [execOp, ho]) (hK _ _ _ _ (putD_run k r h2 h1))

def pickP (E : Ev) (o : Oper) (c x y : Operand) : Prog :=
  opnd E.T E.G o.type c fun cv => match cv with
    | .d (.bool t) => .br t (opnd E.T E.G o.type x (putD E o)) (opnd E.T E.G o.type y (putD E o))
    | _ => .fail
theorem pickP_ok (k : Cxk X E) {o : Oper} {c x y : Operand} (ho : o.op = .pick c x y) : OpOk X C o (pickP E o c x y) := by
  intro H L σ a w σ' r h K Q hK
  obtain ⟨cv, h1, h2⟩ := opnd_run k r h
  split at h1
  · rename_i t
    have hc : a.eval c = .bool t := by
      unfold Val.Rep at h2
      simpa [D.RepV, D.Rep] using h2
    simp only [Prog.run] at h1
    cases t with
    | true =>
      simp only [if_true] at h1
      obtain ⟨v, h3, h4⟩ := opnd_run k r h1
      exact wp_value (v := a.eval x) (w1 := w) (by simp [execOp, ho, hc, asBool]) (hK _ _ _ _ (putD_run k r h4 h3))
    | false =>
      simp only [Bool.false_eq_true, if_false] at h1
      obtain ⟨v, h3, h4⟩ := opnd_run k r h1
      exact wp_value (v := a.eval y) (w1 := w) (by simp [execOp, ho, hc, asBool]) (hK _ _ _ _ (putD_run k r h4 h3))
  · exact (fail_run h1).elim

def extractP (E : Ev) (o : Oper) (x : Operand) (i : Nat) : Prog :=
  opnd E.T E.G o.type x fun v => match v with
    | .tup vs => match vs[i]? with
      | some y => putD E o y
      | none => .fail
    | _ => .fail
theorem extractP_ok (k : Cxk X E) {o : Oper} {x : Operand} {i : Nat} (ho : o.op = .extract x i) : OpOk X C o (extractP E o x i) := by
  intro H L σ a w σ' r h K Q hK
  obtain ⟨v, h1, h2⟩ := opnd_run k r h
  split at h1
  · rename_i vs
    unfold Val.Rep at h2
    obtain ⟨arr, h3, h4⟩ := h2
    cases hy : vs[i]? with
    | none => rw [hy] at h1; exact (fail_run h1).elim
    | some y =>
      rw [hy] at h1
      obtain ⟨u, h5, h6⟩ := Val.RepL.get h4 hy
      exact wp_value (v := u) (w1 := w) (by simp [execOp, ho, h3, Instr.extract, Array.getElem?_toList ▸ h5]) (hK _ _ _ _ (putD_run k r h6 h1))
  · exact (fail_run h1).elim

def nilCheckP (E : Ev) (o : Oper) (x : Operand) : Prog :=
  opnd E.T E.G o.type x fun v => match v with
    | .ptr _ _ => putD E o v
    | .eptr _ _ _ _ => putD E o v
    | .dptr _ => putD E o v
    | .d (.fn _) => putD E o v
    | .fn _ _ => putD E o v
    | _ => .fail
theorem nilCheckP_ok (k : Cxk X E) {o : Oper} {x : Operand} (ho : o.op = .nilCheck x) : OpOk X C o (nilCheckP E o x) := by
  intro H L σ a w σ' r h K Q hK
  obtain ⟨v, h1, h2⟩ := opnd_run k r h
  have fin : ∀ u, a.eval x = u → (execOp a.eval o).run X.P w = .ok (.value u) w → (putD E o v).run C σ = some σ' → o.wp X.P a w K Q := fun u hu he hp =>
    wp_value (v := u) (w1 := w) he (hK _ _ _ _ (putD_run k r (hu ▸ h2) hp))
  cases v <;> first
    | exact (fail_run h1).elim
    | skip
  case d y =>
    cases y <;> first
      | exact (fail_run h1).elim
      | skip
    have h3 := h2
    unfold Val.Rep at h3
    simp only [D.RepV, D.Rep, List.cons.injEq, and_true] at h3
    exact fin _ h3 (by simp [execOp, ho, h3]) h1
  case ptr t off =>
    have h3 := h2
    unfold Val.Rep at h3
    obtain ⟨b, _, h3⟩ := h3
    exact fin _ h3 (by simp [execOp, ho, h3]) h1
  case eptr t sz i off =>
    have h3 := h2
    unfold Val.Rep at h3
    obtain ⟨b, _, _, _, h3⟩ := h3
    exact fin _ h3 (by simp [execOp, ho, h3]) h1
  case dptr xs =>
    have h3 := h2
    unfold Val.Rep at h3
    obtain ⟨b, _, h3, _⟩ := h3
    exact fin _ h3 (by simp [execOp, ho, h3]) h1
  case fn f cs =>
    have h3 := h2
    unfold Val.Rep at h3
    obtain ⟨b, h3, _⟩ := h3
    exact fin _ h3 (by simp [execOp, ho, h3]) h1

/-! ### Arithmetic and comparisons -/
theorem repD_int {H : Fz} {L : Vl} {k : IntKind} {n : Int} {v : Value} (h : (Val.d (.int k n)).Rep H L v) : v = .int k n := by
  unfold Val.Rep at h; simpa [D.RepV, D.Rep] using h
theorem repD_str {H : Fz} {L : Vl} {n : ByteArray} {v : Value} (h : (Val.d (.str n)).Rep H L v) : v = .string n := by
  unfold Val.Rep at h; simpa [D.RepV, D.Rep] using h
theorem repD_bool {H : Fz} {L : Vl} {n : Bool} {v : Value} (h : (Val.d (.bool n)).Rep H L v) : v = .bool n := by
  unfold Val.Rep at h; simpa [D.RepV, D.Rep] using h
theorem rep_int {H : Fz} {L : Vl} {k : IntKind} {n : Int} : (Val.d (.int k n)).Rep H L (.int k n) := by
  unfold Val.Rep; simp [D.RepV, D.Rep]
theorem rep_bool {H : Fz} {L : Vl} {b : Bool} : (Val.d (.bool b)).Rep H L (.bool b) := by
  unfold Val.Rep; simp [D.RepV, D.Rep]
theorem rep_str {H : Fz} {L : Vl} {b : ByteArray} : (Val.d (.str b)).Rep H L (.string b) := by
  unfold Val.Rep; simp [D.RepV, D.Rep]

theorem repD_flt {H : Fz} {L : Vl} {k : FloatKind} {n : Nat} {v : Value} (h : (Val.d (.flt k n)).Rep H L v) : v = .float k n := by
  unfold Val.Rep at h; simpa [D.RepV, D.Rep] using h
theorem repD_cpx {H : Fz} {L : Vl} {k : FloatKind} {n m : Nat} {v : Value} (h : (Val.d (.cpx k n m)).Rep H L v) : v = .complex k n m := by
  unfold Val.Rep at h; simpa [D.RepV, D.Rep] using h
theorem rep_flt {H : Fz} {L : Vl} {k : FloatKind} {n : Nat} : (Val.d (.flt k n)).Rep H L (.float k n) := by
  unfold Val.Rep; simp [D.RepV, D.Rep]
theorem rep_cpx {H : Fz} {L : Vl} {k : FloatKind} {n m : Nat} : (Val.d (.cpx k n m)).Rep H L (.complex k n m) := by
  unfold Val.Rep; simp [D.RepV, D.Rep]
def binP (E : Ev) (o : Oper) (op : BinOp) (xT : TypeId) (x y : Operand) : Prog :=
  opnd E.T E.G xT x fun u => opnd E.T E.G xT y fun v => match u, v with
    | .d (.int k a), .d (.int k' b) => if k = k' then intBin op k a b fun z => putD E o (.d z) else .fail
    | .d (.flt k a), .d (.flt k' b) => if k = k' then fltBin op k a b fun z => putD E o (.d z) else .fail
    | .d (.cpx k a b), .d (.cpx k' c d) => if k = k' then cpxBin op k a b c d fun z => putD E o (.d z) else .fail
    | .d (.agg xs), .d (.agg ys) => match E.T.get xT with
      | some { desc := .struct fs, eqs := true, .. } => match eqFs E.T xs ys fs.toList with
        | some r => match op with
          | .eql => putD E o (.d (.bool r))
          | .neq => putD E o (.d (.bool (!r)))
          | _ => .fail
        | none => .fail
      | _ => .fail
    | .d (.str a), .d (.str b) => strBin op a b fun z => putD E o (.d z)
    | .d (.bool a), .d (.bool b) => match E.T.get xT with
      | some { desc := .bool, .. } => match op with
        | .eql => putD E o (.d (.bool (a == b)))
        | .neq => putD E o (.d (.bool (!(a == b))))
        | _ => .fail
      | _ => .fail
    | .d (.sl _ nl _ _), .d (.sl _ true _ _) => match E.T.get xT with
      | some { desc := .slice _, .. } => match op with
        | .eql => putD E o (.d (.bool nl))
        | .neq => putD E o (.d (.bool (!nl)))
        | _ => .fail
      | _ => .fail
    | .ref t none, .d (.sl _ true _ _) => match E.T.get xT with
      | some { desc := .slice _, .. } => .getT t fun e => match e with
        | .row _ nl _ _ _ => match op with
          | .eql => putD E o (.d (.bool nl))
          | .neq => putD E o (.d (.bool (!nl)))
          | _ => .fail
        | _ => .fail
      | _ => .fail
    | .d (.ifc nl), .d (.ifc true) => match E.T.get xT, y with
      | some { desc := .interface _, .. }, .const _ => match op with
        | .eql => putD E o (.d (.bool nl))
        | .neq => putD E o (.d (.bool (!nl)))
        | _ => .fail
      | _, _ => .fail
    | _, _ => .fail
theorem and3 (x : Int) : IntKind.wrap .i64 ((BitVec.ofInt (IntKind.bits .i64) x &&& BitVec.ofInt (IntKind.bits .i64) 3).toNat : Nat) = x % 4 := by
  have hb : IntKind.bits .i64 = 64 := rfl
  rw [hb, BitVec.toNat_and, show (BitVec.ofInt 64 3).toNat = 2 ^ 2 - 1 from by decide, Nat.and_two_pow_sub_one_eq_mod, BitVec.toNat_ofInt]
  simp [IntKind.wrap, IntKind.bits, IntKind.signed]
  omega
theorem run_intBin {H : Fz} {L : Vl} {σ σ' : St} {w : World} (P : Program) (op : BinOp) (xT : TypeId) (k : IntKind) (a b : Int) (f : D → Prog) (h : (intBin op k a b f).run C σ = some σ') :
    ∃ z v, (f z).run C σ = some σ' ∧ (Val.d z).Rep H L v ∧ (binOp op xT (.int k a) (.int k b)).run P w = .ok v w := by
  cases op <;> simp only [intBin] at h <;> first
    | exact (fail_run h).elim
    | (split at h
       · rename_i hc
         obtain ⟨rfl, rfl⟩ := hc
         exact ⟨_, _, h, rep_int, by simp [binOp, Op.intBits, ← and3]⟩
       · exact ⟨_, _, h, rep_int, by simp [binOp, Op.intArith, Op.intBits]⟩)
    | exact ⟨_, _, h, rep_int, by simp [binOp, Op.intArith, Op.intBits]⟩
    | exact ⟨_, _, h, rep_bool, by simp [binOp, Op.intCmp]⟩
    | (obtain ⟨h1, h2⟩ := need_run h
       have h3 : ¬ b = 0 := by simpa using h1
       exact ⟨_, _, h2, rep_int, by simp [binOp, Op.intDiv, h3]⟩)
    | (obtain ⟨h1, h2⟩ := need_run h
       have h3 : 0 ≤ b := of_decide_eq_true h1
       exact ⟨_, _, h2, rep_int, by simp [binOp, shift_shl_any _ _ _ _ h3, shift_shr_any _ _ _ _ h3]⟩)
theorem run_strBin {H : Fz} {L : Vl} {σ σ' : St} {w : World} (P : Program) (op : BinOp) (xT : TypeId) (a b : ByteArray) (f : D → Prog) (h : (strBin op a b f).run C σ = some σ') :
    ∃ z v, (f z).run C σ = some σ' ∧ (Val.d z).Rep H L v ∧ (binOp op xT (.string a) (.string b)).run P w = .ok v w := by
  cases op <;> simp only [strBin] at h <;> first
    | exact (fail_run h).elim
    | exact ⟨_, _, h, rep_bool, by simp [binOp, Op.stringOp]⟩
    | (obtain ⟨h1, h2⟩ := need_run h
       have h3 : (a.size + b.size : Nat) ≤ 9223372036854775807 := by simpa using h1
       refine ⟨_, _, h2, rep_str, ?_⟩
       have h4 : ¬ (((a.size + b.size : Nat) : Int) > IntKind.i64.max) := by
         have : IntKind.i64.max = 9223372036854775807 := by decide
         rw [this]; omega
       simp only [binOp, Op.stringOp, if_neg h4]
       rfl)
theorem run_fltBin {H : Fz} {L : Vl} {σ σ' : St} {w : World} (P : Program) (op : BinOp) (xT : TypeId) (k : FloatKind) (a b : Nat) (f : D → Prog) (h : (fltBin op k a b f).run C σ = some σ') :
    ∃ z v, (f z).run C σ = some σ' ∧ (Val.d z).Rep H L v ∧ (binOp op xT (.float k a) (.float k b)).run P w = .ok v w := by
  cases op <;> simp only [fltBin] at h <;> first
    | exact (fail_run h).elim
    | (obtain ⟨h1, h2⟩ := need_run h
       obtain ⟨r, hr⟩ := Option.isSome_iff_exists.1 h1
       rw [hr] at h2
       exact ⟨_, _, h2, rep_flt, run_float_arith w _ xT k a b r hr⟩)
    | exact ⟨_, _, h, rep_bool, by simp [binOp, Op.floatCmp]⟩
theorem run_cpxBin {H : Fz} {L : Vl} {σ σ' : St} {w : World} (P : Program) (op : BinOp) (xT : TypeId) (k : FloatKind) (a b c d : Nat) (f : D → Prog) (h : (cpxBin op k a b c d f).run C σ = some σ') :
    ∃ z v, (f z).run C σ = some σ' ∧ (Val.d z).Rep H L v ∧ (binOp op xT (.complex k a b) (.complex k c d)).run P w = .ok v w := by
  cases op <;> simp only [cpxBin] at h <;> first
    | exact (fail_run h).elim
    | (obtain ⟨h1, h2⟩ := need_run h
       obtain ⟨⟨x, y⟩, hr⟩ := Option.isSome_iff_exists.1 h1
       rw [hr] at h2
       exact ⟨_, _, h2, rep_cpx, run_complex_sum w _ (by simp) xT k a b c d x y hr⟩)
    | (cases k with
       | f64 =>
         obtain ⟨h1, h2⟩ := need_run h
         obtain ⟨⟨x, y⟩, hr⟩ := Option.isSome_iff_exists.1 h1
         rw [hr] at h2
         exact ⟨_, _, h2, rep_cpx, run_complex_mul w xT a b c d x y hr⟩
       | _ => exact (fail_run h).elim)
theorem guard_plain {P : Program} {w : World} {op : BinOp} {t : TypeId} {x y : Operand} {a b : Value} (h1 : a ≠ .nilIface) (h2 : ∀ cs, a ≠ .agg cs) : (eqGuard op t x y a b).run P w = .ok () w := by
  unfold eqGuard
  cases op <;> simp <;> (cases a <;> simp_all <;> rfl)
theorem equal_bool {P : Program} {w : World} {t : TypeId} {a b : Bool} (h : P.underlying t = some .bool) : (Op.equal t (.bool a) (.bool b)).run P w = .ok (a == b) w := by
  show (Op.equalIn (9999 + 1) t (.bool a) (.bool b)).run P w = _
  unfold Op.equalIn
  simp [run_underlying h]
theorem equal_nil {P : Program} {w : World} {t e : TypeId} {A : Option Addr} {n c : Nat} (h : P.underlying t = some (.slice e)) : (Op.equal t (.slice A n c) (.slice none 0 0)).run P w = .ok A.isNone w := by
  show (Op.equalIn (9999 + 1) t (.slice A n c) (.slice none 0 0)).run P w = _
  unfold Op.equalIn
  cases A <;> simp [run_underlying h]
theorem rep_nil {H : Fz} {L : Vl} {sz : Nat} {xs ext : List D} {v : Value} (h : (Val.d (.sl sz true xs ext)).Rep H L v) : v = .slice none 0 0 := by
  unfold Val.Rep at h
  simp only [D.RepV] at h
  unfold D.Rep at h
  rcases h with ⟨_, _, _, h⟩ | ⟨h, _⟩
  · simpa using h
  · cases h
theorem rep_sl {H : Fz} {L : Vl} {sz : Nat} {nl : Bool} {xs ext : List D} {v : Value} (h : (Val.d (.sl sz nl xs ext)).Rep H L v) : ∃ A n c, v = .slice A n c ∧ A.isNone = nl := by
  unfold Val.Rep at h
  simp only [D.RepV] at h
  unfold D.Rep at h
  rcases h with ⟨h0, _, _, h⟩ | ⟨h0, a, cap, c1, c2, h, _⟩
  · exact ⟨none, 0, 0, by simpa using h, by simp [h0]⟩
  · exact ⟨some a, xs.length, cap, by simpa using h, by simp [h0]⟩
theorem repL_cell {H : Fz} {xs : List D} {us : List Value} (h : D.RepL H xs us) (ho : ∀ c ∈ xs, c.isAgg = false) {i : Nat} {x : D} (hx : xs[i]? = some x) : ∃ u, us[i]? = some u ∧ D.Rep H x [u] := by
  induction xs generalizing us i with
  | nil => simp at hx
  | cons y ys ih =>
    unfold D.RepL at h
    obtain ⟨a, b, rfl, h1, h2⟩ := h
    have hy := ho y (by simp)
    have ha : ∃ u, a = [u] := by
      cases y <;> simp [D.isAgg] at hy <;> unfold D.Rep at h1 <;> first
        | exact ⟨_, h1⟩
        | (obtain ⟨u, h, _⟩ := h1; exact ⟨u, h⟩)
        | (rcases h1 with ⟨_, _, _, h⟩ | ⟨_, _, _, _, _, h, _⟩ <;> exact ⟨_, h⟩)
    obtain ⟨u, rfl⟩ := ha
    cases i with
    | zero => simp at hx; subst hx; exact ⟨u, rfl, h1⟩
    | succ i => exact ih h2 (fun c hc => ho c (by simp [hc])) (by simpa using hx)
theorem run_part_one {P : Program} {t : TypeId} {td : TD} (hd : TdOk P t td) (ha : isAggT td = false) {cs : Array Value} {off : Nat} {v : Value} (h : cs.toList[off]? = some v) (w : World) : (part t cs off).run P w = .ok v w := by
  have h2 : cs[off]? = some v := by simpa using h
  simp [part, hd.run_isAgg, ha, h2]
theorem eqFs_run {P : Program} {T : Tab} (hT : TabOk P T) {H : Fz} {xs ys : List D} {us vs : Array Value} (hx : D.RepL H xs us.toList) (hy : D.RepL H ys vs.toList) (ox : ∀ c ∈ xs, c.isAgg = false) (oy : ∀ c ∈ ys, c.isAgg = false) (d : Nat) (w : World) :
    ∀ (fs : List Field) {r : Bool}, fs.all (fun f => f.name != "_") = true → eqFs T xs ys fs = some r → (Op.eqFields (d + 1) us vs fs).run P w = .ok r w
  | [], r, _, h => by
    simp only [eqFs, Option.some.injEq] at h
    subst h
    rfl
  | f :: fs, r, hn, h => by
    simp only [List.all_cons, Bool.and_eq_true, bne_iff_ne] at hn
    unfold eqFs at h
    split at h
    case h_2 => cases h
    rename_i td htd
    have hd := hT _ _ htd
    have fin : ∀ (u v : Value) (b r' : Bool), us.toList[f.offset]? = some u → vs.toList[f.offset]? = some v → isAggT td = false → (Op.equalIn (d + 1) f.type u v).run P w = .ok b w → eqFs T xs ys fs = some r' → r = (b && r') → (Op.eqFields (d + 1) us vs (f :: fs)).run P w = .ok r w := by
      intro u v b r' h1 h2 h3 h4 h5 h6
      have ih := eqFs_run hT hx hy ox oy d w fs hn.2 h5
      unfold Op.eqFields
      rw [if_pos hn.1]
      simp only [Sem.run_bind, run_part_one hd h3 h1, run_part_one hd h3 h2, Result.andThen_ok, h4]
      subst h6
      cases b with
      | true => simp only [Bool.not_true, Bool.false_eq_true, if_false, Bool.true_and]; exact ih
      | false => simp
    split at h
    · rename_i k0 k a k' b r' hdesc h1 h2 h3
      split at h
      · rename_i hk
        subst hk
        simp only [Option.some.injEq] at h
        obtain ⟨u, e1, e2⟩ := repL_cell hx ox h1
        obtain ⟨v, e3, e4⟩ := repL_cell hy oy h2
        unfold D.Rep at e2 e4
        simp only [List.cons.injEq, and_true] at e2 e4
        subst e2; subst e4
        exact fin _ _ _ _ e1 e3 (by simp [isAggT, hdesc]) (run_equalIn_int w d f.type k k0 a b (by rw [hd.und, hdesc])) h3 h.symm
      · cases h
    · rename_i a b r' hdesc h1 h2 h3
      simp only [Option.some.injEq] at h
      obtain ⟨u, e1, e2⟩ := repL_cell hx ox h1
      obtain ⟨v, e3, e4⟩ := repL_cell hy oy h2
      unfold D.Rep at e2 e4
      simp only [List.cons.injEq, and_true] at e2 e4
      subst e2; subst e4
      exact fin _ _ _ _ e1 e3 (by simp [isAggT, hdesc]) (run_equalIn_bool' w d f.type a b (by rw [hd.und, hdesc])) h3 h.symm
    · rename_i a b r' hdesc h1 h2 h3
      simp only [Option.some.injEq] at h
      obtain ⟨u, e1, e2⟩ := repL_cell hx ox h1
      obtain ⟨v, e3, e4⟩ := repL_cell hy oy h2
      unfold D.Rep at e2 e4
      simp only [List.cons.injEq, and_true] at e2 e4
      subst e2; subst e4
      exact fin _ _ _ _ e1 e3 (by simp [isAggT, hdesc]) (run_equalIn_string w d f.type a b (by rw [hd.und, hdesc])) h3 h.symm
    · cases h
theorem repD_agg {H : Fz} {L : Vl} {cs : List D} {v : Value} (h : (Val.d (.agg cs)).Rep H L v) : ∃ arr, v = .agg arr ∧ D.RepL H cs arr.toList ∧ ∀ c ∈ cs, c.isAgg = false := by
  unfold Val.Rep at h
  obtain ⟨arr, h1, h2⟩ := h
  unfold D.Rep at h2
  exact ⟨arr, h1, h2⟩
theorem rep_ifc {H : Fz} {L : Vl} {nl : Bool} {v : Value} (h : (Val.d (.ifc nl)).Rep H L v) : (nl = true ∧ v = .nilIface) ∨ (nl = false ∧ ∃ t p, v = .iface t p) := by
  unfold Val.Rep at h
  simp only [D.RepV] at h
  unfold D.Rep at h
  obtain ⟨u, h, h'⟩ := h
  simp only [List.cons.injEq, and_true] at h
  subst h
  exact h'
theorem guard_nil {P : Program} {w : World} {op : BinOp} {t : TypeId} {x : Operand} {cv : Value} : (eqGuard op t x (.const cv) .nilIface .nilIface).run P w = .ok () w := by
  unfold eqGuard
  cases op <;> simp <;> rfl
theorem equal_ifcs {P : Program} {w : World} {t : TypeId} {ms : Array (String × TypeId)} (h : P.underlying t = some (.interface ms)) : (Op.equal t .nilIface .nilIface).run P w = .ok true w := by
  show (Op.equalIn (9999 + 1) t .nilIface .nilIface).run P w = _
  unfold Op.equalIn
  simp [run_underlying h]
theorem equal_ifc {P : Program} {w : World} {t t' : TypeId} {p : Value} {ms : Array (String × TypeId)} (h : P.underlying t = some (.interface ms)) : (Op.equal t (.iface t' p) .nilIface).run P w = .ok false w := by
  show (Op.equalIn (9999 + 1) t (.iface t' p) .nilIface).run P w = _
  unfold Op.equalIn
  simp [run_underlying h]
theorem binOp_eql_ifc {nl : Bool} {t : TypeId} {u v : Value} (h : (nl = true ∧ u = .nilIface) ∨ (nl = false ∧ ∃ t p, u = .iface t p)) : binOp .eql t u v = (do pure (.bool (← Op.equal t u v))) := by
  rcases h with ⟨_, rfl⟩ | ⟨_, _, _, rfl⟩ <;> rfl
theorem binOp_neq_ifc {nl : Bool} {t : TypeId} {u v : Value} (h : (nl = true ∧ u = .nilIface) ∨ (nl = false ∧ ∃ t p, u = .iface t p)) : binOp .neq t u v = (do pure (.bool (!(← Op.equal t u v)))) := by
  rcases h with ⟨_, rfl⟩ | ⟨_, _, _, rfl⟩ <;> rfl
theorem binP_ok (k : Cxk X E) {o : Oper} {op : BinOp} {xT yT : TypeId} {x y : Operand} (ho : o.op = .binOp op xT x y yT) : OpOk X C o (binP E o op xT x y) := by
  intro H L σ a w σ' r h K Q hK
  obtain ⟨u, h1, h2⟩ := opnd_run k r h
  obtain ⟨v, h3, h4⟩ := opnd_run k r h1
  have fin : ∀ z c, (eqGuard op xT x y (a.eval x) (a.eval y)).run X.P w = .ok () w → (binOp op xT (a.eval x) (a.eval y)).run X.P w = .ok c w → (Val.d z).Rep H L c → (putD E o (.d z)).run C σ = some σ' → o.wp X.P a w K Q := fun z c hg hb hr hp =>
    wp_value (v := c) (w1 := w) (by simp [execOp, ho, hg, hb]) (hK _ _ _ _ (putD_run k r hr hp))
  split at h3
  · rename_i k1 m k2 n
    have e1 := repD_int h2
    have e2 := repD_int h4
    split at h3
    · rename_i hk
      subst hk
      obtain ⟨z, c, h5, h6, h7⟩ := run_intBin (H := H) (L := L) X.P op xT k1 m n (w := w) _ h3
      exact fin z c (by rw [e1, e2]; exact guard_plain (by simp) (by simp)) (by rw [e1, e2]; exact h7) h6 h5
    · exact (fail_run h3).elim
  · rename_i k1 m k2 n
    have e1 := repD_flt h2
    have e2 := repD_flt h4
    split at h3
    · rename_i hk
      subst hk
      obtain ⟨z, c, h5, h6, h7⟩ := run_fltBin (H := H) (L := L) X.P op xT k1 m n (w := w) _ h3
      exact fin z c (by rw [e1, e2]; exact guard_plain (by simp) (by simp)) (by rw [e1, e2]; exact h7) h6 h5
    · exact (fail_run h3).elim
  · rename_i k1 m1 m2 k2 n1 n2
    have e1 := repD_cpx h2
    have e2 := repD_cpx h4
    split at h3
    · rename_i hk
      subst hk
      obtain ⟨z, c, h5, h6, h7⟩ := run_cpxBin (H := H) (L := L) X.P op xT k1 m1 m2 n1 n2 (w := w) _ h3
      exact fin z c (by rw [e1, e2]; exact guard_plain (by simp) (by simp)) (by rw [e1, e2]; exact h7) h6 h5
    · exact (fail_run h3).elim
  · rename_i xs ys
    obtain ⟨us, e1, g1, g2⟩ := repD_agg h2
    obtain ⟨vs, e2, g3, g4⟩ := repD_agg h4
    split at h3
    case h_2 => exact (fail_run h3).elim
    rename_i fs s1 s2 s3 ht
    have hd := k.tab _ _ ht
    obtain ⟨q1, q2, q3⟩ := hd.eqs rfl
    split at h3
    case h_2 => exact (fail_run h3).elim
    rename_i r' hr
    have hu : X.P.underlying xT = some (.struct (X.P.fieldsOf xT)) := by rw [Program.fieldsOf, hd.und]
    have hfs : X.P.fieldsOf xT = fs := by rw [Program.fieldsOf, hd.und]
    have heq : (Op.equalIn 10000 xT (.agg us) (.agg vs)).run X.P w = .ok r' w := by
      have := run_equalIn_struct (P := X.P) w 9999 xT us vs hu q1
      rw [this, hfs]
      exact eqFs_run k.tab g1 g3 g2 g4 9998 w fs.toList (q3 fs rfl) hr
    split at h3
    · exact fin _ (.bool r') (by rw [e1, e2]; exact run_eqGuard_agg w _ xT x y us vs q2) (by rw [e1, e2, run_eql_struct, heq]; rfl) rep_bool h3
    · exact fin _ (.bool (!r')) (by rw [e1, e2]; exact run_eqGuard_agg w _ xT x y us vs q2) (by rw [e1, e2, run_neq_struct, heq]; rfl) rep_bool h3
    · exact (fail_run h3).elim
  · rename_i m n
    have e1 := repD_str h2
    have e2 := repD_str h4
    obtain ⟨z, c, h5, h6, h7⟩ := run_strBin (H := H) (L := L) X.P op xT m n (w := w) _ h3
    exact fin z c (by rw [e1, e2]; exact guard_plain (by simp) (by simp)) (by rw [e1, e2]; exact h7) h6 h5
  · rename_i m n
    have e1 := repD_bool h2
    have e2 := repD_bool h4
    split at h3
    · rename_i s1 s2 s3 ht
      have hu := (k.tab _ _ ht).und
      split at h3
      · exact fin _ _ (by rw [e1, e2]; exact guard_plain (by simp) (by simp)) (by rw [e1, e2]; simp [binOp, equal_bool hu]) rep_bool h3
      · exact fin _ _ (by rw [e1, e2]; exact guard_plain (by simp) (by simp)) (by rw [e1, e2]; simp [binOp, equal_bool hu]) rep_bool h3
      · exact (fail_run h3).elim
    · exact (fail_run h3).elim
  · rename_i sz nl xs ext sz2 xs2 ext2
    obtain ⟨A, n, c, e1, e3⟩ := rep_sl h2
    have e2 := rep_nil h4
    subst e3
    split at h3
    · rename_i s1 e s2 s3 s4 s5 ht
      have hu := (k.tab _ _ ht).und
      split at h3
      · exact fin _ _ (by rw [e1, e2]; exact guard_plain (by simp) (by simp)) (by rw [e1, e2]; simp [binOp, equal_nil hu]) rep_bool h3
      · exact fin _ _ (by rw [e1, e2]; exact guard_plain (by simp) (by simp)) (by rw [e1, e2]; simp [binOp, equal_nil hu]) rep_bool h3
      · exact (fail_run h3).elim
    · exact (fail_run h3).elim
  · rename_i t sz2 xs2 ext2
    have e2 := rep_nil h4
    unfold Val.Rep at h2
    obtain ⟨hl, A, n, c, e1⟩ := h2
    split at h3
    · rename_i s1 e s2 s3 s4 s5 ht
      have hu := (k.tab _ _ ht).und
      simp only [Prog.run] at h3
      split at h3
      · rename_i m nl e' sz xs hrow
        have hent := r.ents t
        rw [hrow] at hent
        obtain ⟨v', cells, g1, g2, _, _, g5, _⟩ := hent
        rw [hl] at g1
        cases g1
        have e3 : nl = A.isNone := by
          rw [e1] at g5
          cases A with
          | none =>
            rw [e1] at g2
            rcases g2.2 with ⟨h5, _⟩ | ⟨_, _, _, h5, _⟩
            · rw [h5] at g5; simpa using g5
            · simp at h5
          | some ad =>
            cases nl with
            | false => rfl
            | true => simp at g5
        subst e3
        split at h3
        · exact fin _ _ (by rw [e1, e2]; exact guard_plain (by simp) (by simp)) (by rw [e1, e2]; simp [binOp, equal_nil hu]) rep_bool h3
        · exact fin _ _ (by rw [e1, e2]; exact guard_plain (by simp) (by simp)) (by rw [e1, e2]; simp [binOp, equal_nil hu]) rep_bool h3
        · exact (fail_run h3).elim
      · exact (fail_run h3).elim
    · exact (fail_run h3).elim
  · rename_i nl
    have e1 := rep_ifc h2
    have e2 := rep_ifc h4
    simp only [Bool.true_eq_false, false_and, or_false, true_and] at e2
    split at h3
    · rename_i s1 ms s2 s3 s4 s5 cv ht
      have hu := (k.tab _ _ ht).und
      have hg : (eqGuard op xT x (.const cv) (a.eval x) (a.eval (.const cv))).run X.P w = .ok () w := by
        rw [e2]
        rcases e1 with ⟨_, e1⟩ | ⟨_, t, p, e1⟩ <;> rw [e1]
        · exact guard_nil
        · exact guard_plain (by simp) (by simp)
      have hq : (Op.equal xT (a.eval x) (a.eval (.const cv))).run X.P w = .ok nl w := by
        rw [e2]
        rcases e1 with ⟨e0, e1⟩ | ⟨e0, t, p, e1⟩ <;> rw [e1, e0]
        · exact equal_ifcs hu
        · exact equal_ifc hu
      split at h3
      · exact fin _ _ hg (by rw [binOp_eql_ifc e1]; simp [hq]) rep_bool h3
      · exact fin _ _ hg (by rw [binOp_neq_ifc e1]; simp [hq]) rep_bool h3
      · exact (fail_run h3).elim
    · exact (fail_run h3).elim
  · exact (fail_run h3).elim

def unP (E : Ev) (o : Oper) (op : UnOp) (x : Operand) : Prog :=
  opnd E.T E.G o.type x fun v => match op, v with
    | .neg, .d (.int k n) => putD E o (.d (.int k (k.wrap (0 - n))))
    | .not, .d (.bool b) => putD E o (.d (.bool (!b)))
    | .neg, .d (.flt k b) => putD E o (.d (.flt k (Op.negFloat k b)))
    | _, _ => .fail
theorem unP_ok (k : Cxk X E) {o : Oper} {op : UnOp} {xT : TypeId} {x : Operand} (ho : o.op = .unOp op xT x) : OpOk X C o (unP E o op x) := by
  intro H L σ a w σ' r h K Q hK
  obtain ⟨v, h1, h2⟩ := opnd_run k r h
  split at h1
  · exact wp_value (w1 := w) (by simp [execOp, ho, repD_int h2, Op.unary, Op.intArith]) (hK _ _ _ _ (putD_run k r rep_int h1))
  · exact wp_value (w1 := w) (by simp [execOp, ho, repD_bool h2, Op.unary]) (hK _ _ _ _ (putD_run k r rep_bool h1))
  · exact wp_value (w1 := w) (by simp [execOp, ho, repD_flt h2, Op.unary]) (hK _ _ _ _ (putD_run k r rep_flt h1))
  · exact (fail_run h1).elim

def convP (E : Ev) (o : Oper) (src dst : TypeId) (x : Operand) : Prog :=
  opnd E.T E.G src x fun v => match E.T.get src, E.T.get dst, v with
    | some { desc := .int _, .. }, some { desc := .int k, .. }, .d (.int _ n) => putD E o (.d (.int k (k.wrap n)))
    | some { desc := .int _, .. }, some { desc := .float k, .. }, .d (.int _ n) => putD E o (.d (.flt k (floatOfInt k n)))
    | some { desc := .float _, .. }, some { desc := .int k, .. }, .d (.flt s b) => .br (floatToIntVal s b k).isSome (putD E o (.d (.int k ((floatToIntVal s b k).getD 0)))) (putD E o .cell)
    | _, _, _ => .fail
theorem Rel.drew {X : Cx} {H : Fz} {L : Vl} {σ : St} {a : Act} {w : World} (r : Rel X H L σ a w) (n : Nat) : Rel X H L σ a { w with drawn := n } :=
  r.move (fun _ => rfl) (Vl.le_refl L) (Fz.le_refl H) (fun k o hk => r.sub k o hk) ⟨r.fr.os, r.fr.tape, r.fr.output, r.fr.size, r.fr.block⟩ (fun k o hk => r.sub k o hk) (fun _ => False) (fun t _ => ⟨rfl, rfl⟩) (fun t b _ hb => ⟨rfl, ((r.ents t).lt hb).2.1⟩) (fun t h => h.elim) (fun t t' b h => h.elim)
theorem convP_ok (k : Cxk X E) {o : Oper} {src dst : TypeId} {x : Operand} (ho : o.op = .convert src dst x) : OpOk X C o (convP E o src dst x) := by
  intro H L σ a w σ' r h K Q hK
  obtain ⟨v, h1, h2⟩ := opnd_run k r h
  split at h1
  · rename_i k1 _ _ _ _ k2 _ _ _ _ k3 n hs hd
    have u1 := (k.tab _ _ hs).und
    have u2 := (k.tab _ _ hd).und
    exact wp_value (w1 := w) (by simp [execOp, ho, repD_int h2, convert, run_underlying u1, run_underlying u2, Conv.intToInt]) (hK _ _ _ _ (putD_run k r rep_int h1))
  · rename_i k1 _ _ _ _ k2 _ _ _ _ k3 n hs hd
    have u1 := (k.tab _ _ hs).und
    have u2 := (k.tab _ _ hd).und
    exact wp_value (w1 := w) (by simp [execOp, ho, repD_int h2, run_convert_int_float w src dst k3 k2 n (by rw [u1]; rfl) u2]) (hK _ _ _ _ (putD_run k r rep_flt h1))
  · rename_i k1 _ _ _ _ k2 _ _ _ _ s b hs hd
    have u1 := (k.tab _ _ hs).und
    have u2 := (k.tab _ _ hd).und
    simp only [Prog.run] at h1
    cases hn : floatToIntVal s b k2 with
    | some n =>
      rw [hn] at h1
      simp only [Option.isSome_some, if_true] at h1
      exact wp_value (w1 := w) (by simp [execOp, ho, repD_flt h2, run_convert_float_int w src dst s k2 b n (by rw [u1]; rfl) u2 hn]) (hK _ _ _ _ (putD_run k r rep_int h1))
    | none =>
      rw [hn] at h1
      simp only [Option.isSome_none, if_neg (show ¬ (false = true) by simp)] at h1
      have hfi : ∃ n, (Conv.floatToInt s b k2).run X.P w = .ok (.int k2 n) w.drew := by
        unfold floatToIntVal at hn
        unfold Conv.floatToInt
        cases he : (s.decode b).toInt .zero with
        | none => simp [he, Question.forced]
        | some n =>
          rw [he] at hn
          by_cases hb : k2.min ≤ n ∧ n ≤ k2.max
          · simp [hb] at hn
          · simp [he, hb, Question.forced]
      obtain ⟨n, hfi⟩ := hfi
      exact wp_value (w1 := w.drew) (v := .int k2 n) (by simp [execOp, ho, repD_flt h2, convert, run_underlying u1, run_underlying u2, hfi]) (hK _ _ _ _ (putD_run k (r.drew _) (by unfold Val.Rep; rfl) h1))
  · exact (fail_run h1).elim
end
end Go.Ab

/- The operations, one by one: what the evaluator tells is what the machine does. Third part: memory that is made. No condition. -/
set_option linter.unusedVariables false
set_option linter.unusedSimpArgs false
namespace Go.Ab
open Go

section
variable {X : Cx} {E : Ev} {C : Caller}

theorem alloc_same (w : World) (o : Obj) : ∀ k, k < w.heap.size → (w.alloc o).heap[k]? = w.heap[k]? := fun k hk => heap_alloc_old w o k hk
theorem upd_same (L : Vl) (t : Tok) (v : Value) : (L.upd t v) t = some v := by simp [Vl.upd]
theorem dbox_new {H : Fz} {L : Vl} {σ : St} {a : Act} {w : World} (r : Rel X H L σ a w) {t : Tok} (hf : σ.getT t = .fresh) {ty : TypeId} {cells : List D} {cur : Array Value} (hr : D.RepL H cells cur.toList) (ho : ∀ c ∈ cells, c.isAgg = false) :
    Rel X H (L.upd t (.pointer (some ⟨w.heap.size, 0, none⟩))) (σ.putT t (.dbox ty cells)) a (w.alloc (.cells cur ty)) :=
  r.make hf (alloc_same w _) (r.fr.alloc _)
    ⟨w.heap.size, cur, upd_same _ _ _, heap_alloc_new w _, hr, ho, Fz.none_new r.sub (Nat.le_refl _), .inl r.fr.size⟩
    (fun b hb => by simp [mutBlk] at hb; omega)
theorem box_new {H : Fz} {L : Vl} {σ : St} {a : Act} {w : World} (r : Rel X H L σ a w) {t : Tok} (hf : σ.getT t = .fresh) {ty : TypeId} {cells : List Val} {cur : Array Value} (hr : Val.RepL H L cells cur.toList) (ho : ∀ c ∈ cells, c.isCell = true) :
    Rel X H (L.upd t (.pointer (some ⟨w.heap.size, 0, none⟩))) (σ.putT t (.box ty cells)) a (w.alloc (.cells cur ty)) := by
  have hLt : L t = none := by have := r.ents t; rw [hf] at this; exact this
  exact r.make hf (alloc_same w _) (r.fr.alloc _)
    ⟨w.heap.size, cur, upd_same _ _ _, heap_alloc_new w _, Val.RepL.le (Fz.le_refl H) (Vl.le_upd hLt _) _ _ hr, ho, Fz.none_new r.sub (Nat.le_refl _), .inl r.fr.size⟩
    (fun b hb => by simp [mutBlk] at hb; omega)
theorem ptr_rep {H : Fz} {L : Vl} {t : Tok} {b : Nat} : (Val.ptr t 0).Rep H (L.upd t (.pointer (some ⟨b, 0, none⟩))) (.pointer (some ⟨b, 0, none⟩)) := by
  unfold Val.Rep
  exact ⟨b, upd_same _ _ _, rfl⟩

def allocP (E : Ev) (o : Oper) (ty : TypeId) : Prog :=
  match E.T.get ty with
  | some td => newT (tokD o 0) (.dbox ty td.zero.cells) (putD E o (.ptr (tokD o 0) 0))
  | none => .fail
theorem allocP_ok (k : Cxk X E) {o : Oper} {ty : TypeId} (ho : o.op = .alloc ty) : OpOk X C o (allocP E o ty) := by
  intro H L σ a w σ' r h K Q hK
  unfold allocP at h
  cases ht : E.T.get ty with
  | none => rw [ht] at h; exact (fail_run h).elim
  | some td =>
    rw [ht] at h
    obtain ⟨h1, h2⟩ := newT_run h
    have hd := k.tab _ _ ht
    have hz := (D.plain_rep (H := H) hd.plain).cells
    have r1 := dbox_new (ty := ty) r h1 hz.1 hz.2.1
    refine wp_value (w1 := w.alloc (.cells td.zero.val.cells ty)) (v := .pointer (some ⟨w.heap.size, 0, none⟩)) ?_ (hK _ _ _ _ (putD_run k r1 ptr_rep h2))
    simp [execOp, ho, Instr.alloc, hd.run_zero, newVar, newRow]

/-- A variable of what a value holds. -/
def boxP (E : Ev) (o : Oper) (ty : TypeId) (x : Operand) : Prog :=
  opnd E.T E.G ty x fun v => match v with
    | .d y => newT (tokD o 0) (.dbox ty y.cells) (putD E o (.ptr (tokD o 0) 0))
    | .agg cs => newT (tokD o 0) (.box ty cs) (putD E o (.ptr (tokD o 0) 0))
    | .ref t l => newT (tokD o 0) (.box ty [.ref t l]) (putD E o (.ptr (tokD o 0) 0))
    | .fn f cs => newT (tokD o 0) (.box ty [.fn f cs]) (putD E o (.ptr (tokD o 0) 0))
    | _ => .fail
theorem repL_one {H : Fz} {L : Vl} {x : Val} {v : Value} (h : x.Rep H L v) : Val.RepL H L [x] [v] := by
  unfold Val.RepL
  exact ⟨v, [], rfl, h, by unfold Val.RepL; rfl⟩
theorem boxP_ok (k : Cxk X E) {o : Oper} {ty : TypeId} {x : Operand} (ho : o.op = .box ty x) : OpOk X C o (boxP E o ty x) := by
  intro H L σ a w σ' r h K Q hK
  obtain ⟨v, h1, h2⟩ := opnd_run k r h
  have hex : ∀ u, a.eval x = u → (execOp a.eval o).run X.P w = .ok (.value (.pointer (some ⟨w.heap.size, 0, none⟩))) (w.alloc (.cells u.cells ty)) := fun u hu => by
    simp [execOp, ho, Instr.box, newVar, newRow, hu]
  split at h1
  · rename_i y
    obtain ⟨h3, h4⟩ := newT_run h1
    unfold Val.Rep at h2
    have hz := h2.cells
    have r1 := dbox_new (ty := ty) r h3 hz.1 hz.2.1
    exact wp_value (hex _ rfl) (hK _ _ _ _ (putD_run k r1 ptr_rep h4))
  · rename_i cs
    obtain ⟨h3, h4⟩ := newT_run h1
    unfold Val.Rep at h2
    obtain ⟨arr, e1, h5, h6⟩ := h2
    have r1 := box_new (ty := ty) r h3 h5 h6
    exact wp_value (by rw [hex _ e1]; rfl) (hK _ _ _ _ (putD_run k r1 ptr_rep h4))
  · rename_i t l
    obtain ⟨h3, h4⟩ := newT_run h1
    have hc := (Val.isCell_one h2 rfl).2
    have r1 := box_new (ty := ty) (cells := [.ref t l]) (cur := (a.eval x).cells) r h3 (by rw [hc]; exact repL_one h2) (by simp [Val.isCell])
    exact wp_value (hex _ rfl) (hK _ _ _ _ (putD_run k r1 ptr_rep h4))
  · rename_i f cs
    obtain ⟨h3, h4⟩ := newT_run h1
    have hc := (Val.isCell_one h2 rfl).2
    have r1 := box_new (ty := ty) (cells := [.fn f cs]) (cur := (a.eval x).cells) r h3 (by rw [hc]; exact repL_one h2) (by simp [Val.isCell])
    exact wp_value (hex _ rfl) (hK _ _ _ _ (putD_run k r1 ptr_rep h4))
  · exact (fail_run h1).elim

/-! ### A new row -/
theorem row_new {H : Fz} {L : Vl} {σ : St} {a : Act} {w : World} (r : Rel X H L σ a w) {t : Tok} (hf : σ.getT t = .fresh) {e : TypeId} {sz : Nat} {xs : List D} {cur : Array Value} (hr : D.RepL H xs cur.toList) (hw : ∀ x ∈ xs, x.width = sz) (hm : xs.length ≤ maxLen) :
    Rel X H (L.upd t (.slice (some ⟨w.heap.size, 0, none⟩) xs.length xs.length)) (σ.putT t (.row true false e sz xs)) a (w.alloc (.cells cur e)) := by
  have hsz : cur.size = xs.length * sz := by
    have := D.RepL.len _ _ hr
    rw [D.widthL_const hw] at this
    simpa using this
  refine r.make hf (alloc_same w _) (r.fr.alloc _) ⟨_, cur.toList, upd_same _ _ _, World.ownsRow_lit w cur xs.length (Nat.zero_le _) hm hsz, hr, hw, by simp, fun b hb => ?_⟩ (fun b hb => by simp [mutBlk] at hb; omega)
  simp [Value.ownBlock] at hb
  subst hb
  exact ⟨Fz.none_new r.sub (Nat.le_refl _), .inl r.fr.size⟩
theorem ref_rep {H : Fz} {L : Vl} {t : Tok} {A : Option Addr} {n c : Nat} : (Val.ref t none).Rep H (L.upd t (.slice A n c)) (.slice A n c) := by
  unfold Val.Rep
  exact ⟨upd_same _ _ _, A, n, c, rfl⟩

theorem repL_replicate {H : Fz} {z : D} {c : List Value} (h : D.Rep H z c) : ∀ n : Nat, D.RepL H (List.replicate n z) (List.replicate n c).flatten
  | 0 => by unfold D.RepL; rfl
  | n + 1 => by
    simp only [List.replicate_succ, List.flatten_cons]
    unfold D.RepL
    exact ⟨c, _, rfl, h, repL_replicate h n⟩
theorem flatten_replicate (c : List Value) (hc : 0 < c.length) : ∀ n : Nat, (List.replicate n c).flatten = (List.range (n * c.length)).map fun i => c[i % c.length]! := by
  intro n
  apply List.ext_getElem?
  intro i
  have hlen : ∀ m : Nat, (List.replicate m c).flatten.length = m * c.length := by
    intro m
    induction m with
    | zero => simp
    | succ m ih => rw [List.replicate_succ, List.flatten_cons, List.length_append, ih, Nat.add_mul]; omega
  by_cases hi : i < n * c.length
  · rw [List.getElem?_map, List.getElem?_range hi, Option.map_some]
    induction n generalizing i with
    | zero => simp at hi
    | succ n ih =>
      rw [List.replicate_succ, List.flatten_cons]
      by_cases h2 : i < c.length
      · rw [List.getElem?_append_left h2, Nat.mod_eq_of_lt h2, List.getElem?_eq_getElem h2]
        simp [h2]
      · have h3 : i - c.length < n * c.length := by rw [Nat.add_mul] at hi; omega
        rw [List.getElem?_append_right (Nat.le_of_not_lt h2), ih (i - c.length) h3]
        have : i % c.length = (i - c.length) % c.length := (Nat.mod_eq_sub_mod (Nat.le_of_not_lt h2))
        rw [this]
  · rw [List.getElem?_eq_none (by rw [hlen]; omega), List.getElem?_eq_none (by simp; omega)]

def makeP (E : Ev) (o : Oper) (t : TypeId) (l c : Operand) : Prog :=
  opnd E.T E.G o.type l fun u => opnd E.T E.G o.type c fun v => match u, v, E.T.get t with
    | .d (.int .i64 n), .d (.int .i64 m), some { desc := .slice e, .. } => match E.T.get e with
      | some te => needs [decide (n = m), decide (0 ≤ n), decide (te.bytes * n ≤ 281474976710656), decide (n ≤ 9223372036854775807)] (newT (tokD o 0) (.row true false e te.size (List.replicate n.toNat te.zero)) (putD E o (.ref (tokD o 0) none)))
      | none => .fail
    | _, _, _ => .fail
theorem makeP_ok (k : Cxk X E) {o : Oper} {t : TypeId} {l c : Operand} (ho : o.op = .makeSlice t l c) : OpOk X C o (makeP E o t l c) := by
  intro H L σ a w σ' r h K Q hK
  obtain ⟨u, h1, h2⟩ := opnd_run k r h
  obtain ⟨v, h3, h4⟩ := opnd_run k r h1
  split at h3
  · rename_i n m e _ _ _ _ ht
    split at h3
    · rename_i te hte
      have e1 := repD_int h2
      have e2 := repD_int h4
      simp only [needs] at h3
      obtain ⟨g1, h3⟩ := need_run h3
      obtain ⟨g2, h3⟩ := need_run h3
      obtain ⟨g3, h3⟩ := need_run h3
      obtain ⟨g4, h3⟩ := need_run h3
      obtain ⟨g5, h9⟩ := newT_run h3
      clear h3 h1 h
      simp only [decide_eq_true_eq] at g1 g2 g3 g4
      subst g1
      obtain ⟨N, rfl⟩ : ∃ N : Nat, n = N := ⟨n.toNat, (Int.toNat_of_nonneg g2).symm⟩
      have hd := k.tab _ _ hte
      obtain ⟨i, hi, hsz, hby, hz⟩ := hd.info
      have hw : ∀ x ∈ List.replicate N te.zero, x.width = te.size := fun x hx => by
        rw [(List.mem_replicate.1 hx).2]
        have hz := (D.plain_rep (H := H) hd.plain).cells
        rw [← D.Rep.len _ _ hz.2.2]
        simpa using hd.zsz
      have hz0 := (D.plain_rep (H := H) hd.plain).cells
      have hcl : te.zero.val.cells.toList.length = te.size := by simpa using hd.zsz
      have hrep : D.RepL H (List.replicate N te.zero) (madeCells te.zero.val.cells (N * te.size)).toList := by
        have h5 := repL_replicate hz0.2.2 N
        rw [flatten_replicate _ (by rw [hcl]; exact hd.pos), hcl] at h5
        have h6 : (madeCells te.zero.val.cells (N * te.size)).toList = (List.range (N * te.size)).map fun i => te.zero.val.cells.toList[i % te.size]! := by
          simp only [madeCells, hd.zsz]
          simp
          intro a ha
          simp only [getElem!_def]
          cases te.zero.val.cells[a % te.size]? <;> rfl
        rw [h6]; exact h5
      have hm : (List.replicate N te.zero).length ≤ maxLen := by
        simp only [List.length_replicate, maxLen]; omega
      have r1 := row_new (e := e) r g5 hrep hw hm
      simp only [List.length_replicate] at r1
      simp only [Int.toNat_natCast] at h9
      have hrun := run_make (P := X.P) w t e i te.zero.val (k.tab _ _ ht).und hi hz .i64 .i64 N N (by omega) (Int.le_refl _) (by rw [hby]; omega) (by omega)
      simp only [Int.toNat_natCast, hsz] at hrun
      refine wp_value (w1 := w.alloc (.cells (madeCells te.zero.val.cells (N * te.size)) e)) ?_ (hK _ _ _ _ (putD_run k r1 ref_rep h9))
      simp [execOp, ho, e1, e2, hrun]
    · exact (fail_run h3).elim
  · exact (fail_run h3).elim
end
end Go.Ab
