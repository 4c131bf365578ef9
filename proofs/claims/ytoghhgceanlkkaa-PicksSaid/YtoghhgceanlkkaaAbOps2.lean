/- The operations, one by one: what the evaluator tells is what the machine does. Second part: copies, arithmetic, comparisons. No condition. -/
import Derived.Test.YtoghhgceanlkkaaAbOps1
import Derived.Laws.Entries
set_option linter.unusedVariables false
set_option linter.unusedSimpArgs false
namespace Go.Ab
open Go

section
variable {P : Program} {t : TypeId} {td : TD} (h : TdOk P t td) (w : World)
include h
theorem TdOk.run_und : (underlying t).run P w = .ok td.desc w := run_underlying h.und w
theorem TdOk.run_info : ∃ i, (typeInfo t).run P w = .ok i w ∧ i.size = td.size ∧ i.bytes = td.bytes ∧ i.zero = some td.zero.val := by
  obtain ⟨i, h1, h2⟩ := h.info
  exact ⟨i, by simp [typeInfo, h1], h2⟩
theorem TdOk.run_size : (sizeOf t).run P w = .ok td.size w := by
  obtain ⟨i, h1, h2, _⟩ := h.run_info w
  simp [sizeOf, h1, h2]
theorem TdOk.run_zero : (zeroValue t).run P w = .ok td.zero.val w := by
  obtain ⟨i, h1, _, _, h2⟩ := h.run_info w
  simp [zeroValue, h1, h2]
theorem TdOk.run_isAgg : (isAgg t).run P w = .ok (isAggT td) w := by
  unfold isAgg isAggT
  simp only [Sem.run_bind, h.run_und, Result.andThen_ok]
  cases td.desc <;> rfl
end

section
variable {X : Cx} {E : Ev} {C : Caller}

def moveP (E : Ev) (o : Oper) (x : Operand) : Prog := opnd E.T E.G o.type x (putD E o)
theorem moveP_ok (k : Cxk X E) {o : Oper} {x : Operand} (ho : o.op = .move x ∨ o.op = .assign x) : OpOk X C o (moveP E o x) := by
  intro H L σ a w σ' r h K Q hK
  obtain ⟨v, h1, h2⟩ := opnd_run k r h
  exact wp_value (v := a.eval x) (w1 := w) (by rcases ho with ho | ho <;> simp [execOp, ho]) (hK _ _ _ _ (putD_run k r h2 h1))

def pickP (E : Ev) (o : Oper) (c x y : Operand) : Prog :=
  opnd E.T E.G o.type c fun cv => match cv with
    | .d (.bool t) => .br t (opnd E.T E.G o.type x (putD E o)) (opnd E.T E.G o.type y (putD E o))
    | _ => .fail
theorem pickP_ok (k : Cxk X E) {o : Oper} {c x y : Operand} (ho : o.op = .pick c x y) : OpOk X C o (pickP E o c x y) := by
  intro H L σ a w σ' r h K Q hK
  obtain ⟨cv, h1, h2⟩ := opnd_run k r h
  split at h1
  · rename_i t
    have hc : a.eval c = .bool t := by
      unfold Val.Rep at h2
      simpa [D.RepV, D.Rep] using h2
    simp only [Prog.run] at h1
    cases t with
    | true =>
      simp only [if_true] at h1
      obtain ⟨v, h3, h4⟩ := opnd_run k r h1
      exact wp_value (v := a.eval x) (w1 := w) (by simp [execOp, ho, hc, asBool]) (hK _ _ _ _ (putD_run k r h4 h3))
    | false =>
      simp only [Bool.false_eq_true, if_false] at h1
      obtain ⟨v, h3, h4⟩ := opnd_run k r h1
      exact wp_value (v := a.eval y) (w1 := w) (by simp [execOp, ho, hc, asBool]) (hK _ _ _ _ (putD_run k r h4 h3))
  · exact (fail_run h1).elim

def extractP (E : Ev) (o : Oper) (x : Operand) (i : Nat) : Prog :=
  opnd E.T E.G o.type x fun v => match v with
    | .tup vs => match vs[i]? with
      | some y => putD E o y
      | none => .fail
    | _ => .fail
theorem extractP_ok (k : Cxk X E) {o : Oper} {x : Operand} {i : Nat} (ho : o.op = .extract x i) : OpOk X C o (extractP E o x i) := by
  intro H L σ a w σ' r h K Q hK
  obtain ⟨v, h1, h2⟩ := opnd_run k r h
  split at h1
  · rename_i vs
    unfold Val.Rep at h2
    obtain ⟨arr, h3, h4⟩ := h2
    cases hy : vs[i]? with
    | none => rw [hy] at h1; exact (fail_run h1).elim
    | some y =>
      rw [hy] at h1
      obtain ⟨u, h5, h6⟩ := Val.RepL.get h4 hy
      exact wp_value (v := u) (w1 := w) (by simp [execOp, ho, h3, Instr.extract, Array.getElem?_toList ▸ h5]) (hK _ _ _ _ (putD_run k r h6 h1))
  · exact (fail_run h1).elim

def nilCheckP (E : Ev) (o : Oper) (x : Operand) : Prog :=
  opnd E.T E.G o.type x fun v => match v with
    | .ptr _ _ => putD E o v
    | .eptr _ _ _ _ => putD E o v
    | .dptr _ => putD E o v
    | .d (.fn _) => putD E o v
    | .fn _ _ => putD E o v
    | _ => .fail
theorem nilCheckP_ok (k : Cxk X E) {o : Oper} {x : Operand} (ho : o.op = .nilCheck x) : OpOk X C o (nilCheckP E o x) := by
  intro H L σ a w σ' r h K Q hK
  obtain ⟨v, h1, h2⟩ := opnd_run k r h
  have fin : ∀ u, a.eval x = u → (execOp a.eval o).run X.P w = .ok (.value u) w → (putD E o v).run C σ = some σ' → o.wp X.P a w K Q := fun u hu he hp =>
    wp_value (v := u) (w1 := w) he (hK _ _ _ _ (putD_run k r (hu ▸ h2) hp))
  cases v <;> first
    | exact (fail_run h1).elim
    | skip
  case d y =>
    cases y <;> first
      | exact (fail_run h1).elim
      | skip
    have h3 := h2
    unfold Val.Rep at h3
    simp only [D.RepV, D.Rep, List.cons.injEq, and_true] at h3
    exact fin _ h3 (by simp [execOp, ho, h3]) h1
  case ptr t off =>
    have h3 := h2
    unfold Val.Rep at h3
    obtain ⟨b, _, h3⟩ := h3
    exact fin _ h3 (by simp [execOp, ho, h3]) h1
  case eptr t sz i off =>
    have h3 := h2
    unfold Val.Rep at h3
    obtain ⟨b, _, _, _, h3⟩ := h3
    exact fin _ h3 (by simp [execOp, ho, h3]) h1
  case dptr xs =>
    have h3 := h2
    unfold Val.Rep at h3
    obtain ⟨b, _, h3, _⟩ := h3
    exact fin _ h3 (by simp [execOp, ho, h3]) h1
  case fn f cs =>
    have h3 := h2
    unfold Val.Rep at h3
    obtain ⟨b, h3, _⟩ := h3
    exact fin _ h3 (by simp [execOp, ho, h3]) h1

/-! ### Arithmetic and comparisons -/
theorem repD_int {H : Fz} {L : Vl} {k : IntKind} {n : Int} {v : Value} (h : (Val.d (.int k n)).Rep H L v) : v = .int k n := by
  unfold Val.Rep at h; simpa [D.RepV, D.Rep] using h
theorem repD_str {H : Fz} {L : Vl} {n : ByteArray} {v : Value} (h : (Val.d (.str n)).Rep H L v) : v = .string n := by
  unfold Val.Rep at h; simpa [D.RepV, D.Rep] using h
theorem repD_bool {H : Fz} {L : Vl} {n : Bool} {v : Value} (h : (Val.d (.bool n)).Rep H L v) : v = .bool n := by
  unfold Val.Rep at h; simpa [D.RepV, D.Rep] using h
theorem rep_int {H : Fz} {L : Vl} {k : IntKind} {n : Int} : (Val.d (.int k n)).Rep H L (.int k n) := by
  unfold Val.Rep; simp [D.RepV, D.Rep]
theorem rep_bool {H : Fz} {L : Vl} {b : Bool} : (Val.d (.bool b)).Rep H L (.bool b) := by
  unfold Val.Rep; simp [D.RepV, D.Rep]
theorem rep_str {H : Fz} {L : Vl} {b : ByteArray} : (Val.d (.str b)).Rep H L (.string b) := by
  unfold Val.Rep; simp [D.RepV, D.Rep]

theorem repD_flt {H : Fz} {L : Vl} {k : FloatKind} {n : Nat} {v : Value} (h : (Val.d (.flt k n)).Rep H L v) : v = .float k n := by
  unfold Val.Rep at h; simpa [D.RepV, D.Rep] using h
theorem repD_cpx {H : Fz} {L : Vl} {k : FloatKind} {n m : Nat} {v : Value} (h : (Val.d (.cpx k n m)).Rep H L v) : v = .complex k n m := by
  unfold Val.Rep at h; simpa [D.RepV, D.Rep] using h
theorem rep_flt {H : Fz} {L : Vl} {k : FloatKind} {n : Nat} : (Val.d (.flt k n)).Rep H L (.float k n) := by
  unfold Val.Rep; simp [D.RepV, D.Rep]
theorem rep_cpx {H : Fz} {L : Vl} {k : FloatKind} {n m : Nat} : (Val.d (.cpx k n m)).Rep H L (.complex k n m) := by
  unfold Val.Rep; simp [D.RepV, D.Rep]
/-- Is it the nil slice? -/
def nilOf : Val → Option Bool
  | .d (.sl _ nl _ _) => some nl
  | _ => none
def binP (E : Ev) (o : Oper) (op : BinOp) (xT : TypeId) (x y : Operand) : Prog :=
  opnd E.T E.G xT x fun u => opnd E.T E.G xT y fun v => match u, v with
    | .d (.int k a), .d (.int k' b) => if k = k' then intBin op k a b fun z => putD E o (.d z) else .fail
    | .d (.flt k a), .d (.flt k' b) => if k = k' then fltBin op k a b fun z => putD E o (.d z) else .fail
    | .d (.str a), .d (.str b) => strBin op a b fun z => putD E o (.d z)
    | .d (.bool a), .d (.bool b) => match E.T.get xT with
      | some { desc := .bool, .. } => match op with
        | .eql => putD E o (.d (.bool (a == b)))
        | .neq => putD E o (.d (.bool (!(a == b))))
        | _ => .fail
      | _ => .fail
    | .d (.sl _ nl _ _), .d (.sl _ true _ _) => match E.T.get xT with
      | some { desc := .slice _, .. } => match op with
        | .eql => putD E o (.d (.bool nl))
        | .neq => putD E o (.d (.bool (!nl)))
        | _ => .fail
      | _ => .fail
    | .ref t none, .d (.sl _ true _ _) => match E.T.get xT with
      | some { desc := .slice _, .. } => .getT t fun e => match e with
        | .row _ nl _ _ _ => match op with
          | .eql => putD E o (.d (.bool nl))
          | .neq => putD E o (.d (.bool (!nl)))
          | _ => .fail
        | _ => .fail
      | _ => .fail
    | _, _ => .fail
theorem wrap_bits {k : IntKind} (r : BitVec k.bits) : (Value.int k (k.wrap r.toNat)) = Value.int k (k.wrap r.toNat) := rfl
theorem run_intBin {H : Fz} {L : Vl} {σ σ' : St} {w : World} (P : Program) (op : BinOp) (xT : TypeId) (k : IntKind) (a b : Int) (f : D → Prog) (h : (intBin op k a b f).run C σ = some σ') :
    ∃ z v, (f z).run C σ = some σ' ∧ (Val.d z).Rep H L v ∧ (binOp op xT (.int k a) (.int k b)).run P w = .ok v w := by
  cases op <;> simp only [intBin] at h <;> first
    | exact (fail_run h).elim
    | exact ⟨_, _, h, rep_int, by simp [binOp, Op.intArith, Op.intBits]⟩
    | exact ⟨_, _, h, rep_bool, by simp [binOp, Op.intCmp]⟩
    | (obtain ⟨h1, h2⟩ := need_run h
       have h3 : ¬ b = 0 := by simpa using h1
       exact ⟨_, _, h2, rep_int, by simp [binOp, Op.intDiv, h3]⟩)
theorem run_strBin {H : Fz} {L : Vl} {σ σ' : St} {w : World} (P : Program) (op : BinOp) (xT : TypeId) (a b : ByteArray) (f : D → Prog) (h : (strBin op a b f).run C σ = some σ') :
    ∃ z v, (f z).run C σ = some σ' ∧ (Val.d z).Rep H L v ∧ (binOp op xT (.string a) (.string b)).run P w = .ok v w := by
  cases op <;> simp only [strBin] at h <;> first
    | exact (fail_run h).elim
    | exact ⟨_, _, h, rep_bool, by simp [binOp, Op.stringOp]⟩
    | (obtain ⟨h1, h2⟩ := need_run h
       have h3 : (a.size + b.size : Nat) ≤ 9223372036854775807 := by simpa using h1
       refine ⟨_, _, h2, rep_str, ?_⟩
       have h4 : ¬ (((a.size + b.size : Nat) : Int) > IntKind.i64.max) := by
         have : IntKind.i64.max = 9223372036854775807 := by decide
         rw [this]; omega
       simp only [binOp, Op.stringOp, if_neg h4]
       rfl)
theorem run_fltBin {H : Fz} {L : Vl} {σ σ' : St} {w : World} (P : Program) (op : BinOp) (xT : TypeId) (k : FloatKind) (a b : Nat) (f : D → Prog) (h : (fltBin op k a b f).run C σ = some σ') :
    ∃ z v, (f z).run C σ = some σ' ∧ (Val.d z).Rep H L v ∧ (binOp op xT (.float k a) (.float k b)).run P w = .ok v w := by
  cases op <;> simp only [fltBin] at h <;> first
    | exact (fail_run h).elim
    | (obtain ⟨h1, h2⟩ := need_run h
       obtain ⟨r, hr⟩ := Option.isSome_iff_exists.1 h1
       rw [hr] at h2
       exact ⟨_, _, h2, rep_flt, run_float_arith w _ xT k a b r hr⟩)
    | exact ⟨_, _, h, rep_bool, by simp [binOp, Op.floatCmp]⟩
theorem guard_plain {P : Program} {w : World} {op : BinOp} {t : TypeId} {x y : Operand} {a b : Value} (h1 : a ≠ .nilIface) (h2 : ∀ cs, a ≠ .agg cs) : (eqGuard op t x y a b).run P w = .ok () w := by
  unfold eqGuard
  cases op <;> simp <;> (cases a <;> simp_all <;> rfl)
theorem equal_bool {P : Program} {w : World} {t : TypeId} {a b : Bool} (h : P.underlying t = some .bool) : (Op.equal t (.bool a) (.bool b)).run P w = .ok (a == b) w := by
  show (Op.equalIn (9999 + 1) t (.bool a) (.bool b)).run P w = _
  unfold Op.equalIn
  simp [run_underlying h]
theorem equal_nil {P : Program} {w : World} {t e : TypeId} {A : Option Addr} {n c : Nat} (h : P.underlying t = some (.slice e)) : (Op.equal t (.slice A n c) (.slice none 0 0)).run P w = .ok A.isNone w := by
  show (Op.equalIn (9999 + 1) t (.slice A n c) (.slice none 0 0)).run P w = _
  unfold Op.equalIn
  cases A <;> simp [run_underlying h]
theorem rep_nil {H : Fz} {L : Vl} {sz : Nat} {xs ext : List D} {v : Value} (h : (Val.d (.sl sz true xs ext)).Rep H L v) : v = .slice none 0 0 := by
  unfold Val.Rep at h
  simp only [D.RepV] at h
  unfold D.Rep at h
  rcases h with ⟨_, _, _, h⟩ | ⟨h, _⟩
  · simpa using h
  · cases h
theorem rep_sl {H : Fz} {L : Vl} {sz : Nat} {nl : Bool} {xs ext : List D} {v : Value} (h : (Val.d (.sl sz nl xs ext)).Rep H L v) : ∃ A n c, v = .slice A n c ∧ A.isNone = nl := by
  unfold Val.Rep at h
  simp only [D.RepV] at h
  unfold D.Rep at h
  rcases h with ⟨h0, _, _, h⟩ | ⟨h0, a, cap, c1, c2, h, _⟩
  · exact ⟨none, 0, 0, by simpa using h, by simp [h0]⟩
  · exact ⟨some a, xs.length, cap, by simpa using h, by simp [h0]⟩
theorem binP_ok (k : Cxk X E) {o : Oper} {op : BinOp} {xT yT : TypeId} {x y : Operand} (ho : o.op = .binOp op xT x y yT) : OpOk X C o (binP E o op xT x y) := by
  intro H L σ a w σ' r h K Q hK
  obtain ⟨u, h1, h2⟩ := opnd_run k r h
  obtain ⟨v, h3, h4⟩ := opnd_run k r h1
  have fin : ∀ z c, (eqGuard op xT x y (a.eval x) (a.eval y)).run X.P w = .ok () w → (binOp op xT (a.eval x) (a.eval y)).run X.P w = .ok c w → (Val.d z).Rep H L c → (putD E o (.d z)).run C σ = some σ' → o.wp X.P a w K Q := fun z c hg hb hr hp =>
    wp_value (v := c) (w1 := w) (by simp [execOp, ho, hg, hb]) (hK _ _ _ _ (putD_run k r hr hp))
  split at h3
  · rename_i k1 m k2 n
    have e1 := repD_int h2
    have e2 := repD_int h4
    split at h3
    · rename_i hk
      subst hk
      obtain ⟨z, c, h5, h6, h7⟩ := run_intBin (H := H) (L := L) X.P op xT k1 m n (w := w) _ h3
      exact fin z c (by rw [e1, e2]; exact guard_plain (by simp) (by simp)) (by rw [e1, e2]; exact h7) h6 h5
    · exact (fail_run h3).elim
  · rename_i k1 m k2 n
    have e1 := repD_flt h2
    have e2 := repD_flt h4
    split at h3
    · rename_i hk
      subst hk
      obtain ⟨z, c, h5, h6, h7⟩ := run_fltBin (H := H) (L := L) X.P op xT k1 m n (w := w) _ h3
      exact fin z c (by rw [e1, e2]; exact guard_plain (by simp) (by simp)) (by rw [e1, e2]; exact h7) h6 h5
    · exact (fail_run h3).elim
  · rename_i m n
    have e1 := repD_str h2
    have e2 := repD_str h4
    obtain ⟨z, c, h5, h6, h7⟩ := run_strBin (H := H) (L := L) X.P op xT m n (w := w) _ h3
    exact fin z c (by rw [e1, e2]; exact guard_plain (by simp) (by simp)) (by rw [e1, e2]; exact h7) h6 h5
  · rename_i m n
    have e1 := repD_bool h2
    have e2 := repD_bool h4
    split at h3
    · rename_i s1 s2 s3 ht
      have hu := (k.tab _ _ ht).und
      split at h3
      · exact fin _ _ (by rw [e1, e2]; exact guard_plain (by simp) (by simp)) (by rw [e1, e2]; simp [binOp, equal_bool hu]) rep_bool h3
      · exact fin _ _ (by rw [e1, e2]; exact guard_plain (by simp) (by simp)) (by rw [e1, e2]; simp [binOp, equal_bool hu]) rep_bool h3
      · exact (fail_run h3).elim
    · exact (fail_run h3).elim
  · rename_i sz nl xs ext sz2 xs2 ext2
    obtain ⟨A, n, c, e1, e3⟩ := rep_sl h2
    have e2 := rep_nil h4
    subst e3
    split at h3
    · rename_i s1 e s2 s3 s4 ht
      have hu := (k.tab _ _ ht).und
      split at h3
      · exact fin _ _ (by rw [e1, e2]; exact guard_plain (by simp) (by simp)) (by rw [e1, e2]; simp [binOp, equal_nil hu]) rep_bool h3
      · exact fin _ _ (by rw [e1, e2]; exact guard_plain (by simp) (by simp)) (by rw [e1, e2]; simp [binOp, equal_nil hu]) rep_bool h3
      · exact (fail_run h3).elim
    · exact (fail_run h3).elim
  · rename_i t sz2 xs2 ext2
    have e2 := rep_nil h4
    unfold Val.Rep at h2
    obtain ⟨hl, A, n, c, e1⟩ := h2
    split at h3
    · rename_i s1 e s2 s3 s4 ht
      have hu := (k.tab _ _ ht).und
      simp only [Prog.run] at h3
      split at h3
      · rename_i m nl e' sz xs hrow
        have hent := r.ents t
        rw [hrow] at hent
        obtain ⟨v', cells, g1, g2, _, _, g5, _⟩ := hent
        rw [hl] at g1
        cases g1
        have e3 : nl = A.isNone := by
          rw [e1] at g5
          cases A with
          | none =>
            rw [e1] at g2
            rcases g2.2 with ⟨h5, _⟩ | ⟨_, _, _, h5, _⟩
            · rw [h5] at g5; simpa using g5
            · simp at h5
          | some ad =>
            cases nl with
            | false => rfl
            | true => simp at g5
        subst e3
        split at h3
        · exact fin _ _ (by rw [e1, e2]; exact guard_plain (by simp) (by simp)) (by rw [e1, e2]; simp [binOp, equal_nil hu]) rep_bool h3
        · exact fin _ _ (by rw [e1, e2]; exact guard_plain (by simp) (by simp)) (by rw [e1, e2]; simp [binOp, equal_nil hu]) rep_bool h3
        · exact (fail_run h3).elim
      · exact (fail_run h3).elim
    · exact (fail_run h3).elim
  · exact (fail_run h3).elim

def unP (E : Ev) (o : Oper) (op : UnOp) (x : Operand) : Prog :=
  opnd E.T E.G o.type x fun v => match op, v with
    | .neg, .d (.int k n) => putD E o (.d (.int k (k.wrap (0 - n))))
    | .not, .d (.bool b) => putD E o (.d (.bool (!b)))
    | _, _ => .fail
theorem unP_ok (k : Cxk X E) {o : Oper} {op : UnOp} {xT : TypeId} {x : Operand} (ho : o.op = .unOp op xT x) : OpOk X C o (unP E o op x) := by
  intro H L σ a w σ' r h K Q hK
  obtain ⟨v, h1, h2⟩ := opnd_run k r h
  split at h1
  · exact wp_value (w1 := w) (by simp [execOp, ho, repD_int h2, Op.unary, Op.intArith]) (hK _ _ _ _ (putD_run k r rep_int h1))
  · exact wp_value (w1 := w) (by simp [execOp, ho, repD_bool h2, Op.unary]) (hK _ _ _ _ (putD_run k r rep_bool h1))
  · exact (fail_run h1).elim

def convP (E : Ev) (o : Oper) (src dst : TypeId) (x : Operand) : Prog :=
  opnd E.T E.G src x fun v => match E.T.get src, E.T.get dst, v with
    | some { desc := .int _, .. }, some { desc := .int k, .. }, .d (.int _ n) => putD E o (.d (.int k (k.wrap n)))
    | some { desc := .int _, .. }, some { desc := .float k, .. }, .d (.int _ n) => putD E o (.d (.flt k (floatOfInt k n)))
    | some { desc := .float _, .. }, some { desc := .int k, .. }, .d (.flt s b) => .need (floatToIntVal s b k).isSome (putD E o (.d (.int k ((floatToIntVal s b k).getD 0))))
    | _, _, _ => .fail
theorem convP_ok (k : Cxk X E) {o : Oper} {src dst : TypeId} {x : Operand} (ho : o.op = .convert src dst x) : OpOk X C o (convP E o src dst x) := by
  intro H L σ a w σ' r h K Q hK
  obtain ⟨v, h1, h2⟩ := opnd_run k r h
  split at h1
  · rename_i k1 _ _ _ k2 _ _ _ k3 n hs hd
    have u1 := (k.tab _ _ hs).und
    have u2 := (k.tab _ _ hd).und
    exact wp_value (w1 := w) (by simp [execOp, ho, repD_int h2, convert, run_underlying u1, run_underlying u2, Conv.intToInt]) (hK _ _ _ _ (putD_run k r rep_int h1))
  · rename_i k1 _ _ _ k2 _ _ _ k3 n hs hd
    have u1 := (k.tab _ _ hs).und
    have u2 := (k.tab _ _ hd).und
    exact wp_value (w1 := w) (by simp [execOp, ho, repD_int h2, run_convert_int_float w src dst k3 k2 n (by rw [u1]; rfl) u2]) (hK _ _ _ _ (putD_run k r rep_flt h1))
  · rename_i k1 _ _ _ k2 _ _ _ s b hs hd
    have u1 := (k.tab _ _ hs).und
    have u2 := (k.tab _ _ hd).und
    obtain ⟨h3, h4⟩ := need_run h1
    obtain ⟨n, hn⟩ := Option.isSome_iff_exists.1 h3
    rw [hn] at h4
    exact wp_value (w1 := w) (by simp [execOp, ho, repD_flt h2, run_convert_float_int w src dst s k2 b n (by rw [u1]; rfl) u2 hn]) (hK _ _ _ _ (putD_run k r rep_int h4))
  · exact (fail_run h1).elim
end
end Go.Ab
