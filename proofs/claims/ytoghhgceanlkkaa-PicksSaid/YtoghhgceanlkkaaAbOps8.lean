/- The operations, one by one: what the evaluator tells is what the machine does. Eighth part: addresses, fields, elements, cuts. No condition. -/
import Derived.Test.YtoghhgceanlkkaaAbOps7
set_option linter.unusedVariables false
set_option linter.unusedSimpArgs false
namespace Go.Ab
open Go

section
variable {X : Cx} {E : Ev} {C : Caller}

theorem D.repL_drop {H : Fz} {cs : List D} {us : List Value} (h : D.RepL H cs us) (ho : ∀ c ∈ cs, c.isAgg = false) (n : Nat) : D.RepL H (cs.drop n) (us.drop n) := by
  have h1 := (Val.RepL.drop n (h.vals (L := fun _ => none) ho))
  rw [← List.map_drop] at h1
  exact Val.RepL.data h1 (fun c hc => ho c (List.mem_of_mem_drop hc))
theorem Lies.drop {H : Fz} {ad : Addr} {cs : List Value} (h : Lies H ad cs) (n : Nat) : Lies H (ad.add n) (cs.drop n) := fun j u hj => by
  rw [Go.Deep.add_add]
  exact h _ _ (by rw [List.getElem?_drop] at hj; exact hj)

/-- An address, so many cells further. -/
def moveBy (v : Val) (n : Nat) : Option Val :=
  match v with
  | .ptr t off => some (.ptr t (off + n))
  | .eptr t sz i off => some (.eptr t sz i (off + n))
  | .dptr xs => some (.dptr (xs.drop n))
  | _ => none
theorem moveBy_rep {H : Fz} {L : Vl} {v v' : Val} {u : Value} {n : Nat} (h : v.Rep H L u) (hm : moveBy v n = some v') : ∃ ad, u = .pointer (some ad) ∧ v'.Rep H L (.pointer (some (ad.add n))) := by
  cases v <;> simp [moveBy] at hm <;> subst hm
  case ptr t off =>
    unfold Val.Rep at h ⊢
    obtain ⟨b, h1, rfl⟩ := h
    exact ⟨_, rfl, b, h1, by rw [add_off]⟩
  case eptr t sz i off =>
    unfold Val.Rep at h ⊢
    obtain ⟨b, m, c, h1, rfl⟩ := h
    exact ⟨_, rfl, b, m, c, h1, by rw [add_off, Nat.add_assoc]⟩
  case dptr xs =>
    unfold Val.Rep at h ⊢
    obtain ⟨ad, cs, rfl, h1, h2, h3⟩ := h
    exact ⟨_, rfl, ad.add n, cs.drop n, rfl, D.repL_drop h1 h3 n, h2.drop n, fun c hc => h3 c (List.mem_of_mem_drop hc)⟩

def fieldAddrP (E : Ev) (o : Oper) (s : TypeId) (x : Operand) (f : Nat) : Prog :=
  opnd E.T E.G o.type x fun v => match E.T.get s with
    | some { desc := .struct fs, .. } => match fs[f]? with
      | some fd => match E.T.get fd.type with
        | some _ => match moveBy v fd.offset with
          | some v' => putD E o v'
          | none => .fail
        | none => .fail
      | none => .fail
    | _ => .fail
theorem fieldAddrP_ok (k : Cxk X E) {o : Oper} {s : TypeId} {x : Operand} {f : Nat} (ho : o.op = .fieldAddr s x f) : OpOk X C o (fieldAddrP E o s x f) := by
  intro H L σ a w σ' r h K Q hK
  obtain ⟨v, h1, h2⟩ := opnd_run k r h
  split at h1
  · rename_i fs _ _ _ hs
    split at h1
    · rename_i fd hf
      split at h1
      · rename_i td htd
        split at h1
        · rename_i v' hv'
          obtain ⟨ad, e1, h3⟩ := moveBy_rep h2 hv'
          have hd := k.tab _ _ htd
          have hne : ¬ td.size = 0 := by have := hd.pos; omega
          refine wp_value (w1 := w) (v := .pointer (some (ad.add fd.offset))) ?_ (hK _ _ _ _ (putD_run k r h3 h1))
          simp [execOp, ho, Instr.fieldAt, run_underlying (k.tab _ _ hs).und, hf, e1, Instr.sureAddr, fieldPlace, hd.run_size, hne]
        · exact (fail_run h1).elim
      · exact (fail_run h1).elim
    · exact (fail_run h1).elim
  · exact (fail_run h1).elim

def indexAddrP (E : Ev) (o : Oper) (t : TypeId) (x i : Operand) : Prog :=
  opnd E.T E.G t x fun v => opnd E.T E.G o.type i fun iv => match iv with
    | .d (.int _ n) => match E.T.get t with
      | some { desc := .slice e, .. } => match E.T.get e with
        | some te => match v with
          | .d (.sl sz _ xs _) => needs [sz == te.size, decide (0 ≤ n)] (.elem (some (tagOf E.T e)) xs n.toNat fun y => putD E o (.dptr y.cells))
          | .ref tk l => .getT tk fun en => match en with
            | .row _ _ _ sz xs => needs [sz == te.size, decide (0 ≤ n)] (.elem (some .any) (takeL l xs) n.toNat fun _ => putD E o (.eptr tk sz n.toNat 0))
            | _ => .fail
          | _ => .fail
        | none => .fail
      | some { desc := .array len e, .. } => match E.T.get e with
        | some te => needs [decide (0 ≤ n), decide (n < len)] (match moveBy v (n.toNat * te.size) with
          | some v' => putD E o v'
          | none => .fail)
        | none => .fail
      | _ => .fail
    | _ => .fail
theorem indexAddrP_ok (k : Cxk X E) {o : Oper} {t : TypeId} {x i : Operand} (ho : o.op = .indexAddr t x i) : OpOk X C o (indexAddrP E o t x i) := by
  intro H L σ a w σ' r h K Q hK
  obtain ⟨v, h1, h2⟩ := opnd_run k r h
  obtain ⟨iv, h3, h4⟩ := opnd_run k r h1
  split at h3
  case h_2 => exact (fail_run h3).elim
  rename_i ki n
  have ei := repD_int h4
  split at h3
  · rename_i e _ _ _ ht
    split at h3
    case h_2 => exact (fail_run h3).elim
    rename_i te hte
    have hd := k.tab _ _ hte
    have hu := (k.tab _ _ ht).und
    have hex : ∀ ad m c, a.eval x = .slice (some ad) m c → 0 ≤ n → n < m → (execOp a.eval o).run X.P w = .ok (.value (.pointer (some (ad.add (n.toNat * te.size))))) w := fun ad m c he h0 hm => by
      simp [execOp, ho, Instr.indexAt, ei, asIntOf, run_underlying hu, he, h0, hm, hd.run_size]
    split at h3
    · rename_i sz nl xs ext
      simp only [needs] at h3
      obtain ⟨q1, h3⟩ := need_run h3
      obtain ⟨q2, h3⟩ := need_run h3
      simp only [decide_eq_true_eq] at q2
      have q1 : sz = te.size := by simpa using q1
      obtain ⟨y, hy, h5⟩ := elem_run h3
      unfold Val.Rep at h2
      simp only [D.RepV] at h2
      unfold D.Rep at h2
      have hlt := (List.getElem?_eq_some_iff.1 hy).1
      rcases h2 with ⟨_, rfl, _⟩ | ⟨_, ad, cap, c1, c2, e1, _, _, g1, g2, _, g3, _⟩
      · simp at hlt
      · obtain ⟨us, k1, k2, k3⟩ := g2.at g3 hy
        have hz := D.cells_Rep k1
        refine wp_value (w1 := w) (hex ad xs.length cap (by simpa using e1) q2 (by omega)) (hK _ _ _ _ (putD_run k r ?_ h5))
        unfold Val.Rep
        refine ⟨_, us, rfl, hz.1, fun j u hj => ?_, hz.2⟩
        rw [Go.Deep.add_add]
        subst q1
        refine g1 _ _ ?_
        have hj1 := k3 j u hj
        rw [List.getElem?_append_left (List.getElem?_eq_some_iff.1 hj1).1]
        exact hj1
    · rename_i tk l
      simp only [Prog.run] at h3
      split at h3
      case h_2 => exact (fail_run h3).elim
      rename_i m nl e' sz xs hrow
      simp only [needs] at h3
      obtain ⟨q1, h3⟩ := need_run h3
      obtain ⟨q2, h3⟩ := need_run h3
      simp only [decide_eq_true_eq] at q2
      have q1 : sz = te.size := by simpa using q1
      obtain ⟨y, hy, h5⟩ := elem_run h3
      have hlt := (List.getElem?_eq_some_iff.1 hy).1
      have he := r.ents tk
      rw [hrow] at he
      have hle := ref_le he h2
      obtain ⟨own, g1, g2, g3, g4, g5, g6⟩ := ref_val he h2
      obtain ⟨v0, cells, p1, p2, _⟩ := he
      rcases g1.2 with ⟨_, e1⟩ | ⟨b, cap, cur, e1, _⟩
      · omega
      · refine wp_value (w1 := w) (hex _ _ _ e1 q2 (by omega)) (hK _ _ _ _ (putD_run k r ?_ h5))
        have hb := g6 v0 p1
        rw [e1] at hb
        unfold Val.Rep
        rcases p2.2 with ⟨e0, _⟩ | ⟨b', cap', cur', e0, _⟩
        · rw [e0] at hb; simp [Value.ownBlock] at hb
        · rw [e0] at hb
          simp [Value.ownBlock] at hb
          subst hb
          refine ⟨b, _, _, by rw [p1, e0], ?_⟩
          rw [add_off]
          simp [q1]
    · exact (fail_run h3).elim
  · rename_i len e _ _ _ ht
    split at h3
    case h_2 => exact (fail_run h3).elim
    rename_i te hte
    have hd := k.tab _ _ hte
    have hu := (k.tab _ _ ht).und
    simp only [needs] at h3
    obtain ⟨q1, h3⟩ := need_run h3
    obtain ⟨q2, h3⟩ := need_run h3
    simp only [decide_eq_true_eq] at q1 q2
    split at h3
    · rename_i v' hv'
      obtain ⟨ad, e1, h5⟩ := moveBy_rep h2 hv'
      refine wp_value (w1 := w) (v := .pointer (some (ad.add (n.toNat * te.size)))) ?_ (hK _ _ _ _ (putD_run k r h5 h3))
      simp [execOp, ho, Instr.indexAt, ei, asIntOf, run_underlying hu, e1, q1, q2, hd.run_size, Instr.sureAddr]
    · exact (fail_run h3).elim
  · exact (fail_run h3).elim

/-! ### Fields and elements of values -/
theorem part_agg {P : Program} {w : World} {t : TypeId} {td : TD} (hd : TdOk P t td) (ha : isAggT td = true) (cs : Array Value) (off : Nat) : (part t cs off).run P w = .ok (.agg (cs.extract off (off + td.size))) w := by
  simp [part, hd.run_isAgg, ha, hd.run_size]
theorem part_one {P : Program} {w : World} {t : TypeId} {td : TD} (hd : TdOk P t td) (ha : isAggT td = false) {cs : Array Value} {off : Nat} {u : Value} (h : cs.toList[off]? = some u) : (part t cs off).run P w = .ok u w := by
  have h' : cs[off]? = some u := by simpa using h
  simp [part, hd.run_isAgg, ha, h']
theorem extract_list (cs : Array Value) (off n : Nat) : (cs.extract off (off + n)).toList = (cs.toList.drop off).take n := by
  rw [Array.toList_extract]
  simp [List.extract]
/-- A piece of a value. -/
def partP (E : Ev) (o : Oper) (td : TD) (v : Val) (off : Nat) : Prog :=
  match v with
  | .d (.agg cs) => if isAggT td then .need (decide (off + td.size ≤ cs.length)) (putD E o (.d (.agg ((cs.drop off).take td.size)))) else .elem none cs off fun x => putD E o (.d x)
  | .agg cs => if isAggT td then putD E o (mkAgg ((cs.drop off).take td.size)) else match cs[off]? with
    | some x => putD E o x
    | none => .fail
  | _ => .fail
theorem partP_run {H : Fz} {L : Vl} {σ σ' : St} {w : World} {o : Oper} {ty : TypeId} {td : TD} (hd : TdOk X.P ty td) {v : Val} {u : Value} (hv : v.Rep H L u) {off : Nat} (h : (partP E o td v off).run C σ = some σ') :
    ∃ x c cs, u = .agg cs ∧ (putD E o x).run C σ = some σ' ∧ x.Rep H L c ∧ (part ty cs off).run X.P w = .ok c w := by
  unfold partP at h
  split at h
  · rename_i cs
    unfold Val.Rep at hv
    obtain ⟨arr, rfl, h1⟩ := hv
    unfold D.Rep at h1
    by_cases ha : isAggT td = true
    · rw [if_pos ha] at h
      obtain ⟨g1, h2⟩ := need_run h
      refine ⟨_, _, arr, rfl, h2, ?_, part_agg hd ha arr off⟩
      unfold Val.Rep
      refine ⟨_, rfl, ?_⟩
      unfold D.Rep
      rw [extract_list]
      exact ⟨D.repL_sub h1.1 h1.2 off td.size, fun c hc => h1.2 c (List.mem_of_mem_drop (List.mem_of_mem_take hc))⟩
    · have ha : isAggT td = false := by simpa using ha
      rw [ha] at h
      obtain ⟨x, hx, h2⟩ := elem_run h
      obtain ⟨c, hc, h3⟩ := D.repL_one h1.1 h1.2 hx
      refine ⟨_, c, arr, rfl, h2, ?_, part_one hd ha hc⟩
      unfold Val.Rep
      exact D.repV_one h3 (h1.2 x (List.mem_of_getElem? hx))
  · rename_i cs
    unfold Val.Rep at hv
    obtain ⟨arr, rfl, h1, h2⟩ := hv
    by_cases ha : isAggT td = true
    · rw [if_pos ha] at h
      refine ⟨_, _, arr, rfl, h, ?_, part_agg hd ha arr off⟩
      have := mkAgg_rep (H := H) (L := L) (Val.RepL.take td.size (Val.RepL.drop off h1)) (fun c hc => h2 c (List.mem_of_mem_drop (List.mem_of_mem_take hc)))
      rw [← extract_list, Array.toArray_toList] at this
      exact this
    · have ha : isAggT td = false := by simpa using ha
      rw [ha] at h
      simp only [Bool.false_eq_true, if_false] at h
      split at h
      · rename_i x hx
        obtain ⟨c, hc, h3⟩ := h1.get hx
        exact ⟨x, c, arr, rfl, h, h3, part_one hd ha hc⟩
      · exact (fail_run h).elim
  · exact (fail_run h).elim

def fieldP (E : Ev) (o : Oper) (t : TypeId) (x : Operand) (f : Nat) : Prog :=
  opnd E.T E.G t x fun v => match E.T.get t with
    | some { desc := .struct fs, .. } => match fs[f]? with
      | some fd => match E.T.get fd.type with
        | some td => partP E o td v fd.offset
        | none => .fail
      | none => .fail
    | _ => .fail
theorem fieldP_ok (k : Cxk X E) {o : Oper} {t : TypeId} {x : Operand} {f : Nat} (ho : o.op = .field t x f) : OpOk X C o (fieldP E o t x f) := by
  intro H L σ a w σ' r h K Q hK
  obtain ⟨v, h1, h2⟩ := opnd_run k r h
  split at h1
  · rename_i fs _ _ _ hs
    split at h1
    · rename_i fd hf
      split at h1
      · rename_i td htd
        obtain ⟨y, c, cs, e1, h3, h4, h5⟩ := partP_run (w := w) (k.tab _ _ htd) h2 h1
        refine wp_value (w1 := w) (v := c) ?_ (hK _ _ _ _ (putD_run k r h4 h3))
        simp [execOp, ho, Instr.field, run_underlying (k.tab _ _ hs).und, hf, e1, asAgg, h5]
      · exact (fail_run h1).elim
    · exact (fail_run h1).elim
  · exact (fail_run h1).elim

/-- A byte of a string. -/
def byteAt (s : ByteArray) (i : Nat) : Int := match s[i]? with | some b => b.toNat | none => 0
def indexP (E : Ev) (o : Oper) (t : TypeId) (x i : Operand) : Prog :=
  opnd E.T E.G t x fun v => opnd E.T E.G o.type i fun iv => match iv with
    | .d (.int _ n) => match E.T.get t with
      | some { desc := .string, .. } => match v with
        | .d (.str s) => needs [decide (0 ≤ n), decide (n < s.size)] (putD E o (.d (.int .u8 (byteAt s n.toNat))))
        | _ => .fail
      | some { desc := .array len e, .. } => match E.T.get e with
        | some te => needs [decide (0 ≤ n), decide (n < len)] (partP E o te v (n.toNat * te.size))
        | none => .fail
      | _ => .fail
    | _ => .fail
theorem indexP_ok (k : Cxk X E) {o : Oper} {t : TypeId} {x i : Operand} (ho : o.op = .index t x i) : OpOk X C o (indexP E o t x i) := by
  intro H L σ a w σ' r h K Q hK
  obtain ⟨v, h1, h2⟩ := opnd_run k r h
  obtain ⟨iv, h3, h4⟩ := opnd_run k r h1
  split at h3
  case h_2 => exact (fail_run h3).elim
  rename_i ki n
  have ei := repD_int h4
  split at h3
  · rename_i _ _ _ ht
    split at h3
    case h_2 => exact (fail_run h3).elim
    rename_i s
    simp only [needs] at h3
    obtain ⟨q1, h3⟩ := need_run h3
    obtain ⟨q2, h3⟩ := need_run h3
    simp only [decide_eq_true_eq] at q1 q2
    have hlt : n.toNat < s.size := by omega
    refine wp_value (w1 := w) (v := .int .u8 (byteAt s n.toNat)) ?_ (hK _ _ _ _ (putD_run k r rep_int h3))
    simp [execOp, ho, Instr.index, ei, asIntOf, run_underlying (k.tab _ _ ht).und, repD_str h2, q1, byteAt, hlt]
  · rename_i len e _ _ _ ht
    split at h3
    case h_2 => exact (fail_run h3).elim
    rename_i te hte
    simp only [needs] at h3
    obtain ⟨q1, h3⟩ := need_run h3
    obtain ⟨q2, h3⟩ := need_run h3
    simp only [decide_eq_true_eq] at q1 q2
    obtain ⟨y, c, cs, e1, h5, h6, h7⟩ := partP_run (w := w) (k.tab _ _ hte) h2 h3
    refine wp_value (w1 := w) (v := c) ?_ (hK _ _ _ _ (putD_run k r h6 h5))
    simp [execOp, ho, Instr.index, ei, asIntOf, run_underlying (k.tab _ _ ht).und, e1, q1, q2, (k.tab _ _ hte).run_size, h7]
  · exact (fail_run h3).elim
end
end Go.Ab
