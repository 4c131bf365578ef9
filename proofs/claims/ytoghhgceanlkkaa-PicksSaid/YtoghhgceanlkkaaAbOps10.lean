/- The operations, one by one: what the evaluator tells is what the machine does. Tenth part: structs that are built, len, min, max, function values. No condition. -/
import Derived.Test.YtoghhgceanlkkaaAbOps9
set_option linter.unusedVariables false
set_option linter.unusedSimpArgs false
namespace Go.Ab
open Go

section
variable {X : Cx} {E : Ev} {C : Caller}

def placesT (T : Tab) : List Field → Option (List (Nat × Nat))
  | [] => some []
  | f :: fs => match T.get f.type, placesT T fs with
    | some td, some r => some ((f.offset, td.size) :: r)
    | _, _ => none
theorem placesT_run {T : Tab} {P : Program} (h : TabOk P T) : ∀ {fs : List Field} {ps : List (Nat × Nat)}, placesT T fs = some ps → fs.mapM (fun f => (P.info? f.type).map fun i => (f.offset, i.size)) = some ps
  | [], ps, hp => by simp [placesT] at hp; subst hp; rfl
  | f :: fs, ps, hp => by
    unfold placesT at hp
    split at hp
    · rename_i td r h1 h2
      simp only [Option.some.injEq] at hp
      subst hp
      obtain ⟨i, hi, hs, _⟩ := (h _ _ h1).info
      have := placesT_run h h2
      simp [List.mapM_cons, hi, hs, this]
    · cases hp
def placeT (T : Tab) (td : TD) : Option (Nat → Option (Nat × Nat)) :=
  match td.desc with
  | .struct fs => (placesT T fs.toList).map fun ps i => ps[i]?
  | .array _ e => (T.get e).map fun te i => some (i * te.size, te.size)
  | _ => none
/-- The type of a part. -/
def partT (td : TD) (i : Nat) : TypeId :=
  match td.desc with
  | .struct fs => match fs[i]? with | some f => f.type | none => 0
  | .array _ e => e
  | _ => 0
def buildP (E : Ev) (o : Oper) (t : TypeId) (parts : Array (Nat × Operand)) : Prog :=
  match E.T.get t with
  | some td => match placeT E.T td with
    | some place => opnds E.T E.G (parts.toList.map fun p => (partT td p.1, p.2)) fun vs =>
        match fillV place (td.zero.cells.map .d) ((parts.toList.map (·.1)).zip vs) with
        | some cells => if isAggT td then putD E o (mkAgg cells) else .fail
        | none => .fail
    | none => .fail
  | none => .fail
theorem fill_step (off : Nat) (cs cur : Array Value) (h : off + cs.size ≤ cur.size) : cs.zipIdx.foldl (fun acc (c, j) => acc.setIfInBounds (off + j) c) cur = (cur.toList.take off ++ cs.toList ++ cur.toList.drop (off + cs.size)).toArray := by
  obtain ⟨h1, h2⟩ := Go.Great.foldl_set off cs.toList 0 cur
  have e : cs.zipIdx.foldl (fun acc (c, j) => acc.setIfInBounds (off + j) c) cur = (cs.toList.zipIdx 0).foldl (fun cs (x : Value × Nat) => cs.setIfInBounds (off + x.2) x.1) cur := by
    rw [← Array.foldl_toList, Array.toList_zipIdx]
  rw [e]
  apply Array.ext_getElem?
  intro k
  rw [h2 k]
  simp only [Nat.add_zero, Array.length_toList, List.getElem?_toArray]
  by_cases hk : off ≤ k ∧ k < off + cs.size ∧ k < cur.size
  · rw [if_pos hk, List.append_assoc, List.getElem?_append_right (by simp; omega), List.getElem?_append_left (by simp; omega)]
    simp only [List.length_take, Array.length_toList]
    rw [Nat.min_eq_left (by omega)]
  · rw [if_neg hk]
    by_cases hlt : k < off
    · rw [List.append_assoc, List.getElem?_append_left (by simp; omega), List.getElem?_take, if_pos hlt]
      simp
    · rw [List.append_assoc, List.getElem?_append_right (by simp; omega), List.getElem?_append_right (by simp; omega)]
      simp only [List.getElem?_drop, List.length_take, Array.length_toList]
      rw [Nat.min_eq_left (by omega), show off + cs.size + (k - off - cs.size) = k by omega]
      simp
theorem fillV_run {H : Fz} {L : Vl} {place : Nat → Option (Nat × Nat)} : ∀ {ps : List (Nat × Val)} {us : List (Nat × Value)} {cells r : List Val} {cur : Array Value}, ps.map (·.1) = us.map (·.1) → Val.RepL H L (ps.map (·.2)) (us.map (·.2)) → Val.RepL H L cells cur.toList → (∀ c ∈ cells, c.isCell = true) → fillV place cells ps = some r →
    ∃ cur', Instr.fill place cur us = some cur' ∧ Val.RepL H L r cur'.toList ∧ ∀ c ∈ r, c.isCell = true
  | [], us, cells, r, cur, hi, hv, hr, hc, h => by
    simp [fillV] at h
    subst h
    have : us = [] := by cases us with | nil => rfl | cons u us => simp at hi
    subst this
    exact ⟨cur, rfl, hr, hc⟩
  | (i, v) :: ps, us, cells, r, cur, hi, hv, hr, hc, h => by
    cases us with
    | nil => simp at hi
    | cons iu us =>
      obtain ⟨i', u⟩ := iu
      simp only [List.map_cons, List.cons.injEq] at hi
      obtain ⟨rfl, hi⟩ := hi
      simp only [List.map_cons] at hv
      unfold Val.RepL at hv
      obtain ⟨u', us', he, h1, h2⟩ := hv
      simp only [List.cons.injEq] at he
      obtain ⟨rfl, rfl⟩ := he
      unfold fillV at h
      split at h
      · rename_i off n vs hp hvs
        split at h
        · rename_i hcond
          obtain ⟨hn, hle⟩ := hcond
          have hz := Val.cells_rep h1 hvs
          have hul : u.cells.size = n := by have := hz.1.len; simp at this; omega
          have hcl : cur.size = cells.length := by have := hr.len; simpa using this
          have hrep := Val.RepL.append (Val.RepL.drop (off + n) hr) (Val.RepL.append hz.1 (Val.RepL.take off hr))
          have hag : ∀ c ∈ cells.take off ++ vs ++ cells.drop (off + n), c.isCell = true := fun c hc' => by
            simp only [List.mem_append] at hc'
            rcases hc' with (hc' | hc') | hc'
            · exact hc c (List.mem_of_mem_take hc')
            · exact hz.2 c hc'
            · exact hc c (List.mem_of_mem_drop hc')
          have hst := fill_step off u.cells cur (by omega)
          rw [hul] at hst
          obtain ⟨cur', k1, k2, k3⟩ := fillV_run (cur := (cur.toList.take off ++ u.cells.toList ++ cur.toList.drop (off + n)).toArray) hi h2 (by simpa using hrep) hag h
          refine ⟨cur', ?_, k2, k3⟩
          unfold Instr.fill
          simp only [hp, hul]
          rw [if_neg (by simp; omega), hst]
          exact k1
        · cases h
      · cases h
theorem buildP_ok (k : Cxk X E) {o : Oper} {t : TypeId} {parts : Array (Nat × Operand)} (ho : o.op = .build t parts) : OpOk X C o (buildP E o t parts) := by
  intro H L σ a w σ' r h K Q hK
  unfold buildP at h
  split at h
  case h_2 => exact (fail_run h).elim
  rename_i td htd
  have hd := k.tab _ _ htd
  split at h
  case h_2 => exact (fail_run h).elim
  rename_i place hpl
  obtain ⟨vs, h1, h2⟩ := opnds_run k r _ h
  split at h1
  case h_2 => exact (fail_run h1).elim
  rename_i cells hcells
  split at h1
  case isFalse => exact (fail_run h1).elim
  rename_i hagg
  have e0 : (parts.toList.map fun p => (partT td p.1, p.2)).map (fun p => a.eval p.2) = parts.toList.map fun p => a.eval p.2 := by simp [List.map_map]
  rw [e0] at h2
  have hz := (D.plain_rep (H := H) hd.plain).cells
  have hlen : vs.length = parts.toList.length := by have := h2.len; simpa using this.symm
  have hz1 : ((parts.toList.map (·.1)).zip vs).map (·.1) = (parts.toList.map fun p => (p.1, a.eval p.2)).map (·.1) := by
    rw [List.map_fst_zip (by simp [hlen]), List.map_map]; rfl
  have hz2 : ((parts.toList.map (·.1)).zip vs).map (·.2) = vs := List.map_snd_zip (by simp [hlen])
  obtain ⟨cur', k1, k2, k3⟩ := fillV_run (H := H) (L := L) (place := place) (ps := (parts.toList.map (·.1)).zip vs) (us := parts.toList.map fun p => (p.1, a.eval p.2)) (cells := td.zero.cells.map .d) (cur := td.zero.val.cells) hz1 (by rw [hz2, List.map_map]; exact h2) (hz.1.vals hz.2.1)
    (fun c hc => by
      obtain ⟨y, hy, rfl⟩ := List.mem_map.1 hc
      simp [Val.isCell, hz.2.1 y hy]) hcells
  have hb : X.P.built t (parts.map fun (i, x) => (i, a.eval x)).toList = some cur' := by
    obtain ⟨i, hi, hs, hby, hzz⟩ := hd.info
    have e1 : (parts.map fun (i, x) => (i, a.eval x)).toList = parts.toList.map fun p => (p.1, a.eval p.2) := by rw [Array.toList_map]
    rw [e1]
    unfold placeT at hpl
    unfold Program.built
    rw [hi, hd.und]
    split at hpl
    · rename_i fs hfs
      obtain ⟨ps, hps, rfl⟩ := Option.map_eq_some_iff.1 hpl
      simp only [hfs, hzz, placesT_run k.tab hps]
      simpa using k1
    · rename_i n e hfs
      obtain ⟨te, hte, rfl⟩ := Option.map_eq_some_iff.1 hpl
      obtain ⟨j, hj, hjs, _⟩ := (k.tab _ _ hte).info
      simp only [hfs, hzz, hj, hjs]
      exact k1
    · cases hpl
  refine wp_value (w1 := w) (v := .agg cur') ?_ (hK _ _ _ _ (putD_run k r ?_ h1))
  · simp [execOp, ho, run_build w t _ cur' hb]
  · have := mkAgg_rep k2 k3
    rw [Array.toArray_toList] at this
    exact this

/-! ### len, min, max -/
def lenP (E : Ev) (o : Oper) (t : TypeId) (x : Operand) : Prog :=
  opnd E.T E.G t x fun v => match E.T.get t with
    | some { desc := .string, .. } => match v with
      | .d (.str s) => putD E o (.d (.int .i64 s.size))
      | _ => .fail
    | some { desc := .slice _, .. } => elemsOf v fun _ ys => putD E o (.d (.int .i64 ys.length))
    | some { desc := .array n _, .. } => putD E o (.d (.int .i64 n))
    | _ => .fail
theorem lenP_ok (k : Cxk X E) {o : Oper} {x : Operand} {t : TypeId} (ho : o.op = .call { callee := .builtin .len, args := #[x], argTypes := #[t] }) : OpOk X C o (lenP E o t x) := by
  intro H L σ a w σ' r h K Q hK
  obtain ⟨v, h1, h2⟩ := opnd_run k r h
  split at h1
  · rename_i _ _ _ ht
    split at h1
    case h_2 => exact (fail_run h1).elim
    rename_i s
    refine wp_value (w1 := w) (v := .int .i64 s.size) ?_ (hK _ _ _ _ (putD_run k r rep_int h1))
    simp [execOp, ho, resolve, invoke, builtin, Builtin.len_, run_underlying (k.tab _ _ ht).und, repD_str h2, goInt]
  · rename_i e _ _ _ ht
    obtain ⟨sz, ys, A, c, cells, h5, e2, _⟩ := elemsOf_run r h2 h1
    refine wp_value (w1 := w) (v := .int .i64 ys.length) ?_ (hK _ _ _ _ (putD_run k r rep_int h5))
    simp [execOp, ho, resolve, invoke, builtin, Builtin.len_, run_underlying (k.tab _ _ ht).und, e2, goInt]
  · rename_i n e _ _ _ ht
    refine wp_value (w1 := w) (v := .int .i64 n) ?_ (hK _ _ _ _ (putD_run k r rep_int h1))
    simp [execOp, ho, resolve, invoke, builtin, Builtin.len_, run_underlying (k.tab _ _ ht).und, goInt]
  · exact (fail_run h1).elim

def max2P (E : Ev) (o : Oper) (mx : Bool) (t : TypeId) (x y : Operand) : Prog :=
  opnd E.T E.G t x fun u => opnd E.T E.G t y fun v => match u, v with
    | .d (.int k m), .d (.int _ n) => putD E o (.d (.int k (if mx then (if n > m then n else m) else (if n < m then n else m))))
    | _, _ => .fail
theorem max2P_ok (k : Cxk X E) {o : Oper} {mx : Bool} {x y : Operand} {t : TypeId} {ts : Array TypeId} (ho : o.op = .call { callee := .builtin (if mx then .max else .min), args := #[x, y], argTypes := ts }) : OpOk X C o (max2P E o mx t x y) := by
  intro H L σ a w σ' r h K Q hK
  obtain ⟨u, h1, h2⟩ := opnd_run k r h
  obtain ⟨v, h3, h4⟩ := opnd_run k r h1
  split at h3
  · rename_i k1 m k2 n
    refine wp_value (w1 := w) ?_ (hK _ _ _ _ (putD_run k r rep_int h3))
    cases mx
    · simp [execOp, ho, resolve, invoke, builtin, Builtin.min_, Builtin.min2, repD_int h2, repD_int h4]
    · simp [execOp, ho, resolve, invoke, builtin, Builtin.max_, Builtin.max2, repD_int h2, repD_int h4]
  · exact (fail_run h3).elim

def makeFuncP (E : Ev) (o : Oper) (f : FuncId) (caps : Array Operand) : Prog :=
  opnds E.T E.G (caps.toList.map fun x => (0, x)) fun vs => match vs with
    | [] => putD E o (.d (.fn f))
    | _ => putD E o (.fn f vs)
theorem makeFuncP_ok (k : Cxk X E) {o : Oper} {f : FuncId} {caps : Array Operand} (ho : o.op = .makeFunc (.func f) #[] caps) : OpOk X C o (makeFuncP E o f caps) := by
  intro H L σ a w σ' r h K Q hK
  obtain ⟨vs, h1, h2⟩ := opnds_run k r _ h
  have e0 : (caps.toList.map fun x => ((0 : TypeId), x)).map (fun p => a.eval p.2) = (caps.map a.eval).toList := by simp [List.map_map]
  rw [e0] at h2
  refine wp_value (w1 := w) (v := .func (.func f) #[] (caps.map a.eval)) (by simp [execOp, ho, Instr.makeFunc]) (hK H L _ _ ?_)
  split at h1
  · unfold Val.RepL at h2
    have : caps.map a.eval = #[] := by simpa using h2
    rw [this]
    refine putD_run k r ?_ h1
    unfold Val.Rep
    simp [D.RepV, D.Rep]
  · refine putD_run k r ?_ h1
    unfold Val.Rep
    exact ⟨_, rfl, h2⟩
end
end Go.Ab
