/- The operations, one by one: what the evaluator tells is what the machine does. Third part: memory that is made. No condition. -/
import Derived.Test.YtoghhgceanlkkaaAbOps2
import Derived.Laws.OwnMore
set_option linter.unusedVariables false
set_option linter.unusedSimpArgs false
namespace Go.Ab
open Go

section
variable {X : Cx} {E : Ev} {C : Caller}

theorem alloc_same (w : World) (o : Obj) : ∀ k, k < w.heap.size → (w.alloc o).heap[k]? = w.heap[k]? := fun k hk => heap_alloc_old w o k hk
theorem upd_same (L : Vl) (t : Tok) (v : Value) : (L.upd t v) t = some v := by simp [Vl.upd]
theorem dbox_new {H : Fz} {L : Vl} {σ : St} {a : Act} {w : World} (r : Rel X H L σ a w) {t : Tok} (hf : σ.getT t = .fresh) {ty : TypeId} {cells : List D} {cur : Array Value} (hr : D.RepL H cells cur.toList) (ho : ∀ c ∈ cells, c.isAgg = false) :
    Rel X H (L.upd t (.pointer (some ⟨w.heap.size, 0, none⟩))) (σ.putT t (.dbox ty cells)) a (w.alloc (.cells cur ty)) :=
  r.make hf (alloc_same w _) (r.fr.alloc _)
    ⟨w.heap.size, cur, upd_same _ _ _, heap_alloc_new w _, hr, ho, Fz.none_new r.sub (Nat.le_refl _), .inl r.fr.size⟩
    (fun b hb => by simp [mutBlk] at hb; omega)
theorem box_new {H : Fz} {L : Vl} {σ : St} {a : Act} {w : World} (r : Rel X H L σ a w) {t : Tok} (hf : σ.getT t = .fresh) {ty : TypeId} {cells : List Val} {cur : Array Value} (hr : Val.RepL H L cells cur.toList) (ho : ∀ c ∈ cells, c.isCell = true) :
    Rel X H (L.upd t (.pointer (some ⟨w.heap.size, 0, none⟩))) (σ.putT t (.box ty cells)) a (w.alloc (.cells cur ty)) := by
  have hLt : L t = none := by have := r.ents t; rw [hf] at this; exact this
  exact r.make hf (alloc_same w _) (r.fr.alloc _)
    ⟨w.heap.size, cur, upd_same _ _ _, heap_alloc_new w _, Val.RepL.le (Fz.le_refl H) (Vl.le_upd hLt _) _ _ hr, ho, Fz.none_new r.sub (Nat.le_refl _), .inl r.fr.size⟩
    (fun b hb => by simp [mutBlk] at hb; omega)
theorem ptr_rep {H : Fz} {L : Vl} {t : Tok} {b : Nat} : (Val.ptr t 0).Rep H (L.upd t (.pointer (some ⟨b, 0, none⟩))) (.pointer (some ⟨b, 0, none⟩)) := by
  unfold Val.Rep
  exact ⟨b, upd_same _ _ _, rfl⟩

def allocP (E : Ev) (o : Oper) (ty : TypeId) : Prog :=
  match E.T.get ty with
  | some td => newT (tokD o 0) (.dbox ty td.zero.cells) (putD E o (.ptr (tokD o 0) 0))
  | none => .fail
theorem allocP_ok (k : Cxk X E) {o : Oper} {ty : TypeId} (ho : o.op = .alloc ty) : OpOk X C o (allocP E o ty) := by
  intro H L σ a w σ' r h K Q hK
  unfold allocP at h
  cases ht : E.T.get ty with
  | none => rw [ht] at h; exact (fail_run h).elim
  | some td =>
    rw [ht] at h
    obtain ⟨h1, h2⟩ := newT_run h
    have hd := k.tab _ _ ht
    have hz := (D.plain_rep (H := H) hd.plain).cells
    have r1 := dbox_new (ty := ty) r h1 hz.1 hz.2.1
    refine wp_value (w1 := w.alloc (.cells td.zero.val.cells ty)) (v := .pointer (some ⟨w.heap.size, 0, none⟩)) ?_ (hK _ _ _ _ (putD_run k r1 ptr_rep h2))
    simp [execOp, ho, Instr.alloc, hd.run_zero, newVar, newRow]

/-- A variable of what a value holds. -/
def boxP (E : Ev) (o : Oper) (ty : TypeId) (x : Operand) : Prog :=
  opnd E.T E.G ty x fun v => match v with
    | .d y => newT (tokD o 0) (.dbox ty y.cells) (putD E o (.ptr (tokD o 0) 0))
    | .agg cs => newT (tokD o 0) (.box ty cs) (putD E o (.ptr (tokD o 0) 0))
    | .ref t l => newT (tokD o 0) (.box ty [.ref t l]) (putD E o (.ptr (tokD o 0) 0))
    | .fn f cs => newT (tokD o 0) (.box ty [.fn f cs]) (putD E o (.ptr (tokD o 0) 0))
    | _ => .fail
theorem repL_one {H : Fz} {L : Vl} {x : Val} {v : Value} (h : x.Rep H L v) : Val.RepL H L [x] [v] := by
  unfold Val.RepL
  exact ⟨v, [], rfl, h, by unfold Val.RepL; rfl⟩
theorem boxP_ok (k : Cxk X E) {o : Oper} {ty : TypeId} {x : Operand} (ho : o.op = .box ty x) : OpOk X C o (boxP E o ty x) := by
  intro H L σ a w σ' r h K Q hK
  obtain ⟨v, h1, h2⟩ := opnd_run k r h
  have hex : ∀ u, a.eval x = u → (execOp a.eval o).run X.P w = .ok (.value (.pointer (some ⟨w.heap.size, 0, none⟩))) (w.alloc (.cells u.cells ty)) := fun u hu => by
    simp [execOp, ho, Instr.box, newVar, newRow, hu]
  split at h1
  · rename_i y
    obtain ⟨h3, h4⟩ := newT_run h1
    unfold Val.Rep at h2
    have hz := h2.cells
    have r1 := dbox_new (ty := ty) r h3 hz.1 hz.2.1
    exact wp_value (hex _ rfl) (hK _ _ _ _ (putD_run k r1 ptr_rep h4))
  · rename_i cs
    obtain ⟨h3, h4⟩ := newT_run h1
    unfold Val.Rep at h2
    obtain ⟨arr, e1, h5, h6⟩ := h2
    have r1 := box_new (ty := ty) r h3 h5 h6
    exact wp_value (by rw [hex _ e1]; rfl) (hK _ _ _ _ (putD_run k r1 ptr_rep h4))
  · rename_i t l
    obtain ⟨h3, h4⟩ := newT_run h1
    have hc := (Val.isCell_one h2 rfl).2
    have r1 := box_new (ty := ty) (cells := [.ref t l]) (cur := (a.eval x).cells) r h3 (by rw [hc]; exact repL_one h2) (by simp [Val.isCell])
    exact wp_value (hex _ rfl) (hK _ _ _ _ (putD_run k r1 ptr_rep h4))
  · rename_i f cs
    obtain ⟨h3, h4⟩ := newT_run h1
    have hc := (Val.isCell_one h2 rfl).2
    have r1 := box_new (ty := ty) (cells := [.fn f cs]) (cur := (a.eval x).cells) r h3 (by rw [hc]; exact repL_one h2) (by simp [Val.isCell])
    exact wp_value (hex _ rfl) (hK _ _ _ _ (putD_run k r1 ptr_rep h4))
  · exact (fail_run h1).elim

/-! ### A new row -/
theorem row_new {H : Fz} {L : Vl} {σ : St} {a : Act} {w : World} (r : Rel X H L σ a w) {t : Tok} (hf : σ.getT t = .fresh) {e : TypeId} {sz : Nat} {xs : List D} {cur : Array Value} (hr : D.RepL H xs cur.toList) (hw : ∀ x ∈ xs, x.width = sz) (hm : xs.length ≤ maxLen) :
    Rel X H (L.upd t (.slice (some ⟨w.heap.size, 0, none⟩) xs.length xs.length)) (σ.putT t (.row true false e sz xs)) a (w.alloc (.cells cur e)) := by
  have hsz : cur.size = xs.length * sz := by
    have := D.RepL.len _ _ hr
    rw [D.widthL_const hw] at this
    simpa using this
  refine r.make hf (alloc_same w _) (r.fr.alloc _) ⟨_, cur.toList, upd_same _ _ _, World.ownsRow_lit w cur xs.length (Nat.zero_le _) hm hsz, hr, hw, by simp, fun b hb => ?_⟩ (fun b hb => by simp [mutBlk] at hb; omega)
  simp [Value.ownBlock] at hb
  subst hb
  exact ⟨Fz.none_new r.sub (Nat.le_refl _), .inl r.fr.size⟩
theorem ref_rep {H : Fz} {L : Vl} {t : Tok} {A : Option Addr} {n c : Nat} : (Val.ref t none).Rep H (L.upd t (.slice A n c)) (.slice A n c) := by
  unfold Val.Rep
  exact ⟨upd_same _ _ _, A, n, c, rfl⟩

theorem repL_replicate {H : Fz} {z : D} {c : List Value} (h : D.Rep H z c) : ∀ n : Nat, D.RepL H (List.replicate n z) (List.replicate n c).flatten
  | 0 => by unfold D.RepL; rfl
  | n + 1 => by
    simp only [List.replicate_succ, List.flatten_cons]
    unfold D.RepL
    exact ⟨c, _, rfl, h, repL_replicate h n⟩
theorem flatten_replicate (c : List Value) (hc : 0 < c.length) : ∀ n : Nat, (List.replicate n c).flatten = (List.range (n * c.length)).map fun i => c[i % c.length]! := by
  intro n
  apply List.ext_getElem?
  intro i
  have hlen : ∀ m : Nat, (List.replicate m c).flatten.length = m * c.length := by
    intro m
    induction m with
    | zero => simp
    | succ m ih => rw [List.replicate_succ, List.flatten_cons, List.length_append, ih, Nat.add_mul]; omega
  by_cases hi : i < n * c.length
  · rw [List.getElem?_map, List.getElem?_range hi, Option.map_some]
    induction n generalizing i with
    | zero => simp at hi
    | succ n ih =>
      rw [List.replicate_succ, List.flatten_cons]
      by_cases h2 : i < c.length
      · rw [List.getElem?_append_left h2, Nat.mod_eq_of_lt h2, List.getElem?_eq_getElem h2]
        simp [h2]
      · have h3 : i - c.length < n * c.length := by rw [Nat.add_mul] at hi; omega
        rw [List.getElem?_append_right (Nat.le_of_not_lt h2), ih (i - c.length) h3]
        have : i % c.length = (i - c.length) % c.length := (Nat.mod_eq_sub_mod (Nat.le_of_not_lt h2))
        rw [this]
  · rw [List.getElem?_eq_none (by rw [hlen]; omega), List.getElem?_eq_none (by simp; omega)]

def makeP (E : Ev) (o : Oper) (t : TypeId) (l c : Operand) : Prog :=
  opnd E.T E.G o.type l fun u => opnd E.T E.G o.type c fun v => match u, v, E.T.get t with
    | .d (.int .i64 n), .d (.int .i64 m), some { desc := .slice e, .. } => match E.T.get e with
      | some te => needs [decide (n = m), decide (0 ≤ n), decide (te.bytes * n ≤ 281474976710656), decide (n ≤ 9223372036854775807)] (newT (tokD o 0) (.row true false e te.size (List.replicate n.toNat te.zero)) (putD E o (.ref (tokD o 0) none)))
      | none => .fail
    | _, _, _ => .fail
theorem makeP_ok (k : Cxk X E) {o : Oper} {t : TypeId} {l c : Operand} (ho : o.op = .makeSlice t l c) : OpOk X C o (makeP E o t l c) := by
  intro H L σ a w σ' r h K Q hK
  obtain ⟨u, h1, h2⟩ := opnd_run k r h
  obtain ⟨v, h3, h4⟩ := opnd_run k r h1
  split at h3
  · rename_i n m e _ _ _ ht
    split at h3
    · rename_i te hte
      have e1 := repD_int h2
      have e2 := repD_int h4
      simp only [needs] at h3
      obtain ⟨g1, h3⟩ := need_run h3
      obtain ⟨g2, h3⟩ := need_run h3
      obtain ⟨g3, h3⟩ := need_run h3
      obtain ⟨g4, h3⟩ := need_run h3
      obtain ⟨g5, h9⟩ := newT_run h3
      clear h3 h1 h
      simp only [decide_eq_true_eq] at g1 g2 g3 g4
      subst g1
      obtain ⟨N, rfl⟩ : ∃ N : Nat, n = N := ⟨n.toNat, (Int.toNat_of_nonneg g2).symm⟩
      have hd := k.tab _ _ hte
      obtain ⟨i, hi, hsz, hby, hz⟩ := hd.info
      have hw : ∀ x ∈ List.replicate N te.zero, x.width = te.size := fun x hx => by
        rw [(List.mem_replicate.1 hx).2]
        have hz := (D.plain_rep (H := H) hd.plain).cells
        rw [← D.Rep.len _ _ hz.2.2]
        simpa using hd.zsz
      have hz0 := (D.plain_rep (H := H) hd.plain).cells
      have hcl : te.zero.val.cells.toList.length = te.size := by simpa using hd.zsz
      have hrep : D.RepL H (List.replicate N te.zero) (madeCells te.zero.val.cells (N * te.size)).toList := by
        have h5 := repL_replicate hz0.2.2 N
        rw [flatten_replicate _ (by rw [hcl]; exact hd.pos), hcl] at h5
        have h6 : (madeCells te.zero.val.cells (N * te.size)).toList = (List.range (N * te.size)).map fun i => te.zero.val.cells.toList[i % te.size]! := by
          simp only [madeCells, hd.zsz]
          simp
          intro a ha
          simp only [getElem!_def]
          cases te.zero.val.cells[a % te.size]? <;> rfl
        rw [h6]; exact h5
      have hm : (List.replicate N te.zero).length ≤ maxLen := by
        simp only [List.length_replicate, maxLen]; omega
      have r1 := row_new (e := e) r g5 hrep hw hm
      simp only [List.length_replicate] at r1
      simp only [Int.toNat_natCast] at h9
      have hrun := run_make (P := X.P) w t e i te.zero.val (k.tab _ _ ht).und hi hz .i64 .i64 N N (by omega) (Int.le_refl _) (by rw [hby]; omega) (by omega)
      simp only [Int.toNat_natCast, hsz] at hrun
      refine wp_value (w1 := w.alloc (.cells (madeCells te.zero.val.cells (N * te.size)) e)) ?_ (hK _ _ _ _ (putD_run k r1 ref_rep h9))
      simp [execOp, ho, e1, e2, hrun]
    · exact (fail_run h3).elim
  · exact (fail_run h3).elim
end
end Go.Ab
