/- The operations, one by one: what the evaluator tells is what the machine does. Sixth part: memory read and written. No condition. -/
import Derived.Test.YtoghhgceanlkkaaAbOps5
import Derived.Deep.Slices
import Derived.Laws.Cells
import Derived.Laws.CopyRow
set_option linter.unusedVariables false
set_option linter.unusedSimpArgs false
namespace Go.Ab
open Go

section
variable {X : Cx} {E : Ev} {C : Caller}

theorem add_off (b i j : Nat) : (⟨b, i, none⟩ : Addr).add j = ⟨b, i + j, none⟩ := by unfold Addr.add; split <;> simp_all
/-- Cells in memory from an address on. -/
def There (w : World) (ad : Addr) (cs : List Value) : Prop := ∀ j u, cs[j]? = some u → w.cell? (ad.add j) = some u
theorem There.drop {w : World} {ad : Addr} {cs : List Value} (h : There w ad cs) (n : Nat) : There w (ad.add n) (cs.drop n) := fun j u hj => by
  rw [Go.Deep.add_add]
  exact h _ _ (by rw [List.getElem?_drop] at hj; exact hj)
theorem There.take {w : World} {ad : Addr} {cs : List Value} (h : There w ad cs) (n : Nat) : There w ad (cs.take n) := fun j u hj => by
  refine h j u ?_
  rw [List.getElem?_take] at hj
  by_cases hn : j < n
  · rwa [if_pos hn] at hj
  · rw [if_neg hn] at hj; cases hj
theorem run_loadVar_agg {w : World} {ty : TypeId} {td : TD} (hd : TdOk X.P ty td) (ha : isAggT td = true) {ad : Addr} {cs : List Value} (h : There w ad cs) (hl : cs.length = td.size) : (loadVar ty ad).run X.P w = .ok (.agg cs.toArray) w := by
  have h1 := run_loadCells_list (P := X.P) w ad cs h
  rw [hl] at h1
  simp [loadVar, hd.run_isAgg, ha, hd.run_size, h1]
theorem run_loadVar_one {w : World} {ty : TypeId} {td : TD} (hd : TdOk X.P ty td) (ha : isAggT td = false) {ad : Addr} {u : Value} (h : w.cell? ad = some u) : (loadVar ty ad).run X.P w = .ok u w := by
  simp [loadVar, hd.run_isAgg, ha, h]
theorem add_zero (ad : Addr) : ad.add 0 = ad := by simp [Addr.add]
theorem D.repL_one {H : Fz} {cs : List D} {us : List Value} (h : D.RepL H cs us) (ho : ∀ c ∈ cs, c.isAgg = false) {i : Nat} {x : D} (hx : cs[i]? = some x) : ∃ u, us[i]? = some u ∧ D.Rep H x [u] := by
  obtain ⟨u, h1, h2⟩ := Val.RepL.get (L := fun _ => none) (h.vals ho) (i := i) (x := .d x) (by simp [hx])
  refine ⟨u, h1, ?_⟩
  unfold Val.Rep at h2
  have := ho x (List.mem_of_getElem? hx)
  cases x <;> first | (simp [D.isAgg] at this; done) | exact h2
theorem D.repV_one {H : Fz} {x : D} {u : Value} (h : D.Rep H x [u]) (ho : x.isAgg = false) : x.RepV H u := by
  cases x <;> first | (simp [D.isAgg] at ho; done) | exact h
theorem D.repL_sub {H : Fz} {cs : List D} {us : List Value} (h : D.RepL H cs us) (ho : ∀ c ∈ cs, c.isAgg = false) (off n : Nat) : D.RepL H ((cs.drop off).take n) ((us.drop off).take n) := by
  have h1 := (Val.RepL.take n (Val.RepL.drop off (h.vals (L := fun _ => none) ho)))
  rw [← List.map_drop, ← List.map_take] at h1
  exact Val.RepL.data h1 (fun c hc => ho c (List.mem_of_mem_drop (List.mem_of_mem_take hc)))

theorem repL_len {H : Fz} {cs : List D} {us : List Value} (h : D.RepL H cs us) (ho : ∀ c ∈ cs, c.isAgg = false) : us.length = cs.length := by
  have := (h.vals (L := fun _ => none) ho).len
  simpa using this
/-- A piece of cells in memory, read as a type. -/
def piecesP (E : Ev) (o : Oper) (td : TD) (cs : List D) (off : Nat) : Prog :=
  if isAggT td then .need (decide (off + td.size ≤ cs.length)) (putD E o (.d (.agg ((cs.drop off).take td.size))))
  else .elem none cs off fun x => putD E o (.d x)
theorem piecesP_run {H : Fz} {L : Vl} {σ σ' : St} {w : World} {o : Oper} {ty : TypeId} {td : TD} (hd : TdOk X.P ty td) {cs : List D} {us : List Value} {ad : Addr} (hr : D.RepL H cs us) (ho : ∀ c ∈ cs, c.isAgg = false) (hl : There w ad us) {off : Nat} (h : (piecesP E o td cs off).run C σ = some σ') :
    ∃ x v, (putD E o (.d x)).run C σ = some σ' ∧ (Val.d x).Rep H L v ∧ (loadVar ty (ad.add off)).run X.P w = .ok v w := by
  unfold piecesP at h
  by_cases ha : isAggT td = true
  · rw [if_pos ha] at h
    obtain ⟨g1, h1⟩ := need_run h
    simp only [decide_eq_true_eq] at g1
    have hlen : us.length = cs.length := repL_len hr ho
    refine ⟨_, .agg ((us.drop off).take td.size).toArray, h1, ?_, run_loadVar_agg hd ha ((hl.drop off).take _) (by simp; omega)⟩
    unfold Val.Rep
    exact ⟨_, rfl, by unfold D.Rep; exact ⟨by simpa using D.repL_sub hr ho off td.size, fun c hc => ho c (List.mem_of_mem_drop (List.mem_of_mem_take hc))⟩⟩
  · have ha : isAggT td = false := by simpa using ha
    rw [ha] at h
    obtain ⟨x, hx, h1⟩ := elem_run h
    obtain ⟨u, hu, h2⟩ := D.repL_one hr ho hx
    refine ⟨x, u, h1, ?_, run_loadVar_one hd ha (hl off u hu)⟩
    unfold Val.Rep
    exact D.repV_one h2 (ho x (List.mem_of_getElem? hx))

def loadP (E : Ev) (o : Oper) (ty : TypeId) (p : Operand) : Prog :=
  opnd E.T E.G o.type p fun v => match E.T.get ty with
    | none => .fail
    | some td => match v with
      | .ptr t off => .getT t fun en => match en with
        | .dbox ty0 cells => if ty = ty0 ∧ off = 0 ∧ isAggT td = true then .need (decide (cells.length = td.size)) (putD E o (.d (.agg cells))) else piecesP E o td cells off
        | .box _ cells => if isAggT td then .need (decide (off + td.size ≤ cells.length)) (putD E o (mkAgg ((cells.drop off).take td.size))) else match cells[off]? with
          | some x => putD E o x
          | none => .fail
        | _ => .fail
      | .eptr t sz i off => .getT t fun en => match en with
        | .row _ _ e0 sz' xs => if sz = sz' then .elem (some (tagOf E.T e0)) xs i fun x => piecesP E o td x.cells off else .fail
        | _ => .fail
      | .dptr xs => piecesP E o td xs 0
      | _ => .fail
theorem there_block {w : World} {b : Nat} {cur : Array Value} {ty : TypeId} {fr : Nat × Nat} (h : w.heap[b]? = some (.cells cur ty fr)) : There w ⟨b, 0, none⟩ cur.toList := fun j u hj => by
  rw [add_off, Nat.zero_add, cell_of_row w b j cur ty fr h]
  simpa using hj
theorem mkAgg_rep {H : Fz} {L : Vl} {cs : List Val} {us : List Value} (h : Val.RepL H L cs us) (ho : ∀ c ∈ cs, c.isCell = true) : (mkAgg cs).Rep H L (.agg us.toArray) := by
  unfold mkAgg
  cases hd : allD cs with
  | none =>
    unfold Val.Rep
    exact ⟨_, rfl, by simpa using h, ho⟩
  | some ds =>
    have e := allD_some hd
    subst e
    have hds : ∀ c ∈ ds, c.isAgg = false := fun c hc => by
      have := ho (.d c) (List.mem_map.2 ⟨c, hc, rfl⟩)
      simpa [Val.isCell] using this
    unfold Val.Rep
    exact ⟨_, rfl, by unfold D.Rep; exact ⟨by simpa using Val.RepL.data h hds, hds⟩⟩
/-- The cells of an element of a row that is the call's own. -/
theorem row_elem {H : Fz} {L : Vl} {w : World} {t : Tok} {m nl : Bool} {e : TypeId} {sz : Nat} {xs : List D} (h : EntInv X H L w t (.row m nl e sz xs)) {b n c : Nat} (hL : L t = some (.slice (some ⟨b, 0, none⟩) n c)) {i : Nat} {x : D} (hx : xs[i]? = some x) :
    ∃ us, D.Rep H x us ∧ us.length = sz ∧ There w ⟨b, i * sz, none⟩ us := by
  obtain ⟨v0, cells, h1, h2, h3, h4, h5, h6⟩ := h
  rw [hL] at h1
  cases h1
  obtain ⟨us, k1, k2, k3⟩ := h3.at h4 hx
  refine ⟨us, k1, k2, fun j u hj => ?_⟩
  rw [add_off]
  have h7 := h2.cells (g := b) rfl (i * sz + j) u (k3 j u hj)
  rw [add_off, Nat.zero_add] at h7
  exact h7
theorem loadP_ok (k : Cxk X E) {o : Oper} {ty : TypeId} {p : Operand} (ho : o.op = .load ty p) : OpOk X C o (loadP E o ty p) := by
  intro H L σ a w σ' r h K Q hK
  obtain ⟨v, h1, h2⟩ := opnd_run k r h
  split at h1
  · exact (fail_run h1).elim
  rename_i td htd
  have hd := k.tab _ _ htd
  have fin : ∀ x u ad, a.eval p = .pointer (some ad) → (loadVar ty ad).run X.P w = .ok u w → Val.Rep H L x u → (putD E o x).run C σ = some σ' → o.wp X.P a w K Q := fun x u ad he hr hx hp =>
    wp_value (w1 := w) (v := u) (by simp [execOp, ho, Instr.loadAt, he, Instr.sureAddr, hr]) (hK _ _ _ _ (putD_run k r hx hp))
  split at h1
  · rename_i t off
    unfold Val.Rep at h2
    obtain ⟨b, hL, e1⟩ := h2
    simp only [Prog.run] at h1
    split at h1
    · rename_i ty0 cells hen
      have he := r.ents t
      rw [hen] at he
      obtain ⟨b', cur, g1, g2, g3, g4, _⟩ := he
      rw [hL] at g1
      simp only [Option.some.injEq, Value.pointer.injEq, Addr.mk.injEq, and_true] at g1
      subst g1
      have hth := there_block g2
      split at h1
      · rename_i hc
        obtain ⟨q1, h3⟩ := need_run h1
        simp only [decide_eq_true_eq] at q1
        obtain ⟨rfl, rfl, hagg⟩ := hc
        refine fin _ (.agg cur) _ e1 ?_ ?_ h3
        · have := run_loadVar_agg hd hagg hth (by rw [repL_len g3 g4]; exact q1)
          simpa using this
        · unfold Val.Rep
          exact ⟨_, rfl, by unfold D.Rep; exact ⟨g3, g4⟩⟩
      · obtain ⟨x, u, h3, h4, h5⟩ := piecesP_run (L := L) hd g3 g4 hth h1
        rw [add_off, Nat.zero_add] at h5
        exact fin _ u _ e1 h5 h4 h3
    · rename_i ty0 cells hen
      have he := r.ents t
      rw [hen] at he
      obtain ⟨b', cur, g1, g2, g3, g4, _⟩ := he
      rw [hL] at g1
      simp only [Option.some.injEq, Value.pointer.injEq, Addr.mk.injEq, and_true] at g1
      subst g1
      have hth := there_block g2
      split at h1
      · rename_i hagg
        obtain ⟨q1, h3⟩ := need_run h1
        simp only [decide_eq_true_eq] at q1
        have hlen := g3.len
        refine fin _ (.agg ((cur.toList.drop off).take td.size).toArray) _ e1 ?_ ?_ h3
        · have := run_loadVar_agg hd hagg ((hth.drop off).take td.size) (by simp at hlen ⊢; omega)
          rw [add_off, Nat.zero_add] at this
          exact this
        · exact mkAgg_rep (Val.RepL.take _ (Val.RepL.drop _ g3)) (fun c hc => g4 c (List.mem_of_mem_drop (List.mem_of_mem_take hc)))
      · rename_i hagg
        have hagg : isAggT td = false := by simpa using hagg
        split at h1
        · rename_i x hx
          obtain ⟨u, h3, h4⟩ := g3.get hx
          refine fin x u _ e1 (run_loadVar_one hd hagg ?_) h4 h1
          have := hth off u h3
          rwa [add_off, Nat.zero_add] at this
        · exact (fail_run h1).elim
    · exact (fail_run h1).elim
  · rename_i t sz i off
    unfold Val.Rep at h2
    obtain ⟨b, n, c, hL, e1⟩ := h2
    simp only [Prog.run] at h1
    split at h1
    · rename_i m nl e sz' xs hen
      split at h1
      · rename_i hsz
        subst hsz
        obtain ⟨x, hx, h3⟩ := elem_run h1
        have he := r.ents t
        rw [hen] at he
        obtain ⟨us, k1, k2, k3⟩ := row_elem he hL hx
        have hz := D.cells_Rep k1
        obtain ⟨y, u, h4, h5, h6⟩ := piecesP_run (L := L) hd hz.1 hz.2 k3 h3
        rw [add_off] at h6
        exact fin _ u _ e1 h6 h5 h4
      · exact (fail_run h1).elim
    · exact (fail_run h1).elim
  · rename_i xs
    unfold Val.Rep at h2
    obtain ⟨ad, cs, e1, g1, g2, g3⟩ := h2
    have hth : There w ad cs := fun j u hj => cellH_sub r.sub (g2 j u hj)
    obtain ⟨x, u, h3, h4, h5⟩ := piecesP_run (L := L) hd g1 g3 hth h1
    rw [add_zero] at h5
    exact fin _ u _ e1 h5 h4 h3
  · exact (fail_run h1).elim
end
end Go.Ab
