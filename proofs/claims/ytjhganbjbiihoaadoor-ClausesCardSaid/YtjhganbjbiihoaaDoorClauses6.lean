/- The operations, one by one: what the evaluator tells is what the machine does. Sixth part: memory read and written. No condition. -/
import Derived.Deep.Slices
import Derived.Laws.Cells
import Derived.Laws.CopyRow
import Derived.Test.YtjhganbjbiihoaaDoorClauses0
import Derived.Test.YtjhganbjbiihoaaDoorClauses1
import Derived.Test.YtjhganbjbiihoaaDoorClauses2
import Derived.Test.YtjhganbjbiihoaaDoorClauses3
import Derived.Test.YtjhganbjbiihoaaDoorClauses4
import Derived.Test.YtjhganbjbiihoaaDoorClauses5
set_option linter.unusedVariables false
set_option linter.unusedSimpArgs false
namespace Go.Ab
open Go

section
variable {X : Cx} {E : Ev} {C : Caller}

theorem add_off (b i j : Nat) : (⟨b, i, none⟩ : Addr).add j = ⟨b, i + j, none⟩ := by unfold Addr.add; split <;> simp_all
/-- Cells in memory from an address on. -/
def There (w : World) (ad : Addr) (cs : List Value) : Prop := ∀ j u, cs[j]? = some u → w.cell? (ad.add j) = some u
theorem There.drop {w : World} {ad : Addr} {cs : List Value} (h : There w ad cs) (n : Nat) : There w (ad.add n) (cs.drop n) := fun j u hj => by
  rw [Go.Deep.add_add]
  exact h _ _ (by rw [List.getElem?_drop] at hj; exact hj)
theorem There.take {w : World} {ad : Addr} {cs : List Value} (h : There w ad cs) (n : Nat) : There w ad (cs.take n) := fun j u hj => by
  refine h j u ?_
  rw [List.getElem?_take] at hj
  by_cases hn : j < n
  · rwa [if_pos hn] at hj
  · rw [if_neg hn] at hj; cases hj
theorem run_loadVar_agg {w : World} {ty : TypeId} {td : TD} (hd : TdOk X.P ty td) (ha : isAggT td = true) {ad : Addr} {cs : List Value} (h : There w ad cs) (hl : cs.length = td.size) : (loadVar ty ad).run X.P w = .ok (.agg cs.toArray) w := by
  have h1 := run_loadCells_list (P := X.P) w ad cs h
  rw [hl] at h1
  simp [loadVar, hd.run_isAgg, ha, hd.run_size, h1]
theorem run_loadVar_one {w : World} {ty : TypeId} {td : TD} (hd : TdOk X.P ty td) (ha : isAggT td = false) {ad : Addr} {u : Value} (h : w.cell? ad = some u) : (loadVar ty ad).run X.P w = .ok u w := by
  simp [loadVar, hd.run_isAgg, ha, h]
theorem add_zero (ad : Addr) : ad.add 0 = ad := by simp [Addr.add]
theorem D.repL_one {H : Fz} {cs : List D} {us : List Value} (h : D.RepL H cs us) (ho : ∀ c ∈ cs, c.isAgg = false) {i : Nat} {x : D} (hx : cs[i]? = some x) : ∃ u, us[i]? = some u ∧ D.Rep H x [u] := by
  obtain ⟨u, h1, h2⟩ := Val.RepL.get (L := fun _ => none) (h.vals ho) (i := i) (x := .d x) (by simp [hx])
  refine ⟨u, h1, ?_⟩
  unfold Val.Rep at h2
  have := ho x (List.mem_of_getElem? hx)
  cases x <;> first | (simp [D.isAgg] at this; done) | exact h2
theorem D.repV_one {H : Fz} {x : D} {u : Value} (h : D.Rep H x [u]) (ho : x.isAgg = false) : x.RepV H u := by
  cases x <;> first | (simp [D.isAgg] at ho; done) | exact h
theorem D.repL_sub {H : Fz} {cs : List D} {us : List Value} (h : D.RepL H cs us) (ho : ∀ c ∈ cs, c.isAgg = false) (off n : Nat) : D.RepL H ((cs.drop off).take n) ((us.drop off).take n) := by
  have h1 := (Val.RepL.take n (Val.RepL.drop off (h.vals (L := fun _ => none) ho)))
  rw [← List.map_drop, ← List.map_take] at h1
  exact Val.RepL.data h1 (fun c hc => ho c (List.mem_of_mem_drop (List.mem_of_mem_take hc)))

theorem repL_len {H : Fz} {cs : List D} {us : List Value} (h : D.RepL H cs us) (ho : ∀ c ∈ cs, c.isAgg = false) : us.length = cs.length := by
  have := (h.vals (L := fun _ => none) ho).len
  simpa using this
/-- A piece of cells in memory, read as a type. -/
def piecesP (E : Ev) (o : Oper) (td : TD) (cs : List D) (off : Nat) : Prog :=
  if isAggT td then .need (decide (off + td.size ≤ cs.length)) (putD E o (.d (.agg ((cs.drop off).take td.size))))
  else .elem none cs off fun x => putD E o (.d x)
theorem piecesP_run {H : Fz} {L : Vl} {σ σ' : St} {w : World} {o : Oper} {ty : TypeId} {td : TD} (hd : TdOk X.P ty td) {cs : List D} {us : List Value} {ad : Addr} (hr : D.RepL H cs us) (ho : ∀ c ∈ cs, c.isAgg = false) (hl : There w ad us) {off : Nat} (h : (piecesP E o td cs off).run C σ = some σ') :
    ∃ x v, (putD E o (.d x)).run C σ = some σ' ∧ (Val.d x).Rep H L v ∧ (loadVar ty (ad.add off)).run X.P w = .ok v w := by
  unfold piecesP at h
  by_cases ha : isAggT td = true
  · rw [if_pos ha] at h
    obtain ⟨g1, h1⟩ := need_run h
    simp only [decide_eq_true_eq] at g1
    have hlen : us.length = cs.length := repL_len hr ho
    refine ⟨_, .agg ((us.drop off).take td.size).toArray, h1, ?_, run_loadVar_agg hd ha ((hl.drop off).take _) (by simp; omega)⟩
    unfold Val.Rep
    exact ⟨_, rfl, by unfold D.Rep; exact ⟨by simpa using D.repL_sub hr ho off td.size, fun c hc => ho c (List.mem_of_mem_drop (List.mem_of_mem_take hc))⟩⟩
  · have ha : isAggT td = false := by simpa using ha
    rw [ha] at h
    obtain ⟨x, hx, h1⟩ := elem_run h
    obtain ⟨u, hu, h2⟩ := D.repL_one hr ho hx
    refine ⟨x, u, h1, ?_, run_loadVar_one hd ha (hl off u hu)⟩
    unfold Val.Rep
    exact D.repV_one h2 (ho x (List.mem_of_getElem? hx))

/-- The same in a variable; of an array: its cells are of one type. -/
def pieceAP (E : Ev) (o : Oper) (ty0 : TypeId) (td : TD) (cs : List D) (off : Nat) : Prog :=
  match E.T.get ty0 with
  | some { desc := .array _ e, .. } => if isAggT td then piecesP E o td cs off else .elem (some (tagOf E.T e)) cs off fun x => putD E o (.d x)
  | _ => piecesP E o td cs off
theorem pieceAP_run {C : Caller} {E : Ev} {o : Oper} {ty0 : TypeId} {td : TD} {cs : List D} {off : Nat} {σ : St} : (pieceAP E o ty0 td cs off).run C σ = (piecesP E o td cs off).run C σ := by
  unfold pieceAP
  split
  · unfold piecesP
    split
    · rfl
    · simp only [Prog.run]
  · rfl
def loadP (E : Ev) (o : Oper) (ty : TypeId) (p : Operand) : Prog :=
  opnd E.T E.G o.type p fun v => match E.T.get ty with
    | none => .fail
    | some td => match v with
      | .ptr t off => .getT t fun en => match en with
        | .dbox ty0 cells => if ty = ty0 ∧ off = 0 ∧ isAggT td = true then .need (decide (cells.length = td.size)) (putD E o (.d (.agg cells))) else pieceAP E o ty0 td cells off
        | .box _ cells => if isAggT td then .need (decide (off + td.size ≤ cells.length)) (putD E o (mkAgg ((cells.drop off).take td.size))) else match cells[off]? with
          | some x => putD E o x
          | none => .fail
        | _ => .fail
      | .eptr t sz i off => .getT t fun en => match en with
        | .row _ _ e0 sz' xs => if sz = sz' then .elem (some (tagOf E.T e0)) xs i fun x => piecesP E o td x.cells off else .fail
        | _ => .fail
      | .dptr xs => piecesP E o td xs 0
      | _ => .fail
theorem there_block {w : World} {b : Nat} {cur : Array Value} {ty : TypeId} {fr : Nat × Nat} (h : w.heap[b]? = some (.cells cur ty fr)) : There w ⟨b, 0, none⟩ cur.toList := fun j u hj => by
  rw [add_off, Nat.zero_add, cell_of_row w b j cur ty fr h]
  simpa using hj
theorem mkAgg_rep {H : Fz} {L : Vl} {cs : List Val} {us : List Value} (h : Val.RepL H L cs us) (ho : ∀ c ∈ cs, c.isCell = true) : (mkAgg cs).Rep H L (.agg us.toArray) := by
  unfold mkAgg
  cases hd : allD cs with
  | none =>
    unfold Val.Rep
    exact ⟨_, rfl, by simpa using h, ho⟩
  | some ds =>
    have e := allD_some hd
    subst e
    have hds : ∀ c ∈ ds, c.isAgg = false := fun c hc => by
      have := ho (.d c) (List.mem_map.2 ⟨c, hc, rfl⟩)
      simpa [Val.isCell] using this
    unfold Val.Rep
    exact ⟨_, rfl, by unfold D.Rep; exact ⟨by simpa using Val.RepL.data h hds, hds⟩⟩
/-- The cells of an element of a row that is the call's own. -/
theorem row_elem {H : Fz} {L : Vl} {w : World} {t : Tok} {m nl : Bool} {e : TypeId} {sz : Nat} {xs : List D} (h : EntInv X H L w t (.row m nl e sz xs)) {b n c : Nat} (hL : L t = some (.slice (some ⟨b, 0, none⟩) n c)) {i : Nat} {x : D} (hx : xs[i]? = some x) :
    ∃ us, D.Rep H x us ∧ us.length = sz ∧ There w ⟨b, i * sz, none⟩ us := by
  obtain ⟨v0, cells, h1, h2, h3, h4, h5, h6⟩ := h
  rw [hL] at h1
  cases h1
  obtain ⟨us, k1, k2, k3⟩ := h3.at h4 hx
  refine ⟨us, k1, k2, fun j u hj => ?_⟩
  rw [add_off]
  have h7 := h2.cells (g := b) rfl (i * sz + j) u (k3 j u hj)
  rw [add_off, Nat.zero_add] at h7
  exact h7
theorem loadP_ok (k : Cxk X E) {o : Oper} {ty : TypeId} {p : Operand} (ho : o.op = .load ty p) : OpOk X C o (loadP E o ty p) := by
  intro H L σ a w σ' r h K Q hK
  obtain ⟨v, h1, h2⟩ := opnd_run k r h
  split at h1
  · exact (fail_run h1).elim
  rename_i td htd
  have hd := k.tab _ _ htd
  have fin : ∀ x u ad, a.eval p = .pointer (some ad) → (loadVar ty ad).run X.P w = .ok u w → Val.Rep H L x u → (putD E o x).run C σ = some σ' → o.wp X.P a w K Q := fun x u ad he hr hx hp =>
    wp_value (w1 := w) (v := u) (by simp [execOp, ho, Instr.loadAt, he, Instr.sureAddr, hr]) (hK _ _ _ _ (putD_run k r hx hp))
  split at h1
  · rename_i t off
    unfold Val.Rep at h2
    obtain ⟨b, hL, e1⟩ := h2
    simp only [Prog.run] at h1
    split at h1
    · rename_i ty0 cells hen
      have he := r.ents t
      rw [hen] at he
      obtain ⟨b', cur, g1, g2, g3, g4, _⟩ := he
      rw [hL] at g1
      simp only [Option.some.injEq, Value.pointer.injEq, Addr.mk.injEq, and_true] at g1
      subst g1
      have hth := there_block g2
      split at h1
      · rename_i hc
        obtain ⟨q1, h3⟩ := need_run h1
        simp only [decide_eq_true_eq] at q1
        obtain ⟨rfl, rfl, hagg⟩ := hc
        refine fin _ (.agg cur) _ e1 ?_ ?_ h3
        · have := run_loadVar_agg hd hagg hth (by rw [repL_len g3 g4]; exact q1)
          simpa using this
        · unfold Val.Rep
          exact ⟨_, rfl, by unfold D.Rep; exact ⟨g3, g4⟩⟩
      · rw [pieceAP_run] at h1
        obtain ⟨x, u, h3, h4, h5⟩ := piecesP_run (L := L) hd g3 g4 hth h1
        rw [add_off, Nat.zero_add] at h5
        exact fin _ u _ e1 h5 h4 h3
    · rename_i ty0 cells hen
      have he := r.ents t
      rw [hen] at he
      obtain ⟨b', cur, g1, g2, g3, g4, _⟩ := he
      rw [hL] at g1
      simp only [Option.some.injEq, Value.pointer.injEq, Addr.mk.injEq, and_true] at g1
      subst g1
      have hth := there_block g2
      split at h1
      · rename_i hagg
        obtain ⟨q1, h3⟩ := need_run h1
        simp only [decide_eq_true_eq] at q1
        have hlen := g3.len
        refine fin _ (.agg ((cur.toList.drop off).take td.size).toArray) _ e1 ?_ ?_ h3
        · have := run_loadVar_agg hd hagg ((hth.drop off).take td.size) (by simp at hlen ⊢; omega)
          rw [add_off, Nat.zero_add] at this
          exact this
        · exact mkAgg_rep (Val.RepL.take _ (Val.RepL.drop _ g3)) (fun c hc => g4 c (List.mem_of_mem_drop (List.mem_of_mem_take hc)))
      · rename_i hagg
        have hagg : isAggT td = false := by simpa using hagg
        split at h1
        · rename_i x hx
          obtain ⟨u, h3, h4⟩ := g3.get hx
          refine fin x u _ e1 (run_loadVar_one hd hagg ?_) h4 h1
          have := hth off u h3
          rwa [add_off, Nat.zero_add] at this
        · exact (fail_run h1).elim
    · exact (fail_run h1).elim
  · rename_i t sz i off
    unfold Val.Rep at h2
    obtain ⟨b, n, c, hL, e1⟩ := h2
    simp only [Prog.run] at h1
    split at h1
    · rename_i m nl e sz' xs hen
      split at h1
      · rename_i hsz
        subst hsz
        obtain ⟨x, hx, h3⟩ := elem_run h1
        have he := r.ents t
        rw [hen] at he
        obtain ⟨us, k1, k2, k3⟩ := row_elem he hL hx
        have hz := D.cells_Rep k1
        obtain ⟨y, u, h4, h5, h6⟩ := piecesP_run (L := L) hd hz.1 hz.2 k3 h3
        rw [add_off] at h6
        exact fin _ u _ e1 h6 h5 h4
      · exact (fail_run h1).elim
    · exact (fail_run h1).elim
  · rename_i xs
    unfold Val.Rep at h2
    obtain ⟨ad, cs, e1, g1, g2, g3⟩ := h2
    have hth : There w ad cs := fun j u hj => cellH_sub r.sub (g2 j u hj)
    obtain ⟨x, u, h3, h4, h5⟩ := piecesP_run (L := L) hd g1 g3 hth h1
    rw [add_zero] at h5
    exact fin _ u _ e1 h5 h4 h3
  · exact (fail_run h1).elim
end
end Go.Ab

/- The operations, one by one: what the evaluator tells is what the machine does. Seventh part: stores, addresses. No condition. -/
set_option linter.unusedVariables false
set_option linter.unusedSimpArgs false
namespace Go.Ab
open Go

section
variable {X : Cx} {E : Ev} {C : Caller}

theorem run_storeVar {w : World} {ty : TypeId} {td : TD} (hd : TdOk X.P ty td) {b o : Nat} {t : TypeId} {cur : Array Value} {v : Value} (hb : w.heap[b]? = some (.cells cur t (0, 0))) (hs : v.cells.size = td.size) (hl : o + td.size ≤ cur.size) (h1 : ∀ u ∈ v.cells.toList, u.oneCell' = true) :
    (storeVar ty ⟨b, o, none⟩ v).run X.P w = .ok () (w.setRow b (cur.toList.take o ++ v.cells.toList ++ cur.toList.drop (o + v.cells.size)).toArray) := by
  have := run_storeCells_at (P := X.P) b o t v.cells.toList 0 cur w hb (by simpa [hs] using hl) h1
  simp only [Nat.add_zero, Array.length_toList] at this
  simp [storeVar, hd.run_size, hs, this]
theorem setRow_grown (w : World) (b : Nat) (cs : Array Value) : w.grownBy (w.setRow b cs) (some b) := ⟨rfl, rfl, rfl, by simp, fun k _ hk => setRow_other w b k _ (fun e => hk (by rw [e]))⟩

theorem setR_eq {α : Type} (cs : List α) (off : Nat) (vs : List α) (h : off + vs.length ≤ cs.length) : setR cs off vs = cs.take off ++ vs ++ cs.drop (off + vs.length) := by
  unfold setR
  split
  · rename_i v
    simp only [List.length_cons, List.length_nil, Nat.zero_add] at h
    rw [List.set_eq_take_append_cons_drop, if_pos (by omega)]
    simp
  · rfl

/-- Where a value that holds a row of the call's own comes into a variable of so many cells, at most, its cells are told one by one. -/
def boxMax : Nat := 12
def storeP (E : Ev) (o : Oper) (ty : TypeId) (p x : Operand) : Prog :=
  opnd E.T E.G o.type p fun pv => opnd E.T E.G ty x fun v => match E.T.get ty with
    | none => .fail
    | some td => match pv with
      | .ptr t off => .getT t fun en => match en with
        | .dbox ty0 cells => match v with
          | .d y => if ty = ty0 ∧ off = 0 ∧ isAggT td = true then needs [decide (cells.length = td.size), y.width == td.size] (.putT t (.dbox ty0 y.cells) (putD E o .und))
              else needs [y.width == td.size, decide (off + y.cells.length ≤ cells.length), decide (y.cells.length = td.size)] (.putT t (.dbox ty0 (setR cells off y.cells)) (putD E o .und))
          | _ => match v.cells with
            | some vs => needs [decide (vs.length = td.size), decide (off + vs.length ≤ cells.length), decide (cells.length ≤ boxMax)] (.putT t (.box ty0 (setR (cells.map .d) off vs)) (putD E o .und))
            | none => .fail
        | .box ty0 cells => match v.cells with
          | some vs => needs [decide (vs.length = td.size), decide (off + vs.length ≤ cells.length), vs.all Val.isCell] (.putT t (.box ty0 (setR cells off vs)) (putD E o .und))
          | none => .fail
        | _ => .fail
      | .eptr t sz i off => freeze v fun y => .getT t fun en => match en with
        | .row true nl e sz' xs => if sz = sz' then .elem (some (tagOf E.T e)) xs i fun old => if off = 0 ∧ td.size = sz then needs [y.width == sz] (.putT t (.row true nl e sz (xs.set i y)) (putD E o .und))
              else needs [y.width == td.size, decide (off + y.cells.length ≤ old.cells.length), decide (y.cells.length = td.size), decide (old.cells.length = sz)] (.putT t (.row true nl e sz (xs.set i (.agg (setR old.cells off y.cells)))) (putD E o .und))
            else .fail
        | _ => .fail
      | _ => .fail

theorem und_rep {H : Fz} {L : Vl} : (Val.und).Rep H L undef := by unfold Val.Rep; rfl
/-- 'v.cells' are the value's cells. -/
theorem Val.cells_rep {H : Fz} {L : Vl} {v : Val} {u : Value} {vs : List Val} (h : v.Rep H L u) (hc : v.cells = some vs) : Val.RepL H L vs u.cells.toList ∧ ∀ c ∈ vs, c.isCell = true := by
  cases v <;> simp [Val.cells] at hc
  case d x =>
    subst hc
    unfold Val.Rep at h
    have hz := h.cells
    refine ⟨hz.1.vals hz.2.1, fun c hc => ?_⟩
    obtain ⟨y, hy, rfl⟩ := List.mem_map.1 hc
    simp [Val.isCell, hz.2.1 y hy]
  case ref t l =>
    subst hc
    rw [(Val.isCell_one h rfl).2]
    exact ⟨repL_one h, by simp [Val.isCell]⟩
  case cell =>
    subst hc
    rw [(Val.isCell_one h rfl).2]
    exact ⟨repL_one h, by simp [Val.isCell]⟩
  case ptr t off =>
    subst hc
    rw [(Val.isCell_one h rfl).2]
    exact ⟨repL_one h, by simp [Val.isCell]⟩
  case fn f cs =>
    subst hc
    rw [(Val.isCell_one h rfl).2]
    exact ⟨repL_one h, by simp [Val.isCell]⟩
  case agg cs =>
    obtain ⟨h1, rfl⟩ := hc
    unfold Val.Rep at h
    obtain ⟨arr, rfl, h2, h3⟩ := h
    exact ⟨h2, h3⟩
theorem Val.RepL.one {H : Fz} {L : Vl} : ∀ {xs : List Val} {us : List Value}, Val.RepL H L xs us → (∀ c ∈ xs, c.isCell = true) → ∀ u ∈ us, u.oneCell' = true
  | [], us, h, _, u, hu => by unfold Val.RepL at h; subst h; simp at hu
  | x :: xs, us, h, ho, u, hu => by
    unfold Val.RepL at h
    obtain ⟨v, r, rfl, h1, h2⟩ := h
    rcases List.mem_cons.1 hu with rfl | hu
    · exact (Val.isCell_one h1 (ho x (by simp))).1
    · exact Val.RepL.one h2 (fun c hc => ho c (by simp [hc])) u hu
theorem repL_setR {H : Fz} {L : Vl} {cells vs : List Val} {us ws : List Value} (h : Val.RepL H L cells us) (h' : Val.RepL H L vs ws) {off : Nat} (hl : off + vs.length ≤ cells.length) : Val.RepL H L (setR cells off vs) (us.take off ++ ws ++ us.drop (off + ws.length)) := by
  rw [setR_eq _ _ _ hl, h'.len]
  exact Val.RepL.append (Val.RepL.drop _ h) (Val.RepL.append h' (Val.RepL.take _ h))
theorem set_cells {α : Type} (cs : List α) (off : Nat) (vs : List α) {P : α → Prop} (h : ∀ c ∈ cs, P c) (h' : ∀ c ∈ vs, P c) (hl : off + vs.length ≤ cs.length) : ∀ c ∈ setR cs off vs, P c := by
  rw [setR_eq _ _ _ hl]
  intro c hc
  simp only [List.mem_append] at hc
  rcases hc with (hc | hc) | hc
  · exact h c (List.mem_of_mem_take hc)
  · exact h' c hc
  · exact h c (List.mem_of_mem_drop hc)
theorem map_setR {α β : Type} (f : α → β) (cs : List α) (off : Nat) (vs : List α) (hl : off + vs.length ≤ cs.length) : (setR cs off vs).map f = setR (cs.map f) off (vs.map f) := by
  rw [setR_eq _ _ _ hl, setR_eq _ _ _ (by simpa using hl)]
  simp
/-- An element of a row is written. -/
theorem row_set {H : Fz} {L : Vl} {σ : St} {a : Act} {w : World} (r : Rel X H L σ a w) {t : Tok} {nl : Bool} {e : TypeId} {sz : Nat} {xs : List D} (hrow : σ.getT t = .row true nl e sz xs) {b n c : Nat} (hL : L t = some (.slice (some ⟨b, 0, none⟩) n c))
    {i : Nat} {old y : D} (hx : xs[i]? = some old) (hy : y.width = sz) {seg : List Value} {off : Nat} (hyr : ∀ us, D.Rep H old us → D.Rep H y (us.take off ++ seg ++ us.drop (off + seg.length))) (hoff : off + seg.length ≤ sz) (hone : ∀ u ∈ seg, u.oneCell' = true) :
    ∃ cur, w.heap[b]? = some (.cells cur e (0, 0)) ∧ i * sz + off + seg.length ≤ cur.size ∧
      Rel X H L (σ.putT t (.row true nl e sz (xs.set i y))) a (w.setRow b (cur.toList.take (i * sz + off) ++ seg ++ cur.toList.drop (i * sz + off + seg.length)).toArray) := by
  have he := r.ents t
  rw [hrow] at he
  obtain ⟨v0, cells, h1, h2, h3, h4, h5, h6⟩ := he
  rw [hL] at h1
  cases h1
  have hil : i < xs.length := (List.getElem?_eq_some_iff.1 hx).1
  rcases h2.2 with ⟨e0, _⟩ | ⟨g, cap, cur, e0, e1, e2, e3, e4, e5, e6⟩
  · simp at e0
  simp only [Value.slice.injEq, Option.some.injEq, Addr.mk.injEq, and_true, true_and] at e0
  obtain ⟨rfl, hn, rfl⟩ := e0
  have hle : (i + 1) * sz ≤ xs.length * sz := Nat.mul_le_mul_right _ hil
  have hcap : xs.length * sz ≤ c * sz := Nat.mul_le_mul_right _ e3
  have hsz : i * sz + off + seg.length ≤ cur.size := by rw [e5]; rw [Nat.add_mul] at hle; omega
  refine ⟨cur, e2, hsz, ?_⟩
  have hmb : mutBlk (σ.getT t) (L t) = some b := by rw [hrow, hL]; rfl
  refine r.write hmb (setRow_grown w b _) ⟨_, cells.take (i * sz + off) ++ seg ++ cells.drop (i * sz + off + seg.length), hL, ?_, ?_, ?_, h5, h6⟩ (by rw [hL]; rfl)
  · -- the row
    have hcl : cells.length = xs.length * sz := h2.1
    refine ⟨?_, .inr ⟨b, c, _, by rw [hn, List.length_set], e1, setRow_heap w b cur _ e _ e2, by simpa using e3, e4, ?_, ?_⟩⟩
    · simp only [List.length_append, List.length_take, List.length_drop, List.length_set]
      rw [Nat.add_mul] at hle
      omega
    · simp only [List.size_toArray, List.length_append, List.length_take, List.length_drop, Array.length_toList]
      omega
    · simp only [List.length_set]
      rw [← e6]
      rw [Nat.add_mul] at hle
      have hA : i * sz + off + seg.length ≤ xs.length * sz := by omega
      apply List.ext_getElem?
      intro j
      simp only [List.getElem?_take, List.getElem?_append, List.getElem?_drop, List.length_take, List.length_append, List.length_drop, Array.length_toList]
      by_cases hj : j < xs.length * sz
      · simp only [hj, if_true]
        by_cases hj1 : j < i * sz + off
        · simp [hj1, show j < min (i * sz + off) cur.size by omega, show j < min (i * sz + off) (min (xs.length * sz) cur.size) by omega, hj, show j < min (i * sz + off) cur.size + seg.length by omega, show j < min (i * sz + off) (min (xs.length * sz) cur.size) + seg.length by omega]
        · by_cases hj2 : j < i * sz + off + seg.length
          · have q1 : min (i * sz + off) cur.size = i * sz + off := by omega
            have q2 : min (i * sz + off) (min (xs.length * sz) cur.size) = i * sz + off := by omega
            simp [q1, q2, hj1, hj2]
          · have q1 : min (i * sz + off) cur.size = i * sz + off := by omega
            have q2 : min (i * sz + off) (min (xs.length * sz) cur.size) = i * sz + off := by omega
            have q3 : i * sz + off + seg.length + (j - (i * sz + off + seg.length)) = j := by omega
            simp [q1, q2, hj1, hj2, q3, hj]
      · have q1 : min (i * sz + off) cur.size = i * sz + off := by omega
        have q2 : min (i * sz + off) (min (xs.length * sz) cur.size) = i * sz + off := by omega
        have q3 : i * sz + off + seg.length + (j - (i * sz + off + seg.length)) = j := by omega
        simp [hj, q1, q2, q3, show ¬ j < i * sz + off by omega, show ¬ j < i * sz + off + seg.length by omega]
  · -- the elements
    have hsplit : xs.set i y = xs.take i ++ y :: xs.drop (i + 1) := by rw [List.set_eq_take_append_cons_drop, if_pos hil]
    have hxs : xs = xs.take i ++ old :: xs.drop (i + 1) := by
      have q := List.drop_eq_getElem_cons hil
      rw [(List.getElem?_eq_some_iff.1 hx).2] at q
      rw [← q, List.take_append_drop]
    rw [hsplit]
    rw [hxs] at h3
    obtain ⟨c1, c2, rfl, k1, k2⟩ := D.RepL.split h3
    unfold D.RepL at k2
    obtain ⟨c3, c4, rfl, k3, k4⟩ := k2
    have hc1 : c1.length = i * sz := by
      rw [D.RepL.len _ _ k1, D.widthL_const (sz := sz) (fun z hz => h4 z (List.mem_of_mem_take hz)), List.length_take, Nat.min_eq_left (Nat.le_of_lt hil)]
    have hc3 : c3.length = sz := by
      rw [D.Rep.len _ _ k3]
      exact h4 old (List.mem_of_getElem? hx)
    have q : (c1 ++ (c3 ++ c4)).take (i * sz + off) ++ seg ++ (c1 ++ (c3 ++ c4)).drop (i * sz + off + seg.length) = c1 ++ ((c3.take off ++ seg ++ c3.drop (off + seg.length)) ++ c4) := by
      rw [← hc1, List.take_length_add_append, Nat.add_assoc, List.drop_length_add_append, List.take_append_of_le_length (by omega), List.drop_append_of_le_length (by omega)]
      simp
    rw [q]
    refine D.RepL.append ?_ k1
    unfold D.RepL
    exact ⟨_, _, rfl, hyr c3 k3, k4⟩
  · intro z hz
    rcases List.mem_or_eq_of_mem_set hz with hz | rfl
    · exact h4 z hz
    · exact hy
theorem storeP_ok (k : Cxk X E) {o : Oper} {ty : TypeId} {p x : Operand} (ho : o.op = .store ty p x) : OpOk X C o (storeP E o ty p x) := by
  intro H L σ a w σ' r h K Q hK
  obtain ⟨pv, h1, h2⟩ := opnd_run k r h
  obtain ⟨v, h3, h4⟩ := opnd_run k r h1
  split at h3
  · exact (fail_run h3).elim
  rename_i td htd
  have hd := k.tab _ _ htd
  have fin : ∀ H1 L1 σ1 ad w1, a.eval p = .pointer (some ad) → (storeVar ty ad (a.eval x)).run X.P w = .ok () w1 → Rel X H1 L1 σ1 a w1 → (putD E o .und).run C σ1 = some σ' → o.wp X.P a w K Q := fun H1 L1 σ1 ad w1 he hr r1 hp => by
    have := putD_run k r1 (und_rep (H := H1) (L := L1)) hp
    have hex : (execOp a.eval o).run X.P w = .ok .skip w1 := by simp [execOp, ho, Instr.storeAt, he, Instr.sureAddr, hr]
    unfold Oper.wp
    rw [hex]
    exact hK _ _ _ _ this
  split at h3
  · rename_i t off
    unfold Val.Rep at h2
    obtain ⟨b, hL, e1⟩ := h2
    simp only [Prog.run] at h3
    split at h3
    · rename_i ty0 cells hen
      have he := r.ents t
      rw [hen] at he
      obtain ⟨b', cur, g1, g2, g3, g4, g5, g6⟩ := he
      rw [hL] at g1
      simp only [Option.some.injEq, Value.pointer.injEq, Addr.mk.injEq, and_true] at g1
      subst g1
      have hcur : cur.size = cells.length := by have := repL_len g3 g4; simpa using this
      have hmb : mutBlk (σ.getT t) (L t) = some b := by rw [hen, hL]; rfl
      split at h3
      · rename_i y
        unfold Val.Rep at h4
        have hz := h4.cells
        have hyw : (a.eval x).cells.size = y.width := by have := D.Rep.len _ _ hz.2.2; simpa using this
        have hone := D.Rep.one _ _ hz.2.2
        split at h3
        · rename_i hc
          obtain ⟨rfl, rfl, hagg⟩ := hc
          simp only [needs] at h3
          obtain ⟨q1, h3⟩ := need_run h3
          obtain ⟨q2, h3⟩ := need_run h3
          simp only [Prog.run, decide_eq_true_eq] at q1 h3
          have q2 : y.width = td.size := by simpa using q2
          have hst := run_storeVar hd (o := 0) g2 (hyw.trans q2) (by omega) hone
          have hnew : (cur.toList.take 0 ++ (a.eval x).cells.toList ++ cur.toList.drop (0 + (a.eval x).cells.size)).toArray = (a.eval x).cells := by
            rw [List.drop_of_length_le (by simp; omega)]
            simp
          rw [hnew] at hst
          refine fin H L _ _ _ e1 hst (r.write (e := .dbox ty y.cells) hmb (setRow_grown w b _) ⟨b, _, hL, setRow_heap w b cur _ ty _ g2, hz.1, hz.2.1, g5, g6⟩ (by rw [hL]; rfl)) h3
        · simp only [needs] at h3
          obtain ⟨q1, h3⟩ := need_run h3
          obtain ⟨q2, h3⟩ := need_run h3
          obtain ⟨q3, h3⟩ := need_run h3
          simp only [Prog.run, decide_eq_true_eq] at q2 q3 h3
          have q1 : y.width = td.size := by simpa using q1
          have hst := run_storeVar hd (o := off) g2 (hyw.trans q1) (by omega) hone
          have hrep := repL_setR (L := L) (g3.vals g4) (hz.1.vals hz.2.1) (off := off) (by simpa using q2)
          rw [← map_setR _ _ _ _ q2] at hrep
          have hag := set_cells cells off y.cells (P := fun c => c.isAgg = false) g4 hz.2.1 q2
          have hlen : (a.eval x).cells.toList.length = (a.eval x).cells.size := by simp
          rw [hlen] at hrep
          refine fin H L _ _ _ e1 hst (r.write (e := .dbox ty0 (setR cells off y.cells)) hmb (setRow_grown w b _) ⟨b, _, hL, setRow_heap w b cur _ ty0 _ g2, by simpa using Val.RepL.data hrep hag, hag, g5, g6⟩ (by rw [hL]; rfl)) h3
      · split at h3
        · rename_i vs hvs
          have hz := Val.cells_rep h4 hvs
          simp only [needs] at h3
          obtain ⟨q1, h3⟩ := need_run h3
          obtain ⟨q2, h3⟩ := need_run h3
          obtain ⟨q3, h3⟩ := need_run h3
          simp only [Prog.run, decide_eq_true_eq] at q1 q2 h3
          have hvl : (a.eval x).cells.size = vs.length := by have := hz.1.len; simpa using this
          have hst := run_storeVar hd (o := off) g2 (hvl.trans q1) (by omega) (Val.RepL.one hz.1 hz.2)
          have hrep := repL_setR (L := L) (g3.vals g4) hz.1 (off := off) (by simpa using q2)
          have hlen : (a.eval x).cells.toList.length = (a.eval x).cells.size := by simp
          rw [hlen] at hrep
          have hag := set_cells (cells.map Val.d) off vs (P := fun c => c.isCell = true) (fun c hc => by
            obtain ⟨y, hy, rfl⟩ := List.mem_map.1 hc
            simp [Val.isCell, g4 y hy]) hz.2 (by simpa using q2)
          refine fin H L _ _ _ e1 hst (r.write (e := .box ty0 (setR (cells.map Val.d) off vs)) hmb (setRow_grown w b _) ⟨b, _, hL, setRow_heap w b cur _ ty0 _ g2, by simpa using hrep, hag, g5, g6⟩ (by rw [hL]; rfl)) h3
        · exact (fail_run h3).elim
    · rename_i ty0 cells hen
      have he := r.ents t
      rw [hen] at he
      obtain ⟨b', cur, g1, g2, g3, g4, g5, g6⟩ := he
      rw [hL] at g1
      simp only [Option.some.injEq, Value.pointer.injEq, Addr.mk.injEq, and_true] at g1
      subst g1
      have hcur : cur.size = cells.length := by have := g3.len; simpa using this
      have hmb : mutBlk (σ.getT t) (L t) = some b := by rw [hen, hL]; rfl
      split at h3
      · rename_i vs hvs
        have hz := Val.cells_rep h4 hvs
        simp only [needs] at h3
        obtain ⟨q1, h3⟩ := need_run h3
        obtain ⟨q2, h3⟩ := need_run h3
        obtain ⟨q3, h3⟩ := need_run h3
        simp only [Prog.run, decide_eq_true_eq] at q1 q2 h3
        have hvl : (a.eval x).cells.size = vs.length := by have := hz.1.len; simpa using this
        have hst := run_storeVar hd (o := off) g2 (hvl.trans q1) (by omega) (Val.RepL.one hz.1 hz.2)
        have hrep := repL_setR (L := L) g3 hz.1 (off := off) q2
        have hlen : (a.eval x).cells.toList.length = (a.eval x).cells.size := by simp
        rw [hlen] at hrep
        have hag := set_cells cells off vs (P := fun c => c.isCell = true) g4 hz.2 q2
        refine fin H L _ _ _ e1 hst (r.write (e := .box ty0 (setR cells off vs)) hmb (setRow_grown w b _) ⟨b, _, hL, setRow_heap w b cur _ ty0 _ g2, by simpa using hrep, hag, g5, g6⟩ (by rw [hL]; rfl)) h3
      · exact (fail_run h3).elim
    · exact (fail_run h3).elim
  · rename_i t sz i off
    unfold Val.Rep at h2
    obtain ⟨b, n, c, hL, e1⟩ := h2
    obtain ⟨y, H1, σ1, h5, h6, r1, h7, _⟩ := freeze_run (H := H) v r h4 h3
    have hz := h7.cells
    have hyw : (a.eval x).cells.size = y.width := by have := D.Rep.len _ _ hz.2.2; simpa using this
    have hone := D.Rep.one _ _ hz.2.2
    simp only [Prog.run] at h5
    split at h5
    · rename_i nl e sz' xs hrow
      split at h5
      · rename_i hsz
        subst hsz
        obtain ⟨old, hx, h8⟩ := elem_run h5
        split at h8
        · rename_i hc
          obtain ⟨rfl, hts⟩ := hc
          simp only [needs] at h8
          obtain ⟨q1, h8⟩ := need_run h8
          simp only [Prog.run] at h8
          have q1 : y.width = sz := by simpa using q1
          have hlen : (a.eval x).cells.toList.length = sz := by rw [Array.length_toList, hyw, q1]
          obtain ⟨cur, k1, k2, k3⟩ := row_set r1 hrow hL hx q1 (seg := (a.eval x).cells.toList) (off := 0) (fun us hus => by
            have hul := D.Rep.len _ _ hus
            have ho : old.width = sz := by
              have he := r1.ents t
              rw [hrow] at he
              obtain ⟨_, _, _, _, _, hw, _⟩ := he
              exact hw old (List.mem_of_getElem? hx)
            rw [List.drop_of_length_le (by omega)]
            simpa using hz.2.2) (by omega) hone
          have hst := run_storeVar (v := a.eval x) hd (o := i * sz + 0) k1 (by omega) (by omega) hone
          rw [Array.length_toList] at k3
          exact fin _ _ _ _ _ e1 hst k3 h8
        · simp only [needs] at h8
          obtain ⟨q1, h8⟩ := need_run h8
          obtain ⟨q2, h8⟩ := need_run h8
          obtain ⟨q3, h8⟩ := need_run h8
          obtain ⟨q4, h8⟩ := need_run h8
          simp only [Prog.run, decide_eq_true_eq] at q2 q3 q4 h8
          have q1 : y.width = td.size := by simpa using q1
          have hlen : (a.eval x).cells.toList.length = td.size := by rw [Array.length_toList, hyw, q1]
          have holdc : ∀ us, D.Rep H1 old us → D.RepL H1 old.cells us ∧ ∀ c ∈ old.cells, c.isAgg = false := fun us hus => D.cells_Rep hus
          have hwid : (D.agg (setR old.cells off y.cells)).width = sz := by
            have he := r1.ents t
            rw [hrow] at he
            obtain ⟨us, j1, _⟩ := row_elem he hL hx
            have hag := set_cells old.cells off y.cells (P := fun c => c.isAgg = false) (holdc us j1).2 hz.2.1 q2
            have hw1 : D.widthL (setR old.cells off y.cells) = (setR old.cells off y.cells).length * 1 := D.widthL_const (fun z hzz => by
              have := hag z hzz
              cases z <;> first | rfl | simp [D.isAgg] at this)
            show D.widthL (setR old.cells off y.cells) = sz
            rw [hw1, setR_eq _ _ _ q2]
            simp only [List.length_append, List.length_take, List.length_drop]
            omega
          obtain ⟨cur, k1, k2, k3⟩ := row_set r1 hrow hL hx hwid (seg := (a.eval x).cells.toList) (off := off) (fun us hus => by
            have ho := holdc us hus
            have hag := set_cells old.cells off y.cells (P := fun c => c.isAgg = false) ho.2 hz.2.1 q2
            have hrep := repL_setR (L := L) (ho.1.vals ho.2) (hz.1.vals hz.2.1) (off := off) (by simpa using q2)
            rw [← map_setR _ _ _ _ q2] at hrep
            unfold D.Rep
            exact ⟨Val.RepL.data hrep hag, hag⟩) (by omega) hone
          have hst := run_storeVar (v := a.eval x) hd (o := i * sz + off) k1 (by omega) (by omega) hone
          rw [Array.length_toList] at k3
          exact fin _ _ _ _ _ e1 hst k3 h8
      · exact (fail_run h5).elim
    · exact (fail_run h5).elim
  · exact (fail_run h3).elim
end
end Go.Ab

/- The operations, one by one: what the evaluator tells is what the machine does. Eighth part: addresses, fields, elements, cuts. No condition. -/
set_option linter.unusedVariables false
set_option linter.unusedSimpArgs false
namespace Go.Ab
open Go

section
variable {X : Cx} {E : Ev} {C : Caller}

theorem D.repL_drop {H : Fz} {cs : List D} {us : List Value} (h : D.RepL H cs us) (ho : ∀ c ∈ cs, c.isAgg = false) (n : Nat) : D.RepL H (cs.drop n) (us.drop n) := by
  have h1 := (Val.RepL.drop n (h.vals (L := fun _ => none) ho))
  rw [← List.map_drop] at h1
  exact Val.RepL.data h1 (fun c hc => ho c (List.mem_of_mem_drop hc))
theorem Lies.drop {H : Fz} {ad : Addr} {cs : List Value} (h : Lies H ad cs) (n : Nat) : Lies H (ad.add n) (cs.drop n) := fun j u hj => by
  rw [Go.Deep.add_add]
  exact h _ _ (by rw [List.getElem?_drop] at hj; exact hj)

/-- An address, so many cells further. -/
def moveBy (v : Val) (n : Nat) : Option Val :=
  match v with
  | .ptr t off => some (.ptr t (off + n))
  | .eptr t sz i off => some (.eptr t sz i (off + n))
  | .dptr xs => some (.dptr (xs.drop n))
  | _ => none
theorem moveBy_rep {H : Fz} {L : Vl} {v v' : Val} {u : Value} {n : Nat} (h : v.Rep H L u) (hm : moveBy v n = some v') : ∃ ad, u = .pointer (some ad) ∧ v'.Rep H L (.pointer (some (ad.add n))) := by
  cases v <;> simp [moveBy] at hm <;> subst hm
  case ptr t off =>
    unfold Val.Rep at h ⊢
    obtain ⟨b, h1, rfl⟩ := h
    exact ⟨_, rfl, b, h1, by rw [add_off]⟩
  case eptr t sz i off =>
    unfold Val.Rep at h ⊢
    obtain ⟨b, m, c, h1, rfl⟩ := h
    exact ⟨_, rfl, b, m, c, h1, by rw [add_off, Nat.add_assoc]⟩
  case dptr xs =>
    unfold Val.Rep at h ⊢
    obtain ⟨ad, cs, rfl, h1, h2, h3⟩ := h
    exact ⟨_, rfl, ad.add n, cs.drop n, rfl, D.repL_drop h1 h3 n, h2.drop n, fun c hc => h3 c (List.mem_of_mem_drop hc)⟩

def fieldAddrP (E : Ev) (o : Oper) (s : TypeId) (x : Operand) (f : Nat) : Prog :=
  opnd E.T E.G o.type x fun v => match E.T.get s with
    | some { desc := .struct fs, .. } => match fs[f]? with
      | some fd => match E.T.get fd.type with
        | some _ => match moveBy v fd.offset with
          | some v' => putD E o v'
          | none => .fail
        | none => .fail
      | none => .fail
    | _ => .fail
theorem fieldAddrP_ok (k : Cxk X E) {o : Oper} {s : TypeId} {x : Operand} {f : Nat} (ho : o.op = .fieldAddr s x f) : OpOk X C o (fieldAddrP E o s x f) := by
  intro H L σ a w σ' r h K Q hK
  obtain ⟨v, h1, h2⟩ := opnd_run k r h
  split at h1
  · rename_i fs _ _ _ hs
    split at h1
    · rename_i fd hf
      split at h1
      · rename_i td htd
        split at h1
        · rename_i v' hv'
          obtain ⟨ad, e1, h3⟩ := moveBy_rep h2 hv'
          have hd := k.tab _ _ htd
          have hne : ¬ td.size = 0 := by have := hd.pos; omega
          refine wp_value (w1 := w) (v := .pointer (some (ad.add fd.offset))) ?_ (hK _ _ _ _ (putD_run k r h3 h1))
          simp [execOp, ho, Instr.fieldAt, run_underlying (k.tab _ _ hs).und, hf, e1, Instr.sureAddr, fieldPlace, hd.run_size, hne]
        · exact (fail_run h1).elim
      · exact (fail_run h1).elim
    · exact (fail_run h1).elim
  · exact (fail_run h1).elim

def indexAddrP (E : Ev) (o : Oper) (t : TypeId) (x i : Operand) : Prog :=
  opnd E.T E.G t x fun v => opnd E.T E.G o.type i fun iv => match iv with
    | .d (.int _ n) => match E.T.get t with
      | some { desc := .slice e, .. } => match E.T.get e with
        | some te => match v with
          | .d (.sl sz _ xs _) => needs [sz == te.size, decide (0 ≤ n)] (.elem (some (tagOf E.T e)) xs n.toNat fun y => putD E o (.dptr y.cells))
          | .ref tk l => .getT tk fun en => match en with
            | .row _ _ _ sz xs => needs [sz == te.size, decide (0 ≤ n)] (.elem (some .any) (takeL l xs) n.toNat fun _ => putD E o (.eptr tk sz n.toNat 0))
            | _ => .fail
          | _ => .fail
        | none => .fail
      | some { desc := .array len e, .. } => match E.T.get e with
        | some te => needs [decide (0 ≤ n), decide (n < len)] (match moveBy v (n.toNat * te.size) with
          | some v' => putD E o v'
          | none => .fail)
        | none => .fail
      | _ => .fail
    | _ => .fail
theorem indexAddrP_ok (k : Cxk X E) {o : Oper} {t : TypeId} {x i : Operand} (ho : o.op = .indexAddr t x i) : OpOk X C o (indexAddrP E o t x i) := by
  intro H L σ a w σ' r h K Q hK
  obtain ⟨v, h1, h2⟩ := opnd_run k r h
  obtain ⟨iv, h3, h4⟩ := opnd_run k r h1
  split at h3
  case h_2 => exact (fail_run h3).elim
  rename_i ki n
  have ei := repD_int h4
  split at h3
  · rename_i e _ _ _ _ ht
    split at h3
    case h_2 => exact (fail_run h3).elim
    rename_i te hte
    have hd := k.tab _ _ hte
    have hu := (k.tab _ _ ht).und
    have hex : ∀ ad m c, a.eval x = .slice (some ad) m c → 0 ≤ n → n < m → (execOp a.eval o).run X.P w = .ok (.value (.pointer (some (ad.add (n.toNat * te.size))))) w := fun ad m c he h0 hm => by
      simp [execOp, ho, Instr.indexAt, ei, asIntOf, run_underlying hu, he, h0, hm, hd.run_size]
    split at h3
    · rename_i sz nl xs ext
      simp only [needs] at h3
      obtain ⟨q1, h3⟩ := need_run h3
      obtain ⟨q2, h3⟩ := need_run h3
      simp only [decide_eq_true_eq] at q2
      have q1 : sz = te.size := by simpa using q1
      obtain ⟨y, hy, h5⟩ := elem_run h3
      unfold Val.Rep at h2
      simp only [D.RepV] at h2
      unfold D.Rep at h2
      have hlt := (List.getElem?_eq_some_iff.1 hy).1
      rcases h2 with ⟨_, rfl, _⟩ | ⟨_, ad, cap, c1, c2, e1, _, _, g1, g2, _, g3, _⟩
      · simp at hlt
      · obtain ⟨us, k1, k2, k3⟩ := g2.at g3 hy
        have hz := D.cells_Rep k1
        refine wp_value (w1 := w) (hex ad xs.length cap (by simpa using e1) q2 (by omega)) (hK _ _ _ _ (putD_run k r ?_ h5))
        unfold Val.Rep
        refine ⟨_, us, rfl, hz.1, fun j u hj => ?_, hz.2⟩
        rw [Go.Deep.add_add]
        subst q1
        refine g1 _ _ ?_
        have hj1 := k3 j u hj
        rw [List.getElem?_append_left (List.getElem?_eq_some_iff.1 hj1).1]
        exact hj1
    · rename_i tk l
      simp only [Prog.run] at h3
      split at h3
      case h_2 => exact (fail_run h3).elim
      rename_i m nl e' sz xs hrow
      simp only [needs] at h3
      obtain ⟨q1, h3⟩ := need_run h3
      obtain ⟨q2, h3⟩ := need_run h3
      simp only [decide_eq_true_eq] at q2
      have q1 : sz = te.size := by simpa using q1
      obtain ⟨y, hy, h5⟩ := elem_run h3
      have hlt := (List.getElem?_eq_some_iff.1 hy).1
      have he := r.ents tk
      rw [hrow] at he
      have hle := ref_le he h2
      obtain ⟨own, g1, g2, g3, g4, g5, g6⟩ := ref_val he h2
      obtain ⟨v0, cells, p1, p2, _⟩ := he
      rcases g1.2 with ⟨_, e1⟩ | ⟨b, cap, cur, e1, _⟩
      · omega
      · refine wp_value (w1 := w) (hex _ _ _ e1 q2 (by omega)) (hK _ _ _ _ (putD_run k r ?_ h5))
        have hb := g6 v0 p1
        rw [e1] at hb
        unfold Val.Rep
        rcases p2.2 with ⟨e0, _⟩ | ⟨b', cap', cur', e0, _⟩
        · rw [e0] at hb; simp [Value.ownBlock] at hb
        · rw [e0] at hb
          simp [Value.ownBlock] at hb
          subst hb
          refine ⟨b, _, _, by rw [p1, e0], ?_⟩
          rw [add_off]
          simp [q1]
    · exact (fail_run h3).elim
  · rename_i len e _ _ _ _ ht
    split at h3
    case h_2 => exact (fail_run h3).elim
    rename_i te hte
    have hd := k.tab _ _ hte
    have hu := (k.tab _ _ ht).und
    simp only [needs] at h3
    obtain ⟨q1, h3⟩ := need_run h3
    obtain ⟨q2, h3⟩ := need_run h3
    simp only [decide_eq_true_eq] at q1 q2
    split at h3
    · rename_i v' hv'
      obtain ⟨ad, e1, h5⟩ := moveBy_rep h2 hv'
      refine wp_value (w1 := w) (v := .pointer (some (ad.add (n.toNat * te.size)))) ?_ (hK _ _ _ _ (putD_run k r h5 h3))
      simp [execOp, ho, Instr.indexAt, ei, asIntOf, run_underlying hu, e1, q1, q2, hd.run_size, Instr.sureAddr]
    · exact (fail_run h3).elim
  · exact (fail_run h3).elim

/-! ### Fields and elements of values -/
theorem part_agg {P : Program} {w : World} {t : TypeId} {td : TD} (hd : TdOk P t td) (ha : isAggT td = true) (cs : Array Value) (off : Nat) : (part t cs off).run P w = .ok (.agg (cs.extract off (off + td.size))) w := by
  simp [part, hd.run_isAgg, ha, hd.run_size]
theorem part_one {P : Program} {w : World} {t : TypeId} {td : TD} (hd : TdOk P t td) (ha : isAggT td = false) {cs : Array Value} {off : Nat} {u : Value} (h : cs.toList[off]? = some u) : (part t cs off).run P w = .ok u w := by
  have h' : cs[off]? = some u := by simpa using h
  simp [part, hd.run_isAgg, ha, h']
theorem extract_list (cs : Array Value) (off n : Nat) : (cs.extract off (off + n)).toList = (cs.toList.drop off).take n := by
  rw [Array.toList_extract]
  simp [List.extract]
/-- A piece of a value. -/
def partP (E : Ev) (o : Oper) (td : TD) (v : Val) (off : Nat) : Prog :=
  match v with
  | .d (.agg cs) => if isAggT td then .need (decide (off + td.size ≤ cs.length)) (putD E o (.d (.agg ((cs.drop off).take td.size)))) else .elem none cs off fun x => putD E o (.d x)
  | .agg cs => if isAggT td then putD E o (mkAgg ((cs.drop off).take td.size)) else match cs[off]? with
    | some x => putD E o x
    | none => .fail
  | _ => .fail
theorem partP_run {H : Fz} {L : Vl} {σ σ' : St} {w : World} {o : Oper} {ty : TypeId} {td : TD} (hd : TdOk X.P ty td) {v : Val} {u : Value} (hv : v.Rep H L u) {off : Nat} (h : (partP E o td v off).run C σ = some σ') :
    ∃ x c cs, u = .agg cs ∧ (putD E o x).run C σ = some σ' ∧ x.Rep H L c ∧ (part ty cs off).run X.P w = .ok c w := by
  unfold partP at h
  split at h
  · rename_i cs
    unfold Val.Rep at hv
    obtain ⟨arr, rfl, h1⟩ := hv
    unfold D.Rep at h1
    by_cases ha : isAggT td = true
    · rw [if_pos ha] at h
      obtain ⟨g1, h2⟩ := need_run h
      refine ⟨_, _, arr, rfl, h2, ?_, part_agg hd ha arr off⟩
      unfold Val.Rep
      refine ⟨_, rfl, ?_⟩
      unfold D.Rep
      rw [extract_list]
      exact ⟨D.repL_sub h1.1 h1.2 off td.size, fun c hc => h1.2 c (List.mem_of_mem_drop (List.mem_of_mem_take hc))⟩
    · have ha : isAggT td = false := by simpa using ha
      rw [ha] at h
      obtain ⟨x, hx, h2⟩ := elem_run h
      obtain ⟨c, hc, h3⟩ := D.repL_one h1.1 h1.2 hx
      refine ⟨_, c, arr, rfl, h2, ?_, part_one hd ha hc⟩
      unfold Val.Rep
      exact D.repV_one h3 (h1.2 x (List.mem_of_getElem? hx))
  · rename_i cs
    unfold Val.Rep at hv
    obtain ⟨arr, rfl, h1, h2⟩ := hv
    by_cases ha : isAggT td = true
    · rw [if_pos ha] at h
      refine ⟨_, _, arr, rfl, h, ?_, part_agg hd ha arr off⟩
      have := mkAgg_rep (H := H) (L := L) (Val.RepL.take td.size (Val.RepL.drop off h1)) (fun c hc => h2 c (List.mem_of_mem_drop (List.mem_of_mem_take hc)))
      rw [← extract_list, Array.toArray_toList] at this
      exact this
    · have ha : isAggT td = false := by simpa using ha
      rw [ha] at h
      simp only [Bool.false_eq_true, if_false] at h
      split at h
      · rename_i x hx
        obtain ⟨c, hc, h3⟩ := h1.get hx
        exact ⟨x, c, arr, rfl, h, h3, part_one hd ha hc⟩
      · exact (fail_run h).elim
  · exact (fail_run h).elim

def fieldP (E : Ev) (o : Oper) (t : TypeId) (x : Operand) (f : Nat) : Prog :=
  opnd E.T E.G t x fun v => match E.T.get t with
    | some { desc := .struct fs, .. } => match fs[f]? with
      | some fd => match E.T.get fd.type with
        | some td => partP E o td v fd.offset
        | none => .fail
      | none => .fail
    | _ => .fail
theorem fieldP_ok (k : Cxk X E) {o : Oper} {t : TypeId} {x : Operand} {f : Nat} (ho : o.op = .field t x f) : OpOk X C o (fieldP E o t x f) := by
  intro H L σ a w σ' r h K Q hK
  obtain ⟨v, h1, h2⟩ := opnd_run k r h
  split at h1
  · rename_i fs _ _ _ hs
    split at h1
    · rename_i fd hf
      split at h1
      · rename_i td htd
        obtain ⟨y, c, cs, e1, h3, h4, h5⟩ := partP_run (w := w) (k.tab _ _ htd) h2 h1
        refine wp_value (w1 := w) (v := c) ?_ (hK _ _ _ _ (putD_run k r h4 h3))
        simp [execOp, ho, Instr.field, run_underlying (k.tab _ _ hs).und, hf, e1, asAgg, h5]
      · exact (fail_run h1).elim
    · exact (fail_run h1).elim
  · exact (fail_run h1).elim

/-- A byte of a string. -/
def byteAt (s : ByteArray) (i : Nat) : Int := match s[i]? with | some b => b.toNat | none => 0
def indexP (E : Ev) (o : Oper) (t : TypeId) (x i : Operand) : Prog :=
  opnd E.T E.G t x fun v => opnd E.T E.G o.type i fun iv => match iv with
    | .d (.int _ n) => match E.T.get t with
      | some { desc := .string, .. } => match v with
        | .d (.str s) => needs [decide (0 ≤ n), decide (n < s.size)] (putD E o (.d (.int .u8 (byteAt s n.toNat))))
        | _ => .fail
      | some { desc := .array len e, .. } => match E.T.get e with
        | some te => needs [decide (0 ≤ n), decide (n < len)] (partP E o te v (n.toNat * te.size))
        | none => .fail
      | _ => .fail
    | _ => .fail
theorem indexP_ok (k : Cxk X E) {o : Oper} {t : TypeId} {x i : Operand} (ho : o.op = .index t x i) : OpOk X C o (indexP E o t x i) := by
  intro H L σ a w σ' r h K Q hK
  obtain ⟨v, h1, h2⟩ := opnd_run k r h
  obtain ⟨iv, h3, h4⟩ := opnd_run k r h1
  split at h3
  case h_2 => exact (fail_run h3).elim
  rename_i ki n
  have ei := repD_int h4
  split at h3
  · rename_i _ _ _ _ ht
    split at h3
    case h_2 => exact (fail_run h3).elim
    rename_i s
    simp only [needs] at h3
    obtain ⟨q1, h3⟩ := need_run h3
    obtain ⟨q2, h3⟩ := need_run h3
    simp only [decide_eq_true_eq] at q1 q2
    have hlt : n.toNat < s.size := by omega
    refine wp_value (w1 := w) (v := .int .u8 (byteAt s n.toNat)) ?_ (hK _ _ _ _ (putD_run k r rep_int h3))
    simp [execOp, ho, Instr.index, ei, asIntOf, run_underlying (k.tab _ _ ht).und, repD_str h2, q1, byteAt, hlt]
  · rename_i len e _ _ _ _ ht
    split at h3
    case h_2 => exact (fail_run h3).elim
    rename_i te hte
    simp only [needs] at h3
    obtain ⟨q1, h3⟩ := need_run h3
    obtain ⟨q2, h3⟩ := need_run h3
    simp only [decide_eq_true_eq] at q1 q2
    obtain ⟨y, c, cs, e1, h5, h6, h7⟩ := partP_run (w := w) (k.tab _ _ hte) h2 h3
    refine wp_value (w1 := w) (v := c) ?_ (hK _ _ _ _ (putD_run k r h6 h5))
    simp [execOp, ho, Instr.index, ei, asIntOf, run_underlying (k.tab _ _ ht).und, e1, q1, q2, (k.tab _ _ hte).run_size, h7]
  · exact (fail_run h3).elim
end
end Go.Ab

/- The operations, one by one: what the evaluator tells is what the machine does. Ninth part: cuts, structs that are built, len, min, max, function values. No condition. -/
set_option linter.unusedVariables false
set_option linter.unusedSimpArgs false
namespace Go.Ab
open Go

section
variable {X : Cx} {E : Ev} {C : Caller}

def optP (E : Ev) (x : Option Operand) (k : Option Int → Prog) : Prog :=
  match x with
  | none => k none
  | some y => opnd E.T E.G 0 y fun v => match v with
    | .d (.int _ n) => k (some n)
    | _ => .fail
/-- A bound as the machine has it. -/
def OptIs (v : Option Value) (n : Option Int) : Prop := (v = none ∧ n = none) ∨ ∃ k z, v = some (.int k z) ∧ n = some z
theorem optP_run (k : Cxk X E) {H : Fz} {L : Vl} {σ σ' : St} {a : Act} {w : World} (r : Rel X H L σ a w) {x : Option Operand} {K : Option Int → Prog} (h : (optP E x K).run C σ = some σ') : ∃ n, (K n).run C σ = some σ' ∧ OptIs (x.map a.eval) n := by
  cases x with
  | none => exact ⟨none, h, .inl ⟨rfl, rfl⟩⟩
  | some y =>
    obtain ⟨v, h1, h2⟩ := opnd_run k r h
    split at h1
    · rename_i ki n
      exact ⟨some n, h1, .inr ⟨ki, n, by simp [repD_int h2], rfl⟩⟩
    · exact (fail_run h1).elim
/-- What is asked of a cut's bounds, of a slice of which so many cells are known. -/
def cutNeeds (lo hi mx : Option Int) (len cap : Nat) : List Bool :=
  (match lo with | some l => [decide (0 ≤ l), decide (l ≤ hi.getD len)] | none => match hi with | some h => [decide (0 ≤ h)] | none => []) ++
  (match hi with | some h => [decide (h ≤ mx.getD cap)] | none => []) ++
  (match mx with | some m => [decide (m ≤ cap), hi.isSome] | none => [])
theorem needs_run {ps : List Bool} {K : Prog} {σ σ' : St} (h : (needs ps K).run C σ = some σ') : (∀ p ∈ ps, p = true) ∧ K.run C σ = some σ' := by
  induction ps with
  | nil => exact ⟨by simp, h⟩
  | cons p ps ih =>
    obtain ⟨h1, h2⟩ := need_run h
    obtain ⟨h3, h4⟩ := ih h2
    refine ⟨fun q hq => ?_, h4⟩
    rcases List.mem_cons.1 hq with rfl | hq
    · exact h1
    · exact h3 q hq
theorem run_bounds {P : Program} {w : World} {lo hi mx : Option Value} {l h m : Option Int} (hl : OptIs lo l) (hh : OptIs hi h) (hm : OptIs mx m) {isSlice : Bool} {len cap kn : Nat} (hk : kn ≤ cap) (hlen : len ≤ cap) (hc : ∀ p ∈ cutNeeds l h m len kn, p = true) :
    (Instr.sliceBounds isSlice len cap lo hi mx).run P w = .ok ((l.getD 0).toNat, (h.getD len).toNat, (m.getD cap).toNat) w ∧ 0 ≤ l.getD 0 ∧ l.getD 0 ≤ h.getD len ∧ h.getD len ≤ m.getD cap ∧ m.getD cap ≤ cap ∧ (h.isSome = true → h.getD len ≤ m.getD kn) ∧ m.getD kn ≤ kn := by
  rcases hl with ⟨rfl, rfl⟩ | ⟨k1, zl, rfl, rfl⟩ <;> rcases hh with ⟨rfl, rfl⟩ | ⟨k2, zh, rfl, rfl⟩ <;> rcases hm with ⟨rfl, rfl⟩ | ⟨k3, zm, rfl, rfl⟩ <;> simp [cutNeeds] at hc ⊢
  · simp [Instr.sliceBounds, Int.toNat_natCast]; omega
  · simp [Instr.sliceBounds, run_sliceBound_if, show 0 ≤ zh ∧ zh ≤ (cap : Int) by omega]; omega
  · have e : (zm.toNat : Int) = zm := Int.toNat_of_nonneg (by omega)
    simp [Instr.sliceBounds, run_sliceBound_if, show 0 ≤ zm ∧ zm ≤ (cap : Int) by omega, e, show 0 ≤ zh ∧ zh ≤ zm by omega]; omega
  · simp [Instr.sliceBounds, run_sliceBound_if, show 0 ≤ zl ∧ zl ≤ (len : Int) by omega]; omega
  · have e : (zh.toNat : Int) = zh := Int.toNat_of_nonneg (by omega)
    simp [Instr.sliceBounds, run_sliceBound_if, show 0 ≤ zh ∧ zh ≤ (cap : Int) by omega, e, show 0 ≤ zl ∧ zl ≤ zh by omega]; omega
  · have e : (zm.toNat : Int) = zm := Int.toNat_of_nonneg (by omega)
    have e2 : (zh.toNat : Int) = zh := Int.toNat_of_nonneg (by omega)
    simp [Instr.sliceBounds, run_sliceBound_if, show 0 ≤ zm ∧ zm ≤ (cap : Int) by omega, e, e2, show 0 ≤ zh ∧ zh ≤ zm by omega, show 0 ≤ zl ∧ zl ≤ zh by omega]; omega

/-- A cut of data. -/
def cutD (xs ext : List D) (lo hi : Option Int) : List D :=
  let ys := match hi with | none => xs | some h => match ext with | [] => xs.take h.toNat | _ => (xs ++ ext).take h.toNat
  match lo with | none => ys | some l => ys.drop l.toNat
def cutDP (E : Ev) (o : Oper) (sz : Nat) (nl : Bool) (xs ext : List D) (lo hi mx : Option Int) : Prog :=
  needs (cutNeeds lo hi mx xs.length (xs.length + ext.length)) (putD E o (.d (.sl sz nl (cutD xs ext lo hi) [])))
/-- Slots that hold the end of a row of the call's own, to be cleared: entries of a function's cv at 7000000 + slot. -/
def tailM : List (Nat × Cv) → Nat → Bool
  | [], _ => false
  | (k, _) :: r, d => match Nat.beq k (7000000 + d) with
    | true => true
    | false => tailM r d
def tailW (cv : List (Nat × Cv)) (d : Option Nat) (l h m : Option Int) (l0 : Option Nat) : Option Int := match d with
  | none => none
  | some d => match tailM cv d with
    | false => none
    | true => match h, m, l0 with
      | none, none, none => l
      | _, _, _ => none
theorem tailW_some {cv : List (Nat × Cv)} {d : Option Nat} {l h m : Option Int} {l0 : Option Nat} {n : Int} (hw : tailW cv d l h m l0 = some n) : l = some n ∧ h = none ∧ m = none ∧ l0 = none := by
  unfold tailW at hw
  split at hw
  · cases hw
  · split at hw
    · cases hw
    · split at hw
      · exact ⟨hw, rfl, rfl, rfl⟩
      · cases hw
def sliceP (E : Ev) (o : Oper) (t : TypeId) (x : Operand) (lo hi mx : Option Operand) : Prog :=
  opnd E.T E.G t x fun v => optP E lo fun l => optP E hi fun h => optP E mx fun m => match E.T.get t with
    | some { desc := .string, .. } => match v with
      | .d (.str s) => if m.isSome then .fail else needs (cutNeeds l h none s.size s.size) (putD E o (.d (.str (s.extract (l.getD 0).toNat (h.getD s.size).toNat))))
      | _ => .fail
    | some { desc := .slice e, .. } => match E.T.get e with
      | some te => match v with
        | .d (.sl sz nl xs ext) => if sz = te.size then cutDP E o sz nl xs ext l h m else .fail
        | .ref tk l0 => .getT tk fun en => match en with
          | .row _ _ _ sz xs => if sz = te.size then (match l, h, m with
              | none, none, none => putD E o v
              | none, some n, none => needs [decide (0 ≤ n), decide (n ≤ xs.length)] (putD E o (.ref tk (some n.toNat)))
              | _, _, _ => match tailW E.cv o.dst l h m l0 with
                | some n => needs [decide (0 ≤ n), decide (n ≤ xs.length)] (putD E o (.tail tk sz n.toNat))
                | none => freeze v fun y => match y with
                  | .sl sz nl xs ext => if sz = te.size then cutDP E o sz nl xs ext l h m else .fail
                  | _ => .fail) else .fail
          | _ => .fail
        | _ => .fail
      | none => .fail
    | _ => .fail
theorem lies_cut {H : Fz} {ad : Addr} {cs : List Value} (h : Lies H ad cs) (i n : Nat) : Lies H (ad.add i) ((cs.drop i).take n) := fun j u hj => by
  refine (h.drop i) j u ?_
  rw [List.getElem?_take] at hj
  by_cases hn : j < n
  · rwa [if_pos hn] at hj
  · rw [if_neg hn] at hj; cases hj
theorem cutD_eq (xs ext : List D) (l h : Option Int) : cutD xs ext l h = ((xs ++ ext).take (h.getD xs.length).toNat).drop (l.getD 0).toNat := by
  cases l <;> cases h <;> cases ext <;> simp [cutD]
/-- A cut of data is data. -/
theorem cutD_rep {H : Fz} {sz : Nat} {nl : Bool} {xs ext : List D} {A : Option Addr} {n c : Nat} (hr : D.Rep H (.sl sz nl xs ext) [.slice A n c]) {l h m : Option Int} (h0 : 0 ≤ l.getD 0) (h1 : l.getD 0 ≤ h.getD xs.length) (h2 : h.getD xs.length ≤ m.getD c) (h3 : m.getD c ≤ c) (h4 : h.isSome = true → h.getD xs.length ≤ ((xs.length + ext.length : Nat) : Int)) :
    n = xs.length ∧ D.Rep H (.sl sz nl (cutD xs ext l h) []) [.slice (if (m.getD c).toNat = (l.getD 0).toNat then A else A.map (·.add ((l.getD 0).toNat * sz))) ((h.getD xs.length).toNat - (l.getD 0).toNat) ((m.getD c).toNat - (l.getD 0).toNat)] := by
  rw [cutD_eq]
  unfold D.Rep at hr
  rcases hr with ⟨rfl, rfl, rfl, e1⟩ | ⟨rfl, ad, cap, c1, c2, e1, g1, g2, g3, g4, g5, g6, g7⟩
  · simp at e1
    obtain ⟨rfl, rfl, rfl⟩ := e1
    refine ⟨rfl, ?_⟩
    unfold D.Rep
    refine .inl ⟨rfl, by simp, rfl, ?_⟩
    have hh : (h.getD 0).toNat = 0 := by simp at h2 h3; omega
    have hm : (m.getD 0).toNat = 0 := by simp at h3; omega
    simp [hh, hm]
  · simp at e1
    obtain ⟨rfl, rfl, rfl⟩ := e1
    refine ⟨rfl, ?_⟩
    have hlen : (h.getD xs.length).toNat ≤ (xs ++ ext).length := by
      rw [List.length_append]
      cases h with
      | none => simp
      | some z => have := h4 rfl; simp at this ⊢; omega
    have hw : ∀ x ∈ ((xs ++ ext).take (h.getD xs.length).toNat).drop (l.getD 0).toNat, x.width = sz := fun x hx => by
      rcases List.mem_append.1 (List.mem_of_mem_take (List.mem_of_mem_drop hx)) with hx | hx
      · exact g6 x hx
      · exact g7 x hx
    have hwa : ∀ x ∈ xs ++ ext, x.width = sz := fun x hx => by
      rcases List.mem_append.1 hx with hx | hx
      · exact g6 x hx
      · exact g7 x hx
    -- the cells
    have hall : D.RepL H (xs ++ ext) (c1 ++ c2) := D.RepL.append g5 g4
    have hcl : (c1 ++ c2).length = (xs ++ ext).length * sz := by rw [D.RepL.len _ _ hall, D.widthL_const hwa]
    have hsub : D.RepL H (((xs ++ ext).take (h.getD xs.length).toNat).drop (l.getD 0).toNat) (((c1 ++ c2).drop ((l.getD 0).toNat * sz)).take (((h.getD xs.length).toNat - (l.getD 0).toNat) * sz)) := by
      have q : xs ++ ext = (xs ++ ext).take (l.getD 0).toNat ++ (((xs ++ ext).take (h.getD xs.length).toNat).drop (l.getD 0).toNat ++ (xs ++ ext).drop (h.getD xs.length).toNat) := by
        have : (l.getD 0).toNat ≤ (h.getD xs.length).toNat := by omega
        conv => lhs; rw [← List.take_append_drop (h.getD xs.length).toNat (xs ++ ext)]
        conv => lhs; lhs; rw [← List.take_append_drop (l.getD 0).toNat ((xs ++ ext).take (h.getD xs.length).toNat)]
        rw [List.take_take, Nat.min_eq_left this, List.append_assoc]
      rw [q] at hall
      obtain ⟨p1, p2, e2, k1, k2⟩ := D.RepL.split hall
      obtain ⟨p3, p4, e3, k3, k4⟩ := D.RepL.split k2
      rw [e2, e3]
      have hp1 : p1.length = (l.getD 0).toNat * sz := by
        rw [D.RepL.len _ _ k1, D.widthL_const (sz := sz) (fun x hx => hwa x (List.mem_of_mem_take hx)), List.length_take, Nat.min_eq_left (by omega)]
      have hp3 : p3.length = ((h.getD xs.length).toNat - (l.getD 0).toNat) * sz := by
        rw [D.RepL.len _ _ k3, D.widthL_const hw, List.length_drop, List.length_take, Nat.min_eq_left hlen]
      rw [← hp1, List.drop_left, ← hp3, List.take_left]
      exact k3
    have hxl : (((xs ++ ext).take (h.getD xs.length).toNat).drop (l.getD 0).toNat).length = (h.getD xs.length).toNat - (l.getD 0).toNat := by
      rw [List.length_drop, List.length_take, Nat.min_eq_left hlen]
    unfold D.Rep
    by_cases hml : (m.getD c).toNat = (l.getD 0).toNat
    · rw [if_pos hml]
      have hz : (h.getD xs.length).toNat - (l.getD 0).toNat = 0 := by omega
      have hnil : ((xs ++ ext).take (h.getD xs.length).toNat).drop (l.getD 0).toNat = [] := List.eq_nil_of_length_eq_zero (by rw [hxl, hz])
      rw [hnil]
      refine .inr ⟨rfl, ad, _, [], [], by rw [hz]; rfl, by simp, by omega, by simp [Lies], by unfold D.RepL; rfl, by unfold D.RepL; rfl, by simp, by simp⟩
    · rw [if_neg hml]
      refine .inr ⟨rfl, ad.add ((l.getD 0).toNat * sz), _, _, [], by rw [hxl]; rfl, by rw [hxl]; simp; omega, by omega, ?_, hsub, by unfold D.RepL; rfl, hw, by simp⟩
      rw [List.append_nil]
      exact lies_cut g3 _ _
theorem run_slice_at {P : Program} {w : World} {t e : TypeId} {te : TD} (hu : P.underlying t = some (.slice e)) (hd : TdOk P e te) {A : Option Addr} {n c L Hh M : Nat} {lo hi mx : Option Value} (hb : (Instr.sliceBounds true n c lo hi mx).run P w = .ok (L, Hh, M) w) :
    (Instr.sliceAt t (.slice A n c) lo hi mx).run P w = .ok (.slice (if M = L then A else A.map (·.add (L * te.size))) (Hh - L) (M - L)) w := by
  simp [Instr.sliceAt, Instr.slice, run_underlying hu, hb, hd.run_size]
theorem cutDP_run (k : Cxk X E) {H : Fz} {L : Vl} {σ σ' : St} {a : Act} {w : World} (r : Rel X H L σ a w) {o : Oper} {t e : TypeId} {te : TD} (hu : X.P.underlying t = some (.slice e)) (hd : TdOk X.P e te) {nl : Bool} {xs ext : List D} {u : Value} (hr : D.Rep H (.sl te.size nl xs ext) [u])
    {lo hi mx : Option Value} {l h m : Option Int} (hl : OptIs lo l) (hh : OptIs hi h) (hm : OptIs mx m) (hrun : (cutDP E o te.size nl xs ext l h m).run C σ = some σ') :
    ∃ v', (Instr.sliceAt t u lo hi mx).run X.P w = .ok v' w ∧ Rel X H L σ' (a.put o.dst v') w := by
  obtain ⟨h1, h2⟩ := needs_run hrun
  obtain ⟨A, n, c, rfl⟩ : ∃ A n c, u = .slice A n c := by
    have hr' := hr
    unfold D.Rep at hr'
    rcases hr' with ⟨_, _, _, e1⟩ | ⟨_, _, _, _, _, e1, _⟩
    · exact ⟨none, 0, 0, by simpa using e1⟩
    · exact ⟨_, _, _, by simpa using e1⟩
  have hlc : n = xs.length ∧ xs.length + ext.length ≤ c := by
    have hr' := hr
    unfold D.Rep at hr'
    rcases hr' with ⟨_, rfl, rfl, e1⟩ | ⟨_, _, _, _, _, e1, g1, _⟩
    · simp at e1; simp [e1]
    · simp at e1; obtain ⟨_, rfl, rfl⟩ := e1; exact ⟨rfl, g1⟩
  obtain ⟨rfl, hlc⟩ := hlc
  obtain ⟨b1, b2, b3, b4, b5, b6, b7⟩ := run_bounds (P := X.P) (w := w) hl hh hm (isSlice := true) (len := xs.length) (cap := c) (kn := xs.length + ext.length) hlc (by omega) h1
  obtain ⟨_, hrep⟩ := cutD_rep hr b2 b3 b4 b5 (fun hs => by have := b6 hs; omega)
  exact ⟨_, run_slice_at hu hd b1, putD_run k r (by unfold Val.Rep; exact hrep) h2⟩
theorem sliceP_ok (k : Cxk X E) {o : Oper} {t : TypeId} {x : Operand} {lo hi mx : Option Operand} (ho : o.op = .slice t x lo hi mx) : OpOk X C o (sliceP E o t x lo hi mx) := by
  intro H L σ a w σ' r h K Q hK
  obtain ⟨v, h1, h2⟩ := opnd_run k r h
  obtain ⟨l, h3, hl⟩ := optP_run k r h1
  obtain ⟨hh, h4, hhi⟩ := optP_run k r h3
  obtain ⟨m, h5, hm⟩ := optP_run k r h4
  have fin : ∀ H1 L1 u, (Instr.sliceAt t (a.eval x) (lo.map a.eval) (hi.map a.eval) (mx.map a.eval)).run X.P w = .ok u w → Rel X H1 L1 σ' (a.put o.dst u) w → o.wp X.P a w K Q := fun H1 L1 u hr r1 =>
    wp_value (w1 := w) (v := u) (by simp [execOp, ho, hr]) (hK _ _ _ _ r1)
  split at h5
  · rename_i _ _ _ _ ht
    split at h5
    case h_2 => exact (fail_run h5).elim
    rename_i s
    split at h5
    · exact (fail_run h5).elim
    rename_i hms
    obtain ⟨q1, q2⟩ := needs_run h5
    have hm' : OptIs (mx.map a.eval) none := by
      rcases hm with ⟨e1, rfl⟩ | ⟨_, _, _, rfl⟩
      · exact .inl ⟨e1, rfl⟩
      · simp at hms
    obtain ⟨b1, _⟩ := run_bounds (P := X.P) (w := w) hl hhi hm' (isSlice := false) (len := s.size) (cap := s.size) (kn := s.size) (Nat.le_refl _) (Nat.le_refl _) q1
    have hmx : (mx.map a.eval).isSome = false := by
      rcases hm' with ⟨e1, _⟩ | ⟨_, _, _, h⟩
      · rw [e1]; rfl
      · cases h
    have hmx' : mx.map a.eval = none := by simpa using hmx
    rw [hmx'] at b1
    refine fin H L (.string (s.extract (l.getD 0).toNat (hh.getD s.size).toNat)) ?_ (putD_run k r rep_str q2)
    rw [hmx', repD_str h2]
    simp [Instr.sliceAt, Instr.slice, run_underlying (k.tab _ _ ht).und, b1]
  · rename_i e _ _ _ _ ht
    split at h5
    case h_2 => exact (fail_run h5).elim
    rename_i te hte
    have hu := (k.tab _ _ ht).und
    have hd := k.tab _ _ hte
    split at h5
    · rename_i sz nl xs ext
      split at h5
      case isFalse => exact (fail_run h5).elim
      rename_i hsz
      subst hsz
      unfold Val.Rep at h2
      obtain ⟨v', g1, g2⟩ := cutDP_run k r hu hd h2 hl hhi hm h5
      exact fin H L v' g1 g2
    · rename_i tk l0
      simp only [Prog.run] at h5
      split at h5
      case h_2 => exact (fail_run h5).elim
      rename_i mt nl e' sz xs hrow
      split at h5
      case isFalse => exact (fail_run h5).elim
      rename_i hsz
      have he := r.ents tk
      rw [hrow] at he
      split at h5
      · -- all of it
        have e1 : lo.map a.eval = none := by rcases hl with ⟨e1, _⟩ | ⟨_, _, _, e1⟩; exact e1; cases e1
        have e2 : hi.map a.eval = none := by rcases hhi with ⟨e1, _⟩ | ⟨_, _, _, e1⟩; exact e1; cases e1
        have e3 : mx.map a.eval = none := by rcases hm with ⟨e1, _⟩ | ⟨_, _, _, e1⟩; exact e1; cases e1
        obtain ⟨A, n, c, hv⟩ : ∃ A n c, a.eval x = .slice A n c := by
          obtain ⟨_, g1, _⟩ := ref_val he h2
          rcases g1.2 with ⟨e0, _⟩ | ⟨_, _, _, e0, _⟩ <;> exact ⟨_, _, _, e0⟩
        refine fin H L (a.eval x) ?_ (putD_run k r h2 h5)
        rw [e1, e2, e3, hv]
        simp [Instr.sliceAt, Instr.slice, run_underlying hu, Instr.sliceBounds, hd.run_size]
        cases A <;> simp [Addr.add]
      · -- made shorter
        rename_i n
        obtain ⟨q1, q2⟩ := needs_run h5
        have p1 : 0 ≤ n := by simpa using q1 _ (List.mem_cons_self)
        have p2 : n ≤ xs.length := by simpa using q1 _ (List.mem_cons_of_mem _ (List.mem_cons_self))
        have e1 : lo.map a.eval = none := by rcases hl with ⟨e1, _⟩ | ⟨_, _, _, e1⟩; exact e1; cases e1
        have e3 : mx.map a.eval = none := by rcases hm with ⟨e1, _⟩ | ⟨_, _, _, e1⟩; exact e1; cases e1
        obtain ⟨ki, hk⟩ : ∃ ki, hi.map a.eval = some (.int ki n) := by
          rcases hhi with ⟨_, e2⟩ | ⟨ki, z, e2, e4⟩
          · cases e2
          · cases e4; exact ⟨ki, e2⟩
        obtain ⟨_, g1, _⟩ := ref_val he h2
        obtain ⟨v0, cells, p3, p4, _⟩ := he
        have hcap : ∃ A m c, L tk = some (.slice A xs.length c) ∧ a.eval x = .slice A m c ∧ xs.length ≤ c := by
          have hc0 : ∃ A c, v0 = .slice A xs.length c ∧ xs.length ≤ c := by
            rcases p4.2 with ⟨e0, e4⟩ | ⟨_, _, _, e0, _, _, e4, _⟩
            · exact ⟨none, 0, by rw [e0, e4], by omega⟩
            · exact ⟨_, _, e0, e4⟩
          obtain ⟨A, c, e0, e4⟩ := hc0
          cases l0 with
          | none =>
            unfold Val.Rep at h2
            rw [p3] at h2
            obtain ⟨h2, _⟩ := h2
            cases h2
            exact ⟨A, _, c, by rw [p3, e0], e0, e4⟩
          | some n0 =>
            unfold Val.Rep at h2
            obtain ⟨A', n', c', j1, j2, _⟩ := h2
            rw [p3, e0] at j1
            cases j1
            exact ⟨A, n0, c, by rw [p3, e0], j2, e4⟩
        obtain ⟨A, m', c, j1, j2, j3⟩ := hcap
        have hn : n.toNat ≤ xs.length := by omega
        refine fin H L (.slice A n.toNat c) ?_ (putD_run k r (by unfold Val.Rep; exact ⟨A, _, c, j1, rfl, hn⟩) q2)
        rw [e1, e3, hk, j2]
        have hnc : n ≤ (c : Int) := by omega
        simp [Instr.sliceAt, Instr.slice, run_underlying hu, Instr.sliceBounds, run_sliceBound_if, p1, hnc, hd.run_size]
        cases A <;> simp [Addr.add]
      · -- azs data
        split at h5
        · -- its end, to be cleared
          rename_i n htw
          obtain ⟨rfl, rfl, rfl, rfl⟩ := tailW_some htw
          obtain ⟨q1, q2⟩ := needs_run h5
          have p1 : 0 ≤ n := by simpa using q1 _ (List.mem_cons_self)
          have p2 : n ≤ xs.length := by simpa using q1 _ (List.mem_cons_of_mem _ (List.mem_cons_self))
          have e2 : hi.map a.eval = none := by rcases hhi with ⟨e1, _⟩ | ⟨_, _, _, e1⟩; exact e1; cases e1
          have e3 : mx.map a.eval = none := by rcases hm with ⟨e1, _⟩ | ⟨_, _, _, e1⟩; exact e1; cases e1
          obtain ⟨ki, hk⟩ : ∃ ki, lo.map a.eval = some (.int ki n) := by
            rcases hl with ⟨_, e2⟩ | ⟨ki, z, e2, e4⟩
            · cases e2
            · cases e4; exact ⟨ki, e2⟩
          obtain ⟨v0, cells, p3, p4, _⟩ := he
          unfold Val.Rep at h2
          obtain ⟨h2, _⟩ := h2
          rw [p3] at h2
          simp only [Option.some.injEq] at h2
          rcases p4.2 with ⟨e0, e4⟩ | ⟨b, cap, cur, e0, _, _, e4, _⟩
          · refine fin H L (.slice none 0 0) ?_ (putD_run k r (by
              unfold Val.Rep
              refine ⟨none, 0, 0, none, by rw [p3, e0], by omega, by simp, by omega⟩) q2)
            rw [e2, e3, hk, ← h2, e0]
            have hn0 : n = 0 := by omega
            subst hn0
            simp [Instr.sliceAt, Instr.slice, run_underlying hu, Instr.sliceBounds, run_sliceBound_if, hd.run_size]
          · have hnx : n ≤ (xs.length : Int) := p2
            have hnc : n ≤ (cap : Int) := by omega
            refine fin H L (.slice (if cap = n.toNat then some ⟨b, 0, none⟩ else some ⟨b, n.toNat * sz, none⟩) (xs.length - n.toNat) (cap - n.toNat)) ?_ (putD_run k r (by
              unfold Val.Rep
              refine ⟨some ⟨b, 0, none⟩, xs.length, cap, _, by rw [p3, e0], by omega, rfl, fun hlt => ⟨b, rfl, by rw [if_neg (by omega)]⟩⟩) q2)
            rw [e2, e3, hk, ← h2, e0]
            simp [Instr.sliceAt, Instr.slice, run_underlying hu, Instr.sliceBounds, run_sliceBound_if, p1, hnx, hnc, hd.run_size, hsz, Addr.add]
            split
            · rfl
            · split
              · rename_i h0; rw [h0]
              · rfl
        obtain ⟨y, H1, σ1, g1, g2, g3, g4, _⟩ := freeze_run (H := H) _ r h2 h5
        split at g1
        · split at g1
          case isFalse => exact (fail_run g1).elim
          rename_i hs2
          subst hs2
          obtain ⟨v', j1, j2⟩ := cutDP_run k g3 hu hd g4 hl hhi hm g1
          exact fin H1 L v' j1 j2
        · exact (fail_run g1).elim
    · exact (fail_run h5).elim
  · exact (fail_run h5).elim
end
end Go.Ab

/- The operations, one by one: what the evaluator tells is what the machine does. Tenth part: structs that are built, len, min, max, function values. No condition. -/
set_option linter.unusedVariables false
set_option linter.unusedSimpArgs false
namespace Go.Ab
open Go

section
variable {X : Cx} {E : Ev} {C : Caller}

def placesT (T : Tab) : List Field → Option (List (Nat × Nat))
  | [] => some []
  | f :: fs => match T.get f.type, placesT T fs with
    | some td, some r => some ((f.offset, td.size) :: r)
    | _, _ => none
theorem placesT_run {T : Tab} {P : Program} (h : TabOk P T) : ∀ {fs : List Field} {ps : List (Nat × Nat)}, placesT T fs = some ps → fs.mapM (fun f => (P.info? f.type).map fun i => (f.offset, i.size)) = some ps
  | [], ps, hp => by simp [placesT] at hp; subst hp; rfl
  | f :: fs, ps, hp => by
    unfold placesT at hp
    split at hp
    · rename_i td r h1 h2
      simp only [Option.some.injEq] at hp
      subst hp
      obtain ⟨i, hi, hs, _⟩ := (h _ _ h1).info
      have := placesT_run h h2
      simp [List.mapM_cons, hi, hs, this]
    · cases hp
def placeT (T : Tab) (td : TD) : Option (Nat → Option (Nat × Nat)) :=
  match td.desc with
  | .struct fs => (placesT T fs.toList).map fun ps i => ps[i]?
  | .array _ e => (T.get e).map fun te i => some (i * te.size, te.size)
  | _ => none
/-- The type of a part. -/
def partT (td : TD) (i : Nat) : TypeId :=
  match td.desc with
  | .struct fs => match fs[i]? with | some f => f.type | none => 0
  | .array _ e => e
  | _ => 0
def buildP (E : Ev) (o : Oper) (t : TypeId) (parts : Array (Nat × Operand)) : Prog :=
  match E.T.get t with
  | some td => match placeT E.T td with
    | some place => opnds E.T E.G (parts.toList.map fun p => (partT td p.1, p.2)) fun vs =>
        match fillV place (td.zero.cells.map .d) ((parts.toList.map (·.1)).zip vs) with
        | some cells => if isAggT td then putD E o (mkAgg cells) else .fail
        | none => .fail
    | none => .fail
  | none => .fail
theorem fill_step (off : Nat) (cs cur : Array Value) (h : off + cs.size ≤ cur.size) : cs.zipIdx.foldl (fun acc (c, j) => acc.setIfInBounds (off + j) c) cur = (cur.toList.take off ++ cs.toList ++ cur.toList.drop (off + cs.size)).toArray := by
  obtain ⟨h1, h2⟩ := Go.Great.foldl_set off cs.toList 0 cur
  have e : cs.zipIdx.foldl (fun acc (c, j) => acc.setIfInBounds (off + j) c) cur = (cs.toList.zipIdx 0).foldl (fun cs (x : Value × Nat) => cs.setIfInBounds (off + x.2) x.1) cur := by
    rw [← Array.foldl_toList, Array.toList_zipIdx]
  rw [e]
  apply Array.ext_getElem?
  intro k
  rw [h2 k]
  simp only [Nat.add_zero, Array.length_toList, List.getElem?_toArray]
  by_cases hk : off ≤ k ∧ k < off + cs.size ∧ k < cur.size
  · rw [if_pos hk, List.append_assoc, List.getElem?_append_right (by simp; omega), List.getElem?_append_left (by simp; omega)]
    simp only [List.length_take, Array.length_toList]
    rw [Nat.min_eq_left (by omega)]
  · rw [if_neg hk]
    by_cases hlt : k < off
    · rw [List.append_assoc, List.getElem?_append_left (by simp; omega), List.getElem?_take, if_pos hlt]
      simp
    · rw [List.append_assoc, List.getElem?_append_right (by simp; omega), List.getElem?_append_right (by simp; omega)]
      simp only [List.getElem?_drop, List.length_take, Array.length_toList]
      rw [Nat.min_eq_left (by omega), show off + cs.size + (k - off - cs.size) = k by omega]
      simp
theorem fillV_run {H : Fz} {L : Vl} {place : Nat → Option (Nat × Nat)} : ∀ {ps : List (Nat × Val)} {us : List (Nat × Value)} {cells r : List Val} {cur : Array Value}, ps.map (·.1) = us.map (·.1) → Val.RepL H L (ps.map (·.2)) (us.map (·.2)) → Val.RepL H L cells cur.toList → (∀ c ∈ cells, c.isCell = true) → fillV place cells ps = some r →
    ∃ cur', Instr.fill place cur us = some cur' ∧ Val.RepL H L r cur'.toList ∧ ∀ c ∈ r, c.isCell = true
  | [], us, cells, r, cur, hi, hv, hr, hc, h => by
    simp [fillV] at h
    subst h
    have : us = [] := by cases us with | nil => rfl | cons u us => simp at hi
    subst this
    exact ⟨cur, rfl, hr, hc⟩
  | (i, v) :: ps, us, cells, r, cur, hi, hv, hr, hc, h => by
    cases us with
    | nil => simp at hi
    | cons iu us =>
      obtain ⟨i', u⟩ := iu
      simp only [List.map_cons, List.cons.injEq] at hi
      obtain ⟨rfl, hi⟩ := hi
      simp only [List.map_cons] at hv
      unfold Val.RepL at hv
      obtain ⟨u', us', he, h1, h2⟩ := hv
      simp only [List.cons.injEq] at he
      obtain ⟨rfl, rfl⟩ := he
      unfold fillV at h
      split at h
      · rename_i off n vs hp hvs
        split at h
        · rename_i hcond
          obtain ⟨hn, hle⟩ := hcond
          have hz := Val.cells_rep h1 hvs
          have hul : u.cells.size = n := by have := hz.1.len; simp at this; omega
          have hcl : cur.size = cells.length := by have := hr.len; simpa using this
          have hrep := Val.RepL.append (Val.RepL.drop (off + n) hr) (Val.RepL.append hz.1 (Val.RepL.take off hr))
          have hag : ∀ c ∈ cells.take off ++ vs ++ cells.drop (off + n), c.isCell = true := fun c hc' => by
            simp only [List.mem_append] at hc'
            rcases hc' with (hc' | hc') | hc'
            · exact hc c (List.mem_of_mem_take hc')
            · exact hz.2 c hc'
            · exact hc c (List.mem_of_mem_drop hc')
          have hst := fill_step off u.cells cur (by omega)
          rw [hul] at hst
          obtain ⟨cur', k1, k2, k3⟩ := fillV_run (cur := (cur.toList.take off ++ u.cells.toList ++ cur.toList.drop (off + n)).toArray) hi h2 (by simpa using hrep) hag h
          refine ⟨cur', ?_, k2, k3⟩
          unfold Instr.fill
          simp only [hp, hul]
          rw [if_neg (by simp; omega), hst]
          exact k1
        · cases h
      · cases h
theorem buildP_ok (k : Cxk X E) {o : Oper} {t : TypeId} {parts : Array (Nat × Operand)} (ho : o.op = .build t parts) : OpOk X C o (buildP E o t parts) := by
  intro H L σ a w σ' r h K Q hK
  unfold buildP at h
  split at h
  case h_2 => exact (fail_run h).elim
  rename_i td htd
  have hd := k.tab _ _ htd
  split at h
  case h_2 => exact (fail_run h).elim
  rename_i place hpl
  obtain ⟨vs, h1, h2⟩ := opnds_run k r _ h
  split at h1
  case h_2 => exact (fail_run h1).elim
  rename_i cells hcells
  split at h1
  case isFalse => exact (fail_run h1).elim
  rename_i hagg
  have e0 : (parts.toList.map fun p => (partT td p.1, p.2)).map (fun p => a.eval p.2) = parts.toList.map fun p => a.eval p.2 := by simp [List.map_map]
  rw [e0] at h2
  have hz := (D.plain_rep (H := H) hd.plain).cells
  have hlen : vs.length = parts.toList.length := by have := h2.len; simpa using this.symm
  have hz1 : ((parts.toList.map (·.1)).zip vs).map (·.1) = (parts.toList.map fun p => (p.1, a.eval p.2)).map (·.1) := by
    rw [List.map_fst_zip (by simp [hlen]), List.map_map]; rfl
  have hz2 : ((parts.toList.map (·.1)).zip vs).map (·.2) = vs := List.map_snd_zip (by simp [hlen])
  obtain ⟨cur', k1, k2, k3⟩ := fillV_run (H := H) (L := L) (place := place) (ps := (parts.toList.map (·.1)).zip vs) (us := parts.toList.map fun p => (p.1, a.eval p.2)) (cells := td.zero.cells.map .d) (cur := td.zero.val.cells) hz1 (by rw [hz2, List.map_map]; exact h2) (hz.1.vals hz.2.1)
    (fun c hc => by
      obtain ⟨y, hy, rfl⟩ := List.mem_map.1 hc
      simp [Val.isCell, hz.2.1 y hy]) hcells
  have hb : X.P.built t (parts.map fun (i, x) => (i, a.eval x)).toList = some cur' := by
    obtain ⟨i, hi, hs, hby, hzz⟩ := hd.info
    have e1 : (parts.map fun (i, x) => (i, a.eval x)).toList = parts.toList.map fun p => (p.1, a.eval p.2) := by rw [Array.toList_map]
    rw [e1]
    unfold placeT at hpl
    unfold Program.built
    rw [hi, hd.und]
    split at hpl
    · rename_i fs hfs
      obtain ⟨ps, hps, rfl⟩ := Option.map_eq_some_iff.1 hpl
      simp only [hfs, hzz, placesT_run k.tab hps]
      simpa using k1
    · rename_i n e hfs
      obtain ⟨te, hte, rfl⟩ := Option.map_eq_some_iff.1 hpl
      obtain ⟨j, hj, hjs, _⟩ := (k.tab _ _ hte).info
      simp only [hfs, hzz, hj, hjs]
      exact k1
    · cases hpl
  refine wp_value (w1 := w) (v := .agg cur') ?_ (hK _ _ _ _ (putD_run k r ?_ h1))
  · simp [execOp, ho, run_build w t _ cur' hb]
  · have := mkAgg_rep k2 k3
    rw [Array.toArray_toList] at this
    exact this

/-! ### len, min, max -/
def lenP (E : Ev) (o : Oper) (t : TypeId) (x : Operand) : Prog :=
  opnd E.T E.G t x fun v => match E.T.get t with
    | some { desc := .string, .. } => match v with
      | .d (.str s) => putD E o (.d (.int .i64 s.size))
      | _ => .fail
    | some { desc := .slice _, .. } => elemsOf v fun _ ys => putD E o (.d (.int .i64 ys.length))
    | some { desc := .array n _, .. } => putD E o (.d (.int .i64 n))
    | _ => .fail
theorem lenP_ok (k : Cxk X E) {o : Oper} {x : Operand} {t : TypeId} (ho : o.op = .call { callee := .builtin .len, args := #[x], argTypes := #[t] }) : OpOk X C o (lenP E o t x) := by
  intro H L σ a w σ' r h K Q hK
  obtain ⟨v, h1, h2⟩ := opnd_run k r h
  split at h1
  · rename_i _ _ _ _ ht
    split at h1
    case h_2 => exact (fail_run h1).elim
    rename_i s
    refine wp_value (w1 := w) (v := .int .i64 s.size) ?_ (hK _ _ _ _ (putD_run k r rep_int h1))
    simp [execOp, ho, resolve, invoke, builtin, Builtin.len_, run_underlying (k.tab _ _ ht).und, repD_str h2, goInt]
  · rename_i e _ _ _ _ ht
    obtain ⟨sz, ys, A, c, cells, h5, e2, _⟩ := elemsOf_run r h2 h1
    refine wp_value (w1 := w) (v := .int .i64 ys.length) ?_ (hK _ _ _ _ (putD_run k r rep_int h5))
    simp [execOp, ho, resolve, invoke, builtin, Builtin.len_, run_underlying (k.tab _ _ ht).und, e2, goInt]
  · rename_i n e _ _ _ _ ht
    refine wp_value (w1 := w) (v := .int .i64 n) ?_ (hK _ _ _ _ (putD_run k r rep_int h1))
    simp [execOp, ho, resolve, invoke, builtin, Builtin.len_, run_underlying (k.tab _ _ ht).und, goInt]
  · exact (fail_run h1).elim

/-- The greater one of two floats; none: one of them is no number. -/
def fltMax (k : FloatKind) (x y : Nat) : Option Nat :=
  match k.format.order x y with
  | none => none
  | some .lt => some y
  | some .gt => some x
  | some .eq => some (if (k.decode x).neg then y else x)
def max2P (E : Ev) (o : Oper) (mx : Bool) (t : TypeId) (x y : Operand) : Prog :=
  opnd E.T E.G t x fun u => opnd E.T E.G t y fun v => match u, v with
    | .d (.int k m), .d (.int _ n) => putD E o (.d (.int k (if mx then (if n > m then n else m) else (if n < m then n else m))))
    | .d (.flt k m), .d (.flt _ n) => match mx with
      | true => .need (fltMax k m n).isSome (putD E o (.d (.flt k ((fltMax k m n).getD 0))))
      | false => .fail
    | _, _ => .fail
theorem max2P_ok (k : Cxk X E) {o : Oper} {mx : Bool} {x y : Operand} {t : TypeId} {ts : Array TypeId} (ho : o.op = .call { callee := .builtin (if mx then .max else .min), args := #[x, y], argTypes := ts }) : OpOk X C o (max2P E o mx t x y) := by
  intro H L σ a w σ' r h K Q hK
  obtain ⟨u, h1, h2⟩ := opnd_run k r h
  obtain ⟨v, h3, h4⟩ := opnd_run k r h1
  split at h3
  · rename_i k1 m k2 n
    refine wp_value (w1 := w) ?_ (hK _ _ _ _ (putD_run k r rep_int h3))
    cases mx
    · simp [execOp, ho, resolve, invoke, builtin, Builtin.min_, Builtin.min2, repD_int h2, repD_int h4]
    · simp [execOp, ho, resolve, invoke, builtin, Builtin.max_, Builtin.max2, repD_int h2, repD_int h4]
  · rename_i k1 m k2 n
    split at h3
    · obtain ⟨h5, h6⟩ := need_run h3
      obtain ⟨z, hz⟩ := Option.isSome_iff_exists.1 h5
      rw [hz, Option.getD_some] at h6
      refine wp_value (w1 := w) (v := .float k1 z) ?_ (hK _ _ _ _ (putD_run k r rep_flt h6))
      have hb : (Builtin.max2 (.float k1 m) (.float k2 n)).run X.P w = .ok (.float k1 z) w := by
        unfold fltMax at hz
        unfold Builtin.max2
        split at hz
        · cases hz
        · rename_i ho; simp only [Option.some.injEq] at hz; subst hz; simp [ho]
        · rename_i ho; simp only [Option.some.injEq] at hz; subst hz; simp [ho]
        · rename_i ho; simp only [Option.some.injEq] at hz; subst hz; simp [ho]
      simp [execOp, ho, resolve, invoke, builtin, Builtin.max_, repD_flt h2, repD_flt h4, hb]
    · exact (fail_run h3).elim
  · exact (fail_run h3).elim

def makeFuncP (E : Ev) (o : Oper) (f : FuncId) (caps : Array Operand) : Prog :=
  opnds E.T E.G (caps.toList.map fun x => (0, x)) fun vs => match vs with
    | [] => putD E o (.d (.fn f))
    | _ => putD E o (.fn f vs)
theorem makeFuncP_ok (k : Cxk X E) {o : Oper} {f : FuncId} {caps : Array Operand} (ho : o.op = .makeFunc (.func f) #[] caps) : OpOk X C o (makeFuncP E o f caps) := by
  intro H L σ a w σ' r h K Q hK
  obtain ⟨vs, h1, h2⟩ := opnds_run k r _ h
  have e0 : (caps.toList.map fun x => ((0 : TypeId), x)).map (fun p => a.eval p.2) = (caps.map a.eval).toList := by simp [List.map_map]
  rw [e0] at h2
  refine wp_value (w1 := w) (v := .func (.func f) #[] (caps.map a.eval)) (by simp [execOp, ho, Instr.makeFunc]) (hK H L _ _ ?_)
  split at h1
  · unfold Val.RepL at h2
    have : caps.map a.eval = #[] := by simpa using h2
    rw [this]
    refine putD_run k r ?_ h1
    unfold Val.Rep
    simp [D.RepV, D.Rep]
  · refine putD_run k r ?_ h1
    unfold Val.Rep
    exact ⟨_, rfl, h2⟩
end
end Go.Ab

/- The operations: complex numbers. No condition. -/
set_option linter.unusedVariables false
set_option linter.unusedSimpArgs false
namespace Go.Ab
open Go
section
variable {X : Cx} {E : Ev} {C : Caller}
def cpxP (E : Ev) (o : Oper) (t1 t2 : TypeId) (x y : Operand) : Prog :=
  opnd E.T E.G t1 x fun u => opnd E.T E.G t2 y fun v => match u, v with
    | .d (.flt k a), .d (.flt k' b) => if k = k' then putD E o (.d (.cpx k a b)) else .fail
    | _, _ => .fail
def reimP (E : Ev) (o : Oper) (im : _root_.Bool) (t : TypeId) (x : Operand) : Prog :=
  opnd E.T E.G t x fun u => match u with
    | .d (.cpx k a b) => putD E o (.d (.flt k (match im with | true => b | false => a)))
    | _ => .fail
theorem cpxP_ok (k : Cxk X E) {o : Oper} {t1 t2 : TypeId} {x y : Operand} {tys : Array TypeId} (ho : o.op = .call { callee := .builtin .complex, args := #[x, y], argTypes := tys }) : OpOk X C o (cpxP E o t1 t2 x y) := by
  intro H L σ a w σ' r h K Q hK
  obtain ⟨u, h1, h2⟩ := opnd_run k r h
  obtain ⟨v, h3, h4⟩ := opnd_run k r h1
  split at h3
  · rename_i k1 m k2 n
    have e1 := repD_flt h2
    have e2 := repD_flt h4
    split at h3
    · rename_i hk
      subst hk
      refine wp_value (w1 := w) (v := .complex k1 m n) ?_ (hK _ _ _ _ (putD_run k r rep_cpx h3))
      have hb : (Builtin.complex_ tys o.type #[.float k1 m, .float k1 n]).run X.P w = .ok (.complex k1 m n) w := by
        show (if k1 = k1 then (pure (.complex k1 m n) : Sem Value) else _).run X.P w = _
        rw [if_pos rfl]; rfl
      simp [execOp, ho, resolve, invoke, builtin, e1, e2, hb]
    · exact (fail_run h3).elim
  · exact (fail_run h3).elim
theorem reimP_ok (k : Cxk X E) {o : Oper} {im : _root_.Bool} {t1 : TypeId} {x : Operand} {tys : Array TypeId} (ho : o.op = .call { callee := .builtin (if im = true then Builtin.imag else Builtin.real), args := #[x], argTypes := tys }) : OpOk X C o (reimP E o im t1 x) := by
  intro H L σ a w σ' r h K Q hK
  obtain ⟨u, h1, h2⟩ := opnd_run k r h
  split at h1
  · rename_i k1 m n
    have e1 := repD_cpx h2
    have hb : (Builtin.real_ tys o.type #[.complex k1 m n]).run X.P w = .ok (.float k1 m) w := rfl
    have hb2 : (Builtin.imag_ tys o.type #[.complex k1 m n]).run X.P w = .ok (.float k1 n) w := rfl
    cases im with
    | true =>
      refine wp_value (w1 := w) (v := .float k1 n) ?_ (hK _ _ _ _ (putD_run k r rep_flt h1))
      simp [execOp, ho, resolve, invoke, builtin, e1, hb, hb2]
    | false =>
      refine wp_value (w1 := w) (v := .float k1 m) ?_ (hK _ _ _ _ (putD_run k r rep_flt h1))
      simp [execOp, ho, resolve, invoke, builtin, e1, hb, hb2]
  · exact (fail_run h1).elim
end
end Go.Ab

/- Values between regions and at calls: laid out into tokens, and gathered again. No condition. -/
set_option linter.unusedVariables false
set_option linter.unusedSimpArgs false
namespace Go.Ab
open Go

mutual
def IV.Rep (H : Fz) (w : World) : IV → Value → List Nat → Prop
  | .dead, _, bs => bs = []
  | .d x, v, bs => x.RepV H v ∧ bs = []
  | .own nl e sz xs, v, bs => ∃ cells, w.ownsRow 0 e sz v xs.length cells ∧ D.RepL H xs cells ∧ (∀ x ∈ xs, x.width = sz) ∧ (nl = true ↔ v = .slice none 0 0) ∧ bs = v.ownBlock.toList
  | .lrow nl e sz xs, v, bs => ∃ cells, w.ownsRow 0 e sz v xs.length cells ∧ D.RepL H xs cells ∧ (∀ x ∈ xs, x.width = sz) ∧ (nl = true ↔ v = .slice none 0 0) ∧ bs = v.ownBlock.toList
  | .ptr ty off cells, v, bs => ∃ b cur bs', v = .pointer (some ⟨b, off, none⟩) ∧ w.heap[b]? = some (.cells cur ty (0, 0)) ∧ IV.RepL H w cells cur.toList bs' ∧ (∀ u ∈ cur.toList, u.oneCell' = true) ∧ bs = b :: bs'
  | .dbox ty off cells, v, bs => ∃ b cur, v = .pointer (some ⟨b, off, none⟩) ∧ w.heap[b]? = some (.cells cur ty (0, 0)) ∧ D.RepL H cells cur.toList ∧ (∀ c ∈ cells, c.isAgg = false) ∧ bs = [b]
  | .dptr xs, v, bs => (∃ a cs, v = .pointer (some a) ∧ D.RepL H xs cs ∧ Lies H a cs ∧ ∀ c ∈ xs, c.isAgg = false) ∧ bs = []
  | .fn f caps, v, bs => ∃ arr, v = .func (.func f) #[] arr ∧ IV.RepL H w caps arr.toList bs
  | .agg cs, v, bs => ∃ arr, v = .agg arr ∧ IV.RepL H w cs arr.toList bs ∧ ∀ u ∈ arr.toList, u.oneCell' = true
  | .tup vs, v, bs => ∃ arr, v = .tuple arr ∧ IV.RepL H w vs arr.toList bs
def IV.RepL (H : Fz) (w : World) : List IV → List Value → List Nat → Prop
  | [], vs, bs => vs = [] ∧ bs = []
  | x :: xs, vs, bs => ∃ v r b1 b2, vs = v :: r ∧ bs = b1 ++ b2 ∧ IV.Rep H w x v b1 ∧ IV.RepL H w xs r b2
end

/-- What nobody knows, as a cell of memory. -/
def cellC : Val → Val
  | .dead => .cell
  | v => v
mutual
/-- A value laid out: its tokens begin with (t, k). -/
def unpackV (t : Nat) : IV → Nat → Val × List (Tok × Ent) × Nat
  | .dead, k => (.dead, [], k)
  | .d x, k => (.d x, [], k)
  | .own nl e sz xs, k => (.ref (t, k) none, [((t, k), .row true nl e sz xs)], k + 1)
  | .lrow nl e sz xs, k => (.ref (t, k) none, [((t, k), .row true nl e sz xs)], k + 1)
  | .ptr ty off cells, k =>
    let r := unpackL t cells (k + 1)
    if (r.1.map cellC).all Val.isCell then (.ptr (t, k) off, ((t, k), .box ty (r.1.map cellC)) :: r.2.1, r.2.2) else (.dead, [], k)
  | .dbox ty off cells, k => (.ptr (t, k) off, [((t, k), .dbox ty cells)], k + 1)
  | .dptr xs, k => (.dptr xs, [], k)
  | .fn f caps, k => let r := unpackL t caps k; (.fn f r.1, r.2.1, r.2.2)
  | .agg cs, k => let r := unpackL t cs k; if (r.1.map cellC).all Val.isCell then (.agg (r.1.map cellC), r.2.1, r.2.2) else (.dead, [], k)
  | .tup vs, k => let r := unpackL t vs k; (.tup r.1, r.2.1, r.2.2)
def unpackL (t : Nat) : List IV → Nat → List Val × List (Tok × Ent) × Nat
  | [], k => ([], [], k)
  | x :: xs, k =>
    let r := unpackV t x k
    let s := unpackL t xs r.2.2
    (r.1 :: s.1, r.2.1 ++ s.2.1, s.2.2)
end

/-- What holds of entries that were laid out. -/
structure Laid (X : Cx) (H : Fz) (w : World) (L0 L : Vl) (es : List (Tok × Ent)) (bs : List Nat) : Prop where
  le : L0.le L
  key : ∀ u, L u = L0 u ∨ u ∈ es.map (·.1)
  inv : ∀ u e, (u, e) ∈ es → EntInv X H L w u e
  blk : ∀ u e b, (u, e) ∈ es → mutBlk e (L u) = some b → b ∈ bs
  apart : ∀ u e u' e' b, (u, e) ∈ es → (u', e') ∈ es → u ≠ u' → mutBlk e (L u) = some b → mutBlk e' (L u') ≠ some b
  nofr : ∀ u e, (u, e) ∈ es → e ≠ .fresh
  keys : (es.map (·.1)).Nodup

section
variable {X : Cx} {H : Fz} {w : World}

theorem EntInv.le {L L' : Vl} {u : Tok} {e : Ent} (h : EntInv X H L w u e) (hf : e ≠ .fresh) (hl : L.le L') : EntInv X H L' w u e ∧ mutBlk e (L' u) = mutBlk e (L u) := by
  cases e with
  | fresh => exact (hf rfl).elim
  | gone => exact ⟨trivial, by simp [mutBlk]⟩
  | row m nl ty sz xs =>
    obtain ⟨v, cells, h1, h2⟩ := h
    exact ⟨⟨v, cells, hl _ _ h1, h2⟩, by rw [h1, hl _ _ h1]⟩
  | box ty cells =>
    obtain ⟨b, cur, h1, h2, h3, h4⟩ := h
    exact ⟨⟨b, cur, hl _ _ h1, h2, Val.RepL.le (Fz.le_refl H) hl _ _ h3, h4⟩, by rw [h1, hl _ _ h1]⟩
  | dbox ty cells =>
    obtain ⟨b, cur, h1, h2⟩ := h
    exact ⟨⟨b, cur, hl _ _ h1, h2⟩, by rw [h1, hl _ _ h1]⟩
theorem Laid.nil (L : Vl) : Laid X H w L L [] [] :=
  ⟨Vl.le_refl L, fun _ => .inl rfl, by simp, by simp, by simp, by simp, by simp⟩
theorem Laid.append {L0 L1 L2 : Vl} {es1 es2 : List (Tok × Ent)} {bs1 bs2 : List Nat} (h1 : Laid X H w L0 L1 es1 bs1) (h2 : Laid X H w L1 L2 es2 bs2) (hd : ∀ u, u ∈ es1.map (·.1) → u ∉ es2.map (·.1)) (hb : ∀ b, b ∈ bs1 → b ∉ bs2) : Laid X H w L0 L2 (es1 ++ es2) (bs1 ++ bs2) where
  le := Vl.le_trans h1.le h2.le
  key := fun u => by
    rcases h2.key u with h | h
    · rcases h1.key u with h' | h'
      · exact .inl (h.trans h')
      · exact .inr (by simp only [List.map_append, List.mem_append]; exact .inl h')
    · exact .inr (by simp only [List.map_append, List.mem_append]; exact .inr h)
  inv := fun u e he => by
    rcases List.mem_append.1 he with he | he
    · exact ((h1.inv u e he).le (h1.nofr u e he) h2.le).1
    · exact h2.inv u e he
  blk := fun u e b he hm => by
    rcases List.mem_append.1 he with he | he
    · rw [((h1.inv u e he).le (h1.nofr u e he) h2.le).2] at hm
      exact List.mem_append_left _ (h1.blk u e b he hm)
    · exact List.mem_append_right _ (h2.blk u e b he hm)
  apart := fun u e u' e' b he he' hne hm hm' => by
    rcases List.mem_append.1 he with he | he <;> rcases List.mem_append.1 he' with he' | he'
    · rw [((h1.inv u e he).le (h1.nofr u e he) h2.le).2] at hm
      rw [((h1.inv u' e' he').le (h1.nofr u' e' he') h2.le).2] at hm'
      exact h1.apart u e u' e' b he he' hne hm hm'
    · rw [((h1.inv u e he).le (h1.nofr u e he) h2.le).2] at hm
      exact hb b (h1.blk u e b he hm) (h2.blk u' e' b he' hm')
    · rw [((h1.inv u' e' he').le (h1.nofr u' e' he') h2.le).2] at hm'
      exact hb b (h1.blk u' e' b he' hm') (h2.blk u e b he hm)
    · exact h2.apart u e u' e' b he he' hne hm hm'
  nofr := fun u e he => by
    rcases List.mem_append.1 he with he | he
    · exact h1.nofr u e he
    · exact h2.nofr u e he
  keys := by
    rw [List.map_append, List.nodup_append]
    exact ⟨h1.keys, h2.keys, fun u hu u' hu' e => hd u hu (e ▸ hu')⟩
theorem Laid.one {L0 : Vl} {u : Tok} {v : Value} {e : Ent} {bs : List Nat} (hn : L0 u = none) (he : EntInv X H (L0.upd u v) w u e) (hf : e ≠ .fresh) (hb : ∀ b, mutBlk e (some v) = some b → b ∈ bs) : Laid X H w L0 (L0.upd u v) [(u, e)] bs where
  le := Vl.le_upd hn v
  key := fun u' => by
    by_cases h : u = u'
    · subst h; exact .inr (by simp)
    · exact .inl (by unfold Vl.upd; rw [if_neg h])
  inv := fun u' e' h => by simp at h; obtain ⟨rfl, rfl⟩ := h; exact he
  blk := fun u' e' b h hm => by
    simp at h; obtain ⟨rfl, rfl⟩ := h
    rw [upd_same] at hm
    exact hb b hm
  apart := fun u1 e1 u2 e2 b h1 h2 hne => by simp at h1 h2; exact absurd (h1.1.trans h2.1.symm) hne
  nofr := fun u' e' h => by simp at h; obtain ⟨rfl, rfl⟩ := h; exact hf
  keys := by simp

mutual
theorem unpackV_key (t : Nat) : ∀ (x : IV) (k : Nat), k ≤ (unpackV t x k).2.2 ∧ ∀ u ∈ (unpackV t x k).2.1.map (·.1), u.1 = t ∧ k ≤ u.2 ∧ u.2 < (unpackV t x k).2.2
  | .dead, k => by simp [unpackV]
  | .d x, k => by simp [unpackV]
  | .own nl e sz xs, k => by simp [unpackV]
  | .lrow nl e sz xs, k => by simp [unpackV]
  | .ptr ty off cells, k => by
    have ih := unpackL_key t cells (k + 1)
    unfold unpackV
    dsimp only
    split
    · refine ⟨by have := ih.1; dsimp only; omega, fun u hu => ?_⟩
      simp only [List.map_cons, List.mem_cons] at hu
      rcases hu with rfl | hu
      · exact ⟨rfl, Nat.le_refl _, by have := ih.1; dsimp only; omega⟩
      · have := ih.2 u hu
        exact ⟨this.1, by omega, this.2.2⟩
    · simp
  | .dbox ty off cells, k => by simp [unpackV]
  | .dptr xs, k => by simp [unpackV]
  | .fn f caps, k => by unfold unpackV; exact unpackL_key t caps k
  | .agg cs, k => by
    have ih := unpackL_key t cs k
    unfold unpackV
    dsimp only
    split
    · exact ih
    · simp
  | .tup vs, k => by unfold unpackV; exact unpackL_key t vs k
theorem unpackL_key (t : Nat) : ∀ (xs : List IV) (k : Nat), k ≤ (unpackL t xs k).2.2 ∧ ∀ u ∈ (unpackL t xs k).2.1.map (·.1), u.1 = t ∧ k ≤ u.2 ∧ u.2 < (unpackL t xs k).2.2
  | [], k => by simp [unpackL]
  | x :: xs, k => by
    have ih1 := unpackV_key t x k
    have ih2 := unpackL_key t xs (unpackV t x k).2.2
    unfold unpackL
    dsimp only
    refine ⟨by omega, fun u hu => ?_⟩
    rw [List.map_append, List.mem_append] at hu
    rcases hu with hu | hu
    · have := ih1.2 u hu; exact ⟨this.1, this.2.1, by omega⟩
    · have := ih2.2 u hu; exact ⟨this.1, by omega, this.2.2⟩
end

theorem cellC_rep {L : Vl} : ∀ {xs : List Val} {vs : List Value}, Val.RepL H L xs vs → (∀ u ∈ vs, u.oneCell' = true) → Val.RepL H L (xs.map cellC) vs
  | [], vs, h, _ => h
  | x :: xs, vs, h, ho => by
    unfold Val.RepL at h
    obtain ⟨v, r, rfl, h1, h2⟩ := h
    rw [List.map_cons]
    unfold Val.RepL
    refine ⟨v, r, rfl, ?_, cellC_rep h2 (fun u hu => ho u (by simp [hu]))⟩
    cases x <;> first | exact h1 | skip
    exact ho v (by simp)
mutual
theorem unpackV_rep (t : Nat) : ∀ (x : IV) (k : Nat) {L0 : Vl} {v : Value} {bs : List Nat}, IV.Rep H w x v bs → bs.Nodup → (∀ b ∈ bs, H b = none ∧ X.Mine b) → (∀ j, k ≤ j → j < (unpackV t x k).2.2 → L0 (t, j) = none) →
    ∃ L, Laid X H w L0 L (unpackV t x k).2.1 bs ∧ (unpackV t x k).1.Rep H L v
  | .dead, k, L0, v, bs, h, _, _, _ => by
    unfold IV.Rep at h; subst h
    exact ⟨L0, Laid.nil L0, trivial⟩
  | .d x, k, L0, v, bs, h, _, _, _ => by
    unfold IV.Rep at h
    obtain ⟨h, rfl⟩ := h
    exact ⟨L0, Laid.nil L0, by unfold unpackV Val.Rep; exact h⟩
  | .own nl e sz xs, k, L0, v, bs, h, hn, hm, hL => by
    unfold IV.Rep at h
    obtain ⟨cells, h1, h2, h3, h4, rfl⟩ := h
    refine ⟨L0.upd (t, k) v, Laid.one (hL k (Nat.le_refl k) (by simp [unpackV])) ⟨v, cells, upd_same _ _ _, h1, h2, h3, h4, fun b hb => ?_⟩ (by simp) (fun b hb => ?_), ?_⟩
    · simp only [if_true]
      exact hm b (by rw [hb]; simp)
    · cases v <;> simp [mutBlk] at hb
      rename_i A n c
      cases A <;> simp [mutBlk] at hb
      simp [Value.ownBlock, hb]
    · unfold unpackV Val.Rep
      refine ⟨upd_same _ _ _, ?_⟩
      rcases h1.2 with ⟨e0, _⟩ | ⟨_, _, _, e0, _⟩ <;> exact ⟨_, _, _, e0⟩
  | .lrow nl e sz xs, k, L0, v, bs, h, hn, hm, hL => by
    unfold IV.Rep at h
    obtain ⟨cells, h1, h2, h3, h4, rfl⟩ := h
    refine ⟨L0.upd (t, k) v, Laid.one (hL k (Nat.le_refl k) (by simp [unpackV])) ⟨v, cells, upd_same _ _ _, h1, h2, h3, h4, fun b hb => ?_⟩ (by simp) (fun b hb => ?_), ?_⟩
    · simp only [if_true]
      exact hm b (by rw [hb]; simp)
    · cases v <;> simp [mutBlk] at hb
      rename_i A n c
      cases A <;> simp [mutBlk] at hb
      simp [Value.ownBlock, hb]
    · unfold unpackV Val.Rep
      refine ⟨upd_same _ _ _, ?_⟩
      rcases h1.2 with ⟨e0, _⟩ | ⟨_, _, _, e0, _⟩ <;> exact ⟨_, _, _, e0⟩
  | .ptr ty off cells, k, L0, v, bs, h, hn, hm, hL => by
    unfold IV.Rep at h
    obtain ⟨b, cur, bs', rfl, h2, h3, h4, rfl⟩ := h
    simp only [List.nodup_cons] at hn
    have hb := hm b (by simp)
    have hkl := (unpackL_key t cells (k + 1)).1
    unfold unpackV at hL ⊢
    dsimp only at hL ⊢
    split
    · rename_i hall
      rw [if_pos hall] at hL
      dsimp only at hL
      have hL1 : ∀ j, k + 1 ≤ j → j < (unpackL t cells (k + 1)).2.2 → (L0.upd (t, k) (.pointer (some ⟨b, 0, none⟩))) (t, j) = none := fun j hj hj2 => by
        unfold Vl.upd
        rw [if_neg (by simp; omega)]
        exact hL j (by omega) hj2
      obtain ⟨L, g1, g2⟩ := unpackL_rep t cells (k + 1) (L0 := L0.upd (t, k) (.pointer (some ⟨b, 0, none⟩))) h3 hn.2 (fun b' hb' => hm b' (by simp [hb'])) hL1
      have hLk : L (t, k) = some (.pointer (some ⟨b, 0, none⟩)) := g1.le _ _ (upd_same _ _ _)
      have hone : Laid X H w L0 (L0.upd (t, k) (.pointer (some ⟨b, 0, none⟩))) [((t, k), .gone)] [b] :=
        Laid.one (hL k (Nat.le_refl k) (by omega)) trivial (by simp) (by simp [mutBlk])
      have hkeys := (unpackL_key t cells (k + 1)).2
      have hap := hone.append g1 (fun u hu hu' => by
        simp at hu
        subst hu
        have := hkeys _ hu'
        simp at this
        omega) (fun b' hb' => by simp at hb'; subst hb'; exact hn.1)
      refine ⟨L, ⟨hap.le, hap.key, fun u e he => ?_, fun u e b' he hmb => ?_, fun u e u' e' b' he he' hne hmb hmb' => ?_, fun u e he => ?_, hap.keys⟩, ?_⟩
      · rcases List.mem_cons.1 he with he | he
        · cases he
          exact ⟨b, cur, hLk, h2, cellC_rep g2 h4, fun c hc => List.all_eq_true.1 hall c hc, hb⟩
        · exact g1.inv u e he
      · rcases List.mem_cons.1 he with he | he
        · cases he
          rw [hLk] at hmb
          simp [mutBlk] at hmb
          simp [hmb]
        · exact List.mem_cons_of_mem _ (g1.blk u e b' he hmb)
      · rcases List.mem_cons.1 he with he | he <;> rcases List.mem_cons.1 he' with he' | he'
        · cases he; cases he'; exact hne rfl
        · cases he
          rw [hLk] at hmb
          simp [mutBlk] at hmb
          subst hmb
          exact hn.1 (g1.blk u' e' _ he' hmb')
        · cases he'
          rw [hLk] at hmb'
          simp [mutBlk] at hmb'
          subst hmb'
          exact hn.1 (g1.blk u e _ he hmb)
        · exact g1.apart u e u' e' b' he he' hne hmb hmb'
      · rcases List.mem_cons.1 he with he | he
        · cases he; simp
        · exact g1.nofr u e he
      · unfold Val.Rep
        exact ⟨b, hLk, rfl⟩
    · refine ⟨L0, ⟨Vl.le_refl _, fun _ => .inl rfl, by simp, by simp, by simp, by simp, by simp⟩, trivial⟩
  | .dbox ty off cells, k, L0, v, bs, h, hn, hm, hL => by
    unfold IV.Rep at h
    obtain ⟨b, cur, rfl, h2, h3, h4, rfl⟩ := h
    have hb := hm b (by simp)
    refine ⟨L0.upd (t, k) (.pointer (some ⟨b, 0, none⟩)), Laid.one (hL k (Nat.le_refl k) (by simp [unpackV])) ⟨b, cur, upd_same _ _ _, h2, h3, h4, hb⟩ (by simp) (fun b' hb' => by simp [mutBlk] at hb'; simp [hb']), ?_⟩
    unfold unpackV Val.Rep
    exact ⟨b, upd_same _ _ _, rfl⟩
  | .dptr xs, k, L0, v, bs, h, _, _, _ => by
    unfold IV.Rep at h
    obtain ⟨h, rfl⟩ := h
    exact ⟨L0, Laid.nil L0, by unfold unpackV Val.Rep; exact h⟩
  | .fn f caps, k, L0, v, bs, h, hn, hm, hL => by
    unfold IV.Rep at h
    obtain ⟨arr, rfl, h1⟩ := h
    unfold unpackV at hL
    obtain ⟨L, g1, g2⟩ := unpackL_rep t caps k h1 hn hm hL
    refine ⟨L, by unfold unpackV; exact g1, ?_⟩
    unfold unpackV Val.Rep
    exact ⟨arr, rfl, g2⟩
  | .agg cs, k, L0, v, bs, h, hn, hm, hL => by
    unfold IV.Rep at h
    obtain ⟨arr, rfl, h1, h2⟩ := h
    unfold unpackV at hL ⊢
    dsimp only at hL ⊢
    split
    · rename_i hall
      rw [if_pos hall] at hL
      obtain ⟨L, g1, g2⟩ := unpackL_rep t cs k h1 hn hm hL
      refine ⟨L, g1, ?_⟩
      unfold Val.Rep
      exact ⟨arr, rfl, cellC_rep g2 h2, fun c hc => List.all_eq_true.1 hall c hc⟩
    · exact ⟨L0, ⟨Vl.le_refl _, fun _ => .inl rfl, by simp, by simp, by simp, by simp, by simp⟩, trivial⟩
  | .tup vs, k, L0, v, bs, h, hn, hm, hL => by
    unfold IV.Rep at h
    obtain ⟨arr, rfl, h1⟩ := h
    unfold unpackV at hL
    obtain ⟨L, g1, g2⟩ := unpackL_rep t vs k h1 hn hm hL
    refine ⟨L, by unfold unpackV; exact g1, ?_⟩
    unfold unpackV Val.Rep
    exact ⟨arr, rfl, g2⟩
theorem unpackL_rep (t : Nat) : ∀ (xs : List IV) (k : Nat) {L0 : Vl} {vs : List Value} {bs : List Nat}, IV.RepL H w xs vs bs → bs.Nodup → (∀ b ∈ bs, H b = none ∧ X.Mine b) → (∀ j, k ≤ j → j < (unpackL t xs k).2.2 → L0 (t, j) = none) →
    ∃ L, Laid X H w L0 L (unpackL t xs k).2.1 bs ∧ Val.RepL H L (unpackL t xs k).1 vs
  | [], k, L0, vs, bs, h, _, _, _ => by
    unfold IV.RepL at h
    obtain ⟨rfl, rfl⟩ := h
    exact ⟨L0, Laid.nil L0, by unfold unpackL Val.RepL; rfl⟩
  | x :: xs, k, L0, vs, bs, h, hn, hm, hL => by
    unfold IV.RepL at h
    obtain ⟨v, r, b1, b2, rfl, rfl, h1, h2⟩ := h
    rw [List.nodup_append] at hn
    have hk1 := unpackV_key t x k
    have hk2 := unpackL_key t xs (unpackV t x k).2.2
    unfold unpackL at hL
    dsimp only at hL
    obtain ⟨L1, g1, g2⟩ := unpackV_rep t x k h1 hn.1 (fun b hb => hm b (by simp [hb])) (fun j hj hj2 => hL j hj (by omega))
    have hL1 : ∀ j, (unpackV t x k).2.2 ≤ j → j < (unpackL t xs (unpackV t x k).2.2).2.2 → L1 (t, j) = none := fun j hj hj2 => by
      rcases g1.key (t, j) with h | h
      · rw [h]; exact hL j (by omega) hj2
      · have := hk1.2 _ h
        simp at this
        omega
    obtain ⟨L2, k1, k2⟩ := unpackL_rep t xs (unpackV t x k).2.2 h2 hn.2.1 (fun b hb => hm b (by simp [hb])) hL1
    refine ⟨L2, ?_, ?_⟩
    · unfold unpackL
      dsimp only
      refine g1.append k1 (fun u hu hu' => ?_) (fun b hb hb' => hn.2.2 b hb b hb' rfl)
      have h3 := hk1.2 u hu
      have h4 := (unpackL_key t xs (unpackV t x k).2.2).2 u hu'
      omega
    · unfold unpackL Val.RepL
      exact ⟨v, r, rfl, Val.Rep.le (Fz.le_refl H) k1.le _ _ g2, k2⟩
end
end
end Go.Ab

/- The state of a run between regions: laid out into tokens, and gathered again. No condition. -/
set_option linter.unusedVariables false
set_option linter.unusedSimpArgs false
namespace Go.Ab
open Go

abbrev Sl := List (Nat × IV)
def unpackS (s : Sl) : St := let r := unpackL 0 (s.map (·.2)) 0; { env := (s.map (·.1)).zip r.1, ents := r.2.1 }

/-- What an entry between regions says: slot i holds what slot j holds (1000 i + j), or what cell c of the variable of slot j holds (100000000 + 1000000 c + 1000 i + j). -/
def AlAt (a : Act) (w : World) (e : Nat) : Prop :=
  if 100000000 ≤ e then ∃ b cur ty, a.tmps.getD ((e - 100000000) % 1000) undef = .pointer (some ⟨b, 0, none⟩) ∧ w.heap[b]? = some (.cells cur ty (0, 0)) ∧ cur.toList[(e - 100000000) / 1000000]? = some (a.tmps.getD ((e - 100000000) / 1000 % 1000) undef)
  else a.tmps.getD (e / 1000) undef = a.tmps.getD (e % 1000) undef
structure SRel (X : Cx) (H : Fz) (s : Sl) (a : Act) (w : World) : Prop where
  le : X.H0.le H
  sub : H.sub w
  fr : Framed X.w0 X.own0 w
  defers : a.defers = []
  size : a.tmps.size = X.N
  lk : ∀ i v, (i, v) ∈ X.lk → a.tmps.getD i undef = v
  rep : ∃ bs, IV.RepL H w (s.map (·.2)) (s.map fun p => a.tmps.getD p.1 undef) bs ∧ bs.Nodup ∧ ∀ b ∈ bs, H b = none ∧ X.Mine b
  fz : ∀ k, ¬ X.Mine k → H k = X.H0 k
  al : ∀ k x, (k, x) ∈ s → 2000000 + X.N ≤ k → AlAt a w (k - (2000000 + X.N))

section
variable {X : Cx} {H : Fz} {w : World} {a : Act}

theorem assoc_mem {α β : Type} [DecidableEq α] {z : β} : ∀ {l : List (α × β)} {k : α} {v : β}, (l.map (·.1)).Nodup → (k, v) ∈ l → assoc z l k = v
  | [], k, v, _, h => by simp at h
  | (k', v') :: r, k, v, hn, h => by
    simp only [List.map_cons, List.nodup_cons] at hn
    unfold assoc
    rcases List.mem_cons.1 h with h | h
    · cases h; simp
    · have hne : k' ≠ k := fun e => hn.1 (by subst e; exact List.mem_map.2 ⟨_, h, rfl⟩)
      rw [if_neg hne]
      exact assoc_mem hn.2 h
theorem assoc_not {α β : Type} [DecidableEq α] {z : β} : ∀ {l : List (α × β)} {k : α}, k ∉ l.map (·.1) → assoc z l k = z
  | [], k, _ => rfl
  | (k', v') :: r, k, h => by
    simp only [List.map_cons, List.mem_cons, not_or] at h
    unfold assoc
    rw [if_neg (fun e => h.1 e.symm)]
    exact assoc_not h.2
theorem assoc_cases {α β : Type} [DecidableEq α] {z : β} : ∀ (l : List (α × β)) (k : α), assoc z l k = z ∨ (k, assoc z l k) ∈ l
  | [], k => .inl rfl
  | (k', v') :: r, k => by
    unfold assoc
    by_cases h : k' = k
    · subst h; simp
    · rw [if_neg h]
      rcases assoc_cases r k with h1 | h1
      · exact .inl h1
      · exact .inr (List.mem_cons_of_mem _ h1)
/-- A slot's value in a state that was laid out. -/
theorem zip_rep {H : Fz} {L : Vl} (f : Nat → Value) : ∀ {is : List Nat} {vs : List Val}, Val.RepL H L vs (is.map f) → ∀ i, (assoc Val.dead (is.zip vs) i).Rep H L (f i)
  | [], vs, h, i => by simp [assoc, Val.Rep]
  | j :: is, vs, h, i => by
    cases vs with
    | nil => simp [assoc, Val.Rep]
    | cons v vs =>
      simp only [List.map_cons] at h
      unfold Val.RepL at h
      obtain ⟨u, r, he, h1, h2⟩ := h
      simp only [List.cons.injEq] at he
      obtain ⟨rfl, rfl⟩ := he
      simp only [List.zip_cons_cons]
      unfold assoc
      by_cases hj : j = i
      · subst hj; rw [if_pos rfl]; exact h1
      · rw [if_neg hj]; exact zip_rep f h2 i
theorem unpackS_rel {s : Sl} (r : SRel X H s a w) : ∃ L, Rel X H L (unpackS s) a w ∧ ∀ u, L u ≠ none → u.1 = 0 := by
  obtain ⟨bs, h1, h2, h3⟩ := r.rep
  obtain ⟨L, g1, g2⟩ := unpackL_rep (X := X) 0 (s.map (·.2)) 0 (L0 := fun _ => none) h1 h2 h3 (fun _ _ _ => rfl)
  have hkeys := (unpackL_key 0 (s.map (·.2)) 0).2
  refine ⟨L, ⟨r.le, r.sub, r.fr, r.defers, r.size, fun i => ?_, fun u => ?_, fun u u' b hne hb => ?_, r.lk, r.fz⟩, fun u hu => ?_⟩
  · have := zip_rep (H := H) (L := L) (fun i => a.tmps.getD i undef) (is := s.map (·.1)) (vs := (unpackL 0 (s.map (·.2)) 0).1) (by rw [List.map_map]; exact g2) i
    exact this
  · show EntInv X H L w u (assoc .fresh (unpackL 0 (s.map (·.2)) 0).2.1 u)
    by_cases hu : u ∈ (unpackL 0 (s.map (·.2)) 0).2.1.map (·.1)
    · obtain ⟨⟨u', e⟩, hm, rfl⟩ := List.mem_map.1 hu
      rw [assoc_mem g1.keys hm]
      exact g1.inv _ _ hm
    · rw [assoc_not hu]
      rcases g1.key u with h | h
      · exact h
      · exact (hu h).elim
  · intro hb'
    have e1 : (unpackS s).getT u = assoc .fresh (unpackL 0 (s.map (·.2)) 0).2.1 u := rfl
    have e2 : (unpackS s).getT u' = assoc .fresh (unpackL 0 (s.map (·.2)) 0).2.1 u' := rfl
    rcases assoc_cases (z := Ent.fresh) (unpackL 0 (s.map (·.2)) 0).2.1 u with h4 | h4
    · rw [e1, h4] at hb; simp [mutBlk] at hb
    · rcases assoc_cases (z := Ent.fresh) (unpackL 0 (s.map (·.2)) 0).2.1 u' with h5 | h5
      · rw [e2, h5] at hb'; simp [mutBlk] at hb'
      · exact g1.apart _ _ _ _ b h4 h5 hne (e1 ▸ hb) (e2 ▸ hb')
  · rcases g1.key u with h | h
    · exact absurd h hu
    · exact (hkeys u h).1

/-- A cell of a variable that is held. -/
def cellAV (σ : St) (v : Val) (c : Nat) : Option Val :=
  match v with
  | .ptr t 0 => match σ.getT t with
    | .box _ cells => cells[c]?
    | .dbox _ cells => match cells[c]? with
      | some x => some (.d x)
      | none => none
    | _ => none
  | _ => none
theorem cellAV_rep {L : Vl} {σ : St} (r : Rel X H L σ a w) {v x : Val} {c : Nat} {p u : Value} (h : cellAV σ v c = some x) (hp : v.Rep H L p) {b : Nat} {cur : Array Value} {ty : TypeId} (e : p = .pointer (some ⟨b, 0, none⟩)) (hb : w.heap[b]? = some (.cells cur ty (0, 0))) (hu : cur.toList[c]? = some u) : x.Rep H L u := by
  unfold cellAV at h
  split at h
  · rename_i t
    have he := r.ents t
    unfold Val.Rep at hp
    obtain ⟨b', k1, k2⟩ := hp
    split at h
    · rename_i ty' cells ht
      rw [ht] at he
      obtain ⟨b1, cur1, h1, h2, h3, h4, _⟩ := he
      rw [k1] at h1
      rw [e] at k2
      simp at k2 h1
      obtain rfl : b = b1 := by first | exact k2.trans h1 | omega
      rw [hb] at h2
      simp only [Option.some.injEq, Obj.cells.injEq, and_true] at h2
      obtain ⟨rfl, _⟩ := h2
      obtain ⟨u', g1, g2⟩ := Val.RepL.get h3 h
      rw [hu] at g1
      cases g1
      exact g2
    · rename_i ty' cells ht
      rw [ht] at he
      obtain ⟨b1, cur1, h1, h2, h3, h4, _⟩ := he
      rw [k1] at h1
      rw [e] at k2
      simp at k2 h1
      obtain rfl : b = b1 := by first | exact k2.trans h1 | omega
      rw [hb] at h2
      simp only [Option.some.injEq, Obj.cells.injEq, and_true] at h2
      obtain ⟨rfl, _⟩ := h2
      split at h
      · rename_i y hy
        cases h
        have hm := D.RepL.vals (L := L) h3 h4
        obtain ⟨u', g1, g2⟩ := Val.RepL.get hm (i := c) (x := .d y) (by simp [hy])
        rw [hu] at g1
        cases g1
        exact g2
      · cases h
    · cases h
  · cases h
/-- Slots that hold the same value as others: laid beside them. -/
def unal (N : Nat) : Sl → St → St
  | [], σ => σ
  | (k, _) :: r, σ => match Nat.ble (2000000 + N) k with
    | true => match Nat.ble 100000000 (k - (2000000 + N)) with
      | true => match cellAV σ (σ.getS ((k - (2000000 + N) - 100000000) % 1000)) ((k - (2000000 + N) - 100000000) / 1000000) with
        | some v => unal N r (σ.putS ((k - (2000000 + N) - 100000000) / 1000 % 1000) v)
        | none => unal N r σ
      | false => unal N r (σ.putS ((k - (2000000 + N)) / 1000) (σ.getS ((k - (2000000 + N)) % 1000)))
    | false => unal N r σ
def unpackA (N : Nat) (s : Sl) : St := unal N s (unpackS s)
theorem unal_rel {L : Vl} : ∀ (s : Sl) {σ : St}, Rel X H L σ a w → (∀ k x, (k, x) ∈ s → 2000000 + X.N ≤ k → AlAt a w (k - (2000000 + X.N))) → Rel X H L (unal X.N s σ) a w
  | [], σ, r, h => r
  | (k, x) :: s, σ, r, h => by
    unfold unal
    split
    · rename_i hk
      have h1 := h k x (List.mem_cons_self ..) (Nat.le_of_ble_eq_true hk)
      generalize k - (2000000 + X.N) = e at h1
      unfold AlAt at h1
      split
      · rename_i hb
        rw [if_pos (Nat.le_of_ble_eq_true hb)] at h1
        obtain ⟨b, cur, ty, h2, h3, h4⟩ := h1
        split
        · rename_i v hv
          have hr := cellAV_rep r hv (r.env _) h2 h3 h4
          refine unal_rel s ⟨r.le, r.sub, r.fr, r.defers, r.size, fun i => ?_, r.ents, r.apart, r.lk, r.fz⟩ (fun k x hx => h k x (List.mem_cons_of_mem _ hx))
          rw [St.getS_putS]
          split
          · rename_i e; rw [← e]; exact hr
          · exact r.env i
        · exact unal_rel s r (fun k x hx => h k x (List.mem_cons_of_mem _ hx))
      · rename_i hb
        rw [if_neg (fun h => by rw [Nat.ble_eq_true_of_le h] at hb; cases hb)] at h1
        refine unal_rel s ⟨r.le, r.sub, r.fr, r.defers, r.size, fun i => ?_, r.ents, r.apart, r.lk, r.fz⟩ (fun k x hx => h k x (List.mem_cons_of_mem _ hx))
        rw [St.getS_putS]
        split
        · rename_i e; rw [← e, h1]; exact r.env _
        · exact r.env i
    · exact unal_rel s r (fun k x hx => h k x (List.mem_cons_of_mem _ hx))
theorem unpackA_rel {s : Sl} (r : SRel X H s a w) : ∃ L, Rel X H L (unpackA X.N s) a w ∧ ∀ u, L u ≠ none → u.1 = 0 := by
  obtain ⟨L, h1, h2⟩ := unpackS_rel r
  exact ⟨L, unal_rel s h1 r.al, h2⟩

/-! ### Gathered again -/
mutual
/-- A cell of a variable. -/
def pack0 (σ : St) : Val → IV
  | .dead => .dead
  | .und => .dead
  | .cell => .dead
  | .eptr _ _ _ _ => .dead
  | .tail _ _ _ => .dead
  | .d x => .d x
  | .dptr xs => .dptr xs
  | .ref t l => match σ.getT t with
    | .row true nl e sz xs => .own nl e sz (takeL l xs)
    | .row false nl _ sz xs => .d (.sl sz nl (takeL l xs) (dropL l xs))
    | _ => .dead
  | .ptr t off => match σ.getT t with
    | .dbox ty cells => .dbox ty off cells
    | _ => .dead
  | .fn f caps => .fn f (pack0L σ caps)
  | .agg cs => .agg (pack0L σ cs)
  | .tup vs => .tup (pack0L σ vs)
def pack0L (σ : St) : List Val → List IV
  | [] => []
  | v :: vs => pack0 σ v :: pack0L σ vs
end
mutual
def packV (σ : St) : Val → IV
  | .dead => .dead
  | .und => .dead
  | .cell => .dead
  | .eptr _ _ _ _ => .dead
  | .tail _ _ _ => .dead
  | .d x => .d x
  | .dptr xs => .dptr xs
  | .ref t l => match σ.getT t with
    | .row true nl e sz xs => .own nl e sz (takeL l xs)
    | .row false nl _ sz xs => .d (.sl sz nl (takeL l xs) (dropL l xs))
    | _ => .dead
  | .ptr t off => match σ.getT t with
    | .box ty cells => .ptr ty off (pack0L σ cells)
    | .dbox ty cells => .dbox ty off cells
    | _ => .dead
  | .fn f caps => .fn f (packL σ caps)
  | .agg cs => .agg (packL σ cs)
  | .tup vs => .tup (packL σ vs)
def packL (σ : St) : List Val → List IV
  | [] => []
  | v :: vs => packV σ v :: packL σ vs
end
mutual
/-- The tokens that are gathered. -/
def toks0 (σ : St) : Val → List Tok
  | .ref t _ => match σ.getT t with
    | .row true _ _ _ _ => [t]
    | _ => []
  | .ptr t _ => match σ.getT t with
    | .dbox _ _ => [t]
    | _ => []
  | .fn _ caps => toks0L σ caps
  | .agg cs => toks0L σ cs
  | .tup vs => toks0L σ vs
  | _ => []
def toks0L (σ : St) : List Val → List Tok
  | [] => []
  | v :: vs => toks0 σ v ++ toks0L σ vs
end
mutual
def toksV (σ : St) : Val → List Tok
  | .ref t _ => match σ.getT t with
    | .row true _ _ _ _ => [t]
    | _ => []
  | .ptr t _ => match σ.getT t with
    | .box _ cells => t :: toks0L σ cells
    | .dbox _ _ => [t]
    | _ => []
  | .fn _ caps => toksL σ caps
  | .agg cs => toksL σ cs
  | .tup vs => toksL σ vs
  | _ => []
def toksL (σ : St) : List Val → List Tok
  | [] => []
  | v :: vs => toksV σ v ++ toksL σ vs
end
end

section
variable {X : Cx} {H : Fz} {L : Vl} {σ : St} {a : Act} {w : World}

/-- The blocks behind tokens. -/
def blks (σ : St) (L : Vl) (ts : List Tok) : List Nat := ts.filterMap fun t => mutBlk (σ.getT t) (L t)
theorem blks_append (ts us : List Tok) : blks σ L (ts ++ us) = blks σ L ts ++ blks σ L us := by simp [blks]
theorem pack_ref (r : Rel X H L σ a w) {t : Tok} {l : Option Nat} {v : Value} (hv : (Val.ref t l).Rep H L v) :
    IV.Rep H w (match σ.getT t with
      | .row true nl e sz xs => .own nl e sz (takeL l xs)
      | .row false nl _ sz xs => .d (.sl sz nl (takeL l xs) (dropL l xs))
      | _ => .dead) v (blks σ L (match σ.getT t with
      | .row true _ _ _ _ => [t]
      | _ => [])) := by
  have he := r.ents t
  cases ht : σ.getT t with
  | row m nl e sz xs =>
    rw [ht] at he
    cases m with
    | true =>
      obtain ⟨cells, h1, h2, h3, h4, h5, h6⟩ := ref_val he hv
      obtain ⟨v0, cells0, p1, _⟩ := he
      have hb := h6 v0 p1
      unfold IV.Rep
      refine ⟨cells, h1, h2, h3, ⟨h4, fun e => ?_⟩, ?_⟩
      · cases nl with
        | true => rfl
        | false => exact (h5 rfl e).elim
      · simp only [blks, List.filterMap_cons, List.filterMap_nil, ht, p1]
        rw [hb]
        cases v0 with
        | slice A n c => cases A <;> rfl
        | _ => rfl
    | false =>
      unfold IV.Rep
      exact ⟨frozen_rep he hv (ref_le he hv), by simp [blks]⟩
  | fresh => unfold IV.Rep; simp [blks]
  | gone => unfold IV.Rep; simp [blks]
  | box ty cells => unfold IV.Rep; simp [blks]
  | dbox ty cells => unfold IV.Rep; simp [blks]
theorem pack_dbox (r : Rel X H L σ a w) {t : Tok} {off : Nat} {v : Value} (hv : (Val.ptr t off).Rep H L v) {ty : TypeId} {cells : List D} (ht : σ.getT t = .dbox ty cells) : IV.Rep H w (.dbox ty off cells) v (blks σ L [t]) := by
  have he := r.ents t
  rw [ht] at he
  obtain ⟨b, cur, h1, h2, h3, h4, _⟩ := he
  unfold Val.Rep at hv
  obtain ⟨b', k1, rfl⟩ := hv
  rw [h1] at k1
  simp only [Option.some.injEq, Value.pointer.injEq, Addr.mk.injEq, and_true] at k1
  subst k1
  unfold IV.Rep
  exact ⟨b, cur, rfl, h2, h3, h4, by simp [blks, ht, h1, mutBlk]⟩
mutual
theorem pack0_rep (r : Rel X H L σ a w) : ∀ (x : Val) {v : Value}, x.Rep H L v → IV.Rep H w (pack0 σ x) v (blks σ L (toks0 σ x))
  | .dead, v, _ => by unfold pack0 toks0 IV.Rep; simp [blks]
  | .und, v, _ => by unfold pack0 toks0 IV.Rep; simp [blks]
  | .cell, v, _ => by unfold pack0 toks0 IV.Rep; simp [blks]
  | .eptr _ _ _ _, v, _ => by unfold pack0 toks0 IV.Rep; simp [blks]
  | .tail _ _ _, v, _ => by unfold pack0 toks0 IV.Rep; simp [blks]
  | .d x, v, h => by unfold Val.Rep at h; unfold pack0 toks0 IV.Rep; exact ⟨h, by simp [blks]⟩
  | .dptr xs, v, h => by unfold Val.Rep at h; unfold pack0 toks0 IV.Rep; exact ⟨h, by simp [blks]⟩
  | .ref t l, v, h => by unfold pack0 toks0; exact pack_ref r h
  | .ptr t off, v, h => by
    unfold pack0 toks0
    cases ht : σ.getT t with
    | dbox ty cells => exact pack_dbox r h ht
    | _ => unfold IV.Rep; simp [blks]
  | .fn f caps, v, h => by
    unfold Val.Rep at h
    obtain ⟨arr, h1, h2⟩ := h
    unfold pack0 toks0 IV.Rep
    exact ⟨arr, h1, pack0L_rep r caps h2⟩
  | .agg cs, v, h => by
    unfold Val.Rep at h
    obtain ⟨arr, h1, h2, h3⟩ := h
    unfold pack0 toks0 IV.Rep
    exact ⟨arr, h1, pack0L_rep r cs h2, Val.RepL.one h2 h3⟩
  | .tup vs, v, h => by
    unfold Val.Rep at h
    obtain ⟨arr, h1, h2⟩ := h
    unfold pack0 toks0 IV.Rep
    exact ⟨arr, h1, pack0L_rep r vs h2⟩
theorem pack0L_rep (r : Rel X H L σ a w) : ∀ (xs : List Val) {vs : List Value}, Val.RepL H L xs vs → IV.RepL H w (pack0L σ xs) vs (blks σ L (toks0L σ xs))
  | [], vs, h => by unfold Val.RepL at h; subst h; unfold pack0L toks0L IV.RepL; simp [blks]
  | x :: xs, vs, h => by
    unfold Val.RepL at h
    obtain ⟨v, r', rfl, h1, h2⟩ := h
    unfold pack0L toks0L IV.RepL
    exact ⟨v, r', _, _, rfl, blks_append _ _, pack0_rep r x h1, pack0L_rep r xs h2⟩
end
mutual
theorem packV_rep (r : Rel X H L σ a w) : ∀ (x : Val) {v : Value}, x.Rep H L v → IV.Rep H w (packV σ x) v (blks σ L (toksV σ x))
  | .dead, v, _ => by unfold packV toksV IV.Rep; simp [blks]
  | .und, v, _ => by unfold packV toksV IV.Rep; simp [blks]
  | .cell, v, _ => by unfold packV toksV IV.Rep; simp [blks]
  | .eptr _ _ _ _, v, _ => by unfold packV toksV IV.Rep; simp [blks]
  | .tail _ _ _, v, _ => by unfold packV toksV IV.Rep; simp [blks]
  | .d x, v, h => by unfold Val.Rep at h; unfold packV toksV IV.Rep; exact ⟨h, by simp [blks]⟩
  | .dptr xs, v, h => by unfold Val.Rep at h; unfold packV toksV IV.Rep; exact ⟨h, by simp [blks]⟩
  | .ref t l, v, h => by unfold packV toksV; exact pack_ref r h
  | .ptr t off, v, h => by
    unfold packV toksV
    cases ht : σ.getT t with
    | dbox ty cells => exact pack_dbox r h ht
    | box ty cells =>
      have he := r.ents t
      rw [ht] at he
      obtain ⟨b, cur, h1, h2, h3, h4, _⟩ := he
      unfold Val.Rep at h
      obtain ⟨b', k1, rfl⟩ := h
      rw [h1] at k1
      simp only [Option.some.injEq, Value.pointer.injEq, Addr.mk.injEq, and_true] at k1
      subst k1
      unfold IV.Rep
      refine ⟨b, cur, _, rfl, h2, pack0L_rep r cells h3, Val.RepL.one h3 h4, ?_⟩
      simp [blks, ht, h1, mutBlk]
    | _ => unfold IV.Rep; simp [blks]
  | .fn f caps, v, h => by
    unfold Val.Rep at h
    obtain ⟨arr, h1, h2⟩ := h
    unfold packV toksV IV.Rep
    exact ⟨arr, h1, packL_rep r caps h2⟩
  | .agg cs, v, h => by
    unfold Val.Rep at h
    obtain ⟨arr, h1, h2, h3⟩ := h
    unfold packV toksV IV.Rep
    exact ⟨arr, h1, packL_rep r cs h2, Val.RepL.one h2 h3⟩
  | .tup vs, v, h => by
    unfold Val.Rep at h
    obtain ⟨arr, h1, h2⟩ := h
    unfold packV toksV IV.Rep
    exact ⟨arr, h1, packL_rep r vs h2⟩
theorem packL_rep (r : Rel X H L σ a w) : ∀ (xs : List Val) {vs : List Value}, Val.RepL H L xs vs → IV.RepL H w (packL σ xs) vs (blks σ L (toksL σ xs))
  | [], vs, h => by unfold Val.RepL at h; subst h; unfold packL toksL IV.RepL; simp [blks]
  | x :: xs, vs, h => by
    unfold Val.RepL at h
    obtain ⟨v, r', rfl, h1, h2⟩ := h
    unfold packL toksL IV.RepL
    exact ⟨v, r', _, _, rfl, blks_append _ _, packV_rep r x h1, packL_rep r xs h2⟩
end
/-- Tokens that are told apart are blocks apart. -/
theorem blks_ok (r : Rel X H L σ a w) : ∀ {ts : List Tok}, ts.Nodup → (blks σ L ts).Nodup ∧ ∀ b ∈ blks σ L ts, H b = none ∧ X.Mine b
  | [], _ => by simp [blks]
  | t :: ts, h => by
    simp only [List.nodup_cons] at h
    have ih := blks_ok r h.2
    unfold blks at *
    simp only [List.filterMap_cons]
    cases hb : mutBlk (σ.getT t) (L t) with
    | none => exact ih
    | some b =>
      simp only [List.nodup_cons]
      refine ⟨⟨fun hm => ?_, ih.1⟩, fun b' hb' => ?_⟩
      · obtain ⟨t', ht', hb'⟩ := List.mem_filterMap.1 hm
        exact r.apart t t' b (fun e => h.1 (e ▸ ht')) hb hb'
      · rcases List.mem_cons.1 hb' with rfl | hb'
        · exact ((r.ents t).lt hb).2
        · exact ih.2 b' hb'

/-- Rows that are held twice are never written again. -/
def freezeT (σ : St) : List Tok → St
  | [] => σ
  | t :: ts => match σ.getT t with
    | .row true nl e sz xs => freezeT (σ.putT t (.row false nl e sz xs)) ts
    | _ => freezeT σ ts
theorem freezeT_rel : ∀ (ts : List Tok) {σ : St} {H : Fz}, Rel X H L σ a w → ∃ H', H.le H' ∧ Rel X H' L (freezeT σ ts) a w
  | [], σ, H, r => ⟨H, Fz.le_refl H, r⟩
  | t :: ts, σ, H, r => by
    unfold freezeT
    split
    · rename_i nl e sz xs ht
      obtain ⟨H1, h1, h2⟩ := r.freeze ht
      obtain ⟨H2, h3, h4⟩ := freezeT_rel ts h2
      exact ⟨H2, Fz.le_trans h1 h3, h4⟩
    · exact freezeT_rel ts r
def dups {α : Type} [DecidableEq α] : List α → List α
  | [] => []
  | x :: xs => if x ∈ xs then x :: dups xs else dups xs
def cutT : List Val → List Tok
  | [] => []
  | .ref t (some _) :: r => t :: cutT r
  | _ :: r => cutT r
/-- The slots that are kept, gathered; where 1000001 is among them, rows that were cut short are never written again (and what lies behind the cut is known). -/
def gather (σ0 : St) (K : List Nat) : Option Sl :=
  let σ := freezeT σ0 (if 1000001 ∈ K then cutT (K.map σ0.getS) else [])
  let σ1 := freezeT σ (dups (toksL σ (K.map σ.getS)))
  if (toksL σ1 (K.map σ1.getS)).Nodup then some (K.zip (packL σ1 (K.map σ1.getS))) else none
theorem repL_slots {H : Fz} (r : Rel X H L σ a w) : ∀ (K : List Nat), Val.RepL H L (K.map σ.getS) (K.map fun i => a.tmps.getD i undef)
  | [] => by simp [Val.RepL]
  | i :: K => by
    simp only [List.map_cons]
    unfold Val.RepL
    exact ⟨_, _, rfl, r.env i, repL_slots r K⟩
theorem packL_len (σ : St) : ∀ xs : List Val, (packL σ xs).length = xs.length
  | [] => rfl
  | x :: xs => by unfold packL; simp [packL_len σ xs]
theorem gather_rel {σ0 : St} (r0 : Rel X H L σ0 a w) {K : List Nat} (hK : ∀ k ∈ K, k < 2000000 + X.N) {s : Sl} (h : gather σ0 K = some s) : ∃ H', H.le H' ∧ SRel X H' s a w ∧ ∀ p ∈ s, p.1 < 2000000 + X.N := by
  unfold gather at h
  dsimp only at h
  obtain ⟨H0, h0, r⟩ := freezeT_rel (if 1000001 ∈ K then cutT (K.map σ0.getS) else []) r0
  generalize freezeT σ0 (if 1000001 ∈ K then cutT (K.map σ0.getS) else []) = σ at h r
  suffices hs : ∃ H', H0.le H' ∧ SRel X H' s a w ∧ ∀ p ∈ s, p.1 < 2000000 + X.N by
    obtain ⟨H', h1, h2⟩ := hs
    exact ⟨H', Fz.le_trans h0 h1, h2⟩
  split at h
  · rename_i hn
    obtain ⟨H', h1, h2⟩ := freezeT_rel (dups (toksL σ (K.map σ.getS))) r
    simp only [Option.some.injEq] at h
    subst h
    have hb := blks_ok h2 hn
    have hlow : ∀ p ∈ K.zip (packL (freezeT σ (dups (toksL σ (K.map σ.getS)))) (K.map (freezeT σ (dups (toksL σ (K.map σ.getS)))).getS)), p.1 < 2000000 + X.N := fun p hp => hK _ (List.of_mem_zip hp).1
    refine ⟨H', h1, ⟨h2.le, h2.sub, h2.fr, h2.defers, h2.size, h2.lk, ⟨_, ?_, hb.1, hb.2⟩, h2.fz, fun k x hx hk => absurd (hlow _ hx) (Nat.not_lt.2 hk)⟩, hlow⟩
    have hp := packL_rep h2 _ (repL_slots h2 K)
    have hl : K.length = (packL (freezeT σ (dups (toksL σ (K.map σ.getS)))) (K.map (freezeT σ (dups (toksL σ (K.map σ.getS)))).getS)).length := by rw [packL_len, List.length_map]
    rw [List.map_snd_zip (by omega)]
    have e : (K.zip (packL (freezeT σ (dups (toksL σ (K.map σ.getS)))) (K.map (freezeT σ (dups (toksL σ (K.map σ.getS)))).getS))).map (fun p => a.tmps.getD p.1 undef) = K.map fun i => a.tmps.getD i undef := by
      have : (fun (p : Nat × IV) => a.tmps.getD p.1 undef) = (fun i => a.tmps.getD i undef) ∘ Prod.fst := rfl
      rw [this, ← List.map_map, List.map_fst_zip (by omega)]
    rw [e]
    exact hp
  · cases h
/-! ### Nil slices as rows of the call's own -/
mutual
theorem liftI_rep {H : Fz} {w : World} : ∀ (c : Cv) {x : IV} {v : Value} {bs : List Nat}, IV.Rep H w x v bs → IV.Rep H w (liftI c x) v bs
  | .no, x, v, bs, h => by unfold liftI; exact h
  | .own e, x, v, bs, h => by
    unfold liftI
    split
    · rename_i e0 sz he
      cases he
      unfold IV.Rep at h
      obtain ⟨h, rfl⟩ := h
      simp only [D.RepV] at h
      unfold D.Rep at h
      rcases h with ⟨_, _, _, h⟩ | ⟨h, _⟩
      · simp only [List.cons.injEq, and_true] at h
        subst h
        unfold IV.Rep
        exact ⟨[], ⟨by simp, .inl ⟨rfl, rfl⟩⟩, by unfold D.RepL; rfl, by simp, by simp, by simp [Value.ownBlock]⟩
      · cases h
    · rename_i he; cases he
    · rename_i he; cases he
    · rename_i he; cases he
    · rename_i he; cases he
    · exact h
  | .agg cs, x, v, bs, h => by
    unfold liftI
    split
    · rename_i he; cases he
    · rename_i cs' xs he
      cases he
      unfold IV.Rep at h
      obtain ⟨h, rfl⟩ := h
      simp only [D.RepV] at h
      obtain ⟨arr, rfl, h⟩ := h
      have h1 := D.Rep.one _ _ h
      unfold D.Rep at h
      unfold IV.Rep
      exact ⟨arr, rfl, liftD_rep cs h.1 h.2, h1⟩
    · rename_i cs' xs he
      cases he
      unfold IV.Rep at h ⊢
      obtain ⟨arr, rfl, h, h1⟩ := h
      exact ⟨arr, rfl, liftL_rep cs h, h1⟩
    · rename_i cs' ty off xs he
      cases he
      unfold IV.Rep at h ⊢
      obtain ⟨b, cur, bs', h1, h2, h3, h4, h5⟩ := h
      exact ⟨b, cur, bs', h1, h2, liftL_rep cs h3, h4, h5⟩
    · rename_i cs' ty off xs he
      cases he
      unfold IV.Rep at h ⊢
      obtain ⟨b, cur, h1, h2, h3, h4, h5⟩ := h
      exact ⟨b, cur, [], h1, h2, liftD_rep cs h3 h4, D.RepL.one _ _ h3, h5⟩
    · exact h
theorem liftD_rep {H : Fz} {w : World} : ∀ (cs : List Cv) {xs : List D} {vs : List Value}, D.RepL H xs vs → (∀ c ∈ xs, c.isAgg = false) → IV.RepL H w (liftD cs xs) vs []
  | [], xs, vs, h, ho => by unfold liftD; exact liftM_rep h ho
  | c :: cs, [], vs, h, ho => by unfold liftD; exact liftM_rep h ho
  | c :: cs, x :: xs, vs, h, ho => by
    unfold liftD
    unfold D.RepL at h
    obtain ⟨a, b, rfl, h1, h2⟩ := h
    have hl := D.Rep.len x a h1
    have hx := ho x (by simp)
    have h1' : a.length = 1 := by rw [hl]; cases x <;> first | rfl | simp [D.isAgg] at hx
    obtain ⟨v, rfl⟩ : ∃ v, a = [v] := by
      match a, h1' with
      | [v], _ => exact ⟨v, rfl⟩
    unfold IV.RepL
    refine ⟨v, b, [], [], rfl, rfl, liftI_rep c ?_, liftD_rep cs h2 (fun c hc => ho c (by simp [hc]))⟩
    unfold IV.Rep
    refine ⟨?_, rfl⟩
    cases x <;> first | (simp [D.isAgg] at hx; done) | exact h1
theorem liftL_rep {H : Fz} {w : World} : ∀ (cs : List Cv) {xs : List IV} {vs : List Value} {bs : List Nat}, IV.RepL H w xs vs bs → IV.RepL H w (liftL cs xs) vs bs
  | [], xs, vs, bs, h => by unfold liftL; exact h
  | c :: cs, [], vs, bs, h => by unfold liftL; exact h
  | c :: cs, x :: xs, vs, bs, h => by
    unfold liftL
    unfold IV.RepL at h ⊢
    obtain ⟨v, r, b1, b2, e1, e2, h1, h2⟩ := h
    exact ⟨v, r, b1, b2, e1, e2, liftI_rep c h1, liftL_rep cs h2⟩
theorem liftM_rep {H : Fz} {w : World} : ∀ {xs : List D} {vs : List Value}, D.RepL H xs vs → (∀ c ∈ xs, c.isAgg = false) → IV.RepL H w (xs.map .d) vs []
  | [], vs, h, ho => by unfold D.RepL at h; subst h; simp only [List.map_nil]; unfold IV.RepL; exact ⟨rfl, rfl⟩
  | x :: xs, vs, h, ho => by
    unfold D.RepL at h
    obtain ⟨a, b, rfl, h1, h2⟩ := h
    have hl := D.Rep.len x a h1
    have hx := ho x (by simp)
    have h1' : a.length = 1 := by rw [hl]; cases x <;> first | rfl | simp [D.isAgg] at hx
    obtain ⟨v, rfl⟩ : ∃ v, a = [v] := by
      match a, h1' with
      | [v], _ => exact ⟨v, rfl⟩
    simp only [List.map_cons]
    unfold IV.RepL
    refine ⟨v, b, [], [], rfl, rfl, ?_, liftM_rep h2 (fun c hc => ho c (by simp [hc]))⟩
    unfold IV.Rep
    refine ⟨?_, rfl⟩
    cases x <;> first | (simp [D.isAgg] at hx; done) | exact h1
end
def cvOf : List (Nat × Cv) → Nat → Cv
  | [], _ => .no
  | (j, c) :: r, i => if j = i then c else cvOf r i
def convS (cv : List (Nat × Cv)) : Sl → Sl
  | [] => []
  | (i, x) :: s => (i, liftI (cvOf cv i) x) :: convS cv s
theorem convS_rep {H : Fz} {w : World} {f : Nat → Value} (cv : List (Nat × Cv)) : ∀ {s : Sl} {bs : List Nat}, IV.RepL H w (s.map (·.2)) (s.map fun p => f p.1) bs → IV.RepL H w ((convS cv s).map (·.2)) ((convS cv s).map fun p => f p.1) bs
  | [], bs, h => h
  | (i, x) :: s, bs, h => by
    simp only [List.map_cons] at h
    unfold IV.RepL at h
    obtain ⟨v, r, b1, b2, he, rfl, h1, h2⟩ := h
    simp only [List.cons.injEq] at he
    obtain ⟨rfl, rfl⟩ := he
    unfold convS
    simp only [List.map_cons]
    unfold IV.RepL
    exact ⟨_, _, b1, b2, rfl, rfl, liftI_rep _ h1, convS_rep cv h2⟩
def gatherC (cv : List (Nat × Cv)) (σ : St) (K : List Nat) : Option Sl :=
  match gather σ K with
  | some s => some (convS cv s)
  | none => none
theorem convS_key (cv : List (Nat × Cv)) : ∀ {s : Sl} {p : Nat × IV}, p ∈ convS cv s → ∃ x, (p.1, x) ∈ s
  | [], p, h => by simp [convS] at h
  | (i, x) :: s, p, h => by
    unfold convS at h
    rcases List.mem_cons.1 h with rfl | h
    · exact ⟨x, List.mem_cons_self ..⟩
    · obtain ⟨y, hy⟩ := convS_key cv h
      exact ⟨y, List.mem_cons_of_mem _ hy⟩
theorem gatherC_rel {cv : List (Nat × Cv)} {σ0 : St} (r0 : Rel X H L σ0 a w) {K : List Nat} (hK : ∀ k ∈ K, k < 2000000 + X.N) {s : Sl} (h : gatherC cv σ0 K = some s) : ∃ H', H.le H' ∧ SRel X H' s a w ∧ ∀ p ∈ s, p.1 < 2000000 + X.N := by
  unfold gatherC at h
  split at h
  · rename_i s' hs
    simp only [Option.some.injEq] at h
    subst h
    obtain ⟨H', h1, h2, h5⟩ := gather_rel r0 hK hs
    obtain ⟨bs, h3, h4⟩ := h2.rep
    have hlow : ∀ p ∈ convS cv s', p.1 < 2000000 + X.N := fun p hp => by
      obtain ⟨x, hx⟩ := convS_key cv hp
      exact h5 (p.1, x) hx
    exact ⟨H', h1, ⟨h2.le, h2.sub, h2.fr, h2.defers, h2.size, h2.lk, ⟨bs, convS_rep (f := fun i => a.tmps.getD i undef) cv h3, h4⟩, h2.fz, fun k x hx hk => absurd (hlow _ hx) (Nat.not_lt.2 hk)⟩, hlow⟩
  · cases h
/-- Which slots are to be laid beside others: entries of a function's cv at 2000000 + 1000 i + j. -/
def alMarks : List (Nat × Cv) → List (Nat × Nat)
  | [] => []
  | (k, _) :: r => match Nat.ble 2000000 k with
    | true => ((k - 2000000) / 1000, (k - 2000000) % 1000) :: alMarks r
    | false => alMarks r
/-- Which slots are cells of variables of others: entries of a function's cv at 100000000 + 1000000 c + 1000 i + j. -/
def al2Marks : List (Nat × Cv) → List Nat
  | [] => []
  | (k, _) :: r => match Nat.ble 100000000 k with
    | true => (k - 100000000) :: al2Marks r
    | false => al2Marks r
def sameRow : Val → Val → Option Tok
  | .ref t none, .ref t' none => if t = t' then some t else none
  | _, _ => none
/-- One variable in two slots. -/
def samePtr : Val → Val → Bool
  | .ptr t o, .ptr t' o' => decide (t = t') && Nat.beq o o'
  | _, _ => false
def alOk (σ : St) (K : List Nat) (p : Nat × Nat) : Bool := K.elem p.1 && (K.elem p.2 && (Nat.blt p.1 1000 && (Nat.blt p.2 1000 && (match sameRow (σ.getS p.1) (σ.getS p.2) with
  | some t => match σ.getT t with
    | .row true _ _ _ _ => true
    | _ => false
  | none => samePtr (σ.getS p.1) (σ.getS p.2)))))
/-- Slots whose rows are never written again: entries of a function's cv at 3000000 + i. -/
def frToks (σ : St) : List (Nat × Cv) → List Tok
  | [] => []
  | (k, _) :: r => match Nat.ble 3000000 k with
    | true => toksV σ (σ.getS (k - 3000000)) ++ frToks σ r
    | false => frToks σ r
def rowLive (σ : St) (t : Tok) : Bool := match σ.getT t with
  | .row true _ _ _ _ => true
  | _ => false
/-- e = 1000000 c + 1000 i + j. -/
def al2Ok (σ : St) (K : List Nat) (e : Nat) : Bool := K.elem (e / 1000 % 1000) && (K.elem (e % 1000) && (match σ.getS (e % 1000) with
  | .ptr t 0 => match σ.getT t with
    | .box _ cells => match cells[e / 1000000]? with
      | some v => match sameRow v (σ.getS (e / 1000 % 1000)) with
        | some t => rowLive σ t
        | none => false
      | none => false
    | _ => false
  | _ => false))
theorem al2Ok_at (r : Rel X H L σ a w) {K : List Nat} {e : Nat} (h : al2Ok σ K e = true) : AlAt a w (100000000 + e) := by
  unfold al2Ok at h
  simp only [Bool.and_eq_true] at h
  obtain ⟨_, _, h⟩ := h
  unfold AlAt
  rw [if_pos (by omega)]
  have e0 : 100000000 + e - 100000000 = e := by omega
  rw [e0]
  have g1 := r.env (e % 1000)
  have g2 := r.env (e / 1000 % 1000)
  split at h
  · rename_i t ht
    rw [ht] at g1
    unfold Val.Rep at g1
    obtain ⟨b', k1, k2⟩ := g1
    split at h
    · rename_i ty cells hb
      have he := r.ents t
      rw [hb] at he
      obtain ⟨b1, cur1, h1, h2, h3, h4, _⟩ := he
      rw [k1] at h1
      simp at h1
      subst h1
      split at h
      · rename_i v hv
        obtain ⟨u, m1, m2⟩ := Val.RepL.get h3 hv
        refine ⟨b', cur1, ty, by rw [k2], h2, ?_⟩
        rw [m1]
        split at h
        · rename_i t1 hst
          unfold sameRow at hst
          split at hst
          · rename_i t2 t3 hv1
            split at hst
            · rename_i he12
              rw [hv1] at g2
              rw [← he12] at g2
              unfold Val.Rep at g2 m2
              rw [m2.1] at g2
              exact congrArg some (Option.some.inj g2.1)
            · cases hst
          · cases hst
        · cases h
      · cases h
    · cases h
  · cases h
def al2E (N : Nat) : List Nat → Sl := List.map fun e => (2000000 + N + (100000000 + e), IV.dead)
def gatherB (N : Nat) (cv : List (Nat × Cv)) (σ : St) (K : List Nat) : Option Sl :=
  match K.all fun k => Nat.blt k (2000000 + N) with
  | true => match (alMarks cv).filter (alOk σ K), (al2Marks cv).filter (al2Ok σ K) with
    | [], [] => gatherC cv σ K
    | als, bls => match gatherC cv σ (K.filter fun k => !(als.any (fun q => Nat.beq q.1 k) || bls.any (fun e => Nat.beq (e / 1000 % 1000) k))) with
      | some s => some (s ++ (al2E N bls ++ als.map fun q => (2000000 + N + (1000 * q.1 + q.2), IV.dead)))
      | none => none
  | false => none
theorem repL_dead {w : World} {f : Nat → Value} : ∀ (als : List (Nat × IV)), (∀ p ∈ als, p.2 = .dead) → ∀ {s : Sl} {bs : List Nat}, IV.RepL H w (s.map (·.2)) (s.map fun p => f p.1) bs → IV.RepL H w ((s ++ als).map (·.2)) ((s ++ als).map fun p => f p.1) bs
  | als, hd, [], bs, h => by
    unfold IV.RepL at h
    obtain rfl := h.2
    clear h
    induction als with
    | nil => simp [IV.RepL]
    | cons p als ih =>
      simp only [List.nil_append, List.map_cons]
      unfold IV.RepL
      refine ⟨_, _, [], [], rfl, rfl, ?_, ih (fun q hq => hd q (List.mem_cons_of_mem _ hq))⟩
      rw [hd p (List.mem_cons_self ..)]
      unfold IV.Rep
      rfl
  | als, hd, (i, x) :: s, bs, h => by
    simp only [List.map_cons] at h
    unfold IV.RepL at h
    obtain ⟨v, r, b1, b2, he, rfl, h1, h2⟩ := h
    simp only [List.cons.injEq] at he
    obtain ⟨rfl, rfl⟩ := he
    simp only [List.cons_append, List.map_cons]
    unfold IV.RepL
    exact ⟨_, _, b1, b2, rfl, rfl, h1, repL_dead als hd h2⟩
theorem gatherB_rel {cv : List (Nat × Cv)} {σ0 : St} (r0 : Rel X H L σ0 a w) {K : List Nat} {s : Sl} (h : gatherB X.N cv σ0 K = some s) : ∃ H', H.le H' ∧ SRel X H' s a w := by
  unfold gatherB at h
  split at h
  case h_2 => cases h
  rename_i hK0
  have hK : ∀ k ∈ K, k < 2000000 + X.N := fun k hk => by
    have := List.all_eq_true.1 hK0 k hk
    exact Nat.le_of_ble_eq_true this
  split at h
  · obtain ⟨H', h1, h2, _⟩ := gatherC_rel r0 hK h
    exact ⟨H', h1, h2⟩
  · rename_i hnn; clear hnn
    have hals : ∀ p ∈ (alMarks cv).filter (alOk σ0 K), alOk σ0 K p = true := fun p hp => (List.mem_filter.1 hp).2
    have hbls : ∀ p ∈ (al2Marks cv).filter (al2Ok σ0 K), al2Ok σ0 K p = true := fun p hp => (List.mem_filter.1 hp).2
    generalize (alMarks cv).filter (alOk σ0 K) = als at h hals
    generalize (al2Marks cv).filter (al2Ok σ0 K) = bls at h hbls
    split at h
    case h_2 => cases h
    rename_i s0 hs0
    simp only [Option.some.injEq] at h
    subst h
    obtain ⟨H', h1, h2, h3⟩ := gatherC_rel r0 (fun k hk => hK k (List.mem_filter.1 hk).1) hs0
    obtain ⟨bs, h4, h5⟩ := h2.rep
    refine ⟨H', h1, h2.le, h2.sub, h2.fr, h2.defers, h2.size, h2.lk, ⟨bs, repL_dead (f := fun i => a.tmps.getD i undef) _ (fun q hq => ?_) h4, h5⟩, h2.fz, fun k x hx hk => ?_⟩
    · rcases List.mem_append.1 hq with hq | hq
      · obtain ⟨q', _, rfl⟩ := List.mem_map.1 hq
        rfl
      · obtain ⟨q', _, rfl⟩ := List.mem_map.1 hq
        rfl
    · rcases List.mem_append.1 hx with hx | hx
      · exact absurd (h3 _ hx) (Nat.not_lt.2 hk)
      rcases List.mem_append.1 hx with hx | hx
      · obtain ⟨e, hq, he⟩ := List.mem_map.1 hx
        simp only [Prod.mk.injEq] at he
        obtain ⟨rfl, rfl⟩ := he
        have e1 : 2000000 + X.N + (100000000 + e) - (2000000 + X.N) = 100000000 + e := by omega
        rw [e1]
        exact al2Ok_at r0 (hbls e hq)
      · obtain ⟨q, hq, he⟩ := List.mem_map.1 hx
        have hok := hals q hq
        unfold alOk at hok
        simp only [Bool.and_eq_true] at hok
        obtain ⟨_, _, b1, b2, hsame⟩ := hok
        have c1 : q.1 < 1000 := Nat.le_of_ble_eq_true b1
        have c2 : q.2 < 1000 := Nat.le_of_ble_eq_true b2
        simp only [Prod.mk.injEq] at he
        obtain ⟨rfl, rfl⟩ := he
        have e0 : 2000000 + X.N + (1000 * q.1 + q.2) - (2000000 + X.N) = 1000 * q.1 + q.2 := by omega
        rw [e0]
        unfold AlAt
        rw [if_neg (by omega)]
        have e1 : (1000 * q.1 + q.2) / 1000 = q.1 := by omega
        have e2 : (1000 * q.1 + q.2) % 1000 = q.2 := by omega
        rw [e1, e2]
        have g1 := r0.env q.1
        have g2 := r0.env q.2
        split at hsame
        · rename_i t hst
          unfold sameRow at hst
          split at hst
          · rename_i t1 t2 hv1 hv2
            split at hst
            · rename_i he12
              rw [hv1] at g1
              rw [hv2, ← he12] at g2
              unfold Val.Rep at g1 g2
              exact Option.some.inj (g1.1.symm.trans g2.1)
            · cases hst
          · cases hst
        · unfold samePtr at hsame
          split at hsame
          · rename_i t1 o1 t2 o2 hv1 hv2
            simp only [Bool.and_eq_true, decide_eq_true_eq] at hsame
            obtain ⟨rfl, ho⟩ := hsame
            have ho := Nat.eq_of_beq_eq_true ho
            subst ho
            rw [hv1] at g1
            rw [hv2] at g2
            unfold Val.Rep at g1 g2
            obtain ⟨b1, k1, k2⟩ := g1
            obtain ⟨b2, k3, k4⟩ := g2
            rw [k1] at k3
            cases k3
            rw [k2, k4]
          · cases hsame
theorem Rel.putSlot (r : Rel X H L σ a w) {i : Nat} {v : Val} (hv : v.Rep H L (a.tmps.getD i undef)) : Rel X H L (σ.putS i v) a w where
  le := r.le
  sub := r.sub
  fr := r.fr
  defers := r.defers
  size := r.size
  env := fun j => by
    rw [St.getS_putS]
    by_cases h : i = j
    · subst h; rw [if_pos rfl]; exact hv
    · rw [if_neg h]; exact r.env j
  ents := r.ents
  apart := r.apart
  lk := r.lk
  fz := r.fz
/-- A variable that is never written again. -/
theorem Rel.freezeBox (r : Rel X H L σ a w) {t : Tok} {ty : TypeId} {cells : List D} (h0 : σ.getT t = .dbox ty cells) :
    ∃ H', H.le H' ∧ Rel X H' L (σ.putT t .gone) a w ∧ ∀ v, (Val.ptr t 0).Rep H L v → (Val.dptr cells).Rep H' L v := by
  have hent := r.ents t
  rw [h0] at hent
  obtain ⟨b, cur, h1, h2, h3, h4, h5, h6⟩ := hent
  have hm : mutBlk (σ.getT t) (L t) = some b := by rw [h0, h1]; rfl
  have hle := Fz.le_upd h5 (Obj.cells cur ty (0, 0))
  refine ⟨H.upd b (Obj.cells cur ty (0, 0)), hle, r.move (fun i => rfl) (Vl.le_refl L) hle (fun k o hk => ?_) r.fr r.sub (fun u => t = u) (fun u hu => ⟨by rw [St.getT_putT, if_neg hu], rfl⟩) (fun u b' hu hb' => ⟨rfl, ?_⟩) (fun u hu => ?_) (fun u u1 b1 hu hne hb1 => ?_) (fun k hk => by
      have hne : b ≠ k := fun e => hk (e ▸ h6)
      simp [Fz.upd, hne]), fun v hv => ?_⟩
  · unfold Fz.upd at hk
    by_cases e : b = k
    · subst e
      rw [if_pos rfl] at hk
      cases hk
      exact h2
    · rw [if_neg e] at hk
      exact r.sub k o hk
  · have h8 := ((r.ents u).lt hb').2.1
    unfold Fz.upd
    have : b ≠ b' := fun e => by subst e; exact r.apart t u b hu hm hb'
    rw [if_neg this]; exact h8
  · subst hu
    rw [St.getT_putT, if_pos rfl]
    trivial
  · subst hu
    rw [St.getT_putT, if_pos rfl] at hb1
    simp [mutBlk] at hb1
  · unfold Val.Rep at hv ⊢
    obtain ⟨b', k1, rfl⟩ := hv
    rw [h1] at k1
    simp only [Option.some.injEq, Value.pointer.injEq, Addr.mk.injEq, and_true] at k1
    subst k1
    refine ⟨_, cur.toList, rfl, D.RepL.le hle _ _ h3, fun j u hj => ?_, h4⟩
    unfold cellH
    rw [add_off, Nat.zero_add]
    simp [Fz.upd]
    simpa using hj
/-- Slots whose variables are never written again: entries of a function's cv at 5000000 + i. -/
def frBox (σ : St) : List (Nat × Cv) → St
  | [] => σ
  | (k, _) :: r => match Nat.ble 5000000 k with
    | true => match σ.getS (k - 5000000) with
      | .ptr t 0 => match σ.getT t with
        | .dbox _ cells => frBox ((σ.putT t .gone).putS (k - 5000000) (.dptr cells)) r
        | _ => frBox σ r
      | _ => frBox σ r
    | false => frBox σ r
theorem frBox_rel : ∀ (cv : List (Nat × Cv)) {σ : St} {H : Fz}, Rel X H L σ a w → ∃ H', H.le H' ∧ Rel X H' L (frBox σ cv) a w
  | [], σ, H, r => ⟨H, Fz.le_refl H, r⟩
  | (k, _) :: cv, σ, H, r => by
    unfold frBox
    split
    · split
      · rename_i t hs
        split
        · rename_i ty cells ht
          obtain ⟨H1, h1, h2, h3⟩ := r.freezeBox ht
          have he := r.env (k - 5000000)
          rw [hs] at he
          obtain ⟨H2, k1, k2⟩ := frBox_rel cv (h2.putSlot (i := k - 5000000) (h3 _ he))
          exact ⟨H2, Fz.le_trans h1 k1, k2⟩
        · exact frBox_rel cv r
      · exact frBox_rel cv r
    · exact frBox_rel cv r
/-- What is told of nil slices in a region: a mark at 6000000 + 1000 r + i says that from region r on nothing is told of slot i. -/
def cvAt (cv : List (Nat × Cv)) (id : Nat) : List (Nat × Cv) :=
  match cv.any fun q => Nat.ble 6000000 q.1 with
  | false => cv
  | true => cv.filter fun p => !(cv.any fun q => Nat.ble 6000000 q.1 && (Nat.beq ((q.1 - 6000000) % 1000) p.1 && Nat.ble ((q.1 - 6000000) / 1000) id))
def gatherA (N : Nat) (cv : List (Nat × Cv)) (σ : St) (K : List Nat) : Option Sl := gatherB N cv (freezeT (frBox σ cv) (frToks (frBox σ cv) cv)) K
theorem gatherA_rel {cv : List (Nat × Cv)} {σ0 : St} (r0 : Rel X H L σ0 a w) {K : List Nat} {s : Sl} (h : gatherA X.N cv σ0 K = some s) : ∃ H', H.le H' ∧ SRel X H' s a w := by
  obtain ⟨H0, h0, r⟩ := frBox_rel cv r0
  obtain ⟨H1, h1, r1⟩ := freezeT_rel (frToks (frBox σ0 cv) cv) r
  obtain ⟨H2, h2, r2⟩ := gatherB_rel r1 h
  exact ⟨H2, Fz.le_trans h0 (Fz.le_trans h1 h2), r2⟩
end
end Go.Ab
