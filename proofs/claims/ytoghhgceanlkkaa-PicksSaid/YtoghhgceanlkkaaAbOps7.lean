/- The operations, one by one: what the evaluator tells is what the machine does. Seventh part: stores, addresses. No condition. -/
import Derived.Test.YtoghhgceanlkkaaAbOps6
set_option linter.unusedVariables false
set_option linter.unusedSimpArgs false
namespace Go.Ab
open Go

section
variable {X : Cx} {E : Ev} {C : Caller}

theorem run_storeVar {w : World} {ty : TypeId} {td : TD} (hd : TdOk X.P ty td) {b o : Nat} {t : TypeId} {cur : Array Value} {v : Value} (hb : w.heap[b]? = some (.cells cur t (0, 0))) (hs : v.cells.size = td.size) (hl : o + td.size ≤ cur.size) (h1 : ∀ u ∈ v.cells.toList, u.oneCell' = true) :
    (storeVar ty ⟨b, o, none⟩ v).run X.P w = .ok () (w.setRow b (cur.toList.take o ++ v.cells.toList ++ cur.toList.drop (o + v.cells.size)).toArray) := by
  have := run_storeCells_at (P := X.P) b o t v.cells.toList 0 cur w hb (by simpa [hs] using hl) h1
  simp only [Nat.add_zero, Array.length_toList] at this
  simp [storeVar, hd.run_size, hs, this]
theorem setRow_grown (w : World) (b : Nat) (cs : Array Value) : w.grownBy (w.setRow b cs) (some b) := ⟨rfl, rfl, rfl, by simp, fun k _ hk => setRow_other w b k _ (fun e => hk (by rw [e]))⟩

theorem setR_eq {α : Type} (cs : List α) (off : Nat) (vs : List α) (h : off + vs.length ≤ cs.length) : setR cs off vs = cs.take off ++ vs ++ cs.drop (off + vs.length) := by
  unfold setR
  split
  · rename_i v
    simp only [List.length_cons, List.length_nil, Nat.zero_add] at h
    rw [List.set_eq_take_append_cons_drop, if_pos (by omega)]
    simp
  · rfl

/-- Where a value that holds a row of the call's own comes into a variable of so many cells, at most, its cells are told one by one. -/
def boxMax : Nat := 12
def storeP (E : Ev) (o : Oper) (ty : TypeId) (p x : Operand) : Prog :=
  opnd E.T E.G o.type p fun pv => opnd E.T E.G ty x fun v => match E.T.get ty with
    | none => .fail
    | some td => match pv with
      | .ptr t off => .getT t fun en => match en with
        | .dbox ty0 cells => match v with
          | .d y => if ty = ty0 ∧ off = 0 ∧ isAggT td = true then needs [decide (cells.length = td.size), y.width == td.size] (.putT t (.dbox ty0 y.cells) (putD E o .und))
              else needs [y.width == td.size, decide (off + y.cells.length ≤ cells.length), decide (y.cells.length = td.size)] (.putT t (.dbox ty0 (setR cells off y.cells)) (putD E o .und))
          | _ => match v.cells with
            | some vs => needs [decide (vs.length = td.size), decide (off + vs.length ≤ cells.length), decide (cells.length ≤ boxMax)] (.putT t (.box ty0 (setR (cells.map .d) off vs)) (putD E o .und))
            | none => .fail
        | .box ty0 cells => match v.cells with
          | some vs => needs [decide (vs.length = td.size), decide (off + vs.length ≤ cells.length), vs.all Val.isCell] (.putT t (.box ty0 (setR cells off vs)) (putD E o .und))
          | none => .fail
        | _ => .fail
      | .eptr t sz i off => freeze v fun y => .getT t fun en => match en with
        | .row true nl e sz' xs => if sz = sz' then .elem (some (tagOf E.T e)) xs i fun old => if off = 0 ∧ td.size = sz then needs [y.width == sz] (.putT t (.row true nl e sz (xs.set i y)) (putD E o .und))
              else needs [y.width == td.size, decide (off + y.cells.length ≤ old.cells.length), decide (y.cells.length = td.size), decide (old.cells.length = sz)] (.putT t (.row true nl e sz (xs.set i (.agg (setR old.cells off y.cells)))) (putD E o .und))
            else .fail
        | _ => .fail
      | _ => .fail

theorem und_rep {H : Fz} {L : Vl} : (Val.und).Rep H L undef := by unfold Val.Rep; rfl
/-- 'v.cells' are the value's cells. -/
theorem Val.cells_rep {H : Fz} {L : Vl} {v : Val} {u : Value} {vs : List Val} (h : v.Rep H L u) (hc : v.cells = some vs) : Val.RepL H L vs u.cells.toList ∧ ∀ c ∈ vs, c.isCell = true := by
  cases v <;> simp [Val.cells] at hc
  case d x =>
    subst hc
    unfold Val.Rep at h
    have hz := h.cells
    refine ⟨hz.1.vals hz.2.1, fun c hc => ?_⟩
    obtain ⟨y, hy, rfl⟩ := List.mem_map.1 hc
    simp [Val.isCell, hz.2.1 y hy]
  case ref t l =>
    subst hc
    rw [(Val.isCell_one h rfl).2]
    exact ⟨repL_one h, by simp [Val.isCell]⟩
  case ptr t off =>
    subst hc
    rw [(Val.isCell_one h rfl).2]
    exact ⟨repL_one h, by simp [Val.isCell]⟩
  case fn f cs =>
    subst hc
    rw [(Val.isCell_one h rfl).2]
    exact ⟨repL_one h, by simp [Val.isCell]⟩
  case agg cs =>
    obtain ⟨h1, rfl⟩ := hc
    unfold Val.Rep at h
    obtain ⟨arr, rfl, h2, h3⟩ := h
    exact ⟨h2, h3⟩
theorem Val.RepL.one {H : Fz} {L : Vl} : ∀ {xs : List Val} {us : List Value}, Val.RepL H L xs us → (∀ c ∈ xs, c.isCell = true) → ∀ u ∈ us, u.oneCell' = true
  | [], us, h, _, u, hu => by unfold Val.RepL at h; subst h; simp at hu
  | x :: xs, us, h, ho, u, hu => by
    unfold Val.RepL at h
    obtain ⟨v, r, rfl, h1, h2⟩ := h
    rcases List.mem_cons.1 hu with rfl | hu
    · exact (Val.isCell_one h1 (ho x (by simp))).1
    · exact Val.RepL.one h2 (fun c hc => ho c (by simp [hc])) u hu
theorem repL_setR {H : Fz} {L : Vl} {cells vs : List Val} {us ws : List Value} (h : Val.RepL H L cells us) (h' : Val.RepL H L vs ws) {off : Nat} (hl : off + vs.length ≤ cells.length) : Val.RepL H L (setR cells off vs) (us.take off ++ ws ++ us.drop (off + ws.length)) := by
  rw [setR_eq _ _ _ hl, h'.len]
  exact Val.RepL.append (Val.RepL.drop _ h) (Val.RepL.append h' (Val.RepL.take _ h))
theorem set_cells {α : Type} (cs : List α) (off : Nat) (vs : List α) {P : α → Prop} (h : ∀ c ∈ cs, P c) (h' : ∀ c ∈ vs, P c) (hl : off + vs.length ≤ cs.length) : ∀ c ∈ setR cs off vs, P c := by
  rw [setR_eq _ _ _ hl]
  intro c hc
  simp only [List.mem_append] at hc
  rcases hc with (hc | hc) | hc
  · exact h c (List.mem_of_mem_take hc)
  · exact h' c hc
  · exact h c (List.mem_of_mem_drop hc)
theorem map_setR {α β : Type} (f : α → β) (cs : List α) (off : Nat) (vs : List α) (hl : off + vs.length ≤ cs.length) : (setR cs off vs).map f = setR (cs.map f) off (vs.map f) := by
  rw [setR_eq _ _ _ hl, setR_eq _ _ _ (by simpa using hl)]
  simp
/-- An element of a row is written. -/
theorem row_set {H : Fz} {L : Vl} {σ : St} {a : Act} {w : World} (r : Rel X H L σ a w) {t : Tok} {nl : Bool} {e : TypeId} {sz : Nat} {xs : List D} (hrow : σ.getT t = .row true nl e sz xs) {b n c : Nat} (hL : L t = some (.slice (some ⟨b, 0, none⟩) n c))
    {i : Nat} {old y : D} (hx : xs[i]? = some old) (hy : y.width = sz) {seg : List Value} {off : Nat} (hyr : ∀ us, D.Rep H old us → D.Rep H y (us.take off ++ seg ++ us.drop (off + seg.length))) (hoff : off + seg.length ≤ sz) (hone : ∀ u ∈ seg, u.oneCell' = true) :
    ∃ cur, w.heap[b]? = some (.cells cur e (0, 0)) ∧ i * sz + off + seg.length ≤ cur.size ∧
      Rel X H L (σ.putT t (.row true nl e sz (xs.set i y))) a (w.setRow b (cur.toList.take (i * sz + off) ++ seg ++ cur.toList.drop (i * sz + off + seg.length)).toArray) := by
  have he := r.ents t
  rw [hrow] at he
  obtain ⟨v0, cells, h1, h2, h3, h4, h5, h6⟩ := he
  rw [hL] at h1
  cases h1
  have hil : i < xs.length := (List.getElem?_eq_some_iff.1 hx).1
  rcases h2.2 with ⟨e0, _⟩ | ⟨g, cap, cur, e0, e1, e2, e3, e4, e5, e6⟩
  · simp at e0
  simp only [Value.slice.injEq, Option.some.injEq, Addr.mk.injEq, and_true, true_and] at e0
  obtain ⟨rfl, hn, rfl⟩ := e0
  have hle : (i + 1) * sz ≤ xs.length * sz := Nat.mul_le_mul_right _ hil
  have hcap : xs.length * sz ≤ c * sz := Nat.mul_le_mul_right _ e3
  have hsz : i * sz + off + seg.length ≤ cur.size := by rw [e5]; rw [Nat.add_mul] at hle; omega
  refine ⟨cur, e2, hsz, ?_⟩
  have hmb : mutBlk (σ.getT t) (L t) = some b := by rw [hrow, hL]; rfl
  refine r.write hmb (setRow_grown w b _) ⟨_, cells.take (i * sz + off) ++ seg ++ cells.drop (i * sz + off + seg.length), hL, ?_, ?_, ?_, h5, h6⟩ (by rw [hL]; rfl)
  · -- the row
    have hcl : cells.length = xs.length * sz := h2.1
    refine ⟨?_, .inr ⟨b, c, _, by rw [hn, List.length_set], e1, setRow_heap w b cur _ e _ e2, by simpa using e3, e4, ?_, ?_⟩⟩
    · simp only [List.length_append, List.length_take, List.length_drop, List.length_set]
      rw [Nat.add_mul] at hle
      omega
    · simp only [List.size_toArray, List.length_append, List.length_take, List.length_drop, Array.length_toList]
      omega
    · simp only [List.length_set]
      rw [← e6]
      rw [Nat.add_mul] at hle
      have hA : i * sz + off + seg.length ≤ xs.length * sz := by omega
      apply List.ext_getElem?
      intro j
      simp only [List.getElem?_take, List.getElem?_append, List.getElem?_drop, List.length_take, List.length_append, List.length_drop, Array.length_toList]
      by_cases hj : j < xs.length * sz
      · simp only [hj, if_true]
        by_cases hj1 : j < i * sz + off
        · simp [hj1, show j < min (i * sz + off) cur.size by omega, show j < min (i * sz + off) (min (xs.length * sz) cur.size) by omega, hj, show j < min (i * sz + off) cur.size + seg.length by omega, show j < min (i * sz + off) (min (xs.length * sz) cur.size) + seg.length by omega]
        · by_cases hj2 : j < i * sz + off + seg.length
          · have q1 : min (i * sz + off) cur.size = i * sz + off := by omega
            have q2 : min (i * sz + off) (min (xs.length * sz) cur.size) = i * sz + off := by omega
            simp [q1, q2, hj1, hj2]
          · have q1 : min (i * sz + off) cur.size = i * sz + off := by omega
            have q2 : min (i * sz + off) (min (xs.length * sz) cur.size) = i * sz + off := by omega
            have q3 : i * sz + off + seg.length + (j - (i * sz + off + seg.length)) = j := by omega
            simp [q1, q2, hj1, hj2, q3, hj]
      · have q1 : min (i * sz + off) cur.size = i * sz + off := by omega
        have q2 : min (i * sz + off) (min (xs.length * sz) cur.size) = i * sz + off := by omega
        have q3 : i * sz + off + seg.length + (j - (i * sz + off + seg.length)) = j := by omega
        simp [hj, q1, q2, q3, show ¬ j < i * sz + off by omega, show ¬ j < i * sz + off + seg.length by omega]
  · -- the elements
    have hsplit : xs.set i y = xs.take i ++ y :: xs.drop (i + 1) := by rw [List.set_eq_take_append_cons_drop, if_pos hil]
    have hxs : xs = xs.take i ++ old :: xs.drop (i + 1) := by
      have q := List.drop_eq_getElem_cons hil
      rw [(List.getElem?_eq_some_iff.1 hx).2] at q
      rw [← q, List.take_append_drop]
    rw [hsplit]
    rw [hxs] at h3
    obtain ⟨c1, c2, rfl, k1, k2⟩ := D.RepL.split h3
    unfold D.RepL at k2
    obtain ⟨c3, c4, rfl, k3, k4⟩ := k2
    have hc1 : c1.length = i * sz := by
      rw [D.RepL.len _ _ k1, D.widthL_const (sz := sz) (fun z hz => h4 z (List.mem_of_mem_take hz)), List.length_take, Nat.min_eq_left (Nat.le_of_lt hil)]
    have hc3 : c3.length = sz := by
      rw [D.Rep.len _ _ k3]
      exact h4 old (List.mem_of_getElem? hx)
    have q : (c1 ++ (c3 ++ c4)).take (i * sz + off) ++ seg ++ (c1 ++ (c3 ++ c4)).drop (i * sz + off + seg.length) = c1 ++ ((c3.take off ++ seg ++ c3.drop (off + seg.length)) ++ c4) := by
      rw [← hc1, List.take_length_add_append, Nat.add_assoc, List.drop_length_add_append, List.take_append_of_le_length (by omega), List.drop_append_of_le_length (by omega)]
      simp
    rw [q]
    refine D.RepL.append ?_ k1
    unfold D.RepL
    exact ⟨_, _, rfl, hyr c3 k3, k4⟩
  · intro z hz
    rcases List.mem_or_eq_of_mem_set hz with hz | rfl
    · exact h4 z hz
    · exact hy
theorem storeP_ok (k : Cxk X E) {o : Oper} {ty : TypeId} {p x : Operand} (ho : o.op = .store ty p x) : OpOk X C o (storeP E o ty p x) := by
  intro H L σ a w σ' r h K Q hK
  obtain ⟨pv, h1, h2⟩ := opnd_run k r h
  obtain ⟨v, h3, h4⟩ := opnd_run k r h1
  split at h3
  · exact (fail_run h3).elim
  rename_i td htd
  have hd := k.tab _ _ htd
  have fin : ∀ H1 L1 σ1 ad w1, a.eval p = .pointer (some ad) → (storeVar ty ad (a.eval x)).run X.P w = .ok () w1 → Rel X H1 L1 σ1 a w1 → (putD E o .und).run C σ1 = some σ' → o.wp X.P a w K Q := fun H1 L1 σ1 ad w1 he hr r1 hp => by
    have := putD_run k r1 (und_rep (H := H1) (L := L1)) hp
    have hex : (execOp a.eval o).run X.P w = .ok .skip w1 := by simp [execOp, ho, Instr.storeAt, he, Instr.sureAddr, hr]
    unfold Oper.wp
    rw [hex]
    exact hK _ _ _ _ this
  split at h3
  · rename_i t off
    unfold Val.Rep at h2
    obtain ⟨b, hL, e1⟩ := h2
    simp only [Prog.run] at h3
    split at h3
    · rename_i ty0 cells hen
      have he := r.ents t
      rw [hen] at he
      obtain ⟨b', cur, g1, g2, g3, g4, g5, g6⟩ := he
      rw [hL] at g1
      simp only [Option.some.injEq, Value.pointer.injEq, Addr.mk.injEq, and_true] at g1
      subst g1
      have hcur : cur.size = cells.length := by have := repL_len g3 g4; simpa using this
      have hmb : mutBlk (σ.getT t) (L t) = some b := by rw [hen, hL]; rfl
      split at h3
      · rename_i y
        unfold Val.Rep at h4
        have hz := h4.cells
        have hyw : (a.eval x).cells.size = y.width := by have := D.Rep.len _ _ hz.2.2; simpa using this
        have hone := D.Rep.one _ _ hz.2.2
        split at h3
        · rename_i hc
          obtain ⟨rfl, rfl, hagg⟩ := hc
          simp only [needs] at h3
          obtain ⟨q1, h3⟩ := need_run h3
          obtain ⟨q2, h3⟩ := need_run h3
          simp only [Prog.run, decide_eq_true_eq] at q1 h3
          have q2 : y.width = td.size := by simpa using q2
          have hst := run_storeVar hd (o := 0) g2 (hyw.trans q2) (by omega) hone
          have hnew : (cur.toList.take 0 ++ (a.eval x).cells.toList ++ cur.toList.drop (0 + (a.eval x).cells.size)).toArray = (a.eval x).cells := by
            rw [List.drop_of_length_le (by simp; omega)]
            simp
          rw [hnew] at hst
          refine fin H L _ _ _ e1 hst (r.write (e := .dbox ty y.cells) hmb (setRow_grown w b _) ⟨b, _, hL, setRow_heap w b cur _ ty _ g2, hz.1, hz.2.1, g5, g6⟩ (by rw [hL]; rfl)) h3
        · simp only [needs] at h3
          obtain ⟨q1, h3⟩ := need_run h3
          obtain ⟨q2, h3⟩ := need_run h3
          obtain ⟨q3, h3⟩ := need_run h3
          simp only [Prog.run, decide_eq_true_eq] at q2 q3 h3
          have q1 : y.width = td.size := by simpa using q1
          have hst := run_storeVar hd (o := off) g2 (hyw.trans q1) (by omega) hone
          have hrep := repL_setR (L := L) (g3.vals g4) (hz.1.vals hz.2.1) (off := off) (by simpa using q2)
          rw [← map_setR _ _ _ _ q2] at hrep
          have hag := set_cells cells off y.cells (P := fun c => c.isAgg = false) g4 hz.2.1 q2
          have hlen : (a.eval x).cells.toList.length = (a.eval x).cells.size := by simp
          rw [hlen] at hrep
          refine fin H L _ _ _ e1 hst (r.write (e := .dbox ty0 (setR cells off y.cells)) hmb (setRow_grown w b _) ⟨b, _, hL, setRow_heap w b cur _ ty0 _ g2, by simpa using Val.RepL.data hrep hag, hag, g5, g6⟩ (by rw [hL]; rfl)) h3
      · split at h3
        · rename_i vs hvs
          have hz := Val.cells_rep h4 hvs
          simp only [needs] at h3
          obtain ⟨q1, h3⟩ := need_run h3
          obtain ⟨q2, h3⟩ := need_run h3
          obtain ⟨q3, h3⟩ := need_run h3
          simp only [Prog.run, decide_eq_true_eq] at q1 q2 h3
          have hvl : (a.eval x).cells.size = vs.length := by have := hz.1.len; simpa using this
          have hst := run_storeVar hd (o := off) g2 (hvl.trans q1) (by omega) (Val.RepL.one hz.1 hz.2)
          have hrep := repL_setR (L := L) (g3.vals g4) hz.1 (off := off) (by simpa using q2)
          have hlen : (a.eval x).cells.toList.length = (a.eval x).cells.size := by simp
          rw [hlen] at hrep
          have hag := set_cells (cells.map Val.d) off vs (P := fun c => c.isCell = true) (fun c hc => by
            obtain ⟨y, hy, rfl⟩ := List.mem_map.1 hc
            simp [Val.isCell, g4 y hy]) hz.2 (by simpa using q2)
          refine fin H L _ _ _ e1 hst (r.write (e := .box ty0 (setR (cells.map Val.d) off vs)) hmb (setRow_grown w b _) ⟨b, _, hL, setRow_heap w b cur _ ty0 _ g2, by simpa using hrep, hag, g5, g6⟩ (by rw [hL]; rfl)) h3
        · exact (fail_run h3).elim
    · rename_i ty0 cells hen
      have he := r.ents t
      rw [hen] at he
      obtain ⟨b', cur, g1, g2, g3, g4, g5, g6⟩ := he
      rw [hL] at g1
      simp only [Option.some.injEq, Value.pointer.injEq, Addr.mk.injEq, and_true] at g1
      subst g1
      have hcur : cur.size = cells.length := by have := g3.len; simpa using this
      have hmb : mutBlk (σ.getT t) (L t) = some b := by rw [hen, hL]; rfl
      split at h3
      · rename_i vs hvs
        have hz := Val.cells_rep h4 hvs
        simp only [needs] at h3
        obtain ⟨q1, h3⟩ := need_run h3
        obtain ⟨q2, h3⟩ := need_run h3
        obtain ⟨q3, h3⟩ := need_run h3
        simp only [Prog.run, decide_eq_true_eq] at q1 q2 h3
        have hvl : (a.eval x).cells.size = vs.length := by have := hz.1.len; simpa using this
        have hst := run_storeVar hd (o := off) g2 (hvl.trans q1) (by omega) (Val.RepL.one hz.1 hz.2)
        have hrep := repL_setR (L := L) g3 hz.1 (off := off) q2
        have hlen : (a.eval x).cells.toList.length = (a.eval x).cells.size := by simp
        rw [hlen] at hrep
        have hag := set_cells cells off vs (P := fun c => c.isCell = true) g4 hz.2 q2
        refine fin H L _ _ _ e1 hst (r.write (e := .box ty0 (setR cells off vs)) hmb (setRow_grown w b _) ⟨b, _, hL, setRow_heap w b cur _ ty0 _ g2, by simpa using hrep, hag, g5, g6⟩ (by rw [hL]; rfl)) h3
      · exact (fail_run h3).elim
    · exact (fail_run h3).elim
  · rename_i t sz i off
    unfold Val.Rep at h2
    obtain ⟨b, n, c, hL, e1⟩ := h2
    obtain ⟨y, H1, σ1, h5, h6, r1, h7, _⟩ := freeze_run (H := H) v r h4 h3
    have hz := h7.cells
    have hyw : (a.eval x).cells.size = y.width := by have := D.Rep.len _ _ hz.2.2; simpa using this
    have hone := D.Rep.one _ _ hz.2.2
    simp only [Prog.run] at h5
    split at h5
    · rename_i nl e sz' xs hrow
      split at h5
      · rename_i hsz
        subst hsz
        obtain ⟨old, hx, h8⟩ := elem_run h5
        split at h8
        · rename_i hc
          obtain ⟨rfl, hts⟩ := hc
          simp only [needs] at h8
          obtain ⟨q1, h8⟩ := need_run h8
          simp only [Prog.run] at h8
          have q1 : y.width = sz := by simpa using q1
          have hlen : (a.eval x).cells.toList.length = sz := by rw [Array.length_toList, hyw, q1]
          obtain ⟨cur, k1, k2, k3⟩ := row_set r1 hrow hL hx q1 (seg := (a.eval x).cells.toList) (off := 0) (fun us hus => by
            have hul := D.Rep.len _ _ hus
            have ho : old.width = sz := by
              have he := r1.ents t
              rw [hrow] at he
              obtain ⟨_, _, _, _, _, hw, _⟩ := he
              exact hw old (List.mem_of_getElem? hx)
            rw [List.drop_of_length_le (by omega)]
            simpa using hz.2.2) (by omega) hone
          have hst := run_storeVar (v := a.eval x) hd (o := i * sz + 0) k1 (by omega) (by omega) hone
          rw [Array.length_toList] at k3
          exact fin _ _ _ _ _ e1 hst k3 h8
        · simp only [needs] at h8
          obtain ⟨q1, h8⟩ := need_run h8
          obtain ⟨q2, h8⟩ := need_run h8
          obtain ⟨q3, h8⟩ := need_run h8
          obtain ⟨q4, h8⟩ := need_run h8
          simp only [Prog.run, decide_eq_true_eq] at q2 q3 q4 h8
          have q1 : y.width = td.size := by simpa using q1
          have hlen : (a.eval x).cells.toList.length = td.size := by rw [Array.length_toList, hyw, q1]
          have holdc : ∀ us, D.Rep H1 old us → D.RepL H1 old.cells us ∧ ∀ c ∈ old.cells, c.isAgg = false := fun us hus => D.cells_Rep hus
          have hwid : (D.agg (setR old.cells off y.cells)).width = sz := by
            have he := r1.ents t
            rw [hrow] at he
            obtain ⟨us, j1, _⟩ := row_elem he hL hx
            have hag := set_cells old.cells off y.cells (P := fun c => c.isAgg = false) (holdc us j1).2 hz.2.1 q2
            have hw1 : D.widthL (setR old.cells off y.cells) = (setR old.cells off y.cells).length * 1 := D.widthL_const (fun z hzz => by
              have := hag z hzz
              cases z <;> first | rfl | simp [D.isAgg] at this)
            show D.widthL (setR old.cells off y.cells) = sz
            rw [hw1, setR_eq _ _ _ q2]
            simp only [List.length_append, List.length_take, List.length_drop]
            omega
          obtain ⟨cur, k1, k2, k3⟩ := row_set r1 hrow hL hx hwid (seg := (a.eval x).cells.toList) (off := off) (fun us hus => by
            have ho := holdc us hus
            have hag := set_cells old.cells off y.cells (P := fun c => c.isAgg = false) ho.2 hz.2.1 q2
            have hrep := repL_setR (L := L) (ho.1.vals ho.2) (hz.1.vals hz.2.1) (off := off) (by simpa using q2)
            rw [← map_setR _ _ _ _ q2] at hrep
            unfold D.Rep
            exact ⟨Val.RepL.data hrep hag, hag⟩) (by omega) hone
          have hst := run_storeVar (v := a.eval x) hd (o := i * sz + off) k1 (by omega) (by omega) hone
          rw [Array.length_toList] at k3
          exact fin _ _ _ _ _ e1 hst k3 h8
      · exact (fail_run h5).elim
    · exact (fail_run h5).elim
  · exact (fail_run h3).elim
end
end Go.Ab
