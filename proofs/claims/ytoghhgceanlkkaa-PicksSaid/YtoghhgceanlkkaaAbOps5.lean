/- The operations, one by one: what the evaluator tells is what the machine does. Fifth part: append, len. No condition. -/
import Derived.Test.YtoghhgceanlkkaaAbOps4
set_option linter.unusedVariables false
set_option linter.unusedSimpArgs false
namespace Go.Ab
open Go

section
variable {X : Cx} {E : Ev} {C : Caller}

/-- What a slice holds, read. -/
def elemsOf (v : Val) (k : Nat → List D → Prog) : Prog :=
  match v with
  | .d (.sl sz _ ys _) => k sz ys
  | .ref t l => .getT t fun e => match e with
    | .row _ _ _ sz xs => k sz (takeL l xs)
    | _ => .fail
  | _ => .fail
theorem ref_val {H : Fz} {L : Vl} {w : World} {t : Tok} {m nl : Bool} {e : TypeId} {sz : Nat} {xs : List D} (h : EntInv X H L w t (.row m nl e sz xs)) {l : Option Nat} {v : Value} (hv : (Val.ref t l).Rep H L v) :
    ∃ cells, w.ownsRow 0 e sz v (takeL l xs).length cells ∧ D.RepL H (takeL l xs) cells ∧ (∀ x ∈ takeL l xs, x.width = sz) ∧ (nl = true → v = .slice none 0 0) ∧ (nl = false → v ≠ .slice none 0 0) ∧ (∀ v0, L t = some v0 → v.ownBlock = v0.ownBlock) := by
  have hl := ref_le h hv
  obtain ⟨v0, cells, h1, h2, h3, h4, h5, h6⟩ := h
  cases l with
  | none =>
    unfold Val.Rep at hv
    rw [h1] at hv
    obtain ⟨hv, _⟩ := hv
    cases hv
    exact ⟨cells, h2, h3, h4, h5.1, fun hn e => (by rw [h5.2 e] at hn; cases hn), fun v1 hv1 => (by rw [h1] at hv1; cases hv1; rfl)⟩
  | some n =>
    have hn := hl n rfl
    unfold Val.Rep at hv
    obtain ⟨A, m', c, g1, g2, g3⟩ := hv
    rw [h1] at g1
    cases g1
    have htl : (takeL (some n) xs).length = n := by simp [takeL, Nat.min_eq_left hn]
    rw [← List.take_append_drop n xs] at h3
    obtain ⟨c1, c2, rfl, k1, k2⟩ := D.RepL.split h3
    refine ⟨c1, ?_, k1, fun x hx => h4 x (List.mem_of_mem_take hx), fun hnl => ?_, fun hnl e => ?_, fun v1 hv1 => by rw [h1] at hv1; cases hv1; subst g2; cases A <;> rfl⟩
    · rw [htl]
      have hc1 : c1.length = n * sz := by
        rw [D.RepL.len _ _ k1, D.widthL_const (sz := sz) (fun x hx => h4 x (List.mem_of_mem_take hx))]
        simp [Nat.min_eq_left hn]
      refine ⟨hc1, ?_⟩
      rcases h2.2 with ⟨e0, e1⟩ | ⟨g, cap, cur, e0, e1, e2, e3, e4, e5, e6⟩
      · simp at e0
        obtain ⟨rfl, rfl, rfl⟩ := e0
        have : n = 0 := by omega
        subst this
        exact .inl ⟨by rw [g2], rfl⟩
      · simp at e0
        obtain ⟨rfl, rfl, rfl⟩ := e0
        refine .inr ⟨g, c, cur, by rw [g2], e1, e2, by omega, e4, e5, ?_⟩
        have : n * sz ≤ xs.length * sz := Nat.mul_le_mul_right _ hn
        have e7 : (cur.toList.take (xs.length * sz)).take (n * sz) = cur.toList.take (n * sz) := by rw [List.take_take, Nat.min_eq_left this]
        rw [← e7, e6, ← hc1]
        exact List.take_left
    · have e0 := h5.1 hnl
      simp at e0
      obtain ⟨rfl, rfl, rfl⟩ := e0
      have : n = 0 := by omega
      subst this
      exact g2
    · rw [g2] at e
      simp at e
      obtain ⟨rfl, rfl, rfl⟩ := e
      rcases h2.2 with ⟨e0, e1⟩ | ⟨g, cap, cur, e0, _⟩
      · rw [h5.2 e0] at hnl; cases hnl
      · simp at e0
theorem own_lies {w : World} {e : TypeId} {sz n : Nat} {A : Option Addr} {c : Nat} {m : Nat} {cells : List Value} (h : w.ownsRow 0 e sz (.slice A m c) n cells) : (A = none ∧ n = 0 ∧ m = 0 ∧ c = 0 ∧ cells = []) ∨ ∃ g, A = some ⟨g, 0, none⟩ ∧ m = n ∧ ∀ j u, cells[j]? = some u → w.cell? ((⟨g, 0, none⟩ : Addr).add j) = some u := by
  rcases h.2 with ⟨e0, e1⟩ | ⟨g, cap, cur, e0, e1, e2, e3, e4, e5, e6⟩
  · simp at e0
    obtain ⟨rfl, rfl, rfl⟩ := e0
    exact .inl ⟨rfl, e1, rfl, rfl, List.eq_nil_of_length_eq_zero (by rw [h.1, e1]; simp)⟩
  · simp at e0
    obtain ⟨rfl, rfl, rfl⟩ := e0
    refine .inr ⟨g, rfl, rfl, fun j u hj => ?_⟩
    have := h.cells (g := g) rfl j u hj
    exact this
/-- The elements that a slice holds lie in memory. -/
theorem elemsOf_run {H : Fz} {L : Vl} {σ σ' : St} {a : Act} {w : World} (r : Rel X H L σ a w) {v : Val} {u : Value} (hv : v.Rep H L u) {K : Nat → List D → Prog} (h : (elemsOf v K).run C σ = some σ') :
    ∃ sz ys A c cells, (K sz ys).run C σ = some σ' ∧ u = .slice A ys.length c ∧ D.RepL H ys cells ∧ (∀ y ∈ ys, y.width = sz) ∧ ((A = none ∧ ys = [] ∧ c = 0) ∨ ∃ ad, A = some ad ∧ ∀ j u, cells[j]? = some u → w.cell? (ad.add j) = some u) := by
  unfold elemsOf at h
  split at h
  · rename_i sz nl ys ext
    unfold Val.Rep at hv
    simp only [D.RepV] at hv
    unfold D.Rep at hv
    rcases hv with ⟨h0, rfl, rfl, h1⟩ | ⟨h0, ad, cap, c1, c2, h1, h2, h3, h4, h5, h6, h7, h8⟩
    · exact ⟨sz, [], none, 0, [], h, by simpa using h1, by unfold D.RepL; rfl, by simp, .inl ⟨rfl, rfl, rfl⟩⟩
    · refine ⟨sz, ys, some ad, cap, c1, h, by simpa using h1, h5, h7, .inr ⟨ad, rfl, fun j u hj => ?_⟩⟩
      have hj1 := (List.getElem?_eq_some_iff.1 hj).1
      exact cellH_sub r.sub (h4 j u (by rw [List.getElem?_append_left hj1]; exact hj))
  · rename_i t l
    simp only [Prog.run] at h
    split at h
    · rename_i m nl e sz xs hrow
      have he := r.ents t
      rw [hrow] at he
      obtain ⟨cells, h1, h2, h3, h4, h5, _⟩ := ref_val he hv
      obtain ⟨A, m', c, hu⟩ : ∃ A m' c, u = .slice A m' c := by
        rcases h1.2 with ⟨e0, _⟩ | ⟨g, cap, cur, e0, _⟩
        · exact ⟨none, 0, 0, e0⟩
        · exact ⟨_, _, _, e0⟩
      subst hu
      rcases own_lies h1 with ⟨rfl, g1, rfl, rfl, rfl⟩ | ⟨g, rfl, rfl, g3⟩
      · have : takeL l xs = [] := List.eq_nil_of_length_eq_zero g1
        exact ⟨sz, _, none, 0, [], h, by rw [g1], by rw [this]; unfold D.RepL; rfl, h3, .inl ⟨rfl, this, rfl⟩⟩
      · exact ⟨sz, _, _, c, cells, h, rfl, h2, h3, .inr ⟨_, rfl, g3⟩⟩
    · exact (fail_run h).elim
  · exact (fail_run h).elim

/-- Onto what is appended: nothing, or a row of the call's own. -/
def appendP (E : Ev) (o : Oper) (s x : Operand) (t1 t2 : TypeId) : Prog :=
  opnd E.T E.G t1 s fun u => opnd E.T E.G t2 x fun v => match E.T.get t1 with
    | some { desc := .slice e, .. } => match E.T.get e with
      | some te => if t1 = t2 then elemsOf v fun sz ys => match u with
        | .d (.sl _ true _ _) => needs [decide (ys.length ≤ 9223372036854775807), decide (ys.length * te.bytes ≤ 140737488355328), sz == te.size || ys.isEmpty]
            (newT (tokD o 0) (.row true ys.isEmpty e te.size ys) (putD E o (.ref (tokD o 0) none)))
        | .ref t l => .getT t fun en => match en with
          | .row true nl e' sz' xs => needs [decide ((takeL l xs).length + ys.length ≤ 9223372036854775807), decide (((takeL l xs).length + ys.length) * te.bytes ≤ 140737488355328), sz == te.size || ys.isEmpty, sz' == te.size, e' == e]
              (.putT t .gone (newT (tokD o 0) (.row true (nl && ys.isEmpty) e te.size (takeL l xs ++ ys)) (putD E o (.ref (tokD o 0) none))))
          | _ => .fail
        | _ => .fail
        else .fail
      | none => .fail
    | _ => .fail
theorem append_run {w : World} {t ty e : TypeId} {td te : TD} (ht : TdOk X.P t td) (hdesc : td.desc = .slice e) (hte : TdOk X.P e te) {u : Value} {n : Nat} {xs news : List Value} (hown : w.ownsRow 0 e te.size u n xs) {A : Option Addr} {m c : Nat} (hlies : (A = none ∧ m = 0 ∧ c = 0 ∧ news = []) ∨ ∃ ad, A = some ad ∧ ∀ j u, news[j]? = some u → w.cell? (ad.add j) = some u)
    (hl : news.length = m * te.size) (h1 : ∀ u ∈ news, u.oneCell' = true) (h63 : n + m ≤ 9223372036854775807) (hb : (n + m) * te.bytes ≤ 140737488355328) :
    ∃ v' w', (Builtin.append_ #[t, t] ty #[u, .slice A m c]).run X.P w = .ok v' w' ∧ w'.ownsRow 0 e te.size v' (n + m) (xs ++ news) ∧ w.grownBy w' u.ownBlock ∧ (v' = .slice none 0 0 ↔ u = .slice none 0 0 ∧ m = 0) ∧ (v'.ownBlock = u.ownBlock ∨ v'.ownBlock = some w.heap.size) := by
  obtain ⟨i, hi, hsz, hby, hz⟩ := hte.info
  have hu : X.P.underlying t = some (.slice e) := hdesc ▸ ht.und
  rcases hlies with ⟨rfl, rfl, rfl, rfl⟩ | ⟨ad, rfl, hc⟩
  · refine ⟨u, w, run_append_owned_none w 0 t ty e i te.size hu hi u n xs hown, by simpa using hown, ⟨rfl, rfl, rfl, Nat.le_refl _, fun _ _ _ => rfl⟩, by simp, .inl rfl⟩
  · exact run_append_own_at w 0 t ty e i te.zero.val te.size te.bytes hu hi hz hsz hby hte.zsz hte.pos u n xs hown ad m c news hl hc h1 (by simp only [maxLen]; omega) hb (Nat.zero_le _)
theorem appendP_ok (k : Cxk X E) {o : Oper} {s x : Operand} {t1 t2 : TypeId} (ho : o.op = .call { callee := .builtin .append, args := #[s, x], argTypes := #[t1, t2] }) : OpOk X C o (appendP E o s x t1 t2) := by
  intro H L σ a w σ' r h K Q hK
  obtain ⟨u, h1, h2⟩ := opnd_run k r h
  obtain ⟨v, h3, h4⟩ := opnd_run k r h1
  split at h3
  case h_2 => exact (fail_run h3).elim
  rename_i e _ _ _ ht
  split at h3
  case h_2 => exact (fail_run h3).elim
  rename_i te hte
  split at h3
  case isFalse => exact (fail_run h3).elim
  rename_i htt
  subst htt
  obtain ⟨sz, ys, A, c, cells, h5, e2, h6, h7, h8⟩ := elemsOf_run r h4 h3
  have hd := k.tab _ _ hte
  have hdt := k.tab _ _ ht
  have hex : ∀ v' w', (Builtin.append_ #[t1, t1] o.type #[a.eval s, a.eval x]).run X.P w = .ok v' w' → (execOp a.eval o).run X.P w = .ok (.value v') w' := fun v' w' hr => by
    simp [execOp, ho, resolve, invoke, builtin, hr]
  have h1c : ∀ u ∈ cells, u.oneCell' = true := D.RepL.one _ _ h6
  split at h5
  · rename_i sz0 xs0 ext0
    have e1 := rep_nil h2
    simp only [needs] at h5
    obtain ⟨g1, h5⟩ := need_run h5
    obtain ⟨g2, h5⟩ := need_run h5
    obtain ⟨g3, h5⟩ := need_run h5
    obtain ⟨g5, h9⟩ := newT_run h5
    simp only [decide_eq_true_eq] at g1 g2
    have hw : ∀ y ∈ ys, y.width = te.size := fun y hy => by
      rw [h7 y hy]
      cases ys with
      | nil => simp at hy
      | cons _ _ => simpa using g3
    have hcl : cells.length = ys.length * te.size := by rw [D.RepL.len _ _ h6, D.widthL_const hw]
    obtain ⟨v', w', hr, k1, k2, k3, k4⟩ := append_run (X := X) (w := w) (ty := o.type) hdt rfl hd (World.ownsRow_nil w 0 e te.size) (A := A) (m := ys.length) (c := c) (news := cells)
      (by rcases h8 with ⟨rfl, rfl, rfl⟩ | h8
          · exact .inl ⟨rfl, rfl, rfl, by unfold D.RepL at h6; exact h6⟩
          · exact .inr h8) hcl h1c (by omega) (by simpa using g2)
    have r1 : Rel X H (L.upd (tokD o 0) v') (σ.putT (tokD o 0) (.row true ys.isEmpty e te.size ys)) a w' := by
      refine r.make g5 (fun k hk => k2.block k hk (by simp [Value.ownBlock])) (r.fr.grown k2 (by simp [Value.ownBlock])) ⟨v', cells, upd_same _ _ _, by simpa using k1, h6, hw, ?_, fun b hb => ?_⟩ (fun b hb => ?_)
      · rw [k3]
        cases ys <;> simp
      · have : b = w.heap.size := by
          rcases k4 with k4 | k4
          · rw [hb] at k4; simp [Value.ownBlock] at k4
          · rw [hb] at k4; simpa using k4
        subst this
        exact ⟨Fz.none_new r.sub (Nat.le_refl _), .inl r.fr.size⟩
      · have hb' : v'.ownBlock = some b := by
          cases v' <;> simp [mutBlk] at hb
          rename_i A n c
          cases A <;> simp [mutBlk] at hb
          simp [Value.ownBlock, hb]
        rcases k4 with k4 | k4
        · rw [hb'] at k4; simp [Value.ownBlock] at k4
        · rw [hb'] at k4; simp at k4; omega
    refine wp_value (w1 := w') (v := v') (hex _ _ (by rw [e1, e2]; exact hr)) (hK _ _ _ _ (putD_run k r1 ?_ h9))
    unfold Val.Rep
    refine ⟨upd_same _ _ _, ?_⟩
    rcases k1.2 with ⟨e0, _⟩ | ⟨_, _, _, e0, _⟩ <;> exact ⟨_, _, _, e0⟩
  · rename_i t l
    simp only [Prog.run] at h5
    split at h5
    case h_2 => exact (fail_run h5).elim
    rename_i nl e' sz' xs hrow
    simp only [needs] at h5
    obtain ⟨g1, h5⟩ := need_run h5
    obtain ⟨g2, h5⟩ := need_run h5
    obtain ⟨g3, h5⟩ := need_run h5
    obtain ⟨g4, h5⟩ := need_run h5
    obtain ⟨g6, h5⟩ := need_run h5
    simp only [Prog.run] at h5
    obtain ⟨g5, h9⟩ := newT_run h5
    simp only [decide_eq_true_eq] at g1 g2
    have e4 : sz' = te.size := by simpa using g4
    have e5 : e' = e := by simpa using g6
    subst e4 e5
    have hw : ∀ y ∈ ys, y.width = te.size := fun y hy => by
      rw [h7 y hy]
      cases ys with
      | nil => simp at hy
      | cons _ _ => simpa using g3
    have hcl : cells.length = ys.length * te.size := by rw [D.RepL.len _ _ h6, D.widthL_const hw]
    have he := r.ents t
    rw [hrow] at he
    obtain ⟨own, q1, q2, q3, q4, q5, q6⟩ := ref_val he h2
    obtain ⟨v0, cells0, p1, _, _, _, _, p6⟩ := he
    have hblk := q6 v0 p1
    obtain ⟨v', w', hr, k1, k2, k3, k4⟩ := append_run (X := X) (w := w) (ty := o.type) hdt rfl hd q1 (A := A) (m := ys.length) (c := c) (news := cells)
      (by rcases h8 with ⟨rfl, rfl, rfl⟩ | h8
          · exact .inl ⟨rfl, rfl, rfl, by unfold D.RepL at h6; exact h6⟩
          · exact .inr h8) hcl h1c g1 g2
    have g5' : σ.getT (tokD o 0) = .fresh := by
      rw [St.getT_putT] at g5
      by_cases hq : t = tokD o 0
      · rw [if_pos hq] at g5; cases g5
      · rw [if_neg hq] at g5; exact g5
    have hmine : ∀ b, v0.ownBlock = some b → H b = none ∧ X.Mine b := fun b hb => by simpa using p6 b hb
    have hvb : ∀ b, v'.ownBlock = some b → (v0.ownBlock = some b ∨ b = w.heap.size) := fun b hb => by
      rcases k4 with k4 | k4
      · left; rw [← hblk, ← k4]; exact hb
      · right; rw [hb] at k4; simpa using k4
    have r1 : Rel X H (L.upd (tokD o 0) v') ((σ.putT t .gone).putT (tokD o 0) (.row true (nl && ys.isEmpty) e' te.size (takeL l xs ++ ys))) a w' := by
      refine r.turn g5' hrow p1 (by rw [← hblk]; exact k2) ⟨v', own ++ cells, upd_same _ _ _, by rw [List.length_append]; exact k1, D.RepL.append h6 q2, ?_, ?_, fun b hb => ?_⟩ (fun b hb => ?_)
      · intro y hy
        rcases List.mem_append.1 hy with hy | hy
        · exact q3 y hy
        · exact hw y hy
      · rw [k3]
        cases nl with
        | true => simp only [Bool.true_and, List.isEmpty_iff, q4 rfl, true_and]; cases ys <;> simp
        | false => simp only [Bool.false_and, Bool.false_eq_true, false_iff]; exact fun h => q5 rfl h.1
      · simp only [if_true]
        rcases hvb b hb with hb | hb
        · exact hmine b hb
        · subst hb; exact ⟨Fz.none_new r.sub (Nat.le_refl _), .inl r.fr.size⟩
      · have hb' : v'.ownBlock = some b := by
          cases v' <;> simp [mutBlk] at hb
          rename_i A n c
          cases A <;> simp [mutBlk] at hb
          simp [Value.ownBlock, hb]
        rcases hvb b hb' with hb | hb
        · exact .inl hb
        · exact .inr (by omega)
    refine wp_value (w1 := w') (v := v') (hex _ _ (by rw [e2]; exact hr)) (hK _ _ _ _ (putD_run k r1 ?_ h9))
    unfold Val.Rep
    refine ⟨upd_same _ _ _, ?_⟩
    rcases k1.2 with ⟨e0, _⟩ | ⟨_, _, _, e0, _⟩ <;> exact ⟨_, _, _, e0⟩
  · exact (fail_run h5).elim
end
end Go.Ab
