/- The operations, one by one: what the evaluator tells is what the machine does. Fourth part: rows as data, rows that are made and grow. No condition. -/
import Derived.Great.BuildSlice
import Derived.Test.YtjhganbjbiihoaaDoorClauses0
import Derived.Test.YtjhganbjbiihoaaDoorClauses1
import Derived.Test.YtjhganbjbiihoaaDoorClauses2
import Derived.Test.YtjhganbjbiihoaaDoorClauses3
import Derived.Test.YtjhganbjbiihoaaDoorClauses4
set_option linter.unusedVariables false
set_option linter.unusedSimpArgs false
namespace Go.Ab
open Go

section
variable {X : Cx} {E : Ev} {C : Caller}

theorem widths_take {sz : Nat} {xs : List D} (h : ∀ x ∈ xs, x.width = sz) (l : Option Nat) : (∀ x ∈ takeL l xs, x.width = sz) ∧ ∀ x ∈ dropL l xs, x.width = sz := by
  cases l with
  | none => exact ⟨h, by simp [dropL]⟩
  | some n => exact ⟨fun x hx => h x (List.mem_of_mem_take hx), fun x hx => h x (List.mem_of_mem_drop hx)⟩
theorem takeL_dropL (l : Option Nat) (xs : List D) : takeL l xs ++ dropL l xs = xs := by
  cases l with
  | none => simp [takeL, dropL]
  | some n => exact List.take_append_drop n xs
/-- A row that nobody writes, as data. -/
theorem frozen_rep {H : Fz} {L : Vl} {w : World} {t : Tok} {nl : Bool} {e : TypeId} {sz : Nat} {xs : List D} (h : EntInv X H L w t (.row false nl e sz xs)) {l : Option Nat} {v : Value} (hv : (Val.ref t l).Rep H L v) (hl : ∀ n, l = some n → n ≤ xs.length) :
    D.Rep H (.sl sz nl (takeL l xs) (dropL l xs)) [v] := by
  obtain ⟨v0, cells, h1, h2, h3, h4, h5, h6⟩ := h
  have hwd := widths_take h4 l
  have hlen : (takeL l xs).length + (dropL l xs).length = xs.length := by rw [← List.length_append, takeL_dropL]
  rcases h2.2 with ⟨e0, e1⟩ | ⟨g, cap, cur, e0, _, e2, e3, e4, e5, e6⟩
  · -- nil
    have hnl : nl = true := h5.2 e0
    have hx : xs = [] := List.eq_nil_of_length_eq_zero e1
    subst hx
    unfold D.Rep
    refine .inl ⟨hnl, by cases l <;> simp [takeL], by cases l <;> simp [dropL], ?_⟩
    cases l with
    | none =>
      unfold Val.Rep at hv
      rw [h1] at hv
      cases hv.1
      rw [e0]
    | some n =>
      unfold Val.Rep at hv
      obtain ⟨A, m, c, g1, g2, g3⟩ := hv
      rw [h1, e0] at g1
      have := hl n rfl
      simp only [Option.some.injEq, Value.slice.injEq] at g1
      obtain ⟨rfl, rfl, rfl⟩ := g1
      have : n = 0 := by simpa using hl n rfl
      subst this
      rw [g2]
  · have hnl : nl = false := by
      cases nl with
      | false => rfl
      | true => have := h5.1 rfl; rw [e0] at this; simp at this
    have hb := h6 g (by rw [e0]; rfl)
    simp only [Bool.false_eq_true, if_false] at hb
    have hv' : v = .slice (some ⟨g, 0, none⟩) (takeL l xs).length cap := by
      cases l with
      | none =>
        unfold Val.Rep at hv
        rw [h1] at hv
        cases hv.1
        rw [e0]; rfl
      | some n =>
        unfold Val.Rep at hv
        obtain ⟨A, m, c, g1, g2, g3⟩ := hv
        rw [h1, e0] at g1
        simp only [Option.some.injEq, Value.slice.injEq] at g1
        obtain ⟨rfl, rfl, rfl⟩ := g1
        rw [g2]
        simp only [takeL, List.length_take, Nat.min_eq_left (hl n rfl)]
    rw [← takeL_dropL l xs] at h3
    obtain ⟨c1, c2, rfl, h7, h8⟩ := D.RepL.split h3
    unfold D.Rep
    refine .inr ⟨hnl, ⟨g, 0, none⟩, cap, c1, c2, by rw [hv'], by omega, e4, ?_, h7, h8, hwd.1, hwd.2⟩
    intro j u hj
    unfold cellH
    have hadd : (⟨g, 0, none⟩ : Addr).add j = ⟨g, j, none⟩ := by unfold Addr.add; split <;> simp_all
    rw [hadd]
    simp only [hb, e2]
    rw [← e6] at hj
    have hj1 := (List.getElem?_eq_some_iff.1 hj).1
    rw [List.getElem?_take, if_pos (by simp at hj1; omega)] at hj
    simpa using hj

/-- A later state: what was told of rows and variables holds, but for what is never written any more. -/
structure Ext (σ σ' : St) : Prop where
  row1 : ∀ t nl e sz xs, σ.getT t = .row true nl e sz xs → ∃ m, σ'.getT t = .row m nl e sz xs
  row0 : ∀ t nl e sz xs, σ.getT t = .row false nl e sz xs → σ'.getT t = .row false nl e sz xs
  dbox : ∀ t ty cells, σ.getT t = .dbox ty cells → σ'.getT t = .dbox ty cells
  box : ∀ t ty cells, σ.getT t = .box ty cells → σ'.getT t = .box ty cells ∨ ∃ ty' ds, σ'.getT t = .dbox ty' ds
theorem Ext.refl (σ : St) : Ext σ σ := ⟨fun _ _ _ _ _ h => ⟨true, h⟩, fun _ _ _ _ _ h => h, fun _ _ _ h => h, fun _ _ _ h => .inl h⟩
theorem Ext.trans {σ σ' σ'' : St} (h : Ext σ σ') (h' : Ext σ' σ'') : Ext σ σ'' := ⟨fun t nl e sz xs ht => by
    obtain ⟨m, hm⟩ := h.row1 t nl e sz xs ht
    cases m with
    | true => exact h'.row1 _ _ _ _ _ hm
    | false => exact ⟨false, h'.row0 _ _ _ _ _ hm⟩, fun t nl e sz xs ht => h'.row0 _ _ _ _ _ (h.row0 _ _ _ _ _ ht), fun t ty cells ht => h'.dbox _ _ _ (h.dbox _ _ _ ht), fun t ty cells ht => by
    rcases h.box t ty cells ht with h1 | ⟨ty', ds, h1⟩
    · exact h'.box _ _ _ h1
    · exact .inr ⟨ty', ds, h'.dbox _ _ _ h1⟩⟩
theorem Ext.freeze {σ : St} {t : Tok} {nl : Bool} {e : TypeId} {sz : Nat} {xs : List D} (ht : σ.getT t = .row true nl e sz xs) : Ext σ (σ.putT t (.row false nl e sz xs)) := ⟨fun u nl' e' sz' xs' hu => by
    rw [St.getT_putT]
    by_cases h : t = u
    · subst h; rw [if_pos rfl]; rw [ht] at hu; cases hu; exact ⟨false, rfl⟩
    · rw [if_neg h]; exact ⟨true, hu⟩, fun u nl' e' sz' xs' hu => by
    rw [St.getT_putT]
    by_cases h : t = u
    · subst h; rw [ht] at hu; cases hu
    · rw [if_neg h]; exact hu, fun u ty cells hu => by
    rw [St.getT_putT]
    by_cases h : t = u
    · subst h; rw [ht] at hu; cases hu
    · rw [if_neg h]; exact hu, fun u ty cells hu => by
    rw [St.getT_putT]
    by_cases h : t = u
    · subst h; rw [ht] at hu; cases hu
    · rw [if_neg h]; exact .inl hu⟩
theorem ref_le {H : Fz} {L : Vl} {w : World} {t : Tok} {m nl : Bool} {e : TypeId} {sz : Nat} {xs : List D} (h : EntInv X H L w t (.row m nl e sz xs)) {l : Option Nat} {v : Value} (hv : (Val.ref t l).Rep H L v) : ∀ n, l = some n → n ≤ xs.length := by
  intro n hn
  subst hn
  obtain ⟨v0, cells, h1, h2, _⟩ := h
  unfold Val.Rep at hv
  obtain ⟨A, m, c, g1, g2, g3⟩ := hv
  rw [h1] at g1
  cases g1
  rcases h2.2 with ⟨e0, e1⟩ | ⟨g, cap, cur, e0, _⟩
  · simp at e0; omega
  · simp at e0; omega
/-- A row and what is told of it when nobody writes it any more. -/
theorem freeze_ref {H : Fz} {L : Vl} {a : Act} {w : World} {σ : St} {t : Tok} {nl : Bool} {e : TypeId} {sz : Nat} {xs : List D} (r : Rel X H L σ a w) (hrow : σ.getT t = .row true nl e sz xs) {l : Option Nat} {u : Value} (hv : (Val.ref t l).Rep H L u) :
    ∃ H1, H.le H1 ∧ Rel X H1 L (σ.putT t (.row false nl e sz xs)) a w ∧ D.Rep H1 (.sl sz nl (takeL l xs) (dropL l xs)) [u] := by
  have he := r.ents t
  rw [hrow] at he
  have hl := ref_le he hv
  obtain ⟨H1, h1, h2⟩ := r.freeze hrow
  have he1 := h2.ents t
  rw [St.getT_putT, if_pos rfl] at he1
  exact ⟨H1, h1, h2, frozen_rep he1 (Val.Rep.le h1 (Vl.le_refl L) _ _ hv) hl⟩
mutual
theorem freeze_run {H : Fz} {L : Vl} {a : Act} {w : World} {σ' : St} : ∀ (v : Val) {K : D → Prog} {σ : St} {H : Fz} {u : Value}, Rel X H L σ a w → v.Rep H L u → (freeze v K).run C σ = some σ' →
    ∃ x H1 σ1, (K x).run C σ1 = some σ' ∧ H.le H1 ∧ Rel X H1 L σ1 a w ∧ x.RepV H1 u ∧ (v.isCell = true → x.isAgg = false) ∧ Ext σ σ1
  | .dead, _, _, _, _, _, _, h => by unfold freeze at h; exact (fail_run h).elim
  | .und, _, _, _, _, _, _, h => by unfold freeze at h; exact (fail_run h).elim
  | .cell, _, _, _, _, _, _, h => by unfold freeze at h; exact (fail_run h).elim
  | .d x, K, σ, H, u, r, hv, h => by
    unfold freeze at h
    unfold Val.Rep at hv
    exact ⟨x, H, σ, h, Fz.le_refl H, r, hv, fun hc => by simpa [Val.isCell] using hc, Ext.refl σ⟩
  | .ref t l, K, σ, H, u, r, hv, h => by
    unfold freeze at h
    simp only [Prog.run] at h
    split at h
    · rename_i nl e sz xs hrow
      obtain ⟨H1, h1, h2, h3⟩ := freeze_ref r hrow hv
      exact ⟨_, H1, _, h, h1, h2, h3, fun _ => rfl, Ext.freeze hrow⟩
    · rename_i nl e sz xs hrow
      have he := r.ents t
      rw [hrow] at he
      exact ⟨_, H, σ, h, Fz.le_refl H, r, frozen_rep he hv (ref_le he hv), fun _ => rfl, Ext.refl σ⟩
    · exact (fail_run h).elim
  | .ptr _ _, _, _, _, _, _, _, h => by unfold freeze at h; exact (fail_run h).elim
  | .eptr _ _ _ _, _, _, _, _, _, _, h => by unfold freeze at h; exact (fail_run h).elim
  | .tail _ _ _, _, _, _, _, _, _, h => by unfold freeze at h; exact (fail_run h).elim
  | .dptr _, _, _, _, _, _, _, h => by unfold freeze at h; exact (fail_run h).elim
  | .fn f caps, K, σ, H, u, r, hv, h => by
    cases caps with
    | nil =>
      unfold freeze at h
      unfold Val.Rep at hv
      obtain ⟨arr, h1, h2⟩ := hv
      unfold Val.RepL at h2
      have : arr = #[] := by simpa using h2
      subst this
      exact ⟨.fn f, H, σ, h, Fz.le_refl H, r, by simp [D.RepV, D.Rep, h1], fun _ => rfl, Ext.refl σ⟩
    | cons c cs => unfold freeze at h; exact (fail_run h).elim
  | .agg cs, K, σ, H, u, r, hv, h => by
    unfold freeze at h
    unfold Val.Rep at hv
    obtain ⟨arr, h1, h2, h3⟩ := hv
    obtain ⟨xs, H1, σ1, g1, g2, g3, g4, g5, g6⟩ := freezeL_run cs r h2 h3 h
    refine ⟨.agg xs, H1, σ1, g1, g2, g3, ⟨arr, h1, ?_⟩, fun hc => by simp [Val.isCell] at hc, g6⟩
    unfold D.Rep
    exact ⟨g4, g5⟩
  | .tup _, _, _, _, _, _, _, h => by unfold freeze at h; exact (fail_run h).elim
theorem freezeL_run {L : Vl} {a : Act} {w : World} {σ' : St} : ∀ (vs : List Val) {K : List D → Prog} {σ : St} {H : Fz} {us : List Value}, Rel X H L σ a w → Val.RepL H L vs us → (∀ v ∈ vs, v.isCell = true) → (freezeL vs K).run C σ = some σ' →
    ∃ xs H1 σ1, (K xs).run C σ1 = some σ' ∧ H.le H1 ∧ Rel X H1 L σ1 a w ∧ D.RepL H1 xs us ∧ (∀ x ∈ xs, x.isAgg = false) ∧ Ext σ σ1
  | [], K, σ, H, us, r, hv, hc, h => by
    unfold freezeL at h
    unfold Val.RepL at hv
    subst hv
    exact ⟨[], H, σ, h, Fz.le_refl H, r, by unfold D.RepL; rfl, by simp, Ext.refl σ⟩
  | v :: vs, K, σ, H, us, r, hv, hc, h => by
    unfold freezeL at h
    unfold Val.RepL at hv
    obtain ⟨u, us', rfl, h1, h2⟩ := hv
    obtain ⟨x, H1, σ1, g1, g2, g3, g4, g5, g6⟩ := freeze_run (H := H) v r h1 h
    obtain ⟨xs, H2, σ2, k1, k2, k3, k4, k5, k6⟩ := freezeL_run vs g3 (Val.RepL.le g2 (Vl.le_refl L) _ _ h2) (fun v' hv' => hc v' (by simp [hv'])) g1
    have hx := g5 (hc v (by simp))
    refine ⟨x :: xs, H2, σ2, k1, Fz.le_trans g2 k2, k3, ?_, fun y hy => ?_, g6.trans k6⟩
    · unfold D.RepL
      refine ⟨[u], us', rfl, ?_, k4⟩
      have := D.RepV.le k2 g4
      cases x <;> first | (simp [D.isAgg] at hx; done) | exact this
    · rcases List.mem_cons.1 hy with rfl | hy
      · exact hx
      · exact k5 y hy
end
/-! ### Slice literals -/
def freezeA : List Val → (List D → Prog) → Prog
  | [], k => k []
  | v :: r, k => freeze v fun x => freezeA r fun xs => k (x :: xs)
def RepVs (H : Fz) : List D → List Value → Prop
  | [], us => us = []
  | x :: xs, us => ∃ u r, us = u :: r ∧ x.RepV H u ∧ RepVs H xs r
theorem RepVs.cells {H : Fz} : ∀ {xs : List D} {us : List Value}, RepVs H xs us → D.RepL H xs (us.flatMap fun v => v.cells.toList)
  | [], us, h => by unfold RepVs at h; subst h; unfold D.RepL; rfl
  | x :: xs, us, h => by
    unfold RepVs at h
    obtain ⟨u, r, rfl, h1, h2⟩ := h
    rw [List.flatMap_cons]
    unfold D.RepL
    exact ⟨_, _, rfl, h1.cells.2.2, RepVs.cells h2⟩
theorem RepVs.len {H : Fz} : ∀ {xs : List D} {us : List Value}, RepVs H xs us → us.length = xs.length
  | [], us, h => by unfold RepVs at h; subst h; rfl
  | x :: xs, us, h => by
    unfold RepVs at h
    obtain ⟨u, r, rfl, h1, h2⟩ := h
    simp [RepVs.len h2]
theorem RepVs.size {H : Fz} {sz : Nat} : ∀ {xs : List D} {us : List Value}, RepVs H xs us → (∀ x ∈ xs, x.width = sz) → ∀ v ∈ us, v.cells.size = sz
  | [], us, h, _, v, hv => by unfold RepVs at h; subst h; simp at hv
  | x :: xs, us, h, hw, v, hv => by
    unfold RepVs at h
    obtain ⟨u, r, rfl, h1, h2⟩ := h
    rcases List.mem_cons.1 hv with rfl | hv
    · have := D.Rep.len _ _ h1.cells.2.2
      rw [hw x (by simp)] at this
      simpa using this
    · exact RepVs.size h2 (fun y hy => hw y (by simp [hy])) v hv
theorem freezeA_run {L : Vl} {a : Act} {w : World} {σ' : St} : ∀ (vs : List Val) {K : List D → Prog} {σ : St} {H : Fz} {us : List Value}, Rel X H L σ a w → Val.RepL H L vs us → (freezeA vs K).run C σ = some σ' →
    ∃ xs H1 σ1, (K xs).run C σ1 = some σ' ∧ H.le H1 ∧ Rel X H1 L σ1 a w ∧ RepVs H1 xs us
  | [], K, σ, H, us, r, hv, h => by
    unfold freezeA at h
    unfold Val.RepL at hv
    subst hv
    exact ⟨[], H, σ, h, Fz.le_refl H, r, by unfold RepVs; rfl⟩
  | v :: vs, K, σ, H, us, r, hv, h => by
    unfold freezeA at h
    unfold Val.RepL at hv
    obtain ⟨u, us', rfl, h1, h2⟩ := hv
    obtain ⟨x, H1, σ1, g1, g2, g3, g4, _⟩ := freeze_run (H := H) v r h1 h
    obtain ⟨xs, H2, σ2, k1, k2, k3, k4⟩ := freezeA_run vs g3 (Val.RepL.le g2 (Vl.le_refl L) _ _ h2) g1
    exact ⟨x :: xs, H2, σ2, k1, Fz.le_trans g2 k2, k3, by unfold RepVs; exact ⟨u, us', rfl, D.RepV.le k2 g4, k4⟩⟩
theorem opnds_run (k : Cxk X E) {H : Fz} {L : Vl} {σ σ' : St} {a : Act} {w : World} (r : Rel X H L σ a w) : ∀ (l : List (TypeId × Operand)) {K : List Val → Prog}, (opnds E.T E.G l K).run C σ = some σ' →
    ∃ vs, (K vs).run C σ = some σ' ∧ Val.RepL H L vs (l.map fun p => a.eval p.2)
  | [], K, h => ⟨[], h, by unfold Val.RepL; rfl⟩
  | (ty, x) :: l, K, h => by
    unfold opnds at h
    obtain ⟨v, h1, h2⟩ := opnd_run k r h
    obtain ⟨vs, h3, h4⟩ := opnds_run k r l h1
    exact ⟨v :: vs, h3, by unfold Val.RepL; exact ⟨_, _, rfl, h2, h4⟩⟩

def bsliceP (E : Ev) (o : Oper) (t : TypeId) (len : Nat) (parts : Array (Nat × Operand)) : Prog :=
  match E.T.get t with
  | some { desc := .slice e, .. } => match E.T.get e with
    | some te => opnds E.T E.G (parts.toList.map fun p => (e, p.2)) fun vs => freezeA vs fun xs =>
        needs [decide (parts.toList.map (·.1) = List.range len), decide (len * te.size ≤ 16777216), xs.all fun x => x.width == te.size]
          (newT (tokD o 0) (.row true false e te.size xs) (putD E o (.ref (tokD o 0) none)))
    | none => .fail
  | _ => .fail
theorem zip_parts {β : Type} : ∀ (l : List (Nat × β)) (n i0 : Nat), l.map (·.1) = (List.range' i0 n) → l = ((l.map (·.2)).zipIdx i0).map fun x => (x.2, x.1)
  | [], _, _, _ => rfl
  | (i, x) :: l, n, i0, h => by
    cases n with
    | zero => simp at h
    | succ n =>
      simp only [List.map_cons, List.range'_succ, List.cons.injEq] at h
      obtain ⟨rfl, h⟩ := h
      simp only [List.map_cons, List.zipIdx_cons]
      rw [← zip_parts l n (i + 1) h]
theorem bsliceP_ok (k : Cxk X E) {o : Oper} {t : TypeId} {len : Nat} {parts : Array (Nat × Operand)} (ho : o.op = .buildSlice t len parts) : OpOk X C o (bsliceP E o t len parts) := by
  intro H L σ a w σ' r h K Q hK
  unfold bsliceP at h
  split at h
  · rename_i e _ _ _ _ ht
    split at h
    · rename_i te hte
      obtain ⟨vs, h1, h2⟩ := opnds_run k r _ h
      obtain ⟨xs, H1, σ1, h3, h4, h5, h6⟩ := freezeA_run vs r h2 h1
      simp only [needs] at h3
      obtain ⟨g1, h3⟩ := need_run h3
      obtain ⟨g2, h3⟩ := need_run h3
      obtain ⟨g3, h3⟩ := need_run h3
      obtain ⟨g5, h9⟩ := newT_run h3
      simp only [decide_eq_true_eq] at g1 g2
      have hw : ∀ x ∈ xs, x.width = te.size := fun x hx => by
        have := List.all_eq_true.1 g3 x hx
        simpa using this
      have hd := k.tab _ _ hte
      obtain ⟨i, hi, hsz, hby, hz⟩ := hd.info
      have e0 : (parts.toList.map fun p => (e, p.2)).map (fun p => a.eval p.2) = parts.toList.map fun p => a.eval p.2 := by simp [List.map_map]
      rw [e0] at h6
      have hlen : (parts.toList.map fun p => a.eval p.2).length = len := by
        have := congrArg List.length g1
        simpa using this
      have hxl : xs.length = len := by rw [← h6.len, hlen]
      have hcells := RepVs.cells h6
      have hvsz := h6.size hw
      have hm : xs.length ≤ maxLen := by
        have := hd.pos
        have h8 : len ≤ len * te.size := Nat.le_mul_of_pos_right _ this
        simp only [maxLen]; omega
      have r1 := row_new (e := e) (cur := ((parts.toList.map fun p => a.eval p.2).flatMap fun v => v.cells.toList).toArray) h5 g5 (by simpa using hcells) hw hm
      rw [hxl] at r1
      have hrun : (Instr.buildSlice t len (parts.map fun (i, x) => (i, a.eval x))).run X.P w = .ok (.slice (some ⟨w.heap.size, 0, none⟩) len len) (w.alloc (.cells ((parts.toList.map fun p => a.eval p.2).flatMap fun v => v.cells.toList).toArray e)) := by
        by_cases hl : len = 0
        · subst hl
          have hp : parts.toList = [] := by
            have h10 := List.eq_nil_of_length_eq_zero hlen
            simpa using h10
          have hp' : parts = #[] := by simpa using hp
          subst hp'
          simp [Instr.buildSlice, run_underlying (k.tab _ _ ht).und, sizeOf, typeInfo, hi, Instr.fill, newRow, Array.range_zero']
        · have hpos : ¬ len * te.size = 0 := by
            have := Nat.mul_pos (Nat.pos_of_ne_zero hl) hd.pos
            omega
          have hf := Go.Great.fill_whole (s := te.size) hd.pos (parts.toList.map fun p => a.eval p.2) ((Array.range (len * te.size)).map (te.zero.val.cells[· % te.zero.val.cells.size]!)) hvsz (by rw [hlen]; simp)
          have hzip := zip_parts (parts.toList.map fun p => (p.1, a.eval p.2)) len 0 (by rw [List.map_map, ← List.range_eq_range']; exact g1)
          have hmm : (parts.toList.map fun p => (p.1, a.eval p.2)).map (·.2) = parts.toList.map fun p => a.eval p.2 := by simp [List.map_map]
          rw [hmm] at hzip
          rw [← hzip] at hf
          exact run_buildSlice w t e len _ _ i te.zero.val (k.tab _ _ ht).und hi hz (by rw [hsz]; simpa using g2) (by rw [hsz]; exact hpos) (by rw [hsz, Array.toList_map]; exact hf)
      refine wp_value (w1 := w.alloc (.cells ((parts.toList.map fun p => a.eval p.2).flatMap fun v => v.cells.toList).toArray e)) ?_ (hK _ _ _ _ (putD_run k r1 ref_rep h9))
      simp only [execOp, ho, Sem.run_bind, hrun, Result.andThen_ok]
      rfl
    · exact (fail_run h).elim
  · exact (fail_run h).elim
end
end Go.Ab

/- The operations, one by one: what the evaluator tells is what the machine does. Fifth part: append, len. No condition. -/
set_option linter.unusedVariables false
set_option linter.unusedSimpArgs false
namespace Go.Ab
open Go

section
variable {X : Cx} {E : Ev} {C : Caller}

/-- What a slice holds, read. -/
def elemsOf (v : Val) (k : Nat → List D → Prog) : Prog :=
  match v with
  | .d (.sl sz _ ys _) => k sz ys
  | .ref t l => .getT t fun e => match e with
    | .row _ _ _ sz xs => k sz (takeL l xs)
    | _ => .fail
  | _ => .fail
theorem ref_val {H : Fz} {L : Vl} {w : World} {t : Tok} {m nl : Bool} {e : TypeId} {sz : Nat} {xs : List D} (h : EntInv X H L w t (.row m nl e sz xs)) {l : Option Nat} {v : Value} (hv : (Val.ref t l).Rep H L v) :
    ∃ cells, w.ownsRow 0 e sz v (takeL l xs).length cells ∧ D.RepL H (takeL l xs) cells ∧ (∀ x ∈ takeL l xs, x.width = sz) ∧ (nl = true → v = .slice none 0 0) ∧ (nl = false → v ≠ .slice none 0 0) ∧ (∀ v0, L t = some v0 → v.ownBlock = v0.ownBlock) := by
  have hl := ref_le h hv
  obtain ⟨v0, cells, h1, h2, h3, h4, h5, h6⟩ := h
  cases l with
  | none =>
    unfold Val.Rep at hv
    rw [h1] at hv
    obtain ⟨hv, _⟩ := hv
    cases hv
    exact ⟨cells, h2, h3, h4, h5.1, fun hn e => (by rw [h5.2 e] at hn; cases hn), fun v1 hv1 => (by rw [h1] at hv1; cases hv1; rfl)⟩
  | some n =>
    have hn := hl n rfl
    unfold Val.Rep at hv
    obtain ⟨A, m', c, g1, g2, g3⟩ := hv
    rw [h1] at g1
    cases g1
    have htl : (takeL (some n) xs).length = n := by simp [takeL, Nat.min_eq_left hn]
    rw [← List.take_append_drop n xs] at h3
    obtain ⟨c1, c2, rfl, k1, k2⟩ := D.RepL.split h3
    refine ⟨c1, ?_, k1, fun x hx => h4 x (List.mem_of_mem_take hx), fun hnl => ?_, fun hnl e => ?_, fun v1 hv1 => by rw [h1] at hv1; cases hv1; subst g2; cases A <;> rfl⟩
    · rw [htl]
      have hc1 : c1.length = n * sz := by
        rw [D.RepL.len _ _ k1, D.widthL_const (sz := sz) (fun x hx => h4 x (List.mem_of_mem_take hx))]
        simp [Nat.min_eq_left hn]
      refine ⟨hc1, ?_⟩
      rcases h2.2 with ⟨e0, e1⟩ | ⟨g, cap, cur, e0, e1, e2, e3, e4, e5, e6⟩
      · simp at e0
        obtain ⟨rfl, rfl, rfl⟩ := e0
        have : n = 0 := by omega
        subst this
        exact .inl ⟨by rw [g2], rfl⟩
      · simp at e0
        obtain ⟨rfl, rfl, rfl⟩ := e0
        refine .inr ⟨g, c, cur, by rw [g2], e1, e2, by omega, e4, e5, ?_⟩
        have : n * sz ≤ xs.length * sz := Nat.mul_le_mul_right _ hn
        have e7 : (cur.toList.take (xs.length * sz)).take (n * sz) = cur.toList.take (n * sz) := by rw [List.take_take, Nat.min_eq_left this]
        rw [← e7, e6, ← hc1]
        exact List.take_left
    · have e0 := h5.1 hnl
      simp at e0
      obtain ⟨rfl, rfl, rfl⟩ := e0
      have : n = 0 := by omega
      subst this
      exact g2
    · rw [g2] at e
      simp at e
      obtain ⟨rfl, rfl, rfl⟩ := e
      rcases h2.2 with ⟨e0, e1⟩ | ⟨g, cap, cur, e0, _⟩
      · rw [h5.2 e0] at hnl; cases hnl
      · simp at e0
theorem own_lies {w : World} {e : TypeId} {sz n : Nat} {A : Option Addr} {c : Nat} {m : Nat} {cells : List Value} (h : w.ownsRow 0 e sz (.slice A m c) n cells) : (A = none ∧ n = 0 ∧ m = 0 ∧ c = 0 ∧ cells = []) ∨ ∃ g, A = some ⟨g, 0, none⟩ ∧ m = n ∧ ∀ j u, cells[j]? = some u → w.cell? ((⟨g, 0, none⟩ : Addr).add j) = some u := by
  rcases h.2 with ⟨e0, e1⟩ | ⟨g, cap, cur, e0, e1, e2, e3, e4, e5, e6⟩
  · simp at e0
    obtain ⟨rfl, rfl, rfl⟩ := e0
    exact .inl ⟨rfl, e1, rfl, rfl, List.eq_nil_of_length_eq_zero (by rw [h.1, e1]; simp)⟩
  · simp at e0
    obtain ⟨rfl, rfl, rfl⟩ := e0
    refine .inr ⟨g, rfl, rfl, fun j u hj => ?_⟩
    have := h.cells (g := g) rfl j u hj
    exact this
/-- The elements that a slice holds lie in memory. -/
theorem elemsOf_run {H : Fz} {L : Vl} {σ σ' : St} {a : Act} {w : World} (r : Rel X H L σ a w) {v : Val} {u : Value} (hv : v.Rep H L u) {K : Nat → List D → Prog} (h : (elemsOf v K).run C σ = some σ') :
    ∃ sz ys A c cells, (K sz ys).run C σ = some σ' ∧ u = .slice A ys.length c ∧ D.RepL H ys cells ∧ (∀ y ∈ ys, y.width = sz) ∧ ((A = none ∧ ys = [] ∧ c = 0) ∨ ∃ ad, A = some ad ∧ ∀ j u, cells[j]? = some u → w.cell? (ad.add j) = some u) := by
  unfold elemsOf at h
  split at h
  · rename_i sz nl ys ext
    unfold Val.Rep at hv
    simp only [D.RepV] at hv
    unfold D.Rep at hv
    rcases hv with ⟨h0, rfl, rfl, h1⟩ | ⟨h0, ad, cap, c1, c2, h1, h2, h3, h4, h5, h6, h7, h8⟩
    · exact ⟨sz, [], none, 0, [], h, by simpa using h1, by unfold D.RepL; rfl, by simp, .inl ⟨rfl, rfl, rfl⟩⟩
    · refine ⟨sz, ys, some ad, cap, c1, h, by simpa using h1, h5, h7, .inr ⟨ad, rfl, fun j u hj => ?_⟩⟩
      have hj1 := (List.getElem?_eq_some_iff.1 hj).1
      exact cellH_sub r.sub (h4 j u (by rw [List.getElem?_append_left hj1]; exact hj))
  · rename_i t l
    simp only [Prog.run] at h
    split at h
    · rename_i m nl e sz xs hrow
      have he := r.ents t
      rw [hrow] at he
      obtain ⟨cells, h1, h2, h3, h4, h5, _⟩ := ref_val he hv
      obtain ⟨A, m', c, hu⟩ : ∃ A m' c, u = .slice A m' c := by
        rcases h1.2 with ⟨e0, _⟩ | ⟨g, cap, cur, e0, _⟩
        · exact ⟨none, 0, 0, e0⟩
        · exact ⟨_, _, _, e0⟩
      subst hu
      rcases own_lies h1 with ⟨rfl, g1, rfl, rfl, rfl⟩ | ⟨g, rfl, rfl, g3⟩
      · have : takeL l xs = [] := List.eq_nil_of_length_eq_zero g1
        exact ⟨sz, _, none, 0, [], h, by rw [g1], by rw [this]; unfold D.RepL; rfl, h3, .inl ⟨rfl, this, rfl⟩⟩
      · exact ⟨sz, _, _, c, cells, h, rfl, h2, h3, .inr ⟨_, rfl, g3⟩⟩
    · exact (fail_run h).elim
  · exact (fail_run h).elim

/-- Onto what is appended: nothing, or a row of the call's own. -/
def appendP (E : Ev) (o : Oper) (s x : Operand) (t1 t2 : TypeId) : Prog :=
  opnd E.T E.G t1 s fun u => opnd E.T E.G t2 x fun v => match E.T.get t1 with
    | some { desc := .slice e, .. } => match E.T.get e with
      | some te => if t1 = t2 then elemsOf v fun sz ys => match u with
        | .d (.sl _ true _ _) => needs [decide (ys.length ≤ 9223372036854775807), decide (ys.length * te.bytes ≤ 140737488355328), sz == te.size || ys.isEmpty]
            (newT (tokD o 0) (.row true ys.isEmpty e te.size ys) (putD E o (.ref (tokD o 0) none)))
        | .ref t l => .getT t fun en => match en with
          | .row true nl e' sz' xs => needs [decide ((takeL l xs).length + ys.length ≤ 9223372036854775807), decide (((takeL l xs).length + ys.length) * te.bytes ≤ 140737488355328), sz == te.size || ys.isEmpty, sz' == te.size, e' == e]
              (.putT t .gone (newT (tokD o 0) (.row true (nl && ys.isEmpty) e te.size (takeL l xs ++ ys)) (putD E o (.ref (tokD o 0) none))))
          | _ => .fail
        | _ => .fail
        else .fail
      | none => .fail
    | _ => .fail
theorem append_run {w : World} {t ty e : TypeId} {td te : TD} (ht : TdOk X.P t td) (hdesc : td.desc = .slice e) (hte : TdOk X.P e te) {u : Value} {n : Nat} {xs news : List Value} (hown : w.ownsRow 0 e te.size u n xs) {A : Option Addr} {m c : Nat} (hlies : (A = none ∧ m = 0 ∧ c = 0 ∧ news = []) ∨ ∃ ad, A = some ad ∧ ∀ j u, news[j]? = some u → w.cell? (ad.add j) = some u)
    (hl : news.length = m * te.size) (h1 : ∀ u ∈ news, u.oneCell' = true) (h63 : n + m ≤ 9223372036854775807) (hb : (n + m) * te.bytes ≤ 140737488355328) :
    ∃ v' w', (Builtin.append_ #[t, t] ty #[u, .slice A m c]).run X.P w = .ok v' w' ∧ w'.ownsRow 0 e te.size v' (n + m) (xs ++ news) ∧ w.grownBy w' u.ownBlock ∧ (v' = .slice none 0 0 ↔ u = .slice none 0 0 ∧ m = 0) ∧ (v'.ownBlock = u.ownBlock ∨ v'.ownBlock = some w.heap.size) := by
  obtain ⟨i, hi, hsz, hby, hz⟩ := hte.info
  have hu : X.P.underlying t = some (.slice e) := hdesc ▸ ht.und
  rcases hlies with ⟨rfl, rfl, rfl, rfl⟩ | ⟨ad, rfl, hc⟩
  · refine ⟨u, w, run_append_owned_none w 0 t ty e i te.size hu hi u n xs hown, by simpa using hown, ⟨rfl, rfl, rfl, Nat.le_refl _, fun _ _ _ => rfl⟩, by simp, .inl rfl⟩
  · exact run_append_own_at w 0 t ty e i te.zero.val te.size te.bytes hu hi hz hsz hby hte.zsz hte.pos u n xs hown ad m c news hl hc h1 (by simp only [maxLen]; omega) hb (Nat.zero_le _)
theorem appendP_ok (k : Cxk X E) {o : Oper} {s x : Operand} {t1 t2 : TypeId} (ho : o.op = .call { callee := .builtin .append, args := #[s, x], argTypes := #[t1, t2] }) : OpOk X C o (appendP E o s x t1 t2) := by
  intro H L σ a w σ' r h K Q hK
  obtain ⟨u, h1, h2⟩ := opnd_run k r h
  obtain ⟨v, h3, h4⟩ := opnd_run k r h1
  split at h3
  case h_2 => exact (fail_run h3).elim
  rename_i e _ _ _ _ ht
  split at h3
  case h_2 => exact (fail_run h3).elim
  rename_i te hte
  split at h3
  case isFalse => exact (fail_run h3).elim
  rename_i htt
  subst htt
  obtain ⟨sz, ys, A, c, cells, h5, e2, h6, h7, h8⟩ := elemsOf_run r h4 h3
  have hd := k.tab _ _ hte
  have hdt := k.tab _ _ ht
  have hex : ∀ v' w', (Builtin.append_ #[t1, t1] o.type #[a.eval s, a.eval x]).run X.P w = .ok v' w' → (execOp a.eval o).run X.P w = .ok (.value v') w' := fun v' w' hr => by
    simp [execOp, ho, resolve, invoke, builtin, hr]
  have h1c : ∀ u ∈ cells, u.oneCell' = true := D.RepL.one _ _ h6
  split at h5
  · rename_i sz0 xs0 ext0
    have e1 := rep_nil h2
    simp only [needs] at h5
    obtain ⟨g1, h5⟩ := need_run h5
    obtain ⟨g2, h5⟩ := need_run h5
    obtain ⟨g3, h5⟩ := need_run h5
    obtain ⟨g5, h9⟩ := newT_run h5
    simp only [decide_eq_true_eq] at g1 g2
    have hw : ∀ y ∈ ys, y.width = te.size := fun y hy => by
      rw [h7 y hy]
      cases ys with
      | nil => simp at hy
      | cons _ _ => simpa using g3
    have hcl : cells.length = ys.length * te.size := by rw [D.RepL.len _ _ h6, D.widthL_const hw]
    obtain ⟨v', w', hr, k1, k2, k3, k4⟩ := append_run (X := X) (w := w) (ty := o.type) hdt rfl hd (World.ownsRow_nil w 0 e te.size) (A := A) (m := ys.length) (c := c) (news := cells)
      (by rcases h8 with ⟨rfl, rfl, rfl⟩ | h8
          · exact .inl ⟨rfl, rfl, rfl, by unfold D.RepL at h6; exact h6⟩
          · exact .inr h8) hcl h1c (by omega) (by simpa using g2)
    have r1 : Rel X H (L.upd (tokD o 0) v') (σ.putT (tokD o 0) (.row true ys.isEmpty e te.size ys)) a w' := by
      refine r.make g5 (fun k hk => k2.block k hk (by simp [Value.ownBlock])) (r.fr.grown k2 (by simp [Value.ownBlock])) ⟨v', cells, upd_same _ _ _, by simpa using k1, h6, hw, ?_, fun b hb => ?_⟩ (fun b hb => ?_)
      · rw [k3]
        cases ys <;> simp
      · have : b = w.heap.size := by
          rcases k4 with k4 | k4
          · rw [hb] at k4; simp [Value.ownBlock] at k4
          · rw [hb] at k4; simpa using k4
        subst this
        exact ⟨Fz.none_new r.sub (Nat.le_refl _), .inl r.fr.size⟩
      · have hb' : v'.ownBlock = some b := by
          cases v' <;> simp [mutBlk] at hb
          rename_i A n c
          cases A <;> simp [mutBlk] at hb
          simp [Value.ownBlock, hb]
        rcases k4 with k4 | k4
        · rw [hb'] at k4; simp [Value.ownBlock] at k4
        · rw [hb'] at k4; simp at k4; omega
    refine wp_value (w1 := w') (v := v') (hex _ _ (by rw [e1, e2]; exact hr)) (hK _ _ _ _ (putD_run k r1 ?_ h9))
    unfold Val.Rep
    refine ⟨upd_same _ _ _, ?_⟩
    rcases k1.2 with ⟨e0, _⟩ | ⟨_, _, _, e0, _⟩ <;> exact ⟨_, _, _, e0⟩
  · rename_i t l
    simp only [Prog.run] at h5
    split at h5
    case h_2 => exact (fail_run h5).elim
    rename_i nl e' sz' xs hrow
    simp only [needs] at h5
    obtain ⟨g1, h5⟩ := need_run h5
    obtain ⟨g2, h5⟩ := need_run h5
    obtain ⟨g3, h5⟩ := need_run h5
    obtain ⟨g4, h5⟩ := need_run h5
    obtain ⟨g6, h5⟩ := need_run h5
    simp only [Prog.run] at h5
    obtain ⟨g5, h9⟩ := newT_run h5
    simp only [decide_eq_true_eq] at g1 g2
    have e4 : sz' = te.size := by simpa using g4
    have e5 : e' = e := by simpa using g6
    subst e4 e5
    have hw : ∀ y ∈ ys, y.width = te.size := fun y hy => by
      rw [h7 y hy]
      cases ys with
      | nil => simp at hy
      | cons _ _ => simpa using g3
    have hcl : cells.length = ys.length * te.size := by rw [D.RepL.len _ _ h6, D.widthL_const hw]
    have he := r.ents t
    rw [hrow] at he
    obtain ⟨own, q1, q2, q3, q4, q5, q6⟩ := ref_val he h2
    obtain ⟨v0, cells0, p1, _, _, _, _, p6⟩ := he
    have hblk := q6 v0 p1
    obtain ⟨v', w', hr, k1, k2, k3, k4⟩ := append_run (X := X) (w := w) (ty := o.type) hdt rfl hd q1 (A := A) (m := ys.length) (c := c) (news := cells)
      (by rcases h8 with ⟨rfl, rfl, rfl⟩ | h8
          · exact .inl ⟨rfl, rfl, rfl, by unfold D.RepL at h6; exact h6⟩
          · exact .inr h8) hcl h1c g1 g2
    have g5' : σ.getT (tokD o 0) = .fresh := by
      rw [St.getT_putT] at g5
      by_cases hq : t = tokD o 0
      · rw [if_pos hq] at g5; cases g5
      · rw [if_neg hq] at g5; exact g5
    have hmine : ∀ b, v0.ownBlock = some b → H b = none ∧ X.Mine b := fun b hb => by simpa using p6 b hb
    have hvb : ∀ b, v'.ownBlock = some b → (v0.ownBlock = some b ∨ b = w.heap.size) := fun b hb => by
      rcases k4 with k4 | k4
      · left; rw [← hblk, ← k4]; exact hb
      · right; rw [hb] at k4; simpa using k4
    have r1 : Rel X H (L.upd (tokD o 0) v') ((σ.putT t .gone).putT (tokD o 0) (.row true (nl && ys.isEmpty) e' te.size (takeL l xs ++ ys))) a w' := by
      refine r.turn g5' hrow p1 (by rw [← hblk]; exact k2) ⟨v', own ++ cells, upd_same _ _ _, by rw [List.length_append]; exact k1, D.RepL.append h6 q2, ?_, ?_, fun b hb => ?_⟩ (fun b hb => ?_)
      · intro y hy
        rcases List.mem_append.1 hy with hy | hy
        · exact q3 y hy
        · exact hw y hy
      · rw [k3]
        cases nl with
        | true => simp only [Bool.true_and, List.isEmpty_iff, q4 rfl, true_and]; cases ys <;> simp
        | false => simp only [Bool.false_and, Bool.false_eq_true, false_iff]; exact fun h => q5 rfl h.1
      · simp only [if_true]
        rcases hvb b hb with hb | hb
        · exact hmine b hb
        · subst hb; exact ⟨Fz.none_new r.sub (Nat.le_refl _), .inl r.fr.size⟩
      · have hb' : v'.ownBlock = some b := by
          cases v' <;> simp [mutBlk] at hb
          rename_i A n c
          cases A <;> simp [mutBlk] at hb
          simp [Value.ownBlock, hb]
        rcases hvb b hb' with hb | hb
        · exact .inl hb
        · exact .inr (by omega)
    refine wp_value (w1 := w') (v := v') (hex _ _ (by rw [e2]; exact hr)) (hK _ _ _ _ (putD_run k r1 ?_ h9))
    unfold Val.Rep
    refine ⟨upd_same _ _ _, ?_⟩
    rcases k1.2 with ⟨e0, _⟩ | ⟨_, _, _, e0, _⟩ <;> exact ⟨_, _, _, e0⟩
  · exact (fail_run h5).elim
end
end Go.Ab
